/- Own texts laid together. No statement of the seat is proved here. -/
import Derived.Test.YtldppodfhabkjaaGreatDoorZf6
import Derived.Sort.Walk0
import Derived.Lib.Bytealg
import Derived.Lib.SplitLaws
import Derived.Lib.Replace
namespace Go.Proofs.YtldppodfhabkjaaGreatDoor
open Go.RowKit
set_option linter.unusedVariables false
open _root_.Go.Proofs.Tryz
set_option maxRecDepth 100000
set_option maxHeartbeats 4000000
def zB9 (fu : Nat) : Nat -> Int -> zAG -> (List zA4) -> Option (zAG × (List zA4))
 | 0,_,_,_=>none
 | k+1,y12,y13,y14=>
 bif (decide (0<y12)) then (
 cl true (zDP fu y13) fun x18=>
 bif (decide (0<(y14.length:Int))) then (
 cl true (zDz fu x18.2 2) fun x31=>
 bd ((decide (0<(y14.length:Int)))&&x31.1) fun x33=>
 bif x33 then (
 cl true (zBR fu x31.2 (y14.length:Int)) fun x41=>
 ck (inR x41.1 y14.length) <|
 ck (inR 0 ((gtD y14 x41.1).2.2.2).length) <|
 ck (inR 0 x18.1.2.2.2.length) <|
 ck (zBJ (y14.length+([(x18.1.1,x18.1.2.1,x18.1.2.2.1,(x18.1.2.2.2.set (0:Int).toNat (gtD ((gtD y14 x41.1).2.2.2) 0)))]:List zA4).length)) <|
 ck (i64B (y12-1)) <|
 zB9 fu k (y12-1) x41.2 (y14++([(x18.1.1,x18.1.2.1,x18.1.2.2.1,(x18.1.2.2.2.set (0:Int).toNat (gtD ((gtD y14 x41.1).2.2.2) 0)))]:List zA4))
 ) else (
 ck (zBJ (y14.length+([x18.1]:List zA4).length)) <|
 ck (i64B (y12-1)) <|
 zB9 fu k (y12-1) x31.2 (y14++([x18.1]:List zA4))
 )
 ) else (
 ck (zBJ (y14.length+([x18.1]:List zA4).length)) <|
 ck (i64B (y12-1)) <|
 zB9 fu k (y12-1) x18.2 (y14++([x18.1]:List zA4))
 )
 ) else (
 some (y13,y14)
 )
def zDR (fu:Nat) (p0:zAG):Option ((List zA4) × zAG):=
 cl true (zBR fu p0 7) fun x5=>
 cl true (zB9 fu fu x5.1 x5.2 ([]:List zA4)) fun s11=>
 cl true (zDz fu s11.1 16) fun x71=>
 bif x71.1 then (
 cl true (zEx fu x71.2) fun x76=>
 ck (zBJ (s11.2.length+([x76.1]:List zA4).length)) <|
 some ((s11.2++([x76.1]:List zA4)),x76.2)
 ) else (
 some (s11.2,x71.2)
 )
theorem zGs {fu : Nat} {Aq : Av} {p0 : zAG} {r : (List zA4) × zAG} (c : zDR fu p0 = some r) {w : World} {v0 : Value} {b0 B0 : Nat} (d : AvOK Aq w) (h0 : v0=.pointer (some ⟨b0, 0, none⟩)) (hO0 : IniOK [ob (.pointer (some ⟨b0, 0, none⟩)) (.box B0 90 zA1 p0)] Aq w) :
 Calls prog 54 #[v0] w fun e w'=>∃ v,e=.returned v/\(∃ (u0:Value) (A1:Av),GPost (subS Aq (zAB (.pointer (some ⟨b0,0,none⟩)))) (zAB (.pointer (some ⟨b0,0,none⟩))) w [ob (.pointer (some ⟨b0,0,none⟩)) (.box B0 90 zA1 r.2),ob u0 (.vec w.heap.size 51 zA0 r.1)] A1 w'/\(Fact.raw u0).ok v w'):=by
 unfold zDR at c
 obtain ⟨w0,hw0⟩:∃ w0,w0=w:=⟨_,Z⟩
 have j:Ch (zAB (.pointer (some ⟨b0,0,none⟩))) w0 w:=hw0 ▸ Ch.refl _ _
 obtain ⟨A0,hA0e⟩:∃ A0,A0=subS Aq (zAB (.pointer (some ⟨b0,0,none⟩))):=⟨_,Z⟩
 have C:∀ b o,A0 b o->b<w0.heap.size:=fun b o h=>hw0 ▸ d b o (hA0e ▸ h:subS Aq _ b o).1
 have K:∀ b o,A0 b o->¬ (zAB (.pointer (some ⟨b0,0,none⟩))) b:=fun b o h=>(hA0e ▸ h:subS Aq _ b o).2
 have hA00:AvOK A0 w0:=C
 rw [show GPost (subS Aq (zAB (.pointer (some ⟨b0,0,none⟩)))) (zAB (.pointer (some ⟨b0,0,none⟩))) w=GPost A0 (zAB (.pointer (some ⟨b0,0,none⟩))) w0 from by rw [hA0e,hw0]]
 rw [show w.heap.size=w0.heap.size from by rw [hw0]]
 obtain ⟨A,hAe⟩:∃ A,A=Aq:=⟨_,Z⟩
 have B:∀ b o,A0 b o->A b o:=fun b o h=>hAe ▸ (hA0e ▸ h:subS Aq _ b o).1
 replace d:AvOK A w:=hAe ▸ d
 have q:IniOK [ob (.pointer (some ⟨b0,0,none⟩)) (.box B0 90 zA1 p0)] A w:=hAe ▸ hO0
 clear hA0e hO0
 refine zA9 [.tmp 2] func54 ntmps54 (by decide) Z Z (nb Z) ?_
 intro R hR
 replace h0:R 0=.pointer (some ⟨b0,0,none⟩):=(hR 0 _ Z).trans h0
 refine zQT<|zQW (eA::[]) ?_ ?_
 exact op (fun Q U W H D=>zA2 N)<|oz
 intro R w m n p
 replace h0:=k1 n h0
 replace q:=q.fr m
 replace d:=d.fr m.size
 replace j:=j.tr (m.ch noB) fun _ h=>False.elim h
 refine zQV [ob (.pointer (some ⟨b0,0,none⟩)) (.box B0 90 zA1 p0)] (⟨_,true,[],some (.vec w0.heap.size 51 zA0 ([]:List zA4)),true,fun A=>.any⟩::⟨_,true,[1],some (.vec w0.heap.size 51 zA0 ([]:List zA4)),true,fun A=>.any⟩::[]) (ua (ua (UAll.nil))) q d ?_ ?_
 exact rc (OblR.made _ Z Z Z Z fun V Q U O D=>by exact zC0 [] (E:=zA0) N underlying26 sizeOf51 zeroValue51 Z Z Z (Nat.le_trans j.size O.ch.size))<|rc (OblR.took 1 _ _ Z Z Z Z Z fun V Q U O D u X Y J L M=>by exact zAD (L _ _ Z Z Z Z).symm X Y)<|rz
 intro done ρ σ A R w y s
 replace h0:=k1 s.rg h0
 have z1:=s.inivR 0 Z
 obtain ⟨u2,e_u2⟩:∃ u,ρ 2=u:=⟨_,Z⟩
 have h3:=s.ov y 2 1 e_u2
 replace B:=s.lowK B C K (q.geK (⟨.inr (fun k h=>.inr h),N⟩))
 replace j:Ch (zAB (.pointer (some ⟨b0,0,none⟩))) w0 w:=j.tr s.ch (q.geK (⟨.inr (fun k h=>.inr h),N⟩))
 replace q:=s.left y [(0,ob (.pointer (some ⟨b0,0,none⟩)) (.box B0 90 zA1 p0)),(2,ob u2 (.vec w0.heap.size 51 zA0 ([]:List zA4)))] ⟨Z,Z,z1,Z,Z,⟨Z,Z,e_u2,Z,Z,N⟩⟩
 replace d:=s.avok
 refine zQT<|zQT<|SG.of<|SG.textR [ob (.pointer (some ⟨b0,0,none⟩)) (.box B0 90 zA1 p0),ob u2 (.vec w0.heap.size 51 zA0 ([]:List zA4))] (rR (.pointer (some ⟨b0,0,none⟩))::[]) 1 Z Z Z (by kernel_rfl) (by kernel_rfl) (Wf.mk' (by kernel_rfl) (ur (UAll.nil)) (by kernel_rfl) (by kernel_rfl)) q d (N) ?_ ?_
 exact rm h0<|rz
 intro done ρ σ A R w y s
 obtain ⟨h0,h3⟩:=k2 s.rg h0 h3
 have z3:=s.inivR 0 Z
 have z4:=s.inivR 1 Z
 have h7:=s.r y 0 Z
 replace B:=s.lowK B C K (q.geK (⟨.inr (fun k h=>.inr h),⟨.inl Z,N⟩⟩))
 replace j:Ch (zAB (.pointer (some ⟨b0,0,none⟩))) w0 w:=j.tr s.ch (q.geK (⟨.inr (fun k h=>.inr h),⟨.inl Z,N⟩⟩))
 replace q:=s.left y [(0,ob (.pointer (some ⟨b0,0,none⟩)) (.box B0 90 zA1 p0)),(1,ob u2 (.vec w0.heap.size 51 zA0 ([]:List zA4)))] ⟨Z,Z,z3,Z,Z,⟨Z,Z,z4,Z,Z,N⟩⟩
 replace d:=s.avok
 obtain ⟨x5,q6,c⟩:=zA6 c
 have hFz:w0.heap.size<=w.heap.size:=j.size
 refine zQd 8 Z Z Z Z (zBG call82 (zBd (q6 Z) d h7 (q.sub [(0,ob (.pointer (some ⟨b0,0,none⟩)) (.box B0 90 zA1 p0))] ⟨Z,Z,N⟩) Z)) ?_
 rintro v_ w ⟨A,hG1,hv⟩ R n hd
 have hst:=zBA d hG1 (q.ok 0 _ Z).2
 replace B:∀ b o,A0 b o->A b o:=zB5 B C K (q.geK (⟨.inr (fun k h=>.inr h),⟨.inl Z,N⟩⟩)) 0 Z hG1
 replace j:Ch (zAB (.pointer (some ⟨b0,0,none⟩))) w0 w:=j.tr hG1.ch (fun k hk=>(q.geK (⟨.inr (fun k h=>.inr h),⟨.inl Z,N⟩⟩)) k ⟨0,_,Z,hk⟩)
 replace q:=zQL q d 0 Z hG1
 replace d:=hG1.avok
 replace q:IniOK [ob (.pointer (some ⟨b0,0,none⟩)) (.box B0 90 zA1 x5.2),ob u2 (.vec w0.heap.size 51 zA0 ([]:List zA4))] A w:=q
 replace h0:=(n 0 Z).trans h0
 replace h3:=(n 3 Z).trans h3
 replace h7:=(n 7 Z).trans h7
 have h8:R 8=.int .i64 x5.1:=hd.trans hv
 clear hFz hG1 hv n hd
 refine SG.textR [ob (.pointer (some ⟨b0,0,none⟩)) (.box B0 90 zA1 x5.2),ob u2 (.vec w0.heap.size 51 zA0 ([]:List zA4))] (rR (.pointer (some ⟨b0,0,none⟩))::rI x5.1::rI x5.1::[]) 3 Z Z Z (by kernel_rfl) (by kernel_rfl) (Wf.mk' (by kernel_rfl) (ur (ur (ur (UAll.nil)))) (by kernel_rfl) (by kernel_rfl)) q d (⟨⟨Z,Z,Z,h7⟩,⟨⟨Z,Z,Z,h8⟩,N⟩⟩) ?_ ?_
 exact ra<|rz
 intro done ρ σ A R w y s
 obtain ⟨h0,h3⟩:=k2 s.rg h0 h3
 have z7:=s.inivR 0 Z
 have z8:=s.inivR 1 Z
 have h4:=s.r y 2 Z
 replace B:=s.lowK B C K (q.geK (⟨.inr (fun k h=>.inr h),⟨.inl Z,N⟩⟩))
 replace j:Ch (zAB (.pointer (some ⟨b0,0,none⟩))) w0 w:=j.tr s.ch (q.geK (⟨.inr (fun k h=>.inr h),⟨.inl Z,N⟩⟩))
 replace q:=s.left y [(0,ob (.pointer (some ⟨b0,0,none⟩)) (.box B0 90 zA1 x5.2)),(1,ob u2 (.vec w0.heap.size 51 zA0 ([]:List zA4)))] ⟨Z,Z,z7,Z,Z,⟨Z,Z,z8,Z,Z,N⟩⟩
 replace d:=s.avok
 refine zQc Z ?_
 obtain ⟨rl9,q10,c⟩:=zA6 c
 replace q10:=q10 Z
 refine zQO (fun R w=>∃ A:Av,∃ (s11:zAG × (List zA4)) (uo_u2:Value),rl9=s11/\AvOK A w/\Ch (zAB (.pointer (some ⟨b0,0,none⟩))) w0 w/\(∀ b o,A0 b o->A b o)/\IniOK [ob (.pointer (some ⟨b0,0,none⟩)) (.box B0 90 zA1 s11.1),ob uo_u2 (.vec w0.heap.size 51 zA0 s11.2)] A w/\R 0=(.pointer (some ⟨b0,0,none⟩))/\R 3=uo_u2) ?_ ?_
 refine HT.block<|zQS (fun k R w=>∃ A:Av,∃ (y12:Int) (y13:zAG) (y14:List zA4) (ul_u2:Value),zB9 fu k y12 y13 y14=some rl9/\AvOK A w/\Ch (zAB (.pointer (some ⟨b0,0,none⟩))) w0 w/\(∀ b o,A0 b o->A b o)/\IniOK [ob (.pointer (some ⟨b0,0,none⟩)) (.box B0 90 zA1 y13),ob ul_u2 (.vec w0.heap.size 51 zA0 y14)] A w/\R 0=(.pointer (some ⟨b0,0,none⟩))/\R 3=ul_u2/\R 4=.int .i64 y12) fu ⟨_,_,_,_,u2,q10,d,j,B,q,h0,h3,h4⟩ ?_
 have hr0:=c;clear c q10
 rintro k R w ⟨A,y12,y13,y14,ul_u2,c,d,j,B,q,h0,h3,h4⟩
 rcases k with _ | k
 cases (show none=some _ from c)
 rw [zB9] at c
 refine zQT<|zQT<|zQW (eI y12::eB (decide (0<y12))::[]) ?_ ?_
 exact om h4<|op (fun Q U W H D=>zDg (D.g 0 Z) Z)<|oz
 intro R w m n p
 obtain ⟨h0,h3,h4⟩:=k3 n h0 h3 h4
 have h10:=p.r 1 Z
 replace q:=q.fr m
 replace d:=d.fr m.size
 replace j:=j.tr (m.ch noB) fun _ h=>False.elim h
 refine zQM (decide (0<y12)) h10 (fun c15=>?_) (fun c15=>?_)
 have c:=zAN c15 c
 refine HT.skip<|zQT<|HT.block<|zQT<|SG.of<|SG.textR [ob (.pointer (some ⟨b0,0,none⟩)) (.box B0 90 zA1 y13),ob ul_u2 (.vec w0.heap.size 51 zA0 y14)] (rR (.pointer (some ⟨b0,0,none⟩))::[]) 1 Z Z Z (by kernel_rfl) (by kernel_rfl) (Wf.mk' (by kernel_rfl) (ur (UAll.nil)) (by kernel_rfl) (by kernel_rfl)) q d (N) ?_ ?_
 exact rm h0<|rz
 intro done ρ σ A R w y s
 obtain ⟨h0,h3,h4⟩:=k3 s.rg h0 h3 h4
 have z16:=s.inivR 0 Z
 have z17:=s.inivR 1 Z
 have h13:=s.r y 0 Z
 replace B:=s.lowK B C K (q.geK (⟨.inr (fun k h=>.inr h),⟨.inl Z,N⟩⟩))
 replace j:Ch (zAB (.pointer (some ⟨b0,0,none⟩))) w0 w:=j.tr s.ch (q.geK (⟨.inr (fun k h=>.inr h),⟨.inl Z,N⟩⟩))
 replace q:=s.left y [(0,ob (.pointer (some ⟨b0,0,none⟩)) (.box B0 90 zA1 y13)),(1,ob ul_u2 (.vec w0.heap.size 51 zA0 y14))] ⟨Z,Z,z16,Z,Z,⟨Z,Z,z17,Z,Z,N⟩⟩
 replace d:=s.avok
 obtain ⟨x18,q19,c⟩:=zA6 c
 have hFz:w0.heap.size<=w.heap.size:=j.size
 refine zQd 14 Z Z Z Z (zBG call83 (zFa (q19 Z) d h13 (q.sub [(0,ob (.pointer (some ⟨b0,0,none⟩)) (.box B0 90 zA1 y13))] ⟨Z,Z,N⟩))) ?_
 rintro v_ w ⟨u20,S21,A,hG1,hv⟩ R n hd
 have hst:=zBA d hG1 (q.ok 0 _ Z).2
 replace B:∀ b o,A0 b o->A b o:=zB5 B C K (q.geK (⟨.inr (fun k h=>.inr h),⟨.inl Z,N⟩⟩)) 0 Z hG1
 replace j:Ch (zAB (.pointer (some ⟨b0,0,none⟩))) w0 w:=j.tr hG1.ch (fun k hk=>(q.geK (⟨.inr (fun k h=>.inr h),⟨.inl Z,N⟩⟩)) k ⟨0,_,Z,hk⟩)
 replace q:=zQL q d 0 Z hG1
 replace d:=hG1.avok
 replace q:=q.reK (K':=geB w0.heap.size) 1 Z (fun k hk=>Nat.le_trans hFz hk)
 replace q:IniOK [ob (.pointer (some ⟨b0,0,none⟩)) (.box B0 90 zA1 x18.2),⟨u20,S21,trR (geB w0.heap.size) (oPr (oRd (eInt .i64)) (oPr (oRd (eInt .i64)) (oPr (oRd (eInt .i64)) (oSl 9 (oRd eStr))))) x18.1 []⟩,ob ul_u2 (.vec w0.heap.size 51 zA0 y14)] A w:=q
 replace h0:=(n 0 Z).trans h0
 replace h3:=(n 3 Z).trans h3
 replace h4:=(n 4 Z).trans h4
 replace h13:=(n 13 Z).trans h13
 have h14:R 14=u20:=hd.trans hv
 clear hFz hG1 hv n hd
 refine SG.textR [ob (.pointer (some ⟨b0,0,none⟩)) (.box B0 90 zA1 x18.2),⟨u20,S21,trR (geB w0.heap.size) (oPr (oRd (eInt .i64)) (oPr (oRd (eInt .i64)) (oPr (oRd (eInt .i64)) (oSl 9 (oRd eStr))))) x18.1 []⟩,ob ul_u2 (.vec w0.heap.size 51 zA0 y14)] (rR (.pointer (some ⟨b0,0,none⟩))::rR u20::⟨_,true,[],some (trR (geB w0.heap.size) (oPt 51 (oPr (oRd (eInt .i64)) (oPr (oRd (eInt .i64)) (oPr (oRd (eInt .i64)) (oSl 9 (oRd eStr)))))) (0,(0,(0,([]:List (List UInt8))))) []),true,fun A=>.any⟩::⟨_,true,[5,1],some (trR (geB w0.heap.size) (oPt 51 (oPr (oRd (eInt .i64)) (oPr (oRd (eInt .i64)) (oPr (oRd (eInt .i64)) (oSl 9 (oRd eStr)))))) x18.1 []),false,fun A=>.any⟩::[]) 4 Z Z Z (by kernel_rfl) (by kernel_rfl) (Wf.mk' (by kernel_rfl) (ur (ur (ua (ua (UAll.nil))))) (by kernel_rfl) (by kernel_rfl)) q d (⟨⟨Z,Z,Z,h13⟩,⟨⟨Z,Z,Z,h14⟩,N⟩⟩) ?_ ?_
 exact rc (zQZ _ Z Z Z Z fun V Q U O D=>by exact zG6 zeroValue51 (fun A w=>zGJ (zFQ zBk) (zGJ (zFQ zBk) (zGJ (zFQ zBk) zI0))) (fun k hk=>Nat.le_trans (Nat.le_trans j.size O.ch.size) hk))<|rc (zQa 5 [1] _ Z Z Z Z fun V Q U O D ρ σ X Y J L M hdd=>by have a1:Q 14=u20:=D.g 1 Z;have k1:=X 5 (.head _) _ Z;exact zHV Z (zD1 k1.2.2).ptr (X 1 (.tail _ (.head _)) _ Z).2.2.1 (a1.trans (J 1 (.tail _ (.head _)) _ Z).1.symm) (L 5 (.head _) _ _ Z Z Z Z).symm Y hdd k1.2.1 (X 1 (.tail _ (.head _)) _ Z).2.1 sizeOf51 (fun _ _ _ h=>h))<|rz
 intro done ρ σ A R w y s
 obtain ⟨h0,h3,h4⟩:=k3 s.rg h0 h3 h4
 have z22:=s.inivR 0 Z
 have z23:=s.inivR 2 Z
 obtain ⟨u24,e_u24⟩:∃ u,ρ 6=u:=⟨_,Z⟩
 have z25:=(s.opnR y 6 3 Z Z Z Z Z).symm.trans e_u24
 have h5:=s.ov y 5 2 z25
 obtain ⟨S26,eS_u24⟩:∃ S,σ 6=S:=⟨_,Z⟩
 replace B:=s.lowK B C K (q.geK (⟨.inr (fun k h=>.inr h),⟨fun _ h=>.inl h,⟨.inl Z,N⟩⟩⟩))
 replace j:Ch (zAB (.pointer (some ⟨b0,0,none⟩))) w0 w:=j.tr s.ch (q.geK (⟨.inr (fun k h=>.inr h),⟨fun _ h=>.inl h,⟨.inl Z,N⟩⟩⟩))
 replace q:=s.left y [(0,ob (.pointer (some ⟨b0,0,none⟩)) (.box B0 90 zA1 x18.2)),(2,ob ul_u2 (.vec w0.heap.size 51 zA0 y14)),(6,⟨u24,S26,trR (geB w0.heap.size) (oPt 51 (oPr (oRd (eInt .i64)) (oPr (oRd (eInt .i64)) (oPr (oRd (eInt .i64)) (oSl 9 (oRd eStr)))))) x18.1 []⟩)] ⟨Z,Z,z22,Z,Z,⟨Z,Z,z23,Z,Z,⟨Z,Z,e_u24,eS_u24,Z,N⟩⟩⟩
 replace d:=s.avok
 refine zQc Z ?_
 refine zQT<|zQT<|SG.of<|SG.textR [ob (.pointer (some ⟨b0,0,none⟩)) (.box B0 90 zA1 x18.2),ob ul_u2 (.vec w0.heap.size 51 zA0 y14),⟨u24,S26,trR (geB w0.heap.size) (oPt 51 (oPr (oRd (eInt .i64)) (oPr (oRd (eInt .i64)) (oPr (oRd (eInt .i64)) (oSl 9 (oRd eStr)))))) x18.1 []⟩] (rR ul_u2::rI (y14.length:Int)::rB (decide (0<(y14.length:Int)))::rB (decide (0<(y14.length:Int)))::[]) 4 Z Z Z (by kernel_rfl) (by kernel_rfl) (Wf.mk' (by kernel_rfl) (ur (ur (ur (ur (UAll.nil))))) (by kernel_rfl) (by kernel_rfl)) q d (N) ?_ ?_
 exact rm h3<|rp (fun V Q U O D=>zBu (q.ok 1 _ Z).1 (D.g 0 Z) underlying26)<|rp (fun V Q U O D=>zDg (D.g 0 Z) Z)<|rv<|rz
 intro done ρ σ A R w y s
 obtain ⟨h0,h3,h4,h5⟩:=k4 s.rg h0 h3 h4 h5
 have z27:=s.inivR 0 Z
 have z28:=s.inivR 1 Z
 have z29:=s.inivR 2 Z
 have eS_u24:=s.inisR 2 Z
 have h18:=s.r y 3 Z
 replace B:=s.lowK B C K (q.geK (⟨.inr (fun k h=>.inr h),⟨.inl Z,⟨fun _ h=>.inl h,N⟩⟩⟩))
 replace j:Ch (zAB (.pointer (some ⟨b0,0,none⟩))) w0 w:=j.tr s.ch (q.geK (⟨.inr (fun k h=>.inr h),⟨.inl Z,⟨fun _ h=>.inl h,N⟩⟩⟩))
 replace q:=s.left y [(0,ob (.pointer (some ⟨b0,0,none⟩)) (.box B0 90 zA1 x18.2)),(1,ob ul_u2 (.vec w0.heap.size 51 zA0 y14)),(2,⟨u24,S26,trR (geB w0.heap.size) (oPt 51 (oPr (oRd (eInt .i64)) (oPr (oRd (eInt .i64)) (oPr (oRd (eInt .i64)) (oSl 9 (oRd eStr)))))) x18.1 []⟩)] ⟨Z,Z,z27,Z,Z,⟨Z,Z,z28,Z,Z,⟨Z,Z,z29,eS_u24,Z,N⟩⟩⟩
 replace d:=s.avok
 rcases Bool.eq_false_or_eq_true (decide (0<(y14.length:Int))) with c30 | c30
 have c:=zAN c30 c
 refine SG.opG 19 3 18 true Z Z Z Z (h18.trans (congrArg Value.bool c30)) Z Z (zBj (f:=.raw ((.pointer (some ⟨b0,0,none⟩)))) (h0:zAH R (.tmp 0)=_)) ?_
 rintro v_ w ⟨hv_,hfr⟩ R n hd
 have hst:=hfr.stp A
 replace j:Ch (zAB (.pointer (some ⟨b0,0,none⟩))) w0 w:=j.tr (hfr.ch noB) fun _ h=>False.elim h
 replace d:=d.fr hfr.size
 replace q:=q.fr hfr
 replace h0:=(n 0 Z).trans h0
 replace h3:=(n 3 Z).trans h3
 replace h4:=(n 4 Z).trans h4
 replace h5:=(n 5 Z).trans h5
 replace h18:=(n 18 Z).trans h18
 have h19:R 19=(.pointer (some ⟨b0,0,none⟩)):=hd.trans hv_
 clear n hd hst hfr hv_
 obtain ⟨x31,q32,c⟩:=zA6 c
 have hFz:w0.heap.size<=w.heap.size:=j.size
 refine SG.opG 20 3 18 true Z Z Z Z (h18.trans (congrArg Value.bool c30)) Z Z (zBG call84 (zGC (q32 Z) d h19 (q.sub [(0,ob (.pointer (some ⟨b0,0,none⟩)) (.box B0 90 zA1 x18.2))] ⟨Z,Z,N⟩) Z)) ?_
 rintro v_ w ⟨A,hG1,hv⟩ R n hd
 have hst:=zBA d hG1 (q.ok 0 _ Z).2
 replace B:∀ b o,A0 b o->A b o:=zB5 B C K (q.geK (⟨.inr (fun k h=>.inr h),⟨.inl Z,⟨fun _ h=>.inl h,N⟩⟩⟩)) 0 Z hG1
 replace j:Ch (zAB (.pointer (some ⟨b0,0,none⟩))) w0 w:=j.tr hG1.ch (fun k hk=>(q.geK (⟨.inr (fun k h=>.inr h),⟨.inl Z,⟨fun _ h=>.inl h,N⟩⟩⟩)) k ⟨0,_,Z,hk⟩)
 replace q:=zQL q d 0 Z hG1
 replace d:=hG1.avok
 replace q:IniOK [ob (.pointer (some ⟨b0,0,none⟩)) (.box B0 90 zA1 x31.2),ob ul_u2 (.vec w0.heap.size 51 zA0 y14),⟨u24,S26,trR (geB w0.heap.size) (oPt 51 (oPr (oRd (eInt .i64)) (oPr (oRd (eInt .i64)) (oPr (oRd (eInt .i64)) (oSl 9 (oRd eStr)))))) x18.1 []⟩] A w:=q
 replace h0:=(n 0 Z).trans h0
 replace h3:=(n 3 Z).trans h3
 replace h4:=(n 4 Z).trans h4
 replace h5:=(n 5 Z).trans h5
 replace h18:=(n 18 Z).trans h18
 replace h19:=(n 19 Z).trans h19
 have h20:R 20=.bool x31.1:=hd.trans hv
 clear hFz hG1 hv n hd
 obtain ⟨x33,q34,c⟩:=zAU c
 refine SG.textR [ob (.pointer (some ⟨b0,0,none⟩)) (.box B0 90 zA1 x31.2),ob ul_u2 (.vec w0.heap.size 51 zA0 y14),⟨u24,S26,trR (geB w0.heap.size) (oPt 51 (oPr (oRd (eInt .i64)) (oPr (oRd (eInt .i64)) (oPr (oRd (eInt .i64)) (oSl 9 (oRd eStr)))))) x18.1 []⟩] (rA::rA::rA::rB (decide (0<(y14.length:Int)))::rR (.pointer (some ⟨b0,0,none⟩))::rB x31.1::rB x33::[]) 7 Z Z Z (by kernel_rfl) (by kernel_rfl) (Wf.mk' (by kernel_rfl) (ua (ua (ua (ur (ur (ur (ur (UAll.nil)))))))) (by kernel_rfl) (by kernel_rfl)) q d (⟨⟨Z,Z,Z,N⟩,⟨⟨Z,Z,Z,N⟩,⟨⟨Z,Z,Z,N⟩,⟨⟨Z,Z,Z,h18⟩,⟨⟨Z,Z,Z,h19⟩,⟨⟨Z,Z,Z,h20⟩,N⟩⟩⟩⟩⟩⟩) ?_ ?_
 exact rp (fun V Q U O D=>zAX (decide (0<(y14.length:Int))) (D.g 0 Z) (fun hc=>by show _=Value.bool x33;rw [q34,hc];exact (D.g 1 Z)) (fun hc=>by show _=Value.bool x33;rw [q34,hc];exact Z))<|rz
 intro done ρ σ A R w y s
 obtain ⟨h0,h3,h4,h5⟩:=k4 s.rg h0 h3 h4 h5
 have z35:=s.inivR 0 Z
 have z36:=s.inivR 1 Z
 have z37:=s.inivR 2 Z
 have eS_u24:=s.inisR 2 Z
 have h21:=s.r y 6 Z
 replace B:=s.lowK B C K (q.geK (⟨.inr (fun k h=>.inr h),⟨.inl Z,⟨fun _ h=>.inl h,N⟩⟩⟩))
 replace j:Ch (zAB (.pointer (some ⟨b0,0,none⟩))) w0 w:=j.tr s.ch (q.geK (⟨.inr (fun k h=>.inr h),⟨.inl Z,⟨fun _ h=>.inl h,N⟩⟩⟩))
 replace q:=s.left y [(0,ob (.pointer (some ⟨b0,0,none⟩)) (.box B0 90 zA1 x31.2)),(1,ob ul_u2 (.vec w0.heap.size 51 zA0 y14)),(2,⟨u24,S26,trR (geB w0.heap.size) (oPt 51 (oPr (oRd (eInt .i64)) (oPr (oRd (eInt .i64)) (oPr (oRd (eInt .i64)) (oSl 9 (oRd eStr)))))) x18.1 []⟩)] ⟨Z,Z,z35,Z,Z,⟨Z,Z,z36,Z,Z,⟨Z,Z,z37,eS_u24,Z,N⟩⟩⟩
 replace d:=s.avok
 refine zQc Z ?_
 refine zQM x33 h21 (fun c38=>?_) (fun c38=>?_)
 have c:=zAN c38 c
 obtain ⟨h39,p_h39⟩:=((((((zD1 (q.own 2 _ Z).2).ptr).snd Z).snd (zDO _ _ _)).snd (zDO _ _ _))).open1 Z
 replace q:IniOK [ob (.pointer (some ⟨b0,0,none⟩)) (.box B0 90 zA1 x31.2),ob ul_u2 (.vec w0.heap.size 51 zA0 y14),⟨u24,S26,trR (geB w0.heap.size) (oPt 51 (oPr (oRd (eInt .i64)) (oPr (oRd (eInt .i64)) (oPr (oRd (eInt .i64)) (oSl 9 (oRd eStr)))))) x18.1 [((padd u24 3),[h39])]⟩] A w:=q.repin 2 Z (trP.pin p_h39)
 obtain ⟨x41,q42,c⟩:=zA6 c
 obtain ⟨e43,e44,e45,c⟩:=ck3 c
 refine zQQ [ob (.pointer (some ⟨b0,0,none⟩)) (.box B0 90 zA1 x31.2),ob ul_u2 (.vec w0.heap.size 51 zA0 y14),⟨u24,S26,trR (geB w0.heap.size) (oPt 51 (oPr (oRd (eInt .i64)) (oPr (oRd (eInt .i64)) (oPr (oRd (eInt .i64)) (oSl 9 (oRd eStr)))))) x18.1 [((padd u24 3),[h39])]⟩] (rR (padd u24 3)::rR h39::rR ul_u2::rR (.pointer (some ⟨b0,0,none⟩))::rR ul_u2::rI (y14.length:Int)::⟨_,true,[0],some (.box B0 90 zA1 x41.2),false,fun A=>.raw (.int .i64 x41.1)⟩::rR (vptr ul_u2 (x41.1.toNat*4))::rR (vptr ul_u2 (x41.1.toNat*4+3))::(rF fun A=>.rep (eSl eStr) A ((gtD y14 x41.1).2.2.2))::(rF fun A=>.qtr eStr A (gtD ((gtD y14 x41.1).2.2.2) 0))::(rF fun A=>.rep eStr A (gtD ((gtD y14 x41.1).2.2.2) 0))::rR (vptr h39 ((0:Int).toNat*1))::⟨_,true,[2],some (trR (geB w0.heap.size) (oPt 51 (oPr (oRd (eInt .i64)) (oPr (oRd (eInt .i64)) (oPr (oRd (eInt .i64)) (oSl 9 (oRd eStr)))))) (x18.1.1,x18.1.2.1,x18.1.2.2.1,(x18.1.2.2.2.set (0:Int).toNat (gtD ((gtD y14 x41.1).2.2.2) 0))) []),false,fun A=>.any⟩::[]) (by kernel_rfl) (by kernel_rfl) (by kernel_rfl) (Wf.mk' (by kernel_rfl) (ur (ur (ur (ur (ur (ur (ur (ur (ur (up (UAll.cons zDl (up (ur (ua (UAll.nil))))))))))))))) (by kernel_rfl) (by kernel_rfl)) q d ?_ ?_
 exact rp (fun V Q U O D=>zD2 ((zD1 (q.own 2 _ Z).2).ptr).ad ((O.old 5 Z).trans h5) zD7 sizeOf34 (by decide) Z)<|rp (fun V Q U O D=>zH4 ((O.rdo 2 _ Z Z).2.2 _ (.head _)) (D.g 0 Z) isAgg34 sizeOf34)<|rm h3<|rm h0<|rm h3<|rp (fun V Q U O D=>zBu (q.ok 1 _ Z).1 (D.g 0 Z) underlying26)<|rc (OblR.took 0 _ _ Z Z Z Z Z fun V Q U O D u X Y J L M=>by have a0:Q 25=(.pointer (some ⟨b0,0,none⟩)):=D.g 0 Z;have a1:Q 27=.int .i64 (y14.length:Int):=D.g 1 Z;have e0:=J _ Z;rw [e0] at X Y ⊢;exact zOb call82 X Y O.av (fun s=>zBd (q42 Z) O.av a0 s a1))<|rp (fun V Q U O D=>zAb (q.ok 1 _ Z).1 (D.g 0 Z) (D.g 1 Z) underlying26 sizeOf51 e43 Z)<|rp (fun V Q U O D=>zEF (O.rd 1 _ Z Z) (zLV e43) (D.g 0 Z) zD7 sizeOf34 (by decide) Z)<|rp (fun V Q U O D=>(zBK (O.rd 1 _ Z Z) (D.g 0 Z) e43 Z zAc Z isAgg34 sizeOf34))<|rp (fun V Q U O D=>zAC (D.g 0 Z) Z underlying34 sizeOf9 e44)<|rp (fun V Q U O D=>(zAT (QRep.ptr (D.g 0 Z)) isAgg9 sizeOf9))<|rp (fun V Q U O D=>zGT (((((((zD1 (q.own 2 _ Z).2).ptr).snd Z).snd (zDO _ _ _)).snd (zDO _ _ _))).pin ((q.own 2 _ Z).2.2 _ (.head _)) Z) (D.g 0 Z) Z underlying34 sizeOf9 e45 Z)<|rc (zQb 2 _ _ Z Z Z Z Z fun V Q U O D u S X I Y J L M=>by have a0:Q 34=(vptr h39 ((0:Int).toNat*1)):=D.g 0 Z;have a1:Rep eStr V U (Q 33) (gtD ((gtD y14 x41.1).2.2.2) 0):=D.g 1 Z;have e0:=(J _ Z).1;rw [e0] at I ⊢;exact zFH ((((((((zD1 I.2).ptr).snd Z).snd (zDO _ _ _)).snd (zDO _ _ _))).pin (I.2.2 _ (.head _)) Z).elem e45 Z) a1 a0 Y I.1 sizeOf9 (fun _ _ _ h=>h))<|rz
 intro done ρ σ A R w y s
 obtain ⟨h0,h3,h4,h5⟩:=k4 s.rg h0 h3 h4 h5
 have z46:=s.inivR 0 Z
 have z47:=s.on y 9 6 Z Z Z Z Z z46
 have z48:=s.inivR 1 Z
 have z49:=s.inivR 2 Z
 have z50:=s.on y 16 13 Z Z Z Z Z z49
 obtain ⟨S51,eS_u24⟩:∃ S,σ 16=S:=⟨_,Z⟩
 replace B:=s.lowK B C K (q.geK (⟨.inr (fun k h=>.inr h),⟨.inl Z,⟨fun _ h=>.inl h,N⟩⟩⟩))
 replace j:Ch (zAB (.pointer (some ⟨b0,0,none⟩))) w0 w:=j.tr s.ch (q.geK (⟨.inr (fun k h=>.inr h),⟨.inl Z,⟨fun _ h=>.inl h,N⟩⟩⟩))
 replace q:=s.left y [(9,ob (.pointer (some ⟨b0,0,none⟩)) (.box B0 90 zA1 x41.2)),(1,ob ul_u2 (.vec w0.heap.size 51 zA0 y14)),(16,⟨u24,S51,trR (geB w0.heap.size) (oPt 51 (oPr (oRd (eInt .i64)) (oPr (oRd (eInt .i64)) (oPr (oRd (eInt .i64)) (oSl 9 (oRd eStr)))))) (x18.1.1,x18.1.2.1,x18.1.2.2.1,(x18.1.2.2.2.set (0:Int).toNat (gtD ((gtD y14 x41.1).2.2.2) 0))) []⟩)] ⟨Z,Z,z47,Z,Z,⟨Z,Z,z48,Z,Z,⟨Z,Z,z50,eS_u24,Z,N⟩⟩⟩
 replace d:=s.avok
 obtain ⟨Yg51,g_Yg51⟩:∃ z:zA4,z=(x18.1.1,x18.1.2.1,x18.1.2.2.1,(x18.1.2.2.2.set (0:Int).toNat (gtD ((gtD y14 x41.1).2.2.2) 0))):=⟨_,Z⟩
 rw [<- g_Yg51] at q
 try rw [<- g_Yg51] at c
 obtain ⟨e53,c⟩:=zA7 c
 refine zQY [ob (.pointer (some ⟨b0,0,none⟩)) (.box B0 90 zA1 x41.2),ob ul_u2 (.vec w0.heap.size 51 zA0 y14),⟨u24,S51,trR (geB w0.heap.size) (oPt 51 (oPr (oRd (eInt .i64)) (oPr (oRd (eInt .i64)) (oPr (oRd (eInt .i64)) (oSl 9 (oRd eStr)))))) Yg51 []⟩] (rR ul_u2::⟨_,true,[2],some (.nul),false,fun A=>.rep zA0 A Yg51⟩::(rF fun A=>.rep (eSl zA0) A ([Yg51]:List zA4))::⟨_,true,[1],some (.vec w0.heap.size 51 zA0 (y14++([Yg51]:List zA4))),true,fun A=>.any⟩::⟨_,true,[6],some (.vec w0.heap.size 51 zA0 (y14++([Yg51]:List zA4))),true,fun A=>.any⟩::[]) (ur (up (up (ua (ua (UAll.nil)))))) q d ?_ ?_
 exact rm h3<|rc (zQb 2 .nul _ Z Z Z Z Z fun V Q U O D u S X I Y J L M=>by have a0:Q 5=u24:=(O.old 5 Z).trans h5;exact zET I.2 (a0.trans (J _ Z).1.symm) Y isAgg51 sizeOf51)<|rp (fun V Q U O D=>zAe [_] (E:=zA0) ⟨(D.g 0 Z),N⟩ underlying26 sizeOf51 zeroValue51 Z Z Z O.av)<|rc (OblR.took 1 _ _ Z Z Z Z Z fun V Q U O D u X Y J L M=>by have a0:Q 35=ul_u2:=D.g 0 Z;have a1:Rep (eSl zA0) V U (Q 37) ([Yg51]:List zA4):=D.g 1 Z;exact zAW (a0.trans (J _ Z).symm) X Y (Nat.le_trans j.size O.ch.size) a1 underlying26 zNt e53)<|rc (OblR.took 6 _ _ Z Z Z Z Z fun V Q U O D u X Y J L M=>by exact zAD (L _ _ Z Z Z Z).symm X Y)<|rz
 intro done ρ σ A R w y s
 obtain ⟨h0,h4⟩:=k2 s.rg h0 h4
 have z54:=s.inivR 0 Z
 obtain ⟨u55,e_u55⟩:∃ u,ρ 7=u:=⟨_,Z⟩
 have h3:=s.ov y 7 4 e_u55
 replace B:=s.lowK B C K (q.geK (⟨.inr (fun k h=>.inr h),⟨.inl Z,⟨fun _ h=>.inl h,N⟩⟩⟩))
 replace j:Ch (zAB (.pointer (some ⟨b0,0,none⟩))) w0 w:=j.tr s.ch (q.geK (⟨.inr (fun k h=>.inr h),⟨.inl Z,⟨fun _ h=>.inl h,N⟩⟩⟩))
 replace q:=s.left y [(0,ob (.pointer (some ⟨b0,0,none⟩)) (.box B0 90 zA1 x41.2)),(7,ob u55 (.vec w0.heap.size 51 zA0 (y14++([Yg51]:List zA4))))] ⟨Z,Z,z54,Z,Z,⟨Z,Z,e_u55,Z,Z,N⟩⟩
 replace d:=s.avok
 obtain ⟨e56,c⟩:=zA7 c
 refine zQW (eI y12::eI (y12-1)::eI (y12-1)::[]) ?_ ?_
 exact om h4<|op (fun Q U W H D=>zFq (D.g 0 Z) Z e56)<|oa<|oz
 intro R w m n p
 obtain ⟨h0,h3⟩:=k2 n h0 h3
 have h4:=p.r 2 Z
 replace q:=q.fr m
 replace d:=d.fr m.size
 replace j:=j.tr (m.ch noB) fun _ h=>False.elim h
 exact ei k (And.intro (Nat.lt_succ_self k) ⟨_,_,_,_,u55,c,d,j,B,q,h0,h3,h4⟩)
 have c:=zAM c38 c
 refine HT.skip ?_
 obtain ⟨e57,c⟩:=zA7 c
 refine zQY [ob (.pointer (some ⟨b0,0,none⟩)) (.box B0 90 zA1 x31.2),ob ul_u2 (.vec w0.heap.size 51 zA0 y14),⟨u24,S26,trR (geB w0.heap.size) (oPt 51 (oPr (oRd (eInt .i64)) (oPr (oRd (eInt .i64)) (oPr (oRd (eInt .i64)) (oSl 9 (oRd eStr)))))) x18.1 []⟩] (rR ul_u2::⟨_,true,[2],some (.nul),false,fun A=>.rep zA0 A x18.1⟩::(rF fun A=>.rep (eSl zA0) A ([x18.1]:List zA4))::⟨_,true,[1],some (.vec w0.heap.size 51 zA0 (y14++([x18.1]:List zA4))),true,fun A=>.any⟩::⟨_,true,[6],some (.vec w0.heap.size 51 zA0 (y14++([x18.1]:List zA4))),true,fun A=>.any⟩::[]) (ur (up (up (ua (ua (UAll.nil)))))) q d ?_ ?_
 exact rm h3<|rc (zQb 2 .nul _ Z Z Z Z Z fun V Q U O D u S X I Y J L M=>by have a0:Q 5=u24:=(O.old 5 Z).trans h5;exact zET I.2 (a0.trans (J _ Z).1.symm) Y isAgg51 sizeOf51)<|rp (fun V Q U O D=>zAe [_] (E:=zA0) ⟨(D.g 0 Z),N⟩ underlying26 sizeOf51 zeroValue51 Z Z Z O.av)<|rc (OblR.took 1 _ _ Z Z Z Z Z fun V Q U O D u X Y J L M=>by have a0:Q 35=ul_u2:=D.g 0 Z;have a1:Rep (eSl zA0) V U (Q 37) ([x18.1]:List zA4):=D.g 1 Z;exact zAW (a0.trans (J _ Z).symm) X Y (Nat.le_trans j.size O.ch.size) a1 underlying26 zNt e57)<|rc (OblR.took 6 _ _ Z Z Z Z Z fun V Q U O D u X Y J L M=>by exact zAD (L _ _ Z Z Z Z).symm X Y)<|rz
 intro done ρ σ A R w y s
 obtain ⟨h0,h4⟩:=k2 s.rg h0 h4
 have z58:=s.inivR 0 Z
 obtain ⟨u59,e_u59⟩:∃ u,ρ 7=u:=⟨_,Z⟩
 have h3:=s.ov y 7 4 e_u59
 replace B:=s.lowK B C K (q.geK (⟨.inr (fun k h=>.inr h),⟨.inl Z,⟨fun _ h=>.inl h,N⟩⟩⟩))
 replace j:Ch (zAB (.pointer (some ⟨b0,0,none⟩))) w0 w:=j.tr s.ch (q.geK (⟨.inr (fun k h=>.inr h),⟨.inl Z,⟨fun _ h=>.inl h,N⟩⟩⟩))
 replace q:=s.left y [(0,ob (.pointer (some ⟨b0,0,none⟩)) (.box B0 90 zA1 x31.2)),(7,ob u59 (.vec w0.heap.size 51 zA0 (y14++([x18.1]:List zA4))))] ⟨Z,Z,z58,Z,Z,⟨Z,Z,e_u59,Z,Z,N⟩⟩
 replace d:=s.avok
 obtain ⟨e60,c⟩:=zA7 c
 refine zQW (eI y12::eI (y12-1)::eI (y12-1)::[]) ?_ ?_
 exact om h4<|op (fun Q U W H D=>zFq (D.g 0 Z) Z e60)<|oa<|oz
 intro R w m n p
 obtain ⟨h0,h3⟩:=k2 n h0 h3
 have h4:=p.r 2 Z
 replace q:=q.fr m
 replace d:=d.fr m.size
 replace j:=j.tr (m.ch noB) fun _ h=>False.elim h
 exact ei k (And.intro (Nat.lt_succ_self k) ⟨_,_,_,_,u59,c,d,j,B,q,h0,h3,h4⟩)
 have c:=zAM c30 c
 refine SG.skip 19 3 18 true Z Z Z Z (h18.trans (congrArg Value.bool c30)) Z Z ?_
 rintro R n hd
 have hst:Stp A A w w:=(Fr.refl w).stp A
 replace h0:=(n 0 Z).trans h0
 replace h3:=(n 3 Z).trans h3
 replace h4:=(n 4 Z).trans h4
 replace h5:=(n 5 Z).trans h5
 replace h18:=(n 18 Z).trans h18
 have h19:R 19=undef:=hd
 clear n hd hst
 refine SG.skip 20 3 18 true Z Z Z Z (h18.trans (congrArg Value.bool c30)) Z Z ?_
 rintro R n hd
 have hst:Stp A A w w:=(Fr.refl w).stp A
 replace h0:=(n 0 Z).trans h0
 replace h3:=(n 3 Z).trans h3
 replace h4:=(n 4 Z).trans h4
 replace h5:=(n 5 Z).trans h5
 replace h18:=(n 18 Z).trans h18
 replace h19:=(n 19 Z).trans h19
 have h20:R 20=undef:=hd
 clear n hd hst
 refine SG.textR [ob (.pointer (some ⟨b0,0,none⟩)) (.box B0 90 zA1 x18.2),ob ul_u2 (.vec w0.heap.size 51 zA0 y14),⟨u24,S26,trR (geB w0.heap.size) (oPt 51 (oPr (oRd (eInt .i64)) (oPr (oRd (eInt .i64)) (oPr (oRd (eInt .i64)) (oSl 9 (oRd eStr)))))) x18.1 []⟩] (rA::rA::rA::rB (decide (0<(y14.length:Int)))::rR undef::rR undef::rB false::[]) 7 Z Z Z (by kernel_rfl) (by kernel_rfl) (Wf.mk' (by kernel_rfl) (ua (ua (ua (ur (ur (ur (ur (UAll.nil)))))))) (by kernel_rfl) (by kernel_rfl)) q d (⟨⟨Z,Z,Z,N⟩,⟨⟨Z,Z,Z,N⟩,⟨⟨Z,Z,Z,N⟩,⟨⟨Z,Z,Z,h18⟩,⟨⟨Z,Z,Z,h19⟩,⟨⟨Z,Z,Z,h20⟩,N⟩⟩⟩⟩⟩⟩) ?_ ?_
 exact rp (fun V Q U O D=>zAX (decide (0<(y14.length:Int))) (D.g 0 Z) (fun hc=>by rw [c30] at hc;cases hc) (fun hc=>Z))<|rz
 intro done ρ σ A R w y s
 obtain ⟨h0,h3,h4,h5⟩:=k4 s.rg h0 h3 h4 h5
 have z61:=s.inivR 0 Z
 have z62:=s.inivR 1 Z
 have z63:=s.inivR 2 Z
 have eS_u24:=s.inisR 2 Z
 have h21:=s.r y 6 Z
 replace B:=s.lowK B C K (q.geK (⟨.inr (fun k h=>.inr h),⟨.inl Z,⟨fun _ h=>.inl h,N⟩⟩⟩))
 replace j:Ch (zAB (.pointer (some ⟨b0,0,none⟩))) w0 w:=j.tr s.ch (q.geK (⟨.inr (fun k h=>.inr h),⟨.inl Z,⟨fun _ h=>.inl h,N⟩⟩⟩))
 replace q:=s.left y [(0,ob (.pointer (some ⟨b0,0,none⟩)) (.box B0 90 zA1 x18.2)),(1,ob ul_u2 (.vec w0.heap.size 51 zA0 y14)),(2,⟨u24,S26,trR (geB w0.heap.size) (oPt 51 (oPr (oRd (eInt .i64)) (oPr (oRd (eInt .i64)) (oPr (oRd (eInt .i64)) (oSl 9 (oRd eStr)))))) x18.1 []⟩)] ⟨Z,Z,z61,Z,Z,⟨Z,Z,z62,Z,Z,⟨Z,Z,z63,eS_u24,Z,N⟩⟩⟩
 replace d:=s.avok
 refine zQc Z ?_
 refine zQM false h21 (fun k_=>(by cases k_)) (fun _=>?_)
 refine HT.skip ?_
 obtain ⟨e65,c⟩:=zA7 c
 refine zQY [ob (.pointer (some ⟨b0,0,none⟩)) (.box B0 90 zA1 x18.2),ob ul_u2 (.vec w0.heap.size 51 zA0 y14),⟨u24,S26,trR (geB w0.heap.size) (oPt 51 (oPr (oRd (eInt .i64)) (oPr (oRd (eInt .i64)) (oPr (oRd (eInt .i64)) (oSl 9 (oRd eStr)))))) x18.1 []⟩] (rR ul_u2::⟨_,true,[2],some (.nul),false,fun A=>.rep zA0 A x18.1⟩::(rF fun A=>.rep (eSl zA0) A ([x18.1]:List zA4))::⟨_,true,[1],some (.vec w0.heap.size 51 zA0 (y14++([x18.1]:List zA4))),true,fun A=>.any⟩::⟨_,true,[6],some (.vec w0.heap.size 51 zA0 (y14++([x18.1]:List zA4))),true,fun A=>.any⟩::[]) (ur (up (up (ua (ua (UAll.nil)))))) q d ?_ ?_
 exact rm h3<|rc (zQb 2 .nul _ Z Z Z Z Z fun V Q U O D u S X I Y J L M=>by have a0:Q 5=u24:=(O.old 5 Z).trans h5;exact zET I.2 (a0.trans (J _ Z).1.symm) Y isAgg51 sizeOf51)<|rp (fun V Q U O D=>zAe [_] (E:=zA0) ⟨(D.g 0 Z),N⟩ underlying26 sizeOf51 zeroValue51 Z Z Z O.av)<|rc (OblR.took 1 _ _ Z Z Z Z Z fun V Q U O D u X Y J L M=>by have a0:Q 35=ul_u2:=D.g 0 Z;have a1:Rep (eSl zA0) V U (Q 37) ([x18.1]:List zA4):=D.g 1 Z;exact zAW (a0.trans (J _ Z).symm) X Y (Nat.le_trans j.size O.ch.size) a1 underlying26 zNt e65)<|rc (OblR.took 6 _ _ Z Z Z Z Z fun V Q U O D u X Y J L M=>by exact zAD (L _ _ Z Z Z Z).symm X Y)<|rz
 intro done ρ σ A R w y s
 obtain ⟨h0,h4⟩:=k2 s.rg h0 h4
 have z66:=s.inivR 0 Z
 obtain ⟨u67,e_u67⟩:∃ u,ρ 7=u:=⟨_,Z⟩
 have h3:=s.ov y 7 4 e_u67
 replace B:=s.lowK B C K (q.geK (⟨.inr (fun k h=>.inr h),⟨.inl Z,⟨fun _ h=>.inl h,N⟩⟩⟩))
 replace j:Ch (zAB (.pointer (some ⟨b0,0,none⟩))) w0 w:=j.tr s.ch (q.geK (⟨.inr (fun k h=>.inr h),⟨.inl Z,⟨fun _ h=>.inl h,N⟩⟩⟩))
 replace q:=s.left y [(0,ob (.pointer (some ⟨b0,0,none⟩)) (.box B0 90 zA1 x18.2)),(7,ob u67 (.vec w0.heap.size 51 zA0 (y14++([x18.1]:List zA4))))] ⟨Z,Z,z66,Z,Z,⟨Z,Z,e_u67,Z,Z,N⟩⟩
 replace d:=s.avok
 obtain ⟨e68,c⟩:=zA7 c
 refine zQW (eI y12::eI (y12-1)::eI (y12-1)::[]) ?_ ?_
 exact om h4<|op (fun Q U W H D=>zFq (D.g 0 Z) Z e68)<|oa<|oz
 intro R w m n p
 obtain ⟨h0,h3⟩:=k2 n h0 h3
 have h4:=p.r 2 Z
 replace q:=q.fr m
 replace d:=d.fr m.size
 replace j:=j.tr (m.ch noB) fun _ h=>False.elim h
 exact ei k (And.intro (Nat.lt_succ_self k) ⟨_,_,_,_,u67,c,d,j,B,q,h0,h3,h4⟩)
 have c:=zAM c15 c
 refine zQR ?_
 obtain rfl:=si c
 exact ei _ ⟨_,ul_u2,Z,d,j,B,q,h0,h3⟩
 rintro R w ⟨A,s11,uo_u2,es,d,j,B,q,h0,h3⟩
 obtain rfl:=es.symm
 refine zQT<|zQT<|SG.of<|SG.textR [ob (.pointer (some ⟨b0,0,none⟩)) (.box B0 90 zA1 s11.1),ob uo_u2 (.vec w0.heap.size 51 zA0 s11.2)] (rR (.pointer (some ⟨b0,0,none⟩))::[]) 1 Z Z Z (by kernel_rfl) (by kernel_rfl) (Wf.mk' (by kernel_rfl) (ur (UAll.nil)) (by kernel_rfl) (by kernel_rfl)) q d (N) ?_ ?_
 exact rm h0<|rz
 intro done ρ σ A R w y s
 obtain ⟨h0,h3⟩:=k2 s.rg h0 h3
 have z69:=s.inivR 0 Z
 have z70:=s.inivR 1 Z
 have h39:=s.r y 0 Z
 replace B:=s.lowK B C K (q.geK (⟨.inr (fun k h=>.inr h),⟨.inl Z,N⟩⟩))
 replace j:Ch (zAB (.pointer (some ⟨b0,0,none⟩))) w0 w:=j.tr s.ch (q.geK (⟨.inr (fun k h=>.inr h),⟨.inl Z,N⟩⟩))
 replace q:=s.left y [(0,ob (.pointer (some ⟨b0,0,none⟩)) (.box B0 90 zA1 s11.1)),(1,ob uo_u2 (.vec w0.heap.size 51 zA0 s11.2))] ⟨Z,Z,z69,Z,Z,⟨Z,Z,z70,Z,Z,N⟩⟩
 replace d:=s.avok
 obtain ⟨x71,q72,c⟩:=zA6 c
 have hFz:w0.heap.size<=w.heap.size:=j.size
 refine zQd 40 Z Z Z Z (zBG call84 (zGC (q72 Z) d h39 (q.sub [(0,ob (.pointer (some ⟨b0,0,none⟩)) (.box B0 90 zA1 s11.1))] ⟨Z,Z,N⟩) Z)) ?_
 rintro v_ w ⟨A,hG1,hv⟩ R n hd
 have hst:=zBA d hG1 (q.ok 0 _ Z).2
 replace B:∀ b o,A0 b o->A b o:=zB5 B C K (q.geK (⟨.inr (fun k h=>.inr h),⟨.inl Z,N⟩⟩)) 0 Z hG1
 replace j:Ch (zAB (.pointer (some ⟨b0,0,none⟩))) w0 w:=j.tr hG1.ch (fun k hk=>(q.geK (⟨.inr (fun k h=>.inr h),⟨.inl Z,N⟩⟩)) k ⟨0,_,Z,hk⟩)
 replace q:=zQL q d 0 Z hG1
 replace d:=hG1.avok
 replace q:IniOK [ob (.pointer (some ⟨b0,0,none⟩)) (.box B0 90 zA1 x71.2),ob uo_u2 (.vec w0.heap.size 51 zA0 s11.2)] A w:=q
 replace h0:=(n 0 Z).trans h0
 replace h3:=(n 3 Z).trans h3
 replace h39:=(n 39 Z).trans h39
 have h40:R 40=.bool x71.1:=hd.trans hv
 clear hFz hG1 hv n hd
 refine zQc Z ?_
 refine zQM x71.1 h40 (fun c73=>?_) (fun c73=>?_)
 have c:=zAN c73 c
 refine SG.of<|SG.textR [ob (.pointer (some ⟨b0,0,none⟩)) (.box B0 90 zA1 x71.2),ob uo_u2 (.vec w0.heap.size 51 zA0 s11.2)] (rR uo_u2::rR (.pointer (some ⟨b0,0,none⟩))::[]) 2 Z Z Z (by kernel_rfl) (by kernel_rfl) (Wf.mk' (by kernel_rfl) (ur (ur (UAll.nil))) (by kernel_rfl) (by kernel_rfl)) q d (N) ?_ ?_
 exact rm h3<|rm h0<|rz
 intro done ρ σ A R w y s
 replace h3:=k1 s.rg h3
 have z74:=s.inivR 0 Z
 have z75:=s.inivR 1 Z
 have h41:=s.r y 0 Z
 have h42:=s.r y 1 Z
 replace B:=s.lowK B C K (q.geK (⟨.inr (fun k h=>.inr h),⟨.inl Z,N⟩⟩))
 replace j:Ch (zAB (.pointer (some ⟨b0,0,none⟩))) w0 w:=j.tr s.ch (q.geK (⟨.inr (fun k h=>.inr h),⟨.inl Z,N⟩⟩))
 replace q:=s.left y [(0,ob (.pointer (some ⟨b0,0,none⟩)) (.box B0 90 zA1 x71.2)),(1,ob uo_u2 (.vec w0.heap.size 51 zA0 s11.2))] ⟨Z,Z,z74,Z,Z,⟨Z,Z,z75,Z,Z,N⟩⟩
 replace d:=s.avok
 obtain ⟨x76,q77,c⟩:=zA6 c
 have hFz:w0.heap.size<=w.heap.size:=j.size
 refine zQd 43 Z Z Z Z (zBG call85 (zIr (q77 Z) d h42 (q.sub [(0,ob (.pointer (some ⟨b0,0,none⟩)) (.box B0 90 zA1 x71.2))] ⟨Z,Z,N⟩))) ?_
 rintro v_ w ⟨A,hG1,hv⟩ R n hd
 have hst:=zBA d hG1 (q.ok 0 _ Z).2
 replace B:∀ b o,A0 b o->A b o:=zB5 B C K (q.geK (⟨.inr (fun k h=>.inr h),⟨.inl Z,N⟩⟩)) 0 Z hG1
 replace j:Ch (zAB (.pointer (some ⟨b0,0,none⟩))) w0 w:=j.tr hG1.ch (fun k hk=>(q.geK (⟨.inr (fun k h=>.inr h),⟨.inl Z,N⟩⟩)) k ⟨0,_,Z,hk⟩)
 replace q:=zQL q d 0 Z hG1
 replace d:=hG1.avok
 replace q:IniOK [ob (.pointer (some ⟨b0,0,none⟩)) (.box B0 90 zA1 x76.2),ob uo_u2 (.vec w0.heap.size 51 zA0 s11.2)] A w:=q
 replace h3:=(n 3 Z).trans h3
 replace h41:=(n 41 Z).trans h41
 replace h42:=(n 42 Z).trans h42
 obtain ⟨u78,h43,f_u78⟩:∃ u,R 43=u/\Rep zA0 A w u x76.1:=⟨_,Z,hd ▸ hv⟩
 clear hFz hG1 hv n hd
 obtain ⟨e79,c⟩:=zA7 c
 refine SG.textR [ob (.pointer (some ⟨b0,0,none⟩)) (.box B0 90 zA1 x76.2),ob uo_u2 (.vec w0.heap.size 51 zA0 s11.2)] (rR uo_u2::rR (.pointer (some ⟨b0,0,none⟩))::rR u78::(rF fun A=>.rep (eSl zA0) A ([x76.1]:List zA4))::⟨_,true,[1],some (.vec w0.heap.size 51 zA0 (s11.2++([x76.1]:List zA4))),true,fun A=>.any⟩::⟨_,true,[6],some (.vec w0.heap.size 51 zA0 (s11.2++([x76.1]:List zA4))),true,fun A=>.any⟩::[]) 6 Z Z Z (by kernel_rfl) (by kernel_rfl) (Wf.mk' (by kernel_rfl) (ur (ur (ur (up (ua (ua (UAll.nil))))))) (by kernel_rfl) (by kernel_rfl)) q d (⟨⟨Z,Z,Z,h41⟩,⟨⟨Z,Z,Z,h42⟩,⟨⟨Z,Z,Z,h43⟩,N⟩⟩⟩) ?_ ?_
 exact rp (fun V Q U O D=>zAe [_] (E:=zA0) ⟨((f_u78.stp O.stp).eq (D.g 0 Z)),N⟩ underlying26 sizeOf51 zeroValue51 Z Z Z O.av)<|rc (OblR.took 1 _ _ Z Z Z Z Z fun V Q U O D u X Y J L M=>by have a0:Q 41=uo_u2:=D.g 0 Z;have a1:Rep (eSl zA0) V U (Q 44) ([x76.1]:List zA4):=D.g 1 Z;exact zAW (a0.trans (J _ Z).symm) X Y (Nat.le_trans j.size O.ch.size) a1 underlying26 zNt e79)<|rc (OblR.took 6 _ _ Z Z Z Z Z fun V Q U O D u X Y J L M=>by exact zAD (L _ _ Z Z Z Z).symm X Y)<|rz
 intro done ρ σ A R w y s
 have z80:=s.inivR 0 Z
 obtain ⟨u81,e_u81⟩:∃ u,ρ 7=u:=⟨_,Z⟩
 have h3:=s.ov y 7 5 e_u81
 replace B:=s.lowK B C K (q.geK (⟨.inr (fun k h=>.inr h),⟨.inl Z,N⟩⟩))
 replace j:Ch (zAB (.pointer (some ⟨b0,0,none⟩))) w0 w:=j.tr s.ch (q.geK (⟨.inr (fun k h=>.inr h),⟨.inl Z,N⟩⟩))
 replace q:=s.left y [(0,ob (.pointer (some ⟨b0,0,none⟩)) (.box B0 90 zA1 x76.2)),(7,ob u81 (.vec w0.heap.size 51 zA0 (s11.2++([x76.1]:List zA4))))] ⟨Z,Z,z80,Z,Z,⟨Z,Z,e_u81,Z,Z,N⟩⟩
 replace d:=s.avok
 refine zQc Z ?_
 refine zQT<|zQW (eR u81::eR u81::[]) ?_ ?_
 exact om h3<|oa<|oz
 intro R w m n p
 have h2:=p.r 1 Z
 replace q:=q.fr m
 replace d:=d.fr m.size
 replace j:=j.tr (m.ch noB) fun _ h=>False.elim h
 refine HT.ret ?_
 obtain rfl:=si c
 obtain ⟨A1,hA1,hG1⟩:=GPost.of q d B (q.geK (⟨.inr (fun k h=>.inr h),⟨.inl Z,N⟩⟩)) j
 exact ⟨.inr Z,[R 2],⟨Z,N⟩,u81,A1,hG1,h2⟩
 have c:=zAM c73 c
 refine HT.skip<|zQT<|zQW (eR uo_u2::eR uo_u2::[]) ?_ ?_
 exact om h3<|oa<|oz
 intro R w m n p
 have h2:=p.r 1 Z
 replace q:=q.fr m
 replace d:=d.fr m.size
 replace j:=j.tr (m.ch noB) fun _ h=>False.elim h
 refine HT.ret ?_
 obtain rfl:=si c
 obtain ⟨A1,hA1,hG1⟩:=GPost.of q d B (q.geK (⟨.inr (fun k h=>.inr h),⟨.inl Z,N⟩⟩)) j
 exact ⟨.inr Z,[R 2],⟨Z,N⟩,uo_u2,A1,hG1,h2⟩
def zCY (fu:Nat) (p0:List Int):Option ((List zA4) × Int):=
 cl true (zEy fu p0) fun x1=>
 cl true (zDR fu x1) fun x6=>
 cl true (zCL fu x6.2 ([12,12,3,2,1,0]:List Int)) fun x11=>
 some (x6.1,x11.1)
theorem zFn {fu : Nat} {A0 : Av} {p0 : List Int} {r : (List zA4) × Int} (c : zCY fu p0 = some r) {w : World} {v0 : Value} (d : AvOK A0 w) (h0 : Rep (eSl (eInt .u8)) A0 w v0 p0) :
 Calls prog 30 #[v0] w fun e w'=>∃ v,e=.returned v/\((∃ a b,v=.tuple #[a,b]/\Rep (eSl zA0) A0 w' a r.1/\b=.int .i64 r.2)/\Fr w w'):=by
 unfold zCY at c
 obtain ⟨w0,hw0,j,C⟩:=pw d
 have hA00:AvOK A0 w0:=C
 rw [fw hw0]
 obtain ⟨A,hAe,B,d,q⟩:=pa d
 refine zA9 [.tmp 2,.tmp 3] func30 ntmps30 (by decide) Z Z (nb Z) ?_
 intro R hR
 have f_v0:Rep (eSl (eInt .u8)) A w v0 p0:=hAe ▸ h0
 replace h0:R 0=v0:=hR 0 _ Z
 refine zQU d j (eF (.rep (eSl zA0) A ([]:List zA4))::eI 0::[]) ?_ ?_
 exact op (fun Q U W H D=>zA2 zIZ)<|op (fun Q U W H D=>zA2 Z)<|oz
 intro R w m n p d j
 replace h0:=k1 n h0
 replace f_v0:=f_v0.fr m
 replace q:=q.fr m
 refine zQT<|SG.of<|SG.textR [] (rR v0::[]) 1 Z Z Z (by kernel_rfl) (by kernel_rfl) (Wf.mk' (by kernel_rfl) (ur (UAll.nil)) (by kernel_rfl) (by kernel_rfl)) q d (N) ?_ ?_
 exact rm h0<|rz
 intro done ρ σ A R w y s
 have h5:=s.r y 0 Z
 replace f_v0:=f_v0.stp s.stp
 obtain ⟨B,j,d⟩:=s.s B C j q N
 replace q:=s.left y [] N
 obtain ⟨x1,q2,c⟩:=zA6 c
 have hFz:w0.heap.size<=w.heap.size:=j.size
 refine zQd 6 Z Z Z Z (zBG call53 (zIn (q2 Z) d (f_v0.eq h5))) ?_
 rintro v_ w ⟨b3,A,hG1,hv⟩ R n hd
 obtain ⟨hO2,hst⟩:=GPost.next0 q d hG1
 replace q:=hO2
 replace d:=hG1.avok
 replace B:∀ b o,A0 b o->A b o:=fun b o h=>hG1.low b o (B b o h)
 replace j:Fr w0 w:=j.trans hG1.ch.no
 replace q:=q.reX (B':=w0.heap.size) 0 Z hFz
 replace q:IniOK [ob (.pointer (some ⟨b3,0,none⟩)) (.box w0.heap.size 90 zA1 x1)] A w:=q
 replace h5:=(n 5 Z).trans h5
 replace f_v0:=f_v0.stp hst
 have h6:R 6=(.pointer (some ⟨b3,0,none⟩)):=hd.trans hv
 clear hFz hG1 hv n hd
 refine SG.textR [ob (.pointer (some ⟨b3,0,none⟩)) (.box w0.heap.size 90 zA1 x1)] (rR v0::rR (.pointer (some ⟨b3,0,none⟩))::rR (.pointer (some ⟨b3,0,none⟩))::[]) 3 Z Z Z (by kernel_rfl) (by kernel_rfl) (Wf.mk' (by kernel_rfl) (ur (ur (ur (UAll.nil)))) (by kernel_rfl) (by kernel_rfl)) q d (⟨⟨Z,Z,Z,h5⟩,⟨⟨Z,Z,Z,h6⟩,N⟩⟩) ?_ ?_
 exact ra<|rz
 intro done ρ σ A R w y s
 have z4:=s.inivR 0 Z
 have h4:=s.r y 2 Z
 obtain ⟨B,j,d⟩:=s.s B C j q ⟨Z,N⟩
 replace q:=s.left y [(0,ob (.pointer (some ⟨b3,0,none⟩)) (.box w0.heap.size 90 zA1 x1))] ⟨Z,Z,z4,Z,Z,N⟩
 refine zQc Z ?_
 refine zQT<|SG.of<|SG.textR [ob (.pointer (some ⟨b3,0,none⟩)) (.box w0.heap.size 90 zA1 x1)] (rR (.pointer (some ⟨b3,0,none⟩))::[]) 1 Z Z Z (by kernel_rfl) (by kernel_rfl) (Wf.mk' (by kernel_rfl) (ur (UAll.nil)) (by kernel_rfl) (by kernel_rfl)) q d (N) ?_ ?_
 exact rm h4<|rz
 intro done ρ σ A R w y s
 replace h4:=k1 s.rg h4
 have z5:=s.inivR 0 Z
 have h7:=s.r y 0 Z
 obtain ⟨B,j,d⟩:=s.s B C j q ⟨Z,N⟩
 replace q:=s.left y [(0,ob (.pointer (some ⟨b3,0,none⟩)) (.box w0.heap.size 90 zA1 x1))] ⟨Z,Z,z5,Z,Z,N⟩
 obtain ⟨x6,q7,c⟩:=zA6 c
 have hFz:w0.heap.size<=w.heap.size:=j.size
 refine zQd 8 Z Z Z Z (zBG call54 (zGs (q7 Z) d h7 (q.sub [(0,ob (.pointer (some ⟨b3,0,none⟩)) (.box w0.heap.size 90 zA1 x1))] ⟨Z,Z,N⟩))) ?_
 rintro v_ w ⟨u8,A,hG1,hv⟩ R n hd
 have hst:=zBA d hG1 (q.ok 0 _ Z).2
 replace B:∀ b o,A0 b o->A b o:=zLp B C (q.ge (⟨Z,N⟩)) 0 Z hG1
 replace j:Fr w0 w:=j.tr hG1.ch (fun k hk=>(q.ge (⟨Z,N⟩)) k ⟨0,_,Z,hk⟩)
 replace q:=zQL q d 0 Z hG1
 replace d:=hG1.avok
 replace q:=q.reV (B':=w0.heap.size) 1 Z hFz
 replace q:IniOK [ob (.pointer (some ⟨b3,0,none⟩)) (.box w0.heap.size 90 zA1 x6.2),ob u8 (.vec w0.heap.size 51 zA0 x6.1)] A w:=q
 replace h4:=(n 4 Z).trans h4
 replace h7:=(n 7 Z).trans h7
 have h8:R 8=u8:=hd.trans hv
 clear hFz hG1 hv n hd
 replace q:IniOK [ob u8 (.vec w0.heap.size 51 zA0 x6.1),ob (.pointer (some ⟨b3,0,none⟩)) (.box w0.heap.size 90 zA1 x6.2)] A w:=q.sub [(1,ob u8 (.vec w0.heap.size 51 zA0 x6.1)),(0,ob (.pointer (some ⟨b3,0,none⟩)) (.box w0.heap.size 90 zA1 x6.2))] ⟨Z,Z,⟨Z,Z,N⟩⟩
 obtain ⟨A,hle,B,d,q,f_u8⟩:=q.freeze d B C
 clear hle
 refine SG.textR [ob (.pointer (some ⟨b3,0,none⟩)) (.box w0.heap.size 90 zA1 x6.2)] (rR (.pointer (some ⟨b3,0,none⟩))::rR u8::rR (.pointer (some ⟨b3,0,none⟩))::(rF fun A=>.rep (eSl (eInt .i64)) A ([12,12,3,2,1,0]:List Int))::[]) 4 Z Z Z (by kernel_rfl) (by kernel_rfl) (Wf.mk' (by kernel_rfl) (ur (ur (ur (up (UAll.nil))))) (by kernel_rfl) (by kernel_rfl)) q d (⟨⟨Z,Z,Z,h7⟩,⟨⟨Z,Z,Z,h8⟩,N⟩⟩) ?_ ?_
 exact rm h4<|rp (fun V Q U O D=>zAe [_,_,_,_,_,_] (E:=eInt .i64) ⟨(zBT.eq Z),⟨(zBT.eq Z),⟨(zBT.eq Z),⟨(zBT.eq Z),⟨(zBT.eq Z),⟨(zBT.eq Z),N⟩⟩⟩⟩⟩⟩ underlying52 sizeOf3 zeroValue3 Z Z Z O.av)<|rz
 intro done ρ σ A R w y s
 have z9:=s.inivR 0 Z
 have h8:=s.r y 1 Z
 have h9:=s.r y 2 Z
 obtain ⟨u10,h10,f_u10⟩:∃ u,R 10=u/\Rep (eSl (eInt .i64)) A w u ([12,12,3,2,1,0]:List Int):=⟨_,Z,s.fact y (i:=3) Z Z Z⟩
 replace f_u8:=f_u8.stp s.stp
 obtain ⟨B,j,d⟩:=s.s B C j q ⟨Z,N⟩
 replace q:=s.left y [(0,ob (.pointer (some ⟨b3,0,none⟩)) (.box w0.heap.size 90 zA1 x6.2))] ⟨Z,Z,z9,Z,Z,N⟩
 obtain ⟨x11,q12,c⟩:=zA6 c
 have hFz:w0.heap.size<=w.heap.size:=j.size
 refine zQd 11 Z Z Z Z (zBG call55 (zDa (q12 Z) d h9 (q.sub [(0,ob (.pointer (some ⟨b3,0,none⟩)) (.box w0.heap.size 90 zA1 x6.2))] ⟨Z,Z,N⟩) (f_u10.eq h10))) ?_
 rintro v_ w ⟨A,hG1,hv⟩ R n hd
 have hst:=zBA d hG1 (q.ok 0 _ Z).2
 replace B:∀ b o,A0 b o->A b o:=zLp B C (q.ge (⟨Z,N⟩)) 0 Z hG1
 replace j:Fr w0 w:=j.tr hG1.ch (fun k hk=>(q.ge (⟨Z,N⟩)) k ⟨0,_,Z,hk⟩)
 replace q:=zQL q d 0 Z hG1
 replace d:=hG1.avok
 replace q:IniOK [ob (.pointer (some ⟨b3,0,none⟩)) (.box w0.heap.size 90 zA1 x11.2)] A w:=q
 replace h8:=(n 8 Z).trans h8
 replace h9:=(n 9 Z).trans h9
 replace h10:=(n 10 Z).trans h10
 replace f_u10:=f_u10.stp hst
 replace f_u8:=f_u8.stp hst
 have h11:R 11=.int .i64 x11.1:=hd.trans hv
 clear hFz hG1 hv n hd
 refine SG.textR [ob (.pointer (some ⟨b3,0,none⟩)) (.box w0.heap.size 90 zA1 x11.2)] (rA::rR u8::rR (.pointer (some ⟨b3,0,none⟩))::rR u10::rI x11.1::rR u8::rI x11.1::[]) 7 Z Z Z (by kernel_rfl) (by kernel_rfl) (Wf.mk' (by kernel_rfl) (ua (ur (ur (ur (ur (ur (ur (UAll.nil)))))))) (by kernel_rfl) (by kernel_rfl)) q d (⟨⟨Z,Z,Z,N⟩,⟨⟨Z,Z,Z,h8⟩,⟨⟨Z,Z,Z,h9⟩,⟨⟨Z,Z,Z,h10⟩,⟨⟨Z,Z,Z,h11⟩,N⟩⟩⟩⟩⟩) ?_ ?_
 exact ra<|ra<|rz
 intro done ρ σ A R w y s
 have z13:=s.inivR 0 Z
 have h2:=s.r y 5 Z
 have h3:=s.r y 6 Z
 replace f_u8:=f_u8.stp s.stp
 obtain ⟨B,j,d⟩:=s.s B C j q ⟨Z,N⟩
 replace q:=s.left y [] N
 refine zQc Z ?_
 refine HT.ret ?_
 obtain rfl:=si c
 exact ⟨.inr Z,[R 2,R 3],⟨Z,⟨Z,N⟩⟩,⟨_,_,Z,(f_u8.eq h2).down B,h3⟩,j⟩
def zAw (fu : Nat) (x1 : List zAF) : Nat -> Int -> Int -> Option Int
 | 0,_,_=>none
 | k+1,y7,y8=>
 bif (decide (y8<(x1.length:Int))) then (
 ck (inR y8 x1.length) <|
 ck (i64B (y8+1)) <|
 zAw fu x1 k (max y7 (((gtD x1 y8).2).length:Int)) (y8+1)
 ) else (
 some y7
 )
def zCO (fu:Nat) (p0:List zA4):Option Int:=
 cl true (zBh fu p0) fun x1=>
 cl true (zAw fu x1 fu 0 0) fun s6=>
 some s6
theorem zEl {fu : Nat} {A0 : Av} {p0 : List zA4} {r : Int} (c : zCO fu p0 = some r) {w : World} {v0 : Value} (d : AvOK A0 w) (hG : GTab w) (h0 : Rep (eSl zA0) A0 w v0 p0) :
 Calls prog 18 #[v0] w fun e w'=>∃ v,e=.returned v/\(v=.int .i64 r/\Fr w w'):=by
 unfold zCO at c
 obtain ⟨w0,hw0,j,C⟩:=pw d
 have hA00:AvOK A0 w0:=C
 rw [fw hw0]
 have hG0:GTab w0:=hw0 ▸ hG
 obtain ⟨A,hAe,B,d,q⟩:=pa d
 refine zA9 [.tmp 2] func18 ntmps18 (by decide) Z Z (nb Z) ?_
 intro R hR
 have f_v0:Rep (eSl zA0) A w v0 p0:=hAe ▸ h0
 replace h0:R 0=v0:=hR 0 _ Z
 refine zQU d j (eI 0::[]) ?_ ?_
 exact op (fun Q U W H D=>zA2 Z)<|oz
 intro R w m n p d j
 replace h0:=k1 n h0
 replace f_v0:=f_v0.fr m
 replace q:=q.fr m
 refine zQU d j (eI 0::[]) ?_ ?_
 exact op (fun Q U W H D=>zA2 Z)<|oz
 intro R w m n p d j
 replace h0:=k1 n h0
 have h3:=p.r 0 Z
 replace f_v0:=f_v0.fr m
 replace q:=q.fr m
 refine zQT ?_
 obtain ⟨x1,q2,c⟩:=zA6 c
 refine zQU d j (eR v0::eF (.rep (eSl zA8) A x1)::eI (x1.length:Int)::eI 0::[]) ?_ ?_
 exact om h0<|op (fun Q U W H D=>zAI call11 (zD5 (q2 Z) (d.fr W.size) (hG0.fr (j.trans W)) ((f_v0.fr W).eq (D.g 0 Z))))<|op (fun Q U W H D=>zAK (aT:=#[]) (D.g 0 Z) underlying24)<|op (fun Q U W H D=>zBj Z)<|oz
 intro R w m n p d j
 replace h3:=k1 n h3
 obtain ⟨u3,h7,f_u3⟩:∃ u,R 7=u/\Rep (eSl zA8) A w u x1:=⟨_,Z,p 1 _ _ Z Z Z⟩
 have h8:=p.r 2 Z
 have h9:=p.r 3 Z
 replace q:=q.fr m
 obtain ⟨rl4,q5,c⟩:=zA6 c
 replace q5:=q5 Z
 refine zQO (fun R w=>∃ A:Av,∃ (s6:Int),rl4=s6/\AvOK A w/\Fr w0 w/\(∀ b o,A0 b o->A b o)/\IniOK [] A w/\R 3=.int .i64 s6) ?_ ?_
 refine HT.block<|zQS (fun k R w=>∃ A:Av,∃ (y7:Int) (y8:Int),zAw fu x1 k y7 y8=some rl4/\AvOK A w/\Fr w0 w/\(∀ b o,A0 b o->A b o)/\IniOK [] A w/\R 3=.int .i64 y7/\R 7=u3/\R 8=.int .i64 (x1.length:Int)/\R 9=.int .i64 y8/\Rep (eSl zA8) A w u3 x1) fu ⟨_,_,_,q5,d,j,B,q,h3,h7,h8,h9,f_u3⟩ ?_
 have hr0:=c;clear c q5
 rintro k R w ⟨A,y7,y8,c,d,j,B,q,h3,h7,h8,h9,f_u3⟩
 rcases k with _ | k
 cases (show none=some _ from c)
 rw [zAw] at c
 refine zQU d j (eB (decide (y8<(x1.length:Int)))::[]) ?_ ?_
 exact op (fun Q U W H D=>zAk ((H 9 Z).trans h9) ((H 8 Z).trans h8))<|oz
 intro R w m n p d j
 obtain ⟨h3,h7,h8,h9⟩:=k4 n h3 h7 h8 h9
 have h10:=p.r 0 Z
 replace f_u3:=f_u3.fr m
 replace q:=q.fr m
 refine zQT<|zQM (decide (y8<(x1.length:Int))) h10 (fun c9=>?_) (fun c9=>?_)
 have c:=zAN c9 c
 refine HT.skip<|zQT<|HT.block ?_
 obtain ⟨e10,c⟩:=zA7 c
 refine zQV [] ((rF fun A=>.qtr zA8 A (gtD x1 y8))::(rF fun A=>.rep zA8 A (gtD x1 y8))::⟨_,true,[],some (.box w0.heap.size 54 zA8 (([]:List UInt8),([]:List Int))),true,fun A=>.any⟩::⟨_,true,[2],some (.box w0.heap.size 54 zA8 (gtD x1 y8)),false,fun A=>.any⟩::[]) (UAll.cons zDl (up (ua (ua (UAll.nil))))) q d ?_ ?_
 exact rp (fun V Q U O D=>zAC ((f_u3.stp O.stp).eq ((O.old 7 Z).trans h7)) ((O.old 9 Z).trans h9) underlying24 sizeOf54 e10)<|rp (fun V Q U O D=>(zAT (QRep.ptr (D.g 0 Z)) isAgg54 sizeOf54))<|rc (OblR.made _ Z Z Z Z fun V Q U O D=>by exact zFl zeroValue54 (fun A w=>zFJ (zGg Z (by decide)) zFx) (Nat.le_trans j.size O.ch.size))<|rc (OblR.took 2 _ _ Z Z Z Z Z fun V Q U O D u X Y J L M=>by have a1:Rep zA8 V U (Q 12) (gtD x1 y8):=D.g 1 Z;obtain ⟨b,hb,hB',hbx⟩:=X;have hop':=L _ _ Z Z Z Z;exact zCs a1 (hop'.symm.trans hb) hb ⟨b,hb,hB',hbx⟩ Y (FldS.id _) sizeOf54 Z)<|rz
 intro done ρ σ A R w y s
 obtain ⟨h3,h7,h8,h9⟩:=k4 s.rg h3 h7 h8 h9
 obtain ⟨b5_10,e_b5_10⟩:=s.boxv y 3 Z Z
 have z12:=(s.opnR y 3 3 Z Z Z Z Z).symm.trans e_b5_10
 have h5:=s.ov y 2 2 z12
 replace f_u3:=f_u3.stp s.stp
 obtain ⟨B,j,d⟩:=s.s B C j q N
 replace q:=s.left y [(3,ob (.pointer (some ⟨b5_10,0,none⟩)) (.box w0.heap.size 54 zA8 (gtD x1 y8)))] ⟨Z,Z,e_b5_10,Z,Z,N⟩
 refine HT.u d j (eI y7::eR (.pointer (some ⟨b5_10,1,none⟩))::eF (.rep (eSl (eInt .i64)) A ((gtD x1 y8).2))::eI (((gtD x1 y8).2).length:Int)::eI (max y7 (((gtD x1 y8).2).length:Int))::eI (max y7 (((gtD x1 y8).2).length:Int))::[]) ?_ ?_
 exact om h3<|op (fun Q U W H D=>zAE ((H 5 Z).trans h5) zEn sizeOf52 (by decide) Z)<|op (fun Q U W H D=>(zAJ ((q.fr W).ok 0 _ Z).1 (D.g 0 Z) zBp Z isAgg52 sizeOf52))<|op (fun Q U W H D=>zAK (aT:=#[]) (D.g 0 Z) underlying52)<|op (fun Q U W H D=>zKt (D.g 0 Z) (D.g 1 Z))<|oa<|oz
 intro R w m n p d j
 obtain ⟨h7,h8,h9⟩:=k3 n h7 h8 h9
 have h3:=p.r 5 Z
 replace f_u3:=f_u3.fr m
 replace q:=q.fr m
 replace q:IniOK [] A w:=q.sub [] N
 obtain ⟨e13,c⟩:=zA7 c
 refine HT.u d j (eI (y8+1)::eI (y8+1)::[]) ?_ ?_
 exact op (fun Q U W H D=>zAS ((H 9 Z).trans h9) Z e13)<|ov<|oz
 intro R w m n p d j
 obtain ⟨h3,h7,h8⟩:=k3 n h3 h7 h8
 have h9:=p.r 1 Z
 replace f_u3:=f_u3.fr m
 replace q:=q.fr m
 exact ei k (And.intro (Nat.lt_succ_self k) ⟨_,_,_,c,d,j,B,q,h3,h7,h8,h9,f_u3⟩)
 have c:=zAM c9 c
 refine zQR ?_
 obtain rfl:=si c
 exact ei _ ⟨_,Z,d,j,B,q,h3⟩
 rintro R w ⟨A,s6,es,d,j,B,q,h3⟩
 obtain rfl:=es.symm
 refine zQU d j (eI s6::eI s6::[]) ?_ ?_
 exact om h3<|oa<|oz
 intro R w m n p d j
 have h2:=p.r 1 Z
 replace q:=q.fr m
 refine HT.ret ?_
 obtain rfl:=si c
 exact ⟨.inr Z,[R 2],⟨Z,N⟩,h2,j⟩
def zAv (fu : Nat) (x1 : List zAF) : Nat -> Int -> Int -> Option Int
 | 0,_,_=>none
 | k+1,y7,y8=>
 bif (decide (y8<(x1.length:Int))) then (
 ck (inR y8 x1.length) <|
 ck (i64B (y8+1)) <|
 zAv fu x1 k (max y7 (((gtD x1 y8).2).length:Int)) (y8+1)
 ) else (
 some y7
 )
def zD0 (fu:Nat) (p0:List zA4):Option Int:=
 cl true (zBg fu p0) fun x1=>
 cl true (zAv fu x1 fu 0 0) fun s6=>
 some s6
theorem zGI {fu : Nat} {A : Av} {p0 : List zA4} {r : Int} (c : zD0 fu p0 = some r) {w : World} {v0 : Value} (d : AvOK A w) (h0 : Rep (eSl zA0) A w v0 p0) :
 Calls prog 17 #[v0] w fun e w'=>∃ v,e=.returned v/\(v=.int .i64 r/\Fr w w'):=by
 unfold zD0 at c
 obtain ⟨w0,hw0,j⟩:=pf w
 rw [fw hw0]
 refine zA9 [.tmp 2] func17 ntmps17 (by decide) Z Z (nb Z) ?_
 intro R hR
 have f_v0:=h0
 replace h0:R 0=v0:=hR 0 _ Z
 refine zQU d j (eI 0::[]) ?_ ?_
 exact op (fun Q U W H D=>zA2 Z)<|oz
 intro R w m n p d j
 replace h0:=k1 n h0
 replace f_v0:=f_v0.fr m
 refine zQU d j (eI 0::[]) ?_ ?_
 exact op (fun Q U W H D=>zA2 Z)<|oz
 intro R w m n p d j
 replace h0:=k1 n h0
 have h3:=p.r 0 Z
 replace f_v0:=f_v0.fr m
 obtain ⟨x1,q2,c⟩:=zA6 c
 refine zQU d j (eR v0::eF (.rep (eSl zA8) A x1)::eF (.rep (eSl zA8) A x1)::[]) ?_ ?_
 exact om h0<|op (fun Q U W H D=>zAI call9 (zD4 (q2 Z) (d.fr W.size) ((f_v0.fr W).eq (D.g 0 Z))))<|op (fun Q U W H D=>zA2 (D.g 0 Z))<|oz
 intro R w m n p d j
 replace h3:=k1 n h3
 obtain ⟨u3,h4,f_u3⟩:∃ u,R 4=u/\Rep (eSl zA8) A w u x1:=⟨_,Z,p 2 _ _ Z Z Z⟩
 refine zQT<|zQU d j (eI 0::[]) ?_ ?_
 exact op (fun Q U W H D=>zA2 Z)<|oz
 intro R w m n p d j
 obtain ⟨h3,h4⟩:=k2 n h3 h4
 have h5:=p.r 0 Z
 replace f_u3:=f_u3.fr m
 obtain ⟨rl4,q5,c⟩:=zA6 c
 replace q5:=q5 Z
 refine zQO (fun R w=>∃ (s6:Int),rl4=s6/\AvOK A w/\Fr w0 w/\R 3=.int .i64 s6) ?_ ?_
 refine HT.block<|zQS (fun k R w=>∃ (y7:Int) (y8:Int),zAv fu x1 k y7 y8=some rl4/\AvOK A w/\Fr w0 w/\R 3=.int .i64 y7/\R 4=u3/\R 5=.int .i64 y8/\Rep (eSl zA8) A w u3 x1) fu ⟨_,_,q5,d,j,h3,h4,h5,f_u3⟩ ?_
 have hr0:=c;clear c q5
 rintro k R w ⟨y7,y8,c,d,j,h3,h4,h5,f_u3⟩
 rcases k with _ | k
 cases (show none=some _ from c)
 rw [zAv] at c
 refine zQT<|zQU d j (eI y8::eR u3::eI (x1.length:Int)::eB (decide (y8<(x1.length:Int)))::[]) ?_ ?_
 exact om h5<|om h4<|op (fun Q U W H D=>zAK (aT:=#[]) ((f_u3.fr W).eq (D.g 0 Z)) underlying24)<|op (fun Q U W H D=>zAk (D.g 0 Z) (D.g 1 Z))<|oz
 intro R w m n p d j
 obtain ⟨h3,h4,h5⟩:=k3 n h3 h4 h5
 have h11:=p.r 3 Z
 replace f_u3:=f_u3.fr m
 refine zQM (decide (y8<(x1.length:Int))) h11 (fun c9=>?_) (fun c9=>?_)
 have c:=zAN c9 c
 refine HT.skip<|zQT<|HT.block ?_
 obtain ⟨e10,c⟩:=zA7 c
 refine HT.u d j (eI y7::eR u3::eI y8::eF (.qtr zA8 A (gtD x1 y8))::eF (.qtr (eSl (eInt .i64)) A ((gtD x1 y8).2))::eF (.rep (eSl (eInt .i64)) A ((gtD x1 y8).2))::eI (((gtD x1 y8).2).length:Int)::eI (max y7 (((gtD x1 y8).2).length:Int))::eI (max y7 (((gtD x1 y8).2).length:Int))::[]) ?_ ?_
 exact om h3<|om h4<|om h5<|op (fun Q U W H D=>zAC ((f_u3.fr W).eq (D.g 0 Z)) (D.g 1 Z) underlying24 sizeOf54 e10)<|op (fun Q U W H D=>zBt (qt (D.g 0 Z)) zEn sizeOf52 (by decide) zBp Z)<|op (fun Q U W H D=>(zAT (QRep.ptr (D.g 0 Z)) isAgg52 sizeOf52))<|op (fun Q U W H D=>zAK (aT:=#[]) (D.g 0 Z) underlying52)<|op (fun Q U W H D=>zKt (D.g 0 Z) (D.g 1 Z))<|oa<|oz
 intro R w m n p d j
 obtain ⟨h4,h5⟩:=k2 n h4 h5
 have h3:=p.r 8 Z
 replace f_u3:=f_u3.fr m
 obtain ⟨e11,c⟩:=zA7 c
 refine HT.u d j (eI y8::eI (y8+1)::eI (y8+1)::[]) ?_ ?_
 exact om h5<|op (fun Q U W H D=>zAS (D.g 0 Z) Z e11)<|oa<|oz
 intro R w m n p d j
 obtain ⟨h3,h4⟩:=k2 n h3 h4
 have h5:=p.r 2 Z
 replace f_u3:=f_u3.fr m
 exact ei k (And.intro (Nat.lt_succ_self k) ⟨_,_,c,d,j,h3,h4,h5,f_u3⟩)
 have c:=zAM c9 c
 refine zQR ?_
 obtain rfl:=si c
 exact ei _ ⟨Z,d,j,h3⟩
 rintro R w ⟨s6,es,d,j,h3⟩
 obtain rfl:=es.symm
 refine zQU d j (eI s6::eI s6::[]) ?_ ?_
 exact om h3<|oa<|oz
 intro R w m n p d j
 have h2:=p.r 1 Z
 refine HT.ret ?_
 obtain rfl:=si c
 exact ⟨.inr Z,[R 2],⟨Z,N⟩,h2,j⟩
def zAq (fu : Nat) (p1 : Int) (x2 : List zAF) : Nat -> Int -> (List (List UInt8)) -> Option (List (List UInt8))
 | 0,_,_=>none
 | k+1,y8,y9=>
 bif (decide (y8<(x2.length:Int))) then (
 ck (inR y8 x2.length) <|
 bif (decide (p1<(((gtD x2 y8).2).length:Int))) then (
 ck (zBJ (y9.length+([(gtD x2 y8).1]:List (List UInt8)).length)) <|
 ck (i64B (y8+1)) <|
 zAq fu p1 x2 k (y8+1) (y9++([(gtD x2 y8).1]:List (List UInt8)))
 ) else (
 ck (i64B (y8+1)) <|
 zAq fu p1 x2 k (y8+1) y9
 )
 ) else (
 some y9
 )
def zBf (fu:Nat) (p0:List zA4) (p1:Int):Option (List (List UInt8)):=
 cl true (zBh fu p0) fun x2=>
 cl true (zAq fu p1 x2 fu 0 ([]:List (List UInt8))) fun s7=>
 some s7
theorem zFg {fu : Nat} {A0 : Av} {p0 : List zA4} {p1 : Int} {r : List (List UInt8)} (c : zBf fu p0 p1 = some r) {w : World} {v0 : Value} {v1 : Value} (d : AvOK A0 w) (hG : GTab w) (h0 : Rep (eSl zA0) A0 w v0 p0) (h1 : v1=.int .i64 p1) :
 Calls prog 20 #[v0,v1] w fun e w'=>∃ v,e=.returned v/\((Res.vec w.heap.size 9 eStr r).ok (addA A0 v) v w'/\Fr w w'):=by
 unfold zBf at c
 obtain ⟨w0,hw0,j,C⟩:=pw d
 have hA00:AvOK A0 w0:=C
 rw [fh hw0]
 rw [fw hw0]
 have hG0:GTab w0:=hw0 ▸ hG
 obtain ⟨A,hAe,B,d,q⟩:=pa d
 refine zA9 [.tmp 4] func20 ntmps20 (by decide) Z Z (nb Z) ?_
 intro R hR
 have f_v0:Rep (eSl zA0) A w v0 p0:=hAe ▸ h0
 replace h0:R 0=v0:=hR 0 _ Z
 replace h1:R 1=.int .i64 p1:=(hR 1 _ Z).trans h1
 refine zQU d j (eA::[]) ?_ ?_
 exact op (fun Q U W H D=>zA2 N)<|oz
 intro R w m n p d j
 obtain ⟨h0,h1⟩:=k2 n h0 h1
 replace f_v0:=f_v0.fr m
 replace q:=q.fr m
 refine zQU d j (eR (.slice none 0 0)::[]) ?_ ?_
 exact op (fun Q U W H D=>zA2 Z)<|oz
 intro R w m n p d j
 obtain ⟨h0,h1⟩:=k2 n h0 h1
 obtain ⟨u1,n_u1⟩:∃ u,u=Value.slice none 0 0:=⟨_,Z⟩
 have h5:R 5=u1:=(p 0 _ _ Z Z Z).trans n_u1.symm
 replace f_v0:=f_v0.fr m
 replace q:=q.fr m
 replace q:=q.nilcons (u:=u1) n_u1 w0.heap.size 9 eStr
 refine zQT ?_
 obtain ⟨x2,q3,c⟩:=zA6 c
 refine zQU d j (eR v0::eF (.rep (eSl zA8) A x2)::eI (x2.length:Int)::eI 0::[]) ?_ ?_
 exact om h0<|op (fun Q U W H D=>zAI call11 (zD5 (q3 Z) (d.fr W.size) (hG0.fr (j.trans W)) ((f_v0.fr W).eq (D.g 0 Z))))<|op (fun Q U W H D=>zAK (aT:=#[]) (D.g 0 Z) underlying24)<|op (fun Q U W H D=>zBj Z)<|oz
 intro R w m n p d j
 obtain ⟨h1,h5⟩:=k2 n h1 h5
 obtain ⟨u4,h9,f_u4⟩:∃ u,R 9=u/\Rep (eSl zA8) A w u x2:=⟨_,Z,p 1 _ _ Z Z Z⟩
 have h10:=p.r 2 Z
 have h11:=p.r 3 Z
 replace q:=q.fr m
 obtain ⟨rl5,q6,c⟩:=zA6 c
 replace q6:=q6 Z
 refine zQO (fun R w=>∃ A:Av,∃ (s7:(List (List UInt8))) (uo_u1:Value),rl5=s7/\AvOK A w/\Fr w0 w/\(∀ b o,A0 b o->A b o)/\IniOK [ob uo_u1 (.vec w0.heap.size 9 eStr s7)] A w/\R 5=uo_u1) ?_ ?_
 refine HT.block<|zQS (fun k R w=>∃ A:Av,∃ (y8:Int) (y9:List (List UInt8)) (ul_u1:Value),zAq fu p1 x2 k y8 y9=some rl5/\AvOK A w/\Fr w0 w/\(∀ b o,A0 b o->A b o)/\IniOK [ob ul_u1 (.vec w0.heap.size 9 eStr y9)] A w/\R 1=.int .i64 p1/\R 5=ul_u1/\R 9=u4/\R 10=.int .i64 (x2.length:Int)/\R 11=.int .i64 y8/\Rep (eSl zA8) A w u4 x2) fu ⟨_,_,_,u1,q6,d,j,B,q,h1,h5,h9,h10,h11,f_u4⟩ ?_
 have hr0:=c;clear c q6
 rintro k R w ⟨A,y8,y9,ul_u1,c,d,j,B,q,h1,h5,h9,h10,h11,f_u4⟩
 rcases k with _ | k
 cases (show none=some _ from c)
 rw [zAq] at c
 refine zQU d j (eB (decide (y8<(x2.length:Int)))::[]) ?_ ?_
 exact op (fun Q U W H D=>zAk ((H 11 Z).trans h11) ((H 10 Z).trans h10))<|oz
 intro R w m n p d j
 obtain ⟨h1,h5,h9,h10,h11⟩:=k5 n h1 h5 h9 h10 h11
 have h12:=p.r 0 Z
 replace f_u4:=f_u4.fr m
 replace q:=q.fr m
 refine zQT<|zQM (decide (y8<(x2.length:Int))) h12 (fun c10=>?_) (fun c10=>?_)
 have c:=zAN c10 c
 refine HT.skip<|zQT<|HT.block ?_
 obtain ⟨e11,c⟩:=zA7 c
 refine zQV [ob ul_u1 (.vec w0.heap.size 9 eStr y9)] ((rF fun A=>.qtr zA8 A (gtD x2 y8))::(rF fun A=>.rep zA8 A (gtD x2 y8))::⟨_,true,[],some (.box w0.heap.size 54 zA8 (([]:List UInt8),([]:List Int))),true,fun A=>.any⟩::⟨_,true,[3],some (.box w0.heap.size 54 zA8 (gtD x2 y8)),false,fun A=>.any⟩::[]) (UAll.cons zDl (up (ua (ua (UAll.nil))))) q d ?_ ?_
 exact rp (fun V Q U O D=>zAC ((f_u4.stp O.stp).eq ((O.old 9 Z).trans h9)) ((O.old 11 Z).trans h11) underlying24 sizeOf54 e11)<|rp (fun V Q U O D=>(zAT (QRep.ptr (D.g 0 Z)) isAgg54 sizeOf54))<|rc (OblR.made _ Z Z Z Z fun V Q U O D=>by exact zFl zeroValue54 (fun A w=>zFJ (zGg Z (by decide)) zFx) (Nat.le_trans j.size O.ch.size))<|rc (OblR.took 3 _ _ Z Z Z Z Z fun V Q U O D u X Y J L M=>by have a1:Rep zA8 V U (Q 14) (gtD x2 y8):=D.g 1 Z;obtain ⟨b,hb,hB',hbx⟩:=X;have hop':=L _ _ Z Z Z Z;exact zCs a1 (hop'.symm.trans hb) hb ⟨b,hb,hB',hbx⟩ Y (FldS.id _) sizeOf54 Z)<|rz
 intro done ρ σ A R w y s
 obtain ⟨h1,h5,h9,h10,h11⟩:=k5 s.rg h1 h5 h9 h10 h11
 have z12:=s.inivR 0 Z
 obtain ⟨b7_12,e_b7_12⟩:=s.boxv y 4 Z Z
 have z14:=(s.opnR y 4 3 Z Z Z Z Z).symm.trans e_b7_12
 have h7:=s.ov y 3 2 z14
 replace f_u4:=f_u4.stp s.stp
 obtain ⟨B,j,d⟩:=s.s B C j q ⟨Z,N⟩
 replace q:=s.left y [(0,ob ul_u1 (.vec w0.heap.size 9 eStr y9)),(4,ob (.pointer (some ⟨b7_12,0,none⟩)) (.box w0.heap.size 54 zA8 (gtD x2 y8)))] ⟨Z,Z,z12,Z,Z,⟨Z,Z,e_b7_12,Z,Z,N⟩⟩
 refine zQU d j (eR (.pointer (some ⟨b7_12,1,none⟩))::eF (.rep (eSl (eInt .i64)) A ((gtD x2 y8).2))::eI (((gtD x2 y8).2).length:Int)::eI p1::eB (decide (p1<(((gtD x2 y8).2).length:Int)))::[]) ?_ ?_
 exact op (fun Q U W H D=>zAE ((H 7 Z).trans h7) zEn sizeOf52 (by decide) Z)<|op (fun Q U W H D=>(zAJ ((q.fr W).ok 1 _ Z).1 (D.g 0 Z) zBp Z isAgg52 sizeOf52))<|op (fun Q U W H D=>zAK (aT:=#[]) (D.g 0 Z) underlying52)<|om h1<|op (fun Q U W H D=>zDg (D.g 0 Z) (D.g 1 Z))<|oz
 intro R w m n p d j
 obtain ⟨h1,h5,h7,h9,h10,h11⟩:=k6 n h1 h5 h7 h9 h10 h11
 have h19:=p.r 4 Z
 replace f_u4:=f_u4.fr m
 replace q:=q.fr m
 refine zQM (decide (p1<(((gtD x2 y8).2).length:Int))) h19 (fun c15=>?_) (fun c15=>?_)
 have c:=zAN c15 c
 obtain ⟨e16,c⟩:=zA7 c
 refine zQY [ob ul_u1 (.vec w0.heap.size 9 eStr y9),ob (.pointer (some ⟨b7_12,0,none⟩)) (.box w0.heap.size 54 zA8 (gtD x2 y8))] (rR ul_u1::rR (.pointer (some ⟨b7_12,0,none⟩))::(rF fun A=>.rep eStr A ((gtD x2 y8).1))::(rF fun A=>.rep (eSl eStr) A ([(gtD x2 y8).1]:List (List UInt8)))::⟨_,true,[0],some (.vec w0.heap.size 9 eStr (y9++([(gtD x2 y8).1]:List (List UInt8)))),true,fun A=>.any⟩::⟨_,true,[6],some (.vec w0.heap.size 9 eStr (y9++([(gtD x2 y8).1]:List (List UInt8)))),true,fun A=>.any⟩::[]) (ur (ur (up (up (ua (ua (UAll.nil))))))) q d ?_ ?_
 exact rm h5<|rp (fun V Q U O D=>zAE ((O.old 7 Z).trans h7) zLG sizeOf9 (by decide) Z)<|rp (fun V Q U O D=>(zAJ (O.rd 1 _ Z Z) (D.g 0 Z) zFI Z isAgg9 sizeOf9))<|rp (fun V Q U O D=>zAe [_] (E:=eStr) ⟨(D.g 0 Z),N⟩ underlying34 sizeOf9 zeroValue9 Z Z Z O.av)<|rc (OblR.took 0 _ _ Z Z Z Z Z fun V Q U O D u X Y J L M=>by have a0:Q 20=ul_u1:=D.g 0 Z;have a1:Rep (eSl eStr) V U (Q 23) ([(gtD x2 y8).1]:List (List UInt8)):=D.g 1 Z;exact zAW (a0.trans (J _ Z).symm) X Y (Nat.le_trans j.size O.ch.size) a1 underlying34 el_9 e16)<|rc (OblR.took 6 _ _ Z Z Z Z Z fun V Q U O D u X Y J L M=>by exact zAD (L _ _ Z Z Z Z).symm X Y)<|rz
 intro done ρ σ A R w y s
 obtain ⟨h1,h9,h10,h11⟩:=k4 s.rg h1 h9 h10 h11
 obtain ⟨u17,e_u17⟩:∃ u,ρ 7=u:=⟨_,Z⟩
 have h5:=s.ov y 7 5 e_u17
 have z18:=s.inivR 1 Z
 replace f_u4:=f_u4.stp s.stp
 obtain ⟨B,j,d⟩:=s.s B C j q ⟨Z,⟨Z,N⟩⟩
 replace q:=s.left y [(7,ob u17 (.vec w0.heap.size 9 eStr (y9++([(gtD x2 y8).1]:List (List UInt8)))))] ⟨Z,Z,e_u17,Z,Z,N⟩
 obtain ⟨e19,c⟩:=zA7 c
 refine HT.u d j (eI (y8+1)::eI (y8+1)::[]) ?_ ?_
 exact op (fun Q U W H D=>zAS ((H 11 Z).trans h11) Z e19)<|ov<|oz
 intro R w m n p d j
 obtain ⟨h1,h5,h9,h10⟩:=k4 n h1 h5 h9 h10
 have h11:=p.r 1 Z
 replace f_u4:=f_u4.fr m
 replace q:=q.fr m
 exact ei k (And.intro (Nat.lt_succ_self k) ⟨_,_,_,u17,c,d,j,B,q,h1,h5,h9,h10,h11,f_u4⟩)
 have c:=zAM c15 c
 refine HT.skip ?_
 obtain ⟨e20,c⟩:=zA7 c
 refine HT.u d j (eI (y8+1)::eI (y8+1)::[]) ?_ ?_
 exact op (fun Q U W H D=>zAS ((H 11 Z).trans h11) Z e20)<|ov<|oz
 intro R w m n p d j
 obtain ⟨h1,h5,h9,h10⟩:=k4 n h1 h5 h9 h10
 have h11:=p.r 1 Z
 replace f_u4:=f_u4.fr m
 replace q:=q.fr m
 replace q:IniOK [ob ul_u1 (.vec w0.heap.size 9 eStr y9)] A w:=q.sub [(0,ob ul_u1 (.vec w0.heap.size 9 eStr y9))] ⟨Z,Z,N⟩
 exact ei k (And.intro (Nat.lt_succ_self k) ⟨_,_,_,ul_u1,c,d,j,B,q,h1,h5,h9,h10,h11,f_u4⟩)
 have c:=zAM c10 c
 refine zQR ?_
 obtain rfl:=si c
 exact ei _ ⟨_,ul_u1,Z,d,j,B,q,h5⟩
 rintro R w ⟨A,s7,uo_u1,es,d,j,B,q,h5⟩
 obtain rfl:=es.symm
 refine zQU d j (eR uo_u1::eR uo_u1::[]) ?_ ?_
 exact om h5<|oa<|oz
 intro R w m n p d j
 have h4:=p.r 1 Z
 replace q:=q.fr m
 refine HT.ret ?_
 obtain rfl:=si c
 exact ⟨.inr Z,[R 4],⟨Z,N⟩,(zC7 (q.ok 0 _ Z) B h4),j⟩
theorem zE2 {fu : Nat} {A0 : Av} {p0 : List zA4} {p1 : Int} {r : List (List UInt8)} (c : zBf fu p0 p1 = some r) {w : World} {v0 : Value} {v1 : Value} (d : AvOK A0 w) (hG : GTab w) (h0 : Rep (eSl zA0) A0 w v0 p0) (h1 : v1=.int .i64 p1) :
 Calls prog 20 #[v0,v1] w fun e w'=>∃ v,e=.returned v/\(Rep (eSl eStr) A0 w' v r/\Fr w w'):=by
 refine Calls.mono (zFg c d hG h0 h1) ?_
 rintro e w' ⟨v,he,hv,hf⟩
 exact ⟨v,he,zCB hv (fun b o h=>.inl h) d,hf⟩
def zAr (fu : Nat) (p1 : Int) (x2 : List zAF) : Nat -> Int -> (List (List UInt8)) -> Option (List (List UInt8))
 | 0,_,_=>none
 | k+1,y8,y9=>
 bif (decide (y8<(x2.length:Int))) then (
 ck (inR y8 x2.length) <|
 bif (decide (p1<(((gtD x2 y8).2).length:Int))) then (
 ck (inR y8 x2.length) <|
 ck (zBJ (y9.length+([(gtD x2 y8).1]:List (List UInt8)).length)) <|
 ck (i64B (y8+1)) <|
 zAr fu p1 x2 k (y8+1) (y9++([(gtD x2 y8).1]:List (List UInt8)))
 ) else (
 ck (i64B (y8+1)) <|
 zAr fu p1 x2 k (y8+1) y9
 )
 ) else (
 some y9
 )
def zC1 (fu:Nat) (p0:List zA4) (p1:Int):Option (List (List UInt8)):=
 cl true (zBg fu p0) fun x2=>
 cl true (zAr fu p1 x2 fu 0 ([]:List (List UInt8))) fun s7=>
 some s7
theorem zFf {fu : Nat} {A0 : Av} {p0 : List zA4} {p1 : Int} {r : List (List UInt8)} (c : zC1 fu p0 p1 = some r) {w : World} {v0 : Value} {v1 : Value} (d : AvOK A0 w) (h0 : Rep (eSl zA0) A0 w v0 p0) (h1 : v1=.int .i64 p1) :
 Calls prog 19 #[v0,v1] w fun e w'=>∃ v,e=.returned v/\((Res.vec w.heap.size 9 eStr r).ok (addA A0 v) v w'/\Fr w w'):=by
 unfold zC1 at c
 obtain ⟨w0,hw0,j,C⟩:=pw d
 have hA00:AvOK A0 w0:=C
 rw [fh hw0]
 rw [fw hw0]
 obtain ⟨A,hAe,B,d,q⟩:=pa d
 refine zA9 [.tmp 4] func19 ntmps19 (by decide) Z Z (nb Z) ?_
 intro R hR
 have f_v0:Rep (eSl zA0) A w v0 p0:=hAe ▸ h0
 replace h0:R 0=v0:=hR 0 _ Z
 replace h1:R 1=.int .i64 p1:=(hR 1 _ Z).trans h1
 refine zQU d j (eA::[]) ?_ ?_
 exact op (fun Q U W H D=>zA2 N)<|oz
 intro R w m n p d j
 obtain ⟨h0,h1⟩:=k2 n h0 h1
 replace f_v0:=f_v0.fr m
 replace q:=q.fr m
 refine zQV [] (⟨_,true,[],some (.vec w0.heap.size 9 eStr ([]:List (List UInt8))),true,fun A=>.any⟩::⟨_,true,[0],some (.vec w0.heap.size 9 eStr ([]:List (List UInt8))),true,fun A=>.any⟩::[]) (ua (ua (UAll.nil))) q d ?_ ?_
 exact rc (OblR.made _ Z Z Z Z fun V Q U O D=>by exact zC0 [] (E:=eStr) N underlying34 sizeOf9 zeroValue9 Z Z Z (Nat.le_trans j.size O.ch.size))<|rc (OblR.took 0 _ _ Z Z Z Z Z fun V Q U O D u X Y J L M=>by exact zAD (L _ _ Z Z Z Z).symm X Y)<|rz
 intro done ρ σ A R w y s
 obtain ⟨h0,h1⟩:=k2 s.rg h0 h1
 obtain ⟨u1,e_u1⟩:∃ u,ρ 1=u:=⟨_,Z⟩
 have h5:=s.ov y 1 1 e_u1
 replace f_v0:=f_v0.stp s.stp
 obtain ⟨B,j,d⟩:=s.s B C j q N
 replace q:=s.left y [(1,ob u1 (.vec w0.heap.size 9 eStr ([]:List (List UInt8))))] ⟨Z,Z,e_u1,Z,Z,N⟩
 obtain ⟨x2,q3,c⟩:=zA6 c
 refine zQU d j (eR v0::eF (.rep (eSl zA8) A x2)::eF (.rep (eSl zA8) A x2)::[]) ?_ ?_
 exact om h0<|op (fun Q U W H D=>zAI call9 (zD4 (q3 Z) (d.fr W.size) ((f_v0.fr W).eq (D.g 0 Z))))<|op (fun Q U W H D=>zA2 (D.g 0 Z))<|oz
 intro R w m n p d j
 obtain ⟨h1,h5⟩:=k2 n h1 h5
 obtain ⟨u4,h6,f_u4⟩:∃ u,R 6=u/\Rep (eSl zA8) A w u x2:=⟨_,Z,p 2 _ _ Z Z Z⟩
 replace q:=q.fr m
 refine zQT<|zQU d j (eI 0::[]) ?_ ?_
 exact op (fun Q U W H D=>zA2 Z)<|oz
 intro R w m n p d j
 obtain ⟨h1,h5,h6⟩:=k3 n h1 h5 h6
 have h7:=p.r 0 Z
 replace f_u4:=f_u4.fr m
 replace q:=q.fr m
 obtain ⟨rl5,q6,c⟩:=zA6 c
 replace q6:=q6 Z
 refine zQO (fun R w=>∃ A:Av,∃ (s7:(List (List UInt8))) (uo_u1:Value),rl5=s7/\AvOK A w/\Fr w0 w/\(∀ b o,A0 b o->A b o)/\IniOK [ob uo_u1 (.vec w0.heap.size 9 eStr s7)] A w/\R 5=uo_u1) ?_ ?_
 refine HT.block<|zQS (fun k R w=>∃ A:Av,∃ (y8:Int) (y9:List (List UInt8)) (ul_u1:Value),zAr fu p1 x2 k y8 y9=some rl5/\AvOK A w/\Fr w0 w/\(∀ b o,A0 b o->A b o)/\IniOK [ob ul_u1 (.vec w0.heap.size 9 eStr y9)] A w/\R 1=.int .i64 p1/\R 5=ul_u1/\R 6=u4/\R 7=.int .i64 y8/\Rep (eSl zA8) A w u4 x2) fu ⟨_,_,_,u1,q6,d,j,B,q,h1,h5,h6,h7,f_u4⟩ ?_
 have hr0:=c;clear c q6
 rintro k R w ⟨A,y8,y9,ul_u1,c,d,j,B,q,h1,h5,h6,h7,f_u4⟩
 rcases k with _ | k
 cases (show none=some _ from c)
 rw [zAr] at c
 refine zQT<|zQU d j (eI y8::eR u4::eI (x2.length:Int)::eB (decide (y8<(x2.length:Int)))::[]) ?_ ?_
 exact om h7<|om h6<|op (fun Q U W H D=>zAK (aT:=#[]) ((f_u4.fr W).eq (D.g 0 Z)) underlying24)<|op (fun Q U W H D=>zAk (D.g 0 Z) (D.g 1 Z))<|oz
 intro R w m n p d j
 obtain ⟨h1,h5,h6,h7⟩:=k4 n h1 h5 h6 h7
 have h14:=p.r 3 Z
 replace f_u4:=f_u4.fr m
 replace q:=q.fr m
 refine zQM (decide (y8<(x2.length:Int))) h14 (fun c10=>?_) (fun c10=>?_)
 have c:=zAN c10 c
 refine HT.skip<|zQT<|HT.block ?_
 obtain ⟨e11,c⟩:=zA7 c
 refine zQU d j (eR u4::eI y8::eF (.qtr zA8 A (gtD x2 y8))::eF (.qtr (eSl (eInt .i64)) A ((gtD x2 y8).2))::eF (.rep (eSl (eInt .i64)) A ((gtD x2 y8).2))::eI (((gtD x2 y8).2).length:Int)::eI p1::eB (decide (p1<(((gtD x2 y8).2).length:Int)))::[]) ?_ ?_
 exact om h6<|om h7<|op (fun Q U W H D=>zAC ((f_u4.fr W).eq (D.g 0 Z)) (D.g 1 Z) underlying24 sizeOf54 e11)<|op (fun Q U W H D=>zBt (qt (D.g 0 Z)) zEn sizeOf52 (by decide) zBp Z)<|op (fun Q U W H D=>(zAT (QRep.ptr (D.g 0 Z)) isAgg52 sizeOf52))<|op (fun Q U W H D=>zAK (aT:=#[]) (D.g 0 Z) underlying52)<|om h1<|op (fun Q U W H D=>zDg (D.g 0 Z) (D.g 1 Z))<|oz
 intro R w m n p d j
 obtain ⟨h1,h5,h6,h7⟩:=k4 n h1 h5 h6 h7
 have h24:=p.r 7 Z
 replace f_u4:=f_u4.fr m
 replace q:=q.fr m
 refine zQM (decide (p1<(((gtD x2 y8).2).length:Int))) h24 (fun c12=>?_) (fun c12=>?_)
 have c:=zAN c12 c
 obtain ⟨e13,e14,c⟩:=ck2 c
 refine zQY [ob ul_u1 (.vec w0.heap.size 9 eStr y9)] (rR ul_u1::rR u4::rI y8::(rF fun A=>.qtr zA8 A (gtD x2 y8))::(rF fun A=>.qtr eStr A ((gtD x2 y8).1))::(rF fun A=>.rep eStr A ((gtD x2 y8).1))::(rF fun A=>.rep (eSl eStr) A ([(gtD x2 y8).1]:List (List UInt8)))::⟨_,true,[0],some (.vec w0.heap.size 9 eStr (y9++([(gtD x2 y8).1]:List (List UInt8)))),true,fun A=>.any⟩::⟨_,true,[8],some (.vec w0.heap.size 9 eStr (y9++([(gtD x2 y8).1]:List (List UInt8)))),true,fun A=>.any⟩::[]) (ur (ur (ur (UAll.cons zDl (UAll.cons zDl (up (up (ua (ua (UAll.nil)))))))))) q d ?_ ?_
 exact rm h5<|rm h6<|rm h7<|rp (fun V Q U O D=>zAC ((f_u4.stp O.stp).eq (D.g 0 Z)) (D.g 1 Z) underlying24 sizeOf54 e13)<|rp (fun V Q U O D=>zBt (qt (D.g 0 Z)) zLG sizeOf9 (by decide) zFI Z)<|rp (fun V Q U O D=>(zAT (QRep.ptr (D.g 0 Z)) isAgg9 sizeOf9))<|rp (fun V Q U O D=>zAe [_] (E:=eStr) ⟨(D.g 0 Z),N⟩ underlying34 sizeOf9 zeroValue9 Z Z Z O.av)<|rc (OblR.took 0 _ _ Z Z Z Z Z fun V Q U O D u X Y J L M=>by have a0:Q 25=ul_u1:=D.g 0 Z;have a1:Rep (eSl eStr) V U (Q 31) ([(gtD x2 y8).1]:List (List UInt8)):=D.g 1 Z;exact zAW (a0.trans (J _ Z).symm) X Y (Nat.le_trans j.size O.ch.size) a1 underlying34 el_9 e14)<|rc (OblR.took 8 _ _ Z Z Z Z Z fun V Q U O D u X Y J L M=>by exact zAD (L _ _ Z Z Z Z).symm X Y)<|rz
 intro done ρ σ A R w y s
 obtain ⟨h1,h6,h7⟩:=k3 s.rg h1 h6 h7
 obtain ⟨u15,e_u15⟩:∃ u,ρ 9=u:=⟨_,Z⟩
 have h5:=s.ov y 9 8 e_u15
 replace f_u4:=f_u4.stp s.stp
 obtain ⟨B,j,d⟩:=s.s B C j q ⟨Z,N⟩
 replace q:=s.left y [(9,ob u15 (.vec w0.heap.size 9 eStr (y9++([(gtD x2 y8).1]:List (List UInt8)))))] ⟨Z,Z,e_u15,Z,Z,N⟩
 obtain ⟨e16,c⟩:=zA7 c
 refine HT.u d j (eI y8::eI (y8+1)::eI (y8+1)::[]) ?_ ?_
 exact om h7<|op (fun Q U W H D=>zAS (D.g 0 Z) Z e16)<|oa<|oz
 intro R w m n p d j
 obtain ⟨h1,h5,h6⟩:=k3 n h1 h5 h6
 have h7:=p.r 2 Z
 replace f_u4:=f_u4.fr m
 replace q:=q.fr m
 exact ei k (And.intro (Nat.lt_succ_self k) ⟨_,_,_,u15,c,d,j,B,q,h1,h5,h6,h7,f_u4⟩)
 have c:=zAM c12 c
 refine HT.skip ?_
 obtain ⟨e17,c⟩:=zA7 c
 refine HT.u d j (eI y8::eI (y8+1)::eI (y8+1)::[]) ?_ ?_
 exact om h7<|op (fun Q U W H D=>zAS (D.g 0 Z) Z e17)<|oa<|oz
 intro R w m n p d j
 obtain ⟨h1,h5,h6⟩:=k3 n h1 h5 h6
 have h7:=p.r 2 Z
 replace f_u4:=f_u4.fr m
 replace q:=q.fr m
 exact ei k (And.intro (Nat.lt_succ_self k) ⟨_,_,_,ul_u1,c,d,j,B,q,h1,h5,h6,h7,f_u4⟩)
 have c:=zAM c10 c
 refine zQR ?_
 obtain rfl:=si c
 exact ei _ ⟨_,ul_u1,Z,d,j,B,q,h5⟩
 rintro R w ⟨A,s7,uo_u1,es,d,j,B,q,h5⟩
 obtain rfl:=es.symm
 refine zQU d j (eR uo_u1::eR uo_u1::[]) ?_ ?_
 exact om h5<|oa<|oz
 intro R w m n p d j
 have h4:=p.r 1 Z
 replace q:=q.fr m
 refine HT.ret ?_
 obtain rfl:=si c
 exact ⟨.inr Z,[R 4],⟨Z,N⟩,(zC7 (q.ok 0 _ Z) B h4),j⟩
theorem zFT {fu : Nat} {A0 : Av} {p0 : List zA4} {p1 : Int} {r : List (List UInt8)} (c : zC1 fu p0 p1 = some r) {w : World} {v0 : Value} {v1 : Value} (d : AvOK A0 w) (h0 : Rep (eSl zA0) A0 w v0 p0) (h1 : v1=.int .i64 p1) :
 Calls prog 19 #[v0,v1] w fun e w'=>∃ v,e=.returned v/\(Rep (eSl eStr) A0 w' v r/\Fr w w'):=by
 refine Calls.mono (zFf c d h0 h1) ?_
 rintro e w' ⟨v,he,hv,hf⟩
 exact ⟨v,he,zCB hv (fun b o h=>.inl h) d,hf⟩
def zBn (fu : Nat) (p0 : List (List UInt8)) (p1 : List (List UInt8)) : Nat -> Int -> Option (Ex Bool Unit)
 | 0,_=>none
 | k+1,y5=>
 bif (decide (y5<(p0.length:Int))) then (
 ck (inR y5 p0.length) <|
 ck (inR y5 p1.length) <|
 bif (!((gtD p0 y5)==(gtD p1 y5))) then (
 some (Ex.ret false)
 ) else (
 ck (i64B (y5+1)) <|
 zBn fu p0 p1 k (y5+1)
 )
 ) else (
 some (Ex.go ())
 )
def zDI (fu:Nat) (p0:List (List UInt8)) (p1:List (List UInt8)):Option Bool:=
 bif ((p0.length:Int) != (p1.length:Int)) then (
 some false
 ) else (
 cl true (zBn fu p0 p1 fu 0) fun rl2=>
 exM rl2 (fun r=>some r) fun s4=>
 some true
 )
theorem zGQ {fu : Nat} {A : Av} {p0 : List (List UInt8)} {p1 : List (List UInt8)} {r : Bool} (c : zDI fu p0 p1 = some r) {w : World} {v0 : Value} {v1 : Value} (d : AvOK A w) (h0 : Rep (eSl eStr) A w v0 p0) (h1 : Rep (eSl eStr) A w v1 p1) :
 Calls prog 31 #[v0,v1] w fun e w'=>∃ v,e=.returned v/\(v=.bool r/\Fr w w'):=by
 unfold zDI at c
 obtain ⟨w0,hw0,j⟩:=pf w
 rw [fw hw0]
 refine zA9 [.tmp 4] func31 ntmps31 (by decide) Z Z (nb Z) ?_
 intro R hR
 have f_v0:=h0
 replace h0:R 0=v0:=hR 0 _ Z
 have f_v1:=h1
 replace h1:R 1=v1:=hR 1 _ Z
 refine zQU d j (eB false::[]) ?_ ?_
 exact op (fun Q U W H D=>zA2 Z)<|oz
 intro R w m n p d j
 obtain ⟨h0,h1⟩:=k2 n h0 h1
 replace f_v0:=f_v0.fr m
 replace f_v1:=f_v1.fr m
 refine zQT<|zQU d j (eR v0::eI (p0.length:Int)::eR v1::eI (p1.length:Int)::eB ((p0.length:Int) != (p1.length:Int))::[]) ?_ ?_
 exact om h0<|op (fun Q U W H D=>zAK (aT:=#[]) ((f_v0.fr W).eq (D.g 0 Z)) underlying34)<|om h1<|op (fun Q U W H D=>zAK (aT:=#[]) ((f_v1.fr W).eq (D.g 0 Z)) underlying34)<|op (fun Q U W H D=>zH1 (D.g 0 Z) (D.g 1 Z))<|oz
 intro R w m n p d j
 obtain ⟨h0,h1⟩:=k2 n h0 h1
 have h10:=p.r 4 Z
 replace f_v0:=f_v0.fr m
 replace f_v1:=f_v1.fr m
 refine zQM ((p0.length:Int) != (p1.length:Int)) h10 (fun c1=>?_) (fun c1=>?_)
 have c:=zAN c1 c
 refine zQU d j (eB false::[]) ?_ ?_
 exact op (fun Q U W H D=>zA2 Z)<|oz
 intro R w m n p d j
 have h4:=p.r 0 Z
 refine HT.ret ?_
 obtain rfl:=si c
 exact ⟨.inr Z,[R 4],⟨Z,N⟩,h4,j⟩
 have c:=zAM c1 c
 refine HT.skip<|zQT<|zQU d j (eI 0::[]) ?_ ?_
 exact op (fun Q U W H D=>zA2 Z)<|oz
 intro R w m n p d j
 obtain ⟨h0,h1⟩:=k2 n h0 h1
 have h5:=p.r 0 Z
 replace f_v0:=f_v0.fr m
 replace f_v1:=f_v1.fr m
 obtain ⟨rl2,q3,c⟩:=zA6 c
 replace q3:=q3 Z
 refine zQO (fun R w=>∃ (s4:Unit),rl2=Ex.go s4/\AvOK A w/\Fr w0 w) ?_ ?_
 refine HT.block<|zQS (fun k R w=>∃ (y5:Int),zBn fu p0 p1 k y5=some rl2/\AvOK A w/\Fr w0 w/\R 0=v0/\R 1=v1/\R 5=.int .i64 y5/\Rep (eSl eStr) A w v0 p0/\Rep (eSl eStr) A w v1 p1) fu ⟨_,q3,d,j,h0,h1,h5,f_v0,f_v1⟩ ?_
 have hr0:=c;clear c q3
 rintro k R w ⟨y5,c,d,j,h0,h1,h5,f_v0,f_v1⟩
 rcases k with _ | k
 cases (show none=some _ from c)
 rw [zBn] at c
 refine zQT<|zQU d j (eI y5::eR v0::eI (p0.length:Int)::eB (decide (y5<(p0.length:Int)))::[]) ?_ ?_
 exact om h5<|om h0<|op (fun Q U W H D=>zAK (aT:=#[]) ((f_v0.fr W).eq (D.g 0 Z)) underlying34)<|op (fun Q U W H D=>zAk (D.g 0 Z) (D.g 1 Z))<|oz
 intro R w m n p d j
 obtain ⟨h0,h1,h5⟩:=k3 n h0 h1 h5
 have h14:=p.r 3 Z
 replace f_v0:=f_v0.fr m
 replace f_v1:=f_v1.fr m
 refine zQM (decide (y5<(p0.length:Int))) h14 (fun c6=>?_) (fun c6=>?_)
 have c:=zAN c6 c
 refine HT.skip<|zQT<|HT.block<|zQT ?_
 obtain ⟨e7,e8,c⟩:=ck2 c
 refine zQP (by kernel_rfl) (l:=eR v0::eI y5::eF (.qtr eStr A (gtD p0 y5))::eF (.rep eStr A (gtD p0 y5))::eR v1::eI y5::eF (.qtr eStr A (gtD p1 y5))::eF (.rep eStr A (gtD p1 y5))::eB (!((gtD p0 y5)==(gtD p1 y5)))::[]) (tl:=[]) (by kernel_rfl) (by kernel_rfl) (by kernel_rfl) (by kernel_rfl) ?_ ?_
 exact om h0<|om h5<|op (fun Q U W H D=>zAC ((f_v0.fr W).eq (D.g 0 Z)) (D.g 1 Z) underlying34 sizeOf9 e7)<|op (fun Q U W H D=>(zAT (QRep.ptr (D.g 0 Z)) isAgg9 sizeOf9))<|om h1<|om h5<|op (fun Q U W H D=>zAC ((f_v1.fr W).eq (D.g 0 Z)) (D.g 1 Z) underlying34 sizeOf9 e8)<|op (fun Q U W H D=>(zAT (QRep.ptr (D.g 0 Z)) isAgg9 sizeOf9))<|op (fun Q U W H D=>zGV (D.g 0 Z) (D.g 1 Z))<|oz
 intro R w m n p
 obtain ⟨h0,h1,h5⟩:=k3 n h0 h1 h5
 have h25:=p.r 8 Z
 replace f_v0:=f_v0.fr m
 replace f_v1:=f_v1.fr m
 replace d:=d.fr m.size
 replace j:=j.trans m
 refine zQM (!((gtD p0 y5)==(gtD p1 y5))) h25 (fun c9=>?_) (fun c9=>?_)
 have c:=zAN c9 c
 refine zQU d j (eB false::[]) ?_ ?_
 exact op (fun Q U W H D=>zA2 Z)<|oz
 intro R w m n p d j
 have h4:=p.r 0 Z
 refine HT.ret ?_
 obtain rfl:=si c
 have c:=hr0
 replace c:some _=some _:=c
 obtain rfl:=si c
 exact ⟨.inr Z,[R 4],⟨Z,N⟩,h4,j⟩
 have c:=zAM c9 c
 refine HT.skip ?_
 obtain ⟨e10,c⟩:=zA7 c
 refine HT.u d j (eI y5::eI (y5+1)::eI (y5+1)::[]) ?_ ?_
 exact om h5<|op (fun Q U W H D=>zAS (D.g 0 Z) Z e10)<|oa<|oz
 intro R w m n p d j
 obtain ⟨h0,h1⟩:=k2 n h0 h1
 have h5:=p.r 2 Z
 replace f_v0:=f_v0.fr m
 replace f_v1:=f_v1.fr m
 exact ei k (And.intro (Nat.lt_succ_self k) ⟨_,c,d,j,h0,h1,h5,f_v0,f_v1⟩)
 have c:=zAM c6 c
 refine zQR ?_
 obtain rfl:=si c
 exact ei _ ⟨Z,d,j⟩
 rintro R w ⟨s4,rfl,d,j⟩
 have c:=zF3 c
 refine zQU d j (eB true::[]) ?_ ?_
 exact op (fun Q U W H D=>zA2 Z)<|oz
 intro R w m n p d j
 have h4:=p.r 0 Z
 refine HT.ret ?_
 obtain rfl:=si c
 exact ⟨.inr Z,[R 4],⟨Z,N⟩,h4,j⟩
def zBs (fu:Nat) (p0:zA4):Option (List (List UInt8)):=
 cl true (zCE fu p0) fun x2=>
 bif (!x2) then (
 some ([]:List (List UInt8))
 ) else (
 cl true (zCH fu p0) fun x6=>
 some x6
 )
theorem zHA {fu : Nat} {A0 : Av} {p0 : zA4} {r : List (List UInt8)} (c : zBs fu p0 = some r) {w : World} {v0 : Value} (d : AvOK A0 w) (hG : GTab w) (h0 : Rep zA0 A0 w v0 p0) :
 Calls prog 33 #[v0] w fun e w'=>∃ v,e=.returned v/\((Res.vec w.heap.size 9 eStr r).ok (addA A0 v) v w'/\Fr w w'):=by
 unfold zBs at c
 obtain ⟨w0,hw0,j,C⟩:=pw d
 have hA00:AvOK A0 w0:=C
 rw [fh hw0]
 rw [fw hw0]
 have hG0:GTab w0:=hw0 ▸ hG
 obtain ⟨A,hAe,B,d,q⟩:=pa d
 refine zA9 [.tmp 2] func33 ntmps33 (by decide) Z Z (nb Z) ?_
 intro R hR
 have f_v0:Rep zA0 A w v0 p0:=hAe ▸ h0
 replace h0:R 0=v0:=hR 0 _ Z
 refine zQV [] (⟨_,true,[],some (.box w0.heap.size 51 zA0 p0),true,fun A=>.any⟩::rA::[]) (ua (ua (UAll.nil))) q d ?_ ?_
 exact rc (OblR.made _ Z Z Z Z fun V Q U O D=>by have a0:Q 0=v0:=(O.old 0 Z).trans h0;have ra0:=(f_v0.stp O.stp).eq a0;exact zEe ra0 (Nat.le_trans j.size O.ch.size))<|rp (fun V Q U O D=>zA2 N)<|rz
 intro done ρ σ A R w y s
 obtain ⟨b1_0,e_b1_0⟩:=s.boxv y 0 Z Z
 have h1:=s.ov y 0 0 e_b1_0
 obtain ⟨B,j,d⟩:=s.s B C j q N
 replace q:=s.left y [(0,ob (.pointer (some ⟨b1_0,0,none⟩)) (.box w0.heap.size 51 zA0 p0))] ⟨Z,Z,e_b1_0,Z,Z,N⟩
 refine zQT ?_
 obtain ⟨x2,q3,c⟩:=zA6 c
 refine zQU d j (eF (.rep zA0 A p0)::eB x2::eB (!x2)::[]) ?_ ?_
 exact op (fun Q U W H D=>(zAJ ((q.fr W).ok 0 _ Z).1 ((H 1 Z).trans h1) (Fld.id _) Z isAgg51 sizeOf51))<|op (fun Q U W H D=>zAI call57 (zEd (q3 Z) (d.fr W.size) (D.g 0 Z)))<|op (fun Q U W H D=>zDU (D.g 0 Z))<|oz
 intro R w m n p d j
 replace h1:=k1 n h1
 have h5:=p.r 2 Z
 replace q:=q.fr m
 refine zQM (!x2) h5 (fun c4=>?_) (fun c4=>?_)
 have c:=zAN c4 c
 refine zQU d j (eR (.slice none 0 0)::[]) ?_ ?_
 exact op (fun Q U W H D=>zA2 Z)<|oz
 intro R w m n p d j
 obtain ⟨u5,n_u5⟩:∃ u,u=Value.slice none 0 0:=⟨_,Z⟩
 have h2:R 2=u5:=(p 0 _ _ Z Z Z).trans n_u5.symm
 replace q:=q.fr m
 replace q:IniOK [] A w:=q.sub [] N
 replace q:=q.nilcons (u:=u5) n_u5 w0.heap.size 9 eStr
 refine HT.ret ?_
 obtain rfl:=si c
 exact ⟨.inr Z,[R 2],⟨Z,N⟩,(zC7 (q.ok 0 _ Z) B h2),j⟩
 have c:=zAM c4 c
 refine HT.skip ?_
 obtain ⟨x6,q7,c⟩:=zA6 c
 refine zQV [ob (.pointer (some ⟨b1_0,0,none⟩)) (.box w0.heap.size 51 zA0 p0)] ((rF fun A=>.rep zA0 A p0)::⟨_,true,[],some (.vec w0.heap.size 9 eStr x6),true,fun A=>.any⟩::⟨_,true,[2],some (.vec w0.heap.size 9 eStr x6),true,fun A=>.any⟩::[]) (up (ua (ua (UAll.nil)))) q d ?_ ?_
 exact rp (fun V Q U O D=>(zAJ (O.rd 0 _ Z Z) ((O.old 1 Z).trans h1) (Fld.id _) Z isAgg51 sizeOf51))<|rc (OblR.made _ Z Z Z Z fun V Q U O D=>by have a0:Rep zA0 V U (Q 6) p0:=D.g 0 Z;exact zGY call41 (zFO (q7 Z) O.av (hG0.fr (j.tr O.ch (q.ge (⟨Z,N⟩)))) a0) (Nat.le_trans j.size O.ch.size))<|rc (OblR.took 2 _ _ Z Z Z Z Z fun V Q U O D u X Y J L M=>by exact zAD (L _ _ Z Z Z Z).symm X Y)<|rz
 intro done ρ σ A R w y s
 have z8:=s.inivR 0 Z
 obtain ⟨u9,e_u9⟩:∃ u,ρ 3=u:=⟨_,Z⟩
 have h2:=s.ov y 3 2 e_u9
 obtain ⟨B,j,d⟩:=s.s B C j q ⟨Z,N⟩
 replace q:=s.left y [(3,ob u9 (.vec w0.heap.size 9 eStr x6))] ⟨Z,Z,e_u9,Z,Z,N⟩
 refine HT.ret ?_
 obtain rfl:=si c
 exact ⟨.inr Z,[R 2],⟨Z,N⟩,(zC7 (q.ok 0 _ Z) B h2),j⟩
theorem zE3 {fu : Nat} {A0 : Av} {p0 : zA4} {r : List (List UInt8)} (c : zBs fu p0 = some r) {w : World} {v0 : Value} (d : AvOK A0 w) (hG : GTab w) (h0 : Rep zA0 A0 w v0 p0) :
 Calls prog 33 #[v0] w fun e w'=>∃ v,e=.returned v/\(Rep (eSl eStr) A0 w' v r/\Fr w w'):=by
 refine Calls.mono (zHA c d hG h0) ?_
 rintro e w' ⟨v,he,hv,hf⟩
 exact ⟨v,he,zCB hv (fun b o h=>.inl h) d,hf⟩
def zAl (fu : Nat) (p0 : List (List UInt8)) (p1 : List UInt8) : Nat -> Int -> Option (Ex Int Unit)
 | 0,_=>none
 | k+1,y4=>
 bif (decide (y4<(p0.length:Int))) then (
 ck (inR y4 p0.length) <|
 bif (p1==(gtD p0 y4)) then (
 some (Ex.ret y4)
 ) else (
 ck (i64B (y4+1)) <|
 zAl fu p0 p1 k (y4+1)
 )
 ) else (
 some (Ex.go ())
 )
def zCA (fu:Nat) (p0:List (List UInt8)) (p1:List UInt8):Option Int:=
 cl true (zAl fu p0 p1 fu 0) fun rl1=>
 exM rl1 (fun r=>some r) fun s3=>
 some (-1)
theorem zEq {fu : Nat} {A : Av} {p0 : List (List UInt8)} {p1 : List UInt8} {r : Int} (c : zCA fu p0 p1 = some r) {w : World} {v0 : Value} {v1 : Value} (d : AvOK A w) (h0 : Rep (eSl eStr) A w v0 p0) (h1 : Rep eStr A w v1 p1) :
 Calls prog 122 #[v0,v1] w fun e w'=>∃ v,e=.returned v/\(v=.int .i64 r/\Fr w w'):=by
 unfold zCA at c
 obtain ⟨w0,hw0,j⟩:=pf w
 rw [fw hw0]
 refine zA9 [.tmp 4] func122 ntmps122 (by decide) Z Z (nb Z) ?_
 intro R hR
 have f_v0:=h0
 replace h0:R 0=v0:=hR 0 _ Z
 have f_v1:=h1
 replace h1:R 1=v1:=hR 1 _ Z
 refine zQU d j (eI 0::[]) ?_ ?_
 exact op (fun Q U W H D=>zA2 Z)<|oz
 intro R w m n p d j
 obtain ⟨h0,h1⟩:=k2 n h0 h1
 replace f_v0:=f_v0.fr m
 replace f_v1:=f_v1.fr m
 refine zQT<|zQU d j (eR v0::eI (p0.length:Int)::eI 0::[]) ?_ ?_
 exact om h0<|op (fun Q U W H D=>zAK (aT:=#[]) ((f_v0.fr W).eq (D.g 0 Z)) underlying34)<|op (fun Q U W H D=>zBj Z)<|oz
 intro R w m n p d j
 obtain ⟨h0,h1⟩:=k2 n h0 h1
 have h7:=p.r 1 Z
 have h8:=p.r 2 Z
 replace f_v0:=f_v0.fr m
 replace f_v1:=f_v1.fr m
 obtain ⟨rl1,q2,c⟩:=zA6 c
 replace q2:=q2 Z
 refine zQO (fun R w=>∃ (s3:Unit),rl1=Ex.go s3/\AvOK A w/\Fr w0 w) ?_ ?_
 refine HT.block<|zQS (fun k R w=>∃ (y4:Int),zAl fu p0 p1 k y4=some rl1/\AvOK A w/\Fr w0 w/\R 0=v0/\R 1=v1/\R 7=.int .i64 (p0.length:Int)/\R 8=.int .i64 y4/\Rep (eSl eStr) A w v0 p0/\Rep eStr A w v1 p1) fu ⟨_,q2,d,j,h0,h1,h7,h8,f_v0,f_v1⟩ ?_
 have hr0:=c;clear c q2
 rintro k R w ⟨y4,c,d,j,h0,h1,h7,h8,f_v0,f_v1⟩
 rcases k with _ | k
 cases (show none=some _ from c)
 rw [zAl] at c
 refine zQU d j (eB (decide (y4<(p0.length:Int)))::[]) ?_ ?_
 exact op (fun Q U W H D=>zAk ((H 8 Z).trans h8) ((H 7 Z).trans h7))<|oz
 intro R w m n p d j
 obtain ⟨h0,h1,h7,h8⟩:=k4 n h0 h1 h7 h8
 have h9:=p.r 0 Z
 replace f_v0:=f_v0.fr m
 replace f_v1:=f_v1.fr m
 refine zQT<|zQM (decide (y4<(p0.length:Int))) h9 (fun c5=>?_) (fun c5=>?_)
 have c:=zAN c5 c
 refine HT.skip<|zQT<|HT.block<|zQU d j (eI y4::eI y4::[]) ?_ ?_
 exact om h8<|oa<|oz
 intro R w m n p d j
 obtain ⟨h0,h1,h7,h8⟩:=k4 n h0 h1 h7 h8
 have h5:=p.r 1 Z
 replace f_v0:=f_v0.fr m
 replace f_v1:=f_v1.fr m
 obtain ⟨e6,c⟩:=zA7 c
 refine zQU d j (eR v1::eR v0::eI y4::eF (.qtr eStr A (gtD p0 y4))::eF (.rep eStr A (gtD p0 y4))::eB (p1==(gtD p0 y4))::[]) ?_ ?_
 exact om h1<|om h0<|om h5<|op (fun Q U W H D=>zAC ((f_v0.fr W).eq (D.g 0 Z)) (D.g 1 Z) underlying34 sizeOf9 e6)<|op (fun Q U W H D=>(zAT (QRep.ptr (D.g 0 Z)) isAgg9 sizeOf9))<|op (fun Q U W H D=>zBv ((f_v1.fr W).eq (D.g 0 Z)) (D.g 1 Z))<|oz
 intro R w m n p d j
 obtain ⟨h0,h1,h5,h7,h8⟩:=k5 n h0 h1 h5 h7 h8
 have h16:=p.r 5 Z
 replace f_v0:=f_v0.fr m
 replace f_v1:=f_v1.fr m
 refine zQM (p1==(gtD p0 y4)) h16 (fun c7=>?_) (fun c7=>?_)
 have c:=zAN c7 c
 refine zQU d j (eI y4::eI y4::[]) ?_ ?_
 exact om h5<|oa<|oz
 intro R w m n p d j
 have h4:=p.r 1 Z
 refine HT.ret ?_
 obtain rfl:=si c
 have c:=hr0
 replace c:some _=some _:=c
 obtain rfl:=si c
 exact ⟨.inr Z,[R 4],⟨Z,N⟩,h4,j⟩
 have c:=zAM c7 c
 refine HT.skip ?_
 obtain ⟨e8,c⟩:=zA7 c
 refine HT.u d j (eI (y4+1)::eI (y4+1)::[]) ?_ ?_
 exact op (fun Q U W H D=>zAS ((H 8 Z).trans h8) Z e8)<|ov<|oz
 intro R w m n p d j
 obtain ⟨h0,h1,h7⟩:=k3 n h0 h1 h7
 have h8:=p.r 1 Z
 replace f_v0:=f_v0.fr m
 replace f_v1:=f_v1.fr m
 exact ei k (And.intro (Nat.lt_succ_self k) ⟨_,c,d,j,h0,h1,h7,h8,f_v0,f_v1⟩)
 have c:=zAM c5 c
 refine zQR ?_
 obtain rfl:=si c
 exact ei _ ⟨Z,d,j⟩
 rintro R w ⟨s3,rfl,d,j⟩
 have c:=zF3 c
 refine zQU d j (eI (-1)::[]) ?_ ?_
 exact op (fun Q U W H D=>zA2 Z)<|oz
 intro R w m n p d j
 have h4:=p.r 0 Z
 refine HT.ret ?_
 obtain rfl:=si c
 exact ⟨.inr Z,[R 4],⟨Z,N⟩,h4,j⟩
def zBN (fu:Nat) (p0:List (List UInt8)) (p1:List UInt8):Option Bool:=
 cl true (zCA fu p0 p1) fun x1=>
 some (decide (0<=x1))
theorem zEP {fu : Nat} {A : Av} {p0 : List (List UInt8)} {p1 : List UInt8} {r : Bool} (c : zBN fu p0 p1 = some r) {w : World} {v0 : Value} {v1 : Value} (d : AvOK A w) (h0 : Rep (eSl eStr) A w v0 p0) (h1 : Rep eStr A w v1 p1) :
 Calls prog 88 #[v0,v1] w fun e w'=>∃ v,e=.returned v/\(v=.bool r/\Fr w w'):=by
 unfold zBN at c
 obtain ⟨w0,hw0,j⟩:=pf w
 rw [fw hw0]
 refine zA9 [.tmp 4] func88 ntmps88 (by decide) Z Z (nb Z) ?_
 intro R hR
 have f_v0:=h0
 replace h0:R 0=v0:=hR 0 _ Z
 have f_v1:=h1
 replace h1:R 1=v1:=hR 1 _ Z
 refine zQU d j (eB false::[]) ?_ ?_
 exact op (fun Q U W H D=>zA2 Z)<|oz
 intro R w m n p d j
 obtain ⟨h0,h1⟩:=k2 n h0 h1
 replace f_v0:=f_v0.fr m
 replace f_v1:=f_v1.fr m
 obtain ⟨x1,q2,c⟩:=zA6 c
 refine zQU d j (eR v0::eR v1::eI x1::eB (decide (0<=x1))::eB (decide (0<=x1))::[]) ?_ ?_
 exact om h0<|om h1<|op (fun Q U W H D=>zAI call122 (zEq (q2 Z) (d.fr W.size) ((f_v0.fr W).eq (D.g 0 Z)) ((f_v1.fr W).eq (D.g 1 Z))))<|op (fun Q U W H D=>zE8 (D.g 0 Z) Z)<|oa<|oz
 intro R w m n p d j
 have h4:=p.r 4 Z
 refine HT.ret ?_
 obtain rfl:=si c
 exact ⟨.inr Z,[R 4],⟨Z,N⟩,h4,j⟩
def zDG (fu:Nat) (p0:List UInt8) (p1:List (List UInt8)):Option Bool:=
 cl true (zBN fu p1 p0) fun x1=>
 some (!x1)
theorem zFs {fu : Nat} {A : Av} {p0 : List UInt8} {p1 : List (List UInt8)} {r : Bool} (c : zDG fu p0 p1 = some r) {w : World} {v0 : Value} {v1 : Value} (d : AvOK A w) (h0 : Rep eStr A w v0 p0) (h1 : PRep (eSl eStr) A w v1 p1) :
 Calls prog 87 #[v0,v1] w fun e w'=>∃ v,e=.returned v/\(v=.bool r/\Fr w w'):=by
 unfold zDG at c
 obtain ⟨w0,hw0,j⟩:=pf w
 rw [fw hw0]
 have f_v1:CRep (eSl eStr) A w w0.heap.size v1 p1:=by subst hw0;exact CRep.mk' h1
 refine zA9 [.tmp 3] func87 ntmps87 (by decide) Z Z (nb Z) ?_
 intro R hR
 have f_v0:=h0
 replace h0:R 0=v0:=hR 0 _ Z
 replace h1:R 1=v1:=hR 1 _ Z
 refine zQU d j (eB false::[]) ?_ ?_
 exact op (fun Q U W H D=>zA2 Z)<|oz
 intro R w m n p d j
 obtain ⟨h0,h1⟩:=k2 n h0 h1
 replace f_v1:=f_v1.fr m
 replace f_v0:=f_v0.fr m
 obtain ⟨x1,q2,c⟩:=zA6 c
 refine zQU d j (eF (.rep (eSl eStr) A p1)::eR v0::eB x1::eB (!x1)::eB (!x1)::[]) ?_ ?_
 exact op (fun Q U W H D=>(zAT ((f_v1.fr W).ptr ((H 1 Z).trans h1)) isAgg34 sizeOf34))<|om h0<|op (fun Q U W H D=>zAI call88 (zEP (q2 Z) (d.fr W.size) (D.g 0 Z) ((f_v0.fr W).eq (D.g 1 Z))))<|op (fun Q U W H D=>zDU (D.g 0 Z))<|oa<|oz
 intro R w m n p d j
 have h3:=p.r 4 Z
 refine HT.ret ?_
 obtain rfl:=si c
 exact ⟨.inr Z,[R 3],⟨Z,N⟩,h3,j⟩
def zAV (fu : Nat) (p1 : (List UInt8) -> Option Bool) : Nat -> Int -> Int -> (List (List UInt8)) -> Option (Int × (List (List UInt8)))
 | 0,_,_,_=>none
 | k+1,y8,y9,y10=>
 bif (decide (y9<(y10.length:Int))) then (
 ck (inR y9 y10.length) <|
 cl true (p1 (gtD y10 y9)) fun x14=>
 bif (!x14) then (
 ck (inR y8 y10.length) <|
 ck (i64B (y8+1)) <|
 ck (i64B (y9+1)) <|
 zAV fu p1 k (y8+1) (y9+1) (y10.set y8.toNat (gtD y10 y9))
 ) else (
 ck (i64B (y9+1)) <|
 zAV fu p1 k y8 (y9+1) y10
 )
 ) else (
 some (y8,y10)
 )
def zBD (fu:Nat) (p0:List (List UInt8)) (p1:(List UInt8)->Option Bool):Option (List (List UInt8)):=
 cl true (zB1 fu p0 p1) fun x1=>
 bif (x1==(-1)) then (
 some p0
 ) else (
 ck (i64B (x1+1)) <|
 cl true (zAV fu p1 fu x1 (x1+1) p0) fun s7=>
 ck (subR s7.1 (s7.2.length:Int) s7.2.length) <|
 bd ((s7.2.length:Int).toNat-s7.1.toNat) fun x24=>
 ck (subR s7.1 s7.2.length s7.2.length) <|
 ck (x24==s7.2.length-s7.1.toNat) <|
 ck (subR 0 s7.1 (s7.2.take s7.1.toNat++List.replicate (s7.2.length-s7.1.toNat) ([]:List UInt8)).length) <|
 some (subL (s7.2.take s7.1.toNat++List.replicate (s7.2.length-s7.1.toNat) ([]:List UInt8)) 0 s7.1)
 )
theorem zED {fu : Nat} {A0 : Av} {p0 : List (List UInt8)} {p1 : (List UInt8) -> Option Bool} {r : List (List UInt8)} (c : zBD fu p0 p1 = some r) {w : World} {v0 : Value} {v1 : Value} {B0 : Nat} (d : AvOK A0 w) (K : ∀ b o, A0 b o -> ¬ zAB v0 b) (h0 : (Res.vec B0 9 eStr p0).ok A0 v0 w) (h1 : FnK1 prog eStr (fun r => .raw (.bool r)) A0 (zAB v0) w v1 p1) :
 Calls prog 86 #[v0,v1] w fun e w'=>∃ v,e=.returned v/\Took (addA A0 v0) true v0 (.vec B0 9 eStr r) (fun _=>.any) w v w':=by
 unfold zBD at c
 obtain ⟨w0,hw0,C⟩:=pc d
 have j:Ch (zAB v0) w0 w:=hw0 ▸ Ch.refl _ _
 have hA00:AvOK A0 w0:=C
 rw [show Took (addA A0 v0) true v0 (.vec B0 9 eStr r) (fun _=>.any) w=Took (addA A0 v0) true v0 (.vec B0 9 eStr r) (fun _=>.any) w0 from hw0 ▸ Z]
 have f_v1:FnK1 prog eStr (fun r=>.raw (.bool r)) A0 (zAB v0) w0 v1 p1:=hw0 ▸ h1
 obtain ⟨A,hAe⟩:∃ A,A=addA A0 v0:=⟨_,Z⟩
 have B:∀ b o,A0 b o->A b o:=fun b o h=>hAe ▸ .inl h
 replace d:AvOK A w:=hAe ▸ d.one h0
 have q:IniOK [ob v0 (.vec B0 9 eStr p0)] A w:=hAe ▸ IniOK.one h0 (fun _ _ _ _ _ h=>h)
 refine zA9 [.tmp 4] func86 ntmps86 (by decide) Z Z (nb Z) ?_
 intro R hR
 replace h0:R 0=v0:=hR 0 _ Z
 replace h1:R 1=v1:=hR 1 _ Z
 refine zQT<|zQW (eA::[]) ?_ ?_
 exact op (fun Q U W H D=>zA2 N)<|oz
 intro R w m n p
 obtain ⟨h0,h1⟩:=k2 n h0 h1
 replace q:=q.fr m
 replace d:=d.fr m.size
 replace j:=j.tr (m.ch noB) fun _ h=>False.elim h
 refine zQT ?_
 obtain ⟨x1,q2,c⟩:=zA6 c
 refine zQW (eR v0::eR v1::eI x1::eI x1::[]) ?_ ?_
 exact om h0<|om h1<|op (fun Q U W H D=>zAI call121 (zD3 (q2 Z) (hA00.fr ((Nat.le_trans j.size W.size))) ((zHO ((q.fr W).ok 0 _ Z).1 B C K (fun k h=>.inr h)).eq (D.g 0 Z)) ((f_v1.on (j.tr (W.ch noB) fun _ h=>False.elim h) (fun _ _ h=>False.elim h) (fun _ _ h=>h)).eq (D.g 1 Z))))<|oa<|oz
 intro R w m n p
 obtain ⟨h0,h1⟩:=k2 n h0 h1
 have h5:=p.r 3 Z
 replace q:=q.fr m
 replace d:=d.fr m.size
 replace j:=j.tr (m.ch noB) fun _ h=>False.elim h
 refine zQT<|zQT<|zQW (eI x1::eB (x1==(-1))::[]) ?_ ?_
 exact om h5<|op (fun Q U W H D=>zDM (D.g 0 Z) Z)<|oz
 intro R w m n p
 obtain ⟨h0,h1,h5⟩:=k3 n h0 h1 h5
 have h12:=p.r 1 Z
 replace q:=q.fr m
 replace d:=d.fr m.size
 replace j:=j.tr (m.ch noB) fun _ h=>False.elim h
 refine zQM (x1==(-1)) h12 (fun c3=>?_) (fun c3=>?_)
 have c:=zAN c3 c
 refine zQT<|zQW (eR v0::eR v0::[]) ?_ ?_
 exact om h0<|oa<|oz
 intro R w m n p
 have h4:=p.r 1 Z
 replace q:=q.fr m
 replace d:=d.fr m.size
 replace j:=j.tr (m.ch noB) fun _ h=>False.elim h
 refine HT.ret ?_
 obtain rfl:=si c
 exact ⟨.inr Z,[R 4],⟨Z,N⟩,by show Took _ true _ _ _ w0 (R 4) w;rw [h4];exact zDe (fun k h o=>.inr h) j (q.ok 0 _ Z).1 (q.own_ge (⟨.inr (fun k h=>.inr h),N⟩) (i:=0) Z) (fun _ _ _ _ _ h=>h)⟩
 have c:=zAM c3 c
 refine HT.skip<|zQT<|zQT ?_
 obtain ⟨e4,c⟩:=zA7 c
 refine zQW (eI x1::eI (x1+1)::eI (x1+1)::[]) ?_ ?_
 exact om h5<|op (fun Q U W H D=>zAS (D.g 0 Z) Z e4)<|oa<|oz
 intro R w m n p
 obtain ⟨h0,h1,h5⟩:=k3 n h0 h1 h5
 have h6:=p.r 2 Z
 replace q:=q.fr m
 replace d:=d.fr m.size
 replace j:=j.tr (m.ch noB) fun _ h=>False.elim h
 obtain ⟨rl5,q6,c⟩:=zA6 c
 replace q6:=q6 Z
 refine zQO (fun R w=>∃ A:Av,∃ (s7:Int × (List (List UInt8))),rl5=s7/\AvOK A w/\Ch (zAB v0) w0 w/\(∀ b o,A0 b o->A b o)/\IniOK [ob v0 (.vec B0 9 eStr s7.2)] A w/\R 0=v0/\R 5=.int .i64 s7.1) ?_ ?_
 refine HT.block<|zQS (fun k R w=>∃ A:Av,∃ (y8:Int) (y9:Int) (y10:List (List UInt8)),zAV fu p1 k y8 y9 y10=some rl5/\AvOK A w/\Ch (zAB v0) w0 w/\(∀ b o,A0 b o->A b o)/\IniOK [ob v0 (.vec B0 9 eStr y10)] A w/\R 0=v0/\R 1=v1/\R 5=.int .i64 y8/\R 6=.int .i64 y9) fu ⟨_,_,_,_,q6,d,j,B,q,h0,h1,h5,h6⟩ ?_
 have hr0:=c;clear c q6
 rintro k R w ⟨A,y8,y9,y10,c,d,j,B,q,h0,h1,h5,h6⟩
 rcases k with _ | k
 cases (show none=some _ from c)
 rw [zAV] at c
 refine zQT<|zQT<|zQW (eI y9::eR v0::eI (y10.length:Int)::eB (decide (y9<(y10.length:Int)))::[]) ?_ ?_
 exact om h6<|om h0<|op (fun Q U W H D=>zBu (q.ok 0 _ Z).1 (D.g 0 Z) underlying34)<|op (fun Q U W H D=>zAk (D.g 0 Z) (D.g 1 Z))<|oz
 intro R w m n p
 obtain ⟨h0,h1,h5,h6⟩:=k4 n h0 h1 h5 h6
 have h19:=p.r 3 Z
 replace q:=q.fr m
 replace d:=d.fr m.size
 replace j:=j.tr (m.ch noB) fun _ h=>False.elim h
 refine zQM (decide (y9<(y10.length:Int))) h19 (fun c11=>?_) (fun c11=>?_)
 have c:=zAN c11 c
 refine HT.skip<|zQT<|HT.block<|zQT ?_
 obtain ⟨e12,c⟩:=zA7 c
 refine zQW (eR v0::eI y9::eR (vptr v0 (y9.toNat*1))::eF (.rep eStr A (gtD y10 y9))::eF (.rep eStr A (gtD y10 y9))::[]) ?_ ?_
 exact om h0<|om h6<|op (fun Q U W H D=>zAb (q.ok 0 _ Z).1 (D.g 0 Z) (D.g 1 Z) underlying34 sizeOf9 e12 Z)<|op (fun Q U W H D=>(zBK ((q.fr W).ok 0 _ Z).1 (D.g 0 Z) e12 Z (Fld.id _) Z isAgg9 sizeOf9))<|op (fun Q U W H D=>zA2 (D.g 0 Z))<|oz
 intro R w m n p
 obtain ⟨h0,h1,h5,h6⟩:=k4 n h0 h1 h5 h6
 obtain ⟨u13,h7,f_u13⟩:∃ u,R 7=u/\Rep eStr A w u (gtD y10 y9):=⟨_,Z,p 4 _ _ Z Z Z⟩
 replace q:=q.fr m
 replace d:=d.fr m.size
 replace j:=j.tr (m.ch noB) fun _ h=>False.elim h
 refine zQT ?_
 obtain ⟨x14,q15,c⟩:=zA6 c
 refine zQW (eR v1::eR u13::eB x14::eB (!x14)::[]) ?_ ?_
 exact om h1<|om h7<|op (fun Q U W H D=>by have ra1:=(f_u13.fr W).eq (D.g 1 Z);exact zIP (D.g 0 Z) (f_v1 _ _ (q15 Z) _ _ (j.tr (W.ch noB) fun _ h=>False.elim h) (hA00.fr (Nat.le_trans j.size W.size)) (ra1.less B)))<|op (fun Q U W H D=>zDU (D.g 0 Z))<|oz
 intro R w m n p
 obtain ⟨h0,h1,h5,h6,h7⟩:=k5 n h0 h1 h5 h6 h7
 have h29:=p.r 3 Z
 replace f_u13:=f_u13.fr m
 replace q:=q.fr m
 replace d:=d.fr m.size
 replace j:=j.tr (m.ch noB) fun _ h=>False.elim h
 refine zQM (!x14) h29 (fun c16=>?_) (fun c16=>?_)
 have c:=zAN c16 c
 obtain ⟨e17,c⟩:=zA7 c
 refine zQV [ob v0 (.vec B0 9 eStr y10)] (rR v0::rI y8::rR u13::rR (vptr v0 (y8.toNat*1))::⟨_,true,[0],some (.vec B0 9 eStr (y10.set y8.toNat (gtD y10 y9))),false,fun A=>.any⟩::[]) (ur (ur (ur (ur (ua (UAll.nil)))))) q d ?_ ?_
 exact rm h0<|rm h5<|rm h7<|rp (fun V Q U O D=>zAb (q.ok 0 _ Z).1 (D.g 0 Z) (D.g 1 Z) underlying34 sizeOf9 e17 Z)<|rc (OblR.took 0 _ _ Z Z Z Z Z fun V Q U O D u X Y J L M=>by have a0:Q 33=(vptr v0 (y8.toNat*1)):=D.g 0 Z;have a1:Q 32=u13:=D.g 1 Z;have ra1:=(f_u13.stp O.stp).eq a1;obtain rfl:=J _ Z;exact zFu ra1 X Y a0 e17 Z (FldS.id _) sizeOf9 Z)<|rz
 intro done ρ σ A R w y s
 obtain ⟨h0,h1,h5,h6⟩:=k4 s.rg h0 h1 h5 h6
 have z18:=s.inivR 0 Z
 have z19:=s.on y 5 4 Z Z Z Z Z z18
 replace B:=s.lowK B C K (q.geK (⟨.inr (fun k h=>.inr h),N⟩))
 replace j:Ch (zAB v0) w0 w:=j.tr s.ch (q.geK (⟨.inr (fun k h=>.inr h),N⟩))
 replace q:=s.left y [(5,ob v0 (.vec B0 9 eStr (y10.set y8.toNat (gtD y10 y9))))] ⟨Z,Z,z19,Z,Z,N⟩
 replace d:=s.avok
 obtain ⟨e20,c⟩:=zA7 c
 refine zQW (eI y8::eI (y8+1)::eI (y8+1)::[]) ?_ ?_
 exact om h5<|op (fun Q U W H D=>zAS (D.g 0 Z) Z e20)<|oa<|oz
 intro R w m n p
 obtain ⟨h0,h1,h6⟩:=k3 n h0 h1 h6
 have h5:=p.r 2 Z
 replace q:=q.fr m
 replace d:=d.fr m.size
 replace j:=j.tr (m.ch noB) fun _ h=>False.elim h
 obtain ⟨e21,c⟩:=zA7 c
 refine zQW (eI y9::eI (y9+1)::eI (y9+1)::[]) ?_ ?_
 exact om h6<|op (fun Q U W H D=>zAS (D.g 0 Z) Z e21)<|oa<|oz
 intro R w m n p
 obtain ⟨h0,h1,h5⟩:=k3 n h0 h1 h5
 have h6:=p.r 2 Z
 replace q:=q.fr m
 replace d:=d.fr m.size
 replace j:=j.tr (m.ch noB) fun _ h=>False.elim h
 exact ei k (And.intro (Nat.lt_succ_self k) ⟨_,_,_,_,c,d,j,B,q,h0,h1,h5,h6⟩)
 have c:=zAM c16 c
 refine HT.skip ?_
 obtain ⟨e22,c⟩:=zA7 c
 refine zQW (eI y9::eI (y9+1)::eI (y9+1)::[]) ?_ ?_
 exact om h6<|op (fun Q U W H D=>zAS (D.g 0 Z) Z e22)<|oa<|oz
 intro R w m n p
 obtain ⟨h0,h1,h5⟩:=k3 n h0 h1 h5
 have h6:=p.r 2 Z
 replace q:=q.fr m
 replace d:=d.fr m.size
 replace j:=j.tr (m.ch noB) fun _ h=>False.elim h
 exact ei k (And.intro (Nat.lt_succ_self k) ⟨_,_,_,_,c,d,j,B,q,h0,h1,h5,h6⟩)
 have c:=zAM c11 c
 refine zQR ?_
 obtain rfl:=si c
 exact ei _ ⟨_,Z,d,j,B,q,h0,h5⟩
 rintro R w ⟨A,s7,es,d,j,B,q,h0,h5⟩
 obtain rfl:=es.symm
 refine zQT ?_
 obtain ⟨e23,c⟩:=zA7 c
 obtain ⟨x24,q25,c⟩:=zAU c
 obtain ⟨e26,e27,c⟩:=ck2 c
 refine zQY [ob v0 (.vec B0 9 eStr s7.2)] (rR v0::rI s7.1::rR (vsub v0 s7.1.toNat x24 1)::⟨_,true,[0],some (.vec B0 9 eStr (s7.2.take s7.1.toNat++List.replicate (s7.2.length-s7.1.toNat) ([]:List UInt8))),false,fun A=>.any⟩::[]) (ur (ur (ur (ua (UAll.nil))))) q d ?_ ?_
 exact rm h0<|rm h5<|rp (fun V Q U O D=>(q25 ▸ zHD (q.ok 0 _ Z).1 (D.g 0 Z) (D.g 1 Z) underlying34 sizeOf9 e23))<|rc (OblR.took 0 _ _ Z Z Z Z Z fun V Q U O D u X Y J L M=>by have a0:Q 38=(vsub v0 s7.1.toNat x24 1):=D.g 0 Z;obtain rfl:=J _ Z;exact zI3 a0 X Y underlying34 Z zeroValue9 (fun A w=>(zGg Z (by decide))) e26 e27 Z)<|rz
 intro done ρ σ A R w y s
 obtain ⟨h0,h5⟩:=k2 s.rg h0 h5
 have z28:=s.inivR 0 Z
 have z29:=s.on y 4 3 Z Z Z Z Z z28
 replace B:=s.lowK B C K (q.geK (⟨.inr (fun k h=>.inr h),N⟩))
 replace j:Ch (zAB v0) w0 w:=j.tr s.ch (q.geK (⟨.inr (fun k h=>.inr h),N⟩))
 replace q:=s.left y [(4,ob v0 (.vec B0 9 eStr (s7.2.take s7.1.toNat++List.replicate (s7.2.length-s7.1.toNat) ([]:List UInt8))))] ⟨Z,Z,z29,Z,Z,N⟩
 replace d:=s.avok
 obtain ⟨e30,c⟩:=zA7 c
 refine zQV [ob v0 (.vec B0 9 eStr (s7.2.take s7.1.toNat++List.replicate (s7.2.length-s7.1.toNat) ([]:List UInt8)))] (rR v0::rI s7.1::⟨_,true,[0],some (.vec B0 9 eStr (subL (s7.2.take s7.1.toNat++List.replicate (s7.2.length-s7.1.toNat) ([]:List UInt8)) 0 s7.1)),true,fun A=>.any⟩::⟨_,true,[3],some (.vec B0 9 eStr (subL (s7.2.take s7.1.toNat++List.replicate (s7.2.length-s7.1.toNat) ([]:List UInt8)) 0 s7.1)),true,fun A=>.any⟩::[]) (ur (ur (ua (ua (UAll.nil))))) q d ?_ ?_
 exact rm h0<|rm h5<|rc (OblR.took 0 _ _ Z Z Z Z Z fun V Q U O D u X Y J L M=>by have a0:Q 39=v0:=D.g 0 Z;have a1:Q 40=.int .i64 s7.1:=D.g 1 Z;exact zH9 (a0.trans (J _ Z).symm) X Y a1 underlying34 sizeOf9 e30 Z)<|rc (OblR.took 3 _ _ Z Z Z Z Z fun V Q U O D u X Y J L M=>by exact zAD (L _ _ Z Z Z Z).symm X Y)<|rz
 intro done ρ σ A R w y s
 obtain ⟨u31,e_u31⟩:∃ u,ρ 4=u:=⟨_,Z⟩
 have h4:=s.ov y 4 3 e_u31
 have hK_u31:∀ k,zAB u31 k->w0.heap.size<=k\/(zAB v0) k:=s.geK y 4 Z Z Z e_u31 (q.geK (⟨.inr (fun k h=>.inr h),N⟩)) j.size
 replace B:=s.lowK B C K (q.geK (⟨.inr (fun k h=>.inr h),N⟩))
 replace j:Ch (zAB v0) w0 w:=j.tr s.ch (q.geK (⟨.inr (fun k h=>.inr h),N⟩))
 replace q:=s.left y [(4,ob u31 (.vec B0 9 eStr (subL (s7.2.take s7.1.toNat++List.replicate (s7.2.length-s7.1.toNat) ([]:List UInt8)) 0 s7.1)))] ⟨Z,Z,e_u31,Z,Z,N⟩
 replace d:=s.avok
 refine HT.ret ?_
 obtain rfl:=si c
 exact ⟨.inr Z,[R 4],⟨Z,N⟩,by show Took _ true _ _ _ w0 (R 4) w;rw [h4];exact zDe (fun k h o=>.inr h) j (q.ok 0 _ Z).1 (q.own_ge (⟨.inr hK_u31,N⟩) (i:=0) Z) (fun _ _ _ _ _ h=>h)⟩
def zCN (fu:Nat) (p0:List (List UInt8)) (p1:List (List UInt8)):Option (List (List UInt8)):=
 cl true (zBB fu p0) fun x2=>
 cl true (zBD fu x2 (fun x=>zDG fu x p1)) fun x4=>
 some x4
theorem zGG {fu : Nat} {A0 : Av} {p0 : List (List UInt8)} {p1 : List (List UInt8)} {r : List (List UInt8)} (c : zCN fu p0 p1 = some r) {w : World} {v0 : Value} {v1 : Value} (d : AvOK A0 w) (h0 : Rep (eSl eStr) A0 w v0 p0) (h1 : Rep (eSl eStr) A0 w v1 p1) :
 Calls prog 56 #[v0,v1] w fun e w'=>∃ v,e=.returned v/\((Res.vec w.heap.size 9 eStr r).ok (addA A0 v) v w'/\Fr w w'):=by
 unfold zCN at c
 obtain ⟨w0,hw0,j,C⟩:=pw d
 have hA00:AvOK A0 w0:=C
 rw [fh hw0]
 rw [fw hw0]
 obtain ⟨A,hAe,B,d,q⟩:=pa d
 refine zA9 [.tmp 4] func56 ntmps56 (by decide) Z Z (nb Z) ?_
 intro R hR
 have f_v0:Rep (eSl eStr) A w v0 p0:=hAe ▸ h0
 replace h0:R 0=v0:=hR 0 _ Z
 have f_v1:Rep (eSl eStr) A w v1 p1:=hAe ▸ h1
 replace h1:R 1=v1:=hR 1 _ Z
 refine zQV [] (⟨_,true,[],some (.box w0.heap.size 34 (eSl eStr) p1),true,fun A=>.any⟩::rA::[]) (ua (ua (UAll.nil))) q d ?_ ?_
 exact rc (OblR.made _ Z Z Z Z fun V Q U O D=>by have a0:Q 1=v1:=(O.old 1 Z).trans h1;have ra0:=(f_v1.stp O.stp).eq a0;exact zEe ra0 (Nat.le_trans j.size O.ch.size))<|rp (fun V Q U O D=>zA2 N)<|rz
 intro done ρ σ A R w y s
 replace h0:=k1 s.rg h0
 obtain ⟨b3_0,e_b3_0⟩:=s.boxv y 0 Z Z
 have h3:=s.ov y 0 0 e_b3_0
 replace f_v0:=f_v0.stp s.stp
 obtain ⟨B,j,d⟩:=s.s B C j q N
 replace q:=s.left y [(0,ob (.pointer (some ⟨b3_0,0,none⟩)) (.box w0.heap.size 34 (eSl eStr) p1))] ⟨Z,Z,e_b3_0,Z,Z,N⟩
 obtain ⟨x2,q3,c⟩:=zA6 c
 obtain ⟨x4,q5,c⟩:=zA6 c
 refine zQV [ob (.pointer (some ⟨b3_0,0,none⟩)) (.box w0.heap.size 34 (eSl eStr) p1)] (rR v0::⟨_,true,[],some (.vec w0.heap.size 9 eStr x2),true,fun A=>.any⟩::rR (.func (.func 87) #[] #[(.pointer (some ⟨b3_0,0,none⟩))])::⟨_,true,[2],some (.vec w0.heap.size 9 eStr x4),true,fun A=>.any⟩::⟨_,true,[4],some (.vec w0.heap.size 9 eStr x4),true,fun A=>.any⟩::[]) (ur (ua (ur (ua (ua (UAll.nil)))))) q d ?_ ?_
 exact rm h0<|rc (OblR.made _ Z Z Z Z fun V Q U O D=>by have a0:Q 5=v0:=D.g 0 Z;have ra0:=(f_v0.stp O.stp).eq a0;exact zGY call42 (zBq (q3 Z) O.av ra0) (Nat.le_trans j.size O.ch.size))<|rp (fun V Q U O D=>zKw (c:=[(.pointer (some ⟨b3_0,0,none⟩))]) (by simp only [List.map,zAH];rw [((O.old 3 Z).trans h3)]))<|rc (OblR.took 2 _ _ Z Z Z Z Z fun V Q U O D u X Y J L M=>by have a1:Q 7=(.func (.func 87) #[] #[(.pointer (some ⟨b3_0,0,none⟩))]):=D.g 1 Z;have hu0:zAH Q (.tmp 6)=u:=(L _ _ Z Z Z Z).symm;exact zD9 call86 Y (by simp only [List.map,hu0];exact zED (q5 Z) (O.av.sub _) (fun b o h=>h.2) (Vec.flat X (fun _ _ _ _ _ h=>h)) (zOo [(.pointer (some ⟨b3_0,0,none⟩))] a1 call87 (fun x r hr' w'' a p hA' ha=>zFs hr' hA' ha (zNH (O.rd 0 _ Z Z) p Y fun h=>M 0 _ Z (by decide) Z _ h Z)))))<|rc (OblR.took 4 _ _ Z Z Z Z Z fun V Q U O D u X Y J L M=>by exact zAD (L _ _ Z Z Z Z).symm X Y)<|rz
 intro done ρ σ A R w y s
 have z6:=s.inivR 0 Z
 obtain ⟨u7,e_u7⟩:∃ u,ρ 5=u:=⟨_,Z⟩
 have h4:=s.ov y 5 4 e_u7
 obtain ⟨B,j,d⟩:=s.s B C j q ⟨Z,N⟩
 replace q:=s.left y [(5,ob u7 (.vec w0.heap.size 9 eStr x4))] ⟨Z,Z,e_u7,Z,Z,N⟩
 refine HT.ret ?_
 obtain rfl:=si c
 exact ⟨.inr Z,[R 4],⟨Z,N⟩,(zC7 (q.ok 0 _ Z) B h4),j⟩
theorem zFv {fu : Nat} {A0 : Av} {p0 : List (List UInt8)} {p1 : List (List UInt8)} {r : List (List UInt8)} (c : zCN fu p0 p1 = some r) {w : World} {v0 : Value} {v1 : Value} (d : AvOK A0 w) (h0 : Rep (eSl eStr) A0 w v0 p0) (h1 : Rep (eSl eStr) A0 w v1 p1) :
 Calls prog 56 #[v0,v1] w fun e w'=>∃ v,e=.returned v/\(Rep (eSl eStr) A0 w' v r/\Fr w w'):=by
 refine Calls.mono (zGG c d h0 h1) ?_
 rintro e w' ⟨v,he,hv,hf⟩
 exact ⟨v,he,zCB hv (fun b o h=>.inl h) d,hf⟩
def zCu (fu:Nat) (p0:zA4) (p1:zA4):Option Bool:=
 cl true (zBs fu p0) fun x3=>
 cl true (zBs fu p1) fun x5=>
 cl true (zCN fu x3 x5) fun x7=>
 some (decide (0<(x7.length:Int)))
theorem zF7 {fu : Nat} {A0 : Av} {p0 : zA4} {p1 : zA4} {r : Bool} (c : zCu fu p0 p1 = some r) {w : World} {v0 : Value} {v1 : Value} (d : AvOK A0 w) (hG : GTab w) (h0 : Rep zA0 A0 w v0 p0) (h1 : Rep zA0 A0 w v1 p1) :
 Calls prog 32 #[v0,v1] w fun e w'=>∃ v,e=.returned v/\(v=.bool r/\Fr w w'):=by
 unfold zCu at c
 obtain ⟨w0,hw0,j,C⟩:=pw d
 have hA00:AvOK A0 w0:=C
 rw [fw hw0]
 have hG0:GTab w0:=hw0 ▸ hG
 obtain ⟨A,hAe,B,d,q⟩:=pa d
 refine zA9 [.tmp 4] func32 ntmps32 (by decide) Z Z (nb Z) ?_
 intro R hR
 have f_v0:Rep zA0 A w v0 p0:=hAe ▸ h0
 replace h0:R 0=v0:=hR 0 _ Z
 have f_v1:Rep zA0 A w v1 p1:=hAe ▸ h1
 replace h1:R 1=v1:=hR 1 _ Z
 refine zQV [] (⟨_,true,[],some (.box w0.heap.size 51 zA0 p0),true,fun A=>.any⟩::⟨_,true,[],some (.box w0.heap.size 51 zA0 p1),true,fun A=>.any⟩::rB false::[]) (ua (ua (ur (UAll.nil)))) q d ?_ ?_
 exact rc (OblR.made _ Z Z Z Z fun V Q U O D=>by have a0:Q 0=v0:=(O.old 0 Z).trans h0;have ra0:=(f_v0.stp O.stp).eq a0;exact zEe ra0 (Nat.le_trans j.size O.ch.size))<|rc (OblR.made _ Z Z Z Z fun V Q U O D=>by have a0:Q 1=v1:=(O.old 1 Z).trans h1;have ra0:=(f_v1.stp O.stp).eq a0;exact zEe ra0 (Nat.le_trans j.size O.ch.size))<|rp (fun V Q U O D=>zA2 Z)<|rz
 intro done ρ σ A R w y s
 obtain ⟨b2_0,e_b2_0⟩:=s.boxv y 0 Z Z
 have h2:=s.ov y 0 0 e_b2_0
 obtain ⟨b3_1,e_b3_1⟩:=s.boxv y 1 Z Z
 have h3:=s.ov y 1 1 e_b3_1
 obtain ⟨B,j,d⟩:=s.s B C j q N
 replace q:=s.left y [(0,ob (.pointer (some ⟨b2_0,0,none⟩)) (.box w0.heap.size 51 zA0 p0)),(1,ob (.pointer (some ⟨b3_1,0,none⟩)) (.box w0.heap.size 51 zA0 p1))] ⟨Z,Z,e_b2_0,Z,Z,⟨Z,Z,e_b3_1,Z,Z,N⟩⟩
 refine zQT ?_
 obtain ⟨x3,q4,c⟩:=zA6 c
 obtain ⟨x5,q6,c⟩:=zA6 c
 obtain ⟨x7,q8,c⟩:=zA6 c
 refine zQP (by kernel_rfl) (l:=eF (.rep zA0 A p0)::eF (.rep (eSl eStr) A x3)::eF (.rep zA0 A p1)::eF (.rep (eSl eStr) A x5)::eF (.rep (eSl eStr) A x7)::eI (x7.length:Int)::eB (decide (0<(x7.length:Int)))::eB (decide (0<(x7.length:Int)))::[]) (tl:=[]) (by kernel_rfl) (by kernel_rfl) (by kernel_rfl) (by kernel_rfl) ?_ ?_
 exact op (fun Q U W H D=>(zAJ ((q.fr W).ok 0 _ Z).1 ((H 2 Z).trans h2) (Fld.id _) Z isAgg51 sizeOf51))<|op (fun Q U W H D=>zAI call33 (zE3 (q4 Z) (d.fr W.size) (hG0.fr (j.trans W)) (D.g 0 Z)))<|op (fun Q U W H D=>(zAJ ((q.fr W).ok 1 _ Z).1 ((H 3 Z).trans h3) (Fld.id _) Z isAgg51 sizeOf51))<|op (fun Q U W H D=>zAI call33 (zE3 (q6 Z) (d.fr W.size) (hG0.fr (j.trans W)) (D.g 0 Z)))<|op (fun Q U W H D=>zAI call56 (zFv (q8 Z) (d.fr W.size) (D.g 0 Z) (D.g 1 Z)))<|op (fun Q U W H D=>zAK (aT:=#[]) (D.g 0 Z) underlying34)<|op (fun Q U W H D=>zDg (D.g 0 Z) Z)<|oa<|oz
 intro R w m n p
 have h4:=p.r 7 Z
 replace q:=q.fr m
 replace q:IniOK [] A w:=q.sub [] N
 replace d:=d.fr m.size
 replace j:=j.trans m
 refine HT.ret ?_
 obtain rfl:=si c
 exact ⟨.inr Z,[R 4],⟨Z,N⟩,h4,j⟩
def zBy (fu : Nat) (x4 : (List zA4) × Int) (x7 : List zA5) (x10 : List zA5) : Nat -> Int -> Option (Ex Bool Unit)
 | 0,_=>none
 | k+1,y36=>
 bif (decide (y36<(x7.length:Int))) then (
 ck (inR y36 x7.length) <|
 ck (inR y36 x10.length) <|
 ck (!(true&&((!((gtD x7 y36)==(gtD x10 y36)))==false)) || inR y36 x7.length) <|
 ck (!(true&&((!((gtD x7 y36)==(gtD x10 y36)))==false)) || inR ((gtD x7 y36).1) x4.1.length) <|
 ck (!(true&&((!((gtD x7 y36)==(gtD x10 y36)))==false)) || inR y36 x7.length) <|
 ck (!(true&&((!((gtD x7 y36)==(gtD x10 y36)))==false)) || inR ((gtD x7 y36).2) x4.1.length) <|
 cl (true&&((!((gtD x7 y36)==(gtD x10 y36)))==false)) (zCu fu (gtD x4.1 ((gtD x7 y36).1)) (gtD x4.1 ((gtD x7 y36).2))) fun x44=>
 bd ((!((gtD x7 y36)==(gtD x10 y36))) || (!x44)) fun x46=>
 ck (!(true&&(x46==false)) || inR y36 x7.length) <|
 ck (!(true&&(x46==false)) || inR ((gtD x7 y36).2) x4.1.length) <|
 ck (!(true&&(x46==false)) || inR y36 x7.length) <|
 ck (!(true&&(x46==false)) || inR ((gtD x7 y36).1) x4.1.length) <|
 cl (true&&(x46==false)) (zCu fu (gtD x4.1 ((gtD x7 y36).2)) (gtD x4.1 ((gtD x7 y36).1))) fun x52=>
 bd (x46 || (!x52)) fun x54=>
 bif x54 then (
 some (Ex.ret false)
 ) else (
 ck (i64B (y36+1)) <|
 zBy fu x4 x7 x10 k (y36+1)
 )
 ) else (
 some (Ex.go ())
 )
def zBO (fu : Nat) (x58 : List zAF) (y65 : Int) (x76 : List (List UInt8)) : Nat -> Bool -> Int -> Option Bool
 | 0,_,_=>none
 | k+1,y82,y83=>
 bif (decide (y83<(x76.length:Int))) then (
 ck (!(true&&(y82==false)) || inR y83 x76.length) <|
 ck (!(true&&(y82==false)) || inR y65 x58.length) <|
 bd (y82 || ((gtD x76 y83)==((gtD x58 y65).1))) fun x87=>
 ck (i64B (y83+1)) <|
 zBO fu x58 y65 x76 k x87 (y83+1)
 ) else (
 some y82
 )
def zBz (fu : Nat) (x4 : (List zA4) × Int) (x58 : List zAF) (y65 : Int) : Nat -> Int -> Option (Ex Bool Unit)
 | 0,_=>none
 | k+1,y70=>
 ck (inR y65 x58.length) <|
 bif (decide (y70<(((gtD x58 y65).2).length:Int))) then (
 ck (inR y65 x58.length) <|
 ck (inR y70 ((gtD x58 y65).2).length) <|
 ck (inR (gtD ((gtD x58 y65).2) y70) x4.1.length) <|
 cl true (zBs fu (gtD x4.1 (gtD ((gtD x58 y65).2) y70))) fun x76=>
 cl true (zBO fu x58 y65 x76 fu false 0) fun s81=>
 bif (!s81) then (
 some (Ex.ret false)
 ) else (
 ck (i64B (y70+1)) <|
 zBz fu x4 x58 y65 k (y70+1)
 )
 ) else (
 some (Ex.go ())
 )
def zBE (fu : Nat) (x4 : (List zA4) × Int) (x58 : List zAF) : Nat -> Int -> Int -> Option (Ex Bool Int)
 | 0,_,_=>none
 | k+1,y64,y65=>
 bif (decide (y65<(x58.length:Int))) then (
 cl true (zBz fu x4 x58 y65 fu 0) fun rl67=>
 exM rl67 (fun r=>some (Ex.ret r)) fun s69=>
 ck (inR y65 x58.length) <|
 ck (i64B (y65+1)) <|
 zBE fu x4 x58 k (max y64 (((gtD x58 y65).2).length:Int)) (y65+1)
 ) else (
 some (Ex.go y64)
 )
def zEk (fu:Nat) (p0:List Int):Option Bool:=
 cl true (zGi fu p0) fun x1=>
 bif x1 then (
 some true
 ) else (
 cl true (zCY fu p0) fun x4=>
 cl true (zCQ fu x4.1 x4.2) fun x7=>
 cl true (zCt fu x4.1 x4.2) fun x10=>
 cl true (zCQ fu x4.1 12) fun x13=>
 bd (((x7.length:Int) != (x10.length:Int)) || (decide ((x13.length:Int)<(x7.length:Int)))) fun x16=>
 cl (true&&(x16==false)) (zCO fu x4.1) fun x18=>
 cl (true&&(x16==false)) (zD0 fu x4.1) fun x20=>
 bd (x16 || (x18 != x20)) fun x22=>
 cl (true&&(x22==false)) (zBf fu x4.1 x4.2) fun x24=>
 cl (true&&(x22==false)) (zC1 fu x4.1 x4.2) fun x26=>
 cl (true&&(x22==false)) (zDI fu x24 x26) fun x28=>
 bd (x22 || (!x28)) fun x30=>
 bif x30 then (
 some false
 ) else (
 cl true (zBy fu x4 x7 x10 fu 0) fun rl33=>
 exM rl33 (fun r=>some r) fun s35=>
 cl true (zBh fu x4.1) fun x58=>
 cl true (zBE fu x4 x58 fu 0 0) fun rl61=>
 exM rl61 (fun r=>some r) fun s63=>
 cl true (zCO fu x4.1) fun x94=>
 cl (true&&((s63==x94)==true)) (zBg fu x4.1) fun x96=>
 bd ((s63==x94)&&((x58.length:Int)==(x96.length:Int))) fun x98=>
 cl (true&&(x98==true)) (zBf fu x4.1 x4.2) fun x100=>
 bd (x98&&((decide (0<(x100.length:Int)))==(decide (x4.2<s63)))) fun x102=>
 some x102
 )
 )
theorem zHU {fu : Nat} {A : Av} {p0 : List Int} {r : Bool} (c : zEk fu p0 = some r) {w : World} {v0 : Value} (d : AvOK A w) (hG : GTab w) (h0 : Rep (eSl (eInt .u8)) A w v0 p0) :
 Calls prog 7 #[v0] w fun e w'=>∃ v,e=.returned v/\(v=.bool r/\Fr w w'):=by
 unfold zEk at c
 obtain ⟨w0,hw0,j⟩:=pf w
 rw [fw hw0]
 have hG0:GTab w0:=hw0 ▸ hG
 refine zA9 [.tmp 2] func7 ntmps7 (by decide) Z Z (nb Z) ?_
 intro R hR
 have f_v0:=h0
 replace h0:R 0=v0:=hR 0 _ Z
 refine zQU d j (eB false::[]) ?_ ?_
 exact op (fun Q U W H D=>zA2 Z)<|oz
 intro R w m n p d j
 replace h0:=k1 n h0
 replace f_v0:=f_v0.fr m
 refine zQT ?_
 obtain ⟨x1,q2,c⟩:=zA6 c
 refine zQU d j (eR v0::eB x1::[]) ?_ ?_
 exact om h0<|op (fun Q U W H D=>zAI call29 (zJo (q2 Z) (d.fr W.size) ((f_v0.fr W).eq (D.g 0 Z))))<|oz
 intro R w m n p d j
 replace h0:=k1 n h0
 have h18:=p.r 1 Z
 replace f_v0:=f_v0.fr m
 refine zQM x1 h18 (fun c3=>?_) (fun c3=>?_)
 have c:=zAN c3 c
 refine zQU d j (eB true::[]) ?_ ?_
 exact op (fun Q U W H D=>zA2 Z)<|oz
 intro R w m n p d j
 have h2:=p.r 0 Z
 refine HT.ret ?_
 obtain rfl:=si c
 exact ⟨.inr Z,[R 2],⟨Z,N⟩,h2,j⟩
 have c:=zAM c3 c
 refine HT.skip ?_
 obtain ⟨x4,q5,c⟩:=zA6 c
 refine zQU d j (eR v0::eF (.tup2 (.rep (eSl zA0) A x4.1) (.raw (.int .i64 x4.2)))::eF (.tup2 (.rep (eSl zA0) A x4.1) (.raw (.int .i64 x4.2)))::eF (.rep (eSl zA0) A x4.1)::eI x4.2::eF (.rep (eSl zA0) A x4.1)::eI x4.2::[]) ?_ ?_
 exact om h0<|op (fun Q U W H D=>zAI call30 (zFn (q5 Z) (d.fr W.size) ((f_v0.fr W).eq (D.g 0 Z))))<|op (fun Q U W H D=>zBj (D.g 0 Z))<|op (fun Q U W H D=>zFD (D.g 0 Z))<|op (fun Q U W H D=>zF9 (D.g 0 Z))<|op (fun Q U W H D=>zA2 (D.g 0 Z))<|oa<|oz
 intro R w m n p d j
 obtain ⟨u6,h3,f_u6⟩:∃ u,R 3=u/\Rep (eSl zA0) A w u x4.1:=⟨_,Z,p 5 _ _ Z Z Z⟩
 have h4:=p.r 6 Z
 obtain ⟨x7,q8,c⟩:=zA6 c
 refine zQU d j (eR u6::eI x4.2::eF (.rep (eSl zA3) A x7)::eF (.rep (eSl zA3) A x7)::[]) ?_ ?_
 exact om h3<|om h4<|op (fun Q U W H D=>zAI call25 (zF0 (q8 Z) (d.fr W.size) (hG0.fr (j.trans W)) ((f_u6.fr W).eq (D.g 0 Z)) (D.g 1 Z)))<|op (fun Q U W H D=>zA2 (D.g 0 Z))<|oz
 intro R w m n p d j
 obtain ⟨h3,h4⟩:=k2 n h3 h4
 obtain ⟨u9,h5,f_u9⟩:∃ u,R 5=u/\Rep (eSl zA3) A w u x7:=⟨_,Z,p 3 _ _ Z Z Z⟩
 replace f_u6:=f_u6.fr m
 obtain ⟨x10,q11,c⟩:=zA6 c
 refine zQU d j (eR u6::eI x4.2::eF (.rep (eSl zA3) A x10)::eF (.rep (eSl zA3) A x10)::[]) ?_ ?_
 exact om h3<|om h4<|op (fun Q U W H D=>zAI call24 (zGN (q11 Z) (d.fr W.size) ((f_u6.fr W).eq (D.g 0 Z)) (D.g 1 Z)))<|op (fun Q U W H D=>zA2 (D.g 0 Z))<|oz
 intro R w m n p d j
 obtain ⟨h3,h4,h5⟩:=k3 n h3 h4 h5
 obtain ⟨u12,h6,f_u12⟩:∃ u,R 6=u/\Rep (eSl zA3) A w u x10:=⟨_,Z,p 3 _ _ Z Z Z⟩
 replace f_u6:=f_u6.fr m
 replace f_u9:=f_u9.fr m
 obtain ⟨x13,q14,c⟩:=zA6 c
 refine zQU d j (eR u6::eF (.rep (eSl zA3) A x13)::eF (.rep (eSl zA3) A x13)::[]) ?_ ?_
 exact om h3<|op (fun Q U W H D=>zAI call25 (zF0 (q14 Z) (d.fr W.size) (hG0.fr (j.trans W)) ((f_u6.fr W).eq (D.g 0 Z)) Z))<|op (fun Q U W H D=>zA2 (D.g 0 Z))<|oz
 intro R w m n p d j
 obtain ⟨h3,h4,h5,h6⟩:=k4 n h3 h4 h5 h6
 obtain ⟨u15,h7,f_u15⟩:∃ u,R 7=u/\Rep (eSl zA3) A w u x13:=⟨_,Z,p 2 _ _ Z Z Z⟩
 replace f_u12:=f_u12.fr m
 replace f_u6:=f_u6.fr m
 replace f_u9:=f_u9.fr m
 refine zQT<|zQT ?_
 obtain ⟨x16,q17,c⟩:=zAU c
 obtain ⟨x18,q19,c⟩:=zA6 c
 obtain ⟨x20,q21,c⟩:=zA6 c
 obtain ⟨x22,q23,c⟩:=zAU c
 obtain ⟨x24,q25,c⟩:=zA6 c
 obtain ⟨x26,q27,c⟩:=zA6 c
 obtain ⟨x28,q29,c⟩:=zA6 c
 obtain ⟨x30,q31,c⟩:=zAU c
 refine HT.u d j (eR u9::eI (x7.length:Int)::eR u12::eI (x10.length:Int)::eB ((x7.length:Int) != (x10.length:Int))::eB ((x7.length:Int) != (x10.length:Int))::gR (true&&(((x7.length:Int) != (x10.length:Int))==false)) u9::gI (true&&(((x7.length:Int) != (x10.length:Int))==false)) (x7.length:Int)::gR (true&&(((x7.length:Int) != (x10.length:Int))==false)) u15::gI (true&&(((x7.length:Int) != (x10.length:Int))==false)) (x13.length:Int)::gB (true&&(((x7.length:Int) != (x10.length:Int))==false)) (decide ((x13.length:Int)<(x7.length:Int)))::eB x16::eB x16::gR (true&&(x16==false)) u6::gI (true&&(x16==false)) x18::gR (true&&(x16==false)) u6::gI (true&&(x16==false)) x20::gB (true&&(x16==false)) (x18 != x20)::eB x22::eB x22::gR (true&&(x22==false)) u6::gI (true&&(x22==false)) x4.2::gF (true&&(x22==false)) (.rep (eSl eStr) A x24)::gR (true&&(x22==false)) u6::gI (true&&(x22==false)) x4.2::gF (true&&(x22==false)) (.rep (eSl eStr) A x26)::gB (true&&(x22==false)) x28::gB (true&&(x22==false)) (!x28)::eB x30::[]) ?_ ?_
 exact om h5<|op (fun Q U W H D=>zAK (aT:=#[]) ((f_u9.fr W).eq (D.g 0 Z)) underlying39)<|om h6<|op (fun Q U W H D=>zAK (aT:=#[]) ((f_u12.fr W).eq (D.g 0 Z)) underlying39)<|op (fun Q U W H D=>zH1 (D.g 0 Z) (D.g 1 Z))<|ov<|gm 5 false h5<|og 5 false (fun G Q U W H D=>zAK (aT:=#[]) ((f_u9.fr W).eq (D.h 0 G Z)) underlying39)<|gm 5 false h7<|og 5 false (fun G Q U W H D=>zAK (aT:=#[]) ((f_u15.fr W).eq (D.h 0 G Z)) underlying39)<|og 5 false (fun G Q U W H D=>zDg (D.h 0 G Z) (D.h 1 G Z))<|op (fun Q U W H D=>zAX ((x7.length:Int) != (x10.length:Int)) (D.g 0 Z) (fun hc=>by show _=Value.bool x16;rw [q17,hc];exact Z) (fun hc=>by have a2:Q 42=.bool (decide ((x13.length:Int)<(x7.length:Int))):=D 1 _ _ _ Z Z Z Z (zC2 Z (zB2 hc));show _=Value.bool x16;rw [q17,hc];exact a2))<|ov<|gm 12 false h3<|og 12 false (fun G Q U W H D=>zAI call18 (zEl (q19 G) (d.fr W.size) (hG0.fr (j.trans W)) ((f_u6.fr W).eq (D.h 0 G Z))))<|gm 12 false h3<|og 12 false (fun G Q U W H D=>zAI call17 (zGI (q21 G) (d.fr W.size) ((f_u6.fr W).eq (D.h 0 G Z))))<|og 12 false (fun G Q U W H D=>zH1 (D.h 0 G Z) (D.h 1 G Z))<|op (fun Q U W H D=>zAX x16 (D.g 0 Z) (fun hc=>by show _=Value.bool x22;rw [q23,hc];exact Z) (fun hc=>by have a2:Q 49=.bool (x18 != x20):=D 1 _ _ _ Z Z Z Z (zC2 Z (zB2 hc));show _=Value.bool x22;rw [q23,hc];exact a2))<|ov<|gm 19 false h3<|gm 19 false h4<|og 19 false (fun G Q U W H D=>zAI call20 (zE2 (q25 G) (d.fr W.size) (hG0.fr (j.trans W)) ((f_u6.fr W).eq (D.h 0 G Z)) (D.h 1 G Z)))<|gm 19 false h3<|gm 19 false h4<|og 19 false (fun G Q U W H D=>zAI call19 (zFT (q27 G) (d.fr W.size) ((f_u6.fr W).eq (D.h 0 G Z)) (D.h 1 G Z)))<|og 19 false (fun G Q U W H D=>zAI call31 (zGQ (q29 G) (d.fr W.size) (D.h 0 G Z) (D.h 1 G Z)))<|og 19 false (fun G Q U W H D=>zDU (D.h 0 G Z))<|op (fun Q U W H D=>zAX x22 (D.g 0 Z) (fun hc=>by show _=Value.bool x30;rw [q31,hc];exact Z) (fun hc=>by have a2:Q 59=.bool (!x28):=D 1 _ _ _ Z Z Z Z (zC2 Z (zB2 hc));show _=Value.bool x30;rw [q31,hc];exact a2))<|oz
 intro R w m n p d j
 obtain ⟨h3,h4,h5,h6⟩:=k4 n h3 h4 h5 h6
 have h60:=p.r 28 Z
 replace f_u12:=f_u12.fr m
 replace f_u6:=f_u6.fr m
 replace f_u9:=f_u9.fr m
 refine zQM x30 h60 (fun c32=>?_) (fun c32=>?_)
 have c:=zAN c32 c
 refine zQU d j (eB false::[]) ?_ ?_
 exact op (fun Q U W H D=>zA2 Z)<|oz
 intro R w m n p d j
 have h2:=p.r 0 Z
 refine HT.ret ?_
 obtain rfl:=si c
 exact ⟨.inr Z,[R 2],⟨Z,N⟩,h2,j⟩
 have c:=zAM c32 c
 refine HT.skip<|zQT<|zQU d j (eI 0::[]) ?_ ?_
 exact op (fun Q U W H D=>zA2 Z)<|oz
 intro R w m n p d j
 obtain ⟨h3,h4,h5,h6⟩:=k4 n h3 h4 h5 h6
 have h8:=p.r 0 Z
 replace f_u12:=f_u12.fr m
 replace f_u6:=f_u6.fr m
 replace f_u9:=f_u9.fr m
 obtain ⟨rl33,q34,c⟩:=zA6 c
 replace q34:=q34 Z
 refine zQO (fun R w=>∃ (s35:Unit),rl33=Ex.go s35/\AvOK A w/\Fr w0 w/\R 3=u6/\R 4=.int .i64 x4.2/\Rep (eSl zA0) A w u6 x4.1) ?_ ?_
 refine HT.block<|zQS (fun k R w=>∃ (y36:Int),zBy fu x4 x7 x10 k y36=some rl33/\AvOK A w/\Fr w0 w/\R 3=u6/\R 4=.int .i64 x4.2/\R 5=u9/\R 6=u12/\R 8=.int .i64 y36/\Rep (eSl zA3) A w u12 x10/\Rep (eSl zA0) A w u6 x4.1/\Rep (eSl zA3) A w u9 x7) fu ⟨_,q34,d,j,h3,h4,h5,h6,h8,f_u12,f_u6,f_u9⟩ ?_
 have hr0:=c;clear c q34
 rintro k R w ⟨y36,c,d,j,h3,h4,h5,h6,h8,f_u12,f_u6,f_u9⟩
 rcases k with _ | k
 cases (show none=some _ from c)
 rw [zBy] at c
 refine zQT<|zQU d j (eI y36::eR u9::eI (x7.length:Int)::eB (decide (y36<(x7.length:Int)))::[]) ?_ ?_
 exact om h8<|om h5<|op (fun Q U W H D=>zAK (aT:=#[]) ((f_u9.fr W).eq (D.g 0 Z)) underlying39)<|op (fun Q U W H D=>zAk (D.g 0 Z) (D.g 1 Z))<|oz
 intro R w m n p d j
 obtain ⟨h3,h4,h5,h6,h8⟩:=k5 n h3 h4 h5 h6 h8
 have h64:=p.r 3 Z
 replace f_u12:=f_u12.fr m
 replace f_u6:=f_u6.fr m
 replace f_u9:=f_u9.fr m
 refine zQM (decide (y36<(x7.length:Int))) h64 (fun c37=>?_) (fun c37=>?_)
 have c:=zAN c37 c
 refine HT.skip<|zQT<|HT.block<|zQT ?_
 obtain ⟨e38,e39,e40,e41,c⟩:=ck4 c
 obtain ⟨e42,e43,c⟩:=ck2 c
 obtain ⟨x44,q45,c⟩:=zA6 c
 obtain ⟨x46,q47,c⟩:=zAU c
 obtain ⟨e48,e49,e50,e51,c⟩:=ck4 c
 obtain ⟨x52,q53,c⟩:=zA6 c
 obtain ⟨x54,q55,c⟩:=zAU c
 refine zQP (by kernel_rfl) (l:=eR u9::eI y36::eF (.qtr zA3 A (gtD x7 y36))::eF (.rep zA3 A (gtD x7 y36))::eR u12::eI y36::eF (.qtr zA3 A (gtD x10 y36))::eF (.rep zA3 A (gtD x10 y36))::eB (!((gtD x7 y36)==(gtD x10 y36)))::eB (!((gtD x7 y36)==(gtD x10 y36)))::gR (true&&((!((gtD x7 y36)==(gtD x10 y36)))==false)) u6::gR (true&&((!((gtD x7 y36)==(gtD x10 y36)))==false)) u9::gI (true&&((!((gtD x7 y36)==(gtD x10 y36)))==false)) y36::gF (true&&((!((gtD x7 y36)==(gtD x10 y36)))==false)) (.qtr zA3 A (gtD x7 y36))::gF (true&&((!((gtD x7 y36)==(gtD x10 y36)))==false)) (.qtr (eInt .i64) A ((gtD x7 y36).1))::gI (true&&((!((gtD x7 y36)==(gtD x10 y36)))==false)) ((gtD x7 y36).1)::gF (true&&((!((gtD x7 y36)==(gtD x10 y36)))==false)) (.qtr zA0 A (gtD x4.1 ((gtD x7 y36).1)))::gF (true&&((!((gtD x7 y36)==(gtD x10 y36)))==false)) (.rep zA0 A (gtD x4.1 ((gtD x7 y36).1)))::gR (true&&((!((gtD x7 y36)==(gtD x10 y36)))==false)) u6::gR (true&&((!((gtD x7 y36)==(gtD x10 y36)))==false)) u9::gI (true&&((!((gtD x7 y36)==(gtD x10 y36)))==false)) y36::gF (true&&((!((gtD x7 y36)==(gtD x10 y36)))==false)) (.qtr zA3 A (gtD x7 y36))::gF (true&&((!((gtD x7 y36)==(gtD x10 y36)))==false)) (.qtr (eInt .i64) A ((gtD x7 y36).2))::gI (true&&((!((gtD x7 y36)==(gtD x10 y36)))==false)) ((gtD x7 y36).2)::gF (true&&((!((gtD x7 y36)==(gtD x10 y36)))==false)) (.qtr zA0 A (gtD x4.1 ((gtD x7 y36).2)))::gF (true&&((!((gtD x7 y36)==(gtD x10 y36)))==false)) (.rep zA0 A (gtD x4.1 ((gtD x7 y36).2)))::gB (true&&((!((gtD x7 y36)==(gtD x10 y36)))==false)) x44::gB (true&&((!((gtD x7 y36)==(gtD x10 y36)))==false)) (!x44)::eB x46::eB x46::gR (true&&(x46==false)) u6::gR (true&&(x46==false)) u9::gI (true&&(x46==false)) y36::gF (true&&(x46==false)) (.qtr zA3 A (gtD x7 y36))::gF (true&&(x46==false)) (.qtr (eInt .i64) A ((gtD x7 y36).2))::gI (true&&(x46==false)) ((gtD x7 y36).2)::gF (true&&(x46==false)) (.qtr zA0 A (gtD x4.1 ((gtD x7 y36).2)))::gF (true&&(x46==false)) (.rep zA0 A (gtD x4.1 ((gtD x7 y36).2)))::gR (true&&(x46==false)) u6::gR (true&&(x46==false)) u9::gI (true&&(x46==false)) y36::gF (true&&(x46==false)) (.qtr zA3 A (gtD x7 y36))::gF (true&&(x46==false)) (.qtr (eInt .i64) A ((gtD x7 y36).1))::gI (true&&(x46==false)) ((gtD x7 y36).1)::gF (true&&(x46==false)) (.qtr zA0 A (gtD x4.1 ((gtD x7 y36).1)))::gF (true&&(x46==false)) (.rep zA0 A (gtD x4.1 ((gtD x7 y36).1)))::gB (true&&(x46==false)) x52::gB (true&&(x46==false)) (!x52)::eB x54::[]) (tl:=[]) (by kernel_rfl) (by kernel_rfl) (by kernel_rfl) (by kernel_rfl) ?_ ?_
 exact om h5<|om h8<|op (fun Q U W H D=>zAC ((f_u9.fr W).eq (D.g 0 Z)) (D.g 1 Z) underlying39 sizeOf48 e38)<|op (fun Q U W H D=>(zAT (QRep.ptr (D.g 0 Z)) isAgg48 sizeOf48))<|om h6<|om h8<|op (fun Q U W H D=>zAC ((f_u12.fr W).eq (D.g 0 Z)) (D.g 1 Z) underlying39 sizeOf48 e39)<|op (fun Q U W H D=>(zAT (QRep.ptr (D.g 0 Z)) isAgg48 sizeOf48))<|op (fun Q U W H D=>zHc eqGuardType48 (zCb (D.g 0 Z)) (zCb (D.g 1 Z)) (zOZ (gtD x7 y36) (gtD x10 y36) _))<|ov<|gm 9 false h3<|gm 9 false h5<|gm 9 false h8<|og 9 false (fun G Q U W H D=>zAC ((f_u9.fr W).eq (D.h 0 G Z)) (D.h 1 G Z) underlying39 sizeOf48 (gd e40 G))<|og 9 false (fun G Q U W H D=>zBt (qt (D.h 0 G Z)) zHy sizeOf3 (by decide) zDA Z)<|og 9 false (fun G Q U W H D=>OpF.int (zAT (QRep.ptr (D.h 0 G Z)) isAgg3 sizeOf3))<|og 9 false (fun G Q U W H D=>zAC ((f_u6.fr W).eq (D.h 0 G Z)) (D.h 1 G Z) underlying26 sizeOf51 (gd e41 G))<|og 9 false (fun G Q U W H D=>(zAT (QRep.ptr (D.h 0 G Z)) isAgg51 sizeOf51))<|gm 9 false h3<|gm 9 false h5<|gm 9 false h8<|og 9 false (fun G Q U W H D=>zAC ((f_u9.fr W).eq (D.h 0 G Z)) (D.h 1 G Z) underlying39 sizeOf48 (gd e42 G))<|og 9 false (fun G Q U W H D=>zBt (qt (D.h 0 G Z)) zJh sizeOf3 (by decide) zEG Z)<|og 9 false (fun G Q U W H D=>OpF.int (zAT (QRep.ptr (D.h 0 G Z)) isAgg3 sizeOf3))<|og 9 false (fun G Q U W H D=>zAC ((f_u6.fr W).eq (D.h 0 G Z)) (D.h 1 G Z) underlying26 sizeOf51 (gd e43 G))<|og 9 false (fun G Q U W H D=>(zAT (QRep.ptr (D.h 0 G Z)) isAgg51 sizeOf51))<|og 9 false (fun G Q U W H D=>zAI call32 (zF7 (q45 G) (d.fr W.size) (hG0.fr (j.trans W)) (D.h 0 G Z) (D.h 1 G Z)))<|og 9 false (fun G Q U W H D=>zDU (D.h 0 G Z))<|op (fun Q U W H D=>zAX (!((gtD x7 y36)==(gtD x10 y36))) (D.g 0 Z) (fun hc=>by show _=Value.bool x46;rw [q47,hc];exact Z) (fun hc=>by have a2:Q 94=.bool (!x44):=D 1 _ _ _ Z Z Z Z (zC2 Z (zB2 hc));show _=Value.bool x46;rw [q47,hc];exact a2))<|ov<|gm 29 false h3<|gm 29 false h5<|gm 29 false h8<|og 29 false (fun G Q U W H D=>zAC ((f_u9.fr W).eq (D.h 0 G Z)) (D.h 1 G Z) underlying39 sizeOf48 (gd e48 G))<|og 29 false (fun G Q U W H D=>zBt (qt (D.h 0 G Z)) zJh sizeOf3 (by decide) zEG Z)<|og 29 false (fun G Q U W H D=>OpF.int (zAT (QRep.ptr (D.h 0 G Z)) isAgg3 sizeOf3))<|og 29 false (fun G Q U W H D=>zAC ((f_u6.fr W).eq (D.h 0 G Z)) (D.h 1 G Z) underlying26 sizeOf51 (gd e49 G))<|og 29 false (fun G Q U W H D=>(zAT (QRep.ptr (D.h 0 G Z)) isAgg51 sizeOf51))<|gm 29 false h3<|gm 29 false h5<|gm 29 false h8<|og 29 false (fun G Q U W H D=>zAC ((f_u9.fr W).eq (D.h 0 G Z)) (D.h 1 G Z) underlying39 sizeOf48 (gd e50 G))<|og 29 false (fun G Q U W H D=>zBt (qt (D.h 0 G Z)) zHy sizeOf3 (by decide) zDA Z)<|og 29 false (fun G Q U W H D=>OpF.int (zAT (QRep.ptr (D.h 0 G Z)) isAgg3 sizeOf3))<|og 29 false (fun G Q U W H D=>zAC ((f_u6.fr W).eq (D.h 0 G Z)) (D.h 1 G Z) underlying26 sizeOf51 (gd e51 G))<|og 29 false (fun G Q U W H D=>(zAT (QRep.ptr (D.h 0 G Z)) isAgg51 sizeOf51))<|og 29 false (fun G Q U W H D=>zAI call32 (zF7 (q53 G) (d.fr W.size) (hG0.fr (j.trans W)) (D.h 0 G Z) (D.h 1 G Z)))<|og 29 false (fun G Q U W H D=>zDU (D.h 0 G Z))<|op (fun Q U W H D=>zAX x46 (D.g 0 Z) (fun hc=>by show _=Value.bool x54;rw [q55,hc];exact Z) (fun hc=>by have a2:Q 114=.bool (!x52):=D 1 _ _ _ Z Z Z Z (zC2 Z (zB2 hc));show _=Value.bool x54;rw [q55,hc];exact a2))<|oz
 intro R w m n p
 obtain ⟨h3,h4,h5,h6,h8⟩:=k5 n h3 h4 h5 h6 h8
 have h115:=p.r 48 Z
 replace f_u12:=f_u12.fr m
 replace f_u6:=f_u6.fr m
 replace f_u9:=f_u9.fr m
 replace d:=d.fr m.size
 replace j:=j.trans m
 refine zQM x54 h115 (fun c56=>?_) (fun c56=>?_)
 have c:=zAN c56 c
 refine zQU d j (eB false::[]) ?_ ?_
 exact op (fun Q U W H D=>zA2 Z)<|oz
 intro R w m n p d j
 have h2:=p.r 0 Z
 refine HT.ret ?_
 obtain rfl:=si c
 have c:=hr0
 replace c:some _=some _:=c
 obtain rfl:=si c
 exact ⟨.inr Z,[R 2],⟨Z,N⟩,h2,j⟩
 have c:=zAM c56 c
 refine HT.skip ?_
 obtain ⟨e57,c⟩:=zA7 c
 refine HT.u d j (eI y36::eI (y36+1)::eI (y36+1)::[]) ?_ ?_
 exact om h8<|op (fun Q U W H D=>zAS (D.g 0 Z) Z e57)<|oa<|oz
 intro R w m n p d j
 obtain ⟨h3,h4,h5,h6⟩:=k4 n h3 h4 h5 h6
 have h8:=p.r 2 Z
 replace f_u12:=f_u12.fr m
 replace f_u6:=f_u6.fr m
 replace f_u9:=f_u9.fr m
 exact ei k (And.intro (Nat.lt_succ_self k) ⟨_,c,d,j,h3,h4,h5,h6,h8,f_u12,f_u6,f_u9⟩)
 have c:=zAM c37 c
 refine zQR ?_
 obtain rfl:=si c
 exact ei _ ⟨Z,d,j,h3,h4,f_u6⟩
 rintro R w ⟨s35,rfl,d,j,h3,h4,f_u6⟩
 have c:=zF3 c
 obtain ⟨x58,q59,c⟩:=zA6 c
 refine zQU d j (eR u6::eF (.rep (eSl zA8) A x58)::eF (.rep (eSl zA8) A x58)::[]) ?_ ?_
 exact om h3<|op (fun Q U W H D=>zAI call11 (zD5 (q59 Z) (d.fr W.size) (hG0.fr (j.trans W)) ((f_u6.fr W).eq (D.g 0 Z))))<|op (fun Q U W H D=>zA2 (D.g 0 Z))<|oz
 intro R w m n p d j
 obtain ⟨h3,h4⟩:=k2 n h3 h4
 obtain ⟨u60,h9,f_u60⟩:∃ u,R 9=u/\Rep (eSl zA8) A w u x58:=⟨_,Z,p 2 _ _ Z Z Z⟩
 replace f_u6:=f_u6.fr m
 refine zQU d j (eI 0::[]) ?_ ?_
 exact op (fun Q U W H D=>zA2 Z)<|oz
 intro R w m n p d j
 obtain ⟨h3,h4,h9⟩:=k3 n h3 h4 h9
 have h10:=p.r 0 Z
 replace f_u6:=f_u6.fr m
 replace f_u60:=f_u60.fr m
 refine zQT<|zQU d j (eI 0::[]) ?_ ?_
 exact op (fun Q U W H D=>zA2 Z)<|oz
 intro R w m n p d j
 obtain ⟨h3,h4,h9,h10⟩:=k4 n h3 h4 h9 h10
 have h11:=p.r 0 Z
 replace f_u6:=f_u6.fr m
 replace f_u60:=f_u60.fr m
 obtain ⟨rl61,q62,c⟩:=zA6 c
 replace q62:=q62 Z
 refine zQO (fun R w=>∃ (s63:Int),rl61=Ex.go s63/\AvOK A w/\Fr w0 w/\R 3=u6/\R 4=.int .i64 x4.2/\R 9=u60/\R 10=.int .i64 s63/\Rep (eSl zA0) A w u6 x4.1/\Rep (eSl zA8) A w u60 x58) ?_ ?_
 refine HT.block<|zQS (fun k R w=>∃ (y64:Int) (y65:Int),zBE fu x4 x58 k y64 y65=some rl61/\AvOK A w/\Fr w0 w/\R 3=u6/\R 4=.int .i64 x4.2/\R 9=u60/\R 10=.int .i64 y64/\R 11=.int .i64 y65/\Rep (eSl zA0) A w u6 x4.1/\Rep (eSl zA8) A w u60 x58) fu ⟨_,_,q62,d,j,h3,h4,h9,h10,h11,f_u6,f_u60⟩ ?_
 have hr0:=c;clear c q62
 rintro k R w ⟨y64,y65,c,d,j,h3,h4,h9,h10,h11,f_u6,f_u60⟩
 rcases k with _ | k
 cases (show none=some _ from c)
 rw [zBE] at c
 refine zQT<|zQU d j (eI y65::eR u60::eI (x58.length:Int)::eB (decide (y65<(x58.length:Int)))::[]) ?_ ?_
 exact om h11<|om h9<|op (fun Q U W H D=>zAK (aT:=#[]) ((f_u60.fr W).eq (D.g 0 Z)) underlying24)<|op (fun Q U W H D=>zAk (D.g 0 Z) (D.g 1 Z))<|oz
 intro R w m n p d j
 obtain ⟨h3,h4,h9,h10,h11⟩:=k5 n h3 h4 h9 h10 h11
 have h121:=p.r 3 Z
 replace f_u6:=f_u6.fr m
 replace f_u60:=f_u60.fr m
 refine zQM (decide (y65<(x58.length:Int))) h121 (fun c66=>?_) (fun c66=>?_)
 have c:=zAN c66 c
 refine HT.skip<|zQT<|HT.block<|zQT<|zQU d j (eI 0::[]) ?_ ?_
 exact op (fun Q U W H D=>zA2 Z)<|oz
 intro R w m n p d j
 obtain ⟨h3,h4,h9,h10,h11⟩:=k5 n h3 h4 h9 h10 h11
 have h12:=p.r 0 Z
 replace f_u6:=f_u6.fr m
 replace f_u60:=f_u60.fr m
 obtain ⟨rl67,q68,c⟩:=zA6 c
 replace q68:=q68 Z
 refine zQO (fun R w=>∃ (s69:Unit),rl67=Ex.go s69/\AvOK A w/\Fr w0 w/\R 3=u6/\R 4=.int .i64 x4.2/\R 9=u60/\R 10=.int .i64 y64/\R 11=.int .i64 y65/\Rep (eSl zA0) A w u6 x4.1/\Rep (eSl zA8) A w u60 x58) ?_ ?_
 refine HT.block<|zQS (fun k R w=>∃ (y70:Int),zBz fu x4 x58 y65 k y70=some rl67/\AvOK A w/\Fr w0 w/\R 3=u6/\R 4=.int .i64 x4.2/\R 9=u60/\R 10=.int .i64 y64/\R 11=.int .i64 y65/\R 12=.int .i64 y70/\Rep (eSl zA0) A w u6 x4.1/\Rep (eSl zA8) A w u60 x58) fu ⟨_,q68,d,j,h3,h4,h9,h10,h11,h12,f_u6,f_u60⟩ ?_
 have hr1:=c;clear c q68
 rintro k R w ⟨y70,c,d,j,h3,h4,h9,h10,h11,h12,f_u6,f_u60⟩
 rcases k with _ | k
 cases (show none=some _ from c)
 rw [zBz] at c
 refine zQT ?_
 obtain ⟨e71,c⟩:=zA7 c
 refine zQU d j (eI y70::eR u60::eI y65::eF (.qtr zA8 A (gtD x58 y65))::eF (.qtr (eSl (eInt .i64)) A ((gtD x58 y65).2))::eF (.rep (eSl (eInt .i64)) A ((gtD x58 y65).2))::eI (((gtD x58 y65).2).length:Int)::eB (decide (y70<(((gtD x58 y65).2).length:Int)))::[]) ?_ ?_
 exact om h12<|om h9<|om h11<|op (fun Q U W H D=>zAC ((f_u60.fr W).eq (D.g 0 Z)) (D.g 1 Z) underlying24 sizeOf54 e71)<|op (fun Q U W H D=>zBt (qt (D.g 0 Z)) zEn sizeOf52 (by decide) zBp Z)<|op (fun Q U W H D=>(zAT (QRep.ptr (D.g 0 Z)) isAgg52 sizeOf52))<|op (fun Q U W H D=>zAK (aT:=#[]) (D.g 0 Z) underlying52)<|op (fun Q U W H D=>zAk (D.g 0 Z) (D.g 1 Z))<|oz
 intro R w m n p d j
 obtain ⟨h3,h4,h9,h10,h11,h12⟩:=k6 n h3 h4 h9 h10 h11 h12
 have h131:=p.r 7 Z
 replace f_u6:=f_u6.fr m
 replace f_u60:=f_u60.fr m
 refine zQM (decide (y70<(((gtD x58 y65).2).length:Int))) h131 (fun c72=>?_) (fun c72=>?_)
 have c:=zAN c72 c
 refine HT.skip<|zQT<|HT.block ?_
 obtain ⟨e73,e74,c⟩:=ck2 c
 refine zQU d j (eR u60::eI y65::eF (.qtr zA8 A (gtD x58 y65))::eF (.qtr (eSl (eInt .i64)) A ((gtD x58 y65).2))::eF (.rep (eSl (eInt .i64)) A ((gtD x58 y65).2))::eI y70::eF (.qtr (eInt .i64) A (gtD ((gtD x58 y65).2) y70))::eI (gtD ((gtD x58 y65).2) y70)::eI (gtD ((gtD x58 y65).2) y70)::[]) ?_ ?_
 exact om h9<|om h11<|op (fun Q U W H D=>zAC ((f_u60.fr W).eq (D.g 0 Z)) (D.g 1 Z) underlying24 sizeOf54 e73)<|op (fun Q U W H D=>zBt (qt (D.g 0 Z)) zEn sizeOf52 (by decide) zBp Z)<|op (fun Q U W H D=>(zAT (QRep.ptr (D.g 0 Z)) isAgg52 sizeOf52))<|om h12<|op (fun Q U W H D=>zAC (D.g 0 Z) (D.g 1 Z) underlying52 sizeOf3 e74)<|op (fun Q U W H D=>OpF.int (zAT (QRep.ptr (D.g 0 Z)) isAgg3 sizeOf3))<|oa<|oz
 intro R w m n p d j
 obtain ⟨h3,h4,h9,h10,h11,h12⟩:=k6 n h3 h4 h9 h10 h11 h12
 have h13:=p.r 8 Z
 replace f_u6:=f_u6.fr m
 replace f_u60:=f_u60.fr m
 refine zQU d j (eB false::[]) ?_ ?_
 exact op (fun Q U W H D=>zA2 Z)<|oz
 intro R w m n p d j
 obtain ⟨h3,h4,h9,h10,h11,h12⟩:=k6 n h3 h4 h9 h10 h11 h12
 replace h13:=k1 n h13
 have h14:=p.r 0 Z
 replace f_u6:=f_u6.fr m
 replace f_u60:=f_u60.fr m
 obtain ⟨e75,c⟩:=zA7 c
 obtain ⟨x76,q77,c⟩:=zA6 c
 refine zQU d j (eR u6::eI (gtD ((gtD x58 y65).2) y70)::eF (.qtr zA0 A (gtD x4.1 (gtD ((gtD x58 y65).2) y70)))::eF (.rep zA0 A (gtD x4.1 (gtD ((gtD x58 y65).2) y70)))::eF (.rep (eSl eStr) A x76)::eF (.rep (eSl eStr) A x76)::[]) ?_ ?_
 exact om h3<|om h13<|op (fun Q U W H D=>zAC ((f_u6.fr W).eq (D.g 0 Z)) (D.g 1 Z) underlying26 sizeOf51 e75)<|op (fun Q U W H D=>(zAT (QRep.ptr (D.g 0 Z)) isAgg51 sizeOf51))<|op (fun Q U W H D=>zAI call33 (zE3 (q77 Z) (d.fr W.size) (hG0.fr (j.trans W)) (D.g 0 Z)))<|op (fun Q U W H D=>zA2 (D.g 0 Z))<|oz
 intro R w m n p d j
 obtain ⟨h3,h4,h9,h10,h11,h12⟩:=k6 n h3 h4 h9 h10 h11 h12
 replace h14:=k1 n h14
 obtain ⟨u78,h15,f_u78⟩:∃ u,R 15=u/\Rep (eSl eStr) A w u x76:=⟨_,Z,p 5 _ _ Z Z Z⟩
 replace f_u6:=f_u6.fr m
 replace f_u60:=f_u60.fr m
 refine zQT<|zQU d j (eI 0::[]) ?_ ?_
 exact op (fun Q U W H D=>zA2 Z)<|oz
 intro R w m n p d j
 obtain ⟨h3,h4,h9,h10,h11,h12⟩:=k6 n h3 h4 h9 h10 h11 h12
 obtain ⟨h14,h15⟩:=k2 n h14 h15
 have h16:=p.r 0 Z
 replace f_u6:=f_u6.fr m
 replace f_u60:=f_u60.fr m
 replace f_u78:=f_u78.fr m
 obtain ⟨rl79,q80,c⟩:=zA6 c
 replace q80:=q80 Z
 refine zQO (fun R w=>∃ (s81:Bool),rl79=s81/\AvOK A w/\Fr w0 w/\R 3=u6/\R 4=.int .i64 x4.2/\R 9=u60/\R 10=.int .i64 y64/\R 11=.int .i64 y65/\R 12=.int .i64 y70/\R 14=.bool s81/\Rep (eSl zA0) A w u6 x4.1/\Rep (eSl zA8) A w u60 x58) ?_ ?_
 refine HT.block<|zQS (fun k R w=>∃ (y82:Bool) (y83:Int),zBO fu x58 y65 x76 k y82 y83=some rl79/\AvOK A w/\Fr w0 w/\R 3=u6/\R 4=.int .i64 x4.2/\R 9=u60/\R 10=.int .i64 y64/\R 11=.int .i64 y65/\R 12=.int .i64 y70/\R 14=.bool y82/\R 15=u78/\R 16=.int .i64 y83/\Rep (eSl zA0) A w u6 x4.1/\Rep (eSl zA8) A w u60 x58/\Rep (eSl eStr) A w u78 x76) fu ⟨_,_,q80,d,j,h3,h4,h9,h10,h11,h12,h14,h15,h16,f_u6,f_u60,f_u78⟩ ?_
 have hr2:=c;clear c q80
 rintro k R w ⟨y82,y83,c,d,j,h3,h4,h9,h10,h11,h12,h14,h15,h16,f_u6,f_u60,f_u78⟩
 rcases k with _ | k
 cases (show none=some _ from c)
 rw [zBO] at c
 refine zQT<|zQU d j (eI y83::eR u78::eI (x76.length:Int)::eB (decide (y83<(x76.length:Int)))::[]) ?_ ?_
 exact om h16<|om h15<|op (fun Q U W H D=>zAK (aT:=#[]) ((f_u78.fr W).eq (D.g 0 Z)) underlying34)<|op (fun Q U W H D=>zAk (D.g 0 Z) (D.g 1 Z))<|oz
 intro R w m n p d j
 obtain ⟨h3,h4,h9,h10,h11,h12⟩:=k6 n h3 h4 h9 h10 h11 h12
 obtain ⟨h14,h15,h16⟩:=k3 n h14 h15 h16
 have h150:=p.r 3 Z
 replace f_u6:=f_u6.fr m
 replace f_u60:=f_u60.fr m
 replace f_u78:=f_u78.fr m
 refine zQM (decide (y83<(x76.length:Int))) h150 (fun c84=>?_) (fun c84=>?_)
 have c:=zAN c84 c
 refine HT.skip<|zQT<|HT.block ?_
 obtain ⟨e85,e86,c⟩:=ck2 c
 obtain ⟨x87,q88,c⟩:=zAU c
 refine zQP (by kernel_rfl) (l:=eB y82::eB y82::gR (true&&(y82==false)) u78::gI (true&&(y82==false)) y83::gF (true&&(y82==false)) (.qtr eStr A (gtD x76 y83))::gF (true&&(y82==false)) (.rep eStr A (gtD x76 y83))::gR (true&&(y82==false)) u60::gI (true&&(y82==false)) y65::gF (true&&(y82==false)) (.qtr zA8 A (gtD x58 y65))::gF (true&&(y82==false)) (.qtr eStr A ((gtD x58 y65).1))::gF (true&&(y82==false)) (.rep eStr A ((gtD x58 y65).1))::gB (true&&(y82==false)) ((gtD x76 y83)==((gtD x58 y65).1))::eB x87::eB x87::[]) (tl:=[]) (by kernel_rfl) (by kernel_rfl) (by kernel_rfl) (by kernel_rfl) ?_ ?_
 exact om h14<|ov<|gm 1 false h15<|gm 1 false h16<|og 1 false (fun G Q U W H D=>zAC ((f_u78.fr W).eq (D.h 0 G Z)) (D.h 1 G Z) underlying34 sizeOf9 (gd e85 G))<|og 1 false (fun G Q U W H D=>(zAT (QRep.ptr (D.h 0 G Z)) isAgg9 sizeOf9))<|gm 1 false h9<|gm 1 false h11<|og 1 false (fun G Q U W H D=>zAC ((f_u60.fr W).eq (D.h 0 G Z)) (D.h 1 G Z) underlying24 sizeOf54 (gd e86 G))<|og 1 false (fun G Q U W H D=>zBt (qt (D.h 0 G Z)) zLG sizeOf9 (by decide) zFI Z)<|og 1 false (fun G Q U W H D=>(zAT (QRep.ptr (D.h 0 G Z)) isAgg9 sizeOf9))<|og 1 false (fun G Q U W H D=>zBv (D.h 0 G Z) (D.h 1 G Z))<|op (fun Q U W H D=>zAX y82 (D.g 0 Z) (fun hc=>by show _=Value.bool x87;rw [q88,hc];exact Z) (fun hc=>by have a2:Q 164=.bool ((gtD x76 y83)==((gtD x58 y65).1)):=D 1 _ _ _ Z Z Z Z (zC2 Z (zB2 hc));show _=Value.bool x87;rw [q88,hc];exact a2))<|oa<|oz
 intro R w m n p
 obtain ⟨h3,h4,h9,h10,h11,h12⟩:=k6 n h3 h4 h9 h10 h11 h12
 obtain ⟨h15,h16⟩:=k2 n h15 h16
 have h14:=p.r 13 Z
 replace f_u6:=f_u6.fr m
 replace f_u60:=f_u60.fr m
 replace f_u78:=f_u78.fr m
 replace d:=d.fr m.size
 replace j:=j.trans m
 obtain ⟨e89,c⟩:=zA7 c
 refine HT.u d j (eI y83::eI (y83+1)::eI (y83+1)::[]) ?_ ?_
 exact om h16<|op (fun Q U W H D=>zAS (D.g 0 Z) Z e89)<|oa<|oz
 intro R w m n p d j
 obtain ⟨h3,h4,h9,h10,h11,h12⟩:=k6 n h3 h4 h9 h10 h11 h12
 obtain ⟨h14,h15⟩:=k2 n h14 h15
 have h16:=p.r 2 Z
 replace f_u6:=f_u6.fr m
 replace f_u60:=f_u60.fr m
 replace f_u78:=f_u78.fr m
 exact ei k (And.intro (Nat.lt_succ_self k) ⟨_,_,c,d,j,h3,h4,h9,h10,h11,h12,h14,h15,h16,f_u6,f_u60,f_u78⟩)
 have c:=zAM c84 c
 refine zQR ?_
 obtain rfl:=si c
 exact ei _ ⟨Z,d,j,h3,h4,h9,h10,h11,h12,h14,f_u6,f_u60⟩
 rintro R w ⟨s81,es,d,j,h3,h4,h9,h10,h11,h12,h14,f_u6,f_u60⟩
 obtain rfl:=es.symm
 refine zQU d j (eB s81::eB (!s81)::[]) ?_ ?_
 exact om h14<|op (fun Q U W H D=>zDU (D.g 0 Z))<|oz
 intro R w m n p d j
 obtain ⟨h3,h4,h9,h10,h11,h12⟩:=k6 n h3 h4 h9 h10 h11 h12
 have h167:=p.r 1 Z
 replace f_u6:=f_u6.fr m
 replace f_u60:=f_u60.fr m
 refine zQM (!s81) h167 (fun c90=>?_) (fun c90=>?_)
 have c:=zAN c90 c
 refine zQU d j (eB false::[]) ?_ ?_
 exact op (fun Q U W H D=>zA2 Z)<|oz
 intro R w m n p d j
 have h2:=p.r 0 Z
 refine HT.ret ?_
 obtain rfl:=si c
 have c:=hr1
 replace c:some _=some _:=c
 obtain rfl:=si c
 have c:=hr0
 replace c:some _=some _:=c
 obtain rfl:=si c
 exact ⟨.inr Z,[R 2],⟨Z,N⟩,h2,j⟩
 have c:=zAM c90 c
 refine HT.skip ?_
 obtain ⟨e91,c⟩:=zA7 c
 refine HT.u d j (eI y70::eI (y70+1)::eI (y70+1)::[]) ?_ ?_
 exact om h12<|op (fun Q U W H D=>zAS (D.g 0 Z) Z e91)<|oa<|oz
 intro R w m n p d j
 obtain ⟨h3,h4,h9,h10,h11⟩:=k5 n h3 h4 h9 h10 h11
 have h12:=p.r 2 Z
 replace f_u6:=f_u6.fr m
 replace f_u60:=f_u60.fr m
 exact ei k (And.intro (Nat.lt_succ_self k) ⟨_,c,d,j,h3,h4,h9,h10,h11,h12,f_u6,f_u60⟩)
 have c:=zAM c72 c
 refine zQR ?_
 obtain rfl:=si c
 exact ei _ ⟨Z,d,j,h3,h4,h9,h10,h11,f_u6,f_u60⟩
 rintro R w ⟨s69,rfl,d,j,h3,h4,h9,h10,h11,f_u6,f_u60⟩
 have c:=zF3 c
 obtain ⟨e92,c⟩:=zA7 c
 refine HT.u d j (eI y64::eR u60::eI y65::eF (.qtr zA8 A (gtD x58 y65))::eF (.qtr (eSl (eInt .i64)) A ((gtD x58 y65).2))::eF (.rep (eSl (eInt .i64)) A ((gtD x58 y65).2))::eI (((gtD x58 y65).2).length:Int)::eI (max y64 (((gtD x58 y65).2).length:Int))::eI (max y64 (((gtD x58 y65).2).length:Int))::[]) ?_ ?_
 exact om h10<|om h9<|om h11<|op (fun Q U W H D=>zAC ((f_u60.fr W).eq (D.g 0 Z)) (D.g 1 Z) underlying24 sizeOf54 e92)<|op (fun Q U W H D=>zBt (qt (D.g 0 Z)) zEn sizeOf52 (by decide) zBp Z)<|op (fun Q U W H D=>(zAT (QRep.ptr (D.g 0 Z)) isAgg52 sizeOf52))<|op (fun Q U W H D=>zAK (aT:=#[]) (D.g 0 Z) underlying52)<|op (fun Q U W H D=>zKt (D.g 0 Z) (D.g 1 Z))<|oa<|oz
 intro R w m n p d j
 obtain ⟨h3,h4,h9,h11⟩:=k4 n h3 h4 h9 h11
 have h10:=p.r 8 Z
 replace f_u6:=f_u6.fr m
 replace f_u60:=f_u60.fr m
 obtain ⟨e93,c⟩:=zA7 c
 refine HT.u d j (eI y65::eI (y65+1)::eI (y65+1)::[]) ?_ ?_
 exact om h11<|op (fun Q U W H D=>zAS (D.g 0 Z) Z e93)<|oa<|oz
 intro R w m n p d j
 obtain ⟨h3,h4,h9,h10⟩:=k4 n h3 h4 h9 h10
 have h11:=p.r 2 Z
 replace f_u6:=f_u6.fr m
 replace f_u60:=f_u60.fr m
 exact ei k (And.intro (Nat.lt_succ_self k) ⟨_,_,c,d,j,h3,h4,h9,h10,h11,f_u6,f_u60⟩)
 have c:=zAM c66 c
 refine zQR ?_
 obtain rfl:=si c
 exact ei _ ⟨Z,d,j,h3,h4,h9,h10,f_u6,f_u60⟩
 rintro R w ⟨s63,rfl,d,j,h3,h4,h9,h10,f_u6,f_u60⟩
 have c:=zF3 c
 refine zQT ?_
 obtain ⟨x94,q95,c⟩:=zA6 c
 obtain ⟨x96,q97,c⟩:=zA6 c
 obtain ⟨x98,q99,c⟩:=zAU c
 obtain ⟨x100,q101,c⟩:=zA6 c
 obtain ⟨x102,q103,c⟩:=zAU c
 refine HT.u d j (eI s63::eR u6::eI x94::eB (s63==x94)::eB (s63==x94)::gR (true&&((s63==x94)==true)) u60::gI (true&&((s63==x94)==true)) (x58.length:Int)::gR (true&&((s63==x94)==true)) u6::gF (true&&((s63==x94)==true)) (.rep (eSl zA8) A x96)::gI (true&&((s63==x94)==true)) (x96.length:Int)::gB (true&&((s63==x94)==true)) ((x58.length:Int)==(x96.length:Int))::eB x98::eB x98::gR (true&&(x98==true)) u6::gI (true&&(x98==true)) x4.2::gF (true&&(x98==true)) (.rep (eSl eStr) A x100)::gI (true&&(x98==true)) (x100.length:Int)::gB (true&&(x98==true)) (decide (0<(x100.length:Int)))::gI (true&&(x98==true)) s63::gI (true&&(x98==true)) x4.2::gB (true&&(x98==true)) (decide (x4.2<s63))::gB (true&&(x98==true)) ((decide (0<(x100.length:Int)))==(decide (x4.2<s63)))::eB x102::eB x102::[]) ?_ ?_
 exact om h10<|om h3<|op (fun Q U W H D=>zAI call18 (zEl (q95 Z) (d.fr W.size) (hG0.fr (j.trans W)) ((f_u6.fr W).eq (D.g 0 Z))))<|op (fun Q U W H D=>zDM (D.g 0 Z) (D.g 1 Z))<|ov<|gm 4 true h9<|og 4 true (fun G Q U W H D=>zAK (aT:=#[]) ((f_u60.fr W).eq (D.h 0 G Z)) underlying24)<|gm 4 true h3<|og 4 true (fun G Q U W H D=>zAI call9 (zD4 (q97 G) (d.fr W.size) ((f_u6.fr W).eq (D.h 0 G Z))))<|og 4 true (fun G Q U W H D=>zAK (aT:=#[]) (D.h 0 G Z) underlying24)<|og 4 true (fun G Q U W H D=>zDM (D.h 0 G Z) (D.h 1 G Z))<|op (fun Q U W H D=>zAX (s63==x94) (D.g 0 Z) (fun hc=>by have a1:Q 186=.bool ((x58.length:Int)==(x96.length:Int)):=D 1 _ _ _ Z Z Z Z (zC2 Z (zB2 hc));show _=Value.bool x98;rw [q99,hc];exact a1) (fun hc=>by show _=Value.bool x98;rw [q99,hc];exact Z))<|ov<|gm 12 true h3<|gm 12 true h4<|og 12 true (fun G Q U W H D=>zAI call20 (zE2 (q101 G) (d.fr W.size) (hG0.fr (j.trans W)) ((f_u6.fr W).eq (D.h 0 G Z)) (D.h 1 G Z)))<|og 12 true (fun G Q U W H D=>zAK (aT:=#[]) (D.h 0 G Z) underlying34)<|og 12 true (fun G Q U W H D=>zDg (D.h 0 G Z) Z)<|gm 12 true h10<|gm 12 true h4<|og 12 true (fun G Q U W H D=>zDg (D.h 0 G Z) (D.h 1 G Z))<|og 12 true (fun G Q U W H D=>zP4 underlying4 (D.h 0 G Z) (D.h 1 G Z))<|op (fun Q U W H D=>zAX x98 (D.g 0 Z) (fun hc=>by have a1:Q 197=.bool ((decide (0<(x100.length:Int)))==(decide (x4.2<s63))):=D 1 _ _ _ Z Z Z Z (zC2 Z (zB2 hc));show _=Value.bool x102;rw [q103,hc];exact a1) (fun hc=>by show _=Value.bool x102;rw [q103,hc];exact Z))<|oa<|oz
 intro R w m n p d j
 have h2:=p.r 23 Z
 refine HT.ret ?_
 obtain rfl:=si c
 exact ⟨.inr Z,[R 2],⟨Z,N⟩,h2,j⟩
end Go.Proofs.YtldppodfhabkjaaGreatDoor

namespace Go.Proofs.YtldppodfhabkjaaGreatDoor
open Go.RowKit
set_option linter.unusedVariables false
theorem zAA {α β:Type} [Inhabited α] {x:α} {k:α->Option β}:cl true (some x) k=k x:=rfl
theorem zLs {α β:Type} [Inhabited α] {o:Option α} {k:α->Option β}:cl false o k=k default:=rfl
theorem zQ1 {α β:Type} [Inhabited α] {g:Bool} {x:α} {k:α->Option β}:cl g (some x) k=k (bif g then x else default):=by cases g <;> rfl
theorem zCT {α β:Type} {e:α} {k:α->Option β}:bd e k=k e:=rfl
theorem ck_t {α:Type} {b:Bool} {k:Option α} (h:b=true):ck b k=k:=by rw [h];rfl
theorem zCf {α:Type} {k:Option α}:ck true k=k:=rfl
theorem zOu {ρ σ γ:Type} {r:ρ} {f:ρ->Option γ} {g:σ->Option γ}:exM (.ret r) f g=f r:=rfl
theorem zHl {ρ σ γ:Type} {s:σ} {f:ρ->Option γ} {g:σ->Option γ}:exM (.go s) f g=g s:=rfl
theorem zB6 {i:Nat} {n:Nat} (h:i<n):inR (i:Int) n=true:=zCw.2 ⟨by omega,by omega⟩
theorem zL4 {i:Int} {n:Nat} (h0:0<=i) (h:i<n):inR i n=true:=zCw.2 ⟨h0,h⟩
theorem zCM {x:Int} (h0:-9223372036854775808<=x) (h1:x<=9223372036854775807):i64B x=true:=by simp [i64B,h0,h1]
theorem zAa {α:Type} [Inhabited α] {xs:List α} {i:Nat} {x:α} (h:xs[i]? = some x):gtD xs (i:Int)=x:=by
  unfold gtD
  rw [Int.toNat_natCast,List.getD_eq_getElem?_getD,h]
  rfl
theorem zAj {n:Nat} (h:n<=4294967296):zBJ n=true:=Nat.ble_eq_true_of_le h
theorem zJJ : ∀ (a : List UInt8), bLt a a = false
  | []=>rfl
  | a::x=>by
    unfold bLt Op.bytesLess
    rw [show Op.bytesLess x x=false from zJJ x]
    simp
theorem zKK : ∀ {a b c : List UInt8}, bLt a b = true -> bLt b c = true -> bLt a c = true
  | _,_,[],_,h=>by cases ‹List UInt8› <;> simp [bLt,Op.bytesLess] at h
  | _,[],_::_,h,_=>by cases ‹List UInt8› <;> simp [bLt,Op.bytesLess] at h
  | [],_::_,_::_,_,_=>rfl
  | a::x,b::y,c::z,h,k=>by
    unfold bLt Op.bytesLess at h k ⊢
    simp only [Bool.or_eq_true,Bool.and_eq_true,decide_eq_true_eq,beq_iff_eq] at h k ⊢
    rcases h with h | ⟨rfl,h⟩
    . rcases k with k | ⟨rfl, k⟩
      . exact .inl (UInt8.lt_trans h k)
      . exact .inl h
    . rcases k with k | ⟨rfl, k⟩
      . exact .inl k
      . exact .inr ⟨rfl,zKK h k⟩
theorem zMe : ∀ {a b : List UInt8}, bLt a b = false -> bLt b a = false -> a = b
  | [],[],_,_=>rfl
  | [],_::_,h,_=>by simp [bLt,Op.bytesLess] at h
  | _::_,[],_,h=>by simp [bLt,Op.bytesLess] at h
  | a::x,b::y,h,k=>by
    unfold bLt Op.bytesLess at h k
    simp only [Bool.or_eq_false_iff,Bool.and_eq_false_imp,decide_eq_false_iff_not,beq_iff_eq] at h k
    have e:a=b:=by
      rcases UInt8.lt_or_lt_of_ne (a:=a) (b:=b) |> fun f=>Classical.em (a=b) |>.imp id f with e | e | e
      . exact e
      . exact absurd e h.1
      . exact absurd e k.1
    subst e
    rw [zMe (h.2 rfl) (k.2 rfl)]
theorem zPX (a b:List UInt8):decide (a<=b) = !(bLt b a):=by
  have h:=Go.Proofs.bytesLess_eq b a
  unfold bLt
  rw [h]
  by_cases hlt:b<a
  . have : ¬ a <= b := List.not_le.2 hlt
    rw [decide_eq_true hlt,decide_eq_false this]
    rfl
  . have : a <= b := List.not_lt.1 hlt
    rw [decide_eq_false hlt,decide_eq_true this]
    rfl
theorem lt_t {i n:Nat} (h:i<n):decide ((i:Int)<(n:Int))=true:=by simpa using h
theorem lt_f (n:Nat):decide ((n:Int)<(n:Int))=false:=decide_eq_false (Int.lt_irrefl _)
theorem zC3 {i:Nat} (hn:i<=4294967296):i64B ((i:Int)+1)=true:=zCM (by omega) (by omega)
theorem zCq {α:Type} {xs:List α} {i:Nat} {x:α} (h:xs[i]? = some x):i<xs.length:=(List.getElem?_eq_some_iff.1 h).1
theorem zDL {α:Type} {xs:List α} {i:Nat} {x:α} (h:xs[i]? = some x):x ∈ xs:=List.mem_of_getElem? h
theorem zAm (i:Nat):(i:Int)+1=((i+1:Nat):Int):=rfl
theorem zKv {α:Type} (xs:List α) (i:Nat) (x:α):xs.set ((i:Nat):Int).toNat x=xs.set i x:=by rw [Int.toNat_natCast]
theorem zEg {α:Type} {xs:List α} {i:Nat} {x:α} (h:xs[i]? = some x):xs.drop i=x::xs.drop (i+1):=by
  obtain ⟨h1,rfl⟩:=List.getElem?_eq_some_iff.1 h
  exact List.drop_eq_getElem_cons h1
theorem zFE {α ρ : Type} {xs : List α} {p : α -> Bool} {r : ρ} {L : Nat -> Int -> Option (Ex ρ Unit)}
    (hs:∀ k (i:Nat) x,xs[i]? = some x->L (k+1) (i:Int)=bif p x then some (.ret r) else L k ((i+1:Nat):Int)) (he:∀ k,L (k+1) (xs.length:Int)=some (.go ())) {fu:Nat} (hf:xs.length<fu) :
    L fu (0:Int)=some (bif xs.any p then .ret r else .go ()):=by
  have key:∀ m i k,i+m=xs.length->m<k->L k ((i:Nat):Int)=some (bif (xs.drop i).any p then .ret r else .go ()):=by
    intro m
    induction m with
    | zero=>
      intro i k hi hk
      obtain ⟨k,rfl⟩:∃ q,k=q+1:=⟨k-1,by omega⟩
      obtain rfl:i=xs.length:=by omega
      rw [he,List.drop_length]
      rfl
    | succ m ih=>
      intro i k hi hk
      obtain ⟨k,rfl⟩:∃ q,k=q+1:=⟨k-1,by omega⟩
      have hx:=List.getElem?_eq_getElem (show i<xs.length by omega)
      rw [hs k i _ hx,zEg hx,List.any_cons]
      cases p xs[i]
      . exact ih (i+1) k (by omega) (by omega)
      . rfl
  have:=key xs.length 0 fu (by omega) hf
  rwa [show ((0:Nat):Int)=0 from rfl,List.drop_zero] at this
def ixI : Nat -> List Bool -> Option Nat
  | _,[]=>none
  | i,b::bs=>bif b then some i else ixI (i+1) bs
theorem zHh : ∀ {bs : List Bool} {i j : Nat}, ixI i bs = some j -> i <= j /\ bs[j - i]? = some true /\ ∀ q, q < j - i -> bs[q]? = some false
  | [],i,j,h=>by cases h
  | b::bs,i,j,h=>by
    unfold ixI at h
    cases b with
    | true=>
      obtain rfl:=Option.some.inj h
      refine ⟨Nat.le_refl _,by simp,fun q hq=>by omega⟩
    | false=>
      obtain ⟨h1,h2,h3⟩:=zHh (bs:=bs) (i:=i+1) h
      refine ⟨by omega,?_,fun q hq=>?_⟩
      . rw [show j - i = (j - (i + 1)) + 1 by omega, List.getElem?_cons_succ]
        exact h2
      . cases q with
        | zero=>rfl
        | succ q=>rw [List.getElem?_cons_succ];exact h3 q (by omega)
theorem zHZ : ∀ {bs : List Bool} {i : Nat}, ixI i bs = none -> ∀ b ∈ bs, b = false
  | [],i,h,b,hb=>by cases hb
  | c::bs,i,h,b,hb=>by
    unfold ixI at h
    cases c with
    | true=>cases h
    | false=>
      rcases List.mem_cons.1 hb with rfl | hb
      . rfl
      . exact zHZ (bs:=bs) (i:=i+1) h b hb
theorem zJq {α : Type} {xs : List α} {p : α -> Bool} {L : Nat -> Int -> Option (Ex Int Unit)}
    (hs:∀ k (i:Nat) x,xs[i]? = some x->L (k+1) (i:Int)=bif p x then some (.ret (i:Int)) else L k ((i+1:Nat):Int)) (he:∀ k,L (k+1) (xs.length:Int)=some (.go ())) {fu:Nat} (hf:xs.length<fu) :
    L fu (0:Int)=some (match ixI 0 (xs.map p) with | some i=>.ret (i:Int) | none=>.go ()):=by
  have key:∀ m i k,i+m=xs.length->m<k->L k ((i:Nat):Int)=some (match ixI i ((xs.drop i).map p) with | some i=>.ret (i:Int) | none=>.go ()):=by
    intro m
    induction m with
    | zero=>
      intro i k hi hk
      obtain ⟨k,rfl⟩:∃ q,k=q+1:=⟨k-1,by omega⟩
      obtain rfl:i=xs.length:=by omega
      rw [he,List.drop_length]
      rfl
    | succ m ih=>
      intro i k hi hk
      obtain ⟨k,rfl⟩:∃ q,k=q+1:=⟨k-1,by omega⟩
      have hx:=List.getElem?_eq_getElem (show i<xs.length by omega)
      rw [hs k i _ hx,zEg hx,List.map_cons,ixI]
      cases p xs[i]
      . exact ih (i+1) k (by omega) (by omega)
      . rfl
  have:=key xs.length 0 fu (by omega) hf
  rwa [show ((0:Nat):Int)=0 from rfl,List.drop_zero] at this
theorem zCz {α σ : Type} {xs : List α} {g : σ -> α -> σ} {Inv : Nat -> σ -> Prop} {L : Nat -> Int -> σ -> Option σ}
    (hs:∀ k (i:Nat) a x,xs[i]? = some x->Inv i a->L (k+1) (i:Int) a=L k ((i+1:Nat):Int) (g a x)) (hI:∀ (i:Nat) a x,xs[i]? = some x->Inv i a->Inv (i+1) (g a x))
    (he:∀ k a,Inv xs.length a->L (k+1) (xs.length:Int) a=some a) {a:σ} (h0:Inv 0 a) {fu:Nat} (hf:xs.length<fu) :
    L fu (0:Int) a=some (xs.foldl g a)/\Inv xs.length (xs.foldl g a):=by
  have key:∀ m i k a,i+m=xs.length->m<k->Inv i a->L k ((i:Nat):Int) a=some ((xs.drop i).foldl g a)/\Inv xs.length ((xs.drop i).foldl g a):=by
    intro m
    induction m with
    | zero=>
      intro i k a hi hk ha
      obtain ⟨k,rfl⟩:∃ q,k=q+1:=⟨k-1,by omega⟩
      obtain rfl:i=xs.length:=by omega
      rw [he k a ha,List.drop_length]
      exact ⟨rfl,ha⟩
    | succ m ih=>
      intro i k a hi hk ha
      obtain ⟨k,rfl⟩:∃ q,k=q+1:=⟨k-1,by omega⟩
      have hx:=List.getElem?_eq_getElem (show i<xs.length by omega)
      rw [hs k i a _ hx ha,zEg hx,List.foldl_cons]
      exact ih (i+1) k _ (by omega) (by omega) (hI i a _ hx ha)
  have:=key xs.length 0 fu a (by omega) hf h0
  rwa [show ((0:Nat):Int)=0 from rfl,List.drop_zero] at this
theorem zCp {i:Nat} (hn:i<=4294967296):i64B ((i+1:Nat):Int)=true:=zCM (by omega) (by omega)
theorem zN6 (i:Nat) (hn:i<=4294967296):i64B (i:Int)=true:=zCM (by omega) (by omega)
theorem lt_0 {n:Nat} (h:0<n):decide ((0:Int)<(n:Int))=true:=decide_eq_true (by omega)
theorem zOw {n:Nat} (h:0<n):inR (0:Int) n=true:=zB6 (i:=0) h
theorem zPu:(0:Int)+1=((1:Nat):Int):=rfl
theorem zOO:i64B ((1:Nat):Int)=true:=rfl
theorem zOU (i:Nat):((i+1:Nat):Int)-1=(i:Int):=by omega
set_option linter.unusedSimpArgs false
theorem zF6 {t:List UInt8} {i:Nat} {c:UInt8} (h:t[i]? = some c):bAt t (i:Int)=(c.toNat:Int):=by
  unfold bAt
  rw [Int.toNat_natCast,List.getD_eq_getElem?_getD,h]
  rfl
def smI (n:Int):Bool:=decide (97<=n)&&decide (n<=122)
def dgI (n:Int):Bool:=decide (48<=n)&&decide (n<=57)
def cpI (n:Int):Bool:=decide (65<=n)&&decide (n<=90)
def zK0 (n:Int):Int:=bif cpI n then n+32 else n
theorem zLS (n:Int) (h0:0<=n) (h1:n<=255):IntKind.u8.wrap n=n:=by
  have:n % 256=n:=Int.emod_eq_of_lt h0 (by omega)
  simp [IntKind.wrap,IntKind.bits,this,show IntKind.u8.signed=false from rfl]
theorem zPY {fu:Nat} {t:List UInt8} (hf:t.length<fu) (hl:t.length<=1048576):zCc fu t=some (t.map fun c=>UInt8.ofNat (zK0 c.toNat).toNat):=by
  unfold zCc
  have h:=zCz (xs:=t) (g:=fun (a:List Int) (c:UInt8)=>a ++ [zK0 c.toNat]) (Inv:=fun i a=>a.length=i) (L:=zBx fu t) (fun k i a c hc ha=>by
    have hi:=zCq hc
    have hcu:c.toNat<256:=c.toNat_lt
    rw [zBx,lt_t hi,cond_true]
    simp only [zB6 hi,zF6 hc,zCT,zCf,List.length_singleton,zAj (show a.length+1<=4294967296 by omega),zCp (show i<=4294967296 by omega),zAm,zK0,cpI]
    cases hcp:(decide ((65:Int)<=(c.toNat:Int))&&decide ((c.toNat:Int)<=90))
    . rfl
    . simp only [Bool.and_eq_true, decide_eq_true_eq] at hcp
      rw [zLS _ (by omega) (by omega)]
      rfl) (fun i a c hc ha=>by simp [ha]) (fun k a ha=>by rw [zBx,lt_f];rfl) (a:=[]) rfl hf
  rw [h.1,zAA]
  have key:∀ (t:List UInt8) (a:List Int),t.foldl (fun (a:List Int) (c:UInt8)=>a ++ [zK0 c.toNat]) a=a++t.map fun c=>zK0 c.toNat:=by
    intro t
    induction t with
    | nil=>intro a;simp
    | cons c t ih=>intro a;rw [List.foldl_cons,ih];simp
  rw [key,List.nil_append]
  unfold strB
  rw [List.map_map]
  rfl
def wdI (n:Int):Bool:=(smI n || cpI n) || dgI n
def spC (c : UInt8) : List UInt8 -> List (List UInt8)
  | []=>[[]]
  | b :: s => if b = c then [] :: spC c s else match spC c s with
    | []=>[[b]]
    | x::xs=>(b::x)::xs
theorem zLd (c:UInt8) (s:List UInt8):spC c s ≠ []:=by
  cases s with
  | nil=>simp [spC]
  | cons b s=>
    unfold spC
    split
    . simp
    . cases spC c s <;> simp
theorem zM1 {c : UInt8} : ∀ {s : List UInt8}, c ∉ s -> spC c s = [s]
  | [],_=>rfl
  | b::s,h=>by
    have h1:b ≠ c:=fun e=>h (e ▸ List.mem_cons_self)
    have h2:=zM1 (c:=c) (s:=s) fun h'=>h (List.mem_cons_of_mem _ h')
    unfold spC
    rw [if_neg h1,h2]
theorem zNA {c : UInt8} : ∀ {x s : List UInt8}, c ∉ x -> spC c (x ++ c :: s) = x :: spC c s
  | [],s,_=>by
    show spC c (c::s)=_
    rw [spC,if_pos rfl]
  | b::x,s,h=>by
    have h1:b ≠ c:=fun e=>h (e ▸ List.mem_cons_self)
    have h2:=zNA (c:=c) (x:=x) (s:=s) fun h'=>h (List.mem_cons_of_mem _ h')
    rw [List.cons_append,spC,if_neg h1,h2]
theorem zJy (c : UInt8) : ∀ s : List UInt8, (spC c s).length <= s.length + 1
  | []=>Nat.le_refl _
  | b::s=>by
    have:=zJy c s
    unfold spC
    split
    . simp only [List.length_cons];omega
    . cases h : spC c s with
      | nil=>simp
      | cons x xs=>rw [h] at this;simp only [List.length_cons] at this ⊢;omega
theorem zJp (c : UInt8) : ∀ s : List UInt8, ∀ x ∈ spC c s, x.length <= s.length
  | [],x,hx=>by rw [spC] at hx;rw [List.mem_singleton.1 hx];exact Nat.le_refl _
  | b::s,x,hx=>by
    unfold spC at hx
    split at hx
    . rcases List.mem_cons.1 hx with rfl | hx
      . exact Nat.zero_le _
      . exact Nat.le_succ_of_le (zJp c s x hx)
    . cases h : spC c s with
      | nil=>exact absurd h (zLd c s)
      | cons y ys=>
        rw [h] at hx
        rcases List.mem_cons.1 hx with rfl | hx
        . have := zJp c s y (by rw [h]; exact List.mem_cons_self)
          simp only [List.length_cons];omega
        . have := zJp c s x (by rw [h]; exact List.mem_cons_of_mem _ hx)
          simp only [List.length_cons];omega
theorem zJa {t:List UInt8} {i:Nat} {c:UInt8} (h:t[i]? = some c):bAt t (i:Int)=(c.toNat:Int):=by
  unfold bAt
  simp [List.getD_eq_getElem?_getD,h]
theorem zNW {s:List UInt8} {a b:Nat}:subL s (a:Int) (b:Int)=(s.drop a).take (b-a):=by simp [subL]
theorem zNj {fu : Nat} {s : List UInt8} {c : UInt8} (hs : s.length <= 1048576) : ∀ m i a k (acc : List (List UInt8)), i + m = s.length -> m < k -> a <= i -> acc.length <= i -> c ∉ (s.drop a).take (i - a) ->
    ∃ q:Nat × List (List UInt8),zCX fu s (c.toNat:Int) k (a:Int) (i:Int) acc=some ((q.1:Int),q.2)/\q.1<=s.length/\q.2.length<=s.length/\q.2 ++ [s.drop q.1]=acc++spC c (s.drop a):=by
  intro m
  induction m with
  | zero=>
    intro i a k acc hi hk ha hacc hn
    obtain ⟨k,rfl⟩:∃ z,k=z+1:=⟨k-1,by omega⟩
    obtain rfl:i=s.length:=by omega
    refine ⟨(a,acc),by rw [zCX,lt_f];rfl,ha,hacc,?_⟩
    rw [List.take_of_length_le (by simp)] at hn
    rw [zM1 hn]
  | succ m ih=>
    intro i a k acc hi hk ha hacc hn
    obtain ⟨k,rfl⟩:∃ z,k=z+1:=⟨k-1,by omega⟩
    have hlt:i<s.length:=by omega
    have hx:=List.getElem?_eq_getElem hlt
    have hdrop:s.drop a=(s.drop a).take (i-a)++s[i]::s.drop (i+1):=by
      have h1:(s.drop a).drop (i-a)=s[i]::s.drop (i+1):=by
        rw [List.drop_drop,show a+(i-a)=i by omega]
        exact List.drop_eq_getElem_cons hlt
      rw [<- h1,List.take_append_drop]
    rw [zCX,lt_t hlt,cond_true,ck_t (zB6 hlt),zJa hx]
    by_cases hc:s[i]=c
    . have e : ((s[i].toNat : Int) == (c.toNat : Int)) = true := by rw [hc]; simp
      obtain ⟨q,h1,h2,h3,h4⟩:=ih (i+1) (i+1) k (acc ++ [(s.drop a).take (i-a)]) (by omega) (by omega) (Nat.le_refl _) (by simp;omega) (by simp)
      refine ⟨q,?_,h2,h3,?_⟩
      . rw [e, cond_true, ck_t (zBb.2 ⟨by omega, by omega, by omega⟩), ck_t (zAj (by simp; omega)), ck_t (zC3 (by omega)), ck_t (zC3 (by omega)), zAm, zNW]
        exact h1
      . have e3 := congrArg (spC c) hdrop
        rw [hc,zNA hn] at e3
        rw [h4,e3,List.append_assoc]
        rfl
    . have e:((s[i].toNat:Int)==(c.toNat:Int))=false:=by
        rw [beq_eq_false_iff_ne]
        intro h
        exact hc (UInt8.toNat_inj.1 (by omega))
      obtain ⟨q, h1, h2, h3, h4⟩ := ih (i + 1) a k acc (by omega) (by omega) (by omega) (by omega) (by
        have ht:(s.drop a).take (i+1-a)=(s.drop a).take (i-a) ++ [s[i]]:=by
          rw [show i+1-a=(i-a)+1 by omega,List.take_add_one,List.getElem?_drop,show a+(i-a)=i by omega,hx]
          rfl
        rw [ht]
        intro h
        rcases List.mem_append.1 h with h | h
        . exact hn h
        . exact hc (List.mem_singleton.1 h).symm)
      refine ⟨q,?_,h2,h3,h4⟩
      rw [e,cond_false,ck_t (zC3 (by omega)),zAm]
      exact h1
theorem zOl {fu:Nat} {s:List UInt8} {c:UInt8} (hf:1048577<=fu) (hs:s.length<=1048576):zDv fu s (c.toNat:Int)=some (spC c s):=by
  obtain ⟨q,h1,h2,h3,h4⟩:=zNj (fu:=fu) (c:=c) hs s.length 0 0 fu [] (by omega) (by omega) (Nat.le_refl _) (Nat.zero_le _) (by simp)
  unfold zDv
  have e:subL s (q.1:Int) (s.length:Int)=s.drop q.1:=by
    unfold subL
    exact List.take_of_length_le (by simp only [List.length_drop];omega)
  rw [show (0:Int)=((0:Nat):Int) from rfl,h1,zAA]
  dsimp only
  rw [ck_t (zBb.2 ⟨by omega,by omega,by omega⟩),e,ck_t (zAj (by simp;omega)),h4]
  simp
theorem zLO {b c:UInt8} {l:List UInt8} (h:b ≠ c):Lib.index (b::l) [c]=if Lib.index l [c] == -1 then -1 else Lib.index l [c]+1:=by
  have hp:([c]:List UInt8).isPrefixOf (b::l)=false:=by simp [List.isPrefixOf,Ne.symm h]
  rw [Lib.index,hp]
  simp
theorem zCU (s:List UInt8):(bytL s).length=s.length:=by simp [bytL]
theorem zES (s:List UInt8):strB (bytL s)=s:=by
  unfold strB bytL
  rw [List.map_map]
  have:((fun n:Int=>UInt8.ofNat n.toNat) ∘ fun b:UInt8=>(b.toNat:Int))=id:=by
    funext b
    show UInt8.ofNat ((b.toNat:Int)).toNat=b
    rw [Int.toNat_natCast]
    exact UInt8.ofNat_toNat
  rw [this,List.map_id]
theorem zDx (s t:List UInt8):bytL s++bytL t=bytL (s++t):=by simp [bytL]
theorem zFZ (c:UInt8):([(c.toNat:Int)]:List Int)=bytL [c]:=rfl
theorem zLb {s:List UInt8} {i:Nat} {c:UInt8} (h:s[i]? = some c):gtD (bytL s) (i:Int)=(c.toNat:Int):=zAa (by simp [bytL,h])
theorem zEb {σ ρ:Type} {L:Nat->Int->σ->Option ρ} {n:Nat} {r:ρ} (St:Nat->σ) (hs:∀ k i,i<n->L (k+1) (i:Int) (St i)=L k ((i+1:Nat):Int) (St (i+1))) (he:∀ k,L (k+1) (n:Int) (St n)=some r) {fu:Nat} (hf:n<fu):L fu (0:Int) (St 0)=some r:=by
  have key:∀ m i k,i+m=n->m<k->L k ((i:Nat):Int) (St i)=some r:=by
    intro m
    induction m with
    | zero=>
      intro i k hi hk
      obtain ⟨k,rfl⟩:∃ q,k=q+1:=⟨k-1,by omega⟩
      obtain rfl:i=n:=by omega
      exact he k
    | succ m ih=>
      intro i k hi hk
      obtain ⟨k,rfl⟩:∃ q,k=q+1:=⟨k-1,by omega⟩
      rw [hs k i (by omega)]
      exact ih (i+1) k (by omega) (by omega)
  exact key n 0 fu (by omega) hf
theorem zFj {α σ:Type} {g:σ->α->σ} {a:σ} {s:List α} {i:Nat} {c:α} (h:s[i]? = some c):(s.take (i+1)).foldl g a=g ((s.take i).foldl g a) c:=by
  rw [List.take_add_one,h]
  simp
theorem zHW {α σ:Type} {g:σ->α->σ} {a:σ} (s:List α):(s.take s.length).foldl g a=s.foldl g a:=by rw [List.take_length]
theorem zLj {fu:Nat} {s:List UInt8} {F:Int->Option Int} {f:UInt8->UInt8} (hF:∀ c ∈ s,F (c.toNat:Int)=some ((f c).toNat:Int)) (hf:s.length<fu) (hl:s.length<=1048576):zE0 fu s F=some (s.map f):=by
  unfold zE0
  have h:=zEb (L:=zCi fu s F) (n:=s.length) (r:=bytL (s.map f)) (fun i=>bytL ((s.take i).map f++s.drop i)) (fun k i hi=>by
    have hx:=List.getElem?_eq_getElem hi
    have hlen:((s.take i).map f++s.drop i).length=s.length:=by simp;omega
    have hg:((s.take i).map f++s.drop i)[i]? = some s[i]:=by
      rw [List.getElem?_append_right (by simp;omega)]
      simp [Nat.min_eq_left (Nat.le_of_lt hi),hx]
    have hset0:((s.take i).map f++s.drop i).set i (f s[i])=(s.take (i+1)).map f++s.drop (i+1):=by
      rw [List.drop_eq_getElem_cons hi,List.set_append_right _ _ (by simp;omega)]
      have h0:i-((s.take i).map f).length=0:=by simp;omega
      rw [h0,List.set_cons_zero,List.take_add_one,hx,List.map_append,List.append_assoc]
      rfl
    have hset:(bytL ((s.take i).map f++s.drop i)).set i ((f s[i]).toNat:Int)=bytL ((s.take (i+1)).map f++s.drop (i+1)):=by
      rw [<- hset0]
      unfold bytL
      exact List.map_set.symm
    rw [zCi,zCU,lt_t hi,cond_true]
    rw [ck_t (zB6 (by rw [zCU,hlen];exact hi)),zLb hg,hF _ (List.getElem_mem hi),zAA,ck_t (zB6 (by rw [zCU,hlen];exact hi)),zAm,ck_t (zCp (by omega)),Int.toNat_natCast,hset]) (fun k=>by
    rw [zCi,zCU,lt_f,cond_false]
    simp) hf
  rw [List.take_zero,List.drop_zero,List.map_nil,List.nil_append] at h
  rw [ck_t (zAj (by omega)),h,zAA,zES]
def fld (c:UInt8):UInt8:=UInt8.ofNat (zK0 c.toNat).toNat
theorem zOq (c:UInt8):((fld c).toNat:Int)=zK0 c.toNat:=by
  have hc:c.toNat<256:=c.toNat_lt
  unfold fld zK0 cpI
  by_cases h:(65:Int)<=(c.toNat:Int)/\(c.toNat:Int)<=90
  . rw [decide_eq_true h.1, decide_eq_true h.2]
    simp only [Bool.and_self,cond_true]
    rw [UInt8.toNat_ofNat']
    omega
  . have:(decide ((65:Int)<=(c.toNat:Int))&&decide ((c.toNat:Int)<=90))=false:=by
      rw [Bool.and_eq_false_iff,decide_eq_false_iff_not,decide_eq_false_iff_not]
      omega
    rw [this,cond_false,UInt8.toNat_ofNat']
    omega
theorem zJE {fu:Nat} {s:List UInt8} (hf:s.length<fu) (hl:s.length<=1048576):zDX fu s=some (s.map fld):=by
  unfold zDX
  rw [zLj (f:=fld) (fun c _=>?_) hf hl,zAA]
  have hc:c.toNat<256:=c.toNat_lt
  rw [zOq]
  unfold zDw zK0 cpI
  rw [zCT]
  by_cases h:(65:Int)<=(c.toNat:Int)/\(c.toNat:Int)<=90
  . rw [decide_eq_true h.1, decide_eq_true h.2]
    simp only [Bool.and_self,cond_true]
    rw [zLS _ (by omega) (by omega)]
  . have:(decide ((65:Int)<=(c.toNat:Int))&&decide ((c.toNat:Int)<=90))=false:=by
      rw [Bool.and_eq_false_iff,decide_eq_false_iff_not,decide_eq_false_iff_not]
      omega
    rw [this,cond_false,cond_false]
theorem zHq {fu:Nat} {s:List UInt8} (hf:s.length<fu) (hl:s.length<=1048576):zCc fu s=some (s.map fld):=zPY hf hl
theorem zPp (c : UInt8) : ∀ s : List UInt8, Lib.replaceK [c] [] (Lib.count s [c]) s = s.filter fun b => b != c
  | []=>by rw [Lib.count_one];rfl
  | b::l=>by
    have ih:=zPp c l
    by_cases h:b=c
    . subst h
      rw [Lib.count_cons_eq,Nat.add_comm,Lib.replaceK,show Lib.index (b::l) [b]=0 by rw [Lib.index];simp [List.isPrefixOf],if_neg (by decide),List.filter_cons]
      simpa using ih
    . rw [Lib.count_cons_ne b c l h, List.filter_cons, if_pos (by simpa using h), <- ih]
      cases hk:Lib.count l [c] with
      | zero=>rfl
      | succ k=>
        have hm:Lib.index l [c] ≠ -1:=fun hm=>by rw [Lib.count_miss hm] at hk;cases hk
        have hge:=Lib.index_ge l [c]
        obtain ⟨j,hj⟩:∃ j:Nat,Lib.index l [c]=j:=⟨(Lib.index l [c]).toNat,by omega⟩
        have e2:((j:Int)+1).toNat=j+1:=by omega
        rw [Lib.replaceK,zLO h,hj,if_neg (by simp;omega),if_neg (by simp),e2,Lib.replaceK,hj,if_neg (by simp)]
        simp
theorem zOj (c:UInt8) (s:List UInt8):Lib.replaceAll s [c] []=s.filter fun b=>b != c:=by
  unfold Lib.replaceAll Lib.replace Lib.replaceNum
  rw [if_neg (by simp),if_pos (.inl (by decide)),zPp]
def wdB (c:UInt8):Bool:=wdI c.toNat
def mkC (c:UInt8):UInt8:=bif wdB c then c else 32
def strL (s:List UInt8):List UInt8:=(s.filter fun b=>b != 39).map mkC
theorem zPK {fu:Nat} {c:UInt8}:zDS fu (c.toNat:Int)=some (wdB c):=by
  unfold zDS zDJ zDk wdB wdI smI cpI dgI
  simp only [zCT,zAA,zQ1]
  generalize (decide ((97:Int)<=(c.toNat:Int))&&decide ((c.toNat:Int)<=122))=a
  generalize (decide ((65:Int)<=(c.toNat:Int))&&decide ((c.toNat:Int)<=90))=b
  generalize (decide ((48:Int)<=(c.toNat:Int))&&decide ((c.toNat:Int)<=57))=d
  cases a <;> cases b <;> cases d <;> rfl
theorem zOm {fu:Nat} {c:UInt8}:zEc fu (c.toNat:Int)=some (wdB c):=by
  unfold zEc wdB wdI smI cpI dgI
  rfl
theorem zL0 {fu:Nat} {s:List UInt8} (hf:s.length<fu) (hl:s.length<=1048576):zDV fu s=some (strL s):=by
  have hle:=List.length_filter_le (fun b:UInt8=>b != 39) s
  unfold zDV zGO
  rw [zOj,ck_t (by simp;omega),zAA,zLj (f:=mkC) (fun c _=>?_) (by omega) (by omega),zAA]
  . rfl
  . unfold zDZ mkC
    rw [zPK,zAA]
    cases wdB c <;> rfl
theorem zJs {c d:UInt8} (h:c ≠ d):(((c.toNat:Int))==(d.toNat:Int))=false:=by
  rw [beq_eq_false_iff_ne]
  intro e
  exact h (UInt8.toNat_inj.1 (by omega))
def stG (a:List UInt8) (c:UInt8):List UInt8:=bif c != 39 then a ++ [mkC c] else a
theorem zJl : ∀ (s a : List UInt8), s.foldl stG a = a ++ strL s
  | [],a=>by simp [strL]
  | c::s,a=>by
    rw [List.foldl_cons,zJl s]
    unfold stG strL
    rw [List.filter_cons]
    cases h:c != 39 <;> simp
theorem zKx {fu:Nat} {s:List UInt8} (hf:s.length<fu) (hl:s.length<=1048576):zDW fu s=some (strL s):=by
  unfold zDW
  have hlen:∀ i,i<=s.length->((s.take i).foldl stG []).length<=i:=fun i hi=>by
    rw [zJl,List.nil_append]
    unfold strL
    rw [List.length_map]
    have:=List.length_filter_le (fun b:UInt8=>b != 39) (s.take i)
    rw [List.length_take] at this
    omega
  have h:=zEb (L:=zBM fu s) (n:=s.length) (r:=bytL (s.foldl stG [])) (fun i=>bytL ((s.take i).foldl stG [])) (fun k i hi=>by
    have hx:=List.getElem?_eq_getElem hi
    have hil:=hlen i (by omega)
    generalize hc:s[i]=c at hx
    rw [zBM,lt_t hi,cond_true,zFj hx,ck_t (zB6 hi),zF6 hx,zOm,zAA]
    generalize (s.take i).foldl stG []=o at hil ⊢
    have hl1:∀ (l:List Int),l.length=1->zBJ ((bytL o).length+l.length)=true:=fun l hl=>zAj (by rw [zCU,hl];omega)
    rw [hl1 _ rfl,hl1 _ rfl]
    simp only [zB6 hi,Bool.or_true,zCf,zCT,zAm,zCp (show i<=4294967296 by omega)]
    by_cases h32:c=32
    . subst h32
      have hw:(wdB 32 || (((UInt8.toNat 32:Nat):Int)==(32:Int)))=true:=by decide
      rw [hw,cond_true,zFZ,zDx]
      rfl
    . have e32 : (((c.toNat : Int)) == (32 : Int)) = false := zJs (d := 32) h32
      rw [e32,Bool.or_false]
      cases hw:wdB c with
      | true=>
        have h39:c ≠ 39:=fun e=>by subst e;exact absurd hw (by decide)
        have:(c != 39)=true:=by simpa using h39
        rw [cond_true,zFZ,zDx]
        unfold stG mkC
        rw [this,hw,cond_true,cond_true]
      | false=>
        rw [cond_false]
        by_cases h39:c=39
        . subst h39
          rfl
        . have e39:(((c.toNat:Int)) != (39:Int))=true:=by
            have:=zJs (d:=39) h39
            show (!(((c.toNat:Int))==(((39:UInt8).toNat:Nat):Int)))=true
            rw [this]
            rfl
          have:(c != 39)=true:=by simpa using h39
          rw [e39,cond_true,show ([(32:Int)]:List Int)=bytL [32] from rfl,zDx]
          unfold stG mkC
          rw [this,hw,cond_true,cond_false]) (fun k=>by rw [zBM,lt_f,cond_false,zHW]) hf
  rw [show (([]:List Int))=bytL ((s.take 0).foldl stG []) from rfl,h,zAA,zES,zJl,List.nil_append]
def coS (o:List UInt8 × Bool) (c:UInt8):List UInt8 × Bool:=bif c==32 then (o.1,true) else ((bif !o.1.isEmpty&&o.2 then o.1 ++ [32] else o.1) ++ [c],false)
def coT (o:List UInt8 × Bool):List UInt8:=bif !o.1.isEmpty&&o.2 then o.1 ++ [32] else o.1
def colL (s:List UInt8):List UInt8:=(s.foldl coS ([],false)).1
theorem zMI {o:List UInt8 × Bool} {c:UInt8} (h:(c==32)=true):coS o c=(o.1,true):=by unfold coS;rw [h];rfl
theorem zMK {o:List UInt8 × Bool} {c:UInt8} (h:(c==32)=false):coS o c=(coT o ++ [c],false):=by unfold coS coT;rw [h];rfl
theorem zMt (o:List UInt8 × Bool):(coT o).length<=o.1.length+1:=by
  unfold coT
  cases (!o.1.isEmpty&&o.2)
  . rw [cond_false];omega
  . rw [cond_true,List.length_append,List.length_singleton];omega
theorem zLh (s:List UInt8):∀ i,i<=s.length->((s.take i).foldl coS ([],false)).1.length<=2*i:=by
  intro i
  induction i with
  | zero=>intro _;exact Nat.zero_le _
  | succ i ih=>
    intro hi
    have:=ih (by omega)
    rw [zFj (List.getElem?_eq_getElem (show i<s.length by omega))]
    generalize (s.take i).foldl coS ([],false)=o at this ⊢
    have h2:=zMt o
    cases h:s[i]==32
    . rw [zMK h]
      dsimp only
      rw [List.length_append,List.length_singleton]
      omega
    . rw [zMI h]
      dsimp only
      omega
theorem zP8 (s:List UInt8) {i:Nat} (hi:i<s.length):((s.take (i+1)).foldl coS ([],false)).2=(s[i]==32):=by
  rw [zFj (List.getElem?_eq_getElem hi)]
  generalize (s.take i).foldl coS ([],false)=o
  cases h:s[i]==32
  . rw [zMK h]
  . rw [zMI h]
theorem zMR (s:List UInt8):∀ i,i<=s.length->((s.take i).foldl coS ([],false)).1 = []\/∃ l c,((s.take i).foldl coS ([],false)).1=l ++ [c]/\(c==32)=false:=by
  intro i
  induction i with
  | zero=>intro _;exact .inl rfl
  | succ i ih=>
    intro hi
    have:=ih (by omega)
    rw [zFj (List.getElem?_eq_getElem (show i<s.length by omega))]
    generalize (s.take i).foldl coS ([],false)=o at this ⊢
    cases h:s[i]==32
    . rw [zMK h]
      exact .inr ⟨_,_,rfl,h⟩
    . rw [zMI h]
      exact this
theorem e32 {c:UInt8}:(((c.toNat:Int))==(32:Int))=(c==32):=by
  by_cases h:c=32
  . subst h;rfl
  . exact (show (((c.toNat:Int))==(32:Int))=false from zJs (d:=32) h).trans (beq_eq_false_iff_ne.2 h).symm
theorem ne32 {c:UInt8}:(((c.toNat:Int)) != (32:Int)) = !(c==32):=by rw [<- e32];rfl
theorem zNK (l:List UInt8):decide ((0:Int)<((bytL l).length:Int)) = !l.isEmpty:=by
  rw [zCU]
  cases l with
  | nil=>rfl
  | cons a l=>exact decide_eq_true (by simp)
theorem zNB {fu:Nat} {s:List UInt8} (hf:s.length<fu) (hl:s.length<=1048576):zCe fu s=some (colL s):=by
  unfold zCe
  have h:=zEb (L:=zAu fu s) (n:=s.length) (r:=bytL (s.foldl coS ([],false)).1) (fun i=>bytL ((s.take i).foldl coS ([],false)).1) (fun k i hi=>by
    have hx:=List.getElem?_eq_getElem hi
    have hil:=zLh s i (by omega)
    have hpv:∀ j,i=j+1->((s.take i).foldl coS ([],false)).2=(s[j]! == 32):=fun j hj=>by subst hj;rw [zP8 s (by omega),getElem!_pos s j (by omega)]
    have hz:i=0->((s.take i).foldl coS ([],false)).1 = []:=fun h0=>by subst h0;rfl
    generalize hc:s[i]=c at hx
    rw [zAu,lt_t hi,cond_true,zFj hx,ck_t (zB6 hi),zF6 hx]
    generalize (s.take i).foldl coS ([],false)=o at hil hpv hz ⊢
    have hl1:∀ (l:List Int),l.length=1->zBJ ((bytL o.1).length+l.length)=true:=fun l hl=>zAj (by rw [zCU,hl];omega)
    have hl2:∀ (l m:List Int),l.length=1->m.length=1->zBJ ((bytL o.1++l).length+m.length)=true:=fun l m h1 h2=>zAj (by rw [List.length_append,zCU,h1,h2];omega)
    rw [hl1 _ rfl,hl1 _ rfl,hl2 _ _ rfl rfl,ne32,zNK]
    simp only [zB6 hi,zCf,zCT,zAm,zCp (show i<=4294967296 by omega)]
    cases h32:c==32 with
    | true=>
      rw [zMI h32]
      rfl
    | false=>
      rw [zMK h32]
      cases ho:o.1.isEmpty with
      | true=>
        have:o.1 = []:=List.isEmpty_iff.1 ho
        unfold coT
        rw [ho,this]
        rfl
      | false=>
        have hi0:i ≠ 0:=fun h0=>by rw [hz h0] at ho;cases ho
        obtain ⟨j,rfl⟩:∃ j,i=j+1:=⟨i-1,by omega⟩
        have hj:=List.getElem?_eq_getElem (show j<s.length by omega)
        have hp:=hpv j rfl
        rw [getElem!_pos s j (by omega)] at hp
        simp only [zOU,zB6 (show j<s.length by omega),zN6 j (by omega),zF6 hj,e32,Bool.or_true,zCf,<- hp,Bool.not_false,Bool.true_and,cond_true]
        unfold coT
        rw [ho]
        cases o.2
        . simp only [cond_false, Bool.and_false]
          rw [zFZ,zDx]
        . simp only [cond_true, cond_false, Bool.not_false, Bool.and_true]
          rw [zFZ,show ([(32:Int)]:List Int)=bytL [32] from rfl,zDx,zDx]) (fun k=>by rw [zAu,lt_f,cond_false,zHW]) hf
  rw [show (([]:List Int))=bytL ((s.take 0).foldl coS ([],false)).1 from rfl,h,zAA,zES]
  rfl
theorem zOf {l:List UInt8} {c:UInt8}:gtD (bytL (l ++ [c])) (((bytL (l ++ [c])).length:Int)-1)=(c.toNat:Int):=by
  rw [zCU,List.length_append,List.length_singleton,show (((l.length+1:Nat):Int))-1=((l.length:Nat):Int) by omega]
  exact zLb (by simp)
theorem zQI {l:List UInt8} (h:l ≠ []):inR (((bytL l).length:Int)-1) (bytL l).length=true:=by
  have:0<l.length:=List.length_pos_iff.2 h
  rw [zCU]
  exact zL4 (by omega) (by omega)
theorem zNT {fu:Nat} {l:List UInt8} (hl:l.length<=4194304):zBw fu (l ++ [32]) ([32]:List UInt8)=some l:=by
  unfold zBw zBF zBL
  have e1:(((l ++ [32]:List UInt8).length:Nat):Int)-((([32]:List UInt8).length:Nat):Int)=((l.length:Nat):Int):=by simp
  have e2:subL (l ++ [32]:List UInt8) (l.length:Int) (((l ++ [32]:List UInt8).length:Nat):Int) = [32]:=by simp [subL]
  have e3:subL (l ++ [32]:List UInt8) 0 (l.length:Int)=l:=by simp [subL]
  have e4:decide (((([32]:List UInt8).length:Nat):Int)<=(((l ++ [32]:List UInt8).length:Nat):Int))=true:=decide_eq_true (by simp;omega)
  simp only [e1,e2,e3,e4,zN6 l.length (by omega),Bool.or_true,zCf,zCT,zAA,zBb.2 (show (0:Int)<=(l.length:Int)/\(l.length:Int)<=(((l ++ [32]:List UInt8).length:Nat):Int)/\(((l ++ [32]:List UInt8).length:Nat):Int)<=(((l ++ [32]:List UInt8).length:Nat):Int) from ⟨by omega,by simp;omega,Int.le_refl _⟩),zBb.2 (show (0:Int)<=(0:Int)/\(0:Int)<=(l.length:Int)/\(l.length:Int)<=(((l ++ [32]:List UInt8).length:Nat):Int) from ⟨by omega,by omega,by simp;omega⟩)]
  rfl
theorem zMZ {fu:Nat} {l:List UInt8} {c:UInt8} (h:(c==32)=false) (hl:l.length<=4194304):zBw fu (l ++ [c]) ([32]:List UInt8)=some (l ++ [c]):=by
  unfold zBw zBF zBL
  have e1:(((l ++ [c]:List UInt8).length:Nat):Int)-((([32]:List UInt8).length:Nat):Int)=((l.length:Nat):Int):=by simp
  have e2:subL (l ++ [c]:List UInt8) (l.length:Int) (((l ++ [c]:List UInt8).length:Nat):Int) = [c]:=by simp [subL]
  have e4:decide (((([32]:List UInt8).length:Nat):Int)<=(((l ++ [c]:List UInt8).length:Nat):Int))=true:=decide_eq_true (by simp;omega)
  have e5:(([c]:List UInt8) == [32])=false:=by simpa using h
  simp only [e1,e2,e4,e5,zN6 l.length (by omega),Bool.or_true,zCf,zCT,zAA,zBb.2 (show (0:Int)<=(l.length:Int)/\(l.length:Int)<=(((l ++ [c]:List UInt8).length:Nat):Int)/\(((l ++ [c]:List UInt8).length:Nat):Int)<=(((l ++ [c]:List UInt8).length:Nat):Int) from ⟨by omega,by simp;omega,Int.le_refl _⟩)]
  rfl
theorem zMf {fu:Nat} {s:List UInt8} (hf:s.length<fu) (hl:s.length<=1048576):zCa fu s=some (colL s):=by
  unfold zCa
  have h:=zEb (L:=zB8 fu s) (n:=s.length) (r:=bytL (coT (s.foldl coS ([],false)))) (fun i=>bytL (coT ((s.take i).foldl coS ([],false)))) (fun k i hi=>by
    have hx:=List.getElem?_eq_getElem hi
    have hil:=zLh s i (by omega)
    have hla:=zMR s i (by omega)
    generalize hc:s[i]=c at hx
    rw [zB8,lt_t hi,cond_true,zFj hx,ck_t (zB6 hi),zF6 hx]
    generalize (s.take i).foldl coS ([],false)=o at hil hla ⊢
    have hcl:=zMt o
    have hl1:∀ (l:List Int),l.length=1->zBJ ((bytL (coT o)).length+l.length)=true:=fun l hl=>zAj (by rw [zCU,hl];omega)
    rw [hl1 _ rfl,ne32,zNK]
    simp only [zB6 hi,zCf,zCT,zAm,zCp (show i<=4294967296 by omega)]
    have hb:i64B (((bytL (coT o)).length:Int)-1)=true:=zCM (by omega) (by rw [zCU];omega)
    rw [hb]
    simp only [Bool.or_true,zCf]
    cases h32:c==32 with
    | false=>
      rw [zMK h32]
      have e:coT (coT o ++ [c],false)=coT o ++ [c]:=by simp [coT]
      rw [e,<- zDx,<- zFZ]
      simp [zCf]
    | true=>
      rw [zMI h32]
      rcases hla with h0 | ⟨l,d,h0,hd⟩
      . have e1 : coT o = [] := by unfold coT; rw [h0]; rfl
        have e2:coT (o.1,true) = []:=by unfold coT;rw [h0];rfl
        rw [e1,e2]
        rfl
      . have ho : o.1.isEmpty = false := by rw [h0]; simp
        have e2:coT (o.1,true)=o.1 ++ [32]:=by unfold coT;dsimp only;rw [ho];rfl
        have e0:(coT o).isEmpty=false:=by
          unfold coT
          rw [h0]
          cases (!(l ++ [d]).isEmpty&&o.2) <;> simp
        have hne:coT o ≠ []:=fun h=>by rw [h] at e0;cases e0
        rw [e0,e2,zQI hne]
        simp only [Bool.or_true,zCf,Bool.not_true,Bool.false_or,Bool.not_false,Bool.true_and]
        cases h2:o.2 with
        | true=>
          have e1:coT o=o.1 ++ [32]:=by unfold coT;rw [ho,h2];rfl
          rw [e1,zOf]
          rfl
        | false=>
          have e1:coT o=o.1:=by unfold coT;rw [ho,h2];rfl
          rw [e1,h0,zOf,ne32,hd]
          have:c=32:=by simpa using h32
          rw [this,zFZ,zDx]
          rfl) (fun k=>by rw [zB8,lt_f,cond_false,zHW]) hf
  rw [show (([]:List Int))=bytL (coT ((s.take 0).foldl coS ([],false))) from rfl,h,zAA,zES]
  have hla:=zMR s s.length (Nat.le_refl _)
  have hil:=zLh s s.length (Nat.le_refl _)
  rw [zHW] at hla hil
  unfold colL
  generalize s.foldl coS ([],false)=o at hla hil ⊢
  rcases hla with h0 | ⟨l,d,h0,hd⟩
  . have e1 : coT o = [] := by unfold coT; rw [h0]; rfl
    rw [e1,h0]
    rfl
  . have hll : l.length <= 4194304 := by rw [h0, List.length_append] at hil; omega
    have ho:o.1.isEmpty=false:=by rw [h0];simp
    cases h2:o.2 with
    | true=>
      have e1:coT o=o.1 ++ [32]:=by unfold coT;rw [ho,h2];rfl
      rw [e1,zNT (by omega)]
      rfl
    | false=>
      have e1:coT o=o.1:=by unfold coT;rw [ho,h2];rfl
      rw [e1,h0,zMZ hd hll]
      rfl
def nrmL (s:List UInt8):List UInt8:=colL (strL (s.map fld))
theorem zJi (s:List UInt8):(strL s).length<=s.length:=by
  unfold strL
  rw [List.length_map]
  exact List.length_filter_le _ _
theorem zMF {fu:Nat} {s:List UInt8} (hf:s.length<fu) (hl:s.length<=1048576):zDh fu s=some (nrmL s):=by
  have h1:=zJi (s.map fld)
  rw [List.length_map] at h1
  unfold zDh
  rw [zHq hf hl,zAA,zKx (by simpa using hf) (by simpa using hl),zAA,zNB (by omega) (by omega),zAA]
  rfl
theorem zMB {fu:Nat} {s:List UInt8} (hf:s.length<fu) (hl:s.length<=1048576):zDi fu s=some (nrmL s):=by
  have h1:=zJi (s.map fld)
  rw [List.length_map] at h1
  unfold zDi
  rw [zJE hf hl,zAA,zL0 (by simpa using hf) (by simpa using hl),zAA,zMf (by omega) (by omega),zAA]
  rfl
theorem zJm (s:List UInt8):(nrmL s).length<=2*s.length:=by
  have h1:=zJi (s.map fld)
  have h2:=zLh (strL (s.map fld)) _ (Nat.le_refl _)
  rw [zHW] at h2
  rw [List.length_map] at h1
  unfold nrmL colL
  omega
structure Sto {α : Type} (lt : α -> α -> Bool) : Prop where
  irr:∀ a,lt a a=false
  tr:∀ a b c,lt a b=true->lt b c=true->lt a c=true
  tri:∀ a b,lt a b=false->lt b a=false->a=b
theorem zH3:Sto bLt:=⟨zJJ,fun _ _ _=>zKK,fun _ _=>zMe⟩
section
variable {α:Type} {lt:α->α->Bool}
theorem Sto.asy (S:Sto lt) {a b:α} (h:lt a b=true):lt b a=false:=by
  cases hb:lt b a
  . rfl
  . have := S.tr a b a h hb
    rw [S.irr] at this
    cases this
theorem Sto.le_tr (S:Sto lt) {a b c:α} (h:lt b a=false) (k:lt c b=false):lt c a=false:=by
  cases hca:lt c a
  . rfl
  . cases hab : lt a b
    . have := S.tri a b hab h
      subst this
      rw [hca] at k
      cases k
    . have := S.tr c a b hca hab
      rw [this] at k
      cases k
abbrev zDQ (lt:α->α->Bool) (l:List α):Prop:=l.Pairwise fun a b=>lt a b=true
abbrev zIT (lt:α->α->Bool) (l:List α):Prop:=l.Pairwise fun a b=>lt b a=false
theorem zDQ.w (S:Sto lt) {l:List α} (h:zDQ lt l):zIT lt l:=h.imp fun h=>S.asy h
theorem zFS (S : Sto lt) : ∀ {l m : List α}, zDQ lt l -> zDQ lt m -> (∀ x, x ∈ l ↔ x ∈ m) -> l = m
  | [],[],_,_,_=>rfl
  | [],b::m,_,_,h=>by have:=(h b).2 (List.mem_cons_self ..);cases this
  | a::l,[],_,_,h=>by have:=(h a).1 (List.mem_cons_self ..);cases this
  | a::l,b::m,hl,hm,h=>by
    obtain ⟨h1,h2⟩:=List.pairwise_cons.1 hl
    obtain ⟨h3,h4⟩:=List.pairwise_cons.1 hm
    have e:a=b:=by
      rcases List.mem_cons.1 ((h a).1 (List.mem_cons_self ..)) with e | e
      . exact e
      . rcases List.mem_cons.1 ((h b).2 (List.mem_cons_self ..)) with e' | e'
        . exact e'.symm
        . have := S.asy (h1 b e')
          rw [h3 a e] at this
          cases this
    subst e
    congr 1
    refine zFS S h2 h4 fun x=>?_
    constructor
    . intro hx
      rcases List.mem_cons.1 ((h x).1 (List.mem_cons_of_mem _ hx)) with e | e
      . have := h1 x hx
        rw [e,S.irr] at this
        cases this
      . exact e
    . intro hx
      rcases List.mem_cons.1 ((h x).2 (List.mem_cons_of_mem _ hx)) with e | e
      . have := h3 x hx
        rw [e,S.irr] at this
        cases this
      . exact e
theorem zDQ.nodup (S:Sto lt) {l:List α} (h:zDQ lt l):l.Nodup:=h.imp fun {a b} h e=>by subst e;rw [S.irr] at h;cases h
def zLB (l:List α) (k:Nat) (x:α):List α:=l.take k++x::l.drop k
theorem zJP (l:List α) (k:Nat) (x:α):(zLB l k x).Perm (x::l):=by
  have:=(List.perm_middle (a:=x) (l₁:=l.take k) (l₂:=l.drop k))
  rwa [List.take_append_drop] at this
theorem zEO (l:List α) (k:Nat) (x:α):(zLB l k x).length=l.length+1:=by simpa using (zJP l k x).length_eq
theorem zMT {l:List α} {k:Nat} {x y:α}:y ∈ zLB l k x ↔ y=x\/y ∈ l:=by rw [(zJP l k x).mem_iff,List.mem_cons]
theorem zPo {R:α->α->Prop} {l:List α} {k:Nat} {x:α} (hl:l.Pairwise R) (h1:∀ y ∈ l.take k,R y x) (h2:∀ y ∈ l.drop k,R x y):(zLB l k x).Pairwise R:=by
  have hl':(l.take k++l.drop k).Pairwise R:=by rw [List.take_append_drop];exact hl
  obtain ⟨a,b,c⟩:=List.pairwise_append.1 hl'
  refine List.pairwise_append.2 ⟨a,List.pairwise_cons.2 ⟨h2,b⟩,fun y hy z hz=>?_⟩
  rcases List.mem_cons.1 hz with rfl | hz
  . exact h1 y hy
  . exact c y hy z hz
def plc (lt : α -> α -> Bool) (x : α) : List α -> Nat
  | []=>0
  | y::l=>bif lt y x then plc lt x l+1 else 0
theorem zNG {x : α} : ∀ l : List α, plc lt x l <= l.length
  | []=>Nat.le_refl _
  | y::l=>by
    unfold plc
    cases lt y x
    . exact Nat.zero_le _
    . have h : plc lt x l <= l.length := zNG l
      simp
      omega
theorem zLT {x : α} : ∀ l : List α, ∀ y ∈ l.take (plc lt x l), lt y x = true
  | [],y,h=>by cases h
  | z::l,y,h=>by
    unfold plc at h
    cases hz:lt z x
    . rw [hz] at h
      cases h
    . rw [hz, cond_true, List.take_succ_cons] at h
      rcases List.mem_cons.1 h with rfl | h
      . exact hz
      . exact zLT l y h
theorem zJW {x : α} : ∀ l : List α, ∀ y, l[plc lt x l]? = some y -> lt y x = false
  | [],y,h=>by cases h
  | z::l,y,h=>by
    unfold plc at h
    cases hz:lt z x
    . rw [hz] at h
      obtain rfl:z=y:=by simpa using h
      exact hz
    . rw [hz, cond_true, List.getElem?_cons_succ] at h
      exact zJW l y h
theorem zOF (S:Sto lt) {x:α} {l:List α} (hl:zIT lt l):∀ y ∈ l.drop (plc lt x l),lt y x=false:=by
  intro y hy
  cases hd:l.drop (plc lt x l) with
  | nil=>rw [hd] at hy;cases hy
  | cons z t=>
    have hz:l[plc lt x l]? = some z:=by
      have:(l.drop (plc lt x l))[0]? = some z:=by rw [hd];rfl
      rwa [List.getElem?_drop,Nat.add_zero] at this
    have h0:=zJW l z hz
    rw [hd] at hy
    rcases List.mem_cons.1 hy with rfl | hy
    . exact h0
    . have hp : (z :: t).Pairwise fun a b => lt b a = false := hd ▸ hl.sublist (List.drop_sublist _ _)
      exact S.le_tr h0 ((List.pairwise_cons.1 hp).1 y hy)
def putW (lt:α->α->Bool) (l:List α) (x:α):List α:=zLB l (plc lt x l) x
def putS [BEq α] (lt:α->α->Bool) (l:List α) (x:α):List α:=bif (l[plc lt x l]? == some x) then l else putW lt l x
theorem zL2 [BEq α] [LawfulBEq α] (S:Sto lt) {l:List α} (x:α) (hl:zDQ lt l):zDQ lt (putS lt l x):=by
  unfold putS
  cases hc:(l[plc lt x l]? == some x)
  . refine zPo hl (zLT l) fun y hy => ?_
    have h1:=zOF S (hl.w S) y hy
    cases hxy:lt x y
    . have e := S.tri y x h1 hxy
      subst e
      exfalso
      cases hd:l.drop (plc lt y l) with
      | nil=>rw [hd] at hy;cases hy
      | cons z t=>
        have hz:l[plc lt y l]? = some z:=by
          have:(l.drop (plc lt y l))[0]? = some z:=by rw [hd];rfl
          rwa [List.getElem?_drop,Nat.add_zero] at this
        rw [hd] at hy
        have hp:(z::t).Pairwise fun a b=>lt a b=true:=hd ▸ hl.sublist (List.drop_sublist _ _)
        rcases List.mem_cons.1 hy with e | hy
        . subst e
          rw [hz] at hc
          simp at hc
        . have := (List.pairwise_cons.1 hp).1 y hy
          rw [zJW l z hz] at this
          cases this
    . rfl
  . exact hl
theorem zNN [BEq α] [LawfulBEq α] {l:List α} {x y:α}:y ∈ putS lt l x ↔ y=x\/y ∈ l:=by
  unfold putS
  cases hc:(l[plc lt x l]? == some x)
  . exact zMT
  . rw [beq_iff_eq] at hc
    exact ⟨.inr,fun h=>h.elim (fun e=>(by rw [e];exact List.mem_of_getElem? hc)) id⟩
def cmpA [BEq α] : α -> List α -> List α
  | _,[]=>[]
  | p,x::xs=>bif x==p then cmpA x xs else x::cmpA x xs
def cmpL [BEq α] : List α -> List α
  | []=>[]
  | x::xs=>x::cmpA x xs
theorem zJz [BEq α] [LawfulBEq α] : ∀ {p : α} {l : List α} {y : α}, y ∈ cmpA p l -> y ∈ l
  | p,x::xs,y,h=>by
    unfold cmpA at h
    cases hx:(x==p)
    . rw [hx, cond_false] at h
      rcases List.mem_cons.1 h with rfl | h
      . exact List.mem_cons_self ..
      . exact List.mem_cons_of_mem _ (zJz h)
    . rw [hx, cond_true] at h
      exact List.mem_cons_of_mem _ (zJz h)
theorem zIk [BEq α] [LawfulBEq α] : ∀ {p : α} {l : List α} {y : α}, y ∈ l -> y = p \/ y ∈ cmpA p l
  | p,x::xs,y,h=>by
    unfold cmpA
    cases hx:(x==p)
    . rw [cond_false]
      rcases List.mem_cons.1 h with rfl | h
      . exact .inr (List.mem_cons_self ..)
      . rcases zIk (p := x) h with rfl | h
        . exact .inr (List.mem_cons_self ..)
        . exact .inr (List.mem_cons_of_mem _ h)
    . rw [cond_true]
      rw [beq_iff_eq] at hx
      subst hx
      rcases List.mem_cons.1 h with rfl | h
      . exact .inl rfl
      . exact zIk h
theorem zLu [BEq α] [LawfulBEq α] {l:List α} {y:α}:y ∈ cmpL l ↔ y ∈ l:=by
  cases l with
  | nil=>rfl
  | cons x xs=>
    unfold cmpL
    constructor
    . intro h
      rcases List.mem_cons.1 h with rfl | h
      . exact List.mem_cons_self ..
      . exact List.mem_cons_of_mem _ (zJz h)
    . intro h
      rcases List.mem_cons.1 h with rfl | h
      . exact List.mem_cons_self ..
      . rcases zIk (p := x) h with rfl | h
        . exact List.mem_cons_self ..
        . exact List.mem_cons_of_mem _ h
theorem zH8 [BEq α] [LawfulBEq α] (S : Sto lt) : ∀ {p : α} {l : List α}, zIT lt (p :: l) -> zDQ lt (p :: cmpA p l)
  | p,[],_=>List.pairwise_cons.2 ⟨fun y h=>(by cases h),List.Pairwise.nil⟩
  | p,x::xs,h=>by
    obtain ⟨h1,h2⟩:=List.pairwise_cons.1 h
    unfold cmpA
    cases hx:(x==p)
    . rw [cond_false]
      have ih:=zH8 S h2
      refine List.pairwise_cons.2 ⟨fun y hy=>?_,ih⟩
      have hpx:lt p x=true:=by
        cases hpx:lt p x
        . have := S.tri p x hpx (h1 x (List.mem_cons_self ..))
          subst this
          simp at hx
        . rfl
      rcases List.mem_cons.1 hy with rfl | hy
      . exact hpx
      . exact S.tr p x y hpx ((List.pairwise_cons.1 ih).1 y hy)
    . rw [cond_true]
      rw [beq_iff_eq] at hx
      subst hx
      exact zH8 S h2
theorem zIw [BEq α] [LawfulBEq α] (S:Sto lt) {l:List α} (h:zIT lt l):zDQ lt (cmpL l):=by
  cases l with
  | nil=>exact List.Pairwise.nil
  | cons x xs=>exact zH8 S h
theorem zH5 [BEq α] : ∀ {p : α} {l : List α}, (cmpA p l).length <= l.length
  | _,[]=>Nat.le_refl _
  | p,x::xs=>by
    unfold cmpA
    have:=zH5 (p:=x) (l:=xs)
    cases (x==p) <;> simp <;> omega
theorem zHs [BEq α] [LawfulBEq α] (S : Sto lt) : ∀ (xs : List α) (a : List α), zDQ lt a -> zDQ lt (xs.foldl (putS lt) a) /\ ∀ y, y ∈ xs.foldl (putS lt) a ↔ y ∈ xs \/ y ∈ a
  | [],a,h=>⟨h,fun y=>by simp⟩
  | x::xs,a,h=>by
    obtain ⟨h1,h2⟩:=zHs S xs (putS lt a x) (zL2 S x h)
    refine ⟨h1,fun y=>?_⟩
    rw [List.foldl_cons,h2,zNN,List.mem_cons]
    constructor
    . rintro (h | h | h)
      . exact .inl (.inr h)
      . exact .inl (.inl h)
      . exact .inr h
    . rintro ((h | h) | h)
      . exact .inr (.inl h)
      . exact .inl h
      . exact .inr (.inr h)
theorem zIj (S:Sto lt) (l:List α):zIT lt (l.mergeSort fun x y=>!(lt y x)):=by
  have:=List.pairwise_mergeSort (le:=fun x y=>!(lt y x)) (fun a b c h k=>by
    simp only [Bool.not_eq_true'] at *
    exact S.le_tr h k) (fun a b=>by
    simp only [Bool.or_eq_true,Bool.not_eq_true']
    cases hb:lt b a
    . exact .inl rfl
    . exact .inr (S.asy hb)) l
  exact this.imp fun h=>by simpa using h
end
theorem zFp {α:Type} (xs:List α) (k:Nat):subL xs 0 (k:Int)=xs.take k:=by simp [subL]
theorem zFo {α:Type} (xs:List α) (k:Nat):subL xs (k:Int) (xs.length:Int)=xs.drop k:=by
  unfold subL
  rw [Int.toNat_natCast,Int.toNat_natCast]
  exact List.take_of_length_le (by simp)
theorem zKf {α:Type} {xs:List α} {k:Nat} (h:k<=xs.length):subR 0 (k:Int) xs.length=true:=zBb.2 ⟨by omega,by omega,by omega⟩
theorem zKi {α:Type} {xs:List α} {k:Nat} (h:k<=xs.length):subR (k:Int) (xs.length:Int) xs.length=true:=zBb.2 ⟨by omega,by omega,by omega⟩
theorem zLU {α : Type} {lt : α -> α -> Bool} {x : α} {l : List α} {L : Nat -> Int -> Option Int} (hs : ∀ k (i : Nat) y, l[i]? = some y -> L (k + 1) (i : Int) = bif lt y x then L k ((i + 1 : Nat) : Int) else some (i : Int)) (he : ∀ k, L (k + 1) (l.length : Int) = some (l.length : Int)) {fu : Nat} (hf : l.length < fu) :
    L fu (0:Int)=some ((plc lt x l:Nat):Int):=by
  have key:∀ m i k,i+m=l.length->m<k->L k ((i:Nat):Int)=some ((i+plc lt x (l.drop i):Nat):Int):=by
    intro m
    induction m with
    | zero=>
      intro i k hi hk
      obtain ⟨k,rfl⟩:∃ q,k=q+1:=⟨k-1,by omega⟩
      obtain rfl:i=l.length:=by omega
      rw [he,List.drop_length]
      rfl
    | succ m ih=>
      intro i k hi hk
      obtain ⟨k,rfl⟩:∃ q,k=q+1:=⟨k-1,by omega⟩
      have hx:=List.getElem?_eq_getElem (show i<l.length by omega)
      rw [hs k i _ hx,zEg hx,plc]
      cases lt l[i] x
      . rfl
      . rw [cond_true, cond_true, ih (i + 1) k (by omega) (by omega)]
        congr 2
        omega
  have:=key l.length 0 fu (by omega) hf
  rwa [show ((0:Nat):Int)=0 from rfl,List.drop_zero,Nat.zero_add] at this
theorem zKl {fu:Nat} {l:List (List UInt8)} {x:List UInt8} {tw:Bool} (hf:l.length<fu) (hl:l.length<=2147483648):zCK fu l x tw=some (bif tw then putW bLt l x else putS bLt l x):=by
  unfold zCK
  have h:=zLU (lt:=bLt) (x:=x) (l:=l) (L:=zCv fu l x) (fun k i y hy=>by
    have hi:=zCq hy
    rw [zCv]
    simp only [lt_t hi,zB6 hi,zAa hy,zCT,Bool.or_true,Bool.true_and,zCf,zCp (show i<=4294967296 by omega),zAm]) (fun k=>by rw [zCv,lt_f];rfl) hf
  have hp:=zNG (lt:=bLt) (x:=x) l
  rw [h,zAA]
  simp only [zCT,zFp,zFo,zKf hp,zKi hp,zCf,List.length_nil,List.length_append,List.length_take,List.length_drop,List.length_singleton,List.nil_append,Nat.zero_add,zAj (show min (plc bLt x l) l.length<=4294967296 by omega),zAj (show min (plc bLt x l) l.length+1<=4294967296 by omega),zAj (show min (plc bLt x l) l.length+1+(l.length-plc bLt x l)<=4294967296 by omega)]
  have hins:l.take (plc bLt x l) ++ [x]++l.drop (plc bLt x l)=putW bLt l x:=by simp [putW,zLB]
  rw [hins]
  unfold putS
  by_cases hlt:plc bLt x l<l.length
  . have hg := List.getElem?_eq_getElem hlt
    rw [lt_t hlt,zB6 hlt,zAa hg,hg]
    have:(some l[plc bLt x l]==some x)=(l[plc bLt x l]==x):=rfl
    rw [this]
    cases tw <;> cases (l[plc bLt x l]==x) <;> rfl
  . have e : decide (((plc bLt x l : Nat) : Int) < (l.length : Int)) = false := decide_eq_false (by omega)
    have e2:l[plc bLt x l]? = none:=List.getElem?_eq_none (by omega)
    rw [e,e2]
    cases tw <;> rfl
theorem zQD {fu:Nat} {l:List (List UInt8)} {x:List UInt8} (hf:l.length<fu) (hl:l.length<=2147483648):zF5 fu l x=some (l.any fun y=>y==x):=by
  unfold zF5
  have h:=zFE (xs:=l) (p:=fun y=>y==x) (r:=true) (L:=zCx fu l x) (fun k i y hy=>by
    have hi:=zCq hy
    rw [zCx,lt_t hi,cond_true]
    simp only [zB6 hi,zAa hy,zCf,zCp (show i<=4294967296 by omega),zAm]) (fun k=>by rw [zCx,lt_f];rfl) hf
  rw [h,zAA]
  cases l.any fun y=>y==x <;> rfl
theorem zNC {l:List (List UInt8)} {x:List UInt8}:(l.any fun y=>y==x)=true ↔ x ∈ l:=by simp
theorem zPH {fu:Nat} {l:List (List UInt8)} (hl:l.length<=4294967296):zBi fu l=some l:=by
  unfold zBi
  rw [List.nil_append,ck_t (zAj (by simpa using hl))]
theorem zPJ {fu:Nat} {l:List (List UInt8)} (hl:l.length<=4294967296):zK6 fu l=some (l.mergeSort fun x y=>!(bLt y x)):=by
  unfold zK6
  rw [ck_t (zAj hl)]
  have:(fun x y:List UInt8=>decide (x<=y))=fun x y=>!(bLt y x):=by
    funext x y
    exact zPX x y
  rw [this]
theorem zM2 {fu:Nat} {l:List (List UInt8)} {x:List UInt8} (hf:l.length<fu) (hl:l.length<=2147483648):zBN fu l x=some (l.any fun y=>y==x):=by
  unfold zBN zCA
  have h:=zJq (xs:=l) (p:=fun y=>x==y) (L:=zAl fu l x) (fun k i y hy=>by
    have hi:=zCq hy
    rw [zAl,lt_t hi,cond_true]
    simp only [zB6 hi,zAa hy,zCf,zCp (show i<=4294967296 by omega),zAm]) (fun k=>by rw [zAl,lt_f];rfl) hf
  rw [h,zAA]
  have hc:(fun y:List UInt8=>x==y)=fun y=>y==x:=by
    funext y
    exact Bool.beq_comm
  rw [hc]
  cases hi:ixI 0 (l.map fun y=>y==x) with
  | none=>
    have h2:=zHZ hi
    have:(l.any fun y=>y==x)=false:=by
      rw [List.any_eq_false]
      intro y hy
      have:=h2 (y==x) (List.mem_map_of_mem hy)
      simp [this]
    rw [this]
    rfl
  | some j=>
    obtain ⟨_,h2,_⟩:=zHh hi
    have:(l.any fun y=>y==x)=true:=by
      rw [Nat.sub_zero,List.getElem?_map] at h2
      obtain ⟨y,hy,e⟩:=Option.map_eq_some_iff.1 h2
      rw [List.any_eq_true]
      exact ⟨y,List.mem_of_getElem? hy,e⟩
    rw [this]
    show some (decide (0<=(j:Int)))=some true
    rw [decide_eq_true (by omega)]
theorem zIf {α:Type} {z:α} {s:List α} {w:Nat} (h:w<=s.length):subL (s.take w++List.replicate (s.length-w) z) 0 (w:Int)=s.take w:=by
  rw [zFp,List.take_append_of_le_length (by simp;omega),List.take_take,Nat.min_self]
theorem zGK {α:Type} {z:α} {s:List α} {w:Nat} (h:w<=s.length):(s.take w++List.replicate (s.length-w) z).length=s.length:=by simp;omega
theorem zM7 {fu : Nat} {s : List (List UInt8)} {i : Nat} (hl : s.length <= 1048576) (hi0 : 0 < i) : ∀ m j w k ys q, i + j + m = s.length -> m < k -> 1 <= j -> w <= i + j - 1 -> ys.length = s.length -> ys.drop (i + j - 1) = s.drop (i + j - 1) -> s[i + j - 1]? = some q -> ys.take w ++ cmpA q (s.drop (i + j)) = cmpL s ->
    ∃ (w':Nat) (ys':List (List UInt8)),zAY fu (i:Int) (s.length-i) k (w:Int) (j:Int) ys=some ((w':Int),ys')/\ys'.length=s.length/\w'<=s.length/\ys'.take w'=cmpL s:=by
  intro m
  induction m with
  | zero=>
    intro j w k ys q hm hk hj hw hlen hdr hq hc
    obtain ⟨k,rfl⟩:∃ q,k=q+1:=⟨k-1,by omega⟩
    refine ⟨w,ys,?_,hlen,by omega,?_⟩
    . rw [zAY, decide_eq_false (show ¬ (j : Int) < ((s.length - i : Nat) : Int) by omega)]
      rfl
    . rw [show i + j = s.length by omega, List.drop_length] at hc
      simpa [cmpA] using hc
  | succ m ih=>
    intro j w k ys q hm hk hj hw hlen hdr hq hc
    obtain ⟨k,rfl⟩:∃ q,k=q+1:=⟨k-1,by omega⟩
    have hx:=List.getElem?_eq_getElem (show i+j<s.length by omega)
    have hat:∀ n,i+j-1<=n->ys[n]? = s[n]?:=fun n hn=>by
      have:=congrArg (fun l=>l[n-(i+j-1)]?) hdr
      simp only [List.getElem?_drop] at this
      rwa [show i+j-1+(n-(i+j-1))=n by omega] at this
    have hyx:ys[i+j]? = some s[i+j]:=(hat _ (by omega)).trans hx
    have hyq:ys[i+j-1]? = some q:=(hat _ (Nat.le_refl _)).trans hq
    have e1:((i:Int)+(j:Int))=((i+j:Nat):Int):=rfl
    have e2:((i:Int)+((j:Int)-1))=((i+j-1:Nat):Int):=by omega
    rw [zAY,decide_eq_true (show (j:Int)<((s.length-i:Nat):Int) by omega),cond_true,ck_t (zL4 (by omega) (by omega)),ck_t (decide_eq_true (by omega)),e1,ck_t (zB6 (by omega)),ck_t (zCM (by omega) (by omega)),ck_t (zL4 (by omega) (by omega)),ck_t (decide_eq_true (by omega)),e2,ck_t (zB6 (by omega)),zAa hyx,zAa hyq]
    rw [zEg hx,cmpA] at hc
    cases hb:(s[i+j]==q)
    . rw [Bool.not_false, cond_true, ck_t (zL4 (by omega) (by omega)), ck_t (decide_eq_true (by omega)), ck_t (zB6 (by omega)), ck_t (zB6 (by omega)), ck_t (zC3 (by omega)), ck_t (zC3 (by omega)), zAm, zAm, zKv]
      rw [hb,cond_false] at hc
      have:=ih (j+1) (w+1) k (ys.set w s[i+j]) s[i+j] (by omega) (by omega) (by omega) (by omega) (by rw [List.length_set];exact hlen) ?_ ?_ ?_
      . exact this
      . rw [List.drop_set_of_lt (by omega)]
        have:=congrArg (fun l=>l.drop 1) hdr
        simp only [List.drop_drop] at this
        rwa [show i+(j+1)-1=i+j-1+1 by omega]
      . rw [show i + (j + 1) - 1 = i + j by omega]
        exact hx
      . rw [List.take_add_one, List.take_set_of_le (Nat.le_refl _), List.getElem?_set_self (by omega)]
        simpa [Nat.add_assoc] using hc
    . rw [Bool.not_true, cond_false, ck_t (zC3 (by omega)), zAm]
      rw [hb,cond_true] at hc
      refine ih (j+1) w k ys s[i+j] (by omega) (by omega) (by omega) (by omega) hlen ?_ ?_ hc
      . have := congrArg (fun l => l.drop 1) hdr
        simp only [List.drop_drop] at this
        rwa [show i+(j+1)-1=i+j-1+1 by omega]
      . rw [show i + (j + 1) - 1 = i + j by omega]
        exact hx
theorem zN4 {fu:Nat} {s:List (List UInt8)} (hf:1048577<=fu) (hl:s.length<=1048576):zBV fu s=some (cmpL s):=by
  unfold zBV
  by_cases h2:s.length<2
  . rw [decide_eq_true (by omega), cond_true]
    match s,h2 with
    | [],_=>rfl
    | [x],_=>rfl
  . rw [decide_eq_false (by omega), cond_false]
    have key : ∀ m i k q, i + m = s.length -> m < k -> 0 < i -> s[i - 1]? = some q -> s.take i ++ cmpA q (s.drop i) = cmpL s ->
        zAZ fu k (i:Int) s=some (Ex.ret (cmpL s))\/(zAZ fu k (i:Int) s=some (Ex.go s)/\cmpL s=s):=by
      intro m
      induction m with
      | zero=>
        intro i k q hm hk hi hq hc
        obtain ⟨k,rfl⟩:∃ q,k=q+1:=⟨k-1,by omega⟩
        obtain rfl:i=s.length:=by omega
        right
        refine ⟨by rw [zAZ,lt_f];rfl,?_⟩
        rw [List.drop_length,List.take_length] at hc
        simpa [cmpA] using hc.symm
      | succ m ih=>
        intro i k q hm hk hi hq hc
        obtain ⟨k,rfl⟩:∃ q,k=q+1:=⟨k-1,by omega⟩
        have hlt:i<s.length:=by omega
        have hx:=List.getElem?_eq_getElem hlt
        have e1:((i:Int)-1)=((i-1:Nat):Int):=by omega
        rw [zAZ,lt_t hlt,cond_true,ck_t (zB6 hlt),ck_t (zCM (by omega) (by omega)),e1,ck_t (zB6 (by omega)),zAa hx,zAa hq]
        have hc':=hc
        rw [zEg hx,cmpA] at hc
        cases hb:(s[i]==q)
        . rw [cond_false, ck_t (zC3 (by omega)), zAm]
          rw [hb,cond_false] at hc
          refine ih (i+1) k s[i] (by omega) (by omega) (by omega) (by rw [Nat.add_sub_cancel];exact hx) ?_
          have ht:s.take (i+1)=s.take i ++ [s[i]]:=by rw [List.take_add_one,hx];rfl
          rw [ht,List.append_assoc]
          exact hc
        . left
          rw [hb,cond_true] at hc
          obtain ⟨w',ys',h3,h4,h5,h6⟩:=zM7 (fu:=fu) hl hi (s.length-i-1) 1 i fu s s[i] (by omega) (by omega) (Nat.le_refl _) (by omega) rfl rfl (by rw [Nat.add_sub_cancel];exact hx) hc
          rw [cond_true,ck_t (zKi (Nat.le_of_lt hlt)),zCT,Int.toNat_natCast,Int.toNat_natCast,show ((1:Int))=((1:Nat):Int) from rfl,h3,zAA]
          simp only [h4,zBb.2 ⟨show (0:Int)<=(w':Int) by omega,show (w':Int)<=(s.length:Int) by omega,show (s.length:Int)<=(s.length:Int) from Int.le_refl _⟩,zCT,Int.toNat_natCast,zCf,beq_self_eq_true]
          have e3:(ys'.take w'++List.replicate (s.length-w') ([]:List UInt8))=(ys'.take w'++List.replicate (ys'.length-w') ([]:List UInt8)):=by rw [h4]
          rw [e3,ck_t (by rw [zGK (by omega)];exact zKf (by omega)),zIf (by omega),h6]
    obtain ⟨x0,t,hs⟩:∃ x t,s=x::t:=by
      cases s with
      | nil=>simp at h2
      | cons x t=>exact ⟨x,t,rfl⟩
    have hk:=key (s.length-1) 1 fu x0 (by omega) (by omega) (by omega) (by rw [hs];rfl) (by rw [hs];rfl)
    rw [show ((1:Int))=((1:Nat):Int) from rfl]
    rcases hk with h | ⟨h,e⟩
    . rw [h]
      rfl
    . rw [h, e]
      rfl
theorem zDt {fu:Nat} {l:List (List UInt8)} (hf:1048577<=fu) (hl:l.length<=1048576):zBB fu l=some (cmpL (l.mergeSort fun x y=>!(bLt y x))):=by
  unfold zBB
  rw [zPH (by omega),zAA,zPJ (by omega),zAA,zN4 hf (by rw [List.length_mergeSort];exact hl)]
  rfl
def setL (l:List (List UInt8)):List (List UInt8):=cmpL (l.mergeSort fun x y=>!(bLt y x))
theorem zEt (l:List (List UInt8)):zDQ bLt (setL l):=zIw zH3 (zIj zH3 l)
theorem zEu {l:List (List UInt8)} {x:List UInt8}:x ∈ setL l ↔ x ∈ l:=by
  unfold setL
  rw [zLu,List.mem_mergeSort]
theorem zLA {l:List (List UInt8)}:(cmpL l).length<=l.length:=by
  cases l with
  | nil=>exact Nat.le_refl _
  | cons x xs=>
    have:=zH5 (p:=x) (l:=xs)
    simp [cmpL]
    omega
theorem zEL (l:List (List UInt8)):(setL l).length<=l.length:=by
  have:=zLA (l:=l.mergeSort fun x y=>!(bLt y x))
  rwa [List.length_mergeSort] at this
theorem zKm {fu:Nat} {s:List (List UInt8)} {F:List UInt8->Option Bool} {d:List UInt8->Bool} (hf:1048577<=fu) (hl:s.length<=1048576) (hF:∀ x ∈ s,F x=some (d x)):zBD fu s F=some (s.filter fun x=>!(d x)):=by
  unfold zBD zB1
  have h:=zJq (xs:=s) (p:=d) (L:=zAP fu s F) (fun k i y hy=>by
    have hi:=zCq hy
    rw [zAP,lt_t hi,cond_true]
    simp only [zB6 hi,zAa hy,zCf,hF y (zDL hy),zAA,zCp (show i<=4294967296 by omega),zAm]) (fun k=>by rw [zAP,lt_f];rfl) (show s.length<fu by omega)
  rw [h,zAA]
  cases hix:ixI 0 (s.map d) with
  | none=>
    have h2:=zHZ hix
    show (cl true (some (-1:Int)) fun x1=>_)=_
    rw [zAA]
    show some s=_
    congr 1
    symm
    rw [List.filter_eq_self]
    intro x hx
    rw [h2 (d x) (List.mem_map_of_mem hx)]
    rfl
  | some j=>
    obtain ⟨_,h2,h3⟩:=zHh hix
    rw [Nat.sub_zero] at h2 h3
    have hj:j<s.length:=by have:=zCq h2;simpa using this
    have hj':=List.getElem?_eq_getElem hj
    have hdj:d s[j]=true:=by
      rw [List.getElem?_map,hj'] at h2
      simpa using h2
    have hpre:s.take j=(s.take j).filter fun x=>!(d x):=by
      symm
      rw [List.filter_eq_self]
      intro x hx
      obtain ⟨q,hq⟩:=List.mem_iff_getElem?.1 hx
      rw [List.getElem?_take] at hq
      split at hq
      . rename_i hql
        have:=h3 q hql
        rw [List.getElem?_map,hq] at this
        have:d x=false:=by simpa using this
        rw [this]
        rfl
      . cases hq
    show (cl true (some (j:Int)) fun x1=>_)=_
    rw [zAA]
    have e0:((j:Int) == -1)=false:=by
      rw [beq_eq_false_iff_ne]
      omega
    rw [e0,cond_false,ck_t (zC3 (by omega)),zAm]
    have key : ∀ m i w k ys, i + m = s.length -> m < k -> w <= i -> ys.length = s.length -> ys.drop i = s.drop i -> ys.take w = (s.take i).filter (fun x => !(d x)) ->
        ∃ (w':Nat) (ys':List (List UInt8)),zAV fu F k (w:Int) (i:Int) ys=some ((w':Int),ys')/\ys'.length=s.length/\w'<=s.length/\ys'.take w'=s.filter fun x=>!(d x):=by
      intro m
      induction m with
      | zero=>
        intro i w k ys hm hk hw hlen hdr hc
        obtain ⟨k,rfl⟩:∃ q,k=q+1:=⟨k-1,by omega⟩
        obtain rfl:i=s.length:=by omega
        refine ⟨w,ys,by rw [zAV,<- hlen,lt_f];rfl,hlen,hw,?_⟩
        rw [List.take_length] at hc
        exact hc
      | succ m ih=>
        intro i w k ys hm hk hw hlen hdr hc
        obtain ⟨k,rfl⟩:∃ q,k=q+1:=⟨k-1,by omega⟩
        have hlt:i<s.length:=by omega
        have hx:=List.getElem?_eq_getElem hlt
        have hyx:ys[i]? = some s[i]:=by
          have:=congrArg (fun l=>l[0]?) hdr
          simp only [List.getElem?_drop,Nat.add_zero] at this
          rw [this,hx]
        have hdr':∀ zs:List (List UInt8),zs.drop i=s.drop i->zs.drop (i+1)=s.drop (i+1):=fun zs hz=>by
          have:=congrArg (fun l=>l.drop 1) hz
          simpa only [List.drop_drop] using this
        rw [zAV,lt_t (by omega),cond_true,ck_t (zB6 (by omega)),zAa hyx,hF _ (zDL hx),zAA]
        have ht:(s.take (i+1)).filter (fun x=>!(d x))=(s.take i).filter (fun x=>!(d x))++(bif d s[i] then [] else [s[i]]):=by
          rw [List.take_add_one,hx,List.filter_append]
          congr 1
          show [s[i]].filter _=_
          rw [List.filter_cons]
          cases d s[i] <;> rfl
        cases hd:d s[i]
        . rw [Bool.not_false, cond_true, ck_t (zB6 (by omega)), ck_t (zC3 (by omega)), ck_t (zC3 (by omega)), zAm, zAm, zKv]
          refine ih (i+1) (w+1) k _ (by omega) (by omega) (by omega) (by rw [List.length_set];exact hlen) ?_ ?_
          . rw [List.drop_set_of_lt (by omega)]
            exact hdr' ys hdr
          . rw [List.take_add_one, List.take_set_of_le (Nat.le_refl _), List.getElem?_set_self (by omega), ht, hd, hc]
            rfl
        . rw [Bool.not_true, cond_false, ck_t (zC3 (by omega)), zAm]
          refine ih (i+1) w k _ (by omega) (by omega) (by omega) hlen (hdr' ys hdr) ?_
          rw [ht,hd,hc]
          simp
    have hstart:(s.take (j+1)).filter (fun x=>!(d x))=s.take j:=by
      rw [List.take_add_one,hj',List.filter_append,<- hpre]
      simp [hdj]
    obtain ⟨w',ys',h4,h5,h6,h7⟩:=key (s.length-(j+1)) (j+1) j fu s (by omega) (by omega) (by omega) rfl rfl hstart.symm
    rw [h4,zAA]
    simp only [h5,zBb.2 ⟨show (0:Int)<=(w':Int) by omega,show (w':Int)<=(s.length:Int) by omega,show (s.length:Int)<=(s.length:Int) from Int.le_refl _⟩,zCT,Int.toNat_natCast,zCf,beq_self_eq_true]
    have e3:(ys'.take w'++List.replicate (s.length-w') ([]:List UInt8))=(ys'.take w'++List.replicate (ys'.length-w') ([]:List UInt8)):=by rw [h5]
    rw [e3,ck_t (by rw [zGK (by omega)];exact zKf (by omega)),zIf (by omega),h7]
theorem zKb {fu:Nat} {a b:List (List UInt8)} (hf:1048577<=fu) (ha:a.length<=1048576) (hb:b.length<=1048576):zCN fu a b=some ((setL a).filter fun x=>b.any fun y=>y==x):=by
  unfold zCN
  rw [zDt hf ha,zAA,show cmpL (a.mergeSort fun x y=>!(bLt y x))=setL a from rfl,zKm (d:=fun x=>!(b.any fun y=>y==x)) hf (by have:=zEL a;omega) (fun x _=>by
    unfold zDG
    rw [zM2 (by omega) (by omega)]
    rfl),zAA]
  simp only [Bool.not_not]
def wds : List UInt8 -> List UInt8 -> List (List UInt8)
  | cur,[]=>bif cur.isEmpty then [] else [cur]
  | cur,b::l=>bif b==32 then (bif cur.isEmpty then wds [] l else cur::wds [] l) else wds (cur ++ [b]) l
def neL (l:List (List UInt8)):List (List UInt8):=l.filter fun y=>!y.isEmpty
theorem zK8 (x:List UInt8) (l:List (List UInt8)):neL (x::l)=bif x.isEmpty then neL l else x::neL l:=by
  unfold neL
  rw [List.filter_cons]
  cases x.isEmpty <;> rfl
theorem zLN : ∀ (s cur x : List UInt8) (xs : List (List UInt8)), spC 32 s = x :: xs -> wds cur s = neL ((cur ++ x) :: xs)
  | [],cur,x,xs,h=>by
    rw [spC] at h
    injection h with h1 h2
    subst h1;subst h2
    rw [wds,zK8,List.append_nil]
    rfl
  | b::s,cur,x,xs,h=>by
    obtain ⟨y,ys,hy⟩:∃ y ys,spC 32 s=y::ys:=by
      cases h':spC 32 s with
      | nil=>exact absurd h' (zLd 32 s)
      | cons y ys=>exact ⟨y,ys,rfl⟩
    by_cases hb:b=32
    . subst hb
      rw [spC,if_pos rfl] at h
      injection h with h1 h2
      subst h1;subst h2
      have ih:=zLN s [] y ys hy
      rw [List.nil_append,<- hy] at ih
      rw [wds,show ((32:UInt8)==32)=true from rfl,cond_true,ih,zK8,List.append_nil]
    . rw [spC, if_neg hb, hy] at h
      injection h with h1 h2
      subst h1;subst h2
      rw [wds,show (b==32)=false from beq_eq_false_iff_ne.2 hb,cond_false,zLN s (cur ++ [b]) y ys hy,List.append_assoc]
      rfl
theorem zPz (s:List UInt8):wds [] s=neL (spC 32 s):=by
  cases h:spC 32 s with
  | nil=>exact absurd h (zLd 32 s)
  | cons y ys=>rw [zLN s [] y ys h,List.nil_append]
theorem zMc (s : ByteArray) (f : Nat) (st : Option Nat) (acc : List (Nat × Nat)) (p : Nat -> Bool) (hst : ∀ a, st = some a -> a < s.size) :
    (Lib.closeSpans s (Lib.spansFromP p s f s.size st acc)).map (fun q=>Lib.pieceU s.data.toList q.1 q.2)=acc.map (fun q=>Lib.pieceU s.data.toList q.1 q.2)++wds (Lib.openPiece s.data.toList st s.size) (s.data.toList.drop s.size):=by
  have hd:s.data.toList.drop s.size = []:=List.drop_eq_nil_of_le (by rw [<- Lib.size_eq];exact Nat.le_refl _)
  rw [hd,Lib.spansFromP_end p s _ _ _ _ (Nat.lt_irrefl _)]
  cases st with
  | none=>simp [Lib.closeSpans,Lib.openPiece,wds]
  | some a=>
    have:=Lib.pieceU_ne s.data.toList a s.size (hst a rfl) (by rw [<- Lib.size_eq];exact Nat.le_refl _)
    have h2:(Lib.pieceU s.data.toList a s.size).isEmpty=false:=by
      cases hz:Lib.pieceU s.data.toList a s.size with
      | nil=>exact absurd hz this
      | cons _ _=>rfl
    simp [Lib.closeSpans,Lib.openPiece,wds,h2]
theorem zOp (s : ByteArray) (hs : ∀ b ∈ s.data.toList, b.toNat < 128) (p : Nat -> Bool) (hp : ∀ b : UInt8, b.toNat < 128 -> p b.toNat = (b == 32)) : ∀ (f pos : Nat) (st : Option Nat) (acc : List (Nat × Nat)), s.size <= pos + f -> pos <= s.size -> (∀ a, st = some a -> a < pos) ->
    (Lib.closeSpans s (Lib.spansFromP p s f pos st acc)).map (fun q=>Lib.pieceU s.data.toList q.1 q.2)=acc.map (fun q=>Lib.pieceU s.data.toList q.1 q.2)++wds (Lib.openPiece s.data.toList st pos) (s.data.toList.drop pos):=by
  intro f
  induction f with
  | zero=>
    intro pos st acc h hp0 hst
    obtain rfl:pos=s.size:=by omega
    exact zMc s 0 st acc p hst
  | succ f ih=>
    intro pos st acc h hp0 hst
    by_cases hlt:pos<s.size
    . have hl : pos < s.data.toList.length := by rw [<- Lib.size_eq]; exact hlt
      have hb:(s[pos]'hlt)=s.data.toList[pos]'hl:=rfl
      have ha:(s[pos]'hlt).toNat<128:=by rw [hb];exact hs _ (List.getElem_mem hl)
      have hd:=decode_ascii s pos hlt ha
      have hdr:s.data.toList.drop pos=(s[pos]'hlt)::s.data.toList.drop (pos+1):=List.drop_eq_getElem_cons hl
      unfold Lib.spansFromP
      rw [if_pos hlt,hd,hdr]
      generalize (s[pos]'hlt)=b at ha hb hdr ⊢
      dsimp only
      rw [hp b ha,wds]
      have h1:s.size<=pos+1+f:=by omega
      cases hb32:b==32 with
      | true=>
        rw [if_pos rfl,cond_true]
        cases st with
        | none=>
          have ih:=ih (pos+1) none acc h1 (by omega) (fun a h=>by cases h)
          dsimp only
          rw [ih]
          rfl
        | some a=>
          have hpn:=Lib.pieceU_ne s.data.toList a pos (hst a rfl) (by omega)
          have ih:=ih (pos+1) none (acc ++ [(a,pos)]) h1 (by omega) (fun a h=>by cases h)
          dsimp only
          rw [ih]
          have:(Lib.openPiece s.data.toList (some a) pos).isEmpty=false:=by
            show (Lib.pieceU s.data.toList a pos).isEmpty=false
            cases hz:Lib.pieceU s.data.toList a pos with
            | nil=>exact absurd hz hpn
            | cons _ _=>rfl
          rw [this,cond_false,List.map_append,List.append_assoc]
          rfl
      | false=>
        rw [if_neg (by decide),cond_false]
        have ht:(s.data.toList.drop pos).take 1 = [b]:=by rw [hdr];rfl
        cases st with
        | none=>
          have ih:=ih (pos+1) (some pos) acc h1 (by omega) (fun a h=>by cases h;omega)
          dsimp only
          rw [ih]
          have:Lib.openPiece s.data.toList (some pos) (pos+1) = [] ++ [b]:=by
            show Lib.pieceU s.data.toList pos (pos+1)=_
            unfold Lib.pieceU
            rw [Nat.add_sub_cancel_left,ht]
            rfl
          rw [this]
          rfl
        | some a=>
          have ih:=ih (pos+1) (some a) acc h1 (by omega) (fun b h=>by cases h;have:=hst a rfl;omega)
          dsimp only
          rw [ih]
          have:Lib.openPiece s.data.toList (some a) (pos+1)=Lib.openPiece s.data.toList (some a) pos ++ [b]:=by
            show Lib.pieceU s.data.toList a (pos+1)=Lib.pieceU s.data.toList a pos ++ [b]
            rw [<- Lib.pieceU_grow _ _ _ _ (Nat.le_of_lt (hst a rfl)),ht]
          rw [this]
    . obtain rfl : pos = s.size := by omega
      exact zMc s (f+1) st acc p hst
theorem zO6 (s:ByteArray) (hs:∀ b ∈ s.data.toList,b.toNat<128) (p:Nat->Bool) (hp:∀ b:UInt8,b.toNat<128->p b.toNat=(b==32)):(Lib.goFieldsP p s).map (·.data.toList)=neL (spC 32 s.data.toList):=by
  have h:=zOp s hs p hp s.size 0 none [] (by omega) (Nat.zero_le _) (fun a h=>by cases h)
  rw [List.map_nil,List.nil_append,List.drop_zero] at h
  rw [show Lib.openPiece s.data.toList none 0 = [] from rfl,zPz] at h
  rw [<- h]
  unfold Lib.goFieldsP Lib.spansOfP
  rw [List.map_map]
  apply List.map_congr_left
  intro q _
  exact Lib.extract_data s q.1 q.2
def okC (c:UInt8):Bool:=wdB c || c==32
theorem zP2 {c:UInt8} (h:okC c=true):c.toNat<128:=by
  unfold okC wdB wdI smI cpI dgI at h
  by_cases h32:c=32
  . subst h32;decide
  . rw [show (c == 32) = false from beq_eq_false_iff_ne.2 h32, Bool.or_false] at h
    simp only [Bool.or_eq_true,Bool.and_eq_true,decide_eq_true_eq] at h
    omega
theorem zOk (s:List UInt8):∀ c ∈ strL s,okC c=true:=by
  intro c hc
  unfold strL at hc
  obtain ⟨b,_,rfl⟩:=List.mem_map.1 hc
  unfold mkC okC
  cases h:wdB b
  . rfl
  . rw [cond_true,h];rfl
theorem zPq {o:List UInt8 × Bool} (h:∀ c ∈ o.1,okC c=true):∀ c ∈ coT o,okC c=true:=by
  unfold coT
  cases (!o.1.isEmpty&&o.2)
  . exact h
  . intro c hc
    rcases List.mem_append.1 hc with hc | hc
    . exact h c hc
    . rw [List.mem_singleton.1 hc];rfl
theorem zMj : ∀ (s : List UInt8) (o : List UInt8 × Bool), (∀ c ∈ s, okC c = true) -> (∀ c ∈ o.1, okC c = true) -> ∀ c ∈ (s.foldl coS o).1, okC c = true
  | [],o,_,ho=>ho
  | b::s,o,hs,ho=>by
    rw [List.foldl_cons]
    refine zMj s _ (fun c hc=>hs c (List.mem_cons_of_mem _ hc)) ?_
    cases h:b==32
    . rw [zMK h]
      intro c hc
      rcases List.mem_append.1 hc with hc | hc
      . exact zPq ho c hc
      . rw [List.mem_singleton.1 hc];exact hs b List.mem_cons_self
    . rw [zMI h]
      exact ho
theorem zMm (s:List UInt8):∀ c ∈ nrmL s,okC c=true:=zMj _ _ (zOk _) (fun c h=>by cases h)
theorem zIL (l:List (List UInt8)):l.foldl (putS bLt) []=setL l:=by
  obtain ⟨h1,h2⟩:=zHs zH3 l [] List.Pairwise.nil
  refine zFS zH3 h1 (zEt l) fun x=>?_
  rw [h2,zEu]
  simp
def tokL (s:List UInt8):List (List UInt8):=setL (neL (spC 32 (nrmL s)))
theorem zK1 (l:List (List UInt8)):(neL l).length<=l.length:=List.length_filter_le _ _
theorem zPD {fu:Nat} {s:List UInt8} (hs:s.length<=2097152) (ha:∀ c ∈ s,okC c=true):zEw fu s=some (neL (spC 32 s)):=by
  have hF:∀ n:Int,zE4 fu n=some (n==32):=fun n=>rfl
  unfold zEw zIO
  rw [ck_t (zAj (by omega)),ck_t (zMM fun n _=>by rw [hF];rfl),zAA]
  have:=zO6 ⟨s.toArray⟩ (by simpa using fun b hb=>zP2 (ha b hb)) (fun n=>(zE4 fu (n:Int)).getD false) (fun b _=>by
    rw [hF]
    show (((b.toNat:Nat):Int)==(32:Int))=_
    exact e32)
  rw [this]
theorem zId {fu:Nat} {s:List UInt8} (hf:1048577<=fu) (hl:s.length<=262144):zDF fu s=some (tokL s):=by
  have h2:=zJm s
  have h3:=zJy 32 (nrmL s)
  have h4:=zK1 (spC 32 (nrmL s))
  unfold zDF
  rw [zMB (by omega) (by omega),zAA,zPD (by omega) (zMm s),zAA,zDt hf (by omega),zAA]
  rfl
theorem zKh {fu:Nat} {s:List UInt8} (hf:1048577<=fu) (hl:s.length<=262144):zDE fu s=some (tokL s):=by
  have h2:=zJm s
  have h3:=zJy 32 (nrmL s)
  unfold zDE tokL
  have hcut:zDv fu (nrmL s) (32:Int)=some (spC 32 (nrmL s)):=zOl (c:=32) hf (by omega)
  rw [zMF (by omega) (by omega),zAA,hcut,zAA]
  generalize spC 32 (nrmL s)=l at h3 ⊢
  have h:=zCz (xs:=l) (g:=fun (acc:List (List UInt8)) x=>bif x.isEmpty then acc else putS bLt acc x) (Inv:=fun i acc=>acc.length<=i) (L:=zCJ fu l) (fun k i acc x hx hacc=>by
    have hi:=zCq hx
    rw [zCJ,lt_t hi,cond_true]
    simp only [zB6 hi,zAa hx,zCf,zKl (show acc.length<fu by omega) (show acc.length<=2147483648 by omega),zAA,zCp (show i<=4294967296 by omega),zAm,cond_false]
    cases x with
    | nil=>rfl
    | cons b x=>rfl) (fun i acc x hx hacc=>by
    show (bif x.isEmpty then acc else putS bLt acc x).length<=i+1
    cases x.isEmpty
    . rw [cond_false]
      unfold putS putW
      cases (acc[plc bLt x acc]? == some x)
      . rw [cond_false,zEO];omega
      . exact Nat.le_succ_of_le hacc
    . exact Nat.le_succ_of_le hacc) (fun k acc hacc=>by rw [zCJ,lt_f];rfl) (a:=[]) (Nat.zero_le _) (show l.length<fu by omega)
  rw [h.1,zAA,<- zIL]
  unfold neL
  rw [List.foldl_filter]
  congr 2
  funext acc x
  cases x.isEmpty <;> rfl
theorem zKJ (c : UInt8) : ∀ s : List UInt8, ∀ x ∈ spC c s, ∀ b ∈ x, b ∈ s /\ b ≠ c
  | [],x,hx,b,hb=>by rw [spC] at hx;rw [List.mem_singleton.1 hx] at hb;cases hb
  | a::s,x,hx,b,hb=>by
    unfold spC at hx
    split at hx
    . rcases List.mem_cons.1 hx with rfl | hx
      . cases hb
      . exact ⟨List.mem_cons_of_mem _ (zKJ c s x hx b hb).1,(zKJ c s x hx b hb).2⟩
    . rename_i hac
      cases h:spC c s with
      | nil=>exact absurd h (zLd c s)
      | cons y ys=>
        rw [h] at hx
        rcases List.mem_cons.1 hx with rfl | hx
        . rcases List.mem_cons.1 hb with rfl | hb
          . exact ⟨List.mem_cons_self,hac⟩
          . have := zKJ c s y (by rw [h]; exact List.mem_cons_self) b hb
            exact ⟨List.mem_cons_of_mem _ this.1,this.2⟩
        . have := zKJ c s x (by rw [h]; exact List.mem_cons_of_mem _ hx) b hb
          exact ⟨List.mem_cons_of_mem _ this.1,this.2⟩
theorem zK2 {s t:List UInt8} (h:t ∈ tokL s):t ≠ []/\t.length<=2*s.length/\∀ b ∈ t,wdB b=true:=by
  unfold tokL at h
  rw [zEu] at h
  unfold neL at h
  obtain ⟨h1,h2⟩:=List.mem_filter.1 h
  refine ⟨(by intro e;subst e;cases h2),Nat.le_trans (zJp 32 _ t h1) (zJm s),fun b hb=>?_⟩
  obtain ⟨h3,h4⟩:=zKJ 32 _ t h1 b hb
  have:=zMm s b h3
  unfold okC at this
  rw [show (b==32)=false from beq_eq_false_iff_ne.2 h4,Bool.or_false] at this
  exact this
theorem zG3 (s:List UInt8):(tokL s).length<=2*s.length+1:=by
  have h2:=zJm s
  have h3:=zJy 32 (nrmL s)
  have h4:=zK1 (spC 32 (nrmL s))
  have h5:=zEL (neL (spC 32 (nrmL s)))
  unfold tokL
  omega
theorem zLx {p:UInt8->Prop} (h:∀ n:Fin 256,p (UInt8.ofNat n.val)) (d:UInt8):p d:=by
  have:=h ⟨d.toNat,d.toNat_lt⟩
  rwa [UInt8.ofNat_toNat] at this
theorem zMU {α σ ρ τ : Type} {xs : List α} {bad : α -> Bool} {r : ρ} {g : σ -> α -> σ} {f : σ -> τ} {Inv : Nat -> σ -> Prop} {L : Nat -> Int -> σ -> Option (Ex ρ τ)} {i0 : Nat}
    (hs:∀ k (i:Nat) a x,i0<=i->xs[i]? = some x->Inv i a->L (k+1) (i:Int) a=bif bad x then some (.ret r) else L k ((i+1:Nat):Int) (g a x)) (hI:∀ (i:Nat) a x,i0<=i->xs[i]? = some x->bad x=false->Inv i a->Inv (i+1) (g a x))
    (he:∀ k a,Inv xs.length a->L (k+1) (xs.length:Int) a=some (.go (f a))) {a:σ} (h0:Inv i0 a) (hi0:i0<=xs.length) {fu:Nat} (hf:xs.length-i0<fu) :
    L fu (i0:Int) a=some (bif (xs.drop i0).any bad then .ret r else .go (f ((xs.drop i0).foldl g a)))/\((xs.drop i0).any bad=false->Inv xs.length ((xs.drop i0).foldl g a)):=by
  have key:∀ m i k a,i+m=xs.length->m<k->i0<=i->Inv i a->L k ((i:Nat):Int) a=some (bif (xs.drop i).any bad then .ret r else .go (f ((xs.drop i).foldl g a)))/\((xs.drop i).any bad=false->Inv xs.length ((xs.drop i).foldl g a)):=by
    intro m
    induction m with
    | zero=>
      intro i k a hi hk hge ha
      obtain ⟨k,rfl⟩:∃ q,k=q+1:=⟨k-1,by omega⟩
      obtain rfl:i=xs.length:=by omega
      rw [he k a ha,List.drop_length]
      exact ⟨rfl,fun _=>ha⟩
    | succ m ih=>
      intro i k a hi hk hge ha
      obtain ⟨k,rfl⟩:∃ q,k=q+1:=⟨k-1,by omega⟩
      have hx:=List.getElem?_eq_getElem (show i<xs.length by omega)
      rw [hs k i a _ hge hx ha,zEg hx,List.foldl_cons,List.any_cons]
      cases hb:bad xs[i] with
      | true=>exact ⟨rfl,fun h=>by cases h⟩
      | false=>
        rw [cond_false,Bool.false_or]
        exact ih (i+1) k _ (by omega) (by omega) (by omega) (hI i a _ hge hx hb ha)
  exact key (xs.length-i0) i0 fu a (by omega) hf (Nat.le_refl _) h0
def sndD (d:UInt8):Int:=bif smI d.toNat then gtD sndL ((d.toNat:Int)-97) else -2
def sndC (c:UInt8):Int:=sndD (fld c)
theorem zLe {fu:Nat} {c:UInt8} (hf:1048577<=fu):zDf fu (c.toNat:Int)=some (sndC c):=by
  unfold zDf sndC
  have e:strB ([((c.toNat:Nat):Int)]:List Int) = [c]:=zES [c]
  rw [e,zHq (s:=[c]) (by simp;omega) (by simp),zAA]
  show _=some (sndD (fld c))
  rw [show ([c].map fld) = [fld c] from rfl]
  generalize fld c=d
  revert d
  refine zLx ?_
  decide +kernel
theorem zNr (fu:Nat) (c:UInt8):zCl fu (c.toNat:Int)=some (sndC c):=by
  unfold zCl zDJ sndC
  revert c
  refine zLx ?_
  decide +kernel
theorem zJd {fu:Nat} {c:UInt8}:zCl fu (c.toNat:Int)=some (sndC c):=zNr fu c
theorem zOP (c:UInt8):-2<=sndC c/\sndC c<=6:=by
  revert c
  refine zLx ?_
  decide +kernel
theorem zPU {n:Int} (h0:0<=n) (h1:n<=6):([(IntKind.u8.wrap ((48:Int)+n))]:List Int)=bytL [UInt8.ofNat (48+n.toNat)]:=by
  obtain ⟨k,rfl⟩:∃ k:Nat,n=(k:Int):=⟨n.toNat,by omega⟩
  rw [zLS _ (by omega) (by omega),Int.toNat_natCast]
  unfold bytL
  rw [List.map_cons,List.map_nil,UInt8.toNat_ofNat']
  congr 1
  omega
def sxG (o:List UInt8 × Int) (c:UInt8):List UInt8 × Int:=bif decide (sndC c<0) then o else (bif decide (0<sndC c)&&(sndC c != o.2) then o.1 ++ [UInt8.ofNat (48+(sndC c).toNat)] else o.1,sndC c)
def sxL (s : List UInt8) : List UInt8 := match s with
  | []=>[]
  | c::t=>bif (c::t).any (fun c=>sndC c == -2) then [] else ((t.foldl sxG ([fld c],sndC c)).1 ++ [48,48,48]).take 4
theorem zIv : ∀ (t : List UInt8) (o : List UInt8 × Int), o.1.length <= (t.foldl sxG o).1.length /\ (t.foldl sxG o).1.length <= o.1.length + t.length
  | [],o=>⟨Nat.le_refl _,Nat.le_refl _⟩
  | c::t,o=>by
    have:=zIv t (sxG o c)
    have h2:o.1.length<=(sxG o c).1.length/\(sxG o c).1.length<=o.1.length+1:=by
      unfold sxG
      cases decide (sndC c<0)
      . cases (decide (0 < sndC c) && (sndC c != o.2))
        . exact ⟨Nat.le_refl _,Nat.le_succ _⟩
        . simp
      . exact ⟨Nat.le_refl _,Nat.le_succ _⟩
    rw [List.foldl_cons,List.length_cons]
    omega
theorem sub1 {c:UInt8} {t:List UInt8}:subL (c::t) 0 (1:Int) = [c]:=by
  rw [show ((1:Int))=((1:Nat):Int) from rfl,zFp]
  rfl
theorem zNm {fu:Nat} {s:List UInt8} (hf:1048577<=fu) (hl:s.length<=1048576):zEA fu s=some (sxL s):=by
  unfold zEA
  cases s with
  | nil=>rfl
  | cons c t=>
    have hlen:(c::t).length=t.length+1:=rfl
    rw [show ((c::t)==([]:List UInt8))=false from rfl,cond_false,ck_t (zBb.2 ⟨Int.le_refl _,by omega,by rw [hlen];omega⟩),sub1,zJE (s:=[c]) (by simp;omega) (by simp),zAA,show ([c].map fld) = [fld c] from rfl,ck_t (zAj (by simp)),ck_t (zOw (by rw [hlen];omega)),show bAt (c::t) (0:Int)=(c.toNat:Int) from rfl,zJd,zAA]
    have h1:=zMU (xs:=c::t) (bad:=fun c=>sndC c == -2) (r:=([]:List UInt8)) (g:=sxG) (f:=fun a:List UInt8 × Int=>bytL a.1) (Inv:=fun i a=>a.1.length<=i) (i0:=1) (L:=fun k i (a:List UInt8 × Int)=>zBc fu (c::t) k a.2 i (bytL a.1)) (fun k i a x hge hx ha=>by
      have hi:=zCq hx
      have hr:=zOP x
      try dsimp only
      rw [zBc,lt_t hi,cond_true,ck_t (zB6 hi),zF6 hx,zJd,zAA]
      have e0:(((i:Nat):Int)==(0:Int))=false:=by rw [beq_eq_false_iff_ne];omega
      have hone:∀ (l:List Int),l.length=1->zBJ ((bytL a.1).length+l.length)=true:=fun l hl=>zAj (by rw [zCU,hl];omega)
      rw [e0,Bool.false_or,zCT,zCT,hone _ rfl,zCM (show -9223372036854775808<=(48:Int)+sndC x by omega) (show (48:Int)+sndC x<=9223372036854775807 by omega)]
      simp only [zCf,zAm,zCp (show i<=4294967296 by omega)]
      cases hb:sndC x == -2 with
      | true=>rfl
      | false=>
        rw [cond_false,cond_false]
        unfold sxG
        cases hn:decide (sndC x<0) with
        | true=>rfl
        | false=>
          have h0:0<=sndC x:=by rw [decide_eq_false_iff_not] at hn;omega
          rw [cond_false]
          cases (decide (0<sndC x)&&(sndC x != a.2)) with
          | true=>rw [cond_true,zPU h0 hr.2,zDx];rfl
          | false=>rfl) (fun i a x hge hx hb ha=>by
      have:=(zIv [x] a).2
      simp only [List.foldl_cons,List.foldl_nil,List.length_singleton] at this
      show (sxG a x).1.length<=i+1
      omega) (fun k a ha=>by (try dsimp only);rw [zBc,lt_f,cond_false]) (a:=([fld c],sndC c)) (Nat.le_refl _) (by rw [hlen];omega) (fu:=fu-1) (by rw [hlen];omega)
    have h1:=h1.1
    try dsimp only at h1
    obtain ⟨k,rfl⟩:∃ k,fu=k+1:=⟨fu-1,by omega⟩
    rw [Nat.add_sub_cancel] at h1
    rw [zBc,lt_0 (by rw [hlen];omega),cond_true,ck_t (zOw (by rw [hlen];omega)),show bAt (c::t) (0:Int)=(c.toNat:Int) from rfl,zJd,zAA,zCT,show ((((0:Int))==(0:Int)) || decide (sndC c<(0:Int)))=true from rfl,cond_true,zPu,ck_t zOO,h1]
    have e:sxL (c::t)=bif (c::t).any (fun c=>sndC c == -2) then [] else ((t.foldl sxG ([fld c],sndC c)).1 ++ [48,48,48]).take 4:=rfl
    rw [e,List.any_cons,List.drop_one,List.tail_cons]
    cases hb:sndC c == -2 with
    | true=>rw [cond_true,zAA,Bool.true_or,cond_true];rfl
    | false=>
      rw [cond_false,zAA,Bool.false_or]
      cases hb2:t.any fun c=>sndC c == -2 with
      | true=>rw [cond_true,cond_true];rfl
      | false=>
        have hg:=zIv t ([fld c],sndC c)
        generalize (t.foldl sxG ([fld c],sndC c)).1=o at hg ⊢
        rw [cond_false,cond_false,zHl,zES]
        have hg1:1<=o.length:=hg.1
        have hg2:o.length<=1+t.length:=hg.2
        rw [ck_t (zAj (by simp;omega)),ck_t (zBb.2 ⟨Int.le_refl _,by omega,by simp;omega⟩),show ((4:Int))=((4:Nat):Int) from rfl,zFp]
theorem zN5 {o:List UInt8} {d:UInt8}:(o ++ [d]).take 4=bif decide (o.length<4) then o.take 4 ++ [d] else o.take 4:=by
  by_cases h:o.length<4
  . rw [decide_eq_true h,cond_true,List.take_of_length_le (by simp;omega),List.take_of_length_le (by omega)]
  . rw [decide_eq_false h,cond_false,List.take_append_of_le_length (by omega)]
theorem zM0 {fu : Nat} : ∀ (n k : Nat) (o : List UInt8), o.length + n = 4 -> n < k -> zCP fu k (bytL o) = some (bytL (o ++ List.replicate n 48))
  | 0,k,o,h,hk=>by
    obtain ⟨k,rfl⟩:∃ q,k=q+1:=⟨k-1,by omega⟩
    rw [zCP,zCU,decide_eq_false (by omega),cond_false,List.replicate_zero,List.append_nil]
  | n+1,k,o,h,hk=>by
    obtain ⟨k,rfl⟩:∃ q,k=q+1:=⟨k-1,by omega⟩
    rw [zCP,zCU,decide_eq_true (by omega),cond_true,show ([(48:Int)]:List Int)=bytL [48] from rfl,ck_t (zAj (by rw [zCU];simp;omega)),zDx,zM0 n k (o ++ [48]) (by simp;omega) (by omega),List.append_assoc]
    rfl
theorem zNp {fu:Nat} {s:List UInt8} (hf:1048577<=fu) (hl:s.length<=1048576):zE5 fu s=some (sxL s):=by
  unfold zE5
  cases s with
  | nil=>
    obtain ⟨k,rfl⟩:∃ k,fu=k+1:=⟨fu-1,by omega⟩
    rw [zB3]
    rfl
  | cons c t=>
    have hlen:(c::t).length=t.length+1:=rfl
    have h1:=zMU (xs:=c::t) (bad:=fun c=>sndC c == -2) (r:=([]:List UInt8)) (g:=sxG) (f:=fun a:List UInt8 × Int=>bytL (a.1.take 4)) (Inv:=fun i a=>a.1.length<=i) (i0:=1) (L:=fun k i (a:List UInt8 × Int)=>zB3 fu (c::t) k a.2 i (bytL (a.1.take 4))) (fun k i a x hge hx ha=>by
      have hi:=zCq hx
      have hr:=zOP x
      try dsimp only
      rw [zB3,lt_t hi,cond_true,ck_t (zB6 hi),zF6 hx,zLe hf,zAA]
      have e0:(((i:Nat):Int)==(0:Int))=false:=by rw [beq_eq_false_iff_ne];omega
      have hone:∀ (l:List Int),l.length=1->zBJ ((bytL (a.1.take 4)).length+l.length)=true:=fun l hl=>zAj (by rw [zCU,hl,List.length_take];omega)
      have h4:decide (((bytL (a.1.take 4)).length:Int)<(4:Int))=decide (a.1.length<4):=by
        rw [zCU,List.length_take]
        by_cases h:a.1.length<4
        . rw [decide_eq_true h,decide_eq_true (by omega)]
        . rw [decide_eq_false h,decide_eq_false (by omega)]
      rw [e0,zCT,zCT,hone _ rfl,h4,zCM (show -9223372036854775808<=(48:Int)+sndC x by omega) (show (48:Int)+sndC x<=9223372036854775807 by omega)]
      simp only [zCf,zAm,zCp (show i<=4294967296 by omega)]
      cases hb:sndC x == -2 with
      | true=>rfl
      | false=>
        rw [cond_false,cond_false]
        unfold sxG
        by_cases hn:sndC x<0
        . rw [decide_eq_true hn, decide_eq_false (show ¬ (0 : Int) < sndC x by omega), decide_eq_false (show ¬ (0 : Int) <= sndC x by omega)]
          rfl
        . have h0 : 0 <= sndC x := by omega
          rw [decide_eq_false hn,decide_eq_true h0,cond_true,cond_true,cond_false,cond_false]
          cases (decide (0<sndC x)&&(sndC x != a.2)) with
          | true=>
            rw [Bool.true_and,cond_true,zPU h0 hr.2,zDx]
            dsimp only
            rw [zN5]
            cases decide (a.1.length<4) <;> rfl
          | false=>rfl) (fun i a x hge hx hb ha=>by
      have:=(zIv [x] a).2
      simp only [List.foldl_cons,List.foldl_nil,List.length_singleton] at this
      show (sxG a x).1.length<=i+1
      omega) (fun k a ha=>by (try dsimp only);rw [zB3,lt_f,cond_false]) (a:=([fld c],sndC c)) (Nat.le_refl _) (by rw [hlen];omega) (fu:=fu-1) (by rw [hlen];omega)
    have h1:=h1.1
    try dsimp only at h1
    obtain ⟨k,rfl⟩:∃ k,fu=k+1:=⟨fu-1,by omega⟩
    rw [Nat.add_sub_cancel] at h1
    rw [zB3,lt_0 (by rw [hlen];omega),cond_true,ck_t (zOw (by rw [hlen];omega)),show bAt (c::t) (0:Int)=(c.toNat:Int) from rfl,zLe hf,zAA,show (((0:Int))==(0:Int))=true from rfl,cond_true,ck_t (zBb.2 ⟨Int.le_refl _,by omega,by rw [hlen];omega⟩),sub1,zHq (s:=[c]) (by simp;omega) (by simp),zAA,show ([c].map fld) = [fld c] from rfl,ck_t (zCw.2 ⟨Int.le_refl _,by simp⟩),show bAt [fld c] (0:Int)=((fld c).toNat:Int) from rfl,ck_t (zAj (by simp)),zPu,ck_t zOO,show (([]:List Int) ++ [((fld c).toNat:Int)])=bytL (([fld c]:List UInt8).take 4) from rfl,h1]
    have e:sxL (c::t)=bif (c::t).any (fun c=>sndC c == -2) then [] else ((t.foldl sxG ([fld c],sndC c)).1 ++ [48,48,48]).take 4:=rfl
    rw [e,List.any_cons,List.drop_one,List.tail_cons]
    cases hb:sndC c == -2 with
    | true=>rw [cond_true,zAA,Bool.true_or,cond_true];rfl
    | false=>
      rw [cond_false,zAA,Bool.false_or]
      cases hb2:t.any fun c=>sndC c == -2 with
      | true=>rw [cond_true,cond_true];rfl
      | false=>
        have hg:=zIv t ([fld c],sndC c)
        generalize (t.foldl sxG ([fld c],sndC c)).1=o at hg ⊢
        have hg1:1<=o.length:=hg.1
        rw [cond_false,cond_false,zHl,zCU,show (((o.take 4).length:Int)==(0:Int))=false by rw [beq_eq_false_iff_ne,List.length_take];omega,cond_false,zM0 (4-(o.take 4).length) _ _ (by rw [List.length_take];omega) (by omega),zAA,zES]
        congr 1
        by_cases h4:o.length<4
        . rw [List.take_of_length_le (Nat.le_of_lt h4), List.take_append, List.take_of_length_le (Nat.le_of_lt h4)]
          congr 1
          match o.length,hg1,h4 with
          | 1,_,_=>rfl
          | 2,_,_=>rfl
          | 3,_,_=>rfl
        . rw [List.take_append_of_le_length (by omega),show 4-(o.take 4).length=0 by rw [List.length_take];omega,List.replicate_zero,List.append_nil]
theorem zPI (s:List UInt8):(sxL s).length<=4:=by
  unfold sxL
  cases s with
  | nil=>exact Nat.zero_le _
  | cons c t=>
    dsimp only
    cases ((c::t).any fun c=>sndC c == -2)
    . rw [cond_false,List.length_take];omega
    . exact Nat.zero_le _
def skL (s:List UInt8):List (List UInt8):=setL (neL ((tokL s).map sxL))
theorem isE (x:List UInt8):(x==([]:List UInt8))=x.isEmpty:=by cases x <;> rfl
theorem zPw (l:List (List UInt8)):neL (l.map sxL)=l.foldl (fun (a:List (List UInt8)) t=>bif (sxL t).isEmpty then a else a ++ [sxL t]) []:=by
  have key:∀ (l a:List (List UInt8)),l.foldl (fun (a:List (List UInt8)) t=>bif (sxL t).isEmpty then a else a ++ [sxL t]) a=a++neL (l.map sxL):=by
    intro l
    induction l with
    | nil=>intro a;simp [neL]
    | cons t l ih=>
      intro a
      rw [List.foldl_cons,ih,List.map_cons,zK8]
      cases (sxL t).isEmpty <;> simp
  rw [key,List.nil_append]
theorem zO9 {fu:Nat} {s:List UInt8} (hf:1048577<=fu) (hl:s.length<=262144):zDB fu s=some (skL s):=by
  have hle:=zG3 s
  have htl:∀ t ∈ tokL s,t.length<=1048576:=fun t ht=>by have:=(zK2 ht).2.1;omega
  unfold zDB skL
  rw [zId hf hl,zAA]
  generalize tokL s=l at hle htl ⊢
  have h:=zCz (xs:=l) (g:=fun (a:List (List UInt8)) t=>bif (sxL t).isEmpty then a else a ++ [sxL t]) (Inv:=fun i a=>a.length<=i) (L:=zBl fu l) (fun k i a x hx ha=>by
    have hi:=zCq hx
    rw [zBl,lt_t hi,cond_true,ck_t (zB6 hi),zAa hx,zNm hf (htl x (zDL hx)),zAA,isE,zAm,zCp (show i<=4294967296 by omega),List.length_singleton,zAj (show a.length+1<=4294967296 by omega)]
    cases (sxL x).isEmpty <;> rfl) (fun i a x hx ha=>by
    show (bif (sxL x).isEmpty then a else a ++ [sxL x]).length<=i+1
    cases (sxL x).isEmpty
    . rw [cond_false,List.length_append,List.length_singleton];omega
    . exact Nat.le_succ_of_le ha) (fun k a ha=>by rw [zBl,lt_f,cond_false]) (a:=[]) (Nat.zero_le _) (show l.length<fu by omega)
  rw [h.1,zAA,<- zPw,zDt hf (by have:=zK1 (l.map sxL);rw [List.length_map] at this;omega),zAA]
  rfl
theorem zO0 {fu:Nat} {s:List UInt8} (hf:1048577<=fu) (hl:s.length<=262144):zD8 fu s=some (skL s):=by
  have hle:=zG3 s
  have htl:∀ t ∈ tokL s,t.length<=1048576:=fun t ht=>by have:=(zK2 ht).2.1;omega
  unfold zD8 skL
  rw [zKh hf hl,zAA]
  generalize tokL s=l at hle htl ⊢
  have h:=zCz (xs:=l) (g:=fun (a:List (List UInt8)) t=>bif (sxL t).isEmpty then a else putS bLt a (sxL t)) (Inv:=fun i a=>a.length<=i) (L:=zBr fu l) (fun k i a x hx ha=>by
    have hi:=zCq hx
    rw [zBr,lt_t hi,cond_true,ck_t (zB6 hi),zAa hx,zNp hf (htl x (zDL hx)),zAA,isE,zAm,zCp (show i<=4294967296 by omega),zKl (show a.length<fu by omega) (show a.length<=2147483648 by omega),zAA]
    cases (sxL x).isEmpty <;> rfl) (fun i a x hx ha=>by
    show (bif (sxL x).isEmpty then a else putS bLt a (sxL x)).length<=i+1
    cases (sxL x).isEmpty
    . rw [cond_false]
      unfold putS putW
      cases (a[plc bLt (sxL x) a]? == some (sxL x))
      . rw [cond_false,zEO];omega
      . exact Nat.le_succ_of_le ha
    . exact Nat.le_succ_of_le ha) (fun k a ha=>by rw [zBr,lt_f,cond_false]) (a:=[]) (Nat.zero_le _) (show l.length<fu by omega)
  rw [h.1,zAA]
  congr 1
  rw [<- zIL]
  unfold neL
  rw [List.foldl_filter,List.foldl_map]
  congr 1
  funext acc x
  cases (sxL x).isEmpty <;> rfl
theorem zK3 (s:List UInt8):(skL s).length<=2*s.length+1:=by
  have h1:=zG3 s
  have h2:=zK1 ((tokL s).map sxL)
  have h3:=zEL (neL ((tokL s).map sxL))
  rw [List.length_map] at h2
  unfold skL
  omega
theorem zJw {s t:List UInt8} (h:t ∈ skL s):t.length<=4:=by
  unfold skL neL at h
  rw [zEu] at h
  obtain ⟨u,_,rfl⟩:=List.mem_map.1 (List.mem_filter.1 h).1
  exact zPI u
def inI (x lo hi:Int):Bool:=decide (lo<=x)&&decide (x<=hi)
theorem zLg {fu:Nat} {x lo hi:Int}:zEK fu x lo hi=some (inI x lo hi):=rfl
theorem zQJ:∀ d:Nat,d<10->strB [IntKind.u8.wrap ((48:Int)+(d:Int))] = [UInt8.ofNat (48+d)]:=by
  intro d hd
  have:∀ d:Fin 10,strB [IntKind.u8.wrap ((48:Int)+((d.val:Nat):Int))] = [UInt8.ofNat (48+d.val)]:=by decide
  exact this ⟨d,hd⟩
theorem zNd (n:Int):(if n.tmod 10<0 then 0-n.tmod 10 else n.tmod 10)=((n.natAbs % 10:Nat):Int)/\(n.tdiv 10).natAbs=n.natAbs / 10:=by
  cases n with
  | ofNat u=>
    have h1:(Int.ofNat u).tmod 10=((u % 10:Nat):Int):=rfl
    have h2:(Int.ofNat u).tdiv 10=((u / 10:Nat):Int):=rfl
    rw [h1,h2]
    refine ⟨?_,?_⟩
    . rw [if_neg (by omega)];rfl
    . rw [Int.natAbs_natCast];rfl
  | negSucc u=>
    have h1:(Int.negSucc u).tmod 10 = -(((u+1) % 10:Nat):Int):=rfl
    have h2:(Int.negSucc u).tdiv 10 = -(((u+1) / 10:Nat):Int):=rfl
    rw [h1,h2,show (Int.negSucc u).natAbs=u+1 from rfl]
    refine ⟨?_,?_⟩
    . split <;> omega
    . rw [Int.natAbs_neg,Int.natAbs_natCast]
def decT (u:Nat):List UInt8:=if u=0 then [] else Lib.decDigits u
theorem zN2 (u:Nat) (h:u ≠ 0):decT u=decT (u / 10) ++ [UInt8.ofNat (48+u % 10)]:=by
  unfold decT
  rw [if_neg h,Lib.decDigits]
  by_cases h10:u<10
  . rw [dif_pos h10,if_pos (by omega),List.nil_append,Nat.mod_eq_of_lt h10]
  . rw [dif_neg h10,if_neg (by omega)]
theorem zNM (k u:Nat) (h:u<10 ^ (k+1)):(decT u).length<=k+1:=by
  unfold decT
  split
  . simp
  . exact zF1 k u h
theorem zJ2 {fu : Nat} : ∀ (k : Nat) (n : Int) (acc : List UInt8), n.natAbs < 10 ^ k -> n.natAbs <= 9223372036854775808 -> acc.length + k <= 1000 -> ∀ q, k < q -> zBZ fu q n acc = some (decT n.natAbs ++ acc)
  | 0,n,acc,h,hn,hl,q,hq=>by
    obtain ⟨q,rfl⟩:∃ z,q=z+1:=⟨q-1,by omega⟩
    have:n=0:=by rw [Nat.pow_zero] at h;omega
    subst this
    rw [zBZ]
    rfl
  | k+1,n,acc,h,hn,hl,q,hq=>by
    obtain ⟨q,rfl⟩:∃ z,q=z+1:=⟨q-1,by omega⟩
    by_cases h0:n=0
    . subst h0
      rw [zBZ]
      rfl
    . obtain ⟨h1, h2⟩ := zNd n
      have hm:n.natAbs % 10<10:=Nat.mod_lt _ (by omega)
      have hu:n.natAbs ≠ 0:=by omega
      have hd:=zQJ (n.natAbs % 10) hm
      have ih:=zJ2 (fu:=fu) k (n.tdiv 10) ([UInt8.ofNat (48+n.natAbs % 10)]++acc) (by rw [h2];rw [Nat.pow_succ] at h;omega) (by rw [h2];omega) (by simp;omega) q (by omega)
      have hr:-9223372036854775808<=n.tdiv 10/\n.tdiv 10<=9223372036854775807:=by
        generalize n.tdiv 10=z at h2
        omega
      have hlen:zBJ (([UInt8.ofNat (48+n.natAbs % 10)]:List UInt8)++acc).length=true:=zAj (by simp;omega)
      have fin:decT (n.tdiv 10).natAbs++([UInt8.ofNat (48+n.natAbs % 10)]++acc)=decT n.natAbs++acc:=by rw [h2,zN2 _ hu,List.append_assoc]
      rw [zBZ,show (n != (0:Int))=true from by simpa using h0,cond_true,ck_t (show ((10:Int) != 0)=true from rfl)]
      by_cases ht:n.tmod 10<0
      . rw [if_pos ht] at h1
        rw [decide_eq_true ht,cond_true,h1,ck_t (zCM (by omega) (by omega)),ck_t (zCM (by omega) (by omega)),hd,ck_t hlen,ck_t (show ((10:Int) != 0)=true from rfl),ck_t (zCM hr.1 hr.2),ih,fin]
      . rw [if_neg ht] at h1
        rw [decide_eq_false ht,cond_false,h1,ck_t (zCM (by omega) (by omega)),hd,ck_t hlen,ck_t (show ((10:Int) != 0)=true from rfl),ck_t (zCM hr.1 hr.2),ih,fin]
theorem zJn {fu:Nat} {n:Int} (hf:1048577<=fu) (h0:-9223372036854775808<=n) (h1:n<=9223372036854775807):zC6 fu n=some (Lib.itoa n):=by
  unfold zC6
  by_cases hz:n=0
  . subst hz
    rw [show ((0:Int)==0)=true from rfl,cond_true]
    unfold Lib.itoa
    rw [if_neg (by decide),show (0:Int).toNat=0 from rfl,Lib.decDigits,dif_pos (by decide)]
    rfl
  . have hd := zJ2 (fu := fu) 20 n [] (by omega) (by omega) (by simp) fu (by omega)
    have hl:=zNM 19 n.natAbs (by omega)
    rw [List.append_nil] at hd
    have hu:n.natAbs ≠ 0:=by omega
    have e:decT n.natAbs=Lib.decDigits n.natAbs:=if_neg hu
    rw [show (n==(0:Int))=false from by simpa using hz,cond_false,hd,zAA]
    unfold Lib.itoa
    by_cases hneg:n<0
    . rw [decide_eq_true hneg, cond_true, if_pos hneg, ck_t (zAj (by simp; omega)), e]
      rfl
    . rw [decide_eq_false hneg,cond_false,if_neg hneg,e,show n.natAbs=n.toNat from by omega]
theorem zJg {fu:Nat} {n:Int} (h0:-9223372036854775808<=n) (h1:n<=9223372036854775807):zCI fu n=some (Lib.itoa n):=by
  unfold zCI zN7
  rw [ck_t (zCM h0 h1)]
  rfl
theorem zOs {n:Int} (h0:-9223372036854775808<=n) (h1:n<=9223372036854775807):(Lib.itoa n).length<=21:=zLk h0 h1
def IsI (s:List UInt8) (n:Int):Prop:=Lib.itoa n=s/\-999999999<=n/\n<=999999999
theorem zIg (d:Nat) (h:d<10):(UInt8.ofNat (48+d)).toNat=48+d:=by
  rw [UInt8.toNat_ofNat']
  omega
theorem zHQ {u:Nat} (h:u<10):Lib.decDigits u = [UInt8.ofNat (48+u)]:=by rw [Lib.decDigits,dif_pos h]
theorem zJf {u:Nat} (h:¬ u<10):Lib.decDigits u=Lib.decDigits (u / 10) ++ [UInt8.ofNat (48+u % 10)]:=by rw [Lib.decDigits,dif_neg h]
theorem zN9 (u:Nat):∀ c ∈ Lib.decDigits u,48<=c.toNat/\c.toNat<=57:=by
  induction u using Nat.strongRecOn with
  | _ u ih=>
    intro c hc
    by_cases h:u<10
    . rw [zHQ h] at hc
      rw [List.mem_singleton.1 hc,zIg u h]
      omega
    . rw [zJf h] at hc
      rcases List.mem_append.1 hc with hc | hc
      . exact ih (u / 10) (by omega) c hc
      . rw [List.mem_singleton.1 hc, zIg _ (Nat.mod_lt _ (by omega))]
        omega
theorem zMh (u:Nat):Lib.decDigits u ≠ []:=by
  by_cases h:u<10
  . rw [zHQ h];simp
  . rw [zJf h];simp
def scS (p:Nat × Nat) (c:UInt8):Nat × Nat:=if 48<=c.toNat/\c.toNat<=57 then (p.1*10+(c.toNat-48),p.2+1) else p
theorem zOd (u:Nat):(Lib.decDigits u).foldl scS (0,0)=(u,(Lib.decDigits u).length):=by
  induction u using Nat.strongRecOn with
  | _ u ih=>
    by_cases h:u<10
    . rw [zHQ h]
      have:=zIg u h
      simp only [List.foldl_cons,List.foldl_nil,scS,this,List.length_singleton]
      rw [if_pos (by omega)]
      simp
    . have hd := zIg (u % 10) (Nat.mod_lt _ (by omega))
      rw [zJf h,List.foldl_append,ih (u / 10) (by omega)]
      simp only [List.foldl_cons,List.foldl_nil,scS,hd,List.length_append,List.length_singleton]
      rw [if_pos (by omega)]
      congr 1
      omega
theorem zPT : ∀ (s : List UInt8) (p : Nat × Nat), p.1 < 10 ^ p.2 -> (s.foldl scS p).1 < 10 ^ (s.foldl scS p).2
  | [],p,h=>h
  | c::s,p,h=>by
    rw [List.foldl_cons]
    refine zPT s _ ?_
    unfold scS
    split
    . show p.1 * 10 + (c.toNat - 48) < 10 ^ (p.2 + 1)
      rw [Nat.pow_succ]
      omega
    . exact h
theorem zOT : ∀ (s : List UInt8) (p : Nat × Nat), (s.foldl scS p).2 <= p.2 + s.length
  | [],p=>Nat.le_refl _
  | c::s,p=>by
    have:=zOT s (scS p c)
    rw [List.foldl_cons,List.length_cons]
    have h:(scS p c).2<=p.2+1:=by
      unfold scS
      split
      . exact Nat.le_refl _
      . exact Nat.le_succ _
    omega
theorem zLZ {k:Nat} (h:k<=11):10 ^ k<=100000000000:=Nat.le_trans (Nat.pow_le_pow_right (by omega) h) (by omega)
theorem zPO {fu : Nat} {s : List UInt8} (hs : s.length <= 1048576) : ∀ m i k (p : Nat × Nat), (i + m = s.length \/ (m = 0 /\ 11 <= i)) -> i <= 11 -> m < k -> p.1 < 10 ^ p.2 -> p.2 <= i -> (s.take 11).take i = s.take i ->
    zBH fu s k (p.1:Int) (p.2:Int) (i:Int)=some (((((s.take 11).drop i).foldl scS p).1:Int),((((s.take 11).drop i).foldl scS p).2:Int)):=by
  intro m
  induction m with
  | zero=>
    intro i k p hi h11 hk hp hpi ht
    obtain ⟨k,rfl⟩:∃ z,k=z+1:=⟨k-1,by omega⟩
    have hd:(s.take 11).drop i = []:=List.drop_eq_nil_of_le (by rw [List.length_take];omega)
    have hc:(decide ((i:Int)<(s.length:Int))&&decide ((i:Int)<11))=false:=by
      rw [Bool.and_eq_false_imp,decide_eq_true_eq,decide_eq_false_iff_not]
      omega
    rw [zBH,zCT,hc,cond_false,hd]
    rfl
  | succ m ih=>
    intro i k p hi h11 hk hp hpi ht
    obtain ⟨k,rfl⟩:∃ z,k=z+1:=⟨k-1,by omega⟩
    have hlt:i<s.length:=by omega
    by_cases h:i<11
    . have hc:(decide ((i:Int)<(s.length:Int))&&decide ((i:Int)<11))=true:=by
        rw [Bool.and_eq_true,decide_eq_true_eq,decide_eq_true_eq]
        omega
      have hx:=List.getElem?_eq_getElem hlt
      have hb:=zJa hx
      have h256:s[i].toNat<256:=UInt8.toNat_lt _
      have hdrop:(s.take 11).drop i=s[i]::(s.take 11).drop (i+1):=by
        rw [List.drop_eq_getElem_cons (by rw [List.length_take];omega),List.getElem_take]
      have hpb:p.1<=100000000000:=Nat.le_of_lt (Nat.lt_of_lt_of_le hp (zLZ (by omega)))
      have hw:IntKind.i64.wrap (IntKind.u8.wrap ((s[i].toNat:Int)-48))=((s[i].toNat-48:Nat):Int)\/s[i].toNat<48:=by
        rcases Nat.lt_or_ge s[i].toNat 48 with h' | h'
        . exact .inr h'
        . left
          have e:((s[i].toNat:Int)-48)=((s[i].toNat-48:Nat):Int):=by omega
          rw [e]
          have h1:IntKind.u8.wrap ((s[i].toNat-48:Nat):Int)=((s[i].toNat-48:Nat):Int):=by
            unfold IntKind.wrap
            simp [IntKind.bits,IntKind.signed]
            omega
          rw [h1]
          exact IntWalk.i64_in _ (by omega)
      have hnext:∀ q:Nat × Nat,q.1<10 ^ q.2->q.2<=i+1->zBH fu s k (q.1:Int) (q.2:Int) ((i+1:Nat):Int)=some (((((s.take 11).drop (i+1)).foldl scS q).1:Int),((((s.take 11).drop (i+1)).foldl scS q).2:Int)):=fun q h1 h2=>
        ih (i+1) k q (by omega) (by omega) (by omega) h1 h2 (by rw [List.take_take,Nat.min_eq_left (by omega)])
      rw [zBH,zCT,hc,cond_true,ck_t (zB6 hlt),hb,ck_t (by rw [zB6 hlt,Bool.or_true]),zCT,hdrop,List.foldl_cons]
      by_cases hdg:48<=s[i].toNat/\s[i].toNat<=57
      . have hd:(decide ((48:Int)<=(s[i].toNat:Int))&&decide ((s[i].toNat:Int)<=57))=true:=by
          rw [Bool.and_eq_true,decide_eq_true_eq,decide_eq_true_eq]
          omega
        have hw':=hw.resolve_right (by omega)
        have e:scS p s[i]=(p.1*10+(s[i].toNat-48),p.2+1):=if_pos hdg
        have hq:=hnext (p.1*10+(s[i].toNat-48),p.2+1) (by show _<10 ^ (p.2+1);rw [Nat.pow_succ];omega) (by show p.2+1<=i+1;omega)
        rw [hd,cond_true,hw',ck_t (zCM (by omega) (by omega)),ck_t (zB6 hlt),ck_t (zCM (by omega) (by omega)),ck_t (zCM (by omega) (by omega)),ck_t (zC3 (by omega)),e,<- hq]
        congr 1
      . have hd:(decide ((48:Int)<=(s[i].toNat:Int))&&decide ((s[i].toNat:Int)<=57))=false:=by
          rw [Bool.and_eq_false_imp,decide_eq_true_eq,decide_eq_false_iff_not]
          omega
        have e:scS p s[i]=p:=if_neg hdg
        rw [hd,cond_false,ck_t (zC3 (by omega)),e,zAm]
        exact hnext p hp (by omega)
    . have hd : (s.take 11).drop i = [] := List.drop_eq_nil_of_le (by rw [List.length_take]; omega)
      have hc:(decide ((i:Int)<(s.length:Int))&&decide ((i:Int)<11))=false:=by
        rw [Bool.and_eq_false_imp,decide_eq_true_eq,decide_eq_false_iff_not]
        omega
      rw [zBH,zCT,hc,cond_false,hd]
      rfl
theorem zLf {n:Int} (h:0<=n):Lib.itoa n=Lib.decDigits n.toNat:=by unfold Lib.itoa;rw [if_neg (by omega)]
theorem zKk {n:Int} (h:n<0):Lib.itoa n=45::Lib.decDigits n.natAbs:=by unfold Lib.itoa;rw [if_pos h]
theorem zO8 {u:Nat} (h:u<=999999999):(Lib.decDigits u).length<=9:=zF1 8 u (by omega)
theorem zJx {s:List UInt8} {n:Int} (h:IsI s n):s.length<=10/\0<s.length/\s.foldl scS (0,0)=(n.natAbs,(Lib.decDigits n.natAbs).length)/\(Lib.decDigits n.natAbs).length<=9/\(s[0]? = some 45 ↔ n<0):=by
  obtain ⟨rfl,h1,h2⟩:=h
  have hl:=zO8 (u:=n.natAbs) (by omega)
  have hp:=List.length_pos_iff.2 (zMh n.natAbs)
  by_cases hn:n<0
  . rw [zKk hn]
    refine ⟨by simp;omega,by simp,?_,hl,by simp [hn]⟩
    rw [List.foldl_cons,show scS (0,0) 45=(0,0) from rfl,zOd]
  . rw [zLf (by omega), show n.toNat = n.natAbs by omega]
    refine ⟨by omega,hp,zOd _,hl,?_⟩
    constructor
    . intro h
      have:=zN9 n.natAbs 45 (List.mem_of_getElem? h)
      exact absurd this.1 (by decide)
    . intro h;omega
def RdI (s:List UInt8) (r:Int × Bool):Prop:=(∃ n,IsI s n/\r=(n,true))\/((∀ n,¬ IsI s n)/\r=(0,false))
theorem zOx {s:List UInt8} {n m:Int} (h:IsI s n) (k:IsI s m):n=m:=by
  have a:=zJx h
  have b:=zJx k
  have e:n.natAbs=m.natAbs:=by
    have:=a.2.2.1.symm.trans b.2.2.1
    injection this
  have:=a.2.2.2.2
  have:=b.2.2.2.2
  by_cases hs:s[0]? = some 45
  . have := a.2.2.2.2.1 hs
    have:=b.2.2.2.2.1 hs
    omega
  . have h1 : ¬ n < 0 := fun h => hs (a.2.2.2.2.2 h)
    have h2:¬ m<0:=fun h=>hs (b.2.2.2.2.2 h)
    omega
theorem RdI.one {s:List UInt8} {r q:Int × Bool} (h:RdI s r) (k:RdI s q):r=q:=by
  rcases h with ⟨n,h1,rfl⟩ | ⟨h1,rfl⟩ <;> rcases k with ⟨m,k1,rfl⟩ | ⟨k1,rfl⟩
  . rw [zOx h1 k1]
  . exact absurd h1 (k1 n)
  . exact absurd k1 (h1 m)
  . rfl
theorem RdI.no {s:List UInt8} (h:RdI s (0,false)):∀ n,¬ IsI s n:=by
  rcases h with ⟨n,_,h⟩ | ⟨h,_⟩
  . cases h
  . exact h
theorem zNP {fu:Nat} {s:List UInt8} (hf:1048577<=fu) (hs:s.length<=1048576):∃ r,zDq fu s=some r/\RdI s r:=by
  have hsc:=zPO (fu:=fu) hs s.length 0 fu (0,0) (.inl (by omega)) (by omega) (by omega) (by decide) (Nat.le_refl _) (by simp)
  rw [List.drop_zero] at hsc
  have hlt:=zPT (s.take 11) (0,0) (by decide)
  have hct:=zOT (s.take 11) (0,0)
  have htk:(s.take 11).length<=11:=by rw [List.length_take];omega
  generalize hp:(s.take 11).foldl scS (0,0)=p at hsc hlt hct
  have hpb:p.1<=100000000000:=Nat.le_of_lt (Nat.lt_of_lt_of_le hlt (zLZ (by omega)))
  have hM:zBH fu s fu 0 0 0=some ((p.1:Int),(p.2:Int)):=hsc
  have h45:((decide ((0:Int)<(s.length:Int)))&&((bAt s (0:Int))==(45:Int)))=decide (s[0]? = some 45):=by
    cases s with
    | nil=>rfl
    | cons b l=>
      have hb:bAt (b::l) (0:Int)=(b.toNat:Int):=zJa (i:=0) rfl
      rw [hb,decide_eq_true (by simp),Bool.true_and]
      by_cases e:b=45
      . subst e;rfl
      . rw [decide_eq_false (by simpa using e), beq_eq_false_iff_ne]
        intro h
        exact e (UInt8.toNat_inj.1 (by show b.toNat=45;omega))
  have hck:(!(true&&((decide ((0:Int)<(s.length:Int)))==true)) || inR (0:Int) s.length)=true:=by
    cases s with
    | nil=>rfl
    | cons b l=>rw [zCw.2 ⟨Int.le_refl _,by simp⟩,Bool.or_true]
  have arm : ∀ z : Int, (z = (p.1 : Int) /\ s[0]? ≠ some 45) \/ (z = 0 - (p.1 : Int) /\ s[0]? = some 45) ->
      ∃ r,(bd ((decide ((9:Int)<(p.2:Int))) || (decide ((10:Int)<(s.length:Int)))) fun x33=>
        cl (true&&(x33==false)) (zC6 fu z) fun x35=>
        bd (x33 || (!(x35==s))) fun x37=>
        bif x37 then (some ((0:Int),false)) else (some (z,true)))=some r/\RdI s r:=by
    intro z hz
    rw [zCT]
    have key:∀ n,IsI s n->n=z/\p.2<=9/\s.length<=10:=fun n hn=>by
      obtain ⟨a1,a2,a3,a4,a5⟩:=zJx hn
      rw [List.take_of_length_le (by omega),a3] at hp
      subst hp
      refine ⟨?_,a4,a1⟩
      rcases hz with ⟨rfl,h⟩ | ⟨rfl,h⟩
      . have : ¬ n < 0 := fun hn => h (a5.2 hn)
        show n=(n.natAbs:Int)
        omega
      . have := a5.1 h
        show n=0-(n.natAbs:Int)
        omega
    cases hg:(decide ((9:Int)<(p.2:Int))) || (decide ((10:Int)<(s.length:Int)))
    . rw [Bool.or_eq_false_iff, decide_eq_false_iff_not, decide_eq_false_iff_not] at hg
      have h9:p.1<1000000000:=Nat.lt_of_lt_of_le hlt (Nat.le_trans (Nat.pow_le_pow_right (n:=10) (by omega) (show p.2<=9 by omega)) (by omega))
      rw [show (true&&(false==false))=true from rfl,zJn hf (by omega) (by omega),zAA,zCT,Bool.false_or]
      cases he:Lib.itoa z==s
      . refine ⟨_, by rw [Bool.not_false, cond_true], .inr ⟨fun n hn => ?_, rfl⟩⟩
        obtain ⟨rfl,_⟩:=key n hn
        rw [hn.1,beq_self_eq_true] at he
        cases he
      . exact ⟨_,by rw [Bool.not_true,cond_false],.inl ⟨z,⟨by simpa using he,by omega,by omega⟩,rfl⟩⟩
    . rw [show (true && (true == false)) = false from rfl, zLs, zCT, Bool.true_or, cond_true]
      refine ⟨_,rfl,.inr ⟨fun n hn=>?_,rfl⟩⟩
      obtain ⟨_,h1,h2⟩:=key n hn
      rw [Bool.or_eq_true,decide_eq_true_eq,decide_eq_true_eq] at hg
      omega
  unfold zDq
  rw [hM,zAA,ck_t hck,zCT,h45]
  by_cases hs0:s[0]? = some 45
  . rw [decide_eq_true hs0, cond_true, ck_t (zCM (by omega) (by omega))]
    exact arm _ (.inr ⟨rfl,hs0⟩)
  . rw [decide_eq_false hs0, cond_false]
    exact arm _ (.inl ⟨rfl,hs0⟩)
theorem zNE : ∀ (xs : List UInt8) (acc v d : Nat), Lib.parseUint10 acc xs=.ok v -> v < 1000000000 -> d < 10 -> Lib.parseUint10 acc (xs ++ [UInt8.ofNat (48 + d)])=.ok (v * 10 + d)
  | [],acc,v,d,h,hv,hd=>by
    simp only [Lib.parseUint10] at h
    injection h with h
    subst h
    have:=zIg d hd
    simp only [List.nil_append,Lib.parseUint10,this]
    rw [if_pos (by omega),if_neg (by omega),if_neg (by omega)]
    congr 1
    omega
  | c::xs,acc,v,d,h,hv,hd=>by
    rw [List.cons_append]
    simp only [Lib.parseUint10] at h ⊢
    split at h
    . rename_i h1
      rw [if_pos h1]
      split at h
      . cases h
      . rename_i h2
        rw [if_neg h2]
        split at h
        . cases h
        . rename_i h3
          rw [if_neg h3]
          exact zNE xs _ v d h hv hd
    . cases h
theorem zPl (u:Nat) (h:u<=999999999):Lib.parseUint10 0 (Lib.decDigits u)=.ok u:=by
  induction u using Nat.strongRecOn with
  | _ u ih=>
    by_cases h10:u<10
    . rw [zHQ h10]
      have:=zNE [] 0 0 u rfl (by omega) h10
      rw [List.nil_append] at this
      simpa using this
    . rw [zJf h10, zNE _ 0 (u / 10) (u % 10) (ih (u / 10) (by omega) (by omega)) (by omega) (Nat.mod_lt _ (by omega))]
      congr 1
      omega
theorem zMy {n:Int} (h1:-999999999<=n) (h2:n<=999999999):Lib.atoiAll (Lib.itoa n)=.ok n:=by
  have hm:∀ u:Nat,u<=999999999->Lib.parseMag (Lib.decDigits u)=.ok u:=fun u hu=>by
    unfold Lib.parseMag
    rw [if_neg (zMh u),zPl u hu]
  by_cases hn:n<0
  . rw [zKk hn]
    unfold Lib.atoiAll
    simp only [show ((45:UInt8).toNat=43\/(45:UInt8).toNat=45)=True from by simp,if_true,hm n.natAbs (by omega)]
    simp only [show ((45:UInt8).toNat=45)=True from by simp,not_true,false_and,if_false,true_and,if_true]
    rw [if_neg (by omega)]
    congr 1
    omega
  . rw [zLf (by omega)]
    have hne:=zMh n.toNat
    have hdg:=zN9 n.toNat
    have hm':=hm n.toNat (by omega)
    cases hd:Lib.decDigits n.toNat with
    | nil=>exact absurd hd hne
    | cons c r=>
      rw [hd] at hdg hm'
      have hc:=hdg c List.mem_cons_self
      unfold Lib.atoiAll
      simp only []
      rw [if_neg (by omega),hm']
      simp only []
      rw [if_neg (by omega),if_neg (by omega),if_neg (by omega)]
      congr 1
      omega
theorem zNL {s:List UInt8} {v:Int} (h:Lib.atoiAll s=.ok v):-9223372036854775808<=v/\v<=9223372036854775807:=by
  unfold Lib.atoiAll at h
  cases s with
  | nil=>cases h
  | cons c r=>
    simp only [] at h
    cases hm:Lib.parseMag (if c.toNat=43\/c.toNat=45 then r else c::r) with
    | ok u=>
      rw [hm] at h
      simp only [] at h
      split at h
      . cases h
      . split at h
        . cases h
        . injection h with h
          split at h <;> omega
    | _=>rw [hm] at h;cases h
theorem zOA {fu:Nat} {s:List UInt8} (hs:s.length<=1048576):∃ r,zDs fu s=some r/\RdI s r:=by
  unfold zDs zN1
  rw [ck_t (zAj (by omega)),zAA]
  have no:∀ n,IsI s n->Lib.atoiAll s=.ok n:=fun n hn=>by rw [<- hn.1];exact zMy hn.2.1 hn.2.2
  have bad:∀ a:Int,(∀ n,¬ IsI s n)->∃ r,(cl (true&&(true==false)) (zCI fu a) fun x4=>
      bd (true || (!(x4==s))) fun x6=>
      cl (true&&(x6==false)) (zCC fu a (-999999999:Int) (999999999:Int)) fun x8=>
      bd (x6 || (!x8)) fun x10=>
      bif x10 then (some ((0:Int),false)) else (some (a,true)))=some r/\RdI s r:=fun a h=>⟨_,rfl,.inr ⟨h,rfl⟩⟩
  cases hc:Lib.atoiAll s with
  | range=>
    have e:zKH s=(Lib.atoiSat s,true):=by unfold zKH;rw [hc]
    rw [e]
    exact bad _ fun n hn=>by rw [no n hn] at hc;cases hc
  | ok v=>
    have e:zKH s=(v,false):=by unfold zKH;rw [hc]
    have hv:=zNL hc
    rw [e]
    dsimp only
    rw [show (true&&(false==false))=true from rfl,zJg hv.1 hv.2,zAA,zCT,Bool.false_or]
    have key:∀ n,IsI s n->n=v:=fun n hn=>by
      have:=(no n hn).symm.trans hc
      injection this
    cases he:Lib.itoa v==s
    . rw [Bool.not_false, show (true && (true == false)) = false from rfl, zLs, zCT, Bool.true_or, cond_true]
      refine ⟨_,rfl,.inr ⟨fun n hn=>?_,rfl⟩⟩
      obtain rfl:=key n hn
      rw [hn.1,beq_self_eq_true] at he
      cases he
    . rw [Bool.not_true, show (true && (false == false)) = true from rfl, show zCC fu v (-999999999) 999999999 = some (decide (-999999999 <= v) && decide (v <= 999999999)) from rfl, zAA, zCT, Bool.false_or]
      cases hw:decide (-999999999<=v)&&decide (v<=999999999)
      . rw [Bool.not_false, cond_true]
        refine ⟨_,rfl,.inr ⟨fun n hn=>?_,rfl⟩⟩
        obtain rfl:=key n hn
        rw [decide_eq_true hn.2.1,decide_eq_true hn.2.2] at hw
        cases hw
      . rw [Bool.not_true, cond_false]
        rw [Bool.and_eq_true,decide_eq_true_eq,decide_eq_true_eq] at hw
        exact ⟨_,rfl,.inl ⟨v,⟨by simpa using he,hw.1,hw.2⟩,rfl⟩⟩
  | _=>
    have e:zKH s=(0,true):=by unfold zKH;rw [hc]
    rw [e]
    exact bad 0 fun n hn=>by rw [no n hn] at hc;cases hc
theorem zHL {fu:Nat} {x lo hi:Int}:zCC fu x lo hi=some (inI x lo hi):=rfl
theorem zPV {n:Int} (h0:-9223372036854775808<=n) (h1:n<=9223372036854775807):IntKind.i64.wrap n=n:=IntWalk.i64_in _ (by omega)
def ntC (c:UInt8):Bool:=!(inI c.toNat 32 126)
def txB (s:List UInt8):Bool:=!(s.any ntC)&&decide (s.length<=40)
theorem zPj {n:Nat}:decide ((n:Int)<=(40:Int))=decide (n<=40):=by
  by_cases h:n<=40
  . rw [decide_eq_true h,decide_eq_true (by omega)]
  . rw [decide_eq_false h,decide_eq_false (by omega)]
theorem zO1 {fu:Nat} {s:List UInt8} (hf:s.length<fu) (hl:s.length<=1048576):zEW fu s=some (txB s):=by
  unfold zEW
  have h:=zFE (xs:=s) (p:=ntC) (r:=false) (L:=zCk fu s) (fun k i c hc=>by
    have hi:=zCq hc
    have hcu:c.toNat<256:=c.toNat_lt
    rw [zCk,lt_t hi,cond_true,ck_t (zB6 hi),zF6 hc,zPV (by omega) (by omega),zHL,zAA,zAm,ck_t (zCp (by omega))]
    rfl) (fun k=>by rw [zCk,lt_f];rfl) hf
  rw [h,zAA,zPj]
  unfold txB
  cases s.any ntC <;> rfl
theorem zNq {fu:Nat} {s:List UInt8} (hf:s.length<fu) (hl:s.length<=1048576):zEh fu s=some (txB s):=by
  unfold zEh
  have h:=zFE (xs:=s) (p:=ntC) (r:=false) (L:=zCj fu s) (fun k i c hc=>by
    have hi:=zCq hc
    have e:(decide ((c.toNat:Int)<(32:Int)) || decide ((126:Int)<(c.toNat:Int)))=ntC c:=by
      unfold ntC inI
      by_cases h1:(32:Int)<=(c.toNat:Int)
      . by_cases h2 : (c.toNat : Int) <= 126
        . rw [decide_eq_true h1,decide_eq_true h2,decide_eq_false (by omega),decide_eq_false (by omega)];rfl
        . rw [decide_eq_true h1,decide_eq_false h2,decide_eq_false (by omega),decide_eq_true (by omega)];rfl
      . rw [decide_eq_false h1,decide_eq_true (by omega),Bool.true_or,Bool.false_and];rfl
    rw [zCj,lt_t hi,cond_true,ck_t (zB6 hi),zB6 hi,Bool.or_true,zCf,zF6 hc,zCT,e,zAm,ck_t (zCp (by omega))]) (fun k=>by rw [zCj,lt_f];rfl) hf
  rw [h,zAA,zPj]
  unfold txB
  cases s.any ntC <;> rfl
def pcC (c:UInt8):Bool:=((c.toNat:Int)==(124:Int)) || ((c.toNat:Int)==(59:Int))
def flB (s:List UInt8):Bool:=txB s && !(s.any pcC)
theorem zPs (c:UInt8):([124,59]:List UInt8).contains c=pcC c:=by
  revert c
  refine zLx ?_
  decide +kernel
theorem zOe : ∀ s : List UInt8, Lib.containsAny s [124, 59] = s.any pcC
  | []=>rfl
  | b::l=>by
    have ih:=zOe l
    have hg:=Lib.indexAny_ge [124,59] l
    unfold Lib.containsAny at ih ⊢
    rw [Lib.indexAny,List.any_cons,<- ih,zPs]
    cases pcC b
    . rw [if_neg (by decide), Bool.false_or]
      by_cases h:Lib.indexAny l [124,59] = -1
      . rw [if_pos (by simpa using h),h]
      . rw [if_neg (by simpa using h),decide_eq_true (by omega),decide_eq_true (by omega)]
    . rw [if_pos rfl];rfl
theorem zOg {s:List UInt8} (h:txB s=true):(s.all fun b=>decide (b.toNat<128))=true/\s.length<=40:=by
  unfold txB at h
  rw [Bool.and_eq_true,decide_eq_true_eq,Bool.not_eq_true',List.any_eq_false] at h
  refine ⟨?_,h.2⟩
  rw [List.all_eq_true]
  intro b hb
  have:=h.1 b hb
  unfold ntC inI at this
  rw [Bool.not_eq_true,Bool.not_eq_false',Bool.and_eq_true,decide_eq_true_eq,decide_eq_true_eq] at this
  exact decide_eq_true (by omega)
theorem zNo {fu:Nat} {s:List UInt8} (hf:s.length<fu) (hl:s.length<=1048576):zE7 fu s=some (flB s):=by
  unfold zE7 flB
  rw [zO1 hf hl,zAA]
  cases h:txB s with
  | false=>rfl
  | true=>
    obtain ⟨h1,h2⟩:=zOg h
    unfold zG1
    rw [h1,decide_eq_true (show s.length<4294967281 by omega),show ((true&&decide (([124,59]:List UInt8).length<4294967281))&&true&&(([124,59]:List UInt8).all fun b=>decide (b.toNat<128)))=true from rfl,zCf,zOe]
    rfl
theorem zOI {fu:Nat} {s:List UInt8} (hf:s.length<fu) (hl:s.length<=1048576):zEC fu s=some (flB s):=by
  unfold zEC
  have h:=zFE (xs:=s) (p:=pcC) (r:=false) (L:=zCS fu s) (fun k i c hc=>by
    have hi:=zCq hc
    rw [zCS,lt_t hi,cond_true,ck_t (zB6 hi),zB6 hi,Bool.or_true,zCf,zF6 hc,zCT,zAm,ck_t (zCp (by omega))]
    rfl) (fun k=>by rw [zCS,lt_f];rfl) hf
  rw [h,zAA,zNq hf hl]
  unfold flB
  cases s.any pcC
  . rw [Bool.not_false,Bool.and_true];rfl
  . rw [Bool.not_true,Bool.and_false];rfl
abbrev RecT:=Int × Int × Int × List (List UInt8)
def recB (r:RecT):Bool:=((inI r.1 0 3&&inI r.2.1 1 99)&&inI r.2.2.1 1 999)&&(((r.2.2.2.length:Int)==(4:Int)) && !(r.2.2.2.any fun s=>!(flB s)))
def zHm (r:RecT):Prop:=r.2.2.2.length<=1048576/\∀ s ∈ r.2.2.2,s.length<=1048576
theorem zLR {fu:Nat} {l:List (List UInt8)} {F:List UInt8->Option Bool} {p:List UInt8->Bool} (hF:∀ x ∈ l,F x=some (p x)) (hf:l.length<fu) (hl:l.length<=1048576):zB7 fu l F=some (l.any p):=by
  unfold zB7 zB1
  have h:=zJq (xs:=l) (p:=p) (L:=zAP fu l F) (fun k i y hy=>by
    have hi:=zCq hy
    rw [zAP,lt_t hi,cond_true,ck_t (zB6 hi),zAa hy,hF y (zDL hy),zAA,zAm,ck_t (zCp (by omega))]) (fun k=>by rw [zAP,lt_f];rfl) hf
  rw [h,zAA]
  cases hi:ixI 0 (l.map p) with
  | none=>
    have h2:=zHZ hi
    have:l.any p=false:=by
      rw [List.any_eq_false]
      intro y hy
      have:=h2 (p y) (List.mem_map_of_mem hy)
      simp [this]
    rw [this]
    rfl
  | some j=>
    obtain ⟨_,h2,_⟩:=zHh hi
    have:l.any p=true:=by
      rw [Nat.sub_zero,List.getElem?_map] at h2
      obtain ⟨y,hy,e⟩:=Option.map_eq_some_iff.1 h2
      rw [List.any_eq_true]
      exact ⟨y,List.mem_of_getElem? hy,e⟩
    rw [this]
    show some (decide (0<=(j:Int)))=some true
    rw [decide_eq_true (by omega)]
theorem zIX {fu:Nat} {r:RecT} (hf:1048577<=fu) (h:zHm r):zCE fu r=some (recB r):=by
  unfold zCE recB
  rw [zHL,zHL,zHL,zLR (p:=fun s=>!(flB s)) (fun s hs=>by
    unfold zD6
    rw [zNo (by have:=h.2 s hs;omega) (h.2 s hs)]
    rfl) (by have:=h.1;omega) h.1]
  generalize inI r.1 0 3=a
  generalize inI r.2.1 1 99=b
  generalize inI r.2.2.1 1 999=c
  generalize ((r.2.2.2.length:Int)==(4:Int))=d
  generalize (r.2.2.2.any fun s=>!(flB s))=e
  cases a <;> cases b <;> cases c <;> cases d <;> cases e <;> rfl
theorem zIa {fu:Nat} {r:RecT} (hf:1048577<=fu) (h:zHm r):zCD fu r=some (recB r):=by
  unfold zCD recB
  have hl:=zFE (xs:=r.2.2.2) (p:=fun s=>!(flB s)) (r:=false) (L:=zBW fu r) (fun k i s hs=>by
    have hi:=zCq hs
    have h1:=h.1
    have h2:=h.2 s (zDL hs)
    rw [zBW,lt_t hi,cond_true,ck_t (zB6 hi),zAa hs,zOI (by omega) h2,zAA,zAm,ck_t (zCp (by omega))]) (fun k=>by rw [zBW,lt_f];rfl) (show r.2.2.2.length<fu by have:=h.1;omega)
  rw [hl,zAA,zLg,zLg,zLg]
  generalize inI r.1 0 3=a
  generalize inI r.2.1 1 99=b
  generalize inI r.2.2.1 1 999=c
  generalize ((r.2.2.2.length:Int)==(4:Int))=d
  generalize (r.2.2.2.any fun s=>!(flB s))=e
  cases a <;> cases b <;> cases c <;> cases d <;> cases e <;> rfl
theorem zJK {r:RecT} (h:recB r=true):∃ a b c d:List UInt8,r.2.2.2 = [a,b,c,d]/\a.length<=40/\b.length<=40/\c.length<=40/\d.length<=40:=by
  unfold recB at h
  rw [Bool.and_eq_true] at h
  obtain ⟨_,h⟩:=h
  rw [Bool.and_eq_true,Bool.not_eq_true',List.any_eq_false] at h
  obtain ⟨h1,h2⟩:=h
  have hl:∀ s ∈ r.2.2.2,s.length<=40:=fun s hs=>by
    have:=h2 s hs
    unfold flB at this
    rw [Bool.not_eq_true,Bool.not_eq_false',Bool.and_eq_true] at this
    exact (zOg this.1).2
  rw [beq_iff_eq] at h1
  generalize r.2.2.2=l at h1 hl
  match l,h1,hl with
  | [a,b,c,d],_,hl=>exact ⟨a,b,c,d,rfl,hl a (by simp),hl b (by simp),hl c (by simp),hl d (by simp)⟩
  | [],h1,_=>simp at h1
  | [_],h1,_=>simp at h1
  | [_,_],h1,_=>simp at h1
  | [_,_,_],h1,_=>simp at h1
  | _::_::_::_::_::_,h1,_=>simp at h1;omega
def dgC (c:UInt8):Bool:=dgI c.toNat
def dgL (s:List UInt8):List UInt8:=s.filter dgC
theorem zOY (s:List UInt8):dgL s=s.foldl (fun (a:List UInt8) c=>bif dgC c then a ++ [c] else a) []:=by
  have key:∀ (s a:List UInt8),s.foldl (fun (a:List UInt8) c=>bif dgC c then a ++ [c] else a) a=a++s.filter dgC:=by
    intro s
    induction s with
    | nil=>intro a;simp
    | cons c s ih=>
      intro a
      rw [List.foldl_cons,ih,List.filter_cons]
      cases dgC c <;> simp
  rw [key,List.nil_append]
  rfl
theorem zNv {fu:Nat} {s:List UInt8} (hf:s.length<fu) (hl:s.length<=1048576):zDp fu s=some (dgL s):=by
  unfold zDp
  have h:=zCz (xs:=s) (g:=fun (a:List UInt8) c=>bif dgC c then a ++ [c] else a) (Inv:=fun i a=>a.length<=i) (L:=fun k i (a:List UInt8)=>(zBP fu s k i (bytL a)).map strB) (fun k i a c hc ha=>by
    have hi:=zCq hc
    rw [zBP,lt_t hi,cond_true,ck_t (zB6 hi),zB6 hi,zCf,zF6 hc,show zDk fu (c.toNat:Int)=some (dgC c) from rfl,zAA,zAj (by rw [zCU];show a.length+1<=4294967296;omega),zCf,zAm,zCp (show i<=4294967296 by omega),zCf,zCf]
    cases dgC c
    . rfl
    . rw [cond_true,cond_true,zFZ,zDx]) (fun i a c hc ha=>by
    show (bif dgC c then a ++ [c] else a).length<=i+1
    cases dgC c
    . exact Nat.le_succ_of_le ha
    . rw [cond_true,List.length_append,List.length_singleton];omega) (fun k a ha=>by rw [zBP,lt_f,cond_false,Option.map_some,zES]) (a:=[]) (Nat.zero_le _) hf
  rw [zOY,<- h.1]
  show cl true (zBP fu s fu 0 (bytL [])) _=_
  cases zBP fu s fu 0 (bytL []) <;> rfl
theorem zNg {fu:Nat} {s:List UInt8} (hf:s.length<fu) (hl:s.length<=1048576):zDo fu s=some (dgL s):=by
  unfold zDo
  have h:=zCz (xs:=s) (g:=fun (a:List UInt8) c=>bif dgC c then a ++ [c] else a) (Inv:=fun i a=>a.length<=i) (L:=fun k i (a:List UInt8)=>(zBQ fu s k i (bytL a)).map strB) (fun k i a c hc ha=>by
    have hi:=zCq hc
    rw [zBQ,lt_t hi,cond_true,ck_t (zB6 hi),zB6 hi,Bool.or_true,zCf,zCf,zF6 hc,zCT,show (decide ((48:Int)<=(c.toNat:Int))&&decide ((c.toNat:Int)<=(57:Int)))=dgC c from rfl,zAj (by rw [zCU];show a.length+1<=4294967296;omega),zCf,zAm,zCp (show i<=4294967296 by omega),zCf,zCf]
    cases dgC c
    . rfl
    . rw [cond_true,cond_true,zFZ,zDx]) (fun i a c hc ha=>by
    show (bif dgC c then a ++ [c] else a).length<=i+1
    cases dgC c
    . exact Nat.le_succ_of_le ha
    . rw [cond_true,List.length_append,List.length_singleton];omega) (fun k a ha=>by rw [zBQ,lt_f,cond_false,Option.map_some,zES]) (a:=[]) (Nat.zero_le _) hf
  rw [zOY,<- h.1]
  show cl true (zBQ fu s fu 0 (bytL [])) _=_
  cases zBQ fu s fu 0 (bytL []) <;> rfl
theorem zJX (s:List UInt8):(dgL s).length<=s.length:=List.length_filter_le _ _
def YrI (s:List UInt8) (y:Int):Prop:=∃ r,RdI s r/\y=bif r.2&&inI r.1 1000 9999 then r.1 else 0
theorem YrI.one {s:List UInt8} {y z:Int} (h:YrI s y) (k:YrI s z):y=z:=by
  obtain ⟨r,h1,rfl⟩:=h
  obtain ⟨q,k1,rfl⟩:=k
  rw [h1.one k1]
theorem YrI.range {s:List UInt8} {y:Int} (h:YrI s y):y=0\/(1000<=y/\y<=9999):=by
  obtain ⟨r,_,rfl⟩:=h
  cases hb:r.2&&inI r.1 1000 9999
  . exact .inl rfl
  . right
    rw [Bool.and_eq_true] at hb
    have:=hb.2
    unfold inI at this
    rw [Bool.and_eq_true,decide_eq_true_eq,decide_eq_true_eq] at this
    exact this
theorem zNy {fu:Nat} {s:List UInt8} (hs:s.length<=1048576):∃ y,zCF fu s=some y/\YrI s y:=by
  obtain ⟨r,h1,h2⟩:=zOA (fu:=fu) hs
  refine ⟨_,?_,r,h2,rfl⟩
  unfold zCF
  rw [h1,zAA,zHL]
  generalize inI r.1 1000 9999=b
  cases r.2 <;> cases b <;> rfl
theorem zLl {fu:Nat} {s:List UInt8} (hf:1048577<=fu) (hs:s.length<=1048576):∃ y,zCG fu s=some y/\YrI s y:=by
  obtain ⟨r,h1,h2⟩:=zNP (fu:=fu) hf hs
  refine ⟨_,?_,r,h2,rfl⟩
  unfold zCG
  rw [h1,zAA,zLg]
  generalize inI r.1 1000 9999=b
  cases r.2 <;> cases b <;> rfl
theorem zOS {s:List UInt8} (hs:s.length<=1048576):∃ y:Int,(y=0\/(1000<=y/\y<=9999))/\YrI s y/\∀ fu,1048577<=fu->zCF fu s=some y/\zCG fu s=some y:=by
  obtain ⟨y,h1,h2⟩:=zLl (fu:=1048577) (Nat.le_refl _) hs
  refine ⟨y,h2.range,h2,fun fu hf=>?_⟩
  obtain ⟨a,a1,a2⟩:=zNy (fu:=fu) hs
  obtain ⟨b,b1,b2⟩:=zLl (fu:=fu) hf hs
  rw [a1,b1,a2.one h2,b2.one h2]
  exact ⟨rfl,rfl⟩
end Go.Proofs.YtldppodfhabkjaaGreatDoor
