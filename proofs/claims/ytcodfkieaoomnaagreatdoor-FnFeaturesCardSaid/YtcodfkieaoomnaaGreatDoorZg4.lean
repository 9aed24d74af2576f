/- Own texts laid together. No statement of the seat is proved here. -/
import Derived.Test.YtcodfkieaoomnaaGreatDoorZg3
namespace Go.Proofs.YtcodfkieaoomnaaGreatDoor
open Go.RowKit
set_option linter.unusedVariables false
open _root_.Go.Proofs.Tryz
set_option maxRecDepth 100000
set_option maxHeartbeats 4000000
def zEd (fu:Nat) (p0:zAE):Option (zAI × zAI × zAE):=
 cl true (zE6 fu p0) fun x7=>
 cl true (zDW fu x7.2 3) fun x19=>
 bif x19.1 then (
 cl true (zEJ fu x7.1) fun x22=>
 cl true (zDW fu x19.2 2) fun x36=>
 bd (x36.1&&(decide (0<(x22.2.2.2.length:Int)))) fun x40=>
 bif x40 then (
 cl true (zDc fu x36.2) fun x50=>
 ck (inR 0 x22.2.2.2.length) <|
 some (x7.1,(x22.1,x22.2.1,x22.2.2.1,(x22.2.2.2.set (0:Int).toNat x50.1)),x50.2)
 ) else (
 some (x7.1,x22,x36.2)
 )
 ) else (
 cl true (zE6 fu x19.2) fun x73=>
 some (x7.1,x73.1,x73.2)
 )
theorem zId {fu : Nat} {Aq : Av} {p0 : zAE} {r : zAI × zAI × zAE} (c : zEd fu p0 = some r) {w : World} {v0 : Value} {b0 B0 : Nat} (d : AvOK Aq w) (h0 : v0 = .pointer (some ⟨b0, 0, none⟩)) (hO0 : IniOK [ob (.pointer (some ⟨b0, 0, none⟩)) (.box B0 154 zA1 p0)] Aq w) :
 Calls prog 124 #[v0] w fun e w'=>∃ v,e = .returned v∧(∃ (A1:Av),GPost (subS Aq (zA9 (.pointer (some ⟨b0,0,none⟩)))) (zA9 (.pointer (some ⟨b0,0,none⟩))) w [ob (.pointer (some ⟨b0,0,none⟩)) (.box B0 154 zA1 r.2.2)] A1 w'∧(Fact.tup2 (.rep zA0 A1 r.1) (.rep zA0 A1 r.2.1)).ok v w'):=by
 unfold zEd at c
 obtain ⟨w0,hw0⟩:∃ w0,w0=w:=⟨_,Z⟩
 have j:Ch (zA9 (.pointer (some ⟨b0,0,none⟩))) w0 w:=hw0 ▸ Ch.refl _ _
 obtain ⟨A0,hA0e⟩:∃ A0,A0=subS Aq (zA9 (.pointer (some ⟨b0,0,none⟩))):=⟨_,Z⟩
 have C:∀ b o,A0 b o→b<w0.heap.size:=fun b o h=>hw0 ▸ d b o (hA0e ▸ h:subS Aq _ b o).1
 have K:∀ b o,A0 b o→¬ (zA9 (.pointer (some ⟨b0,0,none⟩))) b:=fun b o h=>(hA0e ▸ h:subS Aq _ b o).2
 have hA00:AvOK A0 w0:=C
 rw [show GPost (subS Aq (zA9 (.pointer (some ⟨b0,0,none⟩)))) (zA9 (.pointer (some ⟨b0,0,none⟩))) w=GPost A0 (zA9 (.pointer (some ⟨b0,0,none⟩))) w0 from by rw [hA0e,hw0]]
 obtain ⟨A,hAe⟩:∃ A,A=Aq:=⟨_,Z⟩
 have B:∀ b o,A0 b o→A b o:=fun b o h=>hAe ▸ (hA0e ▸ h:subS Aq _ b o).1
 replace d:AvOK A w:=hAe ▸ d
 have q:IniOK [ob (.pointer (some ⟨b0,0,none⟩)) (.box B0 154 zA1 p0)] A w:=hAe ▸ hO0
 clear hA0e hO0
 refine zA3 [.cell 2 51,.cell 3 51] func124 ntmps124 (by decide) Z Z (nb Z) ?_
 intro R hR
 replace h0:R 0 = .pointer (some ⟨b0,0,none⟩):=(hR 0 _ Z).trans h0
 refine zQC [ob (.pointer (some ⟨b0,0,none⟩)) (.box B0 154 zA1 p0)] (⟨_,true,[],some (.box w0.heap.size 51 zA0 (0,(0,(0,([]:List (List UInt8)))))),true,fun A=>.any⟩::⟨_,true,[],some (.box w0.heap.size 51 zA0 (0,(0,(0,([]:List (List UInt8)))))),true,fun A=>.any⟩::[]) (ua (ua (UAll.nil))) q d ?_ ?_
 exact rc (OblR.made _ Z Z Z Z fun V Q U O D=>by exact zDH zeroValue51 (fun A w=>zCP zAY (zCP zAY (zCP zAY zDu))) (Nat.le_trans j.size O.ch.size))<|rc (OblR.made _ Z Z Z Z fun V Q U O D=>by exact zDH zeroValue51 (fun A w=>zCP zAY (zCP zAY (zCP zAY zDu))) (Nat.le_trans j.size O.ch.size))<|rz
 intro done ρ σ A R w y s
 replace h0:=k1 s.rg h0
 have z1:=s.inivR 0 Z
 obtain ⟨b2_1,e_b2_1⟩:=s.boxv y 1 Z Z
 have h2:=s.ov y 1 0 e_b2_1
 obtain ⟨b3_2,e_b3_2⟩:=s.boxv y 2 Z Z
 have h3:=s.ov y 2 1 e_b3_2
 replace B:=s.lowK B C K (q.geK (⟨.inr (fun k h=>.inr h),N⟩))
 replace j:Ch (zA9 (.pointer (some ⟨b0,0,none⟩))) w0 w:=j.tr s.ch (q.geK (⟨.inr (fun k h=>.inr h),N⟩))
 replace q:=s.left y [(0,ob (.pointer (some ⟨b0,0,none⟩)) (.box B0 154 zA1 p0)),(1,ob (.pointer (some ⟨b2_1,0,none⟩)) (.box w0.heap.size 51 zA0 (0,(0,(0,([]:List (List UInt8))))))),(2,ob (.pointer (some ⟨b3_2,0,none⟩)) (.box w0.heap.size 51 zA0 (0,(0,(0,([]:List (List UInt8)))))))] ⟨Z,Z,z1,Z,Z,⟨Z,Z,e_b2_1,Z,Z,⟨Z,Z,e_b3_2,Z,Z,N⟩⟩⟩
 replace d:=s.avok
 refine zQ9 ?_
 refine SG.of ?_
 refine SG.textR [ob (.pointer (some ⟨b0,0,none⟩)) (.box B0 154 zA1 p0),ob (.pointer (some ⟨b2_1,0,none⟩)) (.box w0.heap.size 51 zA0 (0,(0,(0,([]:List (List UInt8)))))),ob (.pointer (some ⟨b3_2,0,none⟩)) (.box w0.heap.size 51 zA0 (0,(0,(0,([]:List (List UInt8))))))] (rR (.pointer (some ⟨b0,0,none⟩))::[]) 1 Z Z Z (by kernel_rfl) (by kernel_rfl) (Wf.mk' (by kernel_rfl) (ur (UAll.nil)) (by kernel_rfl) (by kernel_rfl)) q d (N) ?_ ?_
 exact rm h0<|rz
 intro done ρ σ A R w y s
 obtain ⟨h0,h2,h3⟩:=k3 s.rg h0 h2 h3
 have z4:=s.inivR 0 Z
 have z5:=s.inivR 1 Z
 have z6:=s.inivR 2 Z
 have h6:=s.r y 0 Z
 replace B:=s.lowK B C K (q.geK (⟨.inr (fun k h=>.inr h),⟨.inl Z,⟨.inl Z,N⟩⟩⟩))
 replace j:Ch (zA9 (.pointer (some ⟨b0,0,none⟩))) w0 w:=j.tr s.ch (q.geK (⟨.inr (fun k h=>.inr h),⟨.inl Z,⟨.inl Z,N⟩⟩⟩))
 replace q:=s.left y [(0,ob (.pointer (some ⟨b0,0,none⟩)) (.box B0 154 zA1 p0)),(1,ob (.pointer (some ⟨b2_1,0,none⟩)) (.box w0.heap.size 51 zA0 (0,(0,(0,([]:List (List UInt8))))))),(2,ob (.pointer (some ⟨b3_2,0,none⟩)) (.box w0.heap.size 51 zA0 (0,(0,(0,([]:List (List UInt8)))))))] ⟨Z,Z,z4,Z,Z,⟨Z,Z,z5,Z,Z,⟨Z,Z,z6,Z,Z,N⟩⟩⟩
 replace d:=s.avok
 obtain ⟨x7,q8,c⟩:=zA4 c
 have hFz:w0.heap.size≤w.heap.size:=j.size
 refine zQK 7 Z Z Z Z (zB1 call176 (zGM (q8 Z) d h6 (q.sub [(0,ob (.pointer (some ⟨b0,0,none⟩)) (.box B0 154 zA1 p0))] ⟨Z,Z,N⟩))) ?_
 rintro v_ w ⟨A,hG1,hv⟩ R n hd
 have hst:=zAy d hG1 (q.ok 0 _ Z).2
 replace B:∀ b o,A0 b o→A b o:=zAs B C K (q.geK (⟨.inr (fun k h=>.inr h),⟨.inl Z,⟨.inl Z,N⟩⟩⟩)) 0 Z hG1
 replace j:Ch (zA9 (.pointer (some ⟨b0,0,none⟩))) w0 w:=j.tr hG1.ch (fun k hk=>(q.geK (⟨.inr (fun k h=>.inr h),⟨.inl Z,⟨.inl Z,N⟩⟩⟩)) k ⟨0,_,Z,hk⟩)
 replace q:=zQ1 q d 0 Z hG1
 replace d:=hG1.avok
 replace q:IniOK [ob (.pointer (some ⟨b0,0,none⟩)) (.box B0 154 zA1 x7.2),ob (.pointer (some ⟨b2_1,0,none⟩)) (.box w0.heap.size 51 zA0 (0,(0,(0,([]:List (List UInt8)))))),ob (.pointer (some ⟨b3_2,0,none⟩)) (.box w0.heap.size 51 zA0 (0,(0,(0,([]:List (List UInt8))))))] A w:=q
 replace h0:=(n 0 Z).trans h0
 replace h2:=(n 2 Z).trans h2
 replace h3:=(n 3 Z).trans h3
 replace h6:=(n 6 Z).trans h6
 obtain ⟨u9,h7,f_u9⟩:∃ u,R 7=u∧Rep zA0 A w u x7.1:=⟨_,Z,hd ▸ hv⟩
 clear hFz hG1 hv n hd
 refine SG.textR [ob (.pointer (some ⟨b0,0,none⟩)) (.box B0 154 zA1 x7.2),ob (.pointer (some ⟨b2_1,0,none⟩)) (.box w0.heap.size 51 zA0 (0,(0,(0,([]:List (List UInt8)))))),ob (.pointer (some ⟨b3_2,0,none⟩)) (.box w0.heap.size 51 zA0 (0,(0,(0,([]:List (List UInt8))))))] (rR (.pointer (some ⟨b0,0,none⟩))::rR u9::⟨_,true,[],some (.box w0.heap.size 51 zA0 (0,(0,(0,([]:List (List UInt8)))))),true,fun A=>.any⟩::⟨_,true,[5],some (.box w0.heap.size 51 zA0 x7.1),false,fun A=>.any⟩::[]) 4 Z Z Z (by kernel_rfl) (by kernel_rfl) (Wf.mk' (by kernel_rfl) (ur (ur (ua (ua (UAll.nil))))) (by kernel_rfl) (by kernel_rfl)) q d (⟨⟨Z,Z,Z,h6⟩,⟨⟨Z,Z,Z,h7⟩,N⟩⟩) ?_ ?_
 exact rc (OblR.made _ Z Z Z Z fun V Q U O D=>by exact zDH zeroValue51 (fun A w=>zCP zAY (zCP zAY (zCP zAY zDu))) (Nat.le_trans j.size O.ch.size))<|rc (OblR.took 5 _ _ Z Z Z Z Z fun V Q U O D u X Y J L M=>by have a1:Q 7=u9:=D.g 1 Z;have ra1:=(f_u9.stp O.stp).eq a1;obtain ⟨b,hb,hB',hbx⟩:=X;have hop':=L _ _ Z Z Z Z;exact zB8 ra1 (hop'.symm.trans hb) hb ⟨b,hb,hB',hbx⟩ Y (FldS.id _) sizeOf51 Z)<|rz
 intro done ρ σ A R w y s
 obtain ⟨h0,h2,h3⟩:=k3 s.rg h0 h2 h3
 have z10:=s.inivR 0 Z
 have z11:=s.inivR 1 Z
 have z12:=s.inivR 2 Z
 obtain ⟨b4_12,e_b4_12⟩:=s.boxv y 6 Z Z
 have z14:=(s.opnR y 6 3 Z Z Z Z Z).symm.trans e_b4_12
 have h4:=s.ov y 5 2 z14
 replace B:=s.lowK B C K (q.geK (⟨.inr (fun k h=>.inr h),⟨.inl Z,⟨.inl Z,N⟩⟩⟩))
 replace j:Ch (zA9 (.pointer (some ⟨b0,0,none⟩))) w0 w:=j.tr s.ch (q.geK (⟨.inr (fun k h=>.inr h),⟨.inl Z,⟨.inl Z,N⟩⟩⟩))
 replace q:=s.left y [(0,ob (.pointer (some ⟨b0,0,none⟩)) (.box B0 154 zA1 x7.2)),(1,ob (.pointer (some ⟨b2_1,0,none⟩)) (.box w0.heap.size 51 zA0 (0,(0,(0,([]:List (List UInt8))))))),(2,ob (.pointer (some ⟨b3_2,0,none⟩)) (.box w0.heap.size 51 zA0 (0,(0,(0,([]:List (List UInt8))))))),(6,ob (.pointer (some ⟨b4_12,0,none⟩)) (.box w0.heap.size 51 zA0 x7.1))] ⟨Z,Z,z10,Z,Z,⟨Z,Z,z11,Z,Z,⟨Z,Z,z12,Z,Z,⟨Z,Z,e_b4_12,Z,Z,N⟩⟩⟩⟩
 replace d:=s.avok
 refine zQJ Z ?_
 refine zQ9 ?_
 refine zQ9 ?_
 refine SG.of ?_
 refine SG.textR [ob (.pointer (some ⟨b0,0,none⟩)) (.box B0 154 zA1 x7.2),ob (.pointer (some ⟨b2_1,0,none⟩)) (.box w0.heap.size 51 zA0 (0,(0,(0,([]:List (List UInt8)))))),ob (.pointer (some ⟨b3_2,0,none⟩)) (.box w0.heap.size 51 zA0 (0,(0,(0,([]:List (List UInt8)))))),ob (.pointer (some ⟨b4_12,0,none⟩)) (.box w0.heap.size 51 zA0 x7.1)] (rR (.pointer (some ⟨b0,0,none⟩))::[]) 1 Z Z Z (by kernel_rfl) (by kernel_rfl) (Wf.mk' (by kernel_rfl) (ur (UAll.nil)) (by kernel_rfl) (by kernel_rfl)) q d (N) ?_ ?_
 exact rm h0<|rz
 intro done ρ σ A R w y s
 obtain ⟨h0,h2,h3,h4⟩:=k4 s.rg h0 h2 h3 h4
 have z15:=s.inivR 0 Z
 have z16:=s.inivR 1 Z
 have z17:=s.inivR 2 Z
 have z18:=s.inivR 3 Z
 have h8:=s.r y 0 Z
 replace B:=s.lowK B C K (q.geK (⟨.inr (fun k h=>.inr h),⟨.inl Z,⟨.inl Z,⟨.inl Z,N⟩⟩⟩⟩))
 replace j:Ch (zA9 (.pointer (some ⟨b0,0,none⟩))) w0 w:=j.tr s.ch (q.geK (⟨.inr (fun k h=>.inr h),⟨.inl Z,⟨.inl Z,⟨.inl Z,N⟩⟩⟩⟩))
 replace q:=s.left y [(0,ob (.pointer (some ⟨b0,0,none⟩)) (.box B0 154 zA1 x7.2)),(1,ob (.pointer (some ⟨b2_1,0,none⟩)) (.box w0.heap.size 51 zA0 (0,(0,(0,([]:List (List UInt8))))))),(2,ob (.pointer (some ⟨b3_2,0,none⟩)) (.box w0.heap.size 51 zA0 (0,(0,(0,([]:List (List UInt8))))))),(3,ob (.pointer (some ⟨b4_12,0,none⟩)) (.box w0.heap.size 51 zA0 x7.1))] ⟨Z,Z,z15,Z,Z,⟨Z,Z,z16,Z,Z,⟨Z,Z,z17,Z,Z,⟨Z,Z,z18,Z,Z,N⟩⟩⟩⟩
 replace d:=s.avok
 obtain ⟨x19,q20,c⟩:=zA4 c
 have hFz:w0.heap.size≤w.heap.size:=j.size
 refine zQK 9 Z Z Z Z (zB1 call177 (zFu (q20 Z) d h8 (q.sub [(0,ob (.pointer (some ⟨b0,0,none⟩)) (.box B0 154 zA1 x7.2))] ⟨Z,Z,N⟩) Z)) ?_
 rintro v_ w ⟨A,hG1,hv⟩ R n hd
 have hst:=zAy d hG1 (q.ok 0 _ Z).2
 replace B:∀ b o,A0 b o→A b o:=zAs B C K (q.geK (⟨.inr (fun k h=>.inr h),⟨.inl Z,⟨.inl Z,⟨.inl Z,N⟩⟩⟩⟩)) 0 Z hG1
 replace j:Ch (zA9 (.pointer (some ⟨b0,0,none⟩))) w0 w:=j.tr hG1.ch (fun k hk=>(q.geK (⟨.inr (fun k h=>.inr h),⟨.inl Z,⟨.inl Z,⟨.inl Z,N⟩⟩⟩⟩)) k ⟨0,_,Z,hk⟩)
 replace q:=zQ1 q d 0 Z hG1
 replace d:=hG1.avok
 replace q:IniOK [ob (.pointer (some ⟨b0,0,none⟩)) (.box B0 154 zA1 x19.2),ob (.pointer (some ⟨b2_1,0,none⟩)) (.box w0.heap.size 51 zA0 (0,(0,(0,([]:List (List UInt8)))))),ob (.pointer (some ⟨b3_2,0,none⟩)) (.box w0.heap.size 51 zA0 (0,(0,(0,([]:List (List UInt8)))))),ob (.pointer (some ⟨b4_12,0,none⟩)) (.box w0.heap.size 51 zA0 x7.1)] A w:=q
 replace h0:=(n 0 Z).trans h0
 replace h2:=(n 2 Z).trans h2
 replace h3:=(n 3 Z).trans h3
 replace h4:=(n 4 Z).trans h4
 replace h8:=(n 8 Z).trans h8
 have h9:R 9 = .bool x19.1:=hd.trans hv
 clear hFz hG1 hv n hd
 refine zQJ Z ?_
 refine zQ2 x19.1 h9 (fun c21=>?_) (fun c21=>?_)
 have c:=zAO c21 c
 obtain ⟨x22,q23,c⟩:=zA4 c
 refine zQC [ob (.pointer (some ⟨b0,0,none⟩)) (.box B0 154 zA1 x19.2),ob (.pointer (some ⟨b2_1,0,none⟩)) (.box w0.heap.size 51 zA0 (0,(0,(0,([]:List (List UInt8)))))),ob (.pointer (some ⟨b3_2,0,none⟩)) (.box w0.heap.size 51 zA0 (0,(0,(0,([]:List (List UInt8)))))),ob (.pointer (some ⟨b4_12,0,none⟩)) (.box w0.heap.size 51 zA0 x7.1)] ((rF fun A=>.rep zA0 A x7.1)::⟨_,true,[],some (trR (geB w0.heap.size) (oPr (oRd (eInt .i64)) (oPr (oRd (eInt .i64)) (oPr (oRd (eInt .i64)) (oSl 9 (oRd eStr))))) x22 []),true,fun A=>.any⟩::⟨_,true,[],some (trR (geB w0.heap.size) (oPt 51 (oPr (oRd (eInt .i64)) (oPr (oRd (eInt .i64)) (oPr (oRd (eInt .i64)) (oSl 9 (oRd eStr)))))) (0,(0,(0,([]:List (List UInt8))))) []),true,fun A=>.any⟩::⟨_,true,[6,5],some (trR (geB w0.heap.size) (oPt 51 (oPr (oRd (eInt .i64)) (oPr (oRd (eInt .i64)) (oPr (oRd (eInt .i64)) (oSl 9 (oRd eStr)))))) x22 []),false,fun A=>.any⟩::[]) (up (ua (ua (ua (UAll.nil))))) q d ?_ ?_
 exact rp (fun V Q U O D=>(zAC (O.rd 3 _ Z Z) ((O.old 4 Z).trans h4) (Fld.id _) Z isAgg51 sizeOf51))<|rc (zQG _ Z Z Z Z fun V Q U O D=>by have a0:Rep zA0 V U (Q 10) x7.1:=D.g 0 Z;exact zLb call178 (zHr (q23 Z) O.av a0) (fun k hk=>Nat.le_trans (Nat.le_trans j.size O.ch.size) hk))<|rc (zQG _ Z Z Z Z fun V Q U O D=>by exact zFm zeroValue51 (fun A w=>zFr (zEP zAY) (zFr (zEP zAY) (zFr (zEP zAY) zIW))) (fun k hk=>Nat.le_trans (Nat.le_trans j.size O.ch.size) hk))<|rc (zQH 6 [5] _ Z Z Z Z fun V Q U O D ρ σ X Y J L M hdd=>by have k1:=X 6 (.head _) _ Z;exact zGL Z (zAM k1.2.2).ptr (X 5 (.tail _ (.head _)) _ Z).2.2.1 (L 5 (.tail _ (.head _)) _ _ Z Z Z Z).symm (L 6 (.head _) _ _ Z Z Z Z).symm Y hdd k1.2.1 (X 5 (.tail _ (.head _)) _ Z).2.1 sizeOf51 (fun _ _ _ h=>h))<|rz
 intro done ρ σ A R w y s
 obtain ⟨h0,h2,h3,h4⟩:=k4 s.rg h0 h2 h3 h4
 have z24:=s.inivR 0 Z
 have z25:=s.inivR 1 Z
 have z26:=s.inivR 2 Z
 have z27:=s.inivR 3 Z
 obtain ⟨u28,e_u28⟩:∃ u,ρ 7=u:=⟨_,Z⟩
 have z29:=(s.opnR y 7 3 Z Z Z Z Z).symm.trans e_u28
 have h5:=s.ov y 6 2 z29
 obtain ⟨S30,eS_u28⟩:∃ S,σ 7=S:=⟨_,Z⟩
 replace B:=s.lowK B C K (q.geK (⟨.inr (fun k h=>.inr h),⟨.inl Z,⟨.inl Z,⟨.inl Z,N⟩⟩⟩⟩))
 replace j:Ch (zA9 (.pointer (some ⟨b0,0,none⟩))) w0 w:=j.tr s.ch (q.geK (⟨.inr (fun k h=>.inr h),⟨.inl Z,⟨.inl Z,⟨.inl Z,N⟩⟩⟩⟩))
 replace q:=s.left y [(0,ob (.pointer (some ⟨b0,0,none⟩)) (.box B0 154 zA1 x19.2)),(1,ob (.pointer (some ⟨b2_1,0,none⟩)) (.box w0.heap.size 51 zA0 (0,(0,(0,([]:List (List UInt8))))))),(2,ob (.pointer (some ⟨b3_2,0,none⟩)) (.box w0.heap.size 51 zA0 (0,(0,(0,([]:List (List UInt8))))))),(3,ob (.pointer (some ⟨b4_12,0,none⟩)) (.box w0.heap.size 51 zA0 x7.1)),(7,⟨u28,S30,trR (geB w0.heap.size) (oPt 51 (oPr (oRd (eInt .i64)) (oPr (oRd (eInt .i64)) (oPr (oRd (eInt .i64)) (oSl 9 (oRd eStr)))))) x22 []⟩)] ⟨Z,Z,z24,Z,Z,⟨Z,Z,z25,Z,Z,⟨Z,Z,z26,Z,Z,⟨Z,Z,z27,Z,Z,⟨Z,Z,e_u28,eS_u28,Z,N⟩⟩⟩⟩⟩
 replace d:=s.avok
 refine zQ9 ?_
 refine zQ9 ?_
 refine SG.of ?_
 refine SG.textR [ob (.pointer (some ⟨b0,0,none⟩)) (.box B0 154 zA1 x19.2),ob (.pointer (some ⟨b2_1,0,none⟩)) (.box w0.heap.size 51 zA0 (0,(0,(0,([]:List (List UInt8)))))),ob (.pointer (some ⟨b3_2,0,none⟩)) (.box w0.heap.size 51 zA0 (0,(0,(0,([]:List (List UInt8)))))),ob (.pointer (some ⟨b4_12,0,none⟩)) (.box w0.heap.size 51 zA0 x7.1),⟨u28,S30,trR (geB w0.heap.size) (oPt 51 (oPr (oRd (eInt .i64)) (oPr (oRd (eInt .i64)) (oPr (oRd (eInt .i64)) (oSl 9 (oRd eStr)))))) x22 []⟩] (rR (.pointer (some ⟨b0,0,none⟩))::[]) 1 Z Z Z (by kernel_rfl) (by kernel_rfl) (Wf.mk' (by kernel_rfl) (ur (UAll.nil)) (by kernel_rfl) (by kernel_rfl)) q d (N) ?_ ?_
 exact rm h0<|rz
 intro done ρ σ A R w y s
 obtain ⟨h0,h2,h3,h4,h5⟩:=k5 s.rg h0 h2 h3 h4 h5
 have z31:=s.inivR 0 Z
 have z32:=s.inivR 1 Z
 have z33:=s.inivR 2 Z
 have z34:=s.inivR 3 Z
 have z35:=s.inivR 4 Z
 have eS_u28:=s.inisR 4 Z
 have h12:=s.r y 0 Z
 replace B:=s.lowK B C K (q.geK (⟨.inr (fun k h=>.inr h),⟨.inl Z,⟨.inl Z,⟨.inl Z,⟨fun _ h=>.inl h,N⟩⟩⟩⟩⟩))
 replace j:Ch (zA9 (.pointer (some ⟨b0,0,none⟩))) w0 w:=j.tr s.ch (q.geK (⟨.inr (fun k h=>.inr h),⟨.inl Z,⟨.inl Z,⟨.inl Z,⟨fun _ h=>.inl h,N⟩⟩⟩⟩⟩))
 replace q:=s.left y [(0,ob (.pointer (some ⟨b0,0,none⟩)) (.box B0 154 zA1 x19.2)),(1,ob (.pointer (some ⟨b2_1,0,none⟩)) (.box w0.heap.size 51 zA0 (0,(0,(0,([]:List (List UInt8))))))),(2,ob (.pointer (some ⟨b3_2,0,none⟩)) (.box w0.heap.size 51 zA0 (0,(0,(0,([]:List (List UInt8))))))),(3,ob (.pointer (some ⟨b4_12,0,none⟩)) (.box w0.heap.size 51 zA0 x7.1)),(4,⟨u28,S30,trR (geB w0.heap.size) (oPt 51 (oPr (oRd (eInt .i64)) (oPr (oRd (eInt .i64)) (oPr (oRd (eInt .i64)) (oSl 9 (oRd eStr)))))) x22 []⟩)] ⟨Z,Z,z31,Z,Z,⟨Z,Z,z32,Z,Z,⟨Z,Z,z33,Z,Z,⟨Z,Z,z34,Z,Z,⟨Z,Z,z35,eS_u28,Z,N⟩⟩⟩⟩⟩
 replace d:=s.avok
 obtain ⟨x36,q37,c⟩:=zA4 c
 have hFz:w0.heap.size≤w.heap.size:=j.size
 refine zQK 13 Z Z Z Z (zB1 call177 (zFu (q37 Z) d h12 (q.sub [(0,ob (.pointer (some ⟨b0,0,none⟩)) (.box B0 154 zA1 x19.2))] ⟨Z,Z,N⟩) Z)) ?_
 rintro v_ w ⟨A,hG1,hv⟩ R n hd
 have hst:=zAy d hG1 (q.ok 0 _ Z).2
 replace B:∀ b o,A0 b o→A b o:=zAs B C K (q.geK (⟨.inr (fun k h=>.inr h),⟨.inl Z,⟨.inl Z,⟨.inl Z,⟨fun _ h=>.inl h,N⟩⟩⟩⟩⟩)) 0 Z hG1
 replace j:Ch (zA9 (.pointer (some ⟨b0,0,none⟩))) w0 w:=j.tr hG1.ch (fun k hk=>(q.geK (⟨.inr (fun k h=>.inr h),⟨.inl Z,⟨.inl Z,⟨.inl Z,⟨fun _ h=>.inl h,N⟩⟩⟩⟩⟩)) k ⟨0,_,Z,hk⟩)
 replace q:=zQ1 q d 0 Z hG1
 replace d:=hG1.avok
 replace q:IniOK [ob (.pointer (some ⟨b0,0,none⟩)) (.box B0 154 zA1 x36.2),ob (.pointer (some ⟨b2_1,0,none⟩)) (.box w0.heap.size 51 zA0 (0,(0,(0,([]:List (List UInt8)))))),ob (.pointer (some ⟨b3_2,0,none⟩)) (.box w0.heap.size 51 zA0 (0,(0,(0,([]:List (List UInt8)))))),ob (.pointer (some ⟨b4_12,0,none⟩)) (.box w0.heap.size 51 zA0 x7.1),⟨u28,S30,trR (geB w0.heap.size) (oPt 51 (oPr (oRd (eInt .i64)) (oPr (oRd (eInt .i64)) (oPr (oRd (eInt .i64)) (oSl 9 (oRd eStr)))))) x22 []⟩] A w:=q
 replace h0:=(n 0 Z).trans h0
 replace h2:=(n 2 Z).trans h2
 replace h3:=(n 3 Z).trans h3
 replace h4:=(n 4 Z).trans h4
 replace h5:=(n 5 Z).trans h5
 replace h12:=(n 12 Z).trans h12
 have h13:R 13 = .bool x36.1:=hd.trans hv
 clear hFz hG1 hv n hd
 obtain ⟨h38,p_h38⟩:=((((((zAM (q.own 4 _ Z).2).ptr).snd Z).snd (zC7 _ _ _)).snd (zC7 _ _ _))).open1 Z
 replace q:IniOK [ob (.pointer (some ⟨b0,0,none⟩)) (.box B0 154 zA1 x36.2),ob (.pointer (some ⟨b2_1,0,none⟩)) (.box w0.heap.size 51 zA0 (0,(0,(0,([]:List (List UInt8)))))),ob (.pointer (some ⟨b3_2,0,none⟩)) (.box w0.heap.size 51 zA0 (0,(0,(0,([]:List (List UInt8)))))),ob (.pointer (some ⟨b4_12,0,none⟩)) (.box w0.heap.size 51 zA0 x7.1),⟨u28,S30,trR (geB w0.heap.size) (oPt 51 (oPr (oRd (eInt .i64)) (oPr (oRd (eInt .i64)) (oPr (oRd (eInt .i64)) (oSl 9 (oRd eStr)))))) x22 [((padd u28 3),[h38])]⟩] A w:=q.repin 4 Z (trP.pin p_h38)
 obtain ⟨x40,q41,c⟩:=zAD c
 refine SG.textR [ob (.pointer (some ⟨b0,0,none⟩)) (.box B0 154 zA1 x36.2),ob (.pointer (some ⟨b2_1,0,none⟩)) (.box w0.heap.size 51 zA0 (0,(0,(0,([]:List (List UInt8)))))),ob (.pointer (some ⟨b3_2,0,none⟩)) (.box w0.heap.size 51 zA0 (0,(0,(0,([]:List (List UInt8)))))),ob (.pointer (some ⟨b4_12,0,none⟩)) (.box w0.heap.size 51 zA0 x7.1),⟨u28,S30,trR (geB w0.heap.size) (oPt 51 (oPr (oRd (eInt .i64)) (oPr (oRd (eInt .i64)) (oPr (oRd (eInt .i64)) (oSl 9 (oRd eStr)))))) x22 [((padd u28 3),[h38])]⟩] (rR (.pointer (some ⟨b0,0,none⟩))::rB x36.1::rB x36.1::sR (true&&(x36.1==true)) (padd u28 3)::sR (true&&(x36.1==true)) h38::sI (true&&(x36.1==true)) (x22.2.2.2.length:Int)::sB (true&&(x36.1==true)) (decide (0<(x22.2.2.2.length:Int)))::rB x40::[]) 8 Z Z Z (by kernel_rfl) (by kernel_rfl) (Wf.mk' (by kernel_rfl) (ur (ur (ur (ur (ur (ur (ur (ur (UAll.nil))))))))) (by kernel_rfl) (by kernel_rfl)) q d (⟨⟨Z,Z,Z,h12⟩,⟨⟨Z,Z,Z,h13⟩,N⟩⟩) ?_ ?_
 exact rv<|rc (OblR.grd 2 true _ _ _ Z Z Z Z Z (fun _=>Z) Z Z fun G V Q U O D=>by have a0:Q 5=u28:=(O.old 5 Z).trans h5;exact zCy ((zAM (q.own 4 _ Z).2).ptr).ad a0 zBs sizeOf46 (by decide) Z)<|rc (OblR.grd 2 true _ _ _ Z Z Z Z Z (fun _=>Z) Z Z fun G V Q U O D=>by have a0:Q 15=(padd u28 3):=D 0 _ _ _ Z Z Z Z G;exact zB3 ((O.rdo 4 _ Z Z).2.2 _ (.head _)) a0 isAgg46 sizeOf46)<|rc (OblR.grd 2 true _ _ _ Z Z Z Z Z (fun _=>Z) Z Z fun G V Q U O D=>by have a0:Q 16=h38:=D 0 _ _ _ Z Z Z Z G;exact zIB (((((((zAM (q.own 4 _ Z).2).ptr).snd Z).snd (zC7 _ _ _)).snd (zC7 _ _ _))).pin ((q.own 4 _ Z).2.2 _ (.head _)) Z) a0 underlying46)<|rc (OblR.grd 2 true _ _ _ Z Z Z Z Z (fun _=>Z) Z Z fun G V Q U O D=>by have a0:Q 17 = .int .i64 (x22.2.2.2.length:Int):=D 0 _ _ _ Z Z Z Z G;exact zCM a0 Z)<|rp (fun V Q U O D=>zAF x36.1 (D.g 0 Z) (fun hc=>by have a1:Q 18 = .bool (decide (0<(x22.2.2.2.length:Int))):=D 1 _ _ _ Z Z Z Z (zAc Z (zAP hc));show _=Value.bool x40;rw [q41,hc];exact a1) (fun hc=>by show _=Value.bool x40;rw [q41,hc];exact Z))<|rz
 intro done ρ σ A R w y s
 obtain ⟨h0,h2,h3,h4,h5⟩:=k5 s.rg h0 h2 h3 h4 h5
 have z42:=s.inivR 0 Z
 have z43:=s.inivR 1 Z
 have z44:=s.inivR 2 Z
 have z45:=s.inivR 3 Z
 have z46:=s.inivR 4 Z
 have eS_u28:=s.inisR 4 Z
 have h19:=s.r y 7 Z
 replace B:=s.lowK B C K (q.geK (⟨.inr (fun k h=>.inr h),⟨.inl Z,⟨.inl Z,⟨.inl Z,⟨fun _ h=>.inl h,N⟩⟩⟩⟩⟩))
 replace j:Ch (zA9 (.pointer (some ⟨b0,0,none⟩))) w0 w:=j.tr s.ch (q.geK (⟨.inr (fun k h=>.inr h),⟨.inl Z,⟨.inl Z,⟨.inl Z,⟨fun _ h=>.inl h,N⟩⟩⟩⟩⟩))
 replace q:=s.left y [(0,ob (.pointer (some ⟨b0,0,none⟩)) (.box B0 154 zA1 x36.2)),(1,ob (.pointer (some ⟨b2_1,0,none⟩)) (.box w0.heap.size 51 zA0 (0,(0,(0,([]:List (List UInt8))))))),(2,ob (.pointer (some ⟨b3_2,0,none⟩)) (.box w0.heap.size 51 zA0 (0,(0,(0,([]:List (List UInt8))))))),(3,ob (.pointer (some ⟨b4_12,0,none⟩)) (.box w0.heap.size 51 zA0 x7.1)),(4,⟨u28,S30,trR (geB w0.heap.size) (oPt 51 (oPr (oRd (eInt .i64)) (oPr (oRd (eInt .i64)) (oPr (oRd (eInt .i64)) (oSl 9 (oRd eStr)))))) x22 [((padd u28 3),[h38])]⟩)] ⟨Z,Z,z42,Z,Z,⟨Z,Z,z43,Z,Z,⟨Z,Z,z44,Z,Z,⟨Z,Z,z45,Z,Z,⟨Z,Z,z46,eS_u28,Z,N⟩⟩⟩⟩⟩
 replace d:=s.avok
 replace q:IniOK [ob (.pointer (some ⟨b0,0,none⟩)) (.box B0 154 zA1 x36.2),ob (.pointer (some ⟨b2_1,0,none⟩)) (.box w0.heap.size 51 zA0 (0,(0,(0,([]:List (List UInt8)))))),ob (.pointer (some ⟨b3_2,0,none⟩)) (.box w0.heap.size 51 zA0 (0,(0,(0,([]:List (List UInt8)))))),ob (.pointer (some ⟨b4_12,0,none⟩)) (.box w0.heap.size 51 zA0 x7.1),⟨u28,S30,trR (geB w0.heap.size) (oPt 51 (oPr (oRd (eInt .i64)) (oPr (oRd (eInt .i64)) (oPr (oRd (eInt .i64)) (oSl 9 (oRd eStr)))))) x22 []⟩] A w:=q.repin 4 Z trP.nopin
 refine zQJ Z ?_
 refine zQ2 x40 h19 (fun c47=>?_) (fun c47=>?_)
 have c:=zAO c47 c
 obtain ⟨h48,p_h48⟩:=((((((zAM (q.own 4 _ Z).2).ptr).snd Z).snd (zC7 _ _ _)).snd (zC7 _ _ _))).open1 Z
 replace q:IniOK [ob (.pointer (some ⟨b0,0,none⟩)) (.box B0 154 zA1 x36.2),ob (.pointer (some ⟨b2_1,0,none⟩)) (.box w0.heap.size 51 zA0 (0,(0,(0,([]:List (List UInt8)))))),ob (.pointer (some ⟨b3_2,0,none⟩)) (.box w0.heap.size 51 zA0 (0,(0,(0,([]:List (List UInt8)))))),ob (.pointer (some ⟨b4_12,0,none⟩)) (.box w0.heap.size 51 zA0 x7.1),⟨u28,S30,trR (geB w0.heap.size) (oPt 51 (oPr (oRd (eInt .i64)) (oPr (oRd (eInt .i64)) (oPr (oRd (eInt .i64)) (oSl 9 (oRd eStr)))))) x22 [((padd u28 3),[h48])]⟩] A w:=q.repin 4 Z (trP.pin p_h48)
 obtain ⟨x50,q51,c⟩:=zA4 c
 obtain ⟨e52,c⟩:=zA5 c
 refine zQ6 [ob (.pointer (some ⟨b0,0,none⟩)) (.box B0 154 zA1 x36.2),ob (.pointer (some ⟨b2_1,0,none⟩)) (.box w0.heap.size 51 zA0 (0,(0,(0,([]:List (List UInt8)))))),ob (.pointer (some ⟨b3_2,0,none⟩)) (.box w0.heap.size 51 zA0 (0,(0,(0,([]:List (List UInt8)))))),ob (.pointer (some ⟨b4_12,0,none⟩)) (.box w0.heap.size 51 zA0 x7.1),⟨u28,S30,trR (geB w0.heap.size) (oPt 51 (oPr (oRd (eInt .i64)) (oPr (oRd (eInt .i64)) (oPr (oRd (eInt .i64)) (oSl 9 (oRd eStr)))))) x22 [((padd u28 3),[h48])]⟩] (rR (padd u28 3)::rR h48::rR (.pointer (some ⟨b0,0,none⟩))::⟨_,true,[0],some (.box B0 154 zA1 x50.2),false,fun A=>.rep eStr A x50.1⟩::rR (vptr h48 ((0:Int).toNat*1))::⟨_,true,[4],some (trR (geB w0.heap.size) (oPt 51 (oPr (oRd (eInt .i64)) (oPr (oRd (eInt .i64)) (oPr (oRd (eInt .i64)) (oSl 9 (oRd eStr)))))) (x22.1,x22.2.1,x22.2.2.1,(x22.2.2.2.set (0:Int).toNat x50.1)) []),false,fun A=>.any⟩::[]) (by kernel_rfl) (by kernel_rfl) (by kernel_rfl) (Wf.mk' (by kernel_rfl) (ur (ur (ur (up (ur (ua (UAll.nil))))))) (by kernel_rfl) (by kernel_rfl)) q d ?_ ?_
 exact rp (fun V Q U O D=>zCy ((zAM (q.own 4 _ Z).2).ptr).ad ((O.old 5 Z).trans h5) zBs sizeOf46 (by decide) Z)<|rp (fun V Q U O D=>zB3 ((O.rdo 4 _ Z Z).2.2 _ (.head _)) (D.g 0 Z) isAgg46 sizeOf46)<|rm h0<|rc (OblR.took 0 _ _ Z Z Z Z Z fun V Q U O D u X Y J L M=>by have a0:Q 22=(.pointer (some ⟨b0,0,none⟩)):=D.g 0 Z;have e0:=J _ Z;rw [e0] at X Y ⊢;exact zMJ call179 X Y O.av (fun s=>zFt (q51 Z) O.av a0 s))<|rp (fun V Q U O D=>zAH (((((((zAM (q.own 4 _ Z).2).ptr).snd Z).snd (zC7 _ _ _)).snd (zC7 _ _ _))).pin ((q.own 4 _ Z).2.2 _ (.head _)) Z) (D.g 0 Z) Z underlying46 sizeOf9 e52 Z)<|rc (zQI 4 _ _ Z Z Z Z Z fun V Q U O D u S X I Y J L M=>by have a0:Q 24=(vptr h48 ((0:Int).toNat*1)):=D.g 0 Z;have a1:Rep eStr V U (Q 23) x50.1:=D.g 1 Z;have e0:=(J _ Z).1;rw [e0] at I ⊢;exact zCV ((((((((zAM I.2).ptr).snd Z).snd (zC7 _ _ _)).snd (zC7 _ _ _))).pin (I.2.2 _ (.head _)) Z).elem e52 Z) a1 a0 Y I.1 sizeOf9 (fun _ _ _ h=>h))<|rz
 intro done ρ σ A R w y s
 obtain ⟨h2,h3,h4,h5⟩:=k4 s.rg h2 h3 h4 h5
 have z53:=s.inivR 0 Z
 have z54:=s.on y 8 3 Z Z Z Z Z z53
 have z55:=s.inivR 1 Z
 have z56:=s.inivR 2 Z
 have z57:=s.inivR 3 Z
 have z58:=s.inivR 4 Z
 have z59:=s.on y 10 5 Z Z Z Z Z z58
 obtain ⟨S60,eS_u28⟩:∃ S,σ 10=S:=⟨_,Z⟩
 replace B:=s.lowK B C K (q.geK (⟨.inr (fun k h=>.inr h),⟨.inl Z,⟨.inl Z,⟨.inl Z,⟨fun _ h=>.inl h,N⟩⟩⟩⟩⟩))
 replace j:Ch (zA9 (.pointer (some ⟨b0,0,none⟩))) w0 w:=j.tr s.ch (q.geK (⟨.inr (fun k h=>.inr h),⟨.inl Z,⟨.inl Z,⟨.inl Z,⟨fun _ h=>.inl h,N⟩⟩⟩⟩⟩))
 replace q:=s.left y [(8,ob (.pointer (some ⟨b0,0,none⟩)) (.box B0 154 zA1 x50.2)),(1,ob (.pointer (some ⟨b2_1,0,none⟩)) (.box w0.heap.size 51 zA0 (0,(0,(0,([]:List (List UInt8))))))),(2,ob (.pointer (some ⟨b3_2,0,none⟩)) (.box w0.heap.size 51 zA0 (0,(0,(0,([]:List (List UInt8))))))),(3,ob (.pointer (some ⟨b4_12,0,none⟩)) (.box w0.heap.size 51 zA0 x7.1)),(10,⟨u28,S60,trR (geB w0.heap.size) (oPt 51 (oPr (oRd (eInt .i64)) (oPr (oRd (eInt .i64)) (oPr (oRd (eInt .i64)) (oSl 9 (oRd eStr)))))) (x22.1,x22.2.1,x22.2.2.1,(x22.2.2.2.set (0:Int).toNat x50.1)) []⟩)] ⟨Z,Z,z54,Z,Z,⟨Z,Z,z55,Z,Z,⟨Z,Z,z56,Z,Z,⟨Z,Z,z57,Z,Z,⟨Z,Z,z59,eS_u28,Z,N⟩⟩⟩⟩⟩
 replace d:=s.avok
 refine zQ9 ?_
 refine zQ6 [ob (.pointer (some ⟨b0,0,none⟩)) (.box B0 154 zA1 x50.2),ob (.pointer (some ⟨b2_1,0,none⟩)) (.box w0.heap.size 51 zA0 (0,(0,(0,([]:List (List UInt8)))))),ob (.pointer (some ⟨b3_2,0,none⟩)) (.box w0.heap.size 51 zA0 (0,(0,(0,([]:List (List UInt8)))))),ob (.pointer (some ⟨b4_12,0,none⟩)) (.box w0.heap.size 51 zA0 x7.1),⟨u28,S60,trR (geB w0.heap.size) (oPt 51 (oPr (oRd (eInt .i64)) (oPr (oRd (eInt .i64)) (oPr (oRd (eInt .i64)) (oSl 9 (oRd eStr)))))) (x22.1,x22.2.1,x22.2.2.1,(x22.2.2.2.set (0:Int).toNat x50.1)) []⟩] ((rF fun A=>.rep zA0 A x7.1)::⟨_,true,[4],some (.nul),false,fun A=>.rep zA0 A (x22.1,x22.2.1,x22.2.2.1,(x22.2.2.2.set (0:Int).toNat x50.1))⟩::⟨_,true,[1],some (.box w0.heap.size 51 zA0 x7.1),false,fun A=>.any⟩::⟨_,true,[2],some (.box w0.heap.size 51 zA0 (x22.1,x22.2.1,x22.2.2.1,(x22.2.2.2.set (0:Int).toNat x50.1))),false,fun A=>.any⟩::[]) (by kernel_rfl) (by kernel_rfl) (by kernel_rfl) (Wf.mk' (by kernel_rfl) (up (up (ua (ua (UAll.nil))))) (by kernel_rfl) (by kernel_rfl)) q d ?_ ?_
 exact rp (fun V Q U O D=>(zAC (O.rd 3 _ Z Z) ((O.old 4 Z).trans h4) (Fld.id _) Z isAgg51 sizeOf51))<|rc (zQI 4 .nul _ Z Z Z Z Z fun V Q U O D u S X I Y J L M=>by have a0:Q 5=u28:=(O.old 5 Z).trans h5;exact zF5 I.2 (a0.trans (J _ Z).1.symm) Y isAgg51 sizeOf51)<|rc (OblR.took 1 _ _ Z Z Z Z Z fun V Q U O D u X Y J L M=>by have a0:Q 2=(.pointer (some ⟨b2_1,0,none⟩)):=(O.old 2 Z).trans h2;have a1:Rep zA0 V U (Q 25) x7.1:=D.g 0 Z;exact zB8 a1 a0 (J _ Z) X Y (FldS.id _) sizeOf51 Z)<|rc (OblR.took 2 _ _ Z Z Z Z Z fun V Q U O D u X Y J L M=>by have a0:Q 3=(.pointer (some ⟨b3_2,0,none⟩)):=(O.old 3 Z).trans h3;have a1:Rep zA0 V U (Q 26) (x22.1,x22.2.1,x22.2.2.1,(x22.2.2.2.set (0:Int).toNat x50.1)):=D.g 0 Z;exact zB8 a1 a0 (J _ Z) X Y (FldS.id _) sizeOf51 Z)<|rz
 intro done ρ σ A R w y s
 obtain ⟨h2,h3⟩:=k2 s.rg h2 h3
 have z61:=s.inivR 0 Z
 have z62:=s.inivR 1 Z
 have z63:=s.on y 7 2 Z Z Z Z Z z62
 have z64:=s.inivR 2 Z
 have z65:=s.on y 8 3 Z Z Z Z Z z64
 have z66:=s.inivR 3 Z
 replace B:=s.lowK B C K (q.geK (⟨.inr (fun k h=>.inr h),⟨.inl Z,⟨.inl Z,⟨.inl Z,⟨fun _ h=>.inl h,N⟩⟩⟩⟩⟩))
 replace j:Ch (zA9 (.pointer (some ⟨b0,0,none⟩))) w0 w:=j.tr s.ch (q.geK (⟨.inr (fun k h=>.inr h),⟨.inl Z,⟨.inl Z,⟨.inl Z,⟨fun _ h=>.inl h,N⟩⟩⟩⟩⟩))
 replace q:=s.left y [(0,ob (.pointer (some ⟨b0,0,none⟩)) (.box B0 154 zA1 x50.2)),(7,ob (.pointer (some ⟨b2_1,0,none⟩)) (.box w0.heap.size 51 zA0 x7.1)),(8,ob (.pointer (some ⟨b3_2,0,none⟩)) (.box w0.heap.size 51 zA0 (x22.1,x22.2.1,x22.2.2.1,(x22.2.2.2.set (0:Int).toNat x50.1))))] ⟨Z,Z,z61,Z,Z,⟨Z,Z,z63,Z,Z,⟨Z,Z,z65,Z,Z,N⟩⟩⟩
 replace d:=s.avok
 refine HT.ret ?_
 obtain rfl:=si c
 obtain ⟨v_2,e_2,p_2⟩:=zDJ (q.ok 1 _ Z).1 h2 isAgg51 sizeOf51 (fun _ _ h=>h)
 obtain ⟨v_3,e_3,p_3⟩:=zDJ (q.ok 2 _ Z).1 h3 isAgg51 sizeOf51 (fun _ _ h=>h)
 replace q:IniOK [ob (.pointer (some ⟨b0,0,none⟩)) (.box B0 154 zA1 x50.2)] A w:=q.sub [(0,ob (.pointer (some ⟨b0,0,none⟩)) (.box B0 154 zA1 x50.2))] ⟨Z,Z,N⟩
 obtain ⟨A1,hA1,hG1⟩:=GPost.of q d B (q.geK (⟨.inr (fun k h=>.inr h),N⟩)) j
 exact ⟨.inr Z,[v_2,v_3],⟨e_2,⟨e_3,N⟩⟩,A1,hG1,⟨_,_,Z,p_2.down hA1,p_3.down hA1⟩⟩
 have c:=zAN c47 c
 refine zQA ?_
 refine zQ9 ?_
 refine zQ6 [ob (.pointer (some ⟨b0,0,none⟩)) (.box B0 154 zA1 x36.2),ob (.pointer (some ⟨b2_1,0,none⟩)) (.box w0.heap.size 51 zA0 (0,(0,(0,([]:List (List UInt8)))))),ob (.pointer (some ⟨b3_2,0,none⟩)) (.box w0.heap.size 51 zA0 (0,(0,(0,([]:List (List UInt8)))))),ob (.pointer (some ⟨b4_12,0,none⟩)) (.box w0.heap.size 51 zA0 x7.1),⟨u28,S30,trR (geB w0.heap.size) (oPt 51 (oPr (oRd (eInt .i64)) (oPr (oRd (eInt .i64)) (oPr (oRd (eInt .i64)) (oSl 9 (oRd eStr)))))) x22 []⟩] ((rF fun A=>.rep zA0 A x7.1)::⟨_,true,[4],some (.nul),false,fun A=>.rep zA0 A x22⟩::⟨_,true,[1],some (.box w0.heap.size 51 zA0 x7.1),false,fun A=>.any⟩::⟨_,true,[2],some (.box w0.heap.size 51 zA0 x22),false,fun A=>.any⟩::[]) (by kernel_rfl) (by kernel_rfl) (by kernel_rfl) (Wf.mk' (by kernel_rfl) (up (up (ua (ua (UAll.nil))))) (by kernel_rfl) (by kernel_rfl)) q d ?_ ?_
 exact rp (fun V Q U O D=>(zAC (O.rd 3 _ Z Z) ((O.old 4 Z).trans h4) (Fld.id _) Z isAgg51 sizeOf51))<|rc (zQI 4 .nul _ Z Z Z Z Z fun V Q U O D u S X I Y J L M=>by have a0:Q 5=u28:=(O.old 5 Z).trans h5;exact zF5 I.2 (a0.trans (J _ Z).1.symm) Y isAgg51 sizeOf51)<|rc (OblR.took 1 _ _ Z Z Z Z Z fun V Q U O D u X Y J L M=>by have a0:Q 2=(.pointer (some ⟨b2_1,0,none⟩)):=(O.old 2 Z).trans h2;have a1:Rep zA0 V U (Q 25) x7.1:=D.g 0 Z;exact zB8 a1 a0 (J _ Z) X Y (FldS.id _) sizeOf51 Z)<|rc (OblR.took 2 _ _ Z Z Z Z Z fun V Q U O D u X Y J L M=>by have a0:Q 3=(.pointer (some ⟨b3_2,0,none⟩)):=(O.old 3 Z).trans h3;have a1:Rep zA0 V U (Q 26) x22:=D.g 0 Z;exact zB8 a1 a0 (J _ Z) X Y (FldS.id _) sizeOf51 Z)<|rz
 intro done ρ σ A R w y s
 obtain ⟨h2,h3⟩:=k2 s.rg h2 h3
 have z67:=s.inivR 0 Z
 have z68:=s.inivR 1 Z
 have z69:=s.on y 7 2 Z Z Z Z Z z68
 have z70:=s.inivR 2 Z
 have z71:=s.on y 8 3 Z Z Z Z Z z70
 have z72:=s.inivR 3 Z
 replace B:=s.lowK B C K (q.geK (⟨.inr (fun k h=>.inr h),⟨.inl Z,⟨.inl Z,⟨.inl Z,⟨fun _ h=>.inl h,N⟩⟩⟩⟩⟩))
 replace j:Ch (zA9 (.pointer (some ⟨b0,0,none⟩))) w0 w:=j.tr s.ch (q.geK (⟨.inr (fun k h=>.inr h),⟨.inl Z,⟨.inl Z,⟨.inl Z,⟨fun _ h=>.inl h,N⟩⟩⟩⟩⟩))
 replace q:=s.left y [(0,ob (.pointer (some ⟨b0,0,none⟩)) (.box B0 154 zA1 x36.2)),(7,ob (.pointer (some ⟨b2_1,0,none⟩)) (.box w0.heap.size 51 zA0 x7.1)),(8,ob (.pointer (some ⟨b3_2,0,none⟩)) (.box w0.heap.size 51 zA0 x22))] ⟨Z,Z,z67,Z,Z,⟨Z,Z,z69,Z,Z,⟨Z,Z,z71,Z,Z,N⟩⟩⟩
 replace d:=s.avok
 refine HT.ret ?_
 obtain rfl:=si c
 obtain ⟨v_2,e_2,p_2⟩:=zDJ (q.ok 1 _ Z).1 h2 isAgg51 sizeOf51 (fun _ _ h=>h)
 obtain ⟨v_3,e_3,p_3⟩:=zDJ (q.ok 2 _ Z).1 h3 isAgg51 sizeOf51 (fun _ _ h=>h)
 replace q:IniOK [ob (.pointer (some ⟨b0,0,none⟩)) (.box B0 154 zA1 x36.2)] A w:=q.sub [(0,ob (.pointer (some ⟨b0,0,none⟩)) (.box B0 154 zA1 x36.2))] ⟨Z,Z,N⟩
 obtain ⟨A1,hA1,hG1⟩:=GPost.of q d B (q.geK (⟨.inr (fun k h=>.inr h),N⟩)) j
 exact ⟨.inr Z,[v_2,v_3],⟨e_2,⟨e_3,N⟩⟩,A1,hG1,⟨_,_,Z,p_2.down hA1,p_3.down hA1⟩⟩
 have c:=zAN c21 c
 refine zQA ?_
 refine zQ9 ?_
 obtain ⟨x73,q74,c⟩:=zA4 c
 refine zQ6 [ob (.pointer (some ⟨b0,0,none⟩)) (.box B0 154 zA1 x19.2),ob (.pointer (some ⟨b2_1,0,none⟩)) (.box w0.heap.size 51 zA0 (0,(0,(0,([]:List (List UInt8)))))),ob (.pointer (some ⟨b3_2,0,none⟩)) (.box w0.heap.size 51 zA0 (0,(0,(0,([]:List (List UInt8)))))),ob (.pointer (some ⟨b4_12,0,none⟩)) (.box w0.heap.size 51 zA0 x7.1)] ((rF fun A=>.rep zA0 A x7.1)::rR (.pointer (some ⟨b0,0,none⟩))::⟨_,true,[0],some (.box B0 154 zA1 x73.2),false,fun A=>.rep zA0 A x73.1⟩::⟨_,true,[1],some (.box w0.heap.size 51 zA0 x7.1),false,fun A=>.any⟩::⟨_,true,[2],some (.box w0.heap.size 51 zA0 x73.1),false,fun A=>.any⟩::[]) (by kernel_rfl) (by kernel_rfl) (by kernel_rfl) (Wf.mk' (by kernel_rfl) (up (ur (up (ua (ua (UAll.nil)))))) (by kernel_rfl) (by kernel_rfl)) q d ?_ ?_
 exact rp (fun V Q U O D=>(zAC (O.rd 3 _ Z Z) ((O.old 4 Z).trans h4) (Fld.id _) Z isAgg51 sizeOf51))<|rm h0<|rc (OblR.took 0 _ _ Z Z Z Z Z fun V Q U O D u X Y J L M=>by have a0:Q 28=(.pointer (some ⟨b0,0,none⟩)):=D.g 0 Z;have e0:=J _ Z;rw [e0] at X Y ⊢;exact zMJ call176 X Y O.av (fun s=>zGM (q74 Z) O.av a0 s))<|rc (OblR.took 1 _ _ Z Z Z Z Z fun V Q U O D u X Y J L M=>by have a0:Q 2=(.pointer (some ⟨b2_1,0,none⟩)):=(O.old 2 Z).trans h2;have a1:Rep zA0 V U (Q 27) x7.1:=D.g 0 Z;exact zB8 a1 a0 (J _ Z) X Y (FldS.id _) sizeOf51 Z)<|rc (OblR.took 2 _ _ Z Z Z Z Z fun V Q U O D u X Y J L M=>by have a0:Q 3=(.pointer (some ⟨b3_2,0,none⟩)):=(O.old 3 Z).trans h3;have a1:Rep zA0 V U (Q 29) x73.1:=D.g 0 Z;exact zB8 a1 a0 (J _ Z) X Y (FldS.id _) sizeOf51 Z)<|rz
 intro done ρ σ A R w y s
 obtain ⟨h2,h3⟩:=k2 s.rg h2 h3
 have z75:=s.inivR 0 Z
 have z76:=s.on y 6 2 Z Z Z Z Z z75
 have z77:=s.inivR 1 Z
 have z78:=s.on y 7 3 Z Z Z Z Z z77
 have z79:=s.inivR 2 Z
 have z80:=s.on y 8 4 Z Z Z Z Z z79
 have z81:=s.inivR 3 Z
 replace B:=s.lowK B C K (q.geK (⟨.inr (fun k h=>.inr h),⟨.inl Z,⟨.inl Z,⟨.inl Z,N⟩⟩⟩⟩))
 replace j:Ch (zA9 (.pointer (some ⟨b0,0,none⟩))) w0 w:=j.tr s.ch (q.geK (⟨.inr (fun k h=>.inr h),⟨.inl Z,⟨.inl Z,⟨.inl Z,N⟩⟩⟩⟩))
 replace q:=s.left y [(6,ob (.pointer (some ⟨b0,0,none⟩)) (.box B0 154 zA1 x73.2)),(7,ob (.pointer (some ⟨b2_1,0,none⟩)) (.box w0.heap.size 51 zA0 x7.1)),(8,ob (.pointer (some ⟨b3_2,0,none⟩)) (.box w0.heap.size 51 zA0 x73.1))] ⟨Z,Z,z76,Z,Z,⟨Z,Z,z78,Z,Z,⟨Z,Z,z80,Z,Z,N⟩⟩⟩
 replace d:=s.avok
 refine HT.ret ?_
 obtain rfl:=si c
 obtain ⟨v_2,e_2,p_2⟩:=zDJ (q.ok 1 _ Z).1 h2 isAgg51 sizeOf51 (fun _ _ h=>h)
 obtain ⟨v_3,e_3,p_3⟩:=zDJ (q.ok 2 _ Z).1 h3 isAgg51 sizeOf51 (fun _ _ h=>h)
 replace q:IniOK [ob (.pointer (some ⟨b0,0,none⟩)) (.box B0 154 zA1 x73.2)] A w:=q.sub [(0,ob (.pointer (some ⟨b0,0,none⟩)) (.box B0 154 zA1 x73.2))] ⟨Z,Z,N⟩
 obtain ⟨A1,hA1,hG1⟩:=GPost.of q d B (q.geK (⟨.inr (fun k h=>.inr h),N⟩)) j
 exact ⟨.inr Z,[v_2,v_3],⟨e_2,⟨e_3,N⟩⟩,A1,hG1,⟨_,_,Z,p_2.down hA1,p_3.down hA1⟩⟩
def zBi (fu:Nat) (p0:List Int):Option (zAI × zAI):=
 cl true (zEg fu p0) fun x5=>
 cl true (zEd fu x5) fun x8=>
 some (x8.1,x8.2.1)
theorem zFB {fu : Nat} {A0 : Av} {p0 : List Int} {r : zAI × zAI} (c : zBi fu p0 = some r) {w : World} {v0 : Value} (d : AvOK A0 w) (h0 : Rep (eSl (eInt .u8)) A0 w v0 p0) :
 Calls prog 55 #[v0] w fun e w'=>∃ v,e = .returned v∧((∃ a b,v = .tuple #[a,b]∧Rep zA0 A0 w' a r.1∧Rep zA0 A0 w' b r.2)∧Fr w w'):=by
 unfold zBi at c
 obtain ⟨w0,hw0,j,C⟩:=pw d
 have hA00:AvOK A0 w0:=C
 rw [fw hw0]
 obtain ⟨A,hAe,B,d,q⟩:=pa d
 refine zA3 [.cell 2 51,.cell 3 51] func55 ntmps55 (by decide) Z Z (nb Z) ?_
 intro R hR
 have f_v0:Rep (eSl (eInt .u8)) A w v0 p0:=hAe ▸ h0
 replace h0:R 0=v0:=hR 0 _ Z
 refine zQC [] (⟨_,true,[],some (.box w0.heap.size 51 zA0 (0,(0,(0,([]:List (List UInt8)))))),true,fun A=>.any⟩::⟨_,true,[],some (.box w0.heap.size 51 zA0 (0,(0,(0,([]:List (List UInt8)))))),true,fun A=>.any⟩::[]) (ua (ua (UAll.nil))) q d ?_ ?_
 exact rc (OblR.made _ Z Z Z Z fun V Q U O D=>by exact zDH zeroValue51 (fun A w=>zCP zAY (zCP zAY (zCP zAY zDu))) (Nat.le_trans j.size O.ch.size))<|rc (OblR.made _ Z Z Z Z fun V Q U O D=>by exact zDH zeroValue51 (fun A w=>zCP zAY (zCP zAY (zCP zAY zDu))) (Nat.le_trans j.size O.ch.size))<|rz
 intro done ρ σ A R w y s
 replace h0:=k1 s.rg h0
 obtain ⟨b2_0,e_b2_0⟩:=s.boxv y 0 Z Z
 have h2:=s.ov y 0 0 e_b2_0
 obtain ⟨b3_1,e_b3_1⟩:=s.boxv y 1 Z Z
 have h3:=s.ov y 1 1 e_b3_1
 replace f_v0:=f_v0.stp s.stp
 obtain ⟨B,j,d⟩:=s.s B C j q N
 replace q:=s.left y [(0,ob (.pointer (some ⟨b2_0,0,none⟩)) (.box w0.heap.size 51 zA0 (0,(0,(0,([]:List (List UInt8))))))),(1,ob (.pointer (some ⟨b3_1,0,none⟩)) (.box w0.heap.size 51 zA0 (0,(0,(0,([]:List (List UInt8)))))))] ⟨Z,Z,e_b2_0,Z,Z,⟨Z,Z,e_b3_1,Z,Z,N⟩⟩
 refine zQ9 ?_
 refine SG.of ?_
 refine SG.textR [ob (.pointer (some ⟨b2_0,0,none⟩)) (.box w0.heap.size 51 zA0 (0,(0,(0,([]:List (List UInt8)))))),ob (.pointer (some ⟨b3_1,0,none⟩)) (.box w0.heap.size 51 zA0 (0,(0,(0,([]:List (List UInt8))))))] (rR v0::[]) 1 Z Z Z (by kernel_rfl) (by kernel_rfl) (Wf.mk' (by kernel_rfl) (ur (UAll.nil)) (by kernel_rfl) (by kernel_rfl)) q d (N) ?_ ?_
 exact rm h0<|rz
 intro done ρ σ A R w y s
 obtain ⟨h2,h3⟩:=k2 s.rg h2 h3
 have z3:=s.inivR 0 Z
 have z4:=s.inivR 1 Z
 have h7:=s.r y 0 Z
 replace f_v0:=f_v0.stp s.stp
 obtain ⟨B,j,d⟩:=s.s B C j q ⟨Z,⟨Z,N⟩⟩
 replace q:=s.left y [(0,ob (.pointer (some ⟨b2_0,0,none⟩)) (.box w0.heap.size 51 zA0 (0,(0,(0,([]:List (List UInt8))))))),(1,ob (.pointer (some ⟨b3_1,0,none⟩)) (.box w0.heap.size 51 zA0 (0,(0,(0,([]:List (List UInt8)))))))] ⟨Z,Z,z3,Z,Z,⟨Z,Z,z4,Z,Z,N⟩⟩
 obtain ⟨x5,q6,c⟩:=zA4 c
 have hFz:w0.heap.size≤w.heap.size:=j.size
 refine zQK 8 Z Z Z Z (zB1 call73 (zIV (q6 Z) d (f_v0.eq h7))) ?_
 rintro v_ w ⟨b7,A,hG1,hv⟩ R n hd
 obtain ⟨hO2,hst⟩:=GPost.next0 q d hG1
 replace q:=hO2
 replace d:=hG1.avok
 replace B:∀ b o,A0 b o→A b o:=fun b o h=>hG1.low b o (B b o h)
 replace j:Fr w0 w:=j.trans hG1.ch.no
 replace q:=q.reX (B':=w0.heap.size) 0 Z hFz
 replace q:IniOK [ob (.pointer (some ⟨b7,0,none⟩)) (.box w0.heap.size 154 zA1 x5),ob (.pointer (some ⟨b2_0,0,none⟩)) (.box w0.heap.size 51 zA0 (0,(0,(0,([]:List (List UInt8)))))),ob (.pointer (some ⟨b3_1,0,none⟩)) (.box w0.heap.size 51 zA0 (0,(0,(0,([]:List (List UInt8))))))] A w:=q
 replace h2:=(n 2 Z).trans h2
 replace h3:=(n 3 Z).trans h3
 replace h7:=(n 7 Z).trans h7
 replace f_v0:=f_v0.stp hst
 have h8:R 8=(.pointer (some ⟨b7,0,none⟩)):=hd.trans hv
 clear hFz hG1 hv n hd
 obtain ⟨x8,q9,c⟩:=zA4 c
 have hFz:w0.heap.size≤w.heap.size:=j.size
 refine zQK 9 Z Z Z Z (zB1 call124 (zId (q9 Z) d h8 (q.sub [(0,ob (.pointer (some ⟨b7,0,none⟩)) (.box w0.heap.size 154 zA1 x5))] ⟨Z,Z,N⟩))) ?_
 rintro v_ w ⟨A,hG1,hv⟩ R n hd
 have hst:=zAy d hG1 (q.ok 0 _ Z).2
 replace B:∀ b o,A0 b o→A b o:=zN6 B C (q.ge (⟨Z,⟨Z,⟨Z,N⟩⟩⟩)) 0 Z hG1
 replace j:Fr w0 w:=j.tr hG1.ch (fun k hk=>(q.ge (⟨Z,⟨Z,⟨Z,N⟩⟩⟩)) k ⟨0,_,Z,hk⟩)
 replace q:=zQ1 q d 0 Z hG1
 replace d:=hG1.avok
 replace q:IniOK [ob (.pointer (some ⟨b7,0,none⟩)) (.box w0.heap.size 154 zA1 x8.2.2),ob (.pointer (some ⟨b2_0,0,none⟩)) (.box w0.heap.size 51 zA0 (0,(0,(0,([]:List (List UInt8)))))),ob (.pointer (some ⟨b3_1,0,none⟩)) (.box w0.heap.size 51 zA0 (0,(0,(0,([]:List (List UInt8))))))] A w:=q
 replace h2:=(n 2 Z).trans h2
 replace h3:=(n 3 Z).trans h3
 replace h8:=(n 8 Z).trans h8
 have h9:Fact.ok (.tup2 (.rep zA0 A x8.1) (.rep zA0 A x8.2.1)) (R 9) w:=hd ▸ hv
 clear hFz hG1 hv n hd
 refine SG.textR [ob (.pointer (some ⟨b7,0,none⟩)) (.box w0.heap.size 154 zA1 x8.2.2),ob (.pointer (some ⟨b2_0,0,none⟩)) (.box w0.heap.size 51 zA0 (0,(0,(0,([]:List (List UInt8)))))),ob (.pointer (some ⟨b3_1,0,none⟩)) (.box w0.heap.size 51 zA0 (0,(0,(0,([]:List (List UInt8))))))] (rA::rR (.pointer (some ⟨b7,0,none⟩))::(rF fun A=>.tup2 (.rep zA0 A x8.1) (.rep zA0 A x8.2.1))::(rF fun A=>.tup2 (.rep zA0 A x8.1) (.rep zA0 A x8.2.1))::(rF fun A=>.rep zA0 A x8.1)::(rF fun A=>.rep zA0 A x8.2.1)::⟨_,true,[],some (.box w0.heap.size 51 zA0 (0,(0,(0,([]:List (List UInt8)))))),true,fun A=>.any⟩::⟨_,true,[],some (.box w0.heap.size 51 zA0 (0,(0,(0,([]:List (List UInt8)))))),true,fun A=>.any⟩::⟨_,true,[9],some (.box w0.heap.size 51 zA0 x8.1),false,fun A=>.any⟩::⟨_,true,[10],some (.box w0.heap.size 51 zA0 x8.2.1),false,fun A=>.any⟩::[]) 10 Z Z Z (by kernel_rfl) (by kernel_rfl) (Wf.mk' (by kernel_rfl) (ua (ur (UAll.cons (zI3 zFg zFg) (UAll.cons (zI3 zFg zFg) (up (up (ua (ua (ua (ua (UAll.nil))))))))))) (by kernel_rfl) (by kernel_rfl)) q d (⟨⟨Z,Z,Z,N⟩,⟨⟨Z,Z,Z,h8⟩,⟨⟨Z,Z,Z,h9⟩,N⟩⟩⟩) ?_ ?_
 exact rp (fun V Q U O D=>zBk (D.g 0 Z))<|rp (fun V Q U O D=>zEG (D.g 0 Z))<|rp (fun V Q U O D=>zEF (D.g 0 Z))<|rc (OblR.made _ Z Z Z Z fun V Q U O D=>by exact zDH zeroValue51 (fun A w=>zCP zAY (zCP zAY (zCP zAY zDu))) (Nat.le_trans j.size O.ch.size))<|rc (OblR.made _ Z Z Z Z fun V Q U O D=>by exact zDH zeroValue51 (fun A w=>zCP zAY (zCP zAY (zCP zAY zDu))) (Nat.le_trans j.size O.ch.size))<|rc (OblR.took 9 _ _ Z Z Z Z Z fun V Q U O D u X Y J L M=>by have a1:Rep zA0 V U (Q 10) x8.1:=D.g 1 Z;obtain ⟨b,hb,hB',hbx⟩:=X;have hop':=L _ _ Z Z Z Z;exact zB8 a1 (hop'.symm.trans hb) hb ⟨b,hb,hB',hbx⟩ Y (FldS.id _) sizeOf51 Z)<|rc (OblR.took 10 _ _ Z Z Z Z Z fun V Q U O D u X Y J L M=>by have a1:Rep zA0 V U (Q 11) x8.2.1:=D.g 1 Z;obtain ⟨b,hb,hB',hbx⟩:=X;have hop':=L _ _ Z Z Z Z;exact zB8 a1 (hop'.symm.trans hb) hb ⟨b,hb,hB',hbx⟩ Y (FldS.id _) sizeOf51 Z)<|rz
 intro done ρ σ A R w y s
 obtain ⟨h2,h3⟩:=k2 s.rg h2 h3
 have z10:=s.inivR 0 Z
 have z11:=s.inivR 1 Z
 have z12:=s.inivR 2 Z
 obtain ⟨b4_12,e_b4_12⟩:=s.boxv y 11 Z Z
 have z14:=(s.opnR y 11 8 Z Z Z Z Z).symm.trans e_b4_12
 have h4:=s.ov y 9 6 z14
 obtain ⟨b5_14,e_b5_14⟩:=s.boxv y 12 Z Z
 have z16:=(s.opnR y 12 9 Z Z Z Z Z).symm.trans e_b5_14
 have h5:=s.ov y 10 7 z16
 obtain ⟨B,j,d⟩:=s.s B C j q ⟨Z,⟨Z,⟨Z,N⟩⟩⟩
 replace q:=s.left y [(1,ob (.pointer (some ⟨b2_0,0,none⟩)) (.box w0.heap.size 51 zA0 (0,(0,(0,([]:List (List UInt8))))))),(2,ob (.pointer (some ⟨b3_1,0,none⟩)) (.box w0.heap.size 51 zA0 (0,(0,(0,([]:List (List UInt8))))))),(11,ob (.pointer (some ⟨b4_12,0,none⟩)) (.box w0.heap.size 51 zA0 x8.1)),(12,ob (.pointer (some ⟨b5_14,0,none⟩)) (.box w0.heap.size 51 zA0 x8.2.1))] ⟨Z,Z,z11,Z,Z,⟨Z,Z,z12,Z,Z,⟨Z,Z,e_b4_12,Z,Z,⟨Z,Z,e_b5_14,Z,Z,N⟩⟩⟩⟩
 refine zQJ Z ?_
 refine zQ9 ?_
 refine zQ6 [ob (.pointer (some ⟨b2_0,0,none⟩)) (.box w0.heap.size 51 zA0 (0,(0,(0,([]:List (List UInt8)))))),ob (.pointer (some ⟨b3_1,0,none⟩)) (.box w0.heap.size 51 zA0 (0,(0,(0,([]:List (List UInt8)))))),ob (.pointer (some ⟨b4_12,0,none⟩)) (.box w0.heap.size 51 zA0 x8.1),ob (.pointer (some ⟨b5_14,0,none⟩)) (.box w0.heap.size 51 zA0 x8.2.1)] ((rF fun A=>.rep zA0 A x8.1)::(rF fun A=>.rep zA0 A x8.2.1)::⟨_,true,[0],some (.box w0.heap.size 51 zA0 x8.1),false,fun A=>.any⟩::⟨_,true,[1],some (.box w0.heap.size 51 zA0 x8.2.1),false,fun A=>.any⟩::[]) (by kernel_rfl) (by kernel_rfl) (by kernel_rfl) (Wf.mk' (by kernel_rfl) (up (up (ua (ua (UAll.nil))))) (by kernel_rfl) (by kernel_rfl)) q d ?_ ?_
 exact rp (fun V Q U O D=>(zAC (O.rd 2 _ Z Z) ((O.old 4 Z).trans h4) (Fld.id _) Z isAgg51 sizeOf51))<|rp (fun V Q U O D=>(zAC (O.rd 3 _ Z Z) ((O.old 5 Z).trans h5) (Fld.id _) Z isAgg51 sizeOf51))<|rc (OblR.took 0 _ _ Z Z Z Z Z fun V Q U O D u X Y J L M=>by have a0:Q 2=(.pointer (some ⟨b2_0,0,none⟩)):=(O.old 2 Z).trans h2;have a1:Rep zA0 V U (Q 12) x8.1:=D.g 0 Z;exact zB8 a1 a0 (J _ Z) X Y (FldS.id _) sizeOf51 Z)<|rc (OblR.took 1 _ _ Z Z Z Z Z fun V Q U O D u X Y J L M=>by have a0:Q 3=(.pointer (some ⟨b3_1,0,none⟩)):=(O.old 3 Z).trans h3;have a1:Rep zA0 V U (Q 13) x8.2.1:=D.g 0 Z;exact zB8 a1 a0 (J _ Z) X Y (FldS.id _) sizeOf51 Z)<|rz
 intro done ρ σ A R w y s
 obtain ⟨h2,h3⟩:=k2 s.rg h2 h3
 have z17:=s.inivR 0 Z
 have z18:=s.on y 6 2 Z Z Z Z Z z17
 have z19:=s.inivR 1 Z
 have z20:=s.on y 7 3 Z Z Z Z Z z19
 have z21:=s.inivR 2 Z
 have z22:=s.inivR 3 Z
 obtain ⟨B,j,d⟩:=s.s B C j q ⟨Z,⟨Z,⟨Z,⟨Z,N⟩⟩⟩⟩
 replace q:=s.left y [(6,ob (.pointer (some ⟨b2_0,0,none⟩)) (.box w0.heap.size 51 zA0 x8.1)),(7,ob (.pointer (some ⟨b3_1,0,none⟩)) (.box w0.heap.size 51 zA0 x8.2.1))] ⟨Z,Z,z18,Z,Z,⟨Z,Z,z20,Z,Z,N⟩⟩
 refine HT.ret ?_
 obtain rfl:=si c
 obtain ⟨v_2,e_2,p_2⟩:=zDJ (q.ok 0 _ Z).1 h2 isAgg51 sizeOf51 B
 obtain ⟨v_3,e_3,p_3⟩:=zDJ (q.ok 1 _ Z).1 h3 isAgg51 sizeOf51 B
 exact ⟨.inr Z,[v_2,v_3],⟨e_2,⟨e_3,N⟩⟩,⟨_,_,Z,p_2,p_3⟩,j⟩
def zBB (fu:Nat) (p0:Int) (p1:Int) (p2:Int):Option Bool:=
 bd ((decide (p1≤p0))&&(decide (p0≤p2))) fun x1=>
 some x1
theorem zBQ {fu : Nat} {A : Av} {p0 : Int} {p1 : Int} {p2 : Int} {r : Bool} (c : zBB fu p0 p1 p2 = some r) {w : World} {v0 : Value} {v1 : Value} {v2 : Value} (d : AvOK A w) (h0 : v0 = .int .i64 p0) (h1 : v1 = .int .i64 p1) (h2 : v2 = .int .i64 p2) :
 Calls prog 94 #[v0,v1,v2] w fun e w'=>∃ v,e = .returned v∧(v = .bool r∧Fr w w'):=by
 unfold zBB at c
 obtain ⟨w0,hw0,j⟩:=pf w
 rw [fw hw0]
 refine zA3 [.tmp 6] func94 ntmps94 (by decide) Z Z (nb Z) ?_
 intro R hR
 replace h0:R 0 = .int .i64 p0:=(hR 0 _ Z).trans h0
 replace h1:R 1 = .int .i64 p1:=(hR 1 _ Z).trans h1
 replace h2:R 2 = .int .i64 p2:=(hR 2 _ Z).trans h2
 refine zQB d j (eB false::[]) ?_ ?_
 exact op (fun Q U W H D=>zA2 Z)<|oz
 intro R w m n p d j
 obtain ⟨h0,h1,h2⟩:=k3 n h0 h1 h2
 refine zQ9 ?_
 obtain ⟨x1,q2,c⟩:=zAD c
 refine HT.u d j (eI p0::eI p1::eB (decide (p1≤p0))::eB (decide (p1≤p0))::gI (true&&((decide (p1≤p0))==true)) p0::gI (true&&((decide (p1≤p0))==true)) p2::gB (true&&((decide (p1≤p0))==true)) (decide (p0≤p2))::eB x1::eB x1::[]) ?_ ?_
 exact om h0<|om h1<|op (fun Q U W H D=>zDs (D.g 0 Z) (D.g 1 Z))<|ov<|gm 3 true h0<|gm 3 true h2<|og 3 true (fun G Q U W H D=>zDp (D.h 0 G Z) (D.h 1 G Z))<|op (fun Q U W H D=>zAF (decide (p1≤p0)) (D.g 0 Z) (fun hc=>by have a1:Q 13 = .bool (decide (p0≤p2)):=D 1 _ _ _ Z Z Z Z (zAc Z (zAP hc));show _=Value.bool x1;rw [q2,hc];exact a1) (fun hc=>by show _=Value.bool x1;rw [q2,hc];exact Z))<|oa<|oz
 intro R w m n p d j
 have h6:=p.r 8 Z
 refine HT.ret ?_
 obtain rfl:=si c
 exact ⟨.inr Z,[R 6],⟨Z,N⟩,h6,j⟩
def zAZ (fu : Nat) (p0 : List (List UInt8)) (p1 : (List UInt8) → Option Bool) : Nat → Int → Option (Ex Int Unit)
 | 0,_=>none
 | k+1,y4=>
 bif (decide (y4<(p0.length:Int))) then (
 ck (inR y4 p0.length) <|
 cl true (p1 (gtD p0 y4)) fun x7=>
 bif x7 then (
 some (Ex.ret y4)
 ) else (
 ck (i64B (y4+1)) <|
 zAZ fu p0 p1 k (y4+1)
 )
 ) else (
 some (Ex.go ())
 )
def zBK (fu:Nat) (p0:List (List UInt8)) (p1:(List UInt8)→Option Bool):Option Int:=
 cl true (zAZ fu p0 p1 fu 0) fun rl1=>
 exM rl1 (fun r=>some r) fun s3=>
 some (-1)
theorem zDz {fu : Nat} {A : Av} {p0 : List (List UInt8)} {p1 : (List UInt8) → Option Bool} {r : Int} (c : zBK fu p0 p1 = some r) {w : World} {v0 : Value} {v1 : Value} (d : AvOK A w) (h0 : Rep (eSl eStr) A w v0 p0) (h1 : FnB1 prog eStr (fun r => .raw (.bool r)) A w v1 p1) :
 Calls prog 211 #[v0,v1] w fun e w'=>∃ v,e = .returned v∧(v = .int .i64 r∧Fr w w'):=by
 unfold zBK at c
 obtain ⟨w0,hw0,j⟩:=pf w
 rw [fw hw0]
 have f_v1:FnB1 prog eStr (fun r=>.raw (.bool r)) A w0 v1 p1:=hw0 ▸ h1
 refine zA3 [.tmp 4] func211 ntmps211 (by decide) Z Z (nb Z) ?_
 intro R hR
 have f_v0:=h0
 replace h0:R 0=v0:=hR 0 _ Z
 replace h1:R 1=v1:=hR 1 _ Z
 refine zQB d j (eI 0::[]) ?_ ?_
 exact op (fun Q U W H D=>zA2 Z)<|oz
 intro R w m n p d j
 obtain ⟨h0,h1⟩:=k2 n h0 h1
 replace f_v0:=f_v0.fr m
 refine zQ9 ?_
 refine zQB d j (eR v0::eI (p0.length:Int)::eI 0::[]) ?_ ?_
 exact om h0<|op (fun Q U W H D=>zAe (aT:=#[]) ((f_v0.fr W).eq (D.g 0 Z)) underlying46)<|op (fun Q U W H D=>zBk Z)<|oz
 intro R w m n p d j
 obtain ⟨h0,h1⟩:=k2 n h0 h1
 have h7:=p.r 1 Z
 have h8:=p.r 2 Z
 replace f_v0:=f_v0.fr m
 obtain ⟨rl1,q2,c⟩:=zA4 c
 replace q2:=q2 Z
 refine zQ4 (fun R w=>∃ (s3:Unit),rl1=Ex.go s3∧AvOK A w∧Fr w0 w) ?_ ?_
 refine HT.block ?_
 refine zQ8 (fun k R w=>∃ (y4:Int),zAZ fu p0 p1 k y4=some rl1∧AvOK A w∧Fr w0 w∧R 0=v0∧R 1=v1∧R 7 = .int .i64 (p0.length:Int)∧R 8 = .int .i64 y4∧Rep (eSl eStr) A w v0 p0) fu ⟨_,q2,d,j,h0,h1,h7,h8,f_v0⟩ ?_
 have hr0:=c;clear c q2
 rintro k R w ⟨y4,c,d,j,h0,h1,h7,h8,f_v0⟩
 rcases k with _ | k
 cases (show none=some _ from c)
 rw [zAZ] at c
 refine zQB d j (eB (decide (y4<(p0.length:Int)))::[]) ?_ ?_
 exact op (fun Q U W H D=>zAu ((H 8 Z).trans h8) ((H 7 Z).trans h7))<|oz
 intro R w m n p d j
 obtain ⟨h0,h1,h7,h8⟩:=k4 n h0 h1 h7 h8
 have h9:=p.r 0 Z
 replace f_v0:=f_v0.fr m
 refine zQ9 ?_
 refine zQ2 (decide (y4<(p0.length:Int))) h9 (fun c5=>?_) (fun c5=>?_)
 have c:=zAO c5 c
 refine zQA ?_
 refine zQ9 ?_
 refine HT.block ?_
 refine zQB d j (eI y4::eI y4::[]) ?_ ?_
 exact om h8<|oa<|oz
 intro R w m n p d j
 obtain ⟨h0,h1,h7,h8⟩:=k4 n h0 h1 h7 h8
 have h5:=p.r 1 Z
 replace f_v0:=f_v0.fr m
 obtain ⟨e6,c⟩:=zA5 c
 obtain ⟨x7,q8,c⟩:=zA4 c
 refine zQB d j (eR v1::eR v0::eI y4::eF (.qtr eStr A (gtD p0 y4))::eF (.rep eStr A (gtD p0 y4))::eB x7::[]) ?_ ?_
 exact om h1<|om h0<|om h5<|op (fun Q U W H D=>zA7 ((f_v0.fr W).eq (D.g 0 Z)) (D.g 1 Z) underlying46 sizeOf9 e6)<|op (fun Q U W H D=>(zAT (QRep.ptr (D.g 0 Z)) isAgg9 sizeOf9))<|op (fun Q U W H D=>zJF (D.g 0 Z) (f_v1 _ _ (q8 Z) _ _ ((j.trans W).ch _) (d.fr W.size) (D.g 1 Z)))<|oz
 intro R w m n p d j
 obtain ⟨h0,h1,h5,h7,h8⟩:=k5 n h0 h1 h5 h7 h8
 have h16:=p.r 5 Z
 replace f_v0:=f_v0.fr m
 refine zQ2 x7 h16 (fun c9=>?_) (fun c9=>?_)
 have c:=zAO c9 c
 refine zQB d j (eI y4::eI y4::[]) ?_ ?_
 exact om h5<|oa<|oz
 intro R w m n p d j
 have h4:=p.r 1 Z
 refine HT.ret ?_
 obtain rfl:=si c
 have c:=hr0
 replace c:some _=some _:=c
 obtain rfl:=si c
 exact ⟨.inr Z,[R 4],⟨Z,N⟩,h4,j⟩
 have c:=zAN c9 c
 refine zQA ?_
 obtain ⟨e10,c⟩:=zA5 c
 refine HT.u d j (eI (y4+1)::eI (y4+1)::[]) ?_ ?_
 exact op (fun Q U W H D=>zAR ((H 8 Z).trans h8) Z e10)<|ov<|oz
 intro R w m n p d j
 obtain ⟨h0,h1,h7⟩:=k3 n h0 h1 h7
 have h8:=p.r 1 Z
 replace f_v0:=f_v0.fr m
 exact ei k (And.intro (Nat.lt_succ_self k) ⟨_,c,d,j,h0,h1,h7,h8,f_v0⟩)
 have c:=zAN c5 c
 refine zQ7 ?_
 obtain rfl:=si c
 exact ei _ ⟨Z,d,j⟩
 rintro R w ⟨s3,rfl,d,j⟩
 have c:=zF6 c
 refine zQB d j (eI (-1)::[]) ?_ ?_
 exact op (fun Q U W H D=>zA2 Z)<|oz
 intro R w m n p d j
 have h4:=p.r 0 Z
 refine HT.ret ?_
 obtain rfl:=si c
 exact ⟨.inr Z,[R 4],⟨Z,N⟩,h4,j⟩
def zAm (fu:Nat) (p0:List (List UInt8)) (p1:(List UInt8)→Option Bool):Option Bool:=
 cl true (zBK fu p0 p1) fun x1=>
 some (decide (0≤x1))
theorem zDb {fu : Nat} {A : Av} {p0 : List (List UInt8)} {p1 : (List UInt8) → Option Bool} {r : Bool} (c : zAm fu p0 p1 = some r) {w : World} {v0 : Value} {v1 : Value} (d : AvOK A w) (h0 : Rep (eSl eStr) A w v0 p0) (h1 : FnB1 prog eStr (fun r => .raw (.bool r)) A w v1 p1) :
 Calls prog 161 #[v0,v1] w fun e w'=>∃ v,e = .returned v∧(v = .bool r∧Fr w w'):=by
 unfold zAm at c
 obtain ⟨w0,hw0,j⟩:=pf w
 rw [fw hw0]
 have f_v1:FnB1 prog eStr (fun r=>.raw (.bool r)) A w0 v1 p1:=hw0 ▸ h1
 refine zA3 [.tmp 4] func161 ntmps161 (by decide) Z Z (nb Z) ?_
 intro R hR
 have f_v0:=h0
 replace h0:R 0=v0:=hR 0 _ Z
 replace h1:R 1=v1:=hR 1 _ Z
 refine zQB d j (eB false::[]) ?_ ?_
 exact op (fun Q U W H D=>zA2 Z)<|oz
 intro R w m n p d j
 obtain ⟨h0,h1⟩:=k2 n h0 h1
 replace f_v0:=f_v0.fr m
 obtain ⟨x1,q2,c⟩:=zA4 c
 refine zQB d j (eR v0::eR v1::eI x1::eB (decide (0≤x1))::eB (decide (0≤x1))::[]) ?_ ?_
 exact om h0<|om h1<|op (fun Q U W H D=>zA8 call211 (zDz (q2 Z) (d.fr W.size) ((f_v0.fr W).eq (D.g 0 Z)) ((f_v1.on (j.trans W) (fun _ _ h=>h)).eq (D.g 1 Z))))<|op (fun Q U W H D=>zDs (D.g 0 Z) Z)<|oa<|oz
 intro R w m n p d j
 have h4:=p.r 4 Z
 refine HT.ret ?_
 obtain rfl:=si c
 exact ⟨.inr Z,[R 4],⟨Z,N⟩,h4,j⟩
def zCJ (fu : Nat) (p0 : List UInt8) : Nat → Int → Option (Ex Bool Unit)
 | 0,_=>none
 | k+1,y4=>
 bif (decide (y4<(p0.length:Int))) then (
 ck (inR y4 p0.length) <|
 cl true (zBB fu (IntKind.i64.wrap (bAt p0 y4)) 32 126) fun x7=>
 bif (!x7) then (
 some (Ex.ret false)
 ) else (
 ck (i64B (y4+1)) <|
 zCJ fu p0 k (y4+1)
 )
 ) else (
 some (Ex.go ())
 )
def zE7 (fu:Nat) (p0:List UInt8):Option Bool:=
 cl true (zCJ fu p0 fu 0) fun rl1=>
 exM rl1 (fun r=>some r) fun s3=>
 some (decide ((p0.length:Int)≤40))
theorem zHs {fu : Nat} {A : Av} {p0 : List UInt8} {r : Bool} (c : zE7 fu p0 = some r) {w : World} {v0 : Value} (d : AvOK A w) (h0 : Rep eStr A w v0 p0) :
 Calls prog 212 #[v0] w fun e w'=>∃ v,e = .returned v∧(v = .bool r∧Fr w w'):=by
 unfold zE7 at c
 obtain ⟨w0,hw0,j⟩:=pf w
 rw [fw hw0]
 refine zA3 [.tmp 2] func212 ntmps212 (by decide) Z Z (nb Z) ?_
 intro R hR
 have f_v0:=h0
 replace h0:R 0=v0:=hR 0 _ Z
 refine zQB d j (eB false::[]) ?_ ?_
 exact op (fun Q U W H D=>zA2 Z)<|oz
 intro R w m n p d j
 replace h0:=k1 n h0
 replace f_v0:=f_v0.fr m
 refine zQ9 ?_
 refine zQB d j (eR v0::eI (p0.length:Int)::eI 0::[]) ?_ ?_
 exact om h0<|op (fun Q U W H D=>zAJ ((f_v0.fr W).eq (D.g 0 Z)) underlying9)<|op (fun Q U W H D=>zBk Z)<|oz
 intro R w m n p d j
 replace h0:=k1 n h0
 have h5:=p.r 1 Z
 have h6:=p.r 2 Z
 replace f_v0:=f_v0.fr m
 obtain ⟨rl1,q2,c⟩:=zA4 c
 replace q2:=q2 Z
 refine zQ4 (fun R w=>∃ (s3:Unit),rl1=Ex.go s3∧AvOK A w∧Fr w0 w∧R 0=v0∧Rep eStr A w v0 p0) ?_ ?_
 refine HT.block ?_
 refine zQ8 (fun k R w=>∃ (y4:Int),zCJ fu p0 k y4=some rl1∧AvOK A w∧Fr w0 w∧R 0=v0∧R 5 = .int .i64 (p0.length:Int)∧R 6 = .int .i64 y4∧Rep eStr A w v0 p0) fu ⟨_,q2,d,j,h0,h5,h6,f_v0⟩ ?_
 have hr0:=c;clear c q2
 rintro k R w ⟨y4,c,d,j,h0,h5,h6,f_v0⟩
 rcases k with _ | k
 cases (show none=some _ from c)
 rw [zCJ] at c
 refine zQB d j (eB (decide (y4<(p0.length:Int)))::[]) ?_ ?_
 exact op (fun Q U W H D=>zAu ((H 6 Z).trans h6) ((H 5 Z).trans h5))<|oz
 intro R w m n p d j
 obtain ⟨h0,h5,h6⟩:=k3 n h0 h5 h6
 have h7:=p.r 0 Z
 replace f_v0:=f_v0.fr m
 refine zQ9 ?_
 refine zQ2 (decide (y4<(p0.length:Int))) h7 (fun c5=>?_) (fun c5=>?_)
 have c:=zAO c5 c
 refine zQA ?_
 refine zQ9 ?_
 refine HT.block ?_
 refine zQB d j (eI y4::eI y4::[]) ?_ ?_
 exact om h6<|oa<|oz
 intro R w m n p d j
 obtain ⟨h0,h5,h6⟩:=k3 n h0 h5 h6
 have h3:=p.r 1 Z
 replace f_v0:=f_v0.fr m
 obtain ⟨e6,c⟩:=zA5 c
 obtain ⟨x7,q8,c⟩:=zA4 c
 refine zQB d j (eR v0::eI y4::eU (bAt p0 y4)::eI (IntKind.i64.wrap (bAt p0 y4))::eB x7::eB (!x7)::[]) ?_ ?_
 exact om h0<|om h3<|op (fun Q U W H D=>zAB ((f_v0.fr W).eq (D.g 0 Z)) (D.g 1 Z) underlying9 e6)<|op (fun Q U W H D=>zDN (D.g 0 Z) underlying5 underlying3)<|op (fun Q U W H D=>zA8 call94 (zBQ (q8 Z) (d.fr W.size) (D.g 0 Z) Z Z))<|op (fun Q U W H D=>zBq (D.g 0 Z))<|oz
 intro R w m n p d j
 obtain ⟨h0,h5,h6⟩:=k3 n h0 h5 h6
 have h14:=p.r 5 Z
 replace f_v0:=f_v0.fr m
 refine zQ2 (!x7) h14 (fun c9=>?_) (fun c9=>?_)
 have c:=zAO c9 c
 refine zQB d j (eB false::[]) ?_ ?_
 exact op (fun Q U W H D=>zA2 Z)<|oz
 intro R w m n p d j
 have h2:=p.r 0 Z
 refine HT.ret ?_
 obtain rfl:=si c
 have c:=hr0
 replace c:some _=some _:=c
 obtain rfl:=si c
 exact ⟨.inr Z,[R 2],⟨Z,N⟩,h2,j⟩
 have c:=zAN c9 c
 refine zQA ?_
 obtain ⟨e10,c⟩:=zA5 c
 refine HT.u d j (eI (y4+1)::eI (y4+1)::[]) ?_ ?_
 exact op (fun Q U W H D=>zAR ((H 6 Z).trans h6) Z e10)<|ov<|oz
 intro R w m n p d j
 obtain ⟨h0,h5⟩:=k2 n h0 h5
 have h6:=p.r 1 Z
 replace f_v0:=f_v0.fr m
 exact ei k (And.intro (Nat.lt_succ_self k) ⟨_,c,d,j,h0,h5,h6,f_v0⟩)
 have c:=zAN c5 c
 refine zQ7 ?_
 obtain rfl:=si c
 exact ei _ ⟨Z,d,j,h0,f_v0⟩
 rintro R w ⟨s3,rfl,d,j,h0,f_v0⟩
 have c:=zF6 c
 refine zQB d j (eR v0::eI (p0.length:Int)::eB (decide ((p0.length:Int)≤40))::eB (decide ((p0.length:Int)≤40))::[]) ?_ ?_
 exact om h0<|op (fun Q U W H D=>zAJ ((f_v0.fr W).eq (D.g 0 Z)) underlying9)<|op (fun Q U W H D=>zDp (D.g 0 Z) Z)<|oa<|oz
 intro R w m n p d j
 have h2:=p.r 3 Z
 refine HT.ret ?_
 obtain rfl:=si c
 exact ⟨.inr Z,[R 2],⟨Z,N⟩,h2,j⟩
def zDq (fu:Nat) (p0:List UInt8):Option Bool:=
 cl true (zE7 fu p0) fun x1=>
 cl (true&&(x1==true)) (zFe fu p0 ([124,59]:List UInt8)) fun x3=>
 bd (x1&&(!x3)) fun x5=>
 some x5
theorem zHc {fu : Nat} {A : Av} {p0 : List UInt8} {r : Bool} (c : zDq fu p0 = some r) {w : World} {v0 : Value} (d : AvOK A w) (h0 : Rep eStr A w v0 p0) :
 Calls prog 163 #[v0] w fun e w'=>∃ v,e = .returned v∧(v = .bool r∧Fr w w'):=by
 unfold zDq at c
 obtain ⟨w0,hw0,j⟩:=pf w
 rw [fw hw0]
 refine zA3 [.tmp 2] func163 ntmps163 (by decide) Z Z (nb Z) ?_
 intro R hR
 have f_v0:=h0
 replace h0:R 0=v0:=hR 0 _ Z
 refine zQB d j (eB false::[]) ?_ ?_
 exact op (fun Q U W H D=>zA2 Z)<|oz
 intro R w m n p d j
 replace h0:=k1 n h0
 replace f_v0:=f_v0.fr m
 refine zQ9 ?_
 obtain ⟨x1,q2,c⟩:=zA4 c
 obtain ⟨x3,q4,c⟩:=zA4 c
 obtain ⟨x5,q6,c⟩:=zAD c
 refine HT.u d j (eR v0::eB x1::eB x1::gR (true&&(x1==true)) v0::gB (true&&(x1==true)) x3::gB (true&&(x1==true)) (!x3)::eB x5::eB x5::[]) ?_ ?_
 exact om h0<|op (fun Q U W H D=>zA8 call212 (zHs (q2 Z) (d.fr W.size) ((f_v0.fr W).eq (D.g 0 Z))))<|ov<|gm 2 true h0<|og 2 true (fun G Q U W H D=>zA8 call213 (zHp (q4 G) (d.fr W.size) ((f_v0.fr W).eq (D.h 0 G Z)) ⟨_,Z,⟨_,Z,Z,by decide⟩⟩))<|og 2 true (fun G Q U W H D=>zBq (D.h 0 G Z))<|op (fun Q U W H D=>zAF x1 (D.g 0 Z) (fun hc=>by have a1:Q 8 = .bool (!x3):=D 1 _ _ _ Z Z Z Z (zAc Z (zAP hc));show _=Value.bool x5;rw [q6,hc];exact a1) (fun hc=>by show _=Value.bool x5;rw [q6,hc];exact Z))<|oa<|oz
 intro R w m n p d j
 have h2:=p.r 7 Z
 refine HT.ret ?_
 obtain rfl:=si c
 exact ⟨.inr Z,[R 2],⟨Z,N⟩,h2,j⟩
def zCd (fu:Nat) (p0:List UInt8):Option Bool:=
 cl true (zDq fu p0) fun x1=>
 some (!x1)
theorem zFO {fu : Nat} {A : Av} {p0 : List UInt8} {r : Bool} (c : zCd fu p0 = some r) {w : World} {v0 : Value} (d : AvOK A w) (h0 : Rep eStr A w v0 p0) :
 Calls prog 162 #[v0] w fun e w'=>∃ v,e = .returned v∧(v = .bool r∧Fr w w'):=by
 unfold zCd at c
 obtain ⟨w0,hw0,j⟩:=pf w
 rw [fw hw0]
 refine zA3 [.tmp 2] func162 ntmps162 (by decide) Z Z (nb Z) ?_
 intro R hR
 have f_v0:=h0
 replace h0:R 0=v0:=hR 0 _ Z
 refine zQB d j (eB false::[]) ?_ ?_
 exact op (fun Q U W H D=>zA2 Z)<|oz
 intro R w m n p d j
 replace h0:=k1 n h0
 replace f_v0:=f_v0.fr m
 obtain ⟨x1,q2,c⟩:=zA4 c
 refine zQB d j (eR v0::eB x1::eB (!x1)::eB (!x1)::[]) ?_ ?_
 exact om h0<|op (fun Q U W H D=>zA8 call163 (zHc (q2 Z) (d.fr W.size) ((f_v0.fr W).eq (D.g 0 Z))))<|op (fun Q U W H D=>zBq (D.g 0 Z))<|oa<|oz
 intro R w m n p d j
 have h2:=p.r 3 Z
 refine HT.ret ?_
 obtain rfl:=si c
 exact ⟨.inr Z,[R 2],⟨Z,N⟩,h2,j⟩
def zBl (fu:Nat) (p0:zAI):Option Bool:=
 cl true (zBB fu p0.1 0 3) fun x2=>
 cl (true&&((!x2)==false)) (zBB fu p0.2.1 1 99) fun x4=>
 bd ((!x2) || (!x4)) fun x6=>
 cl (true&&(x6==false)) (zBB fu p0.2.2.1 1 999) fun x8=>
 bd (x6 || (!x8)) fun x10=>
 bif x10 then (
 some false
 ) else (
 cl (true&&(((p0.2.2.2.length:Int)==4)==true)) (zAm fu p0.2.2.2 (fun x=>zCd fu x)) fun x13=>
 bd (((p0.2.2.2.length:Int)==4)&&(!x13)) fun x15=>
 some x15
 )
theorem zEL {fu : Nat} {A0 : Av} {p0 : zAI} {r : Bool} (c : zBl fu p0 = some r) {w : World} {v0 : Value} (d : AvOK A0 w) (h0 : Rep zA0 A0 w v0 p0) :
 Calls prog 113 #[v0] w fun e w'=>∃ v,e = .returned v∧(v = .bool r∧Fr w w'):=by
 unfold zBl at c
 obtain ⟨w0,hw0,j,C⟩:=pw d
 have hA00:AvOK A0 w0:=C
 rw [fw hw0]
 obtain ⟨A,hAe,B,d,q⟩:=pa d
 refine zA3 [.tmp 2] func113 ntmps113 (by decide) Z Z (nb Z) ?_
 intro R hR
 have f_v0:Rep zA0 A w v0 p0:=hAe ▸ h0
 replace h0:R 0=v0:=hR 0 _ Z
 refine zQC [] (⟨_,true,[],some (.box w0.heap.size 51 zA0 p0),true,fun A=>.any⟩::rB false::[]) (ua (ur (UAll.nil))) q d ?_ ?_
 exact rc (OblR.made _ Z Z Z Z fun V Q U O D=>by have a0:Q 0=v0:=(O.old 0 Z).trans h0;have ra0:=(f_v0.stp O.stp).eq a0;exact zEa ra0 (Nat.le_trans j.size O.ch.size))<|rp (fun V Q U O D=>zA2 Z)<|rz
 intro done ρ σ A R w y s
 obtain ⟨b1_0,e_b1_0⟩:=s.boxv y 0 Z Z
 have h1:=s.ov y 0 0 e_b1_0
 obtain ⟨B,j,d⟩:=s.s B C j q N
 replace q:=s.left y [(0,ob (.pointer (some ⟨b1_0,0,none⟩)) (.box w0.heap.size 51 zA0 p0))] ⟨Z,Z,e_b1_0,Z,Z,N⟩
 refine zQ9 ?_
 refine zQ9 ?_
 obtain ⟨x2,q3,c⟩:=zA4 c
 obtain ⟨x4,q5,c⟩:=zA4 c
 obtain ⟨x6,q7,c⟩:=zAD c
 obtain ⟨x8,q9,c⟩:=zA4 c
 obtain ⟨x10,q11,c⟩:=zAD c
 refine HT.u d j (eR (.pointer (some ⟨b1_0,0,none⟩))::eI p0.1::eB x2::eB (!x2)::eB (!x2)::gR (true&&((!x2)==false)) (.pointer (some ⟨b1_0,1,none⟩))::gI (true&&((!x2)==false)) p0.2.1::gB (true&&((!x2)==false)) x4::gB (true&&((!x2)==false)) (!x4)::eB x6::eB x6::gR (true&&(x6==false)) (.pointer (some ⟨b1_0,2,none⟩))::gI (true&&(x6==false)) p0.2.2.1::gB (true&&(x6==false)) x8::gB (true&&(x6==false)) (!x8)::eB x10::[]) ?_ ?_
 exact op (fun Q U W H D=>zAA ((H 1 Z).trans h1) zJK sizeOf3 (by decide) Z)<|op (fun Q U W H D=>OpF.int (zAC ((q.fr W).ok 0 _ Z).1 (D.g 0 Z) zEl Z isAgg3 sizeOf3))<|op (fun Q U W H D=>zA8 call94 (zBQ (q3 Z) (d.fr W.size) (D.g 0 Z) Z Z))<|op (fun Q U W H D=>zBq (D.g 0 Z))<|ov<|og 4 false (fun G Q U W H D=>zAA ((H 1 Z).trans h1) zJT sizeOf3 (by decide) Z)<|og 4 false (fun G Q U W H D=>OpF.int (zAC ((q.fr W).ok 0 _ Z).1 (D.h 0 G Z) zEj Z isAgg3 sizeOf3))<|og 4 false (fun G Q U W H D=>zA8 call94 (zBQ (q5 G) (d.fr W.size) (D.h 0 G Z) Z Z))<|og 4 false (fun G Q U W H D=>zBq (D.h 0 G Z))<|op (fun Q U W H D=>zAF (!x2) (D.g 0 Z) (fun hc=>by show _=Value.bool x6;rw [q7,hc];exact Z) (fun hc=>by have a2:Q 11 = .bool (!x4):=D 1 _ _ _ Z Z Z Z (zAc Z (zAP hc));show _=Value.bool x6;rw [q7,hc];exact a2))<|ov<|og 10 false (fun G Q U W H D=>zAA ((H 1 Z).trans h1) zJD sizeOf3 (by decide) Z)<|og 10 false (fun G Q U W H D=>OpF.int (zAC ((q.fr W).ok 0 _ Z).1 (D.h 0 G Z) zEk Z isAgg3 sizeOf3))<|og 10 false (fun G Q U W H D=>zA8 call94 (zBQ (q9 G) (d.fr W.size) (D.h 0 G Z) Z Z))<|og 10 false (fun G Q U W H D=>zBq (D.h 0 G Z))<|op (fun Q U W H D=>zAF x6 (D.g 0 Z) (fun hc=>by show _=Value.bool x10;rw [q11,hc];exact Z) (fun hc=>by have a2:Q 17 = .bool (!x8):=D 1 _ _ _ Z Z Z Z (zAc Z (zAP hc));show _=Value.bool x10;rw [q11,hc];exact a2))<|oz
 intro R w m n p d j
 replace h1:=k1 n h1
 have h18:=p.r 15 Z
 replace q:=q.fr m
 refine zQ2 x10 h18 (fun c12=>?_) (fun c12=>?_)
 have c:=zAO c12 c
 refine zQB d j (eB false::[]) ?_ ?_
 exact op (fun Q U W H D=>zA2 Z)<|oz
 intro R w m n p d j
 have h2:=p.r 0 Z
 replace q:=q.fr m
 replace q:IniOK [] A w:=q.sub [] N
 refine HT.ret ?_
 obtain rfl:=si c
 exact ⟨.inr Z,[R 2],⟨Z,N⟩,h2,j⟩
 have c:=zAN c12 c
 refine zQA ?_
 refine zQ9 ?_
 obtain ⟨x13,q14,c⟩:=zA4 c
 obtain ⟨x15,q16,c⟩:=zAD c
 refine HT.u d j (eR (.pointer (some ⟨b1_0,3,none⟩))::eF (.rep (eSl eStr) A p0.2.2.2)::eI (p0.2.2.2.length:Int)::eB ((p0.2.2.2.length:Int)==4)::eB ((p0.2.2.2.length:Int)==4)::gR (true&&(((p0.2.2.2.length:Int)==4)==true)) (.pointer (some ⟨b1_0,3,none⟩))::gF (true&&(((p0.2.2.2.length:Int)==4)==true)) (.rep (eSl eStr) A p0.2.2.2)::gB (true&&(((p0.2.2.2.length:Int)==4)==true)) x13::gB (true&&(((p0.2.2.2.length:Int)==4)==true)) (!x13)::eB x15::eB x15::[]) ?_ ?_
 exact op (fun Q U W H D=>zAA ((H 1 Z).trans h1) zBs sizeOf46 (by decide) Z)<|op (fun Q U W H D=>(zAC ((q.fr W).ok 0 _ Z).1 (D.g 0 Z) zAS Z isAgg46 sizeOf46))<|op (fun Q U W H D=>zAe (aT:=#[]) (D.g 0 Z) underlying46)<|op (fun Q U W H D=>zAo (D.g 0 Z) Z)<|ov<|og 4 true (fun G Q U W H D=>zAA ((H 1 Z).trans h1) zBs sizeOf46 (by decide) Z)<|og 4 true (fun G Q U W H D=>(zAC ((q.fr W).ok 0 _ Z).1 (D.h 0 G Z) zAS Z isAgg46 sizeOf46))<|og 4 true (fun G Q U W H D=>zA8 call161 (zDb (q14 G) (d.fr W.size) (D.h 0 G Z) (zIL [] Z call162 (fun x r hr' w'' a p hA' ha=>zFO hr' hA' ha))))<|og 4 true (fun G Q U W H D=>zBq (D.h 0 G Z))<|op (fun Q U W H D=>zAF ((p0.2.2.2.length:Int)==4) (D.g 0 Z) (fun hc=>by have a1:Q 27 = .bool (!x13):=D 1 _ _ _ Z Z Z Z (zAc Z (zAP hc));show _=Value.bool x15;rw [q16,hc];exact a1) (fun hc=>by show _=Value.bool x15;rw [q16,hc];exact Z))<|oa<|oz
 intro R w m n p d j
 have h2:=p.r 10 Z
 replace q:=q.fr m
 replace q:IniOK [] A w:=q.sub [] N
 refine HT.ret ?_
 obtain rfl:=si c
 exact ⟨.inr Z,[R 2],⟨Z,N⟩,h2,j⟩
def zCA (fu : Nat) (p0 : List UInt8) (p1 : Int → Option Int) : Nat → Int → (List Int) → Option (List Int)
 | 0,_,_=>none
 | k+1,y6,y7=>
 bif (decide (y6<((bytL p0).length:Int))) then (
 ck (inR y6 y7.length) <|
 cl true (p1 (gtD y7 y6)) fun x10=>
 ck (inR y6 y7.length) <|
 ck (i64B (y6+1)) <|
 zCA fu p0 p1 k (y6+1) (y7.set y6.toNat x10)
 ) else (
 some y7
 )
def zDa (fu:Nat) (p0:List UInt8) (p1:Int→Option Int):Option (List UInt8):=
 ck (zC2 p0.length) <|
 cl true (zCA fu p0 p1 fu 0 (bytL p0)) fun s5=>
 some (strB s5)
theorem zG0 {fu : Nat} {A0 : Av} {p0 : List UInt8} {p1 : Int → Option Int} {r : List UInt8} (c : zDa fu p0 p1 = some r) {w : World} {v0 : Value} {v1 : Value} (d : AvOK A0 w) (h0 : Rep eStr A0 w v0 p0) (h1 : FnB1 prog (eInt .u8) (fun r => .raw (.int .u8 r)) A0 w v1 p1) :
 Calls prog 286 #[v0,v1] w fun e w'=>∃ v,e = .returned v∧(Rep eStr A0 w' v r∧Fr w w'):=by
 unfold zDa at c
 obtain ⟨w0,hw0,j,C⟩:=pw d
 have hA00:AvOK A0 w0:=C
 rw [fw hw0]
 have f_v1:FnB1 prog (eInt .u8) (fun r=>.raw (.int .u8 r)) A0 w0 v1 p1:=hw0 ▸ h1
 obtain ⟨A,hAe,B,d,q⟩:=pa d
 refine zA3 [.tmp 4] func286 ntmps286 (by decide) Z Z (nb Z) ?_
 intro R hR
 have f_v0:Rep eStr A w v0 p0:=hAe ▸ h0
 replace h0:R 0=v0:=hR 0 _ Z
 replace h1:R 1=v1:=hR 1 _ Z
 refine zQB d j (eF (.rep eStr A ([]:List UInt8))::[]) ?_ ?_
 exact op (fun Q U W H D=>zA2 ⟨_,Z,⟨_,Z,Z,by decide⟩⟩)<|oz
 intro R w m n p d j
 obtain ⟨h0,h1⟩:=k2 n h0 h1
 replace f_v0:=f_v0.fr m
 replace q:=q.fr m
 obtain ⟨e1,c⟩:=zA5 c
 refine zQC [] (rR v0::⟨_,true,[],some (.vec w0.heap.size 5 (eInt .u8) (bytL p0)),true,fun A=>.any⟩::⟨_,true,[1],some (.vec w0.heap.size 5 (eInt .u8) (bytL p0)),true,fun A=>.any⟩::[]) (ur (ua (ua (UAll.nil)))) q d ?_ ?_
 exact rm h0<|rc (OblR.made _ Z Z Z Z fun V Q U O D=>by have a0:Q 8=v0:=D.g 0 Z;have ra0:=(f_v0.stp O.stp).eq a0;exact zIp ra0 underlying9 underlying22 underlying5 Z e1 (Nat.le_trans j.size O.ch.size))<|rc (OblR.took 1 _ _ Z Z Z Z Z fun V Q U O D u X Y J L M=>by exact zAK (L _ _ Z Z Z Z).symm X Y)<|rz
 intro done ρ σ A R w y s
 replace h1:=k1 s.rg h1
 obtain ⟨u2,e_u2⟩:∃ u,ρ 2=u:=⟨_,Z⟩
 have h5:=s.ov y 2 2 e_u2
 obtain ⟨B,j,d⟩:=s.s B C j q N
 replace q:=s.left y [(2,ob u2 (.vec w0.heap.size 5 (eInt .u8) (bytL p0)))] ⟨Z,Z,e_u2,Z,Z,N⟩
 refine zQ9 ?_
 refine zQB d j (eR u2::eI ((bytL p0).length:Int)::eI 0::[]) ?_ ?_
 exact om h5<|op (fun Q U W H D=>zD0 (q.ok 0 _ Z).1 (D.g 0 Z) underlying22)<|op (fun Q U W H D=>zBk Z)<|oz
 intro R w m n p d j
 obtain ⟨h1,h5⟩:=k2 n h1 h5
 have h10:=p.r 0 Z
 have h11:=p.r 1 Z
 have h12:=p.r 2 Z
 replace q:=q.fr m
 obtain ⟨rl3,q4,c⟩:=zA4 c
 replace q4:=q4 Z
 refine zQ4 (fun R w=>∃ A:Av,∃ (s5:(List Int)),rl3=s5∧AvOK A w∧Fr w0 w∧(∀ b o,A0 b o→A b o)∧IniOK [ob u2 (.vec w0.heap.size 5 (eInt .u8) s5)] A w∧R 5=u2) ?_ ?_
 refine HT.block ?_
 refine zQ8 (fun k R w=>∃ A:Av,∃ (y6:Int) (y7:List Int),zCA fu p0 p1 k y6 y7=some rl3∧AvOK A w∧Fr w0 w∧(∀ b o,A0 b o→A b o)∧IniOK [ob u2 (.vec w0.heap.size 5 (eInt .u8) y7)] A w∧R 1=v1∧R 5=u2∧R 10=u2∧R 11 = .int .i64 ((bytL p0).length:Int)∧R 12 = .int .i64 y6) fu ⟨_,_,_,q4,d,j,B,q,h1,h5,h10,h11,h12⟩ ?_
 have hr0:=c;clear c q4
 rintro k R w ⟨A,y6,y7,c,d,j,B,q,h1,h5,h10,h11,h12⟩
 rcases k with _ | k
 cases (show none=some _ from c)
 rw [zCA] at c
 refine zQB d j (eB (decide (y6<((bytL p0).length:Int)))::[]) ?_ ?_
 exact op (fun Q U W H D=>zAu ((H 12 Z).trans h12) ((H 11 Z).trans h11))<|oz
 intro R w m n p d j
 obtain ⟨h1,h5,h10,h11,h12⟩:=k5 n h1 h5 h10 h11 h12
 have h13:=p.r 0 Z
 replace q:=q.fr m
 refine zQ9 ?_
 refine zQ2 (decide (y6<((bytL p0).length:Int))) h13 (fun c8=>?_) (fun c8=>?_)
 have c:=zAO c8 c
 refine zQA ?_
 refine zQ9 ?_
 refine HT.block ?_
 obtain ⟨e9,c⟩:=zA5 c
 refine zQB d j (eI y6::eR (vptr u2 (y6.toNat*1))::eU (gtD y7 y6)::eI y6::eU (gtD y7 y6)::[]) ?_ ?_
 exact om h12<|op (fun Q U W H D=>zAL (q.ok 0 _ Z).1 ((H 10 Z).trans h10) ((H 12 Z).trans h12) underlying22 sizeOf5 e9 Z)<|op (fun Q U W H D=>OpF.int (zAw ((q.fr W).ok 0 _ Z).1 (D.g 0 Z) e9 Z (Fld.id _) Z isAgg5 sizeOf5))<|oa<|oa<|oz
 intro R w m n p d j
 obtain ⟨h1,h5,h10,h11,h12⟩:=k5 n h1 h5 h10 h11 h12
 have h6:=p.r 3 Z
 have h7:=p.r 4 Z
 replace q:=q.fr m
 obtain ⟨x10,q11,c⟩:=zA4 c
 obtain ⟨e12,c⟩:=zA5 c
 refine zQF [ob u2 (.vec w0.heap.size 5 (eInt .u8) y7)] (rR u2::rI y6::rR v1::rU (gtD y7 y6)::rU x10::rR (vptr u2 (y6.toNat*1))::⟨_,true,[0],some (.vec w0.heap.size 5 (eInt .u8) (y7.set y6.toNat x10)),false,fun A=>.any⟩::[]) (ur (ur (ur (ur (ur (ur (ua (UAll.nil)))))))) q d ?_ ?_
 exact rm h5<|rm h6<|rm h1<|rm h7<|rp (fun V Q U O D=>zJF (D.g 0 Z) (f_v1 _ _ (q11 Z) _ _ ((j.tr O.ch (q.ge (⟨Z,N⟩))).ch _) (hA00.fr (Nat.le_trans j.size O.ch.size)) ((zAa.eq (D.g 1 Z)).less (O.low' B C (q.ge (⟨Z,N⟩))))))<|rp (fun V Q U O D=>zAL (q.ok 0 _ Z).1 (D.g 0 Z) (D.g 1 Z) underlying22 sizeOf5 e12 Z)<|rc (OblR.took 0 _ _ Z Z Z Z Z fun V Q U O D u X Y J L M=>by have a0:Q 22=(vptr u2 (y6.toNat*1)):=D.g 0 Z;have a1:Q 21 = .int .u8 x10:=D.g 1 Z;obtain rfl:=J _ Z;exact zCY (zAa.eq a1) X Y a0 e12 Z (FldS.id _) sizeOf5 Z)<|rz
 intro done ρ σ A R w y s
 obtain ⟨h1,h5,h10,h11,h12⟩:=k5 s.rg h1 h5 h10 h11 h12
 have z13:=s.inivR 0 Z
 have z14:=s.on y 7 6 Z Z Z Z Z z13
 obtain ⟨B,j,d⟩:=s.s B C j q ⟨Z,N⟩
 replace q:=s.left y [(7,ob u2 (.vec w0.heap.size 5 (eInt .u8) (y7.set y6.toNat x10)))] ⟨Z,Z,z14,Z,Z,N⟩
 obtain ⟨e15,c⟩:=zA5 c
 refine HT.u d j (eI (y6+1)::eI (y6+1)::[]) ?_ ?_
 exact op (fun Q U W H D=>zAR ((H 12 Z).trans h12) Z e15)<|ov<|oz
 intro R w m n p d j
 obtain ⟨h1,h5,h10,h11⟩:=k4 n h1 h5 h10 h11
 have h12:=p.r 1 Z
 replace q:=q.fr m
 exact ei k (And.intro (Nat.lt_succ_self k) ⟨_,_,_,c,d,j,B,q,h1,h5,h10,h11,h12⟩)
 have c:=zAN c8 c
 refine zQ7 ?_
 obtain rfl:=si c
 exact ei _ ⟨_,Z,d,j,B,q,h5⟩
 rintro R w ⟨A,s5,es,d,j,B,q,h5⟩
 obtain rfl:=es.symm
 refine zQB d j (eR u2::eF (.rep eStr A (strB s5))::eF (.rep eStr A (strB s5))::[]) ?_ ?_
 exact om h5<|op (fun Q U W H D=>zBa ((zD2 ((q.fr W).ok 0 _ Z).1 B C).eq (D.g 0 Z)) underlying22 underlying5 underlying9)<|op (fun Q U W H D=>zA2 (D.g 0 Z))<|oz
 intro R w m n p d j
 obtain ⟨u16,h4,f_u16⟩:∃ u,R 4=u∧Rep eStr A w u (strB s5):=⟨_,Z,p 2 _ _ Z Z Z⟩
 replace q:=q.fr m
 replace q:IniOK [] A w:=q.sub [] N
 refine HT.ret ?_
 obtain rfl:=si c
 exact ⟨.inr Z,[R 4],⟨Z,N⟩,(f_u16.eq h4).down B,j⟩
def zDU (fu:Nat) (p0:Int):Option Int:=
 bd ((decide (65≤p0))&&(decide (p0≤90))) fun x1=>
 bif x1 then (
 some (IntKind.u8.wrap (p0+32))
 ) else (
 some p0
 )
theorem zGf {fu : Nat} {A : Av} {p0 : Int} {r : Int} (c : zDU fu p0 = some r) {w : World} {v0 : Value} (d : AvOK A w) (h0 : v0 = .int .u8 p0) :
 Calls prog 287 #[v0] w fun e w'=>∃ v,e = .returned v∧(v = .int .u8 r∧Fr w w'):=by
 unfold zDU at c
 obtain ⟨w0,hw0,j⟩:=pf w
 rw [fw hw0]
 refine zA3 [.tmp 2] func287 ntmps287 (by decide) Z Z (nb Z) ?_
 intro R hR
 replace h0:R 0 = .int .u8 p0:=(hR 0 _ Z).trans h0
 refine zQB d j (eU 0::[]) ?_ ?_
 exact op (fun Q U W H D=>zA2 Z)<|oz
 intro R w m n p d j
 replace h0:=k1 n h0
 refine zQ9 ?_
 refine zQ9 ?_
 obtain ⟨x1,q2,c⟩:=zAD c
 refine HT.u d j (eU p0::eB (decide (65≤p0))::eB (decide (65≤p0))::gU (true&&((decide (65≤p0))==true)) p0::gB (true&&((decide (65≤p0))==true)) (decide (p0≤90))::eB x1::[]) ?_ ?_
 exact om h0<|op (fun Q U W H D=>zDs (D.g 0 Z) Z)<|ov<|gm 2 true h0<|og 2 true (fun G Q U W H D=>zDp (D.h 0 G Z) Z)<|op (fun Q U W H D=>zAF (decide (65≤p0)) (D.g 0 Z) (fun hc=>by have a1:Q 7 = .bool (decide (p0≤90)):=D 1 _ _ _ Z Z Z Z (zAc Z (zAP hc));show _=Value.bool x1;rw [q2,hc];exact a1) (fun hc=>by show _=Value.bool x1;rw [q2,hc];exact Z))<|oz
 intro R w m n p d j
 replace h0:=k1 n h0
 have h8:=p.r 5 Z
 refine zQ2 x1 h8 (fun c3=>?_) (fun c3=>?_)
 have c:=zAO c3 c
 refine zQB d j (eU p0::eU (IntKind.u8.wrap (p0+32))::eU (IntKind.u8.wrap (p0+32))::[]) ?_ ?_
 exact om h0<|op (fun Q U W H D=>zGV (D.g 0 Z) Z)<|oa<|oz
 intro R w m n p d j
 have h2:=p.r 2 Z
 refine HT.ret ?_
 obtain rfl:=si c
 exact ⟨.inr Z,[R 2],⟨Z,N⟩,h2,j⟩
 have c:=zAN c3 c
 refine zQA ?_
 refine zQB d j (eU p0::eU p0::[]) ?_ ?_
 exact om h0<|oa<|oz
 intro R w m n p d j
 have h2:=p.r 1 Z
 refine HT.ret ?_
 obtain rfl:=si c
 exact ⟨.inr Z,[R 2],⟨Z,N⟩,h2,j⟩
def zD3 (fu:Nat) (p0:List UInt8):Option (List UInt8):=
 cl true (zDa fu p0 (fun x=>zDU fu x)) fun x1=>
 some x1
theorem zFF {fu : Nat} {A : Av} {p0 : List UInt8} {r : List UInt8} (c : zD3 fu p0 = some r) {w : World} {v0 : Value} (d : AvOK A w) (h0 : Rep eStr A w v0 p0) :
 Calls prog 247 #[v0] w fun e w'=>∃ v,e = .returned v∧(Rep eStr A w' v r∧Fr w w'):=by
 unfold zD3 at c
 obtain ⟨w0,hw0,j⟩:=pf w
 rw [fw hw0]
 refine zA3 [.tmp 2] func247 ntmps247 (by decide) Z Z (nb Z) ?_
 intro R hR
 have f_v0:=h0
 replace h0:R 0=v0:=hR 0 _ Z
 refine zQB d j (eF (.rep eStr A ([]:List UInt8))::[]) ?_ ?_
 exact op (fun Q U W H D=>zA2 ⟨_,Z,⟨_,Z,Z,by decide⟩⟩)<|oz
 intro R w m n p d j
 replace h0:=k1 n h0
 replace f_v0:=f_v0.fr m
 obtain ⟨x1,q2,c⟩:=zA4 c
 refine zQB d j (eR v0::eF (.rep eStr A x1)::eF (.rep eStr A x1)::[]) ?_ ?_
 exact om h0<|op (fun Q U W H D=>zA8 call286 (zG0 (q2 Z) (d.fr W.size) ((f_v0.fr W).eq (D.g 0 Z)) (zIL [] Z call287 (fun x r hr' w'' a p hA' ha=>zGf hr' hA' (zGb ha)))))<|op (fun Q U W H D=>zA2 (D.g 0 Z))<|oz
 intro R w m n p d j
 obtain ⟨u3,h2,f_u3⟩:∃ u,R 2=u∧Rep eStr A w u x1:=⟨_,Z,p 2 _ _ Z Z Z⟩
 refine HT.ret ?_
 obtain rfl:=si c
 exact ⟨.inr Z,[R 2],⟨Z,N⟩,(f_u3.eq h2),j⟩
def zC1 (fu:Nat) (p0:Int):Option Bool:=
 bd ((decide (97≤p0))&&(decide (p0≤122))) fun x1=>
 some x1
theorem zDY {fu : Nat} {A : Av} {p0 : Int} {r : Bool} (c : zC1 fu p0 = some r) {w : World} {v0 : Value} (d : AvOK A w) (h0 : v0 = .int .u8 p0) :
 Calls prog 288 #[v0] w fun e w'=>∃ v,e = .returned v∧(v = .bool r∧Fr w w'):=by
 unfold zC1 at c
 obtain ⟨w0,hw0,j⟩:=pf w
 rw [fw hw0]
 refine zA3 [.tmp 2] func288 ntmps288 (by decide) Z Z (nb Z) ?_
 intro R hR
 replace h0:R 0 = .int .u8 p0:=(hR 0 _ Z).trans h0
 refine zQB d j (eB false::[]) ?_ ?_
 exact op (fun Q U W H D=>zA2 Z)<|oz
 intro R w m n p d j
 replace h0:=k1 n h0
 refine zQ9 ?_
 obtain ⟨x1,q2,c⟩:=zAD c
 refine HT.u d j (eU p0::eB (decide (97≤p0))::eB (decide (97≤p0))::gU (true&&((decide (97≤p0))==true)) p0::gB (true&&((decide (97≤p0))==true)) (decide (p0≤122))::eB x1::eB x1::[]) ?_ ?_
 exact om h0<|op (fun Q U W H D=>zDs (D.g 0 Z) Z)<|ov<|gm 2 true h0<|og 2 true (fun G Q U W H D=>zDp (D.h 0 G Z) Z)<|op (fun Q U W H D=>zAF (decide (97≤p0)) (D.g 0 Z) (fun hc=>by have a1:Q 7 = .bool (decide (p0≤122)):=D 1 _ _ _ Z Z Z Z (zAc Z (zAP hc));show _=Value.bool x1;rw [q2,hc];exact a1) (fun hc=>by show _=Value.bool x1;rw [q2,hc];exact Z))<|oa<|oz
 intro R w m n p d j
 have h2:=p.r 6 Z
 refine HT.ret ?_
 obtain rfl:=si c
 exact ⟨.inr Z,[R 2],⟨Z,N⟩,h2,j⟩
def zCQ (fu:Nat) (p0:Int):Option Bool:=
 bd ((decide (48≤p0))&&(decide (p0≤57))) fun x1=>
 some x1
theorem zES {fu : Nat} {A : Av} {p0 : Int} {r : Bool} (c : zCQ fu p0 = some r) {w : World} {v0 : Value} (d : AvOK A w) (h0 : v0 = .int .u8 p0) :
 Calls prog 215 #[v0] w fun e w'=>∃ v,e = .returned v∧(v = .bool r∧Fr w w'):=by
 unfold zCQ at c
 obtain ⟨w0,hw0,j⟩:=pf w
 rw [fw hw0]
 refine zA3 [.tmp 2] func215 ntmps215 (by decide) Z Z (nb Z) ?_
 intro R hR
 replace h0:R 0 = .int .u8 p0:=(hR 0 _ Z).trans h0
 refine zQB d j (eB false::[]) ?_ ?_
 exact op (fun Q U W H D=>zA2 Z)<|oz
 intro R w m n p d j
 replace h0:=k1 n h0
 refine zQ9 ?_
 obtain ⟨x1,q2,c⟩:=zAD c
 refine HT.u d j (eU p0::eB (decide (48≤p0))::eB (decide (48≤p0))::gU (true&&((decide (48≤p0))==true)) p0::gB (true&&((decide (48≤p0))==true)) (decide (p0≤57))::eB x1::eB x1::[]) ?_ ?_
 exact om h0<|op (fun Q U W H D=>zDs (D.g 0 Z) Z)<|ov<|gm 2 true h0<|og 2 true (fun G Q U W H D=>zDp (D.h 0 G Z) Z)<|op (fun Q U W H D=>zAF (decide (48≤p0)) (D.g 0 Z) (fun hc=>by have a1:Q 7 = .bool (decide (p0≤57)):=D 1 _ _ _ Z Z Z Z (zAc Z (zAP hc));show _=Value.bool x1;rw [q2,hc];exact a1) (fun hc=>by show _=Value.bool x1;rw [q2,hc];exact Z))<|oa<|oz
 intro R w m n p d j
 have h2:=p.r 6 Z
 refine HT.ret ?_
 obtain rfl:=si c
 exact ⟨.inr Z,[R 2],⟨Z,N⟩,h2,j⟩
def zCu (fu:Nat) (p0:Int):Option Bool:=
 cl true (zC1 fu p0) fun x1=>
 bd ((decide (65≤p0))&&(decide (p0≤90))) fun x3=>
 bd (x1 || x3) fun x5=>
 cl (true&&(x5==false)) (zCQ fu p0) fun x7=>
 bd (x5 || x7) fun x9=>
 some x9
theorem zGg {fu : Nat} {A : Av} {p0 : Int} {r : Bool} (c : zCu fu p0 = some r) {w : World} {v0 : Value} (d : AvOK A w) (h0 : v0 = .int .u8 p0) :
 Calls prog 294 #[v0] w fun e w'=>∃ v,e = .returned v∧(v = .bool r∧Fr w w'):=by
 unfold zCu at c
 obtain ⟨w0,hw0,j⟩:=pf w
 rw [fw hw0]
 refine zA3 [.tmp 2] func294 ntmps294 (by decide) Z Z (nb Z) ?_
 intro R hR
 replace h0:R 0 = .int .u8 p0:=(hR 0 _ Z).trans h0
 refine zQB d j (eB false::[]) ?_ ?_
 exact op (fun Q U W H D=>zA2 Z)<|oz
 intro R w m n p d j
 replace h0:=k1 n h0
 refine zQ9 ?_
 obtain ⟨x1,q2,c⟩:=zA4 c
 obtain ⟨x3,q4,c⟩:=zAD c
 obtain ⟨x5,q6,c⟩:=zAD c
 obtain ⟨x7,q8,c⟩:=zA4 c
 obtain ⟨x9,q10,c⟩:=zAD c
 refine HT.u d j (eU p0::eB x1::eB x1::gU (true&&(x1==false)) p0::gB (true&&(x1==false)) (decide (65≤p0))::gB (true&&(x1==false)) (decide (65≤p0))::gU ((true&&(x1==false))&&((decide (65≤p0))==true)) p0::gB ((true&&(x1==false))&&((decide (65≤p0))==true)) (decide (p0≤90))::gB (true&&(x1==false)) x3::eB x5::eB x5::gU (true&&(x5==false)) p0::gB (true&&(x5==false)) x7::eB x9::eB x9::[]) ?_ ?_
 exact om h0<|op (fun Q U W H D=>zA8 call288 (zDY (q2 Z) (d.fr W.size) (D.g 0 Z)))<|ov<|gm 2 false h0<|og 2 false (fun G Q U W H D=>zDs (D.h 0 G Z) Z)<|og 2 false (fun G Q U W H D=>zBk (D.h 0 G Z))<|gm 5 true h0<|og 5 true (fun G Q U W H D=>zDp (D.h 0 G Z) Z)<|og 2 false (fun G Q U W H D=>zAF (decide (65≤p0)) (D.h 0 G Z) (fun hc=>by have a1:Q 10 = .bool (decide (p0≤90)):=D 1 _ _ _ Z Z Z Z (zAc G (zAP hc));show _=Value.bool x3;rw [q4,hc];exact a1) (fun hc=>by show _=Value.bool x3;rw [q4,hc];exact Z))<|op (fun Q U W H D=>zAF x1 (D.g 0 Z) (fun hc=>by show _=Value.bool x5;rw [q6,hc];exact Z) (fun hc=>by have a2:Q 11 = .bool x3:=D 1 _ _ _ Z Z Z Z (zAc Z (zAP hc));show _=Value.bool x5;rw [q6,hc];exact a2))<|ov<|gm 10 false h0<|og 10 false (fun G Q U W H D=>zA8 call215 (zES (q8 G) (d.fr W.size) (D.h 0 G Z)))<|op (fun Q U W H D=>zAF x5 (D.g 0 Z) (fun hc=>by show _=Value.bool x9;rw [q10,hc];exact Z) (fun hc=>by have a2:Q 15 = .bool x7:=D 1 _ _ _ Z Z Z Z (zAc Z (zAP hc));show _=Value.bool x9;rw [q10,hc];exact a2))<|oa<|oz
 intro R w m n p d j
 have h2:=p.r 14 Z
 refine HT.ret ?_
 obtain rfl:=si c
 exact ⟨.inr Z,[R 2],⟨Z,N⟩,h2,j⟩
def zD6 (fu:Nat) (p0:Int):Option Int:=
 cl true (zCu fu p0) fun x1=>
 bif x1 then (
 some p0
 ) else (
 some 32
 )
theorem zG2 {fu : Nat} {A : Av} {p0 : Int} {r : Int} (c : zD6 fu p0 = some r) {w : World} {v0 : Value} (d : AvOK A w) (h0 : v0 = .int .u8 p0) :
 Calls prog 293 #[v0] w fun e w'=>∃ v,e = .returned v∧(v = .int .u8 r∧Fr w w'):=by
 unfold zD6 at c
 obtain ⟨w0,hw0,j⟩:=pf w
 rw [fw hw0]
 refine zA3 [.tmp 2] func293 ntmps293 (by decide) Z Z (nb Z) ?_
 intro R hR
 replace h0:R 0 = .int .u8 p0:=(hR 0 _ Z).trans h0
 refine zQB d j (eU 0::[]) ?_ ?_
 exact op (fun Q U W H D=>zA2 Z)<|oz
 intro R w m n p d j
 replace h0:=k1 n h0
 refine zQ9 ?_
 obtain ⟨x1,q2,c⟩:=zA4 c
 refine zQB d j (eU p0::eB x1::[]) ?_ ?_
 exact om h0<|op (fun Q U W H D=>zA8 call294 (zGg (q2 Z) (d.fr W.size) (D.g 0 Z)))<|oz
 intro R w m n p d j
 replace h0:=k1 n h0
 have h4:=p.r 1 Z
 refine zQ2 x1 h4 (fun c3=>?_) (fun c3=>?_)
 have c:=zAO c3 c
 refine zQB d j (eU p0::eU p0::[]) ?_ ?_
 exact om h0<|oa<|oz
 intro R w m n p d j
 have h2:=p.r 1 Z
 refine HT.ret ?_
 obtain rfl:=si c
 exact ⟨.inr Z,[R 2],⟨Z,N⟩,h2,j⟩
 have c:=zAN c3 c
 refine zQA ?_
 refine zQB d j (eU 32::[]) ?_ ?_
 exact op (fun Q U W H D=>zA2 Z)<|oz
 intro R w m n p d j
 have h2:=p.r 0 Z
 refine HT.ret ?_
 obtain rfl:=si c
 exact ⟨.inr Z,[R 2],⟨Z,N⟩,h2,j⟩
def zCx (fu:Nat) (p0:List UInt8):Option (List UInt8):=
 cl true (zG9 fu p0 ([39]:List UInt8) ([]:List UInt8)) fun x1=>
 cl true (zDa fu x1 (fun x=>zD6 fu x)) fun x3=>
 some x3
theorem zGd {fu : Nat} {A : Av} {p0 : List UInt8} {r : List UInt8} (c : zCx fu p0 = some r) {w : World} {v0 : Value} (d : AvOK A w) (hG : GTab w) (h0 : Rep eStr A w v0 p0) :
 Calls prog 253 #[v0] w fun e w'=>∃ v,e = .returned v∧(Rep eStr A w' v r∧Fr w w'):=by
 unfold zCx at c
 obtain ⟨w0,hw0,j⟩:=pf w
 rw [fw hw0]
 have hG0:GTab w0:=hw0 ▸ hG
 refine zA3 [.tmp 2] func253 ntmps253 (by decide) Z Z (nb Z) ?_
 intro R hR
 have f_v0:=h0
 replace h0:R 0=v0:=hR 0 _ Z
 refine zQB d j (eF (.rep eStr A ([]:List UInt8))::[]) ?_ ?_
 exact op (fun Q U W H D=>zA2 ⟨_,Z,⟨_,Z,Z,by decide⟩⟩)<|oz
 intro R w m n p d j
 replace h0:=k1 n h0
 replace f_v0:=f_v0.fr m
 obtain ⟨x1,q2,c⟩:=zA4 c
 obtain ⟨x3,q4,c⟩:=zA4 c
 refine zQB d j (eR v0::eF (.rep eStr A x1)::eF (.rep eStr A x3)::eF (.rep eStr A x3)::[]) ?_ ?_
 exact om h0<|op (fun Q U W H D=>zA8 call292 (zIb (q2 Z) (d.fr W.size) (hG0.fr (j.trans W)) ((f_v0.fr W).eq (D.g 0 Z)) ⟨_,Z,⟨_,Z,Z,by decide⟩⟩ ⟨_,Z,⟨_,Z,Z,by decide⟩⟩))<|op (fun Q U W H D=>zA8 call286 (zG0 (q4 Z) (d.fr W.size) (D.g 0 Z) (zIL [] Z call293 (fun x r hr' w'' a p hA' ha=>zG2 hr' hA' (zGb ha)))))<|op (fun Q U W H D=>zA2 (D.g 0 Z))<|oz
 intro R w m n p d j
 obtain ⟨u5,h2,f_u5⟩:∃ u,R 2=u∧Rep eStr A w u x3:=⟨_,Z,p 3 _ _ Z Z Z⟩
 refine HT.ret ?_
 obtain rfl:=si c
 exact ⟨.inr Z,[R 2],⟨Z,N⟩,(f_u5.eq h2),j⟩
def zAd (fu:Nat) (p0:List UInt8) (p1:List UInt8):Option Bool:=
 ck (!(true&&((decide ((p1.length:Int)≤(p0.length:Int)))==true)) || i64B ((p0.length:Int)-(p1.length:Int))) <|
 ck (!(true&&((decide ((p1.length:Int)≤(p0.length:Int)))==true)) || subR ((p0.length:Int)-(p1.length:Int)) (p0.length:Int) p0.length) <|
 bd ((decide ((p1.length:Int)≤(p0.length:Int)))&&((subL p0 ((p0.length:Int)-(p1.length:Int)) (p0.length:Int))==p1)) fun x3=>
 some x3
theorem zCW {fu : Nat} {A : Av} {p0 : List UInt8} {p1 : List UInt8} {r : Bool} (c : zAd fu p0 p1 = some r) {w : World} {v0 : Value} {v1 : Value} (d : AvOK A w) (h0 : Rep eStr A w v0 p0) (h1 : Rep eStr A w v1 p1) :
 Calls prog 267 #[v0,v1] w fun e w'=>∃ v,e = .returned v∧(v = .bool r∧Fr w w'):=by
 unfold zAd at c
 obtain ⟨w0,hw0,j⟩:=pf w
 rw [fw hw0]
 refine zA3 [.tmp 4] func267 ntmps267 (by decide) Z Z (nb Z) ?_
 intro R hR
 have f_v0:=h0
 replace h0:R 0=v0:=hR 0 _ Z
 have f_v1:=h1
 replace h1:R 1=v1:=hR 1 _ Z
 refine zQB d j (eB false::[]) ?_ ?_
 exact op (fun Q U W H D=>zA2 Z)<|oz
 intro R w m n p d j
 obtain ⟨h0,h1⟩:=k2 n h0 h1
 replace f_v0:=f_v0.fr m
 replace f_v1:=f_v1.fr m
 refine zQ9 ?_
 obtain ⟨e1,e2,c⟩:=ck2 c
 obtain ⟨x3,q4,c⟩:=zAD c
 refine HT.u d j (eR v0::eI (p0.length:Int)::eR v1::eI (p1.length:Int)::eB (decide ((p1.length:Int)≤(p0.length:Int)))::eB (decide ((p1.length:Int)≤(p0.length:Int)))::gR (true&&((decide ((p1.length:Int)≤(p0.length:Int)))==true)) v0::gR (true&&((decide ((p1.length:Int)≤(p0.length:Int)))==true)) v0::gI (true&&((decide ((p1.length:Int)≤(p0.length:Int)))==true)) (p0.length:Int)::gR (true&&((decide ((p1.length:Int)≤(p0.length:Int)))==true)) v1::gI (true&&((decide ((p1.length:Int)≤(p0.length:Int)))==true)) (p1.length:Int)::gI (true&&((decide ((p1.length:Int)≤(p0.length:Int)))==true)) ((p0.length:Int)-(p1.length:Int))::gF (true&&((decide ((p1.length:Int)≤(p0.length:Int)))==true)) (.rep eStr A (subL p0 ((p0.length:Int)-(p1.length:Int)) (p0.length:Int)))::gR (true&&((decide ((p1.length:Int)≤(p0.length:Int)))==true)) v1::gB (true&&((decide ((p1.length:Int)≤(p0.length:Int)))==true)) ((subL p0 ((p0.length:Int)-(p1.length:Int)) (p0.length:Int))==p1)::eB x3::eB x3::[]) ?_ ?_
 exact om h0<|op (fun Q U W H D=>zAJ ((f_v0.fr W).eq (D.g 0 Z)) underlying9)<|om h1<|op (fun Q U W H D=>zAJ ((f_v1.fr W).eq (D.g 0 Z)) underlying9)<|op (fun Q U W H D=>zDs (D.g 0 Z) (D.g 1 Z))<|ov<|gm 5 true h0<|gm 5 true h0<|og 5 true (fun G Q U W H D=>zAJ ((f_v0.fr W).eq (D.h 0 G Z)) underlying9)<|gm 5 true h1<|og 5 true (fun G Q U W H D=>zAJ ((f_v1.fr W).eq (D.h 0 G Z)) underlying9)<|og 5 true (fun G Q U W H D=>zAb (D.h 0 G Z) (D.h 1 G Z) (gd e1 G))<|og 5 true (fun G Q U W H D=>zGN ((f_v0.fr W).eq (D.h 0 G Z)) (D.h 1 G Z) underlying9  (gd e2 G))<|gm 5 true h1<|og 5 true (fun G Q U W H D=>zBD (D.h 0 G Z) ((f_v1.fr W).eq (D.h 1 G Z)))<|op (fun Q U W H D=>zAF (decide ((p1.length:Int)≤(p0.length:Int))) (D.g 0 Z) (fun hc=>by have a1:Q 19 = .bool ((subL p0 ((p0.length:Int)-(p1.length:Int)) (p0.length:Int))==p1):=D 1 _ _ _ Z Z Z Z (zAc Z (zAP hc));show _=Value.bool x3;rw [q4,hc];exact a1) (fun hc=>by show _=Value.bool x3;rw [q4,hc];exact Z))<|oa<|oz
 intro R w m n p d j
 have h4:=p.r 16 Z
 refine HT.ret ?_
 obtain rfl:=si c
 exact ⟨.inr Z,[R 4],⟨Z,N⟩,h4,j⟩
def zAt (fu:Nat) (p0:List UInt8) (p1:List UInt8):Option (List UInt8):=
 cl true (zAd fu p0 p1) fun x1=>
 bif x1 then (
 ck (i64B ((p0.length:Int)-(p1.length:Int))) <|
 ck (subR 0 ((p0.length:Int)-(p1.length:Int)) p0.length) <|
 some (subL p0 0 ((p0.length:Int)-(p1.length:Int)))
 ) else (
 some p0
 )
theorem zDl {fu : Nat} {A : Av} {p0 : List UInt8} {p1 : List UInt8} {r : List UInt8} (c : zAt fu p0 p1 = some r) {w : World} {v0 : Value} {v1 : Value} (d : AvOK A w) (h0 : Rep eStr A w v0 p0) (h1 : Rep eStr A w v1 p1) :
 Calls prog 316 #[v0,v1] w fun e w'=>∃ v,e = .returned v∧(Rep eStr A w' v r∧Fr w w'):=by
 unfold zAt at c
 obtain ⟨w0,hw0,j⟩:=pf w
 rw [fw hw0]
 refine zA3 [.tmp 4] func316 ntmps316 (by decide) Z Z (nb Z) ?_
 intro R hR
 have f_v0:=h0
 replace h0:R 0=v0:=hR 0 _ Z
 have f_v1:=h1
 replace h1:R 1=v1:=hR 1 _ Z
 refine zQB d j (eF (.rep eStr A ([]:List UInt8))::[]) ?_ ?_
 exact op (fun Q U W H D=>zA2 ⟨_,Z,⟨_,Z,Z,by decide⟩⟩)<|oz
 intro R w m n p d j
 obtain ⟨h0,h1⟩:=k2 n h0 h1
 replace f_v0:=f_v0.fr m
 replace f_v1:=f_v1.fr m
 refine zQ9 ?_
 obtain ⟨x1,q2,c⟩:=zA4 c
 refine zQB d j (eR v0::eR v1::eB x1::[]) ?_ ?_
 exact om h0<|om h1<|op (fun Q U W H D=>zA8 call267 (zCW (q2 Z) (d.fr W.size) ((f_v0.fr W).eq (D.g 0 Z)) ((f_v1.fr W).eq (D.g 1 Z))))<|oz
 intro R w m n p d j
 obtain ⟨h0,h1⟩:=k2 n h0 h1
 have h7:=p.r 2 Z
 replace f_v0:=f_v0.fr m
 replace f_v1:=f_v1.fr m
 refine zQ2 x1 h7 (fun c3=>?_) (fun c3=>?_)
 have c:=zAO c3 c
 obtain ⟨e4,e5,c⟩:=ck2 c
 refine zQB d j (eR v0::eR v0::eI (p0.length:Int)::eR v1::eI (p1.length:Int)::eI ((p0.length:Int)-(p1.length:Int))::eF (.rep eStr A (subL p0 0 ((p0.length:Int)-(p1.length:Int))))::eF (.rep eStr A (subL p0 0 ((p0.length:Int)-(p1.length:Int))))::[]) ?_ ?_
 exact om h0<|om h0<|op (fun Q U W H D=>zAJ ((f_v0.fr W).eq (D.g 0 Z)) underlying9)<|om h1<|op (fun Q U W H D=>zAJ ((f_v1.fr W).eq (D.g 0 Z)) underlying9)<|op (fun Q U W H D=>zAb (D.g 0 Z) (D.g 1 Z) e4)<|op (fun Q U W H D=>zEC ((f_v0.fr W).eq (D.g 0 Z)) (D.g 1 Z) underlying9  e5)<|op (fun Q U W H D=>zA2 (D.g 0 Z))<|oz
 intro R w m n p d j
 obtain ⟨u6,h4,f_u6⟩:∃ u,R 4=u∧Rep eStr A w u (subL p0 0 ((p0.length:Int)-(p1.length:Int))):=⟨_,Z,p 7 _ _ Z Z Z⟩
 refine HT.ret ?_
 obtain rfl:=si c
 exact ⟨.inr Z,[R 4],⟨Z,N⟩,(f_u6.eq h4),j⟩
 have c:=zAN c3 c
 refine zQA ?_
 refine zQB d j (eR v0::eR v0::[]) ?_ ?_
 exact om h0<|oa<|oz
 intro R w m n p d j
 have h4:=p.r 1 Z
 replace f_v0:=f_v0.fr m
 refine HT.ret ?_
 obtain rfl:=si c
 exact ⟨.inr Z,[R 4],⟨Z,N⟩,(f_v0.eq h4),j⟩
def zBS (fu:Nat) (p0:List UInt8) (p1:List UInt8):Option (List UInt8):=
 cl true (zAt fu p0 p1) fun x1=>
 some x1
theorem zFf {fu : Nat} {A : Av} {p0 : List UInt8} {p1 : List UInt8} {r : List UInt8} (c : zBS fu p0 p1 = some r) {w : World} {v0 : Value} {v1 : Value} (d : AvOK A w) (h0 : Rep eStr A w v0 p0) (h1 : Rep eStr A w v1 p1) :
 Calls prog 291 #[v0,v1] w fun e w'=>∃ v,e = .returned v∧(Rep eStr A w' v r∧Fr w w'):=by
 unfold zBS at c
 obtain ⟨w0,hw0,j⟩:=pf w
 rw [fw hw0]
 refine zA3 [.tmp 4] func291 ntmps291 (by decide) Z Z (nb Z) ?_
 intro R hR
 have f_v0:=h0
 replace h0:R 0=v0:=hR 0 _ Z
 have f_v1:=h1
 replace h1:R 1=v1:=hR 1 _ Z
 refine zQB d j (eF (.rep eStr A ([]:List UInt8))::[]) ?_ ?_
 exact op (fun Q U W H D=>zA2 ⟨_,Z,⟨_,Z,Z,by decide⟩⟩)<|oz
 intro R w m n p d j
 obtain ⟨h0,h1⟩:=k2 n h0 h1
 replace f_v0:=f_v0.fr m
 replace f_v1:=f_v1.fr m
 obtain ⟨x1,q2,c⟩:=zA4 c
 refine zQB d j (eR v0::eR v1::eF (.rep eStr A x1)::eF (.rep eStr A x1)::[]) ?_ ?_
 exact om h0<|om h1<|op (fun Q U W H D=>zA8 call316 (zDl (q2 Z) (d.fr W.size) ((f_v0.fr W).eq (D.g 0 Z)) ((f_v1.fr W).eq (D.g 1 Z))))<|op (fun Q U W H D=>zA2 (D.g 0 Z))<|oz
 intro R w m n p d j
 obtain ⟨u3,h4,f_u3⟩:∃ u,R 4=u∧Rep eStr A w u x1:=⟨_,Z,p 3 _ _ Z Z Z⟩
 refine HT.ret ?_
 obtain rfl:=si c
 exact ⟨.inr Z,[R 4],⟨Z,N⟩,(f_u3.eq h4),j⟩
def zAn (fu : Nat) (p0 : List UInt8) : Nat → Int → (List Int) → Option (List Int)
 | 0,_,_=>none
 | k+1,y5,y6=>
 bif (decide (y5<(p0.length:Int))) then (
 ck (inR y5 p0.length) <|
 ck (!((true&&(((bAt p0 y5) != 32)==false))&&((decide (0<(y6.length:Int)))==true)) || i64B ((y6.length:Int)-1)) <|
 ck (!((true&&(((bAt p0 y5) != 32)==false))&&((decide (0<(y6.length:Int)))==true)) || inR ((y6.length:Int)-1) y6.length) <|
 bd ((decide (0<(y6.length:Int)))&&((gtD y6 ((y6.length:Int)-1)) != 32)) fun x11=>
 bd (((bAt p0 y5) != 32) || x11) fun x13=>
 bif x13 then (
 ck (inR y5 p0.length) <|
 ck (zC2 (y6.length+([(bAt p0 y5)]:List Int).length)) <|
 ck (i64B (y5+1)) <|
 zAn fu p0 k (y5+1) (y6++([(bAt p0 y5)]:List Int))
 ) else (
 ck (i64B (y5+1)) <|
 zAn fu p0 k (y5+1) y6
 )
 ) else (
 some y6
 )
def zC3 (fu:Nat) (p0:List UInt8):Option (List UInt8):=
 cl true (zAn fu p0 fu 0 ([]:List Int)) fun s4=>
 cl true (zBS fu (strB s4) ([32]:List UInt8)) fun x21=>
 some x21
theorem zFY {fu : Nat} {A0 : Av} {p0 : List UInt8} {r : List UInt8} (c : zC3 fu p0 = some r) {w : World} {v0 : Value} (d : AvOK A0 w) (h0 : Rep eStr A0 w v0 p0) :
 Calls prog 252 #[v0] w fun e w'=>∃ v,e = .returned v∧(Rep eStr A0 w' v r∧Fr w w'):=by
 unfold zC3 at c
 obtain ⟨w0,hw0,j,C⟩:=pw d
 have hA00:AvOK A0 w0:=C
 rw [fw hw0]
 obtain ⟨A,hAe,B,d,q⟩:=pa d
 refine zA3 [.tmp 2] func252 ntmps252 (by decide) Z Z (nb Z) ?_
 intro R hR
 have f_v0:Rep eStr A w v0 p0:=hAe ▸ h0
 replace h0:R 0=v0:=hR 0 _ Z
 refine zQB d j (eF (.rep eStr A ([]:List UInt8))::[]) ?_ ?_
 exact op (fun Q U W H D=>zA2 ⟨_,Z,⟨_,Z,Z,by decide⟩⟩)<|oz
 intro R w m n p d j
 replace h0:=k1 n h0
 replace f_v0:=f_v0.fr m
 replace q:=q.fr m
 refine zQB d j (eR (.slice none 0 0)::[]) ?_ ?_
 exact op (fun Q U W H D=>zA2 Z)<|oz
 intro R w m n p d j
 replace h0:=k1 n h0
 obtain ⟨u1,n_u1⟩:∃ u,u=Value.slice none 0 0:=⟨_,Z⟩
 have h3:R 3=u1:=(p 0 _ _ Z Z Z).trans n_u1.symm
 replace f_v0:=f_v0.fr m
 replace q:=q.fr m
 replace q:=q.nilcons (u:=u1) n_u1 w0.heap.size 5 (eInt .u8)
 refine zQ9 ?_
 refine zQB d j (eR v0::eI (p0.length:Int)::eI 0::[]) ?_ ?_
 exact om h0<|op (fun Q U W H D=>zAJ ((f_v0.fr W).eq (D.g 0 Z)) underlying9)<|op (fun Q U W H D=>zBk Z)<|oz
 intro R w m n p d j
 obtain ⟨h0,h3⟩:=k2 n h0 h3
 have h6:=p.r 1 Z
 have h7:=p.r 2 Z
 replace f_v0:=f_v0.fr m
 replace q:=q.fr m
 obtain ⟨rl2,q3,c⟩:=zA4 c
 replace q3:=q3 Z
 refine zQ4 (fun R w=>∃ A:Av,∃ (s4:(List Int)) (uo_u1:Value),rl2=s4∧AvOK A w∧Fr w0 w∧(∀ b o,A0 b o→A b o)∧IniOK [ob uo_u1 (.vec w0.heap.size 5 (eInt .u8) s4)] A w∧R 3=uo_u1) ?_ ?_
 refine HT.block ?_
 refine zQ8 (fun k R w=>∃ A:Av,∃ (y5:Int) (y6:List Int) (ul_u1:Value),zAn fu p0 k y5 y6=some rl2∧AvOK A w∧Fr w0 w∧(∀ b o,A0 b o→A b o)∧IniOK [ob ul_u1 (.vec w0.heap.size 5 (eInt .u8) y6)] A w∧R 0=v0∧R 3=ul_u1∧R 6 = .int .i64 (p0.length:Int)∧R 7 = .int .i64 y5∧Rep eStr A w v0 p0) fu ⟨_,_,_,u1,q3,d,j,B,q,h0,h3,h6,h7,f_v0⟩ ?_
 have hr0:=c;clear c q3
 rintro k R w ⟨A,y5,y6,ul_u1,c,d,j,B,q,h0,h3,h6,h7,f_v0⟩
 rcases k with _ | k
 cases (show none=some _ from c)
 rw [zAn] at c
 refine zQB d j (eB (decide (y5<(p0.length:Int)))::[]) ?_ ?_
 exact op (fun Q U W H D=>zAu ((H 7 Z).trans h7) ((H 6 Z).trans h6))<|oz
 intro R w m n p d j
 obtain ⟨h0,h3,h6,h7⟩:=k4 n h0 h3 h6 h7
 have h8:=p.r 0 Z
 replace f_v0:=f_v0.fr m
 replace q:=q.fr m
 refine zQ9 ?_
 refine zQ2 (decide (y5<(p0.length:Int))) h8 (fun c7=>?_) (fun c7=>?_)
 have c:=zAO c7 c
 refine zQA ?_
 refine zQ9 ?_
 refine HT.block ?_
 refine zQB d j (eI y5::eI y5::[]) ?_ ?_
 exact om h7<|oa<|oz
 intro R w m n p d j
 obtain ⟨h0,h3,h6,h7⟩:=k4 n h0 h3 h6 h7
 have h4:=p.r 1 Z
 replace f_v0:=f_v0.fr m
 replace q:=q.fr m
 refine zQ9 ?_
 obtain ⟨e8,e9,e10,c⟩:=ck3 c
 obtain ⟨x11,q12,c⟩:=zAD c
 obtain ⟨x13,q14,c⟩:=zAD c
 refine HT.u d j (eR v0::eI y5::eU (bAt p0 y5)::eB ((bAt p0 y5) != 32)::eB ((bAt p0 y5) != 32)::gR (true&&(((bAt p0 y5) != 32)==false)) ul_u1::gI (true&&(((bAt p0 y5) != 32)==false)) (y6.length:Int)::gB (true&&(((bAt p0 y5) != 32)==false)) (decide (0<(y6.length:Int)))::gB (true&&(((bAt p0 y5) != 32)==false)) (decide (0<(y6.length:Int)))::gR ((true&&(((bAt p0 y5) != 32)==false))&&((decide (0<(y6.length:Int)))==true)) ul_u1::gR ((true&&(((bAt p0 y5) != 32)==false))&&((decide (0<(y6.length:Int)))==true)) ul_u1::gI ((true&&(((bAt p0 y5) != 32)==false))&&((decide (0<(y6.length:Int)))==true)) (y6.length:Int)::gI ((true&&(((bAt p0 y5) != 32)==false))&&((decide (0<(y6.length:Int)))==true)) ((y6.length:Int)-1)::gR ((true&&(((bAt p0 y5) != 32)==false))&&((decide (0<(y6.length:Int)))==true)) (vptr ul_u1 (((y6.length:Int)-1).toNat*1))::gU ((true&&(((bAt p0 y5) != 32)==false))&&((decide (0<(y6.length:Int)))==true)) (gtD y6 ((y6.length:Int)-1))::gB ((true&&(((bAt p0 y5) != 32)==false))&&((decide (0<(y6.length:Int)))==true)) ((gtD y6 ((y6.length:Int)-1)) != 32)::gB (true&&(((bAt p0 y5) != 32)==false)) x11::eB x13::[]) ?_ ?_
 exact om h0<|om h4<|op (fun Q U W H D=>zAB ((f_v0.fr W).eq (D.g 0 Z)) (D.g 1 Z) underlying9 e8)<|op (fun Q U W H D=>zFq (D.g 0 Z) Z)<|ov<|gm 4 false h3<|og 4 false (fun G Q U W H D=>zD0 (q.ok 0 _ Z).1 (D.h 0 G Z) underlying22)<|og 4 false (fun G Q U W H D=>zCM (D.h 0 G Z) Z)<|og 4 false (fun G Q U W H D=>zBk (D.h 0 G Z))<|gm 8 true h3<|gm 8 true h3<|og 8 true (fun G Q U W H D=>zD0 (q.ok 0 _ Z).1 (D.h 0 G Z) underlying22)<|og 8 true (fun G Q U W H D=>zAb (D.h 0 G Z) Z (gd e9 G))<|og 8 true (fun G Q U W H D=>zAL (q.ok 0 _ Z).1 (D.h 0 G Z) (D.h 1 G Z) underlying22 sizeOf5 (gd e10 G) Z)<|og 8 true (fun G Q U W H D=>OpF.int (zAw ((q.fr W).ok 0 _ Z).1 (D.h 0 G Z) (gd e10 G) Z (Fld.id _) Z isAgg5 sizeOf5))<|og 8 true (fun G Q U W H D=>zFq (D.h 0 G Z) Z)<|og 4 false (fun G Q U W H D=>zAF (decide (0<(y6.length:Int))) (D.h 0 G Z) (fun hc=>by have a1:Q 25 = .bool ((gtD y6 ((y6.length:Int)-1)) != 32):=D 1 _ _ _ Z Z Z Z (zAc G (zAP hc));show _=Value.bool x11;rw [q12,hc];exact a1) (fun hc=>by show _=Value.bool x11;rw [q12,hc];exact Z))<|op (fun Q U W H D=>zAF ((bAt p0 y5) != 32) (D.g 0 Z) (fun hc=>by show _=Value.bool x13;rw [q14,hc];exact Z) (fun hc=>by have a2:Q 26 = .bool x11:=D 1 _ _ _ Z Z Z Z (zAc Z (zAP hc));show _=Value.bool x13;rw [q14,hc];exact a2))<|oz
 intro R w m n p d j
 obtain ⟨h0,h3,h4,h6,h7⟩:=k5 n h0 h3 h4 h6 h7
 have h27:=p.r 17 Z
 replace f_v0:=f_v0.fr m
 replace q:=q.fr m
 refine zQ2 x13 h27 (fun c15=>?_) (fun c15=>?_)
 have c:=zAO c15 c
 obtain ⟨e16,e17,c⟩:=ck2 c
 refine zQF [ob ul_u1 (.vec w0.heap.size 5 (eInt .u8) y6)] (rR ul_u1::rR v0::rI y5::rU (bAt p0 y5)::(rF fun A=>.rep (eSl (eInt .u8)) A ([(bAt p0 y5)]:List Int))::⟨_,true,[0],some (.vec w0.heap.size 5 (eInt .u8) (y6++([(bAt p0 y5)]:List Int))),true,fun A=>.any⟩::⟨_,true,[6],some (.vec w0.heap.size 5 (eInt .u8) (y6++([(bAt p0 y5)]:List Int))),true,fun A=>.any⟩::[]) (ur (ur (ur (ur (up (ua (ua (UAll.nil)))))))) q d ?_ ?_
 exact rm h3<|rm h0<|rm h4<|rp (fun V Q U O D=>zAB ((f_v0.stp O.stp).eq (D.g 0 Z)) (D.g 1 Z) underlying9 e16)<|rp (fun V Q U O D=>zB6 [_] (E:=eInt .u8) ⟨(zAa.eq (D.g 0 Z)),N⟩ underlying22 sizeOf5 zeroValue5 Z Z Z O.av)<|rc (OblR.took 0 _ _ Z Z Z Z Z fun V Q U O D u X Y J L M=>by have a0:Q 28=ul_u1:=D.g 0 Z;have a1:Rep (eSl (eInt .u8)) V U (Q 32) ([(bAt p0 y5)]:List Int):=D.g 1 Z;exact zAx (a0.trans (J _ Z).symm) X Y (Nat.le_trans j.size O.ch.size) a1 underlying22 el_5 e17)<|rc (OblR.took 6 _ _ Z Z Z Z Z fun V Q U O D u X Y J L M=>by exact zAK (L _ _ Z Z Z Z).symm X Y)<|rz
 intro done ρ σ A R w y s
 obtain ⟨h0,h6,h7⟩:=k3 s.rg h0 h6 h7
 obtain ⟨u18,e_u18⟩:∃ u,ρ 7=u:=⟨_,Z⟩
 have h3:=s.ov y 7 6 e_u18
 replace f_v0:=f_v0.stp s.stp
 obtain ⟨B,j,d⟩:=s.s B C j q ⟨Z,N⟩
 replace q:=s.left y [(7,ob u18 (.vec w0.heap.size 5 (eInt .u8) (y6++([(bAt p0 y5)]:List Int))))] ⟨Z,Z,e_u18,Z,Z,N⟩
 obtain ⟨e19,c⟩:=zA5 c
 refine HT.u d j (eI (y5+1)::eI (y5+1)::[]) ?_ ?_
 exact op (fun Q U W H D=>zAR ((H 7 Z).trans h7) Z e19)<|ov<|oz
 intro R w m n p d j
 obtain ⟨h0,h3,h6⟩:=k3 n h0 h3 h6
 have h7:=p.r 1 Z
 replace f_v0:=f_v0.fr m
 replace q:=q.fr m
 exact ei k (And.intro (Nat.lt_succ_self k) ⟨_,_,_,u18,c,d,j,B,q,h0,h3,h6,h7,f_v0⟩)
 have c:=zAN c15 c
 refine zQA ?_
 obtain ⟨e20,c⟩:=zA5 c
 refine HT.u d j (eI (y5+1)::eI (y5+1)::[]) ?_ ?_
 exact op (fun Q U W H D=>zAR ((H 7 Z).trans h7) Z e20)<|ov<|oz
 intro R w m n p d j
 obtain ⟨h0,h3,h6⟩:=k3 n h0 h3 h6
 have h7:=p.r 1 Z
 replace f_v0:=f_v0.fr m
 replace q:=q.fr m
 exact ei k (And.intro (Nat.lt_succ_self k) ⟨_,_,_,ul_u1,c,d,j,B,q,h0,h3,h6,h7,f_v0⟩)
 have c:=zAN c7 c
 refine zQ7 ?_
 obtain rfl:=si c
 exact ei _ ⟨_,ul_u1,Z,d,j,B,q,h3⟩
 rintro R w ⟨A,s4,uo_u1,es,d,j,B,q,h3⟩
 obtain rfl:=es.symm
 obtain ⟨x21,q22,c⟩:=zA4 c
 refine zQB d j (eR uo_u1::eF (.rep eStr A (strB s4))::eF (.rep eStr A x21)::eF (.rep eStr A x21)::[]) ?_ ?_
 exact om h3<|op (fun Q U W H D=>zBa ((zD2 ((q.fr W).ok 0 _ Z).1 B C).eq (D.g 0 Z)) underlying22 underlying5 underlying9)<|op (fun Q U W H D=>zA8 call291 (zFf (q22 Z) (d.fr W.size) (D.g 0 Z) ⟨_,Z,⟨_,Z,Z,by decide⟩⟩))<|op (fun Q U W H D=>zA2 (D.g 0 Z))<|oz
 intro R w m n p d j
 obtain ⟨u23,h2,f_u23⟩:∃ u,R 2=u∧Rep eStr A w u x21:=⟨_,Z,p 3 _ _ Z Z Z⟩
 replace q:=q.fr m
 replace q:IniOK [] A w:=q.sub [] N
 refine HT.ret ?_
 obtain rfl:=si c
 exact ⟨.inr Z,[R 2],⟨Z,N⟩,(f_u23.eq h2).down B,j⟩
def zCH (fu:Nat) (p0:List UInt8):Option (List UInt8):=
 cl true (zD3 fu p0) fun x1=>
 cl true (zCx fu x1) fun x3=>
 cl true (zC3 fu x3) fun x5=>
 some x5
theorem zDx {fu : Nat} {A : Av} {p0 : List UInt8} {r : List UInt8} (c : zCH fu p0 = some r) {w : World} {v0 : Value} (d : AvOK A w) (hG : GTab w) (h0 : Rep eStr A w v0 p0) :
 Calls prog 218 #[v0] w fun e w'=>∃ v,e = .returned v∧(Rep eStr A w' v r∧Fr w w'):=by
 unfold zCH at c
 obtain ⟨w0,hw0,j⟩:=pf w
 rw [fw hw0]
 have hG0:GTab w0:=hw0 ▸ hG
 refine zA3 [.tmp 2] func218 ntmps218 (by decide) Z Z (nb Z) ?_
 intro R hR
 have f_v0:=h0
 replace h0:R 0=v0:=hR 0 _ Z
 refine zQB d j (eF (.rep eStr A ([]:List UInt8))::[]) ?_ ?_
 exact op (fun Q U W H D=>zA2 ⟨_,Z,⟨_,Z,Z,by decide⟩⟩)<|oz
 intro R w m n p d j
 replace h0:=k1 n h0
 replace f_v0:=f_v0.fr m
 obtain ⟨x1,q2,c⟩:=zA4 c
 obtain ⟨x3,q4,c⟩:=zA4 c
 obtain ⟨x5,q6,c⟩:=zA4 c
 refine zQB d j (eR v0::eF (.rep eStr A x1)::eF (.rep eStr A x3)::eF (.rep eStr A x5)::eF (.rep eStr A x5)::[]) ?_ ?_
 exact om h0<|op (fun Q U W H D=>zA8 call247 (zFF (q2 Z) (d.fr W.size) ((f_v0.fr W).eq (D.g 0 Z))))<|op (fun Q U W H D=>zA8 call253 (zGd (q4 Z) (d.fr W.size) (hG0.fr (j.trans W)) (D.g 0 Z)))<|op (fun Q U W H D=>zA8 call252 (zFY (q6 Z) (d.fr W.size) (D.g 0 Z)))<|op (fun Q U W H D=>zA2 (D.g 0 Z))<|oz
 intro R w m n p d j
 obtain ⟨u7,h2,f_u7⟩:∃ u,R 2=u∧Rep eStr A w u x5:=⟨_,Z,p 4 _ _ Z Z Z⟩
 refine HT.ret ?_
 obtain rfl:=si c
 exact ⟨.inr Z,[R 2],⟨Z,N⟩,(f_u7.eq h2),j⟩
def zAU (fu : Nat) (p0 : List UInt8) (p1 : List UInt8) (p2 : Bool) (y8 : Int) (y9 : List (List Int)) : Nat → Int → (List (List Int)) → Option (List (List Int))
 | 0,_,_=>none
 | k+1,y23,y24=>
 bif (decide (y23<((gtD (y9.set y8.toNat (List.replicate ((p1.length:Int)+1).toNat 0)) y8).length:Int))) then (
 bif (y8==0) then (
 ck (inR y8 y24.length) <|
 ck (inR y23 (gtD y24 y8).length) <|
 ck (i64B (y23+1)) <|
 zAU fu p0 p1 p2 y8 y9 k (y23+1) (y24.set y8.toNat ((gtD y24 y8).set y23.toNat y23))
 ) else (
 bif (y23==0) then (
 ck (inR y8 y24.length) <|
 ck (inR y23 (gtD y24 y8).length) <|
 ck (i64B (y23+1)) <|
 zAU fu p0 p1 p2 y8 y9 k (y23+1) (y24.set y8.toNat ((gtD y24 y8).set y23.toNat y8))
 ) else (
 ck (i64B (y8-1)) <|
 ck (inR (y8-1) p0.length) <|
 ck (i64B (y23-1)) <|
 ck (inR (y23-1) p1.length) <|
 bif ((bAt p0 (y8-1))==(bAt p1 (y23-1))) then (
 ck (inR y8 y24.length) <|
 ck (i64B (y8-1)) <|
 ck (inR (y8-1) y24.length) <|
 ck (inR y23 (gtD y24 (y8-1)).length) <|
 ck (i64B ((gtD (gtD y24 (y8-1)) y23)+1)) <|
 ck (inR y8 y24.length) <|
 ck (i64B (y23-1)) <|
 ck (inR (y23-1) (gtD y24 y8).length) <|
 ck (i64B ((gtD (gtD y24 y8) (y23-1))+1)) <|
 ck (i64B (y8-1)) <|
 ck (inR (y8-1) y24.length) <|
 ck (i64B (y23-1)) <|
 ck (inR (y23-1) (gtD y24 (y8-1)).length) <|
 ck (i64B ((gtD (gtD y24 (y8-1)) (y23-1))+0)) <|
 ck (inR y23 (gtD y24 y8).length) <|
 bd (p2&&(decide (1<y8))) fun x76=>
 bd (x76&&(decide (1<y23))) fun x78=>
 ck (!(true&&(x78==true)) || i64B (y8-1)) <|
 ck (!(true&&(x78==true)) || inR (y8-1) p0.length) <|
 ck (!(true&&(x78==true)) || i64B (y23-2)) <|
 ck (!(true&&(x78==true)) || inR (y23-2) p1.length) <|
 bd (x78&&((bAt p0 (y8-1))==(bAt p1 (y23-2)))) fun x84=>
 ck (!(true&&(x84==true)) || i64B (y8-2)) <|
 ck (!(true&&(x84==true)) || inR (y8-2) p0.length) <|
 ck (!(true&&(x84==true)) || i64B (y23-1)) <|
 ck (!(true&&(x84==true)) || inR (y23-1) p1.length) <|
 bd (x84&&((bAt p0 (y8-2))==(bAt p1 (y23-1)))) fun x90=>
 bif x90 then (
 ck (inR y8 (y24.set y8.toNat ((gtD y24 y8).set y23.toNat (min (min ((gtD (gtD y24 (y8-1)) y23)+1) ((gtD (gtD y24 y8) (y23-1))+1)) ((gtD (gtD y24 (y8-1)) (y23-1))+0)))).length) <|
 ck (inR y8 (y24.set y8.toNat ((gtD y24 y8).set y23.toNat (min (min ((gtD (gtD y24 (y8-1)) y23)+1) ((gtD (gtD y24 y8) (y23-1))+1)) ((gtD (gtD y24 (y8-1)) (y23-1))+0)))).length) <|
 ck (inR y23 (gtD (y24.set y8.toNat ((gtD y24 y8).set y23.toNat (min (min ((gtD (gtD y24 (y8-1)) y23)+1) ((gtD (gtD y24 y8) (y23-1))+1)) ((gtD (gtD y24 (y8-1)) (y23-1))+0)))) y8).length) <|
 ck (i64B (y8-2)) <|
 ck (inR (y8-2) (y24.set y8.toNat ((gtD y24 y8).set y23.toNat (min (min ((gtD (gtD y24 (y8-1)) y23)+1) ((gtD (gtD y24 y8) (y23-1))+1)) ((gtD (gtD y24 (y8-1)) (y23-1))+0)))).length) <|
 ck (i64B (y23-2)) <|
 ck (inR (y23-2) (gtD (y24.set y8.toNat ((gtD y24 y8).set y23.toNat (min (min ((gtD (gtD y24 (y8-1)) y23)+1) ((gtD (gtD y24 y8) (y23-1))+1)) ((gtD (gtD y24 (y8-1)) (y23-1))+0)))) (y8-2)).length) <|
 ck (i64B ((gtD (gtD (y24.set y8.toNat ((gtD y24 y8).set y23.toNat (min (min ((gtD (gtD y24 (y8-1)) y23)+1) ((gtD (gtD y24 y8) (y23-1))+1)) ((gtD (gtD y24 (y8-1)) (y23-1))+0)))) (y8-2)) (y23-2))+1)) <|
 ck (inR y23 (gtD (y24.set y8.toNat ((gtD y24 y8).set y23.toNat (min (min ((gtD (gtD y24 (y8-1)) y23)+1) ((gtD (gtD y24 y8) (y23-1))+1)) ((gtD (gtD y24 (y8-1)) (y23-1))+0)))) y8).length) <|
 ck (i64B (y23+1)) <|
 zAU fu p0 p1 p2 y8 y9 k (y23+1) ((y24.set y8.toNat ((gtD y24 y8).set y23.toNat (min (min ((gtD (gtD y24 (y8-1)) y23)+1) ((gtD (gtD y24 y8) (y23-1))+1)) ((gtD (gtD y24 (y8-1)) (y23-1))+0)))).set y8.toNat ((gtD (y24.set y8.toNat ((gtD y24 y8).set y23.toNat (min (min ((gtD (gtD y24 (y8-1)) y23)+1) ((gtD (gtD y24 y8) (y23-1))+1)) ((gtD (gtD y24 (y8-1)) (y23-1))+0)))) y8).set y23.toNat (min (gtD (gtD (y24.set y8.toNat ((gtD y24 y8).set y23.toNat (min (min ((gtD (gtD y24 (y8-1)) y23)+1) ((gtD (gtD y24 y8) (y23-1))+1)) ((gtD (gtD y24 (y8-1)) (y23-1))+0)))) y8) y23) ((gtD (gtD (y24.set y8.toNat ((gtD y24 y8).set y23.toNat (min (min ((gtD (gtD y24 (y8-1)) y23)+1) ((gtD (gtD y24 y8) (y23-1))+1)) ((gtD (gtD y24 (y8-1)) (y23-1))+0)))) (y8-2)) (y23-2))+1))))
 ) else (
 ck (i64B (y23+1)) <|
 zAU fu p0 p1 p2 y8 y9 k (y23+1) (y24.set y8.toNat ((gtD y24 y8).set y23.toNat (min (min ((gtD (gtD y24 (y8-1)) y23)+1) ((gtD (gtD y24 y8) (y23-1))+1)) ((gtD (gtD y24 (y8-1)) (y23-1))+0))))
 )
 ) else (
 ck (inR y8 y24.length) <|
 ck (i64B (y8-1)) <|
 ck (inR (y8-1) y24.length) <|
 ck (inR y23 (gtD y24 (y8-1)).length) <|
 ck (i64B ((gtD (gtD y24 (y8-1)) y23)+1)) <|
 ck (inR y8 y24.length) <|
 ck (i64B (y23-1)) <|
 ck (inR (y23-1) (gtD y24 y8).length) <|
 ck (i64B ((gtD (gtD y24 y8) (y23-1))+1)) <|
 ck (i64B (y8-1)) <|
 ck (inR (y8-1) y24.length) <|
 ck (i64B (y23-1)) <|
 ck (inR (y23-1) (gtD y24 (y8-1)).length) <|
 ck (i64B ((gtD (gtD y24 (y8-1)) (y23-1))+1)) <|
 ck (inR y23 (gtD y24 y8).length) <|
 bd (p2&&(decide (1<y8))) fun x141=>
 bd (x141&&(decide (1<y23))) fun x143=>
 ck (!(true&&(x143==true)) || i64B (y8-1)) <|
 ck (!(true&&(x143==true)) || inR (y8-1) p0.length) <|
 ck (!(true&&(x143==true)) || i64B (y23-2)) <|
 ck (!(true&&(x143==true)) || inR (y23-2) p1.length) <|
 bd (x143&&((bAt p0 (y8-1))==(bAt p1 (y23-2)))) fun x149=>
 ck (!(true&&(x149==true)) || i64B (y8-2)) <|
 ck (!(true&&(x149==true)) || inR (y8-2) p0.length) <|
 ck (!(true&&(x149==true)) || i64B (y23-1)) <|
 ck (!(true&&(x149==true)) || inR (y23-1) p1.length) <|
 bd (x149&&((bAt p0 (y8-2))==(bAt p1 (y23-1)))) fun x155=>
 bif x155 then (
 ck (inR y8 (y24.set y8.toNat ((gtD y24 y8).set y23.toNat (min (min ((gtD (gtD y24 (y8-1)) y23)+1) ((gtD (gtD y24 y8) (y23-1))+1)) ((gtD (gtD y24 (y8-1)) (y23-1))+1)))).length) <|
 ck (inR y8 (y24.set y8.toNat ((gtD y24 y8).set y23.toNat (min (min ((gtD (gtD y24 (y8-1)) y23)+1) ((gtD (gtD y24 y8) (y23-1))+1)) ((gtD (gtD y24 (y8-1)) (y23-1))+1)))).length) <|
 ck (inR y23 (gtD (y24.set y8.toNat ((gtD y24 y8).set y23.toNat (min (min ((gtD (gtD y24 (y8-1)) y23)+1) ((gtD (gtD y24 y8) (y23-1))+1)) ((gtD (gtD y24 (y8-1)) (y23-1))+1)))) y8).length) <|
 ck (i64B (y8-2)) <|
 ck (inR (y8-2) (y24.set y8.toNat ((gtD y24 y8).set y23.toNat (min (min ((gtD (gtD y24 (y8-1)) y23)+1) ((gtD (gtD y24 y8) (y23-1))+1)) ((gtD (gtD y24 (y8-1)) (y23-1))+1)))).length) <|
 ck (i64B (y23-2)) <|
 ck (inR (y23-2) (gtD (y24.set y8.toNat ((gtD y24 y8).set y23.toNat (min (min ((gtD (gtD y24 (y8-1)) y23)+1) ((gtD (gtD y24 y8) (y23-1))+1)) ((gtD (gtD y24 (y8-1)) (y23-1))+1)))) (y8-2)).length) <|
 ck (i64B ((gtD (gtD (y24.set y8.toNat ((gtD y24 y8).set y23.toNat (min (min ((gtD (gtD y24 (y8-1)) y23)+1) ((gtD (gtD y24 y8) (y23-1))+1)) ((gtD (gtD y24 (y8-1)) (y23-1))+1)))) (y8-2)) (y23-2))+1)) <|
 ck (inR y23 (gtD (y24.set y8.toNat ((gtD y24 y8).set y23.toNat (min (min ((gtD (gtD y24 (y8-1)) y23)+1) ((gtD (gtD y24 y8) (y23-1))+1)) ((gtD (gtD y24 (y8-1)) (y23-1))+1)))) y8).length) <|
 ck (i64B (y23+1)) <|
 zAU fu p0 p1 p2 y8 y9 k (y23+1) ((y24.set y8.toNat ((gtD y24 y8).set y23.toNat (min (min ((gtD (gtD y24 (y8-1)) y23)+1) ((gtD (gtD y24 y8) (y23-1))+1)) ((gtD (gtD y24 (y8-1)) (y23-1))+1)))).set y8.toNat ((gtD (y24.set y8.toNat ((gtD y24 y8).set y23.toNat (min (min ((gtD (gtD y24 (y8-1)) y23)+1) ((gtD (gtD y24 y8) (y23-1))+1)) ((gtD (gtD y24 (y8-1)) (y23-1))+1)))) y8).set y23.toNat (min (gtD (gtD (y24.set y8.toNat ((gtD y24 y8).set y23.toNat (min (min ((gtD (gtD y24 (y8-1)) y23)+1) ((gtD (gtD y24 y8) (y23-1))+1)) ((gtD (gtD y24 (y8-1)) (y23-1))+1)))) y8) y23) ((gtD (gtD (y24.set y8.toNat ((gtD y24 y8).set y23.toNat (min (min ((gtD (gtD y24 (y8-1)) y23)+1) ((gtD (gtD y24 y8) (y23-1))+1)) ((gtD (gtD y24 (y8-1)) (y23-1))+1)))) (y8-2)) (y23-2))+1))))
 ) else (
 ck (i64B (y23+1)) <|
 zAU fu p0 p1 p2 y8 y9 k (y23+1) (y24.set y8.toNat ((gtD y24 y8).set y23.toNat (min (min ((gtD (gtD y24 (y8-1)) y23)+1) ((gtD (gtD y24 y8) (y23-1))+1)) ((gtD (gtD y24 (y8-1)) (y23-1))+1))))
 )
 )
 )
 )
 ) else (
 some y24
 )
def zBb (fu : Nat) (p0 : List UInt8) (p1 : List UInt8) (p2 : Bool) : Nat → Int → (List (List Int)) → Option (List (List Int))
 | 0,_,_=>none
 | k+1,y8,y9=>
 bif (decide (y8<((List.replicate ((p0.length:Int)+1).toNat ([]:List Int)).length:Int))) then (
 ck (i64B ((p1.length:Int)+1)) <|
 ck (mkOK ((p1.length:Int)+1)) <|
 ck (inR y8 y9.length) <|
 ck (inR y8 (y9.set y8.toNat (List.replicate ((p1.length:Int)+1).toNat 0)).length) <|
 cl true (zAU fu p0 p1 p2 y8 y9 fu 0 (y9.set y8.toNat (List.replicate ((p1.length:Int)+1).toNat 0))) fun s22=>
 ck (i64B (y8+1)) <|
 zBb fu p0 p1 p2 k (y8+1) s22
 ) else (
 some y9
 )
def zCf (fu:Nat) (p0:List UInt8) (p1:List UInt8) (p2:Bool):Option (List (List Int)):=
 ck (i64B ((p0.length:Int)+1)) <|
 ck (mkOK ((p0.length:Int)+1)) <|
 cl true (zBb fu p0 p1 p2 fu 0 (List.replicate ((p0.length:Int)+1).toNat ([]:List Int))) fun s7=>
 some s7
theorem zGw {fu : Nat} {A0 : Av} {p0 : List UInt8} {p1 : List UInt8} {p2 : Bool} {r : List (List Int)} (c : zCf fu p0 p1 p2 = some r) {w : World} {v0 : Value} {v1 : Value} {v2 : Value} (d : AvOK A0 w) (h0 : Rep eStr A0 w v0 p0) (h1 : Rep eStr A0 w v1 p1) (h2 : v2 = .bool p2) :
 Calls prog 319 #[v0,v1,v2] w fun e w'=>∃ v,e = .returned v∧(zFT A0 (trR (geB w.heap.size) (oSl 27 (oSl 3 (oRd (eInt .i64)))) r []) (fun _=>.any) w v w'):=by
 unfold zCf at c
 obtain ⟨w0,hw0,j,C⟩:=pw d
 have hA00:AvOK A0 w0:=C
 rw [show zFT A0 (trR (geB w.heap.size) (oSl 27 (oSl 3 (oRd (eInt .i64)))) r []) (fun _=>.any) w=zFT A0 (trR (geB w0.heap.size) (oSl 27 (oSl 3 (oRd (eInt .i64)))) r []) (fun _=>.any) w0 from hw0 ▸ Z]
 obtain ⟨A,hAe,B,d,q⟩:=pa d
 refine zA3 [.tmp 6] func319 ntmps319 (by decide) Z Z (nb Z) ?_
 intro R hR
 have f_v0:Rep eStr A w v0 p0:=hAe ▸ h0
 replace h0:R 0=v0:=hR 0 _ Z
 have f_v1:Rep eStr A w v1 p1:=hAe ▸ h1
 replace h1:R 1=v1:=hR 1 _ Z
 replace h2:R 2 = .bool p2:=(hR 2 _ Z).trans h2
 refine zQB d j (eA::[]) ?_ ?_
 exact op (fun Q U W H D=>zA2 N)<|oz
 intro R w m n p d j
 obtain ⟨h0,h1,h2⟩:=k3 n h0 h1 h2
 replace f_v0:=f_v0.fr m
 replace f_v1:=f_v1.fr m
 replace q:=q.fr m
 obtain ⟨e1,e2,c⟩:=ck2 c
 refine zQC [] (rR v0::rI (p0.length:Int)::rI ((p0.length:Int)+1)::⟨_,true,[],some (trR (geB w0.heap.size) (oSl 27 (oSl 3 (oRd (eInt .i64)))) (List.replicate ((p0.length:Int)+1).toNat ([]:List Int)) []),true,fun A=>.any⟩::⟨_,true,[3],some (trR (geB w0.heap.size) (oSl 27 (oSl 3 (oRd (eInt .i64)))) (List.replicate ((p0.length:Int)+1).toNat ([]:List Int)) []),true,fun A=>.any⟩::[]) (ur (ur (ur (ua (ua (UAll.nil)))))) q d ?_ ?_
 exact rm h0<|rp (fun V Q U O D=>zAJ ((f_v0.stp O.stp).eq (D.g 0 Z)) underlying9)<|rp (fun V Q U O D=>zAR (D.g 0 Z) Z e1)<|rc (zQG _ Z Z Z Z fun V Q U O D=>by have a0:Q 13 = .int .i64 ((p0.length:Int)+1):=D.g 0 Z;have a1:Q 13 = .int .i64 ((p0.length:Int)+1):=D.g 0 Z;exact zLn a0 a1 e2 underlying227 zPG zeroValue27 (fun A w=>zIW) (fun k hk=>Nat.le_trans (Nat.le_trans j.size O.ch.size) hk))<|rc (zQI 3 _ _ Z Z Z Z Z fun V Q U O D u S X I Y J L M=>by exact zJf (L _ _ Z Z Z Z).symm (trP.nopin I.2) Y I.1)<|rz
 intro done ρ σ A R w y s
 obtain ⟨h0,h1,h2⟩:=k3 s.rg h0 h1 h2
 obtain ⟨u3,e_u3⟩:∃ u,ρ 4=u:=⟨_,Z⟩
 have h7:=s.ov y 4 4 e_u3
 obtain ⟨S4,eS_u3⟩:∃ S,σ 4=S:=⟨_,Z⟩
 replace f_v0:=f_v0.stp s.stp
 replace f_v1:=f_v1.stp s.stp
 obtain ⟨B,j,d⟩:=s.s B C j q N
 replace q:=s.left y [(4,⟨u3,S4,trR (geB w0.heap.size) (oSl 27 (oSl 3 (oRd (eInt .i64)))) (List.replicate ((p0.length:Int)+1).toNat ([]:List Int)) []⟩)] ⟨Z,Z,e_u3,eS_u3,Z,N⟩
 refine zQ9 ?_
 refine zQB d j (eR u3::eI ((List.replicate ((p0.length:Int)+1).toNat ([]:List Int)).length:Int)::eI 0::[]) ?_ ?_
 exact om h7<|op (fun Q U W H D=>zIB (zAM (q.own 0 _ Z).2) (D.g 0 Z) underlying227)<|op (fun Q U W H D=>zBk Z)<|oz
 intro R w m n p d j
 obtain ⟨h0,h1,h2,h7⟩:=k4 n h0 h1 h2 h7
 have h16:=p.r 1 Z
 have h17:=p.r 2 Z
 replace f_v0:=f_v0.fr m
 replace f_v1:=f_v1.fr m
 replace q:=q.fr m
 obtain ⟨rl5,q6,c⟩:=zA4 c
 replace q6:=q6 Z
 refine zQ4 (fun R w=>∃ A:Av,∃ (s7:(List (List Int))) (So_u3:Nat→Prop),rl5=s7∧AvOK A w∧Fr w0 w∧(∀ b o,A0 b o→A b o)∧IniOK [⟨u3,So_u3,trR (geB w0.heap.size) (oSl 27 (oSl 3 (oRd (eInt .i64)))) s7 []⟩] A w∧R 7=u3) ?_ ?_
 refine HT.block ?_
 refine zQ8 (fun k R w=>∃ A:Av,∃ (y8:Int) (y9:List (List Int)) (Sl_u3:Nat→Prop),zBb fu p0 p1 p2 k y8 y9=some rl5∧AvOK A w∧Fr w0 w∧(∀ b o,A0 b o→A b o)∧IniOK [⟨u3,Sl_u3,trR (geB w0.heap.size) (oSl 27 (oSl 3 (oRd (eInt .i64)))) y9 []⟩] A w∧R 0=v0∧R 1=v1∧R 2 = .bool p2∧R 7=u3∧R 16 = .int .i64 ((List.replicate ((p0.length:Int)+1).toNat ([]:List Int)).length:Int)∧R 17 = .int .i64 y8∧Rep eStr A w v0 p0∧Rep eStr A w v1 p1) fu ⟨_,_,_,S4,q6,d,j,B,q,h0,h1,h2,h7,h16,h17,f_v0,f_v1⟩ ?_
 have hr0:=c;clear c q6
 rintro k R w ⟨A,y8,y9,Sl_u3,c,d,j,B,q,h0,h1,h2,h7,h16,h17,f_v0,f_v1⟩
 rcases k with _ | k
 cases (show none=some _ from c)
 rw [zBb] at c
 refine zQB d j (eB (decide (y8<((List.replicate ((p0.length:Int)+1).toNat ([]:List Int)).length:Int)))::[]) ?_ ?_
 exact op (fun Q U W H D=>zAu ((H 17 Z).trans h17) ((H 16 Z).trans h16))<|oz
 intro R w m n p d j
 obtain ⟨h0,h1,h2,h7,h16,h17⟩:=k6 n h0 h1 h2 h7 h16 h17
 have h18:=p.r 0 Z
 replace f_v0:=f_v0.fr m
 replace f_v1:=f_v1.fr m
 replace q:=q.fr m
 refine zQ9 ?_
 refine zQ2 (decide (y8<((List.replicate ((p0.length:Int)+1).toNat ([]:List Int)).length:Int))) h18 (fun c10=>?_) (fun c10=>?_)
 have c:=zAO c10 c
 refine zQA ?_
 refine zQ9 ?_
 refine HT.block ?_
 refine zQB d j (eI y8::eI y8::[]) ?_ ?_
 exact om h17<|oa<|oz
 intro R w m n p d j
 obtain ⟨h0,h1,h2,h7,h16,h17⟩:=k6 n h0 h1 h2 h7 h16 h17
 have h8:=p.r 1 Z
 replace f_v0:=f_v0.fr m
 replace f_v1:=f_v1.fr m
 replace q:=q.fr m
 obtain ⟨e11,e12,e13,c⟩:=ck3 c
 refine zQC [⟨u3,Sl_u3,trR (geB w0.heap.size) (oSl 27 (oSl 3 (oRd (eInt .i64)))) y9 []⟩] (rR u3::rI y8::rR v1::rI (p1.length:Int)::rI ((p1.length:Int)+1)::⟨_,true,[],some (.vec w0.heap.size 3 (eInt .i64) (List.replicate ((p1.length:Int)+1).toNat 0)),true,fun A=>.any⟩::rR (vptr u3 (y8.toNat*1))::⟨_,true,[0,6],some (trR (geB w0.heap.size) (oSl 27 (oSl 3 (oRd (eInt .i64)))) (y9.set y8.toNat (List.replicate ((p1.length:Int)+1).toNat 0)) []),false,fun A=>.any⟩::[]) (ur (ur (ur (ur (ur (ua (ur (ua (UAll.nil))))))))) q d ?_ ?_
 exact rm h7<|rm h8<|rm h1<|rp (fun V Q U O D=>zAJ ((f_v1.stp O.stp).eq (D.g 0 Z)) underlying9)<|rp (fun V Q U O D=>zAR (D.g 0 Z) Z e11)<|rc (OblR.made _ Z Z Z Z fun V Q U O D=>by have a0:Q 24 = .int .i64 ((p1.length:Int)+1):=D.g 0 Z;have a1:Q 24 = .int .i64 ((p1.length:Int)+1):=D.g 0 Z;exact zJj a0 a1 e12 underlying27 el_3 zeroValue3 (fun A w=>zAY) (Nat.le_trans j.size O.ch.size))<|rp (fun V Q U O D=>zAH (zAM (q.own 0 _ Z).2) (D.g 0 Z) (D.g 1 Z) underlying227 sizeOf27 e13 Z)<|rc (zQH 0 [6] _ Z Z Z Z fun V Q U O D ρ σ X Y J L M hdd=>by have a0:Q 26=(vptr u3 (y8.toNat*1)):=D.g 0 Z;have k1:=X 0 (.head _) _ Z;have e0:=(J 0 (.head _) _ Z).1;rw [e0] at k1 ⊢;exact zGL Z ((zAM k1.2.2).elem e13 Z) (zH1 (X 6 (.tail _ (.head _)) _ Z).1 (X 6 (.tail _ (.head _)) _ Z).2) (L 6 (.tail _ (.head _)) _ _ Z Z Z Z).symm a0 Y hdd k1.2.1 (zMH (X 6 (.tail _ (.head _)) _ Z).1 (X 6 (.tail _ (.head _)) _ Z).2) sizeOf27 (fun _ _ _ h=>h))<|rz
 intro done ρ σ A R w y s
 obtain ⟨h0,h1,h2,h7,h8,h16⟩:=k6 s.rg h0 h1 h2 h7 h8 h16
 replace h17:=k1 s.rg h17
 have z14:=s.inivR 0 Z
 have z15:=s.on y 8 7 Z Z Z Z Z z14
 obtain ⟨S16,eS_u3⟩:∃ S,σ 8=S:=⟨_,Z⟩
 replace f_v0:=f_v0.stp s.stp
 replace f_v1:=f_v1.stp s.stp
 obtain ⟨B,j,d⟩:=s.s B C j q ⟨fun _ h=>h,N⟩
 replace q:=s.left y [(8,⟨u3,S16,trR (geB w0.heap.size) (oSl 27 (oSl 3 (oRd (eInt .i64)))) (y9.set y8.toNat (List.replicate ((p1.length:Int)+1).toNat 0)) []⟩)] ⟨Z,Z,z15,eS_u3,Z,N⟩
 refine zQ9 ?_
 obtain ⟨e17,c⟩:=zA5 c
 obtain ⟨h18,p_h18⟩:=(((zAM (q.own 0 _ Z).2).elem e17 Z)).open1 Z
 replace q:IniOK [⟨u3,S16,trR (geB w0.heap.size) (oSl 27 (oSl 3 (oRd (eInt .i64)))) (y9.set y8.toNat (List.replicate ((p1.length:Int)+1).toNat 0)) [((vptr u3 (y8.toNat*1)),[h18])]⟩] A w:=q.repin 0 Z (trP.pin p_h18)
 refine HT.u d j (eR u3::eI y8::eR (vptr u3 (y8.toNat*1))::eR h18::eI ((gtD (y9.set y8.toNat (List.replicate ((p1.length:Int)+1).toNat 0)) y8).length:Int)::eI 0::[]) ?_ ?_
 exact om h7<|om h8<|op (fun Q U W H D=>zAH (zAM (q.own 0 _ Z).2) (D.g 0 Z) (D.g 1 Z) underlying227 sizeOf27 e17 Z)<|op (fun Q U W H D=>zB3 (((q.fr W).own 0 _ Z).2.2 _ (.head _)) (D.g 0 Z) isAgg27 sizeOf27)<|op (fun Q U W H D=>zIB ((((zAM (q.own 0 _ Z).2).elem e17 Z)).pin ((q.own 0 _ Z).2.2 _ (.head _)) Z) (D.g 0 Z) underlying27)<|op (fun Q U W H D=>zBk Z)<|oz
 intro R w m n p d j
 obtain ⟨h0,h1,h2,h7,h8,h16⟩:=k6 n h0 h1 h2 h7 h8 h16
 replace h17:=k1 n h17
 have h31:=p.r 4 Z
 have h32:=p.r 5 Z
 replace f_v0:=f_v0.fr m
 replace f_v1:=f_v1.fr m
 replace q:=q.fr m
 replace q:IniOK [⟨u3,S16,trR (geB w0.heap.size) (oSl 27 (oSl 3 (oRd (eInt .i64)))) (y9.set y8.toNat (List.replicate ((p1.length:Int)+1).toNat 0)) []⟩] A w:=q.repin 0 Z trP.nopin
 obtain ⟨rl20,q21,c⟩:=zA4 c
 replace q21:=q21 Z
 refine zQ4 (fun R w=>∃ A:Av,∃ (s22:(List (List Int))) (So_u3:Nat→Prop),rl20=s22∧AvOK A w∧Fr w0 w∧(∀ b o,A0 b o→A b o)∧IniOK [⟨u3,So_u3,trR (geB w0.heap.size) (oSl 27 (oSl 3 (oRd (eInt .i64)))) s22 []⟩] A w∧R 0=v0∧R 1=v1∧R 2 = .bool p2∧R 7=u3∧R 16 = .int .i64 ((List.replicate ((p0.length:Int)+1).toNat ([]:List Int)).length:Int)∧R 17 = .int .i64 y8∧Rep eStr A w v0 p0∧Rep eStr A w v1 p1) ?_ ?_
 refine HT.block ?_
 refine zQ8 (fun k R w=>∃ A:Av,∃ (y23:Int) (y24:List (List Int)) (Sl_u3:Nat→Prop),zAU fu p0 p1 p2 y8 y9 k y23 y24=some rl20∧AvOK A w∧Fr w0 w∧(∀ b o,A0 b o→A b o)∧IniOK [⟨u3,Sl_u3,trR (geB w0.heap.size) (oSl 27 (oSl 3 (oRd (eInt .i64)))) y24 []⟩] A w∧R 0=v0∧R 1=v1∧R 2 = .bool p2∧R 7=u3∧R 8 = .int .i64 y8∧R 16 = .int .i64 ((List.replicate ((p0.length:Int)+1).toNat ([]:List Int)).length:Int)∧R 17 = .int .i64 y8∧R 31 = .int .i64 ((gtD (y9.set y8.toNat (List.replicate ((p1.length:Int)+1).toNat 0)) y8).length:Int)∧R 32 = .int .i64 y23∧Rep eStr A w v0 p0∧Rep eStr A w v1 p1) fu ⟨_,_,_,S16,q21,d,j,B,q,h0,h1,h2,h7,h8,h16,h17,h31,h32,f_v0,f_v1⟩ ?_
 have hr0:=c;clear c q21
 rintro k R w ⟨A,y23,y24,Sl_u3,c,d,j,B,q,h0,h1,h2,h7,h8,h16,h17,h31,h32,f_v0,f_v1⟩
 rcases k with _ | k
 cases (show none=some _ from c)
 rw [zAU] at c
 refine zQB d j (eB (decide (y23<((gtD (y9.set y8.toNat (List.replicate ((p1.length:Int)+1).toNat 0)) y8).length:Int)))::[]) ?_ ?_
 exact op (fun Q U W H D=>zAu ((H 32 Z).trans h32) ((H 31 Z).trans h31))<|oz
 intro R w m n p d j
 obtain ⟨h0,h1,h2,h7,h8,h16⟩:=k6 n h0 h1 h2 h7 h8 h16
 obtain ⟨h17,h31,h32⟩:=k3 n h17 h31 h32
 have h33:=p.r 0 Z
 replace f_v0:=f_v0.fr m
 replace f_v1:=f_v1.fr m
 replace q:=q.fr m
 refine zQ9 ?_
 refine zQ2 (decide (y23<((gtD (y9.set y8.toNat (List.replicate ((p1.length:Int)+1).toNat 0)) y8).length:Int))) h33 (fun c25=>?_) (fun c25=>?_)
 have c:=zAO c25 c
 refine zQA ?_
 refine zQ9 ?_
 refine HT.block ?_
 refine zQB d j (eI y23::eI y23::[]) ?_ ?_
 exact om h32<|oa<|oz
 intro R w m n p d j
 obtain ⟨h0,h1,h2,h7,h8,h16⟩:=k6 n h0 h1 h2 h7 h8 h16
 obtain ⟨h17,h31,h32⟩:=k3 n h17 h31 h32
 have h9:=p.r 1 Z
 replace f_v0:=f_v0.fr m
 replace f_v1:=f_v1.fr m
 replace q:=q.fr m
 refine zQ9 ?_
 refine HT.block ?_
 refine zQB d j (eI y8::eB (y8==0)::eB (y8==0)::[]) ?_ ?_
 exact om h8<|op (fun Q U W H D=>zAo (D.g 0 Z) Z)<|oa<|oz
 intro R w m n p d j
 obtain ⟨h0,h1,h2,h7,h8,h9⟩:=k6 n h0 h1 h2 h7 h8 h9
 obtain ⟨h16,h17,h31,h32⟩:=k4 n h16 h17 h31 h32
 have h35:=p.r 2 Z
 replace f_v0:=f_v0.fr m
 replace f_v1:=f_v1.fr m
 replace q:=q.fr m
 refine zQ2 (y8==0) h35 (fun c26=>?_) (fun c26=>?_)
 have c:=zAO c26 c
 refine zQ9 ?_
 obtain ⟨e27,c⟩:=zA5 c
 obtain ⟨h28,p_h28⟩:=(((zAM (q.own 0 _ Z).2).elem e27 Z)).open1 Z
 replace q:IniOK [⟨u3,Sl_u3,trR (geB w0.heap.size) (oSl 27 (oSl 3 (oRd (eInt .i64)))) y24 [((vptr u3 (y8.toNat*1)),[h28])]⟩] A w:=q.repin 0 Z (trP.pin p_h28)
 obtain ⟨e30,c⟩:=zA5 c
 refine zQF [⟨u3,Sl_u3,trR (geB w0.heap.size) (oSl 27 (oSl 3 (oRd (eInt .i64)))) y24 [((vptr u3 (y8.toNat*1)),[h28])]⟩] (rR u3::rI y8::rR (vptr u3 (y8.toNat*1))::rR h28::rI y23::rI y23::rR (vptr h28 (y23.toNat*1))::⟨_,true,[0],some (trR (geB w0.heap.size) (oSl 27 (oSl 3 (oRd (eInt .i64)))) (y24.set y8.toNat ((gtD y24 y8).set y23.toNat y23)) []),false,fun A=>.any⟩::[]) (ur (ur (ur (ur (ur (ur (ur (ua (UAll.nil))))))))) q d ?_ ?_
 exact rm h7<|rm h8<|rp (fun V Q U O D=>zAH (zAM (q.own 0 _ Z).2) (D.g 0 Z) (D.g 1 Z) underlying227 sizeOf27 e27 Z)<|rp (fun V Q U O D=>zB3 ((O.rdo 0 _ Z Z).2.2 _ (.head _)) (D.g 0 Z) isAgg27 sizeOf27)<|rm h9<|rm h9<|rp (fun V Q U O D=>zAH ((((zAM (q.own 0 _ Z).2).elem e27 Z)).pin ((q.own 0 _ Z).2.2 _ (.head _)) Z) (D.g 0 Z) (D.g 1 Z) underlying27 sizeOf3 e30 Z)<|rc (zQI 0 _ _ Z Z Z Z Z fun V Q U O D u S X I Y J L M=>by have a0:Q 44=(vptr h28 (y23.toNat*1)):=D.g 0 Z;have a1:Q 43 = .int .i64 y23:=D.g 1 Z;have e0:=(J _ Z).1;rw [e0] at I ⊢;exact zCV (((((zAM I.2).elem e27 Z)).pin (I.2.2 _ (.head _)) Z).elem e30 Z) (zAa.eq a1) a0 Y I.1 sizeOf3 (fun _ _ _ h=>h))<|rz
 intro done ρ σ A R w y s
 obtain ⟨h0,h1,h2,h7,h8,h16⟩:=k6 s.rg h0 h1 h2 h7 h8 h16
 obtain ⟨h17,h31,h32⟩:=k3 s.rg h17 h31 h32
 have z31:=s.inivR 0 Z
 have z32:=s.on y 8 7 Z Z Z Z Z z31
 obtain ⟨S33,eS_u3⟩:∃ S,σ 8=S:=⟨_,Z⟩
 replace f_v0:=f_v0.stp s.stp
 replace f_v1:=f_v1.stp s.stp
 obtain ⟨B,j,d⟩:=s.s B C j q ⟨fun _ h=>h,N⟩
 replace q:=s.left y [(8,⟨u3,S33,trR (geB w0.heap.size) (oSl 27 (oSl 3 (oRd (eInt .i64)))) (y24.set y8.toNat ((gtD y24 y8).set y23.toNat y23)) []⟩)] ⟨Z,Z,z32,eS_u3,Z,N⟩
 refine zQ7 ?_
 obtain ⟨e34,c⟩:=zA5 c
 refine HT.u d j (eI (y23+1)::eI (y23+1)::[]) ?_ ?_
 exact op (fun Q U W H D=>zAR ((H 32 Z).trans h32) Z e34)<|ov<|oz
 intro R w m n p d j
 obtain ⟨h0,h1,h2,h7,h8,h16⟩:=k6 n h0 h1 h2 h7 h8 h16
 obtain ⟨h17,h31⟩:=k2 n h17 h31
 have h32:=p.r 1 Z
 replace f_v0:=f_v0.fr m
 replace f_v1:=f_v1.fr m
 replace q:=q.fr m
 exact ei k (And.intro (Nat.lt_succ_self k) ⟨_,_,_,S33,c,d,j,B,q,h0,h1,h2,h7,h8,h16,h17,h31,h32,f_v0,f_v1⟩)
 have c:=zAN c26 c
 refine zQB d j (eI y23::eB (y23==0)::eB (y23==0)::[]) ?_ ?_
 exact om h9<|op (fun Q U W H D=>zAo (D.g 0 Z) Z)<|oa<|oz
 intro R w m n p d j
 obtain ⟨h0,h1,h2,h7,h8,h9⟩:=k6 n h0 h1 h2 h7 h8 h9
 obtain ⟨h16,h17,h31,h32⟩:=k4 n h16 h17 h31 h32
 have h45:=p.r 2 Z
 replace f_v0:=f_v0.fr m
 replace f_v1:=f_v1.fr m
 replace q:=q.fr m
 refine zQ2 (y23==0) h45 (fun c35=>?_) (fun c35=>?_)
 have c:=zAO c35 c
 refine zQ9 ?_
 obtain ⟨e36,c⟩:=zA5 c
 obtain ⟨h37,p_h37⟩:=(((zAM (q.own 0 _ Z).2).elem e36 Z)).open1 Z
 replace q:IniOK [⟨u3,Sl_u3,trR (geB w0.heap.size) (oSl 27 (oSl 3 (oRd (eInt .i64)))) y24 [((vptr u3 (y8.toNat*1)),[h37])]⟩] A w:=q.repin 0 Z (trP.pin p_h37)
 obtain ⟨e39,c⟩:=zA5 c
 refine zQF [⟨u3,Sl_u3,trR (geB w0.heap.size) (oSl 27 (oSl 3 (oRd (eInt .i64)))) y24 [((vptr u3 (y8.toNat*1)),[h37])]⟩] (rR u3::rI y8::rR (vptr u3 (y8.toNat*1))::rR h37::rI y23::rI y8::rR (vptr h37 (y23.toNat*1))::⟨_,true,[0],some (trR (geB w0.heap.size) (oSl 27 (oSl 3 (oRd (eInt .i64)))) (y24.set y8.toNat ((gtD y24 y8).set y23.toNat y8)) []),false,fun A=>.any⟩::[]) (ur (ur (ur (ur (ur (ur (ur (ua (UAll.nil))))))))) q d ?_ ?_
 exact rm h7<|rm h8<|rp (fun V Q U O D=>zAH (zAM (q.own 0 _ Z).2) (D.g 0 Z) (D.g 1 Z) underlying227 sizeOf27 e36 Z)<|rp (fun V Q U O D=>zB3 ((O.rdo 0 _ Z Z).2.2 _ (.head _)) (D.g 0 Z) isAgg27 sizeOf27)<|rm h9<|rm h8<|rp (fun V Q U O D=>zAH ((((zAM (q.own 0 _ Z).2).elem e36 Z)).pin ((q.own 0 _ Z).2.2 _ (.head _)) Z) (D.g 0 Z) (D.g 1 Z) underlying27 sizeOf3 e39 Z)<|rc (zQI 0 _ _ Z Z Z Z Z fun V Q U O D u S X I Y J L M=>by have a0:Q 54=(vptr h37 (y23.toNat*1)):=D.g 0 Z;have a1:Q 53 = .int .i64 y8:=D.g 1 Z;have e0:=(J _ Z).1;rw [e0] at I ⊢;exact zCV (((((zAM I.2).elem e36 Z)).pin (I.2.2 _ (.head _)) Z).elem e39 Z) (zAa.eq a1) a0 Y I.1 sizeOf3 (fun _ _ _ h=>h))<|rz
 intro done ρ σ A R w y s
 obtain ⟨h0,h1,h2,h7,h8,h16⟩:=k6 s.rg h0 h1 h2 h7 h8 h16
 obtain ⟨h17,h31,h32⟩:=k3 s.rg h17 h31 h32
 have z40:=s.inivR 0 Z
 have z41:=s.on y 8 7 Z Z Z Z Z z40
 obtain ⟨S42,eS_u3⟩:∃ S,σ 8=S:=⟨_,Z⟩
 replace f_v0:=f_v0.stp s.stp
 replace f_v1:=f_v1.stp s.stp
 obtain ⟨B,j,d⟩:=s.s B C j q ⟨fun _ h=>h,N⟩
 replace q:=s.left y [(8,⟨u3,S42,trR (geB w0.heap.size) (oSl 27 (oSl 3 (oRd (eInt .i64)))) (y24.set y8.toNat ((gtD y24 y8).set y23.toNat y8)) []⟩)] ⟨Z,Z,z41,eS_u3,Z,N⟩
 refine zQ7 ?_
 obtain ⟨e43,c⟩:=zA5 c
 refine HT.u d j (eI (y23+1)::eI (y23+1)::[]) ?_ ?_
 exact op (fun Q U W H D=>zAR ((H 32 Z).trans h32) Z e43)<|ov<|oz
 intro R w m n p d j
 obtain ⟨h0,h1,h2,h7,h8,h16⟩:=k6 n h0 h1 h2 h7 h8 h16
 obtain ⟨h17,h31⟩:=k2 n h17 h31
 have h32:=p.r 1 Z
 replace f_v0:=f_v0.fr m
 replace f_v1:=f_v1.fr m
 replace q:=q.fr m
 exact ei k (And.intro (Nat.lt_succ_self k) ⟨_,_,_,S42,c,d,j,B,q,h0,h1,h2,h7,h8,h16,h17,h31,h32,f_v0,f_v1⟩)
 have c:=zAN c35 c
 refine zQA ?_
 refine zQB d j (eI 1::[]) ?_ ?_
 exact op (fun Q U W H D=>zA2 Z)<|oz
 intro R w m n p d j
 obtain ⟨h0,h1,h2,h7,h8,h9⟩:=k6 n h0 h1 h2 h7 h8 h9
 obtain ⟨h16,h17,h31,h32⟩:=k4 n h16 h17 h31 h32
 have h10:=p.r 0 Z
 replace f_v0:=f_v0.fr m
 replace f_v1:=f_v1.fr m
 replace q:=q.fr m
 refine zQ9 ?_
 refine zQ9 ?_
 obtain ⟨e44,e45,e46,e47,c⟩:=ck4 c
 refine zQ5 (by kernel_rfl) (l:=eR v0::eI y8::eI (y8-1)::eU (bAt p0 (y8-1))::eR v1::eI y23::eI (y23-1)::eU (bAt p1 (y23-1))::eB ((bAt p0 (y8-1))==(bAt p1 (y23-1)))::[]) (tl:=[]) (by kernel_rfl) (by kernel_rfl) (by kernel_rfl) (by kernel_rfl) ?_ ?_
 exact om h0<|om h8<|op (fun Q U W H D=>zAb (D.g 0 Z) Z e44)<|op (fun Q U W H D=>zAB ((f_v0.fr W).eq (D.g 0 Z)) (D.g 1 Z) underlying9 e45)<|om h1<|om h9<|op (fun Q U W H D=>zAb (D.g 0 Z) Z e46)<|op (fun Q U W H D=>zAB ((f_v1.fr W).eq (D.g 0 Z)) (D.g 1 Z) underlying9 e47)<|op (fun Q U W H D=>zAo (D.g 0 Z) (D.g 1 Z))<|oz
 intro R w m n p
 obtain ⟨h0,h1,h2,h7,h8,h9⟩:=k6 n h0 h1 h2 h7 h8 h9
 obtain ⟨h10,h16,h17,h31,h32⟩:=k5 n h10 h16 h17 h31 h32
 have h63:=p.r 8 Z
 replace f_v0:=f_v0.fr m
 replace f_v1:=f_v1.fr m
 replace q:=q.fr m
 replace d:=d.fr m.size
 replace j:=j.trans m
 refine zQ2 ((bAt p0 (y8-1))==(bAt p1 (y23-1))) h63 (fun c48=>?_) (fun c48=>?_)
 have c:=zAO c48 c
 refine HT.u d j (eI 0::[]) ?_ ?_
 exact op (fun Q U W H D=>zA2 Z)<|oz
 intro R w m n p d j
 obtain ⟨h0,h1,h2,h7,h8,h9⟩:=k6 n h0 h1 h2 h7 h8 h9
 obtain ⟨h16,h17,h31,h32⟩:=k4 n h16 h17 h31 h32
 have h10:=p.r 0 Z
 replace f_v0:=f_v0.fr m
 replace f_v1:=f_v1.fr m
 replace q:=q.fr m
 refine zQ9 ?_
 obtain ⟨e49,c⟩:=zA5 c
 obtain ⟨h50,p_h50⟩:=(((zAM (q.own 0 _ Z).2).elem e49 Z)).open1 Z
 replace q:IniOK [⟨u3,Sl_u3,trR (geB w0.heap.size) (oSl 27 (oSl 3 (oRd (eInt .i64)))) y24 [((vptr u3 (y8.toNat*1)),[h50])]⟩] A w:=q.repin 0 Z (trP.pin p_h50)
 obtain ⟨e52,e53,c⟩:=ck2 c
 obtain ⟨h54,p_h54⟩:=(((zAM (q.own 0 _ Z).2).elem e53 Z)).open1 Z
 replace q:IniOK [⟨u3,Sl_u3,trR (geB w0.heap.size) (oSl 27 (oSl 3 (oRd (eInt .i64)))) y24 [((vptr u3 ((y8-1).toNat*1)),[h54]),((vptr u3 (y8.toNat*1)),[h50])]⟩] A w:=q.repin 0 Z (trP.pin p_h54)
 obtain ⟨e56,e57,e58,c⟩:=ck3 c
 obtain ⟨h59,p_h59⟩:=(((zAM (q.own 0 _ Z).2).elem e58 Z)).open1 Z
 replace q:IniOK [⟨u3,Sl_u3,trR (geB w0.heap.size) (oSl 27 (oSl 3 (oRd (eInt .i64)))) y24 [((vptr u3 (y8.toNat*1)),[h59]),((vptr u3 ((y8-1).toNat*1)),[h54]),((vptr u3 (y8.toNat*1)),[h50])]⟩] A w:=q.repin 0 Z (trP.pin p_h59)
 obtain ⟨e61,e62,e63,e64,c⟩:=ck4 c
 obtain ⟨e65,c⟩:=zA5 c
 obtain ⟨h66,p_h66⟩:=(((zAM (q.own 0 _ Z).2).elem e65 Z)).open1 Z
 replace q:IniOK [⟨u3,Sl_u3,trR (geB w0.heap.size) (oSl 27 (oSl 3 (oRd (eInt .i64)))) y24 [((vptr u3 ((y8-1).toNat*1)),[h66]),((vptr u3 (y8.toNat*1)),[h59]),((vptr u3 ((y8-1).toNat*1)),[h54]),((vptr u3 (y8.toNat*1)),[h50])]⟩] A w:=q.repin 0 Z (trP.pin p_h66)
 obtain ⟨e68,e69,e70,e71,c⟩:=ck4 c
 refine zQ6 [⟨u3,Sl_u3,trR (geB w0.heap.size) (oSl 27 (oSl 3 (oRd (eInt .i64)))) y24 [((vptr u3 ((y8-1).toNat*1)),[h66]),((vptr u3 (y8.toNat*1)),[h59]),((vptr u3 ((y8-1).toNat*1)),[h54]),((vptr u3 (y8.toNat*1)),[h50])]⟩] (rR u3::rI y8::rR (vptr u3 (y8.toNat*1))::rR h50::rI y23::rR u3::rI y8::rI (y8-1)::rR (vptr u3 ((y8-1).toNat*1))::rR h54::rI y23::rR (vptr h54 (y23.toNat*1))::rI (gtD (gtD y24 (y8-1)) y23)::rI ((gtD (gtD y24 (y8-1)) y23)+1)::rR u3::rI y8::rR (vptr u3 (y8.toNat*1))::rR h59::rI y23::rI (y23-1)::rR (vptr h59 ((y23-1).toNat*1))::rI (gtD (gtD y24 y8) (y23-1))::rI ((gtD (gtD y24 y8) (y23-1))+1)::rR u3::rI y8::rI (y8-1)::rR (vptr u3 ((y8-1).toNat*1))::rR h66::rI y23::rI (y23-1)::rR (vptr h66 ((y23-1).toNat*1))::rI (gtD (gtD y24 (y8-1)) (y23-1))::rI 0::rI ((gtD (gtD y24 (y8-1)) (y23-1))+0)::rI (min (min ((gtD (gtD y24 (y8-1)) y23)+1) ((gtD (gtD y24 y8) (y23-1))+1)) ((gtD (gtD y24 (y8-1)) (y23-1))+0))::rR (vptr h50 (y23.toNat*1))::⟨_,true,[0],some (trR (geB w0.heap.size) (oSl 27 (oSl 3 (oRd (eInt .i64)))) (y24.set y8.toNat ((gtD y24 y8).set y23.toNat (min (min ((gtD (gtD y24 (y8-1)) y23)+1) ((gtD (gtD y24 y8) (y23-1))+1)) ((gtD (gtD y24 (y8-1)) (y23-1))+0)))) []),false,fun A=>.any⟩::[]) (by kernel_rfl) (by kernel_rfl) (by kernel_rfl) (Wf.mk' (by kernel_rfl) (ur (ur (ur (ur (ur (ur (ur (ur (ur (ur (ur (ur (ur (ur (ur (ur (ur (ur (ur (ur (ur (ur (ur (ur (ur (ur (ur (ur (ur (ur (ur (ur (ur (ur (ur (ur (ua (UAll.nil)))))))))))))))))))))))))))))))))))))) (by kernel_rfl) (by kernel_rfl)) q d ?_ ?_
 exact rm h7<|rm h8<|rp (fun V Q U O D=>zAH (zAM (q.own 0 _ Z).2) (D.g 0 Z) (D.g 1 Z) underlying227 sizeOf27 e49 Z)<|rp (fun V Q U O D=>zB3 ((O.rdo 0 _ Z Z).2.2 _ (.tail _ (.tail _ (.tail _ (.head _))))) (D.g 0 Z) isAgg27 sizeOf27)<|rm h9<|rm h7<|rm h8<|rp (fun V Q U O D=>zAb (D.g 0 Z) Z e52)<|rp (fun V Q U O D=>zAH (zAM (q.own 0 _ Z).2) (D.g 0 Z) (D.g 1 Z) underlying227 sizeOf27 e53 Z)<|rp (fun V Q U O D=>zB3 ((O.rdo 0 _ Z Z).2.2 _ (.tail _ (.tail _ (.head _)))) (D.g 0 Z) isAgg27 sizeOf27)<|rm h9<|rp (fun V Q U O D=>zAH ((((zAM (q.own 0 _ Z).2).elem e53 Z)).pin ((q.own 0 _ Z).2.2 _ (.tail _ (.tail _ (.head _)))) Z) (D.g 0 Z) (D.g 1 Z) underlying27 sizeOf3 e56 Z)<|rp (fun V Q U O D=>OpF.int (zDE ((((((zAM (O.rdo 0 _ Z Z).2).elem e53 Z)).pin ((O.rdo 0 _ Z Z).2.2 _ (.tail _ (.tail _ (.head _)))) Z).elem e56 Z)) (D.g 0 Z) isAgg3 sizeOf3))<|rp (fun V Q U O D=>zAR (D.g 0 Z) Z e57)<|rm h7<|rm h8<|rp (fun V Q U O D=>zAH (zAM (q.own 0 _ Z).2) (D.g 0 Z) (D.g 1 Z) underlying227 sizeOf27 e58 Z)<|rp (fun V Q U O D=>zB3 ((O.rdo 0 _ Z Z).2.2 _ (.tail _ (.head _))) (D.g 0 Z) isAgg27 sizeOf27)<|rm h9<|rp (fun V Q U O D=>zAb (D.g 0 Z) Z e61)<|rp (fun V Q U O D=>zAH ((((zAM (q.own 0 _ Z).2).elem e58 Z)).pin ((q.own 0 _ Z).2.2 _ (.tail _ (.head _))) Z) (D.g 0 Z) (D.g 1 Z) underlying27 sizeOf3 e62 Z)<|rp (fun V Q U O D=>OpF.int (zDE ((((((zAM (O.rdo 0 _ Z Z).2).elem e58 Z)).pin ((O.rdo 0 _ Z Z).2.2 _ (.tail _ (.head _))) Z).elem e62 Z)) (D.g 0 Z) isAgg3 sizeOf3))<|rp (fun V Q U O D=>zAR (D.g 0 Z) Z e63)<|rm h7<|rm h8<|rp (fun V Q U O D=>zAb (D.g 0 Z) Z e64)<|rp (fun V Q U O D=>zAH (zAM (q.own 0 _ Z).2) (D.g 0 Z) (D.g 1 Z) underlying227 sizeOf27 e65 Z)<|rp (fun V Q U O D=>zB3 ((O.rdo 0 _ Z Z).2.2 _ (.head _)) (D.g 0 Z) isAgg27 sizeOf27)<|rm h9<|rp (fun V Q U O D=>zAb (D.g 0 Z) Z e68)<|rp (fun V Q U O D=>zAH ((((zAM (q.own 0 _ Z).2).elem e65 Z)).pin ((q.own 0 _ Z).2.2 _ (.head _)) Z) (D.g 0 Z) (D.g 1 Z) underlying27 sizeOf3 e69 Z)<|rp (fun V Q U O D=>OpF.int (zDE ((((((zAM (O.rdo 0 _ Z Z).2).elem e65 Z)).pin ((O.rdo 0 _ Z Z).2.2 _ (.head _)) Z).elem e69 Z)) (D.g 0 Z) isAgg3 sizeOf3))<|rm h10<|rp (fun V Q U O D=>zAR (D.g 0 Z) (D.g 1 Z) e70)<|rp (fun V Q U O D=>zKX (D.g 0 Z) (D.g 1 Z) (D.g 2 Z))<|rp (fun V Q U O D=>zAH ((((zAM (q.own 0 _ Z).2).elem e49 Z)).pin ((q.own 0 _ Z).2.2 _ (.tail _ (.tail _ (.tail _ (.head _))))) Z) (D.g 0 Z) (D.g 1 Z) underlying27 sizeOf3 e71 Z)<|rc (zQI 0 _ _ Z Z Z Z Z fun V Q U O D u S X I Y J L M=>by have a0:Q 99=(vptr h50 (y23.toNat*1)):=D.g 0 Z;have a1:Q 98 = .int .i64 (min (min ((gtD (gtD y24 (y8-1)) y23)+1) ((gtD (gtD y24 y8) (y23-1))+1)) ((gtD (gtD y24 (y8-1)) (y23-1))+0)):=D.g 1 Z;have e0:=(J _ Z).1;rw [e0] at I ⊢;exact zCV (((((zAM I.2).elem e49 Z)).pin (I.2.2 _ (.tail _ (.tail _ (.tail _ (.head _))))) Z).elem e71 Z) (zAa.eq a1) a0 Y I.1 sizeOf3 (fun _ _ _ h=>h))<|rz
 intro done ρ σ A R w y s
 obtain ⟨h0,h1,h2,h7,h8,h9⟩:=k6 s.rg h0 h1 h2 h7 h8 h9
 obtain ⟨h16,h17,h31,h32⟩:=k4 s.rg h16 h17 h31 h32
 have z72:=s.inivR 0 Z
 have z73:=s.on y 37 36 Z Z Z Z Z z72
 obtain ⟨S74,eS_u3⟩:∃ S,σ 37=S:=⟨_,Z⟩
 replace f_v0:=f_v0.stp s.stp
 replace f_v1:=f_v1.stp s.stp
 obtain ⟨B,j,d⟩:=s.s B C j q ⟨fun _ h=>h,N⟩
 replace q:=s.left y [(37,⟨u3,S74,trR (geB w0.heap.size) (oSl 27 (oSl 3 (oRd (eInt .i64)))) (y24.set y8.toNat ((gtD y24 y8).set y23.toNat (min (min ((gtD (gtD y24 (y8-1)) y23)+1) ((gtD (gtD y24 y8) (y23-1))+1)) ((gtD (gtD y24 (y8-1)) (y23-1))+0)))) []⟩)] ⟨Z,Z,z73,eS_u3,Z,N⟩
 obtain ⟨Yg74,g_Yg74⟩:∃ z,z=(y24.set y8.toNat ((gtD y24 y8).set y23.toNat (min (min ((gtD (gtD y24 (y8-1)) y23)+1) ((gtD (gtD y24 y8) (y23-1))+1)) ((gtD (gtD y24 (y8-1)) (y23-1))+0)))):=⟨_,Z⟩
 rw [← g_Yg74] at q
 try rw [← g_Yg74] at c
 refine zQ9 ?_
 obtain ⟨x76,q77,c⟩:=zAD c
 obtain ⟨x78,q79,c⟩:=zAD c
 obtain ⟨e80,e81,e82,e83,c⟩:=ck4 c
 obtain ⟨x84,q85,c⟩:=zAD c
 obtain ⟨e86,e87,e88,e89,c⟩:=ck4 c
 obtain ⟨x90,q91,c⟩:=zAD c
 refine zQ5 (by kernel_rfl) (l:=eB p2::eB p2::gI (true&&(p2==true)) y8::gB (true&&(p2==true)) (decide (1<y8))::eB x76::eB x76::gI (true&&(x76==true)) y23::gB (true&&(x76==true)) (decide (1<y23))::eB x78::eB x78::gR (true&&(x78==true)) v0::gI (true&&(x78==true)) y8::gI (true&&(x78==true)) (y8-1)::gU (true&&(x78==true)) (bAt p0 (y8-1))::gR (true&&(x78==true)) v1::gI (true&&(x78==true)) y23::gI (true&&(x78==true)) (y23-2)::gU (true&&(x78==true)) (bAt p1 (y23-2))::gB (true&&(x78==true)) ((bAt p0 (y8-1))==(bAt p1 (y23-2)))::eB x84::eB x84::gR (true&&(x84==true)) v0::gI (true&&(x84==true)) y8::gI (true&&(x84==true)) (y8-2)::gU (true&&(x84==true)) (bAt p0 (y8-2))::gR (true&&(x84==true)) v1::gI (true&&(x84==true)) y23::gI (true&&(x84==true)) (y23-1)::gU (true&&(x84==true)) (bAt p1 (y23-1))::gB (true&&(x84==true)) ((bAt p0 (y8-2))==(bAt p1 (y23-1)))::eB x90::[]) (tl:=[]) (by kernel_rfl) (by kernel_rfl) (by kernel_rfl) (by kernel_rfl) ?_ ?_
 exact om h2<|ov<|gm 1 true h8<|og 1 true (fun G Q U W H D=>zCM (D.h 0 G Z) Z)<|op (fun Q U W H D=>zAF p2 (D.g 0 Z) (fun hc=>by have a1:Q 103 = .bool (decide (1<y8)):=D 1 _ _ _ Z Z Z Z (zAc Z (zAP hc));show _=Value.bool x76;rw [q77,hc];exact a1) (fun hc=>by show _=Value.bool x76;rw [q77,hc];exact Z))<|ov<|gm 5 true h9<|og 5 true (fun G Q U W H D=>zCM (D.h 0 G Z) Z)<|op (fun Q U W H D=>zAF x76 (D.g 0 Z) (fun hc=>by have a1:Q 107 = .bool (decide (1<y23)):=D 1 _ _ _ Z Z Z Z (zAc Z (zAP hc));show _=Value.bool x78;rw [q79,hc];exact a1) (fun hc=>by show _=Value.bool x78;rw [q79,hc];exact Z))<|ov<|gm 9 true h0<|gm 9 true h8<|og 9 true (fun G Q U W H D=>zAb (D.h 0 G Z) Z (gd e80 G))<|og 9 true (fun G Q U W H D=>zAB ((f_v0.fr W).eq (D.h 0 G Z)) (D.h 1 G Z) underlying9 (gd e81 G))<|gm 9 true h1<|gm 9 true h9<|og 9 true (fun G Q U W H D=>zAb (D.h 0 G Z) Z (gd e82 G))<|og 9 true (fun G Q U W H D=>zAB ((f_v1.fr W).eq (D.h 0 G Z)) (D.h 1 G Z) underlying9 (gd e83 G))<|og 9 true (fun G Q U W H D=>zAo (D.h 0 G Z) (D.h 1 G Z))<|op (fun Q U W H D=>zAF x78 (D.g 0 Z) (fun hc=>by have a1:Q 118 = .bool ((bAt p0 (y8-1))==(bAt p1 (y23-2))):=D 1 _ _ _ Z Z Z Z (zAc Z (zAP hc));show _=Value.bool x84;rw [q85,hc];exact a1) (fun hc=>by show _=Value.bool x84;rw [q85,hc];exact Z))<|ov<|gm 20 true h0<|gm 20 true h8<|og 20 true (fun G Q U W H D=>zAb (D.h 0 G Z) Z (gd e86 G))<|og 20 true (fun G Q U W H D=>zAB ((f_v0.fr W).eq (D.h 0 G Z)) (D.h 1 G Z) underlying9 (gd e87 G))<|gm 20 true h1<|gm 20 true h9<|og 20 true (fun G Q U W H D=>zAb (D.h 0 G Z) Z (gd e88 G))<|og 20 true (fun G Q U W H D=>zAB ((f_v1.fr W).eq (D.h 0 G Z)) (D.h 1 G Z) underlying9 (gd e89 G))<|og 20 true (fun G Q U W H D=>zAo (D.h 0 G Z) (D.h 1 G Z))<|op (fun Q U W H D=>zAF x84 (D.g 0 Z) (fun hc=>by have a1:Q 129 = .bool ((bAt p0 (y8-2))==(bAt p1 (y23-1))):=D 1 _ _ _ Z Z Z Z (zAc Z (zAP hc));show _=Value.bool x90;rw [q91,hc];exact a1) (fun hc=>by show _=Value.bool x90;rw [q91,hc];exact Z))<|oz
 intro R w m n p
 obtain ⟨h0,h1,h2,h7,h8,h9⟩:=k6 n h0 h1 h2 h7 h8 h9
 obtain ⟨h16,h17,h31,h32⟩:=k4 n h16 h17 h31 h32
 have h130:=p.r 30 Z
 replace f_v0:=f_v0.fr m
 replace f_v1:=f_v1.fr m
 replace q:=q.fr m
 replace d:=d.fr m.size
 replace j:=j.trans m
 refine zQ2 x90 h130 (fun c92=>?_) (fun c92=>?_)
 have c:=zAO c92 c
 obtain ⟨e93,c⟩:=zA5 c
 obtain ⟨h94,p_h94⟩:=(((zAM (q.own 0 _ Z).2).elem e93 Z)).open1 Z
 replace q:IniOK [⟨u3,S74,trR (geB w0.heap.size) (oSl 27 (oSl 3 (oRd (eInt .i64)))) Yg74 [((vptr u3 (y8.toNat*1)),[h94])]⟩] A w:=q.repin 0 Z (trP.pin p_h94)
 obtain ⟨e96,c⟩:=zA5 c
 obtain ⟨h97,p_h97⟩:=(((zAM (q.own 0 _ Z).2).elem e96 Z)).open1 Z
 replace q:IniOK [⟨u3,S74,trR (geB w0.heap.size) (oSl 27 (oSl 3 (oRd (eInt .i64)))) Yg74 [((vptr u3 (y8.toNat*1)),[h97]),((vptr u3 (y8.toNat*1)),[h94])]⟩] A w:=q.repin 0 Z (trP.pin p_h97)
 obtain ⟨e99,e100,e101,c⟩:=ck3 c
 obtain ⟨h102,p_h102⟩:=(((zAM (q.own 0 _ Z).2).elem e101 Z)).open1 Z
 replace q:IniOK [⟨u3,S74,trR (geB w0.heap.size) (oSl 27 (oSl 3 (oRd (eInt .i64)))) Yg74 [((vptr u3 ((y8-2).toNat*1)),[h102]),((vptr u3 (y8.toNat*1)),[h97]),((vptr u3 (y8.toNat*1)),[h94])]⟩] A w:=q.repin 0 Z (trP.pin p_h102)
 obtain ⟨e104,e105,e106,e107,c⟩:=ck4 c
 refine zQ6 [⟨u3,S74,trR (geB w0.heap.size) (oSl 27 (oSl 3 (oRd (eInt .i64)))) Yg74 [((vptr u3 ((y8-2).toNat*1)),[h102]),((vptr u3 (y8.toNat*1)),[h97]),((vptr u3 (y8.toNat*1)),[h94])]⟩] (rR u3::rI y8::rR (vptr u3 (y8.toNat*1))::rR h94::rI y23::rR u3::rI y8::rR (vptr u3 (y8.toNat*1))::rR h97::rI y23::rR (vptr h97 (y23.toNat*1))::rI (gtD (gtD Yg74 y8) y23)::rR u3::rI y8::rI (y8-2)::rR (vptr u3 ((y8-2).toNat*1))::rR h102::rI y23::rI (y23-2)::rR (vptr h102 ((y23-2).toNat*1))::rI (gtD (gtD Yg74 (y8-2)) (y23-2))::rI ((gtD (gtD Yg74 (y8-2)) (y23-2))+1)::rI (min (gtD (gtD Yg74 y8) y23) ((gtD (gtD Yg74 (y8-2)) (y23-2))+1))::rR (vptr h94 (y23.toNat*1))::⟨_,true,[0],some (trR (geB w0.heap.size) (oSl 27 (oSl 3 (oRd (eInt .i64)))) (Yg74.set y8.toNat ((gtD Yg74 y8).set y23.toNat (min (gtD (gtD Yg74 y8) y23) ((gtD (gtD Yg74 (y8-2)) (y23-2))+1)))) []),false,fun A=>.any⟩::[]) (by kernel_rfl) (by kernel_rfl) (by kernel_rfl) (Wf.mk' (by kernel_rfl) (ur (ur (ur (ur (ur (ur (ur (ur (ur (ur (ur (ur (ur (ur (ur (ur (ur (ur (ur (ur (ur (ur (ur (ur (ua (UAll.nil)))))))))))))))))))))))))) (by kernel_rfl) (by kernel_rfl)) q d ?_ ?_
 exact rm h7<|rm h8<|rp (fun V Q U O D=>zAH (zAM (q.own 0 _ Z).2) (D.g 0 Z) (D.g 1 Z) underlying227 sizeOf27 e93 Z)<|rp (fun V Q U O D=>zB3 ((O.rdo 0 _ Z Z).2.2 _ (.tail _ (.tail _ (.head _)))) (D.g 0 Z) isAgg27 sizeOf27)<|rm h9<|rm h7<|rm h8<|rp (fun V Q U O D=>zAH (zAM (q.own 0 _ Z).2) (D.g 0 Z) (D.g 1 Z) underlying227 sizeOf27 e96 Z)<|rp (fun V Q U O D=>zB3 ((O.rdo 0 _ Z Z).2.2 _ (.tail _ (.head _))) (D.g 0 Z) isAgg27 sizeOf27)<|rm h9<|rp (fun V Q U O D=>zAH ((((zAM (q.own 0 _ Z).2).elem e96 Z)).pin ((q.own 0 _ Z).2.2 _ (.tail _ (.head _))) Z) (D.g 0 Z) (D.g 1 Z) underlying27 sizeOf3 e99 Z)<|rp (fun V Q U O D=>OpF.int (zDE ((((((zAM (O.rdo 0 _ Z Z).2).elem e96 Z)).pin ((O.rdo 0 _ Z Z).2.2 _ (.tail _ (.head _))) Z).elem e99 Z)) (D.g 0 Z) isAgg3 sizeOf3))<|rm h7<|rm h8<|rp (fun V Q U O D=>zAb (D.g 0 Z) Z e100)<|rp (fun V Q U O D=>zAH (zAM (q.own 0 _ Z).2) (D.g 0 Z) (D.g 1 Z) underlying227 sizeOf27 e101 Z)<|rp (fun V Q U O D=>zB3 ((O.rdo 0 _ Z Z).2.2 _ (.head _)) (D.g 0 Z) isAgg27 sizeOf27)<|rm h9<|rp (fun V Q U O D=>zAb (D.g 0 Z) Z e104)<|rp (fun V Q U O D=>zAH ((((zAM (q.own 0 _ Z).2).elem e101 Z)).pin ((q.own 0 _ Z).2.2 _ (.head _)) Z) (D.g 0 Z) (D.g 1 Z) underlying27 sizeOf3 e105 Z)<|rp (fun V Q U O D=>OpF.int (zDE ((((((zAM (O.rdo 0 _ Z Z).2).elem e101 Z)).pin ((O.rdo 0 _ Z Z).2.2 _ (.head _)) Z).elem e105 Z)) (D.g 0 Z) isAgg3 sizeOf3))<|rp (fun V Q U O D=>zAR (D.g 0 Z) Z e106)<|rp (fun V Q U O D=>zGy (D.g 0 Z) (D.g 1 Z))<|rp (fun V Q U O D=>zAH ((((zAM (q.own 0 _ Z).2).elem e93 Z)).pin ((q.own 0 _ Z).2.2 _ (.tail _ (.tail _ (.head _)))) Z) (D.g 0 Z) (D.g 1 Z) underlying27 sizeOf3 e107 Z)<|rc (zQI 0 _ _ Z Z Z Z Z fun V Q U O D u S X I Y J L M=>by have a0:Q 154=(vptr h94 (y23.toNat*1)):=D.g 0 Z;have a1:Q 153 = .int .i64 (min (gtD (gtD Yg74 y8) y23) ((gtD (gtD Yg74 (y8-2)) (y23-2))+1)):=D.g 1 Z;have e0:=(J _ Z).1;rw [e0] at I ⊢;exact zCV (((((zAM I.2).elem e93 Z)).pin (I.2.2 _ (.tail _ (.tail _ (.head _)))) Z).elem e107 Z) (zAa.eq a1) a0 Y I.1 sizeOf3 (fun _ _ _ h=>h))<|rz
 intro done ρ σ A R w y s
 obtain ⟨h0,h1,h2,h7,h8,h16⟩:=k6 s.rg h0 h1 h2 h7 h8 h16
 obtain ⟨h17,h31,h32⟩:=k3 s.rg h17 h31 h32
 have z108:=s.inivR 0 Z
 have z109:=s.on y 25 24 Z Z Z Z Z z108
 obtain ⟨S110,eS_u3⟩:∃ S,σ 25=S:=⟨_,Z⟩
 replace f_v0:=f_v0.stp s.stp
 replace f_v1:=f_v1.stp s.stp
 obtain ⟨B,j,d⟩:=s.s B C j q ⟨fun _ h=>h,N⟩
 replace q:=s.left y [(25,⟨u3,S110,trR (geB w0.heap.size) (oSl 27 (oSl 3 (oRd (eInt .i64)))) (Yg74.set y8.toNat ((gtD Yg74 y8).set y23.toNat (min (gtD (gtD Yg74 y8) y23) ((gtD (gtD Yg74 (y8-2)) (y23-2))+1)))) []⟩)] ⟨Z,Z,z109,eS_u3,Z,N⟩
 obtain ⟨Yg110,g_Yg110⟩:∃ z,z=(Yg74.set y8.toNat ((gtD Yg74 y8).set y23.toNat (min (gtD (gtD Yg74 y8) y23) ((gtD (gtD Yg74 (y8-2)) (y23-2))+1)))):=⟨_,Z⟩
 rw [← g_Yg110] at q
 try rw [← g_Yg110] at c
 obtain ⟨e112,c⟩:=zA5 c
 refine HT.u d j (eI (y23+1)::eI (y23+1)::[]) ?_ ?_
 exact op (fun Q U W H D=>zAR ((H 32 Z).trans h32) Z e112)<|ov<|oz
 intro R w m n p d j
 obtain ⟨h0,h1,h2,h7,h8,h16⟩:=k6 n h0 h1 h2 h7 h8 h16
 obtain ⟨h17,h31⟩:=k2 n h17 h31
 have h32:=p.r 1 Z
 replace f_v0:=f_v0.fr m
 replace f_v1:=f_v1.fr m
 replace q:=q.fr m
 exact ei k (And.intro (Nat.lt_succ_self k) ⟨_,_,_,S110,c,d,j,B,q,h0,h1,h2,h7,h8,h16,h17,h31,h32,f_v0,f_v1⟩)
 have c:=zAN c92 c
 refine zQA ?_
 obtain ⟨e113,c⟩:=zA5 c
 refine HT.u d j (eI (y23+1)::eI (y23+1)::[]) ?_ ?_
 exact op (fun Q U W H D=>zAR ((H 32 Z).trans h32) Z e113)<|ov<|oz
 intro R w m n p d j
 obtain ⟨h0,h1,h2,h7,h8,h16⟩:=k6 n h0 h1 h2 h7 h8 h16
 obtain ⟨h17,h31⟩:=k2 n h17 h31
 have h32:=p.r 1 Z
 replace f_v0:=f_v0.fr m
 replace f_v1:=f_v1.fr m
 replace q:=q.fr m
 exact ei k (And.intro (Nat.lt_succ_self k) ⟨_,_,_,S74,c,d,j,B,q,h0,h1,h2,h7,h8,h16,h17,h31,h32,f_v0,f_v1⟩)
 have c:=zAN c48 c
 refine zQA ?_
 refine zQ9 ?_
 obtain ⟨e114,c⟩:=zA5 c
 obtain ⟨h115,p_h115⟩:=(((zAM (q.own 0 _ Z).2).elem e114 Z)).open1 Z
 replace q:IniOK [⟨u3,Sl_u3,trR (geB w0.heap.size) (oSl 27 (oSl 3 (oRd (eInt .i64)))) y24 [((vptr u3 (y8.toNat*1)),[h115])]⟩] A w:=q.repin 0 Z (trP.pin p_h115)
 obtain ⟨e117,e118,c⟩:=ck2 c
 obtain ⟨h119,p_h119⟩:=(((zAM (q.own 0 _ Z).2).elem e118 Z)).open1 Z
 replace q:IniOK [⟨u3,Sl_u3,trR (geB w0.heap.size) (oSl 27 (oSl 3 (oRd (eInt .i64)))) y24 [((vptr u3 ((y8-1).toNat*1)),[h119]),((vptr u3 (y8.toNat*1)),[h115])]⟩] A w:=q.repin 0 Z (trP.pin p_h119)
 obtain ⟨e121,e122,e123,c⟩:=ck3 c
 obtain ⟨h124,p_h124⟩:=(((zAM (q.own 0 _ Z).2).elem e123 Z)).open1 Z
 replace q:IniOK [⟨u3,Sl_u3,trR (geB w0.heap.size) (oSl 27 (oSl 3 (oRd (eInt .i64)))) y24 [((vptr u3 (y8.toNat*1)),[h124]),((vptr u3 ((y8-1).toNat*1)),[h119]),((vptr u3 (y8.toNat*1)),[h115])]⟩] A w:=q.repin 0 Z (trP.pin p_h124)
 obtain ⟨e126,e127,e128,e129,c⟩:=ck4 c
 obtain ⟨e130,c⟩:=zA5 c
 obtain ⟨h131,p_h131⟩:=(((zAM (q.own 0 _ Z).2).elem e130 Z)).open1 Z
 replace q:IniOK [⟨u3,Sl_u3,trR (geB w0.heap.size) (oSl 27 (oSl 3 (oRd (eInt .i64)))) y24 [((vptr u3 ((y8-1).toNat*1)),[h131]),((vptr u3 (y8.toNat*1)),[h124]),((vptr u3 ((y8-1).toNat*1)),[h119]),((vptr u3 (y8.toNat*1)),[h115])]⟩] A w:=q.repin 0 Z (trP.pin p_h131)
 obtain ⟨e133,e134,e135,e136,c⟩:=ck4 c
 refine zQ6 [⟨u3,Sl_u3,trR (geB w0.heap.size) (oSl 27 (oSl 3 (oRd (eInt .i64)))) y24 [((vptr u3 ((y8-1).toNat*1)),[h131]),((vptr u3 (y8.toNat*1)),[h124]),((vptr u3 ((y8-1).toNat*1)),[h119]),((vptr u3 (y8.toNat*1)),[h115])]⟩] (rR u3::rI y8::rR (vptr u3 (y8.toNat*1))::rR h115::rI y23::rR u3::rI y8::rI (y8-1)::rR (vptr u3 ((y8-1).toNat*1))::rR h119::rI y23::rR (vptr h119 (y23.toNat*1))::rI (gtD (gtD y24 (y8-1)) y23)::rI ((gtD (gtD y24 (y8-1)) y23)+1)::rR u3::rI y8::rR (vptr u3 (y8.toNat*1))::rR h124::rI y23::rI (y23-1)::rR (vptr h124 ((y23-1).toNat*1))::rI (gtD (gtD y24 y8) (y23-1))::rI ((gtD (gtD y24 y8) (y23-1))+1)::rR u3::rI y8::rI (y8-1)::rR (vptr u3 ((y8-1).toNat*1))::rR h131::rI y23::rI (y23-1)::rR (vptr h131 ((y23-1).toNat*1))::rI (gtD (gtD y24 (y8-1)) (y23-1))::rI 1::rI ((gtD (gtD y24 (y8-1)) (y23-1))+1)::rI (min (min ((gtD (gtD y24 (y8-1)) y23)+1) ((gtD (gtD y24 y8) (y23-1))+1)) ((gtD (gtD y24 (y8-1)) (y23-1))+1))::rR (vptr h115 (y23.toNat*1))::⟨_,true,[0],some (trR (geB w0.heap.size) (oSl 27 (oSl 3 (oRd (eInt .i64)))) (y24.set y8.toNat ((gtD y24 y8).set y23.toNat (min (min ((gtD (gtD y24 (y8-1)) y23)+1) ((gtD (gtD y24 y8) (y23-1))+1)) ((gtD (gtD y24 (y8-1)) (y23-1))+1)))) []),false,fun A=>.any⟩::[]) (by kernel_rfl) (by kernel_rfl) (by kernel_rfl) (Wf.mk' (by kernel_rfl) (ur (ur (ur (ur (ur (ur (ur (ur (ur (ur (ur (ur (ur (ur (ur (ur (ur (ur (ur (ur (ur (ur (ur (ur (ur (ur (ur (ur (ur (ur (ur (ur (ur (ur (ur (ur (ua (UAll.nil)))))))))))))))))))))))))))))))))))))) (by kernel_rfl) (by kernel_rfl)) q d ?_ ?_
 exact rm h7<|rm h8<|rp (fun V Q U O D=>zAH (zAM (q.own 0 _ Z).2) (D.g 0 Z) (D.g 1 Z) underlying227 sizeOf27 e114 Z)<|rp (fun V Q U O D=>zB3 ((O.rdo 0 _ Z Z).2.2 _ (.tail _ (.tail _ (.tail _ (.head _))))) (D.g 0 Z) isAgg27 sizeOf27)<|rm h9<|rm h7<|rm h8<|rp (fun V Q U O D=>zAb (D.g 0 Z) Z e117)<|rp (fun V Q U O D=>zAH (zAM (q.own 0 _ Z).2) (D.g 0 Z) (D.g 1 Z) underlying227 sizeOf27 e118 Z)<|rp (fun V Q U O D=>zB3 ((O.rdo 0 _ Z Z).2.2 _ (.tail _ (.tail _ (.head _)))) (D.g 0 Z) isAgg27 sizeOf27)<|rm h9<|rp (fun V Q U O D=>zAH ((((zAM (q.own 0 _ Z).2).elem e118 Z)).pin ((q.own 0 _ Z).2.2 _ (.tail _ (.tail _ (.head _)))) Z) (D.g 0 Z) (D.g 1 Z) underlying27 sizeOf3 e121 Z)<|rp (fun V Q U O D=>OpF.int (zDE ((((((zAM (O.rdo 0 _ Z Z).2).elem e118 Z)).pin ((O.rdo 0 _ Z Z).2.2 _ (.tail _ (.tail _ (.head _)))) Z).elem e121 Z)) (D.g 0 Z) isAgg3 sizeOf3))<|rp (fun V Q U O D=>zAR (D.g 0 Z) Z e122)<|rm h7<|rm h8<|rp (fun V Q U O D=>zAH (zAM (q.own 0 _ Z).2) (D.g 0 Z) (D.g 1 Z) underlying227 sizeOf27 e123 Z)<|rp (fun V Q U O D=>zB3 ((O.rdo 0 _ Z Z).2.2 _ (.tail _ (.head _))) (D.g 0 Z) isAgg27 sizeOf27)<|rm h9<|rp (fun V Q U O D=>zAb (D.g 0 Z) Z e126)<|rp (fun V Q U O D=>zAH ((((zAM (q.own 0 _ Z).2).elem e123 Z)).pin ((q.own 0 _ Z).2.2 _ (.tail _ (.head _))) Z) (D.g 0 Z) (D.g 1 Z) underlying27 sizeOf3 e127 Z)<|rp (fun V Q U O D=>OpF.int (zDE ((((((zAM (O.rdo 0 _ Z Z).2).elem e123 Z)).pin ((O.rdo 0 _ Z Z).2.2 _ (.tail _ (.head _))) Z).elem e127 Z)) (D.g 0 Z) isAgg3 sizeOf3))<|rp (fun V Q U O D=>zAR (D.g 0 Z) Z e128)<|rm h7<|rm h8<|rp (fun V Q U O D=>zAb (D.g 0 Z) Z e129)<|rp (fun V Q U O D=>zAH (zAM (q.own 0 _ Z).2) (D.g 0 Z) (D.g 1 Z) underlying227 sizeOf27 e130 Z)<|rp (fun V Q U O D=>zB3 ((O.rdo 0 _ Z Z).2.2 _ (.head _)) (D.g 0 Z) isAgg27 sizeOf27)<|rm h9<|rp (fun V Q U O D=>zAb (D.g 0 Z) Z e133)<|rp (fun V Q U O D=>zAH ((((zAM (q.own 0 _ Z).2).elem e130 Z)).pin ((q.own 0 _ Z).2.2 _ (.head _)) Z) (D.g 0 Z) (D.g 1 Z) underlying27 sizeOf3 e134 Z)<|rp (fun V Q U O D=>OpF.int (zDE ((((((zAM (O.rdo 0 _ Z Z).2).elem e130 Z)).pin ((O.rdo 0 _ Z Z).2.2 _ (.head _)) Z).elem e134 Z)) (D.g 0 Z) isAgg3 sizeOf3))<|rm h10<|rp (fun V Q U O D=>zAR (D.g 0 Z) (D.g 1 Z) e135)<|rp (fun V Q U O D=>zKX (D.g 0 Z) (D.g 1 Z) (D.g 2 Z))<|rp (fun V Q U O D=>zAH ((((zAM (q.own 0 _ Z).2).elem e114 Z)).pin ((q.own 0 _ Z).2.2 _ (.tail _ (.tail _ (.tail _ (.head _))))) Z) (D.g 0 Z) (D.g 1 Z) underlying27 sizeOf3 e136 Z)<|rc (zQI 0 _ _ Z Z Z Z Z fun V Q U O D u S X I Y J L M=>by have a0:Q 99=(vptr h115 (y23.toNat*1)):=D.g 0 Z;have a1:Q 98 = .int .i64 (min (min ((gtD (gtD y24 (y8-1)) y23)+1) ((gtD (gtD y24 y8) (y23-1))+1)) ((gtD (gtD y24 (y8-1)) (y23-1))+1)):=D.g 1 Z;have e0:=(J _ Z).1;rw [e0] at I ⊢;exact zCV (((((zAM I.2).elem e114 Z)).pin (I.2.2 _ (.tail _ (.tail _ (.tail _ (.head _))))) Z).elem e136 Z) (zAa.eq a1) a0 Y I.1 sizeOf3 (fun _ _ _ h=>h))<|rz
 intro done ρ σ A R w y s
 obtain ⟨h0,h1,h2,h7,h8,h9⟩:=k6 s.rg h0 h1 h2 h7 h8 h9
 obtain ⟨h16,h17,h31,h32⟩:=k4 s.rg h16 h17 h31 h32
 have z137:=s.inivR 0 Z
 have z138:=s.on y 37 36 Z Z Z Z Z z137
 obtain ⟨S139,eS_u3⟩:∃ S,σ 37=S:=⟨_,Z⟩
 replace f_v0:=f_v0.stp s.stp
 replace f_v1:=f_v1.stp s.stp
 obtain ⟨B,j,d⟩:=s.s B C j q ⟨fun _ h=>h,N⟩
 replace q:=s.left y [(37,⟨u3,S139,trR (geB w0.heap.size) (oSl 27 (oSl 3 (oRd (eInt .i64)))) (y24.set y8.toNat ((gtD y24 y8).set y23.toNat (min (min ((gtD (gtD y24 (y8-1)) y23)+1) ((gtD (gtD y24 y8) (y23-1))+1)) ((gtD (gtD y24 (y8-1)) (y23-1))+1)))) []⟩)] ⟨Z,Z,z138,eS_u3,Z,N⟩
 obtain ⟨Yg139,g_Yg139⟩:∃ z,z=(y24.set y8.toNat ((gtD y24 y8).set y23.toNat (min (min ((gtD (gtD y24 (y8-1)) y23)+1) ((gtD (gtD y24 y8) (y23-1))+1)) ((gtD (gtD y24 (y8-1)) (y23-1))+1)))):=⟨_,Z⟩
 rw [← g_Yg139] at q
 try rw [← g_Yg139] at c
 refine zQ9 ?_
 obtain ⟨x141,q142,c⟩:=zAD c
 obtain ⟨x143,q144,c⟩:=zAD c
 obtain ⟨e145,e146,e147,e148,c⟩:=ck4 c
 obtain ⟨x149,q150,c⟩:=zAD c
 obtain ⟨e151,e152,e153,e154,c⟩:=ck4 c
 obtain ⟨x155,q156,c⟩:=zAD c
 refine zQ5 (by kernel_rfl) (l:=eB p2::eB p2::gI (true&&(p2==true)) y8::gB (true&&(p2==true)) (decide (1<y8))::eB x141::eB x141::gI (true&&(x141==true)) y23::gB (true&&(x141==true)) (decide (1<y23))::eB x143::eB x143::gR (true&&(x143==true)) v0::gI (true&&(x143==true)) y8::gI (true&&(x143==true)) (y8-1)::gU (true&&(x143==true)) (bAt p0 (y8-1))::gR (true&&(x143==true)) v1::gI (true&&(x143==true)) y23::gI (true&&(x143==true)) (y23-2)::gU (true&&(x143==true)) (bAt p1 (y23-2))::gB (true&&(x143==true)) ((bAt p0 (y8-1))==(bAt p1 (y23-2)))::eB x149::eB x149::gR (true&&(x149==true)) v0::gI (true&&(x149==true)) y8::gI (true&&(x149==true)) (y8-2)::gU (true&&(x149==true)) (bAt p0 (y8-2))::gR (true&&(x149==true)) v1::gI (true&&(x149==true)) y23::gI (true&&(x149==true)) (y23-1)::gU (true&&(x149==true)) (bAt p1 (y23-1))::gB (true&&(x149==true)) ((bAt p0 (y8-2))==(bAt p1 (y23-1)))::eB x155::[]) (tl:=[]) (by kernel_rfl) (by kernel_rfl) (by kernel_rfl) (by kernel_rfl) ?_ ?_
 exact om h2<|ov<|gm 1 true h8<|og 1 true (fun G Q U W H D=>zCM (D.h 0 G Z) Z)<|op (fun Q U W H D=>zAF p2 (D.g 0 Z) (fun hc=>by have a1:Q 103 = .bool (decide (1<y8)):=D 1 _ _ _ Z Z Z Z (zAc Z (zAP hc));show _=Value.bool x141;rw [q142,hc];exact a1) (fun hc=>by show _=Value.bool x141;rw [q142,hc];exact Z))<|ov<|gm 5 true h9<|og 5 true (fun G Q U W H D=>zCM (D.h 0 G Z) Z)<|op (fun Q U W H D=>zAF x141 (D.g 0 Z) (fun hc=>by have a1:Q 107 = .bool (decide (1<y23)):=D 1 _ _ _ Z Z Z Z (zAc Z (zAP hc));show _=Value.bool x143;rw [q144,hc];exact a1) (fun hc=>by show _=Value.bool x143;rw [q144,hc];exact Z))<|ov<|gm 9 true h0<|gm 9 true h8<|og 9 true (fun G Q U W H D=>zAb (D.h 0 G Z) Z (gd e145 G))<|og 9 true (fun G Q U W H D=>zAB ((f_v0.fr W).eq (D.h 0 G Z)) (D.h 1 G Z) underlying9 (gd e146 G))<|gm 9 true h1<|gm 9 true h9<|og 9 true (fun G Q U W H D=>zAb (D.h 0 G Z) Z (gd e147 G))<|og 9 true (fun G Q U W H D=>zAB ((f_v1.fr W).eq (D.h 0 G Z)) (D.h 1 G Z) underlying9 (gd e148 G))<|og 9 true (fun G Q U W H D=>zAo (D.h 0 G Z) (D.h 1 G Z))<|op (fun Q U W H D=>zAF x143 (D.g 0 Z) (fun hc=>by have a1:Q 118 = .bool ((bAt p0 (y8-1))==(bAt p1 (y23-2))):=D 1 _ _ _ Z Z Z Z (zAc Z (zAP hc));show _=Value.bool x149;rw [q150,hc];exact a1) (fun hc=>by show _=Value.bool x149;rw [q150,hc];exact Z))<|ov<|gm 20 true h0<|gm 20 true h8<|og 20 true (fun G Q U W H D=>zAb (D.h 0 G Z) Z (gd e151 G))<|og 20 true (fun G Q U W H D=>zAB ((f_v0.fr W).eq (D.h 0 G Z)) (D.h 1 G Z) underlying9 (gd e152 G))<|gm 20 true h1<|gm 20 true h9<|og 20 true (fun G Q U W H D=>zAb (D.h 0 G Z) Z (gd e153 G))<|og 20 true (fun G Q U W H D=>zAB ((f_v1.fr W).eq (D.h 0 G Z)) (D.h 1 G Z) underlying9 (gd e154 G))<|og 20 true (fun G Q U W H D=>zAo (D.h 0 G Z) (D.h 1 G Z))<|op (fun Q U W H D=>zAF x149 (D.g 0 Z) (fun hc=>by have a1:Q 129 = .bool ((bAt p0 (y8-2))==(bAt p1 (y23-1))):=D 1 _ _ _ Z Z Z Z (zAc Z (zAP hc));show _=Value.bool x155;rw [q156,hc];exact a1) (fun hc=>by show _=Value.bool x155;rw [q156,hc];exact Z))<|oz
 intro R w m n p
 obtain ⟨h0,h1,h2,h7,h8,h9⟩:=k6 n h0 h1 h2 h7 h8 h9
 obtain ⟨h16,h17,h31,h32⟩:=k4 n h16 h17 h31 h32
 have h130:=p.r 30 Z
 replace f_v0:=f_v0.fr m
 replace f_v1:=f_v1.fr m
 replace q:=q.fr m
 replace d:=d.fr m.size
 replace j:=j.trans m
 refine zQ2 x155 h130 (fun c157=>?_) (fun c157=>?_)
 have c:=zAO c157 c
 obtain ⟨e158,c⟩:=zA5 c
 obtain ⟨h159,p_h159⟩:=(((zAM (q.own 0 _ Z).2).elem e158 Z)).open1 Z
 replace q:IniOK [⟨u3,S139,trR (geB w0.heap.size) (oSl 27 (oSl 3 (oRd (eInt .i64)))) Yg139 [((vptr u3 (y8.toNat*1)),[h159])]⟩] A w:=q.repin 0 Z (trP.pin p_h159)
 obtain ⟨e161,c⟩:=zA5 c
 obtain ⟨h162,p_h162⟩:=(((zAM (q.own 0 _ Z).2).elem e161 Z)).open1 Z
 replace q:IniOK [⟨u3,S139,trR (geB w0.heap.size) (oSl 27 (oSl 3 (oRd (eInt .i64)))) Yg139 [((vptr u3 (y8.toNat*1)),[h162]),((vptr u3 (y8.toNat*1)),[h159])]⟩] A w:=q.repin 0 Z (trP.pin p_h162)
 obtain ⟨e164,e165,e166,c⟩:=ck3 c
 obtain ⟨h167,p_h167⟩:=(((zAM (q.own 0 _ Z).2).elem e166 Z)).open1 Z
 replace q:IniOK [⟨u3,S139,trR (geB w0.heap.size) (oSl 27 (oSl 3 (oRd (eInt .i64)))) Yg139 [((vptr u3 ((y8-2).toNat*1)),[h167]),((vptr u3 (y8.toNat*1)),[h162]),((vptr u3 (y8.toNat*1)),[h159])]⟩] A w:=q.repin 0 Z (trP.pin p_h167)
 obtain ⟨e169,e170,e171,e172,c⟩:=ck4 c
 refine zQ6 [⟨u3,S139,trR (geB w0.heap.size) (oSl 27 (oSl 3 (oRd (eInt .i64)))) Yg139 [((vptr u3 ((y8-2).toNat*1)),[h167]),((vptr u3 (y8.toNat*1)),[h162]),((vptr u3 (y8.toNat*1)),[h159])]⟩] (rR u3::rI y8::rR (vptr u3 (y8.toNat*1))::rR h159::rI y23::rR u3::rI y8::rR (vptr u3 (y8.toNat*1))::rR h162::rI y23::rR (vptr h162 (y23.toNat*1))::rI (gtD (gtD Yg139 y8) y23)::rR u3::rI y8::rI (y8-2)::rR (vptr u3 ((y8-2).toNat*1))::rR h167::rI y23::rI (y23-2)::rR (vptr h167 ((y23-2).toNat*1))::rI (gtD (gtD Yg139 (y8-2)) (y23-2))::rI ((gtD (gtD Yg139 (y8-2)) (y23-2))+1)::rI (min (gtD (gtD Yg139 y8) y23) ((gtD (gtD Yg139 (y8-2)) (y23-2))+1))::rR (vptr h159 (y23.toNat*1))::⟨_,true,[0],some (trR (geB w0.heap.size) (oSl 27 (oSl 3 (oRd (eInt .i64)))) (Yg139.set y8.toNat ((gtD Yg139 y8).set y23.toNat (min (gtD (gtD Yg139 y8) y23) ((gtD (gtD Yg139 (y8-2)) (y23-2))+1)))) []),false,fun A=>.any⟩::[]) (by kernel_rfl) (by kernel_rfl) (by kernel_rfl) (Wf.mk' (by kernel_rfl) (ur (ur (ur (ur (ur (ur (ur (ur (ur (ur (ur (ur (ur (ur (ur (ur (ur (ur (ur (ur (ur (ur (ur (ur (ua (UAll.nil)))))))))))))))))))))))))) (by kernel_rfl) (by kernel_rfl)) q d ?_ ?_
 exact rm h7<|rm h8<|rp (fun V Q U O D=>zAH (zAM (q.own 0 _ Z).2) (D.g 0 Z) (D.g 1 Z) underlying227 sizeOf27 e158 Z)<|rp (fun V Q U O D=>zB3 ((O.rdo 0 _ Z Z).2.2 _ (.tail _ (.tail _ (.head _)))) (D.g 0 Z) isAgg27 sizeOf27)<|rm h9<|rm h7<|rm h8<|rp (fun V Q U O D=>zAH (zAM (q.own 0 _ Z).2) (D.g 0 Z) (D.g 1 Z) underlying227 sizeOf27 e161 Z)<|rp (fun V Q U O D=>zB3 ((O.rdo 0 _ Z Z).2.2 _ (.tail _ (.head _))) (D.g 0 Z) isAgg27 sizeOf27)<|rm h9<|rp (fun V Q U O D=>zAH ((((zAM (q.own 0 _ Z).2).elem e161 Z)).pin ((q.own 0 _ Z).2.2 _ (.tail _ (.head _))) Z) (D.g 0 Z) (D.g 1 Z) underlying27 sizeOf3 e164 Z)<|rp (fun V Q U O D=>OpF.int (zDE ((((((zAM (O.rdo 0 _ Z Z).2).elem e161 Z)).pin ((O.rdo 0 _ Z Z).2.2 _ (.tail _ (.head _))) Z).elem e164 Z)) (D.g 0 Z) isAgg3 sizeOf3))<|rm h7<|rm h8<|rp (fun V Q U O D=>zAb (D.g 0 Z) Z e165)<|rp (fun V Q U O D=>zAH (zAM (q.own 0 _ Z).2) (D.g 0 Z) (D.g 1 Z) underlying227 sizeOf27 e166 Z)<|rp (fun V Q U O D=>zB3 ((O.rdo 0 _ Z Z).2.2 _ (.head _)) (D.g 0 Z) isAgg27 sizeOf27)<|rm h9<|rp (fun V Q U O D=>zAb (D.g 0 Z) Z e169)<|rp (fun V Q U O D=>zAH ((((zAM (q.own 0 _ Z).2).elem e166 Z)).pin ((q.own 0 _ Z).2.2 _ (.head _)) Z) (D.g 0 Z) (D.g 1 Z) underlying27 sizeOf3 e170 Z)<|rp (fun V Q U O D=>OpF.int (zDE ((((((zAM (O.rdo 0 _ Z Z).2).elem e166 Z)).pin ((O.rdo 0 _ Z Z).2.2 _ (.head _)) Z).elem e170 Z)) (D.g 0 Z) isAgg3 sizeOf3))<|rp (fun V Q U O D=>zAR (D.g 0 Z) Z e171)<|rp (fun V Q U O D=>zGy (D.g 0 Z) (D.g 1 Z))<|rp (fun V Q U O D=>zAH ((((zAM (q.own 0 _ Z).2).elem e158 Z)).pin ((q.own 0 _ Z).2.2 _ (.tail _ (.tail _ (.head _)))) Z) (D.g 0 Z) (D.g 1 Z) underlying27 sizeOf3 e172 Z)<|rc (zQI 0 _ _ Z Z Z Z Z fun V Q U O D u S X I Y J L M=>by have a0:Q 154=(vptr h159 (y23.toNat*1)):=D.g 0 Z;have a1:Q 153 = .int .i64 (min (gtD (gtD Yg139 y8) y23) ((gtD (gtD Yg139 (y8-2)) (y23-2))+1)):=D.g 1 Z;have e0:=(J _ Z).1;rw [e0] at I ⊢;exact zCV (((((zAM I.2).elem e158 Z)).pin (I.2.2 _ (.tail _ (.tail _ (.head _)))) Z).elem e172 Z) (zAa.eq a1) a0 Y I.1 sizeOf3 (fun _ _ _ h=>h))<|rz
 intro done ρ σ A R w y s
 obtain ⟨h0,h1,h2,h7,h8,h16⟩:=k6 s.rg h0 h1 h2 h7 h8 h16
 obtain ⟨h17,h31,h32⟩:=k3 s.rg h17 h31 h32
 have z173:=s.inivR 0 Z
 have z174:=s.on y 25 24 Z Z Z Z Z z173
 obtain ⟨S175,eS_u3⟩:∃ S,σ 25=S:=⟨_,Z⟩
 replace f_v0:=f_v0.stp s.stp
 replace f_v1:=f_v1.stp s.stp
 obtain ⟨B,j,d⟩:=s.s B C j q ⟨fun _ h=>h,N⟩
 replace q:=s.left y [(25,⟨u3,S175,trR (geB w0.heap.size) (oSl 27 (oSl 3 (oRd (eInt .i64)))) (Yg139.set y8.toNat ((gtD Yg139 y8).set y23.toNat (min (gtD (gtD Yg139 y8) y23) ((gtD (gtD Yg139 (y8-2)) (y23-2))+1)))) []⟩)] ⟨Z,Z,z174,eS_u3,Z,N⟩
 obtain ⟨Yg175,g_Yg175⟩:∃ z,z=(Yg139.set y8.toNat ((gtD Yg139 y8).set y23.toNat (min (gtD (gtD Yg139 y8) y23) ((gtD (gtD Yg139 (y8-2)) (y23-2))+1)))):=⟨_,Z⟩
 rw [← g_Yg175] at q
 try rw [← g_Yg175] at c
 obtain ⟨e177,c⟩:=zA5 c
 refine HT.u d j (eI (y23+1)::eI (y23+1)::[]) ?_ ?_
 exact op (fun Q U W H D=>zAR ((H 32 Z).trans h32) Z e177)<|ov<|oz
 intro R w m n p d j
 obtain ⟨h0,h1,h2,h7,h8,h16⟩:=k6 n h0 h1 h2 h7 h8 h16
 obtain ⟨h17,h31⟩:=k2 n h17 h31
 have h32:=p.r 1 Z
 replace f_v0:=f_v0.fr m
 replace f_v1:=f_v1.fr m
 replace q:=q.fr m
 exact ei k (And.intro (Nat.lt_succ_self k) ⟨_,_,_,S175,c,d,j,B,q,h0,h1,h2,h7,h8,h16,h17,h31,h32,f_v0,f_v1⟩)
 have c:=zAN c157 c
 refine zQA ?_
 obtain ⟨e178,c⟩:=zA5 c
 refine HT.u d j (eI (y23+1)::eI (y23+1)::[]) ?_ ?_
 exact op (fun Q U W H D=>zAR ((H 32 Z).trans h32) Z e178)<|ov<|oz
 intro R w m n p d j
 obtain ⟨h0,h1,h2,h7,h8,h16⟩:=k6 n h0 h1 h2 h7 h8 h16
 obtain ⟨h17,h31⟩:=k2 n h17 h31
 have h32:=p.r 1 Z
 replace f_v0:=f_v0.fr m
 replace f_v1:=f_v1.fr m
 replace q:=q.fr m
 exact ei k (And.intro (Nat.lt_succ_self k) ⟨_,_,_,S139,c,d,j,B,q,h0,h1,h2,h7,h8,h16,h17,h31,h32,f_v0,f_v1⟩)
 have c:=zAN c25 c
 refine zQ7 ?_
 obtain rfl:=si c
 exact ei _ ⟨_,Sl_u3,Z,d,j,B,q,h0,h1,h2,h7,h16,h17,f_v0,f_v1⟩
 rintro R w ⟨A,s22,So_u3,es,d,j,B,q,h0,h1,h2,h7,h16,h17,f_v0,f_v1⟩
 obtain rfl:=es.symm
 obtain ⟨e179,c⟩:=zA5 c
 refine HT.u d j (eI (y8+1)::eI (y8+1)::[]) ?_ ?_
 exact op (fun Q U W H D=>zAR ((H 17 Z).trans h17) Z e179)<|ov<|oz
 intro R w m n p d j
 obtain ⟨h0,h1,h2,h7,h16⟩:=k5 n h0 h1 h2 h7 h16
 have h17:=p.r 1 Z
 replace f_v0:=f_v0.fr m
 replace f_v1:=f_v1.fr m
 replace q:=q.fr m
 exact ei k (And.intro (Nat.lt_succ_self k) ⟨_,_,_,So_u3,c,d,j,B,q,h0,h1,h2,h7,h16,h17,f_v0,f_v1⟩)
 have c:=zAN c10 c
 refine zQ7 ?_
 obtain rfl:=si c
 exact ei _ ⟨_,Sl_u3,Z,d,j,B,q,h7⟩
 rintro R w ⟨A,s7,So_u3,es,d,j,B,q,h7⟩
 obtain rfl:=es.symm
 refine zQC [⟨u3,So_u3,trR (geB w0.heap.size) (oSl 27 (oSl 3 (oRd (eInt .i64)))) s7 []⟩] (rR u3::rR u3::[]) (ur (ur (UAll.nil))) q d ?_ ?_
 exact rm h7<|ra<|rz
 intro done ρ σ A R w y s
 have z180:=s.inivR 0 Z
 have eS_u3:=s.inisR 0 Z
 have h6:=s.r y 1 Z
 obtain ⟨B,j,d⟩:=s.s B C j q ⟨fun _ h=>h,N⟩
 replace q:=s.left y [(0,⟨u3,So_u3,trR (geB w0.heap.size) (oSl 27 (oSl 3 (oRd (eInt .i64)))) s7 []⟩)] ⟨Z,Z,z180,eS_u3,Z,N⟩
 refine HT.ret ?_
 obtain rfl:=si c
 exact ⟨.inr Z,[R 6],⟨Z,N⟩,zMF Z (q.own 0 _ Z) (q.ok 0 _ Z).2 B j h6 N⟩
theorem zGj {fu : Nat} {A0 : Av} {p0 : List UInt8} {p1 : List UInt8} {p2 : Bool} {r : List (List Int)} (c : zCf fu p0 p1 p2 = some r) {w : World} {v0 : Value} {v1 : Value} {v2 : Value} (d : AvOK A0 w) (h0 : Rep eStr A0 w v0 p0) (h1 : Rep eStr A0 w v1 p1) (h2 : v2 = .bool p2) :
 Calls prog 319 #[v0,v1,v2] w fun e w'=>∃ v,e = .returned v∧(Rep (eSl (eSl (eInt .i64))) A0 w' v r∧Fr w w'):=by
 refine Calls.mono (zGw c d h0 h1 h2) ?_
 rintro e w' ⟨v,he,h⟩
 exact ⟨v,he,zMT h d⟩
def zEE (fu:Nat) (p0:List UInt8) (p1:List UInt8) (p2:Bool):Option Int:=
 bd ((decide (40<(p0.length:Int))) || (decide (40<(p1.length:Int)))) fun x1=>
 bif x1 then (
 some (-1)
 ) else (
 cl true (zCf fu p0 p1 p2) fun x4=>
 ck (inR (p0.length:Int) x4.length) <|
 ck (inR (p1.length:Int) (gtD x4 (p0.length:Int)).length) <|
 some (gtD (gtD x4 (p0.length:Int)) (p1.length:Int))
 )
theorem zHE {fu : Nat} {A : Av} {p0 : List UInt8} {p1 : List UInt8} {p2 : Bool} {r : Int} (c : zEE fu p0 p1 p2 = some r) {w : World} {v0 : Value} {v1 : Value} {v2 : Value} (d : AvOK A w) (h0 : Rep eStr A w v0 p0) (h1 : Rep eStr A w v1 p1) (h2 : v2 = .bool p2) :
 Calls prog 299 #[v0,v1,v2] w fun e w'=>∃ v,e = .returned v∧(v = .int .i64 r∧Fr w w'):=by
 unfold zEE at c
 obtain ⟨w0,hw0,j⟩:=pf w
 rw [fw hw0]
 refine zA3 [.tmp 6] func299 ntmps299 (by decide) Z Z (nb Z) ?_
 intro R hR
 have f_v0:=h0
 replace h0:R 0=v0:=hR 0 _ Z
 have f_v1:=h1
 replace h1:R 1=v1:=hR 1 _ Z
 replace h2:R 2 = .bool p2:=(hR 2 _ Z).trans h2
 refine zQB d j (eI 0::[]) ?_ ?_
 exact op (fun Q U W H D=>zA2 Z)<|oz
 intro R w m n p d j
 obtain ⟨h0,h1,h2⟩:=k3 n h0 h1 h2
 replace f_v0:=f_v0.fr m
 replace f_v1:=f_v1.fr m
 refine zQ9 ?_
 refine zQ9 ?_
 obtain ⟨x1,q2,c⟩:=zAD c
 refine HT.u d j (eR v0::eI (p0.length:Int)::eB (decide (40<(p0.length:Int)))::eB (decide (40<(p0.length:Int)))::gR (true&&((decide (40<(p0.length:Int)))==false)) v1::gI (true&&((decide (40<(p0.length:Int)))==false)) (p1.length:Int)::gB (true&&((decide (40<(p0.length:Int)))==false)) (decide (40<(p1.length:Int)))::eB x1::[]) ?_ ?_
 exact om h0<|op (fun Q U W H D=>zAJ ((f_v0.fr W).eq (D.g 0 Z)) underlying9)<|op (fun Q U W H D=>zCM (D.g 0 Z) Z)<|ov<|gm 3 false h1<|og 3 false (fun G Q U W H D=>zAJ ((f_v1.fr W).eq (D.h 0 G Z)) underlying9)<|og 3 false (fun G Q U W H D=>zCM (D.h 0 G Z) Z)<|op (fun Q U W H D=>zAF (decide (40<(p0.length:Int))) (D.g 0 Z) (fun hc=>by show _=Value.bool x1;rw [q2,hc];exact Z) (fun hc=>by have a2:Q 13 = .bool (decide (40<(p1.length:Int))):=D 1 _ _ _ Z Z Z Z (zAc Z (zAP hc));show _=Value.bool x1;rw [q2,hc];exact a2))<|oz
 intro R w m n p d j
 obtain ⟨h0,h1,h2⟩:=k3 n h0 h1 h2
 have h14:=p.r 7 Z
 replace f_v0:=f_v0.fr m
 replace f_v1:=f_v1.fr m
 refine zQ2 x1 h14 (fun c3=>?_) (fun c3=>?_)
 have c:=zAO c3 c
 refine zQB d j (eI (-1)::[]) ?_ ?_
 exact op (fun Q U W H D=>zA2 Z)<|oz
 intro R w m n p d j
 have h6:=p.r 0 Z
 refine HT.ret ?_
 obtain rfl:=si c
 exact ⟨.inr Z,[R 6],⟨Z,N⟩,h6,j⟩
 have c:=zAN c3 c
 refine zQA ?_
 obtain ⟨x4,q5,c⟩:=zA4 c
 obtain ⟨e6,e7,c⟩:=ck2 c
 refine zQB d j (eR v0::eR v1::eB p2::eF (.rep (eSl (eSl (eInt .i64))) A x4)::eR v0::eI (p0.length:Int)::eF (.qtr (eSl (eInt .i64)) A (gtD x4 (p0.length:Int)))::eF (.rep (eSl (eInt .i64)) A (gtD x4 (p0.length:Int)))::eR v1::eI (p1.length:Int)::eF (.qtr (eInt .i64) A (gtD (gtD x4 (p0.length:Int)) (p1.length:Int)))::eI (gtD (gtD x4 (p0.length:Int)) (p1.length:Int))::eI (gtD (gtD x4 (p0.length:Int)) (p1.length:Int))::[]) ?_ ?_
 exact om h0<|om h1<|om h2<|op (fun Q U W H D=>zA8 call319 (zGj (q5 Z) (d.fr W.size) ((f_v0.fr W).eq (D.g 0 Z)) ((f_v1.fr W).eq (D.g 1 Z)) (D.g 2 Z)))<|om h0<|op (fun Q U W H D=>zAJ ((f_v0.fr W).eq (D.g 0 Z)) underlying9)<|op (fun Q U W H D=>zA7 (D.g 0 Z) (D.g 1 Z) underlying227 sizeOf27 e6)<|op (fun Q U W H D=>(zAT (QRep.ptr (D.g 0 Z)) isAgg27 sizeOf27))<|om h1<|op (fun Q U W H D=>zAJ ((f_v1.fr W).eq (D.g 0 Z)) underlying9)<|op (fun Q U W H D=>zA7 (D.g 0 Z) (D.g 1 Z) underlying27 sizeOf3 e7)<|op (fun Q U W H D=>OpF.int (zAT (QRep.ptr (D.g 0 Z)) isAgg3 sizeOf3))<|oa<|oz
 intro R w m n p d j
 have h6:=p.r 12 Z
 refine HT.ret ?_
 obtain rfl:=si c
 exact ⟨.inr Z,[R 6],⟨Z,N⟩,h6,j⟩
def zCa (fu:Nat) (p0:List UInt8) (p1:List UInt8):Option Int:=
 cl true (zEE fu p0 p1 false) fun x1=>
 some x1
theorem zG8 {fu : Nat} {A : Av} {p0 : List UInt8} {p1 : List UInt8} {r : Int} (c : zCa fu p0 p1 = some r) {w : World} {v0 : Value} {v1 : Value} (d : AvOK A w) (h0 : Rep eStr A w v0 p0) (h1 : Rep eStr A w v1 p1) :
 Calls prog 263 #[v0,v1] w fun e w'=>∃ v,e = .returned v∧(v = .int .i64 r∧Fr w w'):=by
 unfold zCa at c
 obtain ⟨w0,hw0,j⟩:=pf w
 rw [fw hw0]
 refine zA3 [.tmp 4] func263 ntmps263 (by decide) Z Z (nb Z) ?_
 intro R hR
 have f_v0:=h0
 replace h0:R 0=v0:=hR 0 _ Z
 have f_v1:=h1
 replace h1:R 1=v1:=hR 1 _ Z
 refine zQB d j (eI 0::[]) ?_ ?_
 exact op (fun Q U W H D=>zA2 Z)<|oz
 intro R w m n p d j
 obtain ⟨h0,h1⟩:=k2 n h0 h1
 replace f_v0:=f_v0.fr m
 replace f_v1:=f_v1.fr m
 obtain ⟨x1,q2,c⟩:=zA4 c
 refine zQB d j (eR v0::eR v1::eI x1::eI x1::[]) ?_ ?_
 exact om h0<|om h1<|op (fun Q U W H D=>zA8 call299 (zHE (q2 Z) (d.fr W.size) ((f_v0.fr W).eq (D.g 0 Z)) ((f_v1.fr W).eq (D.g 1 Z)) Z))<|oa<|oz
 intro R w m n p d j
 have h4:=p.r 3 Z
 refine HT.ret ?_
 obtain rfl:=si c
 exact ⟨.inr Z,[R 4],⟨Z,N⟩,h4,j⟩
def zDw (fu:Nat) (p0:List UInt8) (p1:List UInt8):Option Int:=
 cl true (zCa fu p0 p1) fun x1=>
 bif (decide (x1<0)) then (
 some 0
 ) else (
 bif ((max (p0.length:Int) (p1.length:Int))==0) then (
 some 1000
 ) else (
 ck (i64B ((max (p0.length:Int) (p1.length:Int))-x1)) <|
 ck (i64B (1000*((max (p0.length:Int) (p1.length:Int))-x1))) <|
 ck ((max (p0.length:Int) (p1.length:Int)) != 0) <|
 ck (i64B ((1000*((max (p0.length:Int) (p1.length:Int))-x1)).tdiv (max (p0.length:Int) (p1.length:Int)))) <|
 some ((1000*((max (p0.length:Int) (p1.length:Int))-x1)).tdiv (max (p0.length:Int) (p1.length:Int)))
 )
 )
theorem zGp {fu : Nat} {A : Av} {p0 : List UInt8} {p1 : List UInt8} {r : Int} (c : zDw fu p0 p1 = some r) {w : World} {v0 : Value} {v1 : Value} (d : AvOK A w) (h0 : Rep eStr A w v0 p0) (h1 : Rep eStr A w v1 p1) :
 Calls prog 223 #[v0,v1] w fun e w'=>∃ v,e = .returned v∧(v = .int .i64 r∧Fr w w'):=by
 unfold zDw at c
 obtain ⟨w0,hw0,j⟩:=pf w
 rw [fw hw0]
 refine zA3 [.tmp 4] func223 ntmps223 (by decide) Z Z (nb Z) ?_
 intro R hR
 have f_v0:=h0
 replace h0:R 0=v0:=hR 0 _ Z
 have f_v1:=h1
 replace h1:R 1=v1:=hR 1 _ Z
 refine zQB d j (eI 0::[]) ?_ ?_
 exact op (fun Q U W H D=>zA2 Z)<|oz
 intro R w m n p d j
 obtain ⟨h0,h1⟩:=k2 n h0 h1
 replace f_v0:=f_v0.fr m
 replace f_v1:=f_v1.fr m
 obtain ⟨x1,q2,c⟩:=zA4 c
 refine zQB d j (eR v0::eR v1::eI x1::eR v0::eI (p0.length:Int)::eR v1::eI (p1.length:Int)::eI (max (p0.length:Int) (p1.length:Int))::eI x1::eI (max (p0.length:Int) (p1.length:Int))::[]) ?_ ?_
 exact om h0<|om h1<|op (fun Q U W H D=>zA8 call263 (zG8 (q2 Z) (d.fr W.size) ((f_v0.fr W).eq (D.g 0 Z)) ((f_v1.fr W).eq (D.g 1 Z))))<|om h0<|op (fun Q U W H D=>zAJ ((f_v0.fr W).eq (D.g 0 Z)) underlying9)<|om h1<|op (fun Q U W H D=>zAJ ((f_v1.fr W).eq (D.g 0 Z)) underlying9)<|op (fun Q U W H D=>zIg (D.g 0 Z) (D.g 1 Z))<|oa<|oa<|oz
 intro R w m n p d j
 have h5:=p.r 8 Z
 have h6:=p.r 9 Z
 refine zQ9 ?_
 refine HT.block ?_
 refine zQB d j (eI x1::eB (decide (x1<0))::eB (decide (x1<0))::[]) ?_ ?_
 exact om h5<|op (fun Q U W H D=>zAu (D.g 0 Z) Z)<|oa<|oz
 intro R w m n p d j
 obtain ⟨h5,h6⟩:=k2 n h5 h6
 have h15:=p.r 2 Z
 refine zQ2 (decide (x1<0)) h15 (fun c3=>?_) (fun c3=>?_)
 have c:=zAO c3 c
 refine zQB d j (eI 0::[]) ?_ ?_
 exact op (fun Q U W H D=>zA2 Z)<|oz
 intro R w m n p d j
 have h4:=p.r 0 Z
 refine HT.ret ?_
 obtain rfl:=si c
 exact ⟨.inr Z,[R 4],⟨Z,N⟩,h4,j⟩
 have c:=zAN c3 c
 refine zQB d j (eI (max (p0.length:Int) (p1.length:Int))::eB ((max (p0.length:Int) (p1.length:Int))==0)::eB ((max (p0.length:Int) (p1.length:Int))==0)::[]) ?_ ?_
 exact om h6<|op (fun Q U W H D=>zAo (D.g 0 Z) Z)<|oa<|oz
 intro R w m n p d j
 obtain ⟨h5,h6⟩:=k2 n h5 h6
 have h18:=p.r 2 Z
 refine zQ2 ((max (p0.length:Int) (p1.length:Int))==0) h18 (fun c4=>?_) (fun c4=>?_)
 have c:=zAO c4 c
 refine zQB d j (eI 1000::[]) ?_ ?_
 exact op (fun Q U W H D=>zA2 Z)<|oz
 intro R w m n p d j
 have h4:=p.r 0 Z
 refine HT.ret ?_
 obtain rfl:=si c
 exact ⟨.inr Z,[R 4],⟨Z,N⟩,h4,j⟩
 have c:=zAN c4 c
 refine zQA ?_
 obtain ⟨e5,e6,e7,e8,c⟩:=ck4 c
 refine zQB d j (eI (max (p0.length:Int) (p1.length:Int))::eI x1::eI ((max (p0.length:Int) (p1.length:Int))-x1)::eI (1000*((max (p0.length:Int) (p1.length:Int))-x1))::eI (max (p0.length:Int) (p1.length:Int))::eI ((1000*((max (p0.length:Int) (p1.length:Int))-x1)).tdiv (max (p0.length:Int) (p1.length:Int)))::eI ((1000*((max (p0.length:Int) (p1.length:Int))-x1)).tdiv (max (p0.length:Int) (p1.length:Int)))::[]) ?_ ?_
 exact om h6<|om h5<|op (fun Q U W H D=>zAb (D.g 0 Z) (D.g 1 Z) e5)<|op (fun Q U W H D=>zGQ Z (D.g 0 Z) e6)<|om h6<|op (fun Q U W H D=>zHm (D.g 0 Z) (D.g 1 Z) e7 e8)<|oa<|oz
 intro R w m n p d j
 have h4:=p.r 6 Z
 refine HT.ret ?_
 obtain rfl:=si c
 exact ⟨.inr Z,[R 4],⟨Z,N⟩,h4,j⟩
def zCi (fu:Nat) (p0:List UInt8) (p1:List UInt8):Option Int:=
 cl true (zCH fu p0) fun x1=>
 cl true (zCH fu p1) fun x3=>
 bd ((x1==([]:List UInt8)) || (x3==([]:List UInt8))) fun x7=>
 bif x7 then (
 some 0
 ) else (
 cl true (zDw fu x1 x3) fun x10=>
 some x10
 )
theorem zF2 {fu : Nat} {A : Av} {p0 : List UInt8} {p1 : List UInt8} {r : Int} (c : zCi fu p0 p1 = some r) {w : World} {v0 : Value} {v1 : Value} (d : AvOK A w) (hG : GTab w) (h0 : Rep eStr A w v0 p0) (h1 : Rep eStr A w v1 p1) :
 Calls prog 180 #[v0,v1] w fun e w'=>∃ v,e = .returned v∧(v = .int .i64 r∧Fr w w'):=by
 unfold zCi at c
 obtain ⟨w0,hw0,j⟩:=pf w
 rw [fw hw0]
 have hG0:GTab w0:=hw0 ▸ hG
 refine zA3 [.tmp 4] func180 ntmps180 (by decide) Z Z (nb Z) ?_
 intro R hR
 have f_v0:=h0
 replace h0:R 0=v0:=hR 0 _ Z
 have f_v1:=h1
 replace h1:R 1=v1:=hR 1 _ Z
 refine zQB d j (eI 0::[]) ?_ ?_
 exact op (fun Q U W H D=>zA2 Z)<|oz
 intro R w m n p d j
 obtain ⟨h0,h1⟩:=k2 n h0 h1
 replace f_v0:=f_v0.fr m
 replace f_v1:=f_v1.fr m
 obtain ⟨x1,q2,c⟩:=zA4 c
 obtain ⟨x3,q4,c⟩:=zA4 c
 refine zQB d j (eR v0::eF (.rep eStr A x1)::eR v1::eF (.rep eStr A x3)::eF (.rep eStr A x1)::eF (.rep eStr A x3)::[]) ?_ ?_
 exact om h0<|op (fun Q U W H D=>zA8 call218 (zDx (q2 Z) (d.fr W.size) (hG0.fr (j.trans W)) ((f_v0.fr W).eq (D.g 0 Z))))<|om h1<|op (fun Q U W H D=>zA8 call218 (zDx (q4 Z) (d.fr W.size) (hG0.fr (j.trans W)) ((f_v1.fr W).eq (D.g 0 Z))))<|op (fun Q U W H D=>zA2 (D.g 0 Z))<|op (fun Q U W H D=>zA2 (D.g 0 Z))<|oz
 intro R w m n p d j
 obtain ⟨u5,h5,f_u5⟩:∃ u,R 5=u∧Rep eStr A w u x1:=⟨_,Z,p 4 _ _ Z Z Z⟩
 obtain ⟨u6,h6,f_u6⟩:∃ u,R 6=u∧Rep eStr A w u x3:=⟨_,Z,p 5 _ _ Z Z Z⟩
 refine zQ9 ?_
 refine zQ9 ?_
 obtain ⟨x7,q8,c⟩:=zAD c
 refine HT.u d j (eR u5::eB (x1==([]:List UInt8))::eB (x1==([]:List UInt8))::gR (true&&((x1==([]:List UInt8))==false)) u6::gB (true&&((x1==([]:List UInt8))==false)) (x3==([]:List UInt8))::eB x7::[]) ?_ ?_
 exact om h5<|op (fun Q U W H D=>zBD ((f_u5.fr W).eq (D.g 0 Z)) ⟨_,Z,⟨_,Z,Z,by decide⟩⟩)<|ov<|gm 2 false h6<|og 2 false (fun G Q U W H D=>zBD ((f_u6.fr W).eq (D.h 0 G Z)) ⟨_,Z,⟨_,Z,Z,by decide⟩⟩)<|op (fun Q U W H D=>zAF (x1==([]:List UInt8)) (D.g 0 Z) (fun hc=>by show _=Value.bool x7;rw [q8,hc];exact Z) (fun hc=>by have a2:Q 15 = .bool (x3==([]:List UInt8)):=D 1 _ _ _ Z Z Z Z (zAc Z (zAP hc));show _=Value.bool x7;rw [q8,hc];exact a2))<|oz
 intro R w m n p d j
 obtain ⟨h5,h6⟩:=k2 n h5 h6
 have h16:=p.r 5 Z
 replace f_u5:=f_u5.fr m
 replace f_u6:=f_u6.fr m
 refine zQ2 x7 h16 (fun c9=>?_) (fun c9=>?_)
 have c:=zAO c9 c
 refine zQB d j (eI 0::[]) ?_ ?_
 exact op (fun Q U W H D=>zA2 Z)<|oz
 intro R w m n p d j
 have h4:=p.r 0 Z
 refine HT.ret ?_
 obtain rfl:=si c
 exact ⟨.inr Z,[R 4],⟨Z,N⟩,h4,j⟩
 have c:=zAN c9 c
 refine zQA ?_
 obtain ⟨x10,q11,c⟩:=zA4 c
 refine zQB d j (eR u5::eR u6::eI x10::eI x10::[]) ?_ ?_
 exact om h5<|om h6<|op (fun Q U W H D=>zA8 call223 (zGp (q11 Z) (d.fr W.size) ((f_u5.fr W).eq (D.g 0 Z)) ((f_u6.fr W).eq (D.g 1 Z))))<|oa<|oz
 intro R w m n p d j
 have h4:=p.r 3 Z
 refine HT.ret ?_
 obtain rfl:=si c
 exact ⟨.inr Z,[R 4],⟨Z,N⟩,h4,j⟩
def zDo (fu:Nat) (p0:Int):Option Bool:=
 some (p0==32)
theorem zHe {fu : Nat} {A : Av} {p0 : Int} {r : Bool} (c : zDo fu p0 = some r) {w : World} {v0 : Value} (d : AvOK A w) (h0 : v0 = .int .i32 p0) :
 Calls prog 251 #[v0] w fun e w'=>∃ v,e = .returned v∧(v = .bool r∧Fr w w'):=by
 unfold zDo at c
 obtain ⟨w0,hw0,j⟩:=pf w
 rw [fw hw0]
 refine zA3 [.tmp 2] func251 ntmps251 (by decide) Z Z (nb Z) ?_
 intro R hR
 replace h0:R 0 = .int .i32 p0:=(hR 0 _ Z).trans h0
 refine zQB d j (eB false::[]) ?_ ?_
 exact op (fun Q U W H D=>zA2 Z)<|oz
 intro R w m n p d j
 replace h0:=k1 n h0
 refine zQB d j (eR (.int .i32 p0)::eB (p0==32)::eB (p0==32)::[]) ?_ ?_
 exact om h0<|op (fun Q U W H D=>zAo (D.g 0 Z) Z)<|oa<|oz
 intro R w m n p d j
 have h2:=p.r 2 Z
 refine HT.ret ?_
 obtain rfl:=si c
 exact ⟨.inr Z,[R 2],⟨Z,N⟩,h2,j⟩
def zEc (fu:Nat) (p0:List UInt8):Option (List (List UInt8)):=
 cl true (zI7 fu p0 (fun x=>zDo fu x)) fun x1=>
 some x1
theorem zI9 {fu : Nat} {A : Av} {p0 : List UInt8} {r : List (List UInt8)} (c : zEc fu p0 = some r) {w : World} {v0 : Value} (d : AvOK A w) (h0 : Rep eStr A w v0 p0) :
 Calls prog 217 #[v0] w fun e w'=>∃ v,e = .returned v∧(Rep (eSl eStr) A w' v r∧Fr w w'):=by
 unfold zEc at c
 obtain ⟨w0,hw0,j⟩:=pf w
 rw [fw hw0]
 refine zA3 [.tmp 2] func217 ntmps217 (by decide) Z Z (nb Z) ?_
 intro R hR
 have f_v0:=h0
 replace h0:R 0=v0:=hR 0 _ Z
 refine zQB d j (eF (.rep (eSl eStr) A ([]:List (List UInt8)))::[]) ?_ ?_
 exact op (fun Q U W H D=>zA2 zJc)<|oz
 intro R w m n p d j
 replace h0:=k1 n h0
 replace f_v0:=f_v0.fr m
 obtain ⟨x1,q2,c⟩:=zA4 c
 refine zQB d j (eR v0::eF (.rep (eSl eStr) A x1)::eF (.rep (eSl eStr) A x1)::[]) ?_ ?_
 exact om h0<|op (fun Q U W H D=>zA8 call250 (zKQ (q2 Z) (d.fr W.size) ((f_v0.fr W).eq (D.g 0 Z)) (zIL [] Z call251 (fun x r hr' w'' a p hA' ha=>zHe hr' hA' (zGb ha)))))<|op (fun Q U W H D=>zA2 (D.g 0 Z))<|oz
 intro R w m n p d j
 obtain ⟨u3,h2,f_u3⟩:∃ u,R 2=u∧Rep (eSl eStr) A w u x1:=⟨_,Z,p 2 _ _ Z Z Z⟩
 refine HT.ret ?_
 obtain rfl:=si c
 exact ⟨.inr Z,[R 2],⟨Z,N⟩,(f_u3.eq h2),j⟩
end Go.Proofs.YtcodfkieaoomnaaGreatDoor
