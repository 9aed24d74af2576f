/- Own texts laid together. No statement of the seat is proved here. -/
import Derived.Test.YtmgiijdejigdhaaGreatDoorZx3
namespace Go.Proofs.YtmgiijdejigdhaaGreatDoor
open Go.RowKit
set_option linter.unusedVariables false
open _root_.Go.Proofs.Tryz
set_option maxRecDepth 100000
set_option maxHeartbeats 4000000
def zBw (fu : Nat) (x28 : List (List UInt8)) : Nat -> Int -> zA8 -> Option zA8
 | 0,_,_=>none
 | k+1,y34,y35=>
 bd ((decide (y34<(x28.length:Int)))&&(decide (y34<=3))) fun x36=>
 bif x36 then (
 ck (inR y34 x28.length) <|
 cl true (zEH fu (gtD x28 y34)) fun x42=>
 ck (zBu (y35.length+([x42]:List zAA).length)) <|
 ck (i64B (y34+1)) <|
 zBw fu x28 k (y34+1) (y35++([x42]:List zAA))
 ) else (
 some y35
 )
def zB9 (fu : Nat) (x12 : List (List UInt8)) : Nat -> Int -> zAD -> zA8 -> Option zAD
 | 0,_,_,_=>none
 | k+1,y18,y19,y20=>
 bd ((decide (y18<(x12.length:Int)))&&(decide (y18<=6))) fun x21=>
 bif x21 then (
 ck ((2:Int) != 0) <|
 bif ((y18.tmod 2)==1) then (
 ck (i64B (y18+1)) <|
 zB9 fu x12 k (y18+1) y19 y20
 ) else (
 ck (inR y18 x12.length) <|
 cl true (zDY fu (gtD x12 y18) 44) fun x28=>
 cl true (zBw fu x28 fu 0 y20) fun s33=>
 ck (zBu (y19.length+1)) <|
 ck (i64B (y18+1)) <|
 zB9 fu x12 k (y18+1) (y19 ++ [s33]) ([]:List zAA)
 )
 ) else (
 some y19
 )
def zDc (fu:Nat) (p0:List UInt8):Option (zAD × Bool):=
 cl true (zDY fu p0 32) fun x12=>
 cl true (zB9 fu x12 fu 0 ([]:List zA8) ([]:List zAA)) fun s17=>
 cl (true&&((p0==([]:List UInt8))==false)) (zD2 fu s17) fun x69=>
 bd ((p0==([]:List UInt8)) || (!(x69==p0))) fun x71=>
 bif x71 then (
 some (([]:List zA8),false)
 ) else (
 some (s17,true)
 )
set_option linter.unusedSimpArgs false in
theorem zGd {fu : Nat} {A0 : Av} {p0 : List UInt8} {r : zAD × Bool} (c : zDc fu p0 = some r) {w : World} {v0 : Value} (d : AvOK A0 w) (h0 : Rep eStr A0 w v0 p0) :
 Calls prog 95 #[v0] w fun e w'=>∃ v,e=.returned v/\(∃ (u0:Value) (S0:Nat->Prop) (A1:Av),GPost A0 (fun _=>False) w [⟨u0,S0,trR (geB w.heap.size) (oBx (oSl 63 (oBx (oSl 69 (oRd zA0))))) r.1 []⟩] A1 w'/\(Fact.tup2 (.raw u0) (.raw (.bool r.2))).ok v w'):=by
 unfold zDc at c
 obtain ⟨w0,hw0,j,C⟩:=pw d
 have hA00:AvOK A0 w0:=C
 rw [show GPost A0 (fun _=>False) w=GPost A0 (fun _=>False) w0 from by rw [hw0]]
 rw [show w.heap.size=w0.heap.size from by rw [hw0]]
 obtain ⟨A,hAe,B,d,q⟩:=pa d
 refine zAE [.cell 2 26,.tmp 3] func95 ntmps95 (by decide) Z Z (nb Z) ?_
 intro R hR
 have f_v0:Rep eStr A w v0 p0:=hAe ▸ h0
 replace h0:R 0=v0:=hR 0 _ Z
 refine zQ2 [] (⟨_,true,[],some (trR (geB w0.heap.size) (oPt 26 (oBx (oSl 63 (oBx (oSl 69 (oRd zA0)))))) ([]:List zA8) []),true,fun A=>.any⟩::rB false::[]) (ua (ur (UAll.nil))) q d ?_ ?_
 exact rc (zQ6 _ Z Z Z Z fun V Q U O D=>by exact zCp zeroValue26 (fun A w=>zDF) (fun k hk=>Nat.le_trans (Nat.le_trans j.size O.ch.size) hk))<|rp (fun V Q U O D=>zA9 Z)<|rz
 intro done ρ σ A R w y s
 replace h0:=k1 s.rg h0
 obtain ⟨u1,e_u1⟩:∃ u,ρ 0=u:=⟨_,Z⟩
 have h2:=s.ov y 0 0 e_u1
 obtain ⟨S2,eS_u1⟩:∃ S,σ 0=S:=⟨_,Z⟩
 replace f_v0:=f_v0.stp s.stp
 obtain ⟨B,j,d⟩:=s.s B C j q N
 replace q:=s.left y [(0,⟨u1,S2,trR (geB w0.heap.size) (oPt 26 (oBx (oSl 63 (oBx (oSl 69 (oRd zA0)))))) ([]:List zA8) []⟩)] ⟨Z,Z,e_u1,eS_u1,Z,N⟩
 refine zQ2 [⟨u1,S2,trR (geB w0.heap.size) (oPt 26 (oBx (oSl 63 (oBx (oSl 69 (oRd zA0)))))) ([]:List zA8) []⟩] (⟨_,true,[],some (trR (geB w0.heap.size) (oBx (oSl 63 (oBx (oSl 69 (oRd zA0))))) ([]:List zA8) []),true,fun A=>.any⟩::⟨_,true,[],some (trR (geB w0.heap.size) (oPt 26 (oBx (oSl 63 (oBx (oSl 69 (oRd zA0)))))) ([]:List zA8) []),true,fun A=>.any⟩::⟨_,true,[2,1],some (trR (geB w0.heap.size) (oPt 26 (oBx (oSl 63 (oBx (oSl 69 (oRd zA0)))))) ([]:List zA8) []),false,fun A=>.any⟩::[]) (ua (ua (ua (UAll.nil)))) q d ?_ ?_
 exact rc (zQ6 _ Z Z Z Z fun V Q U O D=>by exact zEL (v:=.agg #[.slice none 0 0]) (by simp [execOp,Instr.build,zAM,underlying,underlying26,zeroValue26,sizeOf24,go_sem,Instr.fill]) ⟨⟨_,Z,zDF⟩,fun q hq=>by cases hq⟩ (fun k hk=>Nat.le_trans (Nat.le_trans j.size O.ch.size) hk))<|rc (zQ6 _ Z Z Z Z fun V Q U O D=>by exact zCp zeroValue26 (fun A w=>zDF) (fun k hk=>Nat.le_trans (Nat.le_trans j.size O.ch.size) hk))<|rc (zQ7 2 [1] _ Z Z Z Z fun V Q U O D ρ σ X Y J L M hdd=>by have k1:=X 2 (.head _) _ Z;exact zCz Z (zAJ k1.2.2).ptr (X 1 (.tail _ (.head _)) _ Z).2.2.1 (L 1 (.tail _ (.head _)) _ _ Z Z Z Z).symm (L 2 (.head _) _ _ Z Z Z Z).symm Y hdd k1.2.1 (X 1 (.tail _ (.head _)) _ Z).2.1 sizeOf26 (fun _ _ _ h=>h))<|rz
 intro done ρ σ A R w y s
 obtain ⟨h0,h2⟩:=k2 s.rg h0 h2
 have z3:=s.inivR 0 Z
 obtain ⟨u4,e_u4⟩:∃ u,ρ 3=u:=⟨_,Z⟩
 have z5:=(s.opnR y 3 2 Z Z Z Z Z).symm.trans e_u4
 have h4:=s.ov y 2 1 z5
 have eS_u1:=s.inisR 0 Z
 obtain ⟨S6,eS_u4⟩:∃ S,σ 3=S:=⟨_,Z⟩
 replace f_v0:=f_v0.stp s.stp
 obtain ⟨B,j,d⟩:=s.s B C j q ⟨fun _ h=>h,N⟩
 replace q:=s.left y [(0,⟨u1,S2,trR (geB w0.heap.size) (oPt 26 (oBx (oSl 63 (oBx (oSl 69 (oRd zA0)))))) ([]:List zA8) []⟩),(3,⟨u4,S6,trR (geB w0.heap.size) (oPt 26 (oBx (oSl 63 (oBx (oSl 69 (oRd zA0)))))) ([]:List zA8) []⟩)] ⟨Z,Z,z3,eS_u1,Z,⟨Z,Z,e_u4,eS_u4,Z,N⟩⟩
 refine zQ2 [⟨u1,S2,trR (geB w0.heap.size) (oPt 26 (oBx (oSl 63 (oBx (oSl 69 (oRd zA0)))))) ([]:List zA8) []⟩,⟨u4,S6,trR (geB w0.heap.size) (oPt 26 (oBx (oSl 63 (oBx (oSl 69 (oRd zA0)))))) ([]:List zA8) []⟩] (⟨_,true,[],some (trR (geB w0.heap.size) (oBx (oSl 69 (oRd zA0))) ([]:List zAA) []),true,fun A=>.any⟩::⟨_,true,[],some (trR (geB w0.heap.size) (oPt 63 (oBx (oSl 69 (oRd zA0)))) ([]:List zAA) []),true,fun A=>.any⟩::⟨_,true,[3,2],some (trR (geB w0.heap.size) (oPt 63 (oBx (oSl 69 (oRd zA0)))) ([]:List zAA) []),false,fun A=>.any⟩::[]) (ua (ua (ua (UAll.nil)))) q d ?_ ?_
 exact rc (zQ6 _ Z Z Z Z fun V Q U O D=>by exact zEL (v:=.agg #[.slice none 0 0]) (by simp [execOp,Instr.build,zAM,underlying,underlying63,zeroValue63,sizeOf44,go_sem,Instr.fill]) ⟨⟨_,Z,zDF⟩,fun q hq=>by cases hq⟩ (fun k hk=>Nat.le_trans (Nat.le_trans j.size O.ch.size) hk))<|rc (zQ6 _ Z Z Z Z fun V Q U O D=>by exact zCp zeroValue63 (fun A w=>zDF) (fun k hk=>Nat.le_trans (Nat.le_trans j.size O.ch.size) hk))<|rc (zQ7 3 [2] _ Z Z Z Z fun V Q U O D ρ σ X Y J L M hdd=>by have k1:=X 3 (.head _) _ Z;exact zCz Z (zAJ k1.2.2).ptr (X 2 (.tail _ (.head _)) _ Z).2.2.1 (L 2 (.tail _ (.head _)) _ _ Z Z Z Z).symm (L 3 (.head _) _ _ Z Z Z Z).symm Y hdd k1.2.1 (X 2 (.tail _ (.head _)) _ Z).2.1 sizeOf63 (fun _ _ _ h=>h))<|rz
 intro done ρ σ A R w y s
 obtain ⟨h0,h2,h4⟩:=k3 s.rg h0 h2 h4
 have z7:=s.inivR 0 Z
 have z8:=s.inivR 1 Z
 obtain ⟨u9,e_u9⟩:∃ u,ρ 4=u:=⟨_,Z⟩
 have z10:=(s.opnR y 4 2 Z Z Z Z Z).symm.trans e_u9
 have h5:=s.ov y 3 1 z10
 have eS_u1:=s.inisR 0 Z
 have eS_u4:=s.inisR 1 Z
 obtain ⟨S11,eS_u9⟩:∃ S,σ 4=S:=⟨_,Z⟩
 replace f_v0:=f_v0.stp s.stp
 obtain ⟨B,j,d⟩:=s.s B C j q ⟨fun _ h=>h,⟨fun _ h=>h,N⟩⟩
 replace q:=s.left y [(0,⟨u1,S2,trR (geB w0.heap.size) (oPt 26 (oBx (oSl 63 (oBx (oSl 69 (oRd zA0)))))) ([]:List zA8) []⟩),(1,⟨u4,S6,trR (geB w0.heap.size) (oPt 26 (oBx (oSl 63 (oBx (oSl 69 (oRd zA0)))))) ([]:List zA8) []⟩),(4,⟨u9,S11,trR (geB w0.heap.size) (oPt 63 (oBx (oSl 69 (oRd zA0)))) ([]:List zAA) []⟩)] ⟨Z,Z,z7,eS_u1,Z,⟨Z,Z,z8,eS_u4,Z,⟨Z,Z,e_u9,eS_u9,Z,N⟩⟩⟩
 obtain ⟨x12,q13,c⟩:=zAB c
 refine zQ1 d j (eR v0::eF (.rep (eSl eStr) A x12)::eF (.rep (eSl eStr) A x12)::[]) ?_ ?_
 exact om h0<|op (fun Q U W H D=>zAN call103 (zG8 (q13 Z) (d.fr W.size) ((f_v0.fr W).eq (D.g 0 Z)) Z))<|op (fun Q U W H D=>zA9 (D.g 0 Z))<|oz
 intro R w m n p d j
 obtain ⟨h0,h2,h4,h5⟩:=k4 n h0 h2 h4 h5
 obtain ⟨u14,h6,f_u14⟩:∃ u,R 6=u/\Rep (eSl eStr) A w u x12:=⟨_,Z,p 2 _ _ Z Z Z⟩
 replace f_v0:=f_v0.fr m
 replace q:=q.fr m
 refine zQ0 ?_
 refine zQ1 d j (eI 0::[]) ?_ ?_
 exact op (fun Q U W H D=>zA9 Z)<|oz
 intro R w m n p d j
 obtain ⟨h0,h2,h4,h5,h6⟩:=k5 n h0 h2 h4 h5 h6
 have h7:=p.r 0 Z
 replace f_u14:=f_u14.fr m
 replace f_v0:=f_v0.fr m
 replace q:=q.fr m
 obtain ⟨rl15,q16,c⟩:=zAB c
 replace q16:=q16 Z
 refine zPv (fun R w=>∃ A:Av,∃ (s17:zAD) (So_u4:Nat->Prop),rl15=s17/\AvOK A w/\Fr w0 w/\(∀ b o,A0 b o->A b o)/\IniOK [⟨u1,S2,trR (geB w0.heap.size) (oPt 26 (oBx (oSl 63 (oBx (oSl 69 (oRd zA0)))))) ([]:List zA8) []⟩,⟨u4,So_u4,trR (geB w0.heap.size) (oPt 26 (oBx (oSl 63 (oBx (oSl 69 (oRd zA0)))))) s17 []⟩] A w/\R 0=v0/\R 2=u1/\R 4=u4/\Rep eStr A w v0 p0) ?_ ?_
 refine HT.block<|zPz (fun k R w=>∃ A:Av,∃ (y18:Int) (y19:zAD) (y20:zA8) (Sl_u4:Nat->Prop) (Sl_u9:Nat->Prop),zB9 fu x12 k y18 y19 y20=some rl15/\AvOK A w/\Fr w0 w/\(∀ b o,A0 b o->A b o)/\IniOK [⟨u1,S2,trR (geB w0.heap.size) (oPt 26 (oBx (oSl 63 (oBx (oSl 69 (oRd zA0)))))) ([]:List zA8) []⟩,⟨u4,Sl_u4,trR (geB w0.heap.size) (oPt 26 (oBx (oSl 63 (oBx (oSl 69 (oRd zA0)))))) y19 []⟩,⟨u9,Sl_u9,trR (geB w0.heap.size) (oPt 63 (oBx (oSl 69 (oRd zA0)))) y20 []⟩] A w/\R 0=v0/\R 2=u1/\R 4=u4/\R 5=u9/\R 6=u14/\R 7=.int .i64 y18/\Rep (eSl eStr) A w u14 x12/\Rep eStr A w v0 p0) fu ⟨_,_,_,_,S6,S11,q16,d,j,B,q,h0,h2,h4,h5,h6,h7,f_u14,f_v0⟩ ?_
 have hr0:=c;clear c q16
 rintro k R w ⟨A,y18,y19,y20,Sl_u4,Sl_u9,c,d,j,B,q,h0,h2,h4,h5,h6,h7,f_u14,f_v0⟩
 rcases k with _ | k
 cases (show none=some _ from c)
 rw [zB9] at c
 refine zQ0 ?_
 refine zQ0 ?_
 obtain ⟨x21,q22,c⟩:=zAf c
 refine HT.u d j (eI y18::eR u14::eI (x12.length:Int)::eB (decide (y18<(x12.length:Int)))::eB (decide (y18<(x12.length:Int)))::gI (true&&((decide (y18<(x12.length:Int)))==true)) y18::gB (true&&((decide (y18<(x12.length:Int)))==true)) (decide (y18<=6))::eB x21::[]) ?_ ?_
 exact om h7<|om h6<|op (fun Q U W H D=>zAY (aT:=#[]) ((f_u14.fr W).eq (D.g 0 Z)) underlying97)<|op (fun Q U W H D=>zBS (D.g 0 Z) (D.g 1 Z))<|ov<|gm 4 true h7<|og 4 true (fun G Q U W H D=>zHB (D.h 0 G Z) Z)<|op (fun Q U W H D=>zAl (decide (y18<(x12.length:Int))) (D.g 0 Z) (fun hc=>by have a1:Q 20=.bool (decide (y18<=6)):=D 1 _ _ _ Z Z Z Z (zCH Z (zBA hc));show _=Value.bool x21;rw [q22,hc];exact a1) (fun hc=>by show _=Value.bool x21;rw [q22,hc];exact Z))<|oz
 intro R w m n p d j
 obtain ⟨h0,h2,h4,h5,h6,h7⟩:=k6 n h0 h2 h4 h5 h6 h7
 have h21:=p.r 7 Z
 replace f_u14:=f_u14.fr m
 replace f_v0:=f_v0.fr m
 replace q:=q.fr m
 refine zPt x21 h21 (fun c23=>?_) (fun c23=>?_)
 have c:=zAh c23 c
 refine HT.skip<|zQ0 ?_
 refine HT.block<|zQ0 ?_
 obtain ⟨e24,c⟩:=zAC c
 refine zQ1 d j (eI y18::eI (y18.tmod 2)::eB ((y18.tmod 2)==1)::[]) ?_ ?_
 exact om h7<|op (fun Q U W H D=>zKo (D.g 0 Z) Z e24)<|op (fun Q U W H D=>zDA (D.g 0 Z) Z)<|oz
 intro R w m n p d j
 obtain ⟨h0,h2,h4,h5,h6,h7⟩:=k6 n h0 h2 h4 h5 h6 h7
 have h26:=p.r 2 Z
 replace f_u14:=f_u14.fr m
 replace f_v0:=f_v0.fr m
 replace q:=q.fr m
 refine zPt ((y18.tmod 2)==1) h26 (fun c25=>?_) (fun c25=>?_)
 have c:=zAh c25 c
 refine zPy ?_
 obtain ⟨e26,c⟩:=zAC c
 refine HT.u d j (eI y18::eI (y18+1)::eI (y18+1)::[]) ?_ ?_
 exact om h7<|op (fun Q U W H D=>zAi (D.g 0 Z) Z e26)<|oa<|oz
 intro R w m n p d j
 obtain ⟨h0,h2,h4,h5,h6⟩:=k5 n h0 h2 h4 h5 h6
 have h7:=p.r 2 Z
 replace f_u14:=f_u14.fr m
 replace f_v0:=f_v0.fr m
 replace q:=q.fr m
 exact ei k (And.intro (Nat.lt_succ_self k) ⟨_,_,_,_,Sl_u4,Sl_u9,c,d,j,B,q,h0,h2,h4,h5,h6,h7,f_u14,f_v0⟩)
 have c:=zAg c25 c
 refine HT.skip ?_
 obtain ⟨e27,c⟩:=zAC c
 obtain ⟨x28,q29,c⟩:=zAB c
 refine zQ1 d j (eR u14::eI y18::eF (.qtr eStr A (gtD x12 y18))::eF (.rep eStr A (gtD x12 y18))::eF (.rep (eSl eStr) A x28)::eF (.rep (eSl eStr) A x28)::[]) ?_ ?_
 exact om h6<|om h7<|op (fun Q U W H D=>zAL ((f_u14.fr W).eq (D.g 0 Z)) (D.g 1 Z) underlying97 sizeOf9 e27)<|op (fun Q U W H D=>(zAb (QRep.ptr (D.g 0 Z)) isAgg9 sizeOf9))<|op (fun Q U W H D=>zAN call103 (zG8 (q29 Z) (d.fr W.size) (D.g 0 Z) Z))<|op (fun Q U W H D=>zA9 (D.g 0 Z))<|oz
 intro R w m n p d j
 obtain ⟨h0,h2,h4,h5,h6,h7⟩:=k6 n h0 h2 h4 h5 h6 h7
 obtain ⟨u30,h8,f_u30⟩:∃ u,R 8=u/\Rep (eSl eStr) A w u x28:=⟨_,Z,p 5 _ _ Z Z Z⟩
 replace f_u14:=f_u14.fr m
 replace f_v0:=f_v0.fr m
 replace q:=q.fr m
 refine zQ0 ?_
 refine zQ1 d j (eI 0::[]) ?_ ?_
 exact op (fun Q U W H D=>zA9 Z)<|oz
 intro R w m n p d j
 obtain ⟨h0,h2,h4,h5,h6,h7⟩:=k6 n h0 h2 h4 h5 h6 h7
 replace h8:=k1 n h8
 have h9:=p.r 0 Z
 replace f_u14:=f_u14.fr m
 replace f_u30:=f_u30.fr m
 replace f_v0:=f_v0.fr m
 replace q:=q.fr m
 obtain ⟨rl31,q32,c⟩:=zAB c
 replace q32:=q32 Z
 refine zPv (fun R w=>∃ A:Av,∃ (s33:zA8) (So_u9:Nat->Prop),rl31=s33/\AvOK A w/\Fr w0 w/\(∀ b o,A0 b o->A b o)/\IniOK [⟨u1,S2,trR (geB w0.heap.size) (oPt 26 (oBx (oSl 63 (oBx (oSl 69 (oRd zA0)))))) ([]:List zA8) []⟩,⟨u4,Sl_u4,trR (geB w0.heap.size) (oPt 26 (oBx (oSl 63 (oBx (oSl 69 (oRd zA0)))))) y19 []⟩,⟨u9,So_u9,trR (geB w0.heap.size) (oPt 63 (oBx (oSl 69 (oRd zA0)))) s33 []⟩] A w/\R 0=v0/\R 2=u1/\R 4=u4/\R 5=u9/\R 6=u14/\R 7=.int .i64 y18/\Rep (eSl eStr) A w u14 x12/\Rep eStr A w v0 p0) ?_ ?_
 refine HT.block<|zPz (fun k R w=>∃ A:Av,∃ (y34:Int) (y35:zA8) (Sl_u9:Nat->Prop),zBw fu x28 k y34 y35=some rl31/\AvOK A w/\Fr w0 w/\(∀ b o,A0 b o->A b o)/\IniOK [⟨u1,S2,trR (geB w0.heap.size) (oPt 26 (oBx (oSl 63 (oBx (oSl 69 (oRd zA0)))))) ([]:List zA8) []⟩,⟨u4,Sl_u4,trR (geB w0.heap.size) (oPt 26 (oBx (oSl 63 (oBx (oSl 69 (oRd zA0)))))) y19 []⟩,⟨u9,Sl_u9,trR (geB w0.heap.size) (oPt 63 (oBx (oSl 69 (oRd zA0)))) y35 []⟩] A w/\R 0=v0/\R 2=u1/\R 4=u4/\R 5=u9/\R 6=u14/\R 7=.int .i64 y18/\R 8=u30/\R 9=.int .i64 y34/\Rep (eSl eStr) A w u14 x12/\Rep (eSl eStr) A w u30 x28/\Rep eStr A w v0 p0) fu ⟨_,_,_,Sl_u9,q32,d,j,B,q,h0,h2,h4,h5,h6,h7,h8,h9,f_u14,f_u30,f_v0⟩ ?_
 have hr0:=c;clear c q32
 rintro k R w ⟨A,y34,y35,Sl_u9,c,d,j,B,q,h0,h2,h4,h5,h6,h7,h8,h9,f_u14,f_u30,f_v0⟩
 rcases k with _ | k
 cases (show none=some _ from c)
 rw [zBw] at c
 refine zQ0 ?_
 refine zQ0 ?_
 obtain ⟨x36,q37,c⟩:=zAf c
 refine HT.u d j (eI y34::eR u30::eI (x28.length:Int)::eB (decide (y34<(x28.length:Int)))::eB (decide (y34<(x28.length:Int)))::gI (true&&((decide (y34<(x28.length:Int)))==true)) y34::gB (true&&((decide (y34<(x28.length:Int)))==true)) (decide (y34<=3))::eB x36::[]) ?_ ?_
 exact om h9<|om h8<|op (fun Q U W H D=>zAY (aT:=#[]) ((f_u30.fr W).eq (D.g 0 Z)) underlying97)<|op (fun Q U W H D=>zBS (D.g 0 Z) (D.g 1 Z))<|ov<|gm 4 true h9<|og 4 true (fun G Q U W H D=>zHB (D.h 0 G Z) Z)<|op (fun Q U W H D=>zAl (decide (y34<(x28.length:Int))) (D.g 0 Z) (fun hc=>by have a1:Q 38=.bool (decide (y34<=3)):=D 1 _ _ _ Z Z Z Z (zCH Z (zBA hc));show _=Value.bool x36;rw [q37,hc];exact a1) (fun hc=>by show _=Value.bool x36;rw [q37,hc];exact Z))<|oz
 intro R w m n p d j
 obtain ⟨h0,h2,h4,h5,h6,h7⟩:=k6 n h0 h2 h4 h5 h6 h7
 obtain ⟨h8,h9⟩:=k2 n h8 h9
 have h39:=p.r 7 Z
 replace f_u14:=f_u14.fr m
 replace f_u30:=f_u30.fr m
 replace f_v0:=f_v0.fr m
 replace q:=q.fr m
 refine zPt x36 h39 (fun c38=>?_) (fun c38=>?_)
 have c:=zAh c38 c
 refine HT.skip<|zQ0 ?_
 refine HT.block ?_
 obtain ⟨h39,p_h39⟩:=(((zAJ (q.own 2 _ Z).2).ptr).bx).open1 Z
 replace q:IniOK [⟨u1,S2,trR (geB w0.heap.size) (oPt 26 (oBx (oSl 63 (oBx (oSl 69 (oRd zA0)))))) ([]:List zA8) []⟩,⟨u4,Sl_u4,trR (geB w0.heap.size) (oPt 26 (oBx (oSl 63 (oBx (oSl 69 (oRd zA0)))))) y19 []⟩,⟨u9,Sl_u9,trR (geB w0.heap.size) (oPt 63 (oBx (oSl 69 (oRd zA0)))) y35 [(u9,[h39])]⟩] A w:=q.repin 2 Z (trP.pin p_h39)
 obtain ⟨e41,c⟩:=zAC c
 obtain ⟨x42,q43,c⟩:=zAB c
 obtain ⟨e44,c⟩:=zAC c
 refine zPx [⟨u1,S2,trR (geB w0.heap.size) (oPt 26 (oBx (oSl 63 (oBx (oSl 69 (oRd zA0)))))) ([]:List zA8) []⟩,⟨u4,Sl_u4,trR (geB w0.heap.size) (oPt 26 (oBx (oSl 63 (oBx (oSl 69 (oRd zA0)))))) y19 []⟩,⟨u9,Sl_u9,trR (geB w0.heap.size) (oPt 63 (oBx (oSl 69 (oRd zA0)))) y35 [(u9,[h39])]⟩] (rR u9::rR h39::rR u30::rI y34::(rF fun A=>.qtr eStr A (gtD x28 y34))::(rF fun A=>.rep eStr A (gtD x28 y34))::(rF fun A=>.rep zA0 A x42)::(rF fun A=>.rep (eSl zA0) A ([x42]:List zAA))::⟨_,true,[2],some (.gen (geB w0.heap.size) (pdP (oSl 69 (oRd zA0)) u9 (fun z A w S=>(trP (oPt 63 (oBx (oSl 69 (oRd zA0)))) z []).P A w S u9) (y35++([x42]:List zAA)))),true,fun A=>.any⟩::rR u9::⟨_,true,[11],some (.gen (geB w0.heap.size) (fixP u9 (trP (oPt 63 (oBx (oSl 69 (oRd zA0)))) (y35++([x42]:List zAA)) []))),false,fun A=>.any⟩::[]) (by kernel_rfl) (by kernel_rfl) (by kernel_rfl) (Wf.mk' (by kernel_rfl) (ur (ur (ur (ur (UAll.cons zCA (up (up (up (ua (ur (ua (UAll.nil)))))))))))) (by kernel_rfl) (by kernel_rfl)) q d ?_ ?_
 exact rp (fun V Q U O D=>zAQ ((zAJ (q.own 2 _ Z).2).ptr).ad ((O.old 5 Z).trans h5) zDI sizeOf44 (by decide) (zCc ((zAJ (q.own 2 _ Z).2).ptr).ad))<|rp (fun V Q U O D=>zBX ((O.rdo 2 _ Z Z).2.2 _ (.head _)) (D.g 0 Z) isAgg44 sizeOf44)<|rm h8<|rm h9<|rp (fun V Q U O D=>zAL ((f_u30.stp O.stp).eq (D.g 0 Z)) (D.g 1 Z) underlying97 sizeOf9 e41)<|rp (fun V Q U O D=>(zAb (QRep.ptr (D.g 0 Z)) isAgg9 sizeOf9))<|rp (fun V Q U O D=>zAN call104 (zHW (q43 Z) O.av (D.g 0 Z)))<|rp (fun V Q U O D=>zCj [_] (E:=zA0) ⟨(D.g 0 Z),N⟩ underlying44 sizeOf69 zeroValue69 Z Z Z O.av)<|rc (zQ9 2 _ _ Z Z Z Z Z fun V Q U O D u S X I Y J L M=>by have a0:Q 43=h39:=D.g 0 Z;have a1:Rep (eSl zA0) V U (Q 49) ([x42]:List zAA):=D.g 1 Z;have e0:=(J _ Z).1;rw [e0] at I ⊢;exact zF0 ((zAJ I.2).ptr).bx (I.2.2 _ (.head _)) a0 Y I.1 (fun k hk=>Nat.le_trans (Nat.le_trans j.size O.ch.size) hk) (fun k hk=>SP.lt _ I.2 hk) a1 underlying44 zMz e44)<|rp (fun V Q U O D=>zAQ ((zAJ (q.own 2 _ Z).2).ptr).ad ((O.old 5 Z).trans h5) zDI sizeOf44 (by decide) (zCc ((zAJ (q.own 2 _ Z).2).ptr).ad))<|rc (zQ9 11 _ _ Z Z Z Z Z fun V Q U O D u S X I Y J L M=>by have a0:Q 51=u9:=D.g 0 Z;exact zEy I.2 (L _ _ Z Z Z Z).symm a0 Y I.1 sizeOf44 (fun _ _ _ h=>h))<|rz
 intro done ρ σ A R w y s
 obtain ⟨h0,h2,h4,h5,h6,h7⟩:=k6 s.rg h0 h2 h4 h5 h6 h7
 obtain ⟨h8,h9⟩:=k2 s.rg h8 h9
 have z45:=s.inivR 0 Z
 have z46:=s.inivR 1 Z
 obtain ⟨u47,e_u47⟩:∃ u,ρ 13=u:=⟨_,Z⟩
 have eS_u1:=s.inisR 0 Z
 have eS_u4:=s.inisR 1 Z
 obtain ⟨S48,eS_u9⟩:∃ S,σ 13=S:=⟨_,Z⟩
 replace f_u14:=f_u14.stp s.stp
 replace f_u30:=f_u30.stp s.stp
 replace f_v0:=f_v0.stp s.stp
 obtain ⟨B,j,d⟩:=s.s B C j q ⟨fun _ h=>h,⟨fun _ h=>h,⟨fun _ h=>h,N⟩⟩⟩
 replace q:=s.left y [(0,⟨u1,S2,trR (geB w0.heap.size) (oPt 26 (oBx (oSl 63 (oBx (oSl 69 (oRd zA0)))))) ([]:List zA8) []⟩),(1,⟨u4,Sl_u4,trR (geB w0.heap.size) (oPt 26 (oBx (oSl 63 (oBx (oSl 69 (oRd zA0)))))) y19 []⟩),(13,⟨u47,S48,.gen (geB w0.heap.size) (fixP u9 (trP (oPt 63 (oBx (oSl 69 (oRd zA0)))) (y35++([x42]:List zAA)) []))⟩)] ⟨Z,Z,z45,eS_u1,Z,⟨Z,Z,z46,eS_u4,Z,⟨Z,Z,e_u47,eS_u9,Z,N⟩⟩⟩
 replace q:IniOK [⟨u1,S2,trR (geB w0.heap.size) (oPt 26 (oBx (oSl 63 (oBx (oSl 69 (oRd zA0)))))) ([]:List zA8) []⟩,⟨u4,Sl_u4,trR (geB w0.heap.size) (oPt 26 (oBx (oSl 63 (oBx (oSl 69 (oRd zA0)))))) y19 []⟩,⟨u9,S48,trR (geB w0.heap.size) (oPt 63 (oBx (oSl 69 (oRd zA0)))) (y35++([x42]:List zAA)) []⟩] A w:=q.refix 2 Z
 obtain ⟨e49,c⟩:=zAC c
 refine HT.u d j (eI y34::eI (y34+1)::eI (y34+1)::[]) ?_ ?_
 exact om h9<|op (fun Q U W H D=>zAi (D.g 0 Z) Z e49)<|oa<|oz
 intro R w m n p d j
 obtain ⟨h0,h2,h4,h5,h6,h7⟩:=k6 n h0 h2 h4 h5 h6 h7
 replace h8:=k1 n h8
 have h9:=p.r 2 Z
 replace f_u14:=f_u14.fr m
 replace f_u30:=f_u30.fr m
 replace f_v0:=f_v0.fr m
 replace q:=q.fr m
 exact ei k (And.intro (Nat.lt_succ_self k) ⟨_,_,_,S48,c,d,j,B,q,h0,h2,h4,h5,h6,h7,h8,h9,f_u14,f_u30,f_v0⟩)
 have c:=zAg c38 c
 refine zPy ?_
 obtain rfl:=si c
 exact ei _ ⟨_,Sl_u9,Z,d,j,B,q,h0,h2,h4,h5,h6,h7,f_u14,f_v0⟩
 rintro R w ⟨A,s33,So_u9,es,d,j,B,q,h0,h2,h4,h5,h6,h7,f_u14,f_v0⟩
 obtain rfl:=es.symm
 refine zQ0 ?_
 replace q:IniOK [⟨u9,So_u9,trR (geB w0.heap.size) (oPt 63 (oBx (oSl 69 (oRd zA0)))) s33 []⟩,⟨u1,S2,trR (geB w0.heap.size) (oPt 26 (oBx (oSl 63 (oBx (oSl 69 (oRd zA0)))))) ([]:List zA8) []⟩,⟨u4,Sl_u4,trR (geB w0.heap.size) (oPt 26 (oBx (oSl 63 (oBx (oSl 69 (oRd zA0)))))) y19 []⟩] A w:=q.sub [(2,⟨u9,So_u9,trR (geB w0.heap.size) (oPt 63 (oBx (oSl 69 (oRd zA0)))) s33 []⟩),(0,⟨u1,S2,trR (geB w0.heap.size) (oPt 26 (oBx (oSl 63 (oBx (oSl 69 (oRd zA0)))))) ([]:List zA8) []⟩),(1,⟨u4,Sl_u4,trR (geB w0.heap.size) (oPt 26 (oBx (oSl 63 (oBx (oSl 69 (oRd zA0)))))) y19 []⟩)] ⟨Z,Z,⟨Z,Z,⟨Z,Z,N⟩⟩⟩
 obtain ⟨cs50,u51,S52,S53,e_u51,q⟩:=q.splitR
 replace q:IniOK [⟨u9,S52,trR (geB w0.heap.size) (oPt 63 (oRd (zK5 (oBx (oSl 69 (oRd zA0)))))) cs50 []⟩,⟨u51,S53,trR (geB w0.heap.size) (oBx (oSl 69 (oRd zA0))) s33 []⟩,⟨u1,S2,trR (geB w0.heap.size) (oPt 26 (oBx (oSl 63 (oBx (oSl 69 (oRd zA0)))))) ([]:List zA8) []⟩,⟨u4,Sl_u4,trR (geB w0.heap.size) (oPt 26 (oBx (oSl 63 (oBx (oSl 69 (oRd zA0)))))) y19 []⟩] A w:=q
 obtain ⟨h54,p_h54⟩:=(((zAJ (q.own 3 _ Z).2).ptr).bx).open1 Z
 replace q:IniOK [⟨u9,S52,trR (geB w0.heap.size) (oPt 63 (oRd (zK5 (oBx (oSl 69 (oRd zA0)))))) cs50 []⟩,⟨u51,S53,trR (geB w0.heap.size) (oBx (oSl 69 (oRd zA0))) s33 []⟩,⟨u1,S2,trR (geB w0.heap.size) (oPt 26 (oBx (oSl 63 (oBx (oSl 69 (oRd zA0)))))) ([]:List zA8) []⟩,⟨u4,Sl_u4,trR (geB w0.heap.size) (oPt 26 (oBx (oSl 63 (oBx (oSl 69 (oRd zA0)))))) y19 [(u4,[h54])]⟩] A w:=q.repin 3 Z (trP.pin p_h54)
 obtain ⟨e56,c⟩:=zAC c
 refine zQ5 [⟨u9,S52,trR (geB w0.heap.size) (oPt 63 (oRd (zK5 (oBx (oSl 69 (oRd zA0)))))) cs50 []⟩,⟨u51,S53,trR (geB w0.heap.size) (oBx (oSl 69 (oRd zA0))) s33 []⟩,⟨u1,S2,trR (geB w0.heap.size) (oPt 26 (oBx (oSl 63 (oBx (oSl 69 (oRd zA0)))))) ([]:List zA8) []⟩,⟨u4,Sl_u4,trR (geB w0.heap.size) (oPt 26 (oBx (oSl 63 (oBx (oSl 69 (oRd zA0)))))) y19 [(u4,[h54])]⟩] (rR u4::rR h54::rR u51::⟨_,true,[1],some (trR (geB w0.heap.size) (oSl 63 (oBx (oSl 69 (oRd zA0)))) ([s33]:List zA8) []),true,fun A=>.any⟩::⟨_,true,[3,7],some (.gen (geB w0.heap.size) (pdP (oSl 63 (oBx (oSl 69 (oRd zA0)))) u4 (fun z A w S=>(trP (oPt 26 (oBx (oSl 63 (oBx (oSl 69 (oRd zA0)))))) z []).P A w S u4) (y19 ++ [s33]))),true,fun A=>.any⟩::rR u4::⟨_,true,[8],some (.gen (geB w0.heap.size) (fixP u4 (trP (oPt 26 (oBx (oSl 63 (oBx (oSl 69 (oRd zA0)))))) (y19 ++ [s33]) []))),false,fun A=>.any⟩::[]) (ur (ur (ur (ua (ua (ur (ua (UAll.nil)))))))) q d ?_ ?_
 exact rp (fun V Q U O D=>zAQ ((zAJ (q.own 3 _ Z).2).ptr).ad ((O.old 4 Z).trans h4) zCh sizeOf24 (by decide) (zCc ((zAJ (q.own 3 _ Z).2).ptr).ad))<|rp (fun V Q U O D=>zBX ((O.rdo 3 _ Z Z).2.2 _ (.head _)) (D.g 0 Z) isAgg24 sizeOf24)<|rp (fun V Q U O D=>zKN (O.rdo 0 _ Z Z).2 ((O.old 5 Z).trans h5) e_u51 isAgg63 sizeOf63)<|rc (zQ9 1 _ _ Z Z Z Z Z fun V Q U O D u S X I Y J L M=>by have a0:Q 54=u51:=D.g 0 Z;exact zGx I.2 (a0.trans (J _ Z).1.symm) Y I.1 (fun k hk=>Nat.le_trans (Nat.le_trans j.size O.ch.size) hk) underlying24 sizeOf63 zeroValue63 (by decide))<|rc (zQ7 3 [7] _ Z Z Z Z fun V Q U O D ρ σ X Y J L M hdd=>by have a0:Q 53=h54:=D.g 0 Z;have k1:=X 3 (.head _) _ Z;have e0:=(J 3 (.head _) _ Z).1;rw [e0] at k1 ⊢;exact zFr Z ((zAJ k1.2.2).ptr).bx (k1.2.2.2 _ (.head _)) a0 (trP.nopin (X 7 (.tail _ (.head _)) _ Z).2.2) (L 7 (.tail _ (.head _)) _ _ Z Z Z Z).symm Y hdd k1.2.1 (X 7 (.tail _ (.head _)) _ Z).2.1 (fun k hk=>Nat.le_trans (Nat.le_trans j.size O.ch.size) hk) (fun k hk=>SP.lt _ k1.2.2 hk) underlying24 zOO e56)<|rp (fun V Q U O D=>zAQ ((zAJ (q.own 3 _ Z).2).ptr).ad ((O.old 4 Z).trans h4) zCh sizeOf24 (by decide) (zCc ((zAJ (q.own 3 _ Z).2).ptr).ad))<|rc (zQ9 8 _ _ Z Z Z Z Z fun V Q U O D u S X I Y J L M=>by have a0:Q 57=u4:=D.g 0 Z;exact zEy I.2 (L _ _ Z Z Z Z).symm a0 Y I.1 sizeOf24 (fun _ _ _ h=>h))<|rz
 intro done ρ σ A R w y s
 obtain ⟨h0,h2,h4,h5,h6,h7⟩:=k6 s.rg h0 h2 h4 h5 h6 h7
 have z57:=s.inivR 0 Z
 have z58:=s.inivR 2 Z
 obtain ⟨u59,e_u59⟩:∃ u,ρ 10=u:=⟨_,Z⟩
 have eS_u9:=s.inisR 0 Z
 have eS_u1:=s.inisR 2 Z
 obtain ⟨S60,eS_u4⟩:∃ S,σ 10=S:=⟨_,Z⟩
 replace f_u14:=f_u14.stp s.stp
 replace f_v0:=f_v0.stp s.stp
 obtain ⟨B,j,d⟩:=s.s B C j q ⟨fun _ h=>h,⟨fun _ h=>h,⟨fun _ h=>h,⟨fun _ h=>h,N⟩⟩⟩⟩
 replace q:=s.left y [(0,⟨u9,S52,trR (geB w0.heap.size) (oPt 63 (oRd (zK5 (oBx (oSl 69 (oRd zA0)))))) cs50 []⟩),(2,⟨u1,S2,trR (geB w0.heap.size) (oPt 26 (oBx (oSl 63 (oBx (oSl 69 (oRd zA0)))))) ([]:List zA8) []⟩),(10,⟨u59,S60,.gen (geB w0.heap.size) (fixP u4 (trP (oPt 26 (oBx (oSl 63 (oBx (oSl 69 (oRd zA0)))))) (y19 ++ [s33]) []))⟩)] ⟨Z,Z,z57,eS_u9,Z,⟨Z,Z,z58,eS_u1,Z,⟨Z,Z,e_u59,eS_u4,Z,N⟩⟩⟩
 replace q:IniOK [⟨u9,S52,trR (geB w0.heap.size) (oPt 63 (oRd (zK5 (oBx (oSl 69 (oRd zA0)))))) cs50 []⟩,⟨u1,S2,trR (geB w0.heap.size) (oPt 26 (oBx (oSl 63 (oBx (oSl 69 (oRd zA0)))))) ([]:List zA8) []⟩,⟨u4,S60,trR (geB w0.heap.size) (oPt 26 (oBx (oSl 63 (oBx (oSl 69 (oRd zA0)))))) (y19 ++ [s33]) []⟩] A w:=q.refix 2 Z
 refine zQ5 [⟨u9,S52,trR (geB w0.heap.size) (oPt 63 (oRd (zK5 (oBx (oSl 69 (oRd zA0)))))) cs50 []⟩,⟨u1,S2,trR (geB w0.heap.size) (oPt 26 (oBx (oSl 63 (oBx (oSl 69 (oRd zA0)))))) ([]:List zA8) []⟩,⟨u4,S60,trR (geB w0.heap.size) (oPt 26 (oBx (oSl 63 (oBx (oSl 69 (oRd zA0)))))) (y19 ++ [s33]) []⟩] (⟨_,true,[],some (trR (geB w0.heap.size) (oBx (oSl 69 (oRd zA0))) ([]:List zAA) []),true,fun A=>.any⟩::⟨_,true,[0,3],some (trR (geB w0.heap.size) (oPt 63 (oBx (oSl 69 (oRd zA0)))) ([]:List zAA) []),false,fun A=>.any⟩::[]) (ua (ua (UAll.nil))) q d ?_ ?_
 exact rc (zQ6 _ Z Z Z Z fun V Q U O D=>by exact zEL (v:=.agg #[.slice none 0 0]) (by simp [execOp,Instr.build,zAM,underlying,underlying63,zeroValue63,sizeOf44,go_sem,Instr.fill]) ⟨⟨_,Z,zDF⟩,fun q hq=>by cases hq⟩ (fun k hk=>Nat.le_trans (Nat.le_trans j.size O.ch.size) hk))<|rc (zQ7 0 [3] _ Z Z Z Z fun V Q U O D ρ σ X Y J L M hdd=>by have a0:Q 5=u9:=(O.old 5 Z).trans h5;have k1:=X 0 (.head _) _ Z;have e0:=(J 0 (.head _) _ Z).1;rw [e0] at k1 ⊢;exact zJh Z k1.2.2 (X 3 (.tail _ (.head _)) _ Z).2.2.1 (L 3 (.tail _ (.head _)) _ _ Z Z Z Z).symm a0 Y hdd k1.2.1 (X 3 (.tail _ (.head _)) _ Z).2.1 sizeOf63)<|rz
 intro done ρ σ A R w y s
 obtain ⟨h0,h2,h4,h5,h6,h7⟩:=k6 s.rg h0 h2 h4 h5 h6 h7
 have z61:=s.inivR 0 Z
 have z62:=s.on y 4 1 Z Z Z Z Z z61
 have z63:=s.inivR 1 Z
 have z64:=s.inivR 2 Z
 obtain ⟨S65,eS_u9⟩:∃ S,σ 4=S:=⟨_,Z⟩
 have eS_u1:=s.inisR 1 Z
 have eS_u4:=s.inisR 2 Z
 replace f_u14:=f_u14.stp s.stp
 replace f_v0:=f_v0.stp s.stp
 obtain ⟨B,j,d⟩:=s.s B C j q ⟨fun _ h=>h,⟨fun _ h=>h,⟨fun _ h=>h,N⟩⟩⟩
 replace q:=s.left y [(4,⟨u9,S65,trR (geB w0.heap.size) (oPt 63 (oBx (oSl 69 (oRd zA0)))) ([]:List zAA) []⟩),(1,⟨u1,S2,trR (geB w0.heap.size) (oPt 26 (oBx (oSl 63 (oBx (oSl 69 (oRd zA0)))))) ([]:List zA8) []⟩),(2,⟨u4,S60,trR (geB w0.heap.size) (oPt 26 (oBx (oSl 63 (oBx (oSl 69 (oRd zA0)))))) (y19 ++ [s33]) []⟩)] ⟨Z,Z,z62,eS_u9,Z,⟨Z,Z,z63,eS_u1,Z,⟨Z,Z,z64,eS_u4,Z,N⟩⟩⟩
 obtain ⟨e66,c⟩:=zAC c
 refine HT.u d j (eI y18::eI (y18+1)::eI (y18+1)::[]) ?_ ?_
 exact om h7<|op (fun Q U W H D=>zAi (D.g 0 Z) Z e66)<|oa<|oz
 intro R w m n p d j
 obtain ⟨h0,h2,h4,h5,h6⟩:=k5 n h0 h2 h4 h5 h6
 have h7:=p.r 2 Z
 replace f_u14:=f_u14.fr m
 replace f_v0:=f_v0.fr m
 replace q:=q.fr m
 replace q:IniOK [⟨u1,S2,trR (geB w0.heap.size) (oPt 26 (oBx (oSl 63 (oBx (oSl 69 (oRd zA0)))))) ([]:List zA8) []⟩,⟨u4,S60,trR (geB w0.heap.size) (oPt 26 (oBx (oSl 63 (oBx (oSl 69 (oRd zA0)))))) (y19 ++ [s33]) []⟩,⟨u9,S65,trR (geB w0.heap.size) (oPt 63 (oBx (oSl 69 (oRd zA0)))) ([]:List zAA) []⟩] A w:=q.sub [(1,⟨u1,S2,trR (geB w0.heap.size) (oPt 26 (oBx (oSl 63 (oBx (oSl 69 (oRd zA0)))))) ([]:List zA8) []⟩),(2,⟨u4,S60,trR (geB w0.heap.size) (oPt 26 (oBx (oSl 63 (oBx (oSl 69 (oRd zA0)))))) (y19 ++ [s33]) []⟩),(0,⟨u9,S65,trR (geB w0.heap.size) (oPt 63 (oBx (oSl 69 (oRd zA0)))) ([]:List zAA) []⟩)] ⟨Z,Z,⟨Z,Z,⟨Z,Z,N⟩⟩⟩
 exact ei k (And.intro (Nat.lt_succ_self k) ⟨_,_,_,_,S60,S65,c,d,j,B,q,h0,h2,h4,h5,h6,h7,f_u14,f_v0⟩)
 have c:=zAg c23 c
 refine zPy ?_
 obtain rfl:=si c
 replace q:IniOK [⟨u1,S2,trR (geB w0.heap.size) (oPt 26 (oBx (oSl 63 (oBx (oSl 69 (oRd zA0)))))) ([]:List zA8) []⟩,⟨u4,Sl_u4,trR (geB w0.heap.size) (oPt 26 (oBx (oSl 63 (oBx (oSl 69 (oRd zA0)))))) y19 []⟩] A w:=q.sub [(0,⟨u1,S2,trR (geB w0.heap.size) (oPt 26 (oBx (oSl 63 (oBx (oSl 69 (oRd zA0)))))) ([]:List zA8) []⟩),(1,⟨u4,Sl_u4,trR (geB w0.heap.size) (oPt 26 (oBx (oSl 63 (oBx (oSl 69 (oRd zA0)))))) y19 []⟩)] ⟨Z,Z,⟨Z,Z,N⟩⟩
 exact ei _ ⟨_,Sl_u4,Z,d,j,B,q,h0,h2,h4,f_v0⟩
 rintro R w ⟨A,s17,So_u4,es,d,j,B,q,h0,h2,h4,f_v0⟩
 obtain rfl:=es.symm
 refine zQ0 ?_
 refine zQ0 ?_
 obtain ⟨h67,l_h67,p_h67⟩:=((zAJ (q.own 1 _ Z).2).ptr).open
 replace q:IniOK [⟨u1,S2,trR (geB w0.heap.size) (oPt 26 (oBx (oSl 63 (oBx (oSl 69 (oRd zA0)))))) ([]:List zA8) []⟩,⟨u4,So_u4,trR (geB w0.heap.size) (oPt 26 (oBx (oSl 63 (oBx (oSl 69 (oRd zA0)))))) s17 [(u4,h67)]⟩] A w:=q.repin 1 Z (trP.pin p_h67)
 obtain ⟨x69,q70,c⟩:=zAB c
 obtain ⟨x71,q72,c⟩:=zAf c
 refine HT.u d j (eR v0::eB (p0==([]:List UInt8))::eB (p0==([]:List UInt8))::gR (true&&((p0==([]:List UInt8))==false)) (Enc.val zA2 h67)::gF (true&&((p0==([]:List UInt8))==false)) (.rep eStr A x69)::gR (true&&((p0==([]:List UInt8))==false)) v0::gB (true&&((p0==([]:List UInt8))==false)) (!(x69==p0))::eB x71::[]) ?_ ?_
 exact om h0<|op (fun Q U W H D=>zKK ((f_v0.fr W).eq (D.g 0 Z)) ⟨_,Z,⟨_,Z,Z,by decide⟩⟩)<|ov<|og 2 false (fun G Q U W H D=>zK7 (F:=oBx (oSl 63 (oBx (oSl 69 (oRd zA0))))) (((q.fr W).own 1 _ Z).2.2 _ (.head _)) l_h67 ((H 4 Z).trans h4) isAgg26 sizeOf26)<|og 2 false (fun G Q U W H D=>by have ra0:Rep zA2 A0 U (Q 62) _:=(zNu (((zAJ ((q.fr W).own 1 _ Z).2).ptr).pinS (((q.fr W).own 1 _ Z).2.2 _ (.head _)) l_h67) B (fun k o hk ha=>Nat.not_lt.2 (((q.fr W).own 1 _ Z).1 k hk) (C k o ha))).eq (D.h 0 G Z);exact zAN call105 (zLJ (fun _ _ _ _ _ h=>h) (zGS (q70 G) (hA00.fr ((Nat.le_trans j.size W.size))) ra0)))<|gm 2 false h0<|og 2 false (fun G Q U W H D=>zJC (D.h 0 G Z) ((f_v0.fr W).eq (D.h 1 G Z)))<|op (fun Q U W H D=>zAl (p0==([]:List UInt8)) (D.g 0 Z) (fun hc=>by show _=Value.bool x71;rw [q72,hc];exact Z) (fun hc=>by have a2:Q 65=.bool (!(x69==p0)):=D 1 _ _ _ Z Z Z Z (zCH Z (zBA hc));show _=Value.bool x71;rw [q72,hc];exact a2))<|oz
 intro R w m n p d j
 obtain ⟨h2,h4⟩:=k2 n h2 h4
 have h66:=p.r 7 Z
 replace q:=q.fr m
 replace q:IniOK [⟨u1,S2,trR (geB w0.heap.size) (oPt 26 (oBx (oSl 63 (oBx (oSl 69 (oRd zA0)))))) ([]:List zA8) []⟩,⟨u4,So_u4,trR (geB w0.heap.size) (oPt 26 (oBx (oSl 63 (oBx (oSl 69 (oRd zA0)))))) s17 []⟩] A w:=q.repin 1 Z trP.nopin
 refine zPt x71 h66 (fun c73=>?_) (fun c73=>?_)
 have c:=zAh c73 c
 refine zQ2 [⟨u1,S2,trR (geB w0.heap.size) (oPt 26 (oBx (oSl 63 (oBx (oSl 69 (oRd zA0)))))) ([]:List zA8) []⟩,⟨u4,So_u4,trR (geB w0.heap.size) (oPt 26 (oBx (oSl 63 (oBx (oSl 69 (oRd zA0)))))) s17 []⟩] (⟨_,true,[],some (trR (geB w0.heap.size) (oBx (oSl 63 (oBx (oSl 69 (oRd zA0))))) ([]:List zA8) []),true,fun A=>.any⟩::⟨_,true,[0,2],some (trR (geB w0.heap.size) (oPt 26 (oBx (oSl 63 (oBx (oSl 69 (oRd zA0)))))) ([]:List zA8) []),false,fun A=>.any⟩::rB false::[]) (ua (ua (ur (UAll.nil)))) q d ?_ ?_
 exact rc (zQ6 _ Z Z Z Z fun V Q U O D=>by exact zEL (v:=.agg #[.slice none 0 0]) (by simp [execOp,Instr.build,zAM,underlying,underlying26,zeroValue26,sizeOf24,go_sem,Instr.fill]) ⟨⟨_,Z,zDF⟩,fun q hq=>by cases hq⟩ (fun k hk=>Nat.le_trans (Nat.le_trans j.size O.ch.size) hk))<|rc (zQ7 0 [2] _ Z Z Z Z fun V Q U O D ρ σ X Y J L M hdd=>by have a0:Q 2=u1:=(O.old 2 Z).trans h2;have k1:=X 0 (.head _) _ Z;have e0:=(J 0 (.head _) _ Z).1;rw [e0] at k1 ⊢;exact zCz Z (zAJ k1.2.2).ptr (X 2 (.tail _ (.head _)) _ Z).2.2.1 (L 2 (.tail _ (.head _)) _ _ Z Z Z Z).symm a0 Y hdd k1.2.1 (X 2 (.tail _ (.head _)) _ Z).2.1 sizeOf26 (fun _ _ _ h=>h))<|rp (fun V Q U O D=>zA9 Z)<|rz
 intro done ρ σ A R w y s
 replace h2:=k1 s.rg h2
 have z74:=s.inivR 0 Z
 have z75:=s.on y 3 1 Z Z Z Z Z z74
 have z76:=s.inivR 1 Z
 obtain ⟨S77,eS_u1⟩:∃ S,σ 3=S:=⟨_,Z⟩
 have eS_u4:=s.inisR 1 Z
 have h3:=s.r y 2 Z
 obtain ⟨B,j,d⟩:=s.s B C j q ⟨fun _ h=>h,⟨fun _ h=>h,N⟩⟩
 replace q:=s.left y [(3,⟨u1,S77,trR (geB w0.heap.size) (oPt 26 (oBx (oSl 63 (oBx (oSl 69 (oRd zA0)))))) ([]:List zA8) []⟩)] ⟨Z,Z,z75,eS_u1,Z,N⟩
 refine HT.ret ?_
 obtain rfl:=si c
 obtain ⟨v_2,S_2,e_2,q⟩:=q.unbox 0 Z h2 isAgg26 sizeOf26
 obtain ⟨A1,hA1,hG1⟩:=GPost.of q d B (fun k hk=>.inl (q.ge (⟨fun _ h=>h,N⟩) k hk)) (j.ch (fun _=>False))
 exact ⟨.inr Z,[v_2,R 3],⟨e_2,⟨Z,N⟩⟩,v_2,S_2,A1,hG1,⟨_,_,Z,Z,h3⟩⟩
 have c:=zAg c73 c
 refine HT.skip<|zQ2 [⟨u1,S2,trR (geB w0.heap.size) (oPt 26 (oBx (oSl 63 (oBx (oSl 69 (oRd zA0)))))) ([]:List zA8) []⟩,⟨u4,So_u4,trR (geB w0.heap.size) (oPt 26 (oBx (oSl 63 (oBx (oSl 69 (oRd zA0)))))) s17 []⟩] (⟨_,true,[1],some (trR (geB w0.heap.size) (oBx (oSl 63 (oBx (oSl 69 (oRd zA0))))) s17 []),true,fun A=>.any⟩::⟨_,true,[0,2],some (trR (geB w0.heap.size) (oPt 26 (oBx (oSl 63 (oBx (oSl 69 (oRd zA0)))))) s17 []),false,fun A=>.any⟩::rB true::[]) (ua (ua (ur (UAll.nil)))) q d ?_ ?_
 exact rc (zQ9 1 _ _ Z Z Z Z Z fun V Q U O D u S X I Y J L M=>by have a0:Q 4=u4:=(O.old 4 Z).trans h4;exact zFj I.2 (a0.trans (J _ Z).1.symm) Y I.1 isAgg26 sizeOf26)<|rc (zQ7 0 [2] _ Z Z Z Z fun V Q U O D ρ σ X Y J L M hdd=>by have a0:Q 2=u1:=(O.old 2 Z).trans h2;have k1:=X 0 (.head _) _ Z;have e0:=(J 0 (.head _) _ Z).1;rw [e0] at k1 ⊢;exact zCz Z (zAJ k1.2.2).ptr (X 2 (.tail _ (.head _)) _ Z).2.2.1 (L 2 (.tail _ (.head _)) _ _ Z Z Z Z).symm a0 Y hdd k1.2.1 (X 2 (.tail _ (.head _)) _ Z).2.1 sizeOf26 (fun _ _ _ h=>h))<|rp (fun V Q U O D=>zA9 Z)<|rz
 intro done ρ σ A R w y s
 replace h2:=k1 s.rg h2
 have z78:=s.inivR 0 Z
 have z79:=s.on y 3 1 Z Z Z Z Z z78
 obtain ⟨S80,eS_u1⟩:∃ S,σ 3=S:=⟨_,Z⟩
 have h3:=s.r y 2 Z
 obtain ⟨B,j,d⟩:=s.s B C j q ⟨fun _ h=>h,⟨fun _ h=>h,N⟩⟩
 replace q:=s.left y [(3,⟨u1,S80,trR (geB w0.heap.size) (oPt 26 (oBx (oSl 63 (oBx (oSl 69 (oRd zA0)))))) s17 []⟩)] ⟨Z,Z,z79,eS_u1,Z,N⟩
 refine HT.ret ?_
 obtain rfl:=si c
 obtain ⟨v_2,S_2,e_2,q⟩:=q.unbox 0 Z h2 isAgg26 sizeOf26
 obtain ⟨A1,hA1,hG1⟩:=GPost.of q d B (fun k hk=>.inl (q.ge (⟨fun _ h=>h,N⟩) k hk)) (j.ch (fun _=>False))
 exact ⟨.inr Z,[v_2,R 3],⟨e_2,⟨Z,N⟩⟩,v_2,S_2,A1,hG1,⟨_,_,Z,Z,h3⟩⟩
def zE5 (fu:Nat) (p0:zAK):Option (zAD × zAK):=
 cl true (zEj fu p0 ([([110,97,109,101,62,61,56,48,48,44,112,104,111,110,101,62,61,56,48,48]:List UInt8),([110,97,109,101,62,61,57,48,48,32,111,114,32,116,111,107,101,110,115,62,61,53,48,48,44,112,104,111,110,101,62,61,52,48,48]:List UInt8),([115,111,117,110,100,62,61,53,48,48,44,121,101,97,114,62,61,55,48,48,32,111,114,32,112,104,111,110,101,62,61,49,48,48,48]:List UInt8),([110,97,109,101,62,61,55,48,48,44,121,101,97,114,60,53,48,48]:List UInt8),([116,111,107,101,110,115,62,61,49,48,48,48,32,111,114,32,110,97,109,101,62,61,56,48,48,44,99,105,116,121,62,61,53,48,48,44,121,101,97,114,62,61,56,48,48,32,111,114,32,112,104,111,110,101,62,61,49,48,48,48]:List UInt8),([112,104,111,110,101,60,53,48,48,32,111,114,32,112,104,111,110,101,62,61,53,48,48]:List UInt8),([110,97,109,101,62,61,54,48,48]:List UInt8)]:List (List UInt8))) fun x7=>
 cl true (zDc fu x7.1) fun x10=>
 some (x10.1,x7.2)
theorem zHP {fu : Nat} {Aq : Av} {p0 : zAK} {r : zAD × zAK} (c : zE5 fu p0 = some r) {w : World} {v0 : Value} {b0 B0 : Nat} (d : AvOK Aq w) (h0 : v0=.pointer (some ⟨b0, 0, none⟩)) (hO0 : IniOK [ob (.pointer (some ⟨b0, 0, none⟩)) (.box B0 86 zA3 p0)] Aq w) :
 Calls prog 76 #[v0] w fun e w'=>∃ v,e=.returned v/\(∃ (u0:Value) (S0:Nat->Prop) (A1:Av),GPost (subS Aq (zAH (.pointer (some ⟨b0,0,none⟩)))) (zAH (.pointer (some ⟨b0,0,none⟩))) w [ob (.pointer (some ⟨b0,0,none⟩)) (.box B0 86 zA3 r.2),⟨u0,S0,trR (geB w.heap.size) (oBx (oSl 63 (oBx (oSl 69 (oRd zA0))))) r.1 []⟩] A1 w'/\(Fact.raw u0).ok v w'):=by
 unfold zE5 at c
 obtain ⟨w0,hw0⟩:∃ w0,w0=w:=⟨_,Z⟩
 have j:Ch (zAH (.pointer (some ⟨b0,0,none⟩))) w0 w:=hw0 ▸ Ch.refl _ _
 obtain ⟨A0,hA0e⟩:∃ A0,A0=subS Aq (zAH (.pointer (some ⟨b0,0,none⟩))):=⟨_,Z⟩
 have C:∀ b o,A0 b o->b<w0.heap.size:=fun b o h=>hw0 ▸ d b o (hA0e ▸ h:subS Aq _ b o).1
 have K:∀ b o,A0 b o->¬ (zAH (.pointer (some ⟨b0,0,none⟩))) b:=fun b o h=>(hA0e ▸ h:subS Aq _ b o).2
 have hA00:AvOK A0 w0:=C
 rw [show GPost (subS Aq (zAH (.pointer (some ⟨b0,0,none⟩)))) (zAH (.pointer (some ⟨b0,0,none⟩))) w=GPost A0 (zAH (.pointer (some ⟨b0,0,none⟩))) w0 from by rw [hA0e,hw0]]
 rw [show w.heap.size=w0.heap.size from by rw [hw0]]
 obtain ⟨A,hAe⟩:∃ A,A=Aq:=⟨_,Z⟩
 have B:∀ b o,A0 b o->A b o:=fun b o h=>hAe ▸ (hA0e ▸ h:subS Aq _ b o).1
 replace d:AvOK A w:=hAe ▸ d
 have q:IniOK [ob (.pointer (some ⟨b0,0,none⟩)) (.box B0 86 zA3 p0)] A w:=hAe ▸ hO0
 clear hA0e hO0
 refine zAE [.cell 2 26] func76 ntmps76 (by decide) Z Z (nb Z) ?_
 intro R hR
 replace h0:R 0=.pointer (some ⟨b0,0,none⟩):=(hR 0 _ Z).trans h0
 refine zQ2 [ob (.pointer (some ⟨b0,0,none⟩)) (.box B0 86 zA3 p0)] (⟨_,true,[],some (trR (geB w0.heap.size) (oPt 26 (oBx (oSl 63 (oBx (oSl 69 (oRd zA0)))))) ([]:List zA8) []),true,fun A=>.any⟩::[]) (ua (UAll.nil)) q d ?_ ?_
 exact rc (zQ6 _ Z Z Z Z fun V Q U O D=>by exact zCp zeroValue26 (fun A w=>zDF) (fun k hk=>Nat.le_trans (Nat.le_trans j.size O.ch.size) hk))<|rz
 intro done ρ σ A R w y s
 replace h0:=k1 s.rg h0
 have z1:=s.inivR 0 Z
 obtain ⟨u2,e_u2⟩:∃ u,ρ 1=u:=⟨_,Z⟩
 have h2:=s.ov y 1 0 e_u2
 obtain ⟨S3,eS_u2⟩:∃ S,σ 1=S:=⟨_,Z⟩
 replace B:=s.lowK B C K (q.geK (⟨.inr (fun k h=>.inr h),N⟩))
 replace j:Ch (zAH (.pointer (some ⟨b0,0,none⟩))) w0 w:=j.tr s.ch (q.geK (⟨.inr (fun k h=>.inr h),N⟩))
 replace q:=s.left y [(0,ob (.pointer (some ⟨b0,0,none⟩)) (.box B0 86 zA3 p0)),(1,⟨u2,S3,trR (geB w0.heap.size) (oPt 26 (oBx (oSl 63 (oBx (oSl 69 (oRd zA0)))))) ([]:List zA8) []⟩)] ⟨Z,Z,z1,Z,Z,⟨Z,Z,e_u2,eS_u2,Z,N⟩⟩
 replace d:=s.avok
 refine zQ0 ?_
 refine SG.of<|SG.textR [ob (.pointer (some ⟨b0,0,none⟩)) (.box B0 86 zA3 p0),⟨u2,S3,trR (geB w0.heap.size) (oPt 26 (oBx (oSl 63 (oBx (oSl 69 (oRd zA0)))))) ([]:List zA8) []⟩] (rR (.pointer (some ⟨b0,0,none⟩))::(rF fun A=>.rep (eSl eStr) A ([([110,97,109,101,62,61,56,48,48,44,112,104,111,110,101,62,61,56,48,48]:List UInt8),([110,97,109,101,62,61,57,48,48,32,111,114,32,116,111,107,101,110,115,62,61,53,48,48,44,112,104,111,110,101,62,61,52,48,48]:List UInt8),([115,111,117,110,100,62,61,53,48,48,44,121,101,97,114,62,61,55,48,48,32,111,114,32,112,104,111,110,101,62,61,49,48,48,48]:List UInt8),([110,97,109,101,62,61,55,48,48,44,121,101,97,114,60,53,48,48]:List UInt8),([116,111,107,101,110,115,62,61,49,48,48,48,32,111,114,32,110,97,109,101,62,61,56,48,48,44,99,105,116,121,62,61,53,48,48,44,121,101,97,114,62,61,56,48,48,32,111,114,32,112,104,111,110,101,62,61,49,48,48,48]:List UInt8),([112,104,111,110,101,60,53,48,48,32,111,114,32,112,104,111,110,101,62,61,53,48,48]:List UInt8),([110,97,109,101,62,61,54,48,48]:List UInt8)]:List (List UInt8)))::[]) 2 Z Z Z (by kernel_rfl) (by kernel_rfl) (Wf.mk' (by kernel_rfl) (ur (up (UAll.nil))) (by kernel_rfl) (by kernel_rfl)) q d (N) ?_ ?_
 exact rm h0<|rp (fun V Q U O D=>zCj [_,_,_,_,_,_,_] (E:=eStr) ⟨⟨_,Z,⟨_,Z,Z,by decide⟩⟩,⟨⟨_,Z,⟨_,Z,Z,by decide⟩⟩,⟨⟨_,Z,⟨_,Z,Z,by decide⟩⟩,⟨⟨_,Z,⟨_,Z,Z,by decide⟩⟩,⟨⟨_,Z,⟨_,Z,Z,by decide⟩⟩,⟨⟨_,Z,⟨_,Z,Z,by decide⟩⟩,⟨⟨_,Z,⟨_,Z,Z,by decide⟩⟩,N⟩⟩⟩⟩⟩⟩⟩ underlying97 sizeOf9 zeroValue9 Z Z Z O.av)<|rz
 intro done ρ σ A R w y s
 replace h2:=k1 s.rg h2
 have z4:=s.inivR 0 Z
 have z5:=s.inivR 1 Z
 have eS_u2:=s.inisR 1 Z
 have h6:=s.r y 0 Z
 obtain ⟨u6,h7,f_u6⟩:∃ u,R 7=u/\Rep (eSl eStr) A w u ([([110,97,109,101,62,61,56,48,48,44,112,104,111,110,101,62,61,56,48,48]:List UInt8),([110,97,109,101,62,61,57,48,48,32,111,114,32,116,111,107,101,110,115,62,61,53,48,48,44,112,104,111,110,101,62,61,52,48,48]:List UInt8),([115,111,117,110,100,62,61,53,48,48,44,121,101,97,114,62,61,55,48,48,32,111,114,32,112,104,111,110,101,62,61,49,48,48,48]:List UInt8),([110,97,109,101,62,61,55,48,48,44,121,101,97,114,60,53,48,48]:List UInt8),([116,111,107,101,110,115,62,61,49,48,48,48,32,111,114,32,110,97,109,101,62,61,56,48,48,44,99,105,116,121,62,61,53,48,48,44,121,101,97,114,62,61,56,48,48,32,111,114,32,112,104,111,110,101,62,61,49,48,48,48]:List UInt8),([112,104,111,110,101,60,53,48,48,32,111,114,32,112,104,111,110,101,62,61,53,48,48]:List UInt8),([110,97,109,101,62,61,54,48,48]:List UInt8)]:List (List UInt8)):=⟨_,Z,s.fact y (i:=1) Z Z Z⟩
 replace B:=s.lowK B C K (q.geK (⟨.inr (fun k h=>.inr h),⟨fun _ h=>.inl h,N⟩⟩))
 replace j:Ch (zAH (.pointer (some ⟨b0,0,none⟩))) w0 w:=j.tr s.ch (q.geK (⟨.inr (fun k h=>.inr h),⟨fun _ h=>.inl h,N⟩⟩))
 replace q:=s.left y [(0,ob (.pointer (some ⟨b0,0,none⟩)) (.box B0 86 zA3 p0)),(1,⟨u2,S3,trR (geB w0.heap.size) (oPt 26 (oBx (oSl 63 (oBx (oSl 69 (oRd zA0)))))) ([]:List zA8) []⟩)] ⟨Z,Z,z4,Z,Z,⟨Z,Z,z5,eS_u2,Z,N⟩⟩
 replace d:=s.avok
 obtain ⟨x7,q8,c⟩:=zAB c
 have hFz:w0.heap.size<=w.heap.size:=j.size
 refine zQB 8 Z Z Z Z (zBg call96 (zHi (q8 Z) d h6 (q.sub [(0,ob (.pointer (some ⟨b0,0,none⟩)) (.box B0 86 zA3 p0))] ⟨Z,Z,N⟩) (f_u6.eq h7))) ?_
 rintro v_ w ⟨A,hG1,hv⟩ R n hd
 have hst:=zC1 d hG1 (q.ok 0 _ Z).2
 replace B:∀ b o,A0 b o->A b o:=zCE B C K (q.geK (⟨.inr (fun k h=>.inr h),⟨fun _ h=>.inl h,N⟩⟩)) 0 Z hG1
 replace j:Ch (zAH (.pointer (some ⟨b0,0,none⟩))) w0 w:=j.tr hG1.ch (fun k hk=>(q.geK (⟨.inr (fun k h=>.inr h),⟨fun _ h=>.inl h,N⟩⟩)) k ⟨0,_,Z,hk⟩)
 replace q:=zPs q d 0 Z hG1
 replace d:=hG1.avok
 replace q:IniOK [ob (.pointer (some ⟨b0,0,none⟩)) (.box B0 86 zA3 x7.2),⟨u2,S3,trR (geB w0.heap.size) (oPt 26 (oBx (oSl 63 (oBx (oSl 69 (oRd zA0)))))) ([]:List zA8) []⟩] A w:=q
 replace h2:=(n 2 Z).trans h2
 replace h6:=(n 6 Z).trans h6
 replace h7:=(n 7 Z).trans h7
 replace f_u6:=f_u6.stp hst
 obtain ⟨u9,h8,f_u9⟩:∃ u,R 8=u/\Rep eStr A w u x7.1:=⟨_,Z,hd ▸ hv⟩
 clear hFz hG1 hv n hd
 obtain ⟨x10,q11,c⟩:=zAB c
 have hFz:w0.heap.size<=w.heap.size:=j.size
 refine zQB 9 Z Z Z Z (zBg call95 (zGd (q11 Z) d (f_u9.eq h8))) ?_
 rintro v_ w ⟨u12,S13,A,hG1,hv⟩ R n hd
 obtain ⟨hO2,hst⟩:=GPost.next0 q d hG1
 replace q:=hO2
 replace d:=hG1.avok
 replace B:∀ b o,A0 b o->A b o:=fun b o h=>hG1.low b o (B b o h)
 replace j:Ch (zAH (.pointer (some ⟨b0,0,none⟩))) w0 w:=j.tr hG1.ch fun _ h=>False.elim h
 replace q:=q.reK (K':=geB w0.heap.size) 0 Z (fun k hk=>Nat.le_trans hFz hk)
 replace q:IniOK [⟨u12,S13,trR (geB w0.heap.size) (oBx (oSl 63 (oBx (oSl 69 (oRd zA0))))) x10.1 []⟩,ob (.pointer (some ⟨b0,0,none⟩)) (.box B0 86 zA3 x7.2),⟨u2,S3,trR (geB w0.heap.size) (oPt 26 (oBx (oSl 63 (oBx (oSl 69 (oRd zA0)))))) ([]:List zA8) []⟩] A w:=q
 replace h2:=(n 2 Z).trans h2
 replace h8:=(n 8 Z).trans h8
 replace f_u9:=f_u9.stp hst
 have h9:Fact.ok (.tup2 (.raw u12) (.raw (.bool x10.2))) (R 9) w:=hd ▸ hv
 clear hFz hG1 hv n hd
 refine SG.textR [⟨u12,S13,trR (geB w0.heap.size) (oBx (oSl 63 (oBx (oSl 69 (oRd zA0))))) x10.1 []⟩,ob (.pointer (some ⟨b0,0,none⟩)) (.box B0 86 zA3 x7.2),⟨u2,S3,trR (geB w0.heap.size) (oPt 26 (oBx (oSl 63 (oBx (oSl 69 (oRd zA0)))))) ([]:List zA8) []⟩] (rA::rA::rR u9::(rF fun A=>.tup2 (.raw u12) (.raw (.bool x10.2)))::(rF fun A=>.tup2 (.raw u12) (.raw (.bool x10.2)))::rR u12::rB x10.2::⟨_,true,[],some (trR (geB w0.heap.size) (oPt 26 (oBx (oSl 63 (oBx (oSl 69 (oRd zA0)))))) ([]:List zA8) []),true,fun A=>.any⟩::⟨_,true,[10,0],some (trR (geB w0.heap.size) (oPt 26 (oBx (oSl 63 (oBx (oSl 69 (oRd zA0)))))) x10.1 []),false,fun A=>.any⟩::rB x10.2::[]) 10 Z Z Z (by kernel_rfl) (by kernel_rfl) (Wf.mk' (by kernel_rfl) (ua (ua (ur (UAll.cons (zEN zEt zEt) (UAll.cons (zEN zEt zEt) (ur (ur (ua (ua (ur (UAll.nil))))))))))) (by kernel_rfl) (by kernel_rfl)) q d (⟨⟨Z,Z,Z,N⟩,⟨⟨Z,Z,Z,N⟩,⟨⟨Z,Z,Z,h8⟩,⟨⟨Z,Z,Z,h9⟩,N⟩⟩⟩⟩) ?_ ?_
 exact rp (fun V Q U O D=>zBd (D.g 0 Z))<|rp (fun V Q U O D=>zCL (D.g 0 Z))<|rp (fun V Q U O D=>zCK (D.g 0 Z))<|rc (zQ6 _ Z Z Z Z fun V Q U O D=>by exact zCp zeroValue26 (fun A w=>zDF) (fun k hk=>Nat.le_trans (Nat.le_trans j.size O.ch.size) hk))<|rc (zQ7 10 [0] _ Z Z Z Z fun V Q U O D ρ σ X Y J L M hdd=>by have a1:Q 10=u12:=D.g 1 Z;have k1:=X 10 (.head _) _ Z;exact zCz Z (zAJ k1.2.2).ptr (X 0 (.tail _ (.head _)) _ Z).2.2.1 (a1.trans (J 0 (.tail _ (.head _)) _ Z).1.symm) (L 10 (.head _) _ _ Z Z Z Z).symm Y hdd k1.2.1 (X 0 (.tail _ (.head _)) _ Z).2.1 sizeOf26 (fun _ _ _ h=>h))<|ra<|rz
 intro done ρ σ A R w y s
 replace h2:=k1 s.rg h2
 have z14:=s.inivR 1 Z
 have z15:=s.inivR 2 Z
 obtain ⟨u16,e_u16⟩:∃ u,ρ 11=u:=⟨_,Z⟩
 have z17:=(s.opnR y 11 8 Z Z Z Z Z).symm.trans e_u16
 have h3:=s.ov y 10 7 z17
 have eS_u2:=s.inisR 2 Z
 obtain ⟨S18,eS_u16⟩:∃ S,σ 11=S:=⟨_,Z⟩
 replace B:=s.lowK B C K (q.geK (⟨fun _ h=>.inl h,⟨.inr (fun k h=>.inr h),⟨fun _ h=>.inl h,N⟩⟩⟩))
 replace j:Ch (zAH (.pointer (some ⟨b0,0,none⟩))) w0 w:=j.tr s.ch (q.geK (⟨fun _ h=>.inl h,⟨.inr (fun k h=>.inr h),⟨fun _ h=>.inl h,N⟩⟩⟩))
 replace q:=s.left y [(1,ob (.pointer (some ⟨b0,0,none⟩)) (.box B0 86 zA3 x7.2)),(2,⟨u2,S3,trR (geB w0.heap.size) (oPt 26 (oBx (oSl 63 (oBx (oSl 69 (oRd zA0)))))) ([]:List zA8) []⟩),(11,⟨u16,S18,trR (geB w0.heap.size) (oPt 26 (oBx (oSl 63 (oBx (oSl 69 (oRd zA0)))))) x10.1 []⟩)] ⟨Z,Z,z14,Z,Z,⟨Z,Z,z15,eS_u2,Z,⟨Z,Z,e_u16,eS_u16,Z,N⟩⟩⟩
 replace d:=s.avok
 refine zQA Z ?_
 refine zQ2 [ob (.pointer (some ⟨b0,0,none⟩)) (.box B0 86 zA3 x7.2),⟨u2,S3,trR (geB w0.heap.size) (oPt 26 (oBx (oSl 63 (oBx (oSl 69 (oRd zA0)))))) ([]:List zA8) []⟩,⟨u16,S18,trR (geB w0.heap.size) (oPt 26 (oBx (oSl 63 (oBx (oSl 69 (oRd zA0)))))) x10.1 []⟩] (⟨_,true,[2],some (trR (geB w0.heap.size) (oBx (oSl 63 (oBx (oSl 69 (oRd zA0))))) x10.1 []),true,fun A=>.any⟩::⟨_,true,[1,3],some (trR (geB w0.heap.size) (oPt 26 (oBx (oSl 63 (oBx (oSl 69 (oRd zA0)))))) x10.1 []),false,fun A=>.any⟩::[]) (ua (ua (UAll.nil))) q d ?_ ?_
 exact rc (zQ9 2 _ _ Z Z Z Z Z fun V Q U O D u S X I Y J L M=>by have a0:Q 3=u16:=(O.old 3 Z).trans h3;exact zFj I.2 (a0.trans (J _ Z).1.symm) Y I.1 isAgg26 sizeOf26)<|rc (zQ7 1 [3] _ Z Z Z Z fun V Q U O D ρ σ X Y J L M hdd=>by have a0:Q 2=u2:=(O.old 2 Z).trans h2;have k1:=X 1 (.head _) _ Z;have e0:=(J 1 (.head _) _ Z).1;rw [e0] at k1 ⊢;exact zCz Z (zAJ k1.2.2).ptr (X 3 (.tail _ (.head _)) _ Z).2.2.1 (L 3 (.tail _ (.head _)) _ _ Z Z Z Z).symm a0 Y hdd k1.2.1 (X 3 (.tail _ (.head _)) _ Z).2.1 sizeOf26 (fun _ _ _ h=>h))<|rz
 intro done ρ σ A R w y s
 replace h2:=k1 s.rg h2
 have z19:=s.inivR 0 Z
 have z20:=s.inivR 1 Z
 have z21:=s.on y 4 1 Z Z Z Z Z z20
 obtain ⟨S22,eS_u2⟩:∃ S,σ 4=S:=⟨_,Z⟩
 replace B:=s.lowK B C K (q.geK (⟨.inr (fun k h=>.inr h),⟨fun _ h=>.inl h,⟨fun _ h=>.inl h,N⟩⟩⟩))
 replace j:Ch (zAH (.pointer (some ⟨b0,0,none⟩))) w0 w:=j.tr s.ch (q.geK (⟨.inr (fun k h=>.inr h),⟨fun _ h=>.inl h,⟨fun _ h=>.inl h,N⟩⟩⟩))
 replace q:=s.left y [(0,ob (.pointer (some ⟨b0,0,none⟩)) (.box B0 86 zA3 x7.2)),(4,⟨u2,S22,trR (geB w0.heap.size) (oPt 26 (oBx (oSl 63 (oBx (oSl 69 (oRd zA0)))))) x10.1 []⟩)] ⟨Z,Z,z19,Z,Z,⟨Z,Z,z21,eS_u2,Z,N⟩⟩
 replace d:=s.avok
 refine HT.ret ?_
 obtain rfl:=si c
 obtain ⟨v_2,S_2,e_2,q⟩:=q.unbox 1 Z h2 isAgg26 sizeOf26
 obtain ⟨A1,hA1,hG1⟩:=GPost.of q d B (q.geK (⟨.inr (fun k h=>.inr h),⟨fun _ h=>.inl h,N⟩⟩)) j
 exact ⟨.inr Z,[v_2],⟨e_2,N⟩,v_2,S_2,A1,hG1,Z⟩
def zBr (fu:Nat) (p0:zAK) (p1:List Int):Option (Int × zAK):=
 cl true (zBh fu p0 (p1.length:Int)) fun x2=>
 ck (inR x2.1 p1.length) <|
 some ((gtD p1 x2.1),x2.2)
theorem zCN {fu : Nat} {Aq : Av} {p0 : zAK} {p1 : List Int} {r : Int × zAK} (c : zBr fu p0 p1 = some r) {w : World} {v0 : Value} {v1 : Value} {b0 B0 : Nat} (d : AvOK Aq w) (h0 : v0=.pointer (some ⟨b0, 0, none⟩)) (hO0 : IniOK [ob (.pointer (some ⟨b0, 0, none⟩)) (.box B0 86 zA3 p0)] Aq w) (h1 : Rep (eSl (eInt .i64)) Aq w v1 p1) :
 Calls prog 59 #[v0,v1] w fun e w'=>∃ v,e=.returned v/\(∃ (A1:Av),GPost (subS Aq (zAH (.pointer (some ⟨b0,0,none⟩)))) (zAH (.pointer (some ⟨b0,0,none⟩))) w [ob (.pointer (some ⟨b0,0,none⟩)) (.box B0 86 zA3 r.2)] A1 w'/\(Fact.raw (.int .i64 r.1)).ok v w'):=by
 unfold zBr at c
 obtain ⟨w0,hw0⟩:∃ w0,w0=w:=⟨_,Z⟩
 have j:Ch (zAH (.pointer (some ⟨b0,0,none⟩))) w0 w:=hw0 ▸ Ch.refl _ _
 obtain ⟨A0,hA0e⟩:∃ A0,A0=subS Aq (zAH (.pointer (some ⟨b0,0,none⟩))):=⟨_,Z⟩
 have C:∀ b o,A0 b o->b<w0.heap.size:=fun b o h=>hw0 ▸ d b o (hA0e ▸ h:subS Aq _ b o).1
 have K:∀ b o,A0 b o->¬ (zAH (.pointer (some ⟨b0,0,none⟩))) b:=fun b o h=>(hA0e ▸ h:subS Aq _ b o).2
 have hA00:AvOK A0 w0:=C
 rw [show GPost (subS Aq (zAH (.pointer (some ⟨b0,0,none⟩)))) (zAH (.pointer (some ⟨b0,0,none⟩))) w=GPost A0 (zAH (.pointer (some ⟨b0,0,none⟩))) w0 from by rw [hA0e,hw0]]
 obtain ⟨A,hAe⟩:∃ A,A=Aq:=⟨_,Z⟩
 have B:∀ b o,A0 b o->A b o:=fun b o h=>hAe ▸ (hA0e ▸ h:subS Aq _ b o).1
 replace d:AvOK A w:=hAe ▸ d
 have q:IniOK [ob (.pointer (some ⟨b0,0,none⟩)) (.box B0 86 zA3 p0)] A w:=hAe ▸ hO0
 clear hA0e hO0
 refine zAE [.tmp 4] func59 ntmps59 (by decide) Z Z (nb Z) ?_
 intro R hR
 replace h0:R 0=.pointer (some ⟨b0,0,none⟩):=(hR 0 _ Z).trans h0
 have f_v1:Rep (eSl (eInt .i64)) A w v1 p1:=hAe ▸ h1
 replace h1:R 1=v1:=hR 1 _ Z
 refine zQ0 ?_
 refine zQ3 (eI 0::[]) ?_ ?_
 exact op (fun Q U W H D=>zA9 Z)<|oz
 intro R w m n p
 obtain ⟨h0,h1⟩:=k2 n h0 h1
 replace f_v1:=f_v1.fr m
 replace q:=q.fr m
 replace d:=d.fr m.size
 replace j:=j.tr (m.ch noB) fun _ h=>False.elim h
 refine zQ0 ?_
 refine SG.of<|SG.textR [ob (.pointer (some ⟨b0,0,none⟩)) (.box B0 86 zA3 p0)] (rR v1::rR (.pointer (some ⟨b0,0,none⟩))::rR v1::rI (p1.length:Int)::[]) 4 Z Z Z (by kernel_rfl) (by kernel_rfl) (Wf.mk' (by kernel_rfl) (ur (ur (ur (ur (UAll.nil))))) (by kernel_rfl) (by kernel_rfl)) q d (N) ?_ ?_
 exact rm h1<|rm h0<|rm h1<|rp (fun V Q U O D=>zAY (aT:=#[]) ((f_v1.stp O.stp).eq (D.g 0 Z)) underlying27)<|rz
 intro done ρ σ A R w y s
 have z1:=s.inivR 0 Z
 have h5:=s.r y 0 Z
 have h6:=s.r y 1 Z
 have h8:=s.r y 3 Z
 replace f_v1:=f_v1.stp s.stp
 replace B:=s.lowK B C K (q.geK (⟨.inr (fun k h=>.inr h),N⟩))
 replace j:Ch (zAH (.pointer (some ⟨b0,0,none⟩))) w0 w:=j.tr s.ch (q.geK (⟨.inr (fun k h=>.inr h),N⟩))
 replace q:=s.left y [(0,ob (.pointer (some ⟨b0,0,none⟩)) (.box B0 86 zA3 p0))] ⟨Z,Z,z1,Z,Z,N⟩
 replace d:=s.avok
 obtain ⟨x2,q3,c⟩:=zAB c
 have hFz:w0.heap.size<=w.heap.size:=j.size
 refine zQB 9 Z Z Z Z (zBg call58 (zBv (q3 Z) d h6 (q.sub [(0,ob (.pointer (some ⟨b0,0,none⟩)) (.box B0 86 zA3 p0))] ⟨Z,Z,N⟩) h8)) ?_
 rintro v_ w ⟨A,hG1,hv⟩ R n hd
 have hst:=zC1 d hG1 (q.ok 0 _ Z).2
 replace B:∀ b o,A0 b o->A b o:=zCE B C K (q.geK (⟨.inr (fun k h=>.inr h),N⟩)) 0 Z hG1
 replace j:Ch (zAH (.pointer (some ⟨b0,0,none⟩))) w0 w:=j.tr hG1.ch (fun k hk=>(q.geK (⟨.inr (fun k h=>.inr h),N⟩)) k ⟨0,_,Z,hk⟩)
 replace q:=zPs q d 0 Z hG1
 replace d:=hG1.avok
 replace q:IniOK [ob (.pointer (some ⟨b0,0,none⟩)) (.box B0 86 zA3 x2.2)] A w:=q
 replace h5:=(n 5 Z).trans h5
 replace h6:=(n 6 Z).trans h6
 replace h8:=(n 8 Z).trans h8
 replace f_v1:=f_v1.stp hst
 have h9:R 9=.int .i64 x2.1:=hd.trans hv
 clear hFz hG1 hv n hd
 obtain ⟨e4,c⟩:=zAC c
 refine SG.textR [ob (.pointer (some ⟨b0,0,none⟩)) (.box B0 86 zA3 x2.2)] (rR v1::rR (.pointer (some ⟨b0,0,none⟩))::rA::rI (p1.length:Int)::rI x2.1::(rF fun A=>.qtr (eInt .i64) A (gtD p1 x2.1))::rI (gtD p1 x2.1)::rI (gtD p1 x2.1)::[]) 8 Z Z Z (by kernel_rfl) (by kernel_rfl) (Wf.mk' (by kernel_rfl) (ur (ur (ua (ur (ur (UAll.cons zCA (ur (ur (UAll.nil))))))))) (by kernel_rfl) (by kernel_rfl)) q d (⟨⟨Z,Z,Z,h5⟩,⟨⟨Z,Z,Z,h6⟩,⟨⟨Z,Z,Z,N⟩,⟨⟨Z,Z,Z,h8⟩,⟨⟨Z,Z,Z,h9⟩,N⟩⟩⟩⟩⟩) ?_ ?_
 exact rp (fun V Q U O D=>zAL ((f_v1.stp O.stp).eq (D.g 0 Z)) (D.g 1 Z) underlying27 sizeOf3 e4)<|rp (fun V Q U O D=>OpF.int (zAb (QRep.ptr (D.g 0 Z)) isAgg3 sizeOf3))<|ra<|rz
 intro done ρ σ A R w y s
 have z5:=s.inivR 0 Z
 have h4:=s.r y 7 Z
 replace B:=s.lowK B C K (q.geK (⟨.inr (fun k h=>.inr h),N⟩))
 replace j:Ch (zAH (.pointer (some ⟨b0,0,none⟩))) w0 w:=j.tr s.ch (q.geK (⟨.inr (fun k h=>.inr h),N⟩))
 replace q:=s.left y [(0,ob (.pointer (some ⟨b0,0,none⟩)) (.box B0 86 zA3 x2.2))] ⟨Z,Z,z5,Z,Z,N⟩
 replace d:=s.avok
 refine zQA Z ?_
 refine HT.ret ?_
 obtain rfl:=si c
 obtain ⟨A1,hA1,hG1⟩:=GPost.of q d B (q.geK (⟨.inr (fun k h=>.inr h),N⟩)) j
 exact ⟨.inr Z,[R 4],⟨Z,N⟩,A1,hG1,h4⟩
def zC3 (fu : Nat) : Nat -> Int -> zAK -> zA8 -> Option (zAK × zA8)
 | 0,_,_,_=>none
 | k+1,y49,y50,y51=>
 bif (decide (y49<6)) then (
 bif (decide ((y51.length:Int)<3)) then (
 cl true (zDj fu y50 3) fun x60=>
 bd ((y49==5)&&((y51.length:Int)==0)) fun x64=>
 bd (x60.1 || x64) fun x66=>
 bd ((decide ((y51.length:Int)<3))&&x66) fun x68=>
 bif x68 then (
 cl true (zBr fu x60.2 ([500,700,800,1000]:List Int)) fun x77=>
 cl true (zDj fu x77.2 6) fun x79=>
 ck (zBu (y51.length+([(y49,x77.1,x79.1)]:List zAA).length)) <|
 ck (i64B (y49+1)) <|
 zC3 fu k (y49+1) x79.2 (y51++([(y49,x77.1,x79.1)]:List zAA))
 ) else (
 ck (i64B (y49+1)) <|
 zC3 fu k (y49+1) x60.2 y51
 )
 ) else (
 ck (i64B (y49+1)) <|
 zC3 fu k (y49+1) y50 y51
 )
 ) else (
 some (y50,y51)
 )
def zCY (fu : Nat) : Nat -> Int -> zAK -> zAD -> Option (zAK × zAD)
 | 0,_,_,_=>none
 | k+1,y36,y37,y38=>
 bif (decide (0<y36)) then (
 cl true (zC3 fu fu 0 y37 ([]:List zAA)) fun s48=>
 ck (zBu (y38.length+1)) <|
 ck (i64B (y36-1)) <|
 zCY fu k (y36-1) s48.1 (y38 ++ [s48.2])
 ) else (
 some (y37,y38)
 )
def zDe (fu:Nat) (p0:zAK):Option (zAD × zAK):=
 cl true (zDj fu p0 2) fun x6=>
 bif x6.1 then (
 cl true (zE5 fu x6.2) fun x11=>
 some (x11.1,x11.2)
 ) else (
 cl true (zBh fu x6.2 3) fun x27=>
 ck (i64B (1+x27.1)) <|
 cl true (zCY fu fu (1+x27.1) x27.2 ([]:List zA8)) fun s35=>
 some (s35.2,s35.1)
 )
set_option linter.unusedSimpArgs false in
theorem zFV {fu : Nat} {Aq : Av} {p0 : zAK} {r : zAD × zAK} (c : zDe fu p0 = some r) {w : World} {v0 : Value} {b0 B0 : Nat} (d : AvOK Aq w) (h0 : v0=.pointer (some ⟨b0, 0, none⟩)) (hO0 : IniOK [ob (.pointer (some ⟨b0, 0, none⟩)) (.box B0 86 zA3 p0)] Aq w) :
 Calls prog 57 #[v0] w fun e w'=>∃ v,e=.returned v/\(∃ (u0:Value) (S0:Nat->Prop) (A1:Av),GPost (subS Aq (zAH (.pointer (some ⟨b0,0,none⟩)))) (zAH (.pointer (some ⟨b0,0,none⟩))) w [ob (.pointer (some ⟨b0,0,none⟩)) (.box B0 86 zA3 r.2),⟨u0,S0,trR (geB w.heap.size) (oBx (oSl 63 (oBx (oSl 69 (oRd zA0))))) r.1 []⟩] A1 w'/\(Fact.raw u0).ok v w'):=by
 unfold zDe at c
 obtain ⟨w0,hw0⟩:∃ w0,w0=w:=⟨_,Z⟩
 have j:Ch (zAH (.pointer (some ⟨b0,0,none⟩))) w0 w:=hw0 ▸ Ch.refl _ _
 obtain ⟨A0,hA0e⟩:∃ A0,A0=subS Aq (zAH (.pointer (some ⟨b0,0,none⟩))):=⟨_,Z⟩
 have C:∀ b o,A0 b o->b<w0.heap.size:=fun b o h=>hw0 ▸ d b o (hA0e ▸ h:subS Aq _ b o).1
 have K:∀ b o,A0 b o->¬ (zAH (.pointer (some ⟨b0,0,none⟩))) b:=fun b o h=>(hA0e ▸ h:subS Aq _ b o).2
 have hA00:AvOK A0 w0:=C
 rw [show GPost (subS Aq (zAH (.pointer (some ⟨b0,0,none⟩)))) (zAH (.pointer (some ⟨b0,0,none⟩))) w=GPost A0 (zAH (.pointer (some ⟨b0,0,none⟩))) w0 from by rw [hA0e,hw0]]
 rw [show w.heap.size=w0.heap.size from by rw [hw0]]
 obtain ⟨A,hAe⟩:∃ A,A=Aq:=⟨_,Z⟩
 have B:∀ b o,A0 b o->A b o:=fun b o h=>hAe ▸ (hA0e ▸ h:subS Aq _ b o).1
 replace d:AvOK A w:=hAe ▸ d
 have q:IniOK [ob (.pointer (some ⟨b0,0,none⟩)) (.box B0 86 zA3 p0)] A w:=hAe ▸ hO0
 clear hA0e hO0
 refine zAE [.cell 2 26] func57 ntmps57 (by decide) Z Z (nb Z) ?_
 intro R hR
 replace h0:R 0=.pointer (some ⟨b0,0,none⟩):=(hR 0 _ Z).trans h0
 refine zQ2 [ob (.pointer (some ⟨b0,0,none⟩)) (.box B0 86 zA3 p0)] (⟨_,true,[],some (trR (geB w0.heap.size) (oPt 26 (oBx (oSl 63 (oBx (oSl 69 (oRd zA0)))))) ([]:List zA8) []),true,fun A=>.any⟩::[]) (ua (UAll.nil)) q d ?_ ?_
 exact rc (zQ6 _ Z Z Z Z fun V Q U O D=>by exact zCp zeroValue26 (fun A w=>zDF) (fun k hk=>Nat.le_trans (Nat.le_trans j.size O.ch.size) hk))<|rz
 intro done ρ σ A R w y s
 replace h0:=k1 s.rg h0
 have z1:=s.inivR 0 Z
 obtain ⟨u2,e_u2⟩:∃ u,ρ 1=u:=⟨_,Z⟩
 have h2:=s.ov y 1 0 e_u2
 obtain ⟨S3,eS_u2⟩:∃ S,σ 1=S:=⟨_,Z⟩
 replace B:=s.lowK B C K (q.geK (⟨.inr (fun k h=>.inr h),N⟩))
 replace j:Ch (zAH (.pointer (some ⟨b0,0,none⟩))) w0 w:=j.tr s.ch (q.geK (⟨.inr (fun k h=>.inr h),N⟩))
 replace q:=s.left y [(0,ob (.pointer (some ⟨b0,0,none⟩)) (.box B0 86 zA3 p0)),(1,⟨u2,S3,trR (geB w0.heap.size) (oPt 26 (oBx (oSl 63 (oBx (oSl 69 (oRd zA0)))))) ([]:List zA8) []⟩)] ⟨Z,Z,z1,Z,Z,⟨Z,Z,e_u2,eS_u2,Z,N⟩⟩
 replace d:=s.avok
 refine zQ0 ?_
 refine zQ0 ?_
 refine SG.of<|SG.textR [ob (.pointer (some ⟨b0,0,none⟩)) (.box B0 86 zA3 p0),⟨u2,S3,trR (geB w0.heap.size) (oPt 26 (oBx (oSl 63 (oBx (oSl 69 (oRd zA0)))))) ([]:List zA8) []⟩] (rR (.pointer (some ⟨b0,0,none⟩))::[]) 1 Z Z Z (by kernel_rfl) (by kernel_rfl) (Wf.mk' (by kernel_rfl) (ur (UAll.nil)) (by kernel_rfl) (by kernel_rfl)) q d (N) ?_ ?_
 exact rm h0<|rz
 intro done ρ σ A R w y s
 obtain ⟨h0,h2⟩:=k2 s.rg h0 h2
 have z4:=s.inivR 0 Z
 have z5:=s.inivR 1 Z
 have eS_u2:=s.inisR 1 Z
 have h7:=s.r y 0 Z
 replace B:=s.lowK B C K (q.geK (⟨.inr (fun k h=>.inr h),⟨fun _ h=>.inl h,N⟩⟩))
 replace j:Ch (zAH (.pointer (some ⟨b0,0,none⟩))) w0 w:=j.tr s.ch (q.geK (⟨.inr (fun k h=>.inr h),⟨fun _ h=>.inl h,N⟩⟩))
 replace q:=s.left y [(0,ob (.pointer (some ⟨b0,0,none⟩)) (.box B0 86 zA3 p0)),(1,⟨u2,S3,trR (geB w0.heap.size) (oPt 26 (oBx (oSl 63 (oBx (oSl 69 (oRd zA0)))))) ([]:List zA8) []⟩)] ⟨Z,Z,z4,Z,Z,⟨Z,Z,z5,eS_u2,Z,N⟩⟩
 replace d:=s.avok
 obtain ⟨x6,q7,c⟩:=zAB c
 have hFz:w0.heap.size<=w.heap.size:=j.size
 refine zQB 8 Z Z Z Z (zBg call75 (zF1 (q7 Z) d h7 (q.sub [(0,ob (.pointer (some ⟨b0,0,none⟩)) (.box B0 86 zA3 p0))] ⟨Z,Z,N⟩) Z)) ?_
 rintro v_ w ⟨A,hG1,hv⟩ R n hd
 have hst:=zC1 d hG1 (q.ok 0 _ Z).2
 replace B:∀ b o,A0 b o->A b o:=zCE B C K (q.geK (⟨.inr (fun k h=>.inr h),⟨fun _ h=>.inl h,N⟩⟩)) 0 Z hG1
 replace j:Ch (zAH (.pointer (some ⟨b0,0,none⟩))) w0 w:=j.tr hG1.ch (fun k hk=>(q.geK (⟨.inr (fun k h=>.inr h),⟨fun _ h=>.inl h,N⟩⟩)) k ⟨0,_,Z,hk⟩)
 replace q:=zPs q d 0 Z hG1
 replace d:=hG1.avok
 replace q:IniOK [ob (.pointer (some ⟨b0,0,none⟩)) (.box B0 86 zA3 x6.2),⟨u2,S3,trR (geB w0.heap.size) (oPt 26 (oBx (oSl 63 (oBx (oSl 69 (oRd zA0)))))) ([]:List zA8) []⟩] A w:=q
 replace h0:=(n 0 Z).trans h0
 replace h2:=(n 2 Z).trans h2
 replace h7:=(n 7 Z).trans h7
 have h8:R 8=.bool x6.1:=hd.trans hv
 clear hFz hG1 hv n hd
 refine zQA Z ?_
 refine zPt x6.1 h8 (fun c8=>?_) (fun c8=>?_)
 have c:=zAh c8 c
 refine zQ0 ?_
 refine SG.of<|SG.textR [ob (.pointer (some ⟨b0,0,none⟩)) (.box B0 86 zA3 x6.2),⟨u2,S3,trR (geB w0.heap.size) (oPt 26 (oBx (oSl 63 (oBx (oSl 69 (oRd zA0)))))) ([]:List zA8) []⟩] (rR (.pointer (some ⟨b0,0,none⟩))::[]) 1 Z Z Z (by kernel_rfl) (by kernel_rfl) (Wf.mk' (by kernel_rfl) (ur (UAll.nil)) (by kernel_rfl) (by kernel_rfl)) q d (N) ?_ ?_
 exact rm h0<|rz
 intro done ρ σ A R w y s
 replace h2:=k1 s.rg h2
 have z9:=s.inivR 0 Z
 have z10:=s.inivR 1 Z
 have eS_u2:=s.inisR 1 Z
 have h9:=s.r y 0 Z
 replace B:=s.lowK B C K (q.geK (⟨.inr (fun k h=>.inr h),⟨fun _ h=>.inl h,N⟩⟩))
 replace j:Ch (zAH (.pointer (some ⟨b0,0,none⟩))) w0 w:=j.tr s.ch (q.geK (⟨.inr (fun k h=>.inr h),⟨fun _ h=>.inl h,N⟩⟩))
 replace q:=s.left y [(0,ob (.pointer (some ⟨b0,0,none⟩)) (.box B0 86 zA3 x6.2)),(1,⟨u2,S3,trR (geB w0.heap.size) (oPt 26 (oBx (oSl 63 (oBx (oSl 69 (oRd zA0)))))) ([]:List zA8) []⟩)] ⟨Z,Z,z9,Z,Z,⟨Z,Z,z10,eS_u2,Z,N⟩⟩
 replace d:=s.avok
 obtain ⟨x11,q12,c⟩:=zAB c
 have hFz:w0.heap.size<=w.heap.size:=j.size
 refine zQB 10 Z Z Z Z (zBg call76 (zHP (q12 Z) d h9 (q.sub [(0,ob (.pointer (some ⟨b0,0,none⟩)) (.box B0 86 zA3 x6.2))] ⟨Z,Z,N⟩))) ?_
 rintro v_ w ⟨u13,S14,A,hG1,hv⟩ R n hd
 have hst:=zC1 d hG1 (q.ok 0 _ Z).2
 replace B:∀ b o,A0 b o->A b o:=zCE B C K (q.geK (⟨.inr (fun k h=>.inr h),⟨fun _ h=>.inl h,N⟩⟩)) 0 Z hG1
 replace j:Ch (zAH (.pointer (some ⟨b0,0,none⟩))) w0 w:=j.tr hG1.ch (fun k hk=>(q.geK (⟨.inr (fun k h=>.inr h),⟨fun _ h=>.inl h,N⟩⟩)) k ⟨0,_,Z,hk⟩)
 replace q:=zPs q d 0 Z hG1
 replace d:=hG1.avok
 replace q:=q.reK (K':=geB w0.heap.size) 1 Z (fun k hk=>Nat.le_trans hFz hk)
 replace q:IniOK [ob (.pointer (some ⟨b0,0,none⟩)) (.box B0 86 zA3 x11.2),⟨u13,S14,trR (geB w0.heap.size) (oBx (oSl 63 (oBx (oSl 69 (oRd zA0))))) x11.1 []⟩,⟨u2,S3,trR (geB w0.heap.size) (oPt 26 (oBx (oSl 63 (oBx (oSl 69 (oRd zA0)))))) ([]:List zA8) []⟩] A w:=q
 replace h2:=(n 2 Z).trans h2
 replace h9:=(n 9 Z).trans h9
 have h10:R 10=u13:=hd.trans hv
 clear hFz hG1 hv n hd
 refine SG.textR [ob (.pointer (some ⟨b0,0,none⟩)) (.box B0 86 zA3 x11.2),⟨u13,S14,trR (geB w0.heap.size) (oBx (oSl 63 (oBx (oSl 69 (oRd zA0))))) x11.1 []⟩,⟨u2,S3,trR (geB w0.heap.size) (oPt 26 (oBx (oSl 63 (oBx (oSl 69 (oRd zA0)))))) ([]:List zA8) []⟩] (rR (.pointer (some ⟨b0,0,none⟩))::rR u13::⟨_,true,[2,1],some (trR (geB w0.heap.size) (oPt 26 (oBx (oSl 63 (oBx (oSl 69 (oRd zA0)))))) x11.1 []),false,fun A=>.any⟩::[]) 3 Z Z Z (by kernel_rfl) (by kernel_rfl) (Wf.mk' (by kernel_rfl) (ur (ur (ua (UAll.nil)))) (by kernel_rfl) (by kernel_rfl)) q d (⟨⟨Z,Z,Z,h9⟩,⟨⟨Z,Z,Z,h10⟩,N⟩⟩) ?_ ?_
 exact rc (zQ7 2 [1] _ Z Z Z Z fun V Q U O D ρ σ X Y J L M hdd=>by have a0:Q 2=u2:=(O.old 2 Z).trans h2;have a1:Q 10=u13:=D.g 0 Z;have k1:=X 2 (.head _) _ Z;have e0:=(J 2 (.head _) _ Z).1;rw [e0] at k1 ⊢;exact zCz Z (zAJ k1.2.2).ptr (X 1 (.tail _ (.head _)) _ Z).2.2.1 (a1.trans (J 1 (.tail _ (.head _)) _ Z).1.symm) a0 Y hdd k1.2.1 (X 1 (.tail _ (.head _)) _ Z).2.1 sizeOf26 (fun _ _ _ h=>h))<|rz
 intro done ρ σ A R w y s
 replace h2:=k1 s.rg h2
 have z15:=s.inivR 0 Z
 have z16:=s.inivR 2 Z
 have z17:=s.on y 5 2 Z Z Z Z Z z16
 obtain ⟨S18,eS_u2⟩:∃ S,σ 5=S:=⟨_,Z⟩
 replace B:=s.lowK B C K (q.geK (⟨.inr (fun k h=>.inr h),⟨fun _ h=>.inl h,⟨fun _ h=>.inl h,N⟩⟩⟩))
 replace j:Ch (zAH (.pointer (some ⟨b0,0,none⟩))) w0 w:=j.tr s.ch (q.geK (⟨.inr (fun k h=>.inr h),⟨fun _ h=>.inl h,⟨fun _ h=>.inl h,N⟩⟩⟩))
 replace q:=s.left y [(0,ob (.pointer (some ⟨b0,0,none⟩)) (.box B0 86 zA3 x11.2)),(5,⟨u2,S18,trR (geB w0.heap.size) (oPt 26 (oBx (oSl 63 (oBx (oSl 69 (oRd zA0)))))) x11.1 []⟩)] ⟨Z,Z,z15,Z,Z,⟨Z,Z,z17,eS_u2,Z,N⟩⟩
 replace d:=s.avok
 refine zQA Z ?_
 refine HT.ret ?_
 obtain rfl:=si c
 obtain ⟨v_2,S_2,e_2,q⟩:=q.unbox 1 Z h2 isAgg26 sizeOf26
 obtain ⟨A1,hA1,hG1⟩:=GPost.of q d B (q.geK (⟨.inr (fun k h=>.inr h),⟨fun _ h=>.inl h,N⟩⟩)) j
 exact ⟨.inr Z,[v_2],⟨e_2,N⟩,v_2,S_2,A1,hG1,Z⟩
 have c:=zAg c8 c
 refine HT.skip<|zQ2 [ob (.pointer (some ⟨b0,0,none⟩)) (.box B0 86 zA3 x6.2),⟨u2,S3,trR (geB w0.heap.size) (oPt 26 (oBx (oSl 63 (oBx (oSl 69 (oRd zA0)))))) ([]:List zA8) []⟩] (⟨_,true,[],some (trR (geB w0.heap.size) (oBx (oSl 63 (oBx (oSl 69 (oRd zA0))))) ([]:List zA8) []),true,fun A=>.any⟩::⟨_,true,[],some (trR (geB w0.heap.size) (oPt 26 (oBx (oSl 63 (oBx (oSl 69 (oRd zA0)))))) ([]:List zA8) []),true,fun A=>.any⟩::⟨_,true,[3,2],some (trR (geB w0.heap.size) (oPt 26 (oBx (oSl 63 (oBx (oSl 69 (oRd zA0)))))) ([]:List zA8) []),false,fun A=>.any⟩::[]) (ua (ua (ua (UAll.nil)))) q d ?_ ?_
 exact rc (zQ6 _ Z Z Z Z fun V Q U O D=>by exact zEL (v:=.agg #[.slice none 0 0]) (by simp [execOp,Instr.build,zAM,underlying,underlying26,zeroValue26,sizeOf24,go_sem,Instr.fill]) ⟨⟨_,Z,zDF⟩,fun q hq=>by cases hq⟩ (fun k hk=>Nat.le_trans (Nat.le_trans j.size O.ch.size) hk))<|rc (zQ6 _ Z Z Z Z fun V Q U O D=>by exact zCp zeroValue26 (fun A w=>zDF) (fun k hk=>Nat.le_trans (Nat.le_trans j.size O.ch.size) hk))<|rc (zQ7 3 [2] _ Z Z Z Z fun V Q U O D ρ σ X Y J L M hdd=>by have k1:=X 3 (.head _) _ Z;exact zCz Z (zAJ k1.2.2).ptr (X 2 (.tail _ (.head _)) _ Z).2.2.1 (L 2 (.tail _ (.head _)) _ _ Z Z Z Z).symm (L 3 (.head _) _ _ Z Z Z Z).symm Y hdd k1.2.1 (X 2 (.tail _ (.head _)) _ Z).2.1 sizeOf26 (fun _ _ _ h=>h))<|rz
 intro done ρ σ A R w y s
 obtain ⟨h0,h2⟩:=k2 s.rg h0 h2
 have z19:=s.inivR 0 Z
 have z20:=s.inivR 1 Z
 obtain ⟨u21,e_u21⟩:∃ u,ρ 4=u:=⟨_,Z⟩
 have z22:=(s.opnR y 4 2 Z Z Z Z Z).symm.trans e_u21
 have h3:=s.ov y 3 1 z22
 have eS_u2:=s.inisR 1 Z
 obtain ⟨S23,eS_u21⟩:∃ S,σ 4=S:=⟨_,Z⟩
 replace B:=s.lowK B C K (q.geK (⟨.inr (fun k h=>.inr h),⟨fun _ h=>.inl h,N⟩⟩))
 replace j:Ch (zAH (.pointer (some ⟨b0,0,none⟩))) w0 w:=j.tr s.ch (q.geK (⟨.inr (fun k h=>.inr h),⟨fun _ h=>.inl h,N⟩⟩))
 replace q:=s.left y [(0,ob (.pointer (some ⟨b0,0,none⟩)) (.box B0 86 zA3 x6.2)),(1,⟨u2,S3,trR (geB w0.heap.size) (oPt 26 (oBx (oSl 63 (oBx (oSl 69 (oRd zA0)))))) ([]:List zA8) []⟩),(4,⟨u21,S23,trR (geB w0.heap.size) (oPt 26 (oBx (oSl 63 (oBx (oSl 69 (oRd zA0)))))) ([]:List zA8) []⟩)] ⟨Z,Z,z19,Z,Z,⟨Z,Z,z20,eS_u2,Z,⟨Z,Z,e_u21,eS_u21,Z,N⟩⟩⟩
 replace d:=s.avok
 refine zQ0 ?_
 refine zQ0 ?_
 refine SG.of<|SG.textR [ob (.pointer (some ⟨b0,0,none⟩)) (.box B0 86 zA3 x6.2),⟨u2,S3,trR (geB w0.heap.size) (oPt 26 (oBx (oSl 63 (oBx (oSl 69 (oRd zA0)))))) ([]:List zA8) []⟩,⟨u21,S23,trR (geB w0.heap.size) (oPt 26 (oBx (oSl 63 (oBx (oSl 69 (oRd zA0)))))) ([]:List zA8) []⟩] (rR (.pointer (some ⟨b0,0,none⟩))::[]) 1 Z Z Z (by kernel_rfl) (by kernel_rfl) (Wf.mk' (by kernel_rfl) (ur (UAll.nil)) (by kernel_rfl) (by kernel_rfl)) q d (N) ?_ ?_
 exact rm h0<|rz
 intro done ρ σ A R w y s
 obtain ⟨h0,h2,h3⟩:=k3 s.rg h0 h2 h3
 have z24:=s.inivR 0 Z
 have z25:=s.inivR 1 Z
 have z26:=s.inivR 2 Z
 have eS_u2:=s.inisR 1 Z
 have eS_u21:=s.inisR 2 Z
 have h12:=s.r y 0 Z
 replace B:=s.lowK B C K (q.geK (⟨.inr (fun k h=>.inr h),⟨fun _ h=>.inl h,⟨fun _ h=>.inl h,N⟩⟩⟩))
 replace j:Ch (zAH (.pointer (some ⟨b0,0,none⟩))) w0 w:=j.tr s.ch (q.geK (⟨.inr (fun k h=>.inr h),⟨fun _ h=>.inl h,⟨fun _ h=>.inl h,N⟩⟩⟩))
 replace q:=s.left y [(0,ob (.pointer (some ⟨b0,0,none⟩)) (.box B0 86 zA3 x6.2)),(1,⟨u2,S3,trR (geB w0.heap.size) (oPt 26 (oBx (oSl 63 (oBx (oSl 69 (oRd zA0)))))) ([]:List zA8) []⟩),(2,⟨u21,S23,trR (geB w0.heap.size) (oPt 26 (oBx (oSl 63 (oBx (oSl 69 (oRd zA0)))))) ([]:List zA8) []⟩)] ⟨Z,Z,z24,Z,Z,⟨Z,Z,z25,eS_u2,Z,⟨Z,Z,z26,eS_u21,Z,N⟩⟩⟩
 replace d:=s.avok
 obtain ⟨x27,q28,c⟩:=zAB c
 have hFz:w0.heap.size<=w.heap.size:=j.size
 refine zQB 13 Z Z Z Z (zBg call58 (zBv (q28 Z) d h12 (q.sub [(0,ob (.pointer (some ⟨b0,0,none⟩)) (.box B0 86 zA3 x6.2))] ⟨Z,Z,N⟩) Z)) ?_
 rintro v_ w ⟨A,hG1,hv⟩ R n hd
 have hst:=zC1 d hG1 (q.ok 0 _ Z).2
 replace B:∀ b o,A0 b o->A b o:=zCE B C K (q.geK (⟨.inr (fun k h=>.inr h),⟨fun _ h=>.inl h,⟨fun _ h=>.inl h,N⟩⟩⟩)) 0 Z hG1
 replace j:Ch (zAH (.pointer (some ⟨b0,0,none⟩))) w0 w:=j.tr hG1.ch (fun k hk=>(q.geK (⟨.inr (fun k h=>.inr h),⟨fun _ h=>.inl h,⟨fun _ h=>.inl h,N⟩⟩⟩)) k ⟨0,_,Z,hk⟩)
 replace q:=zPs q d 0 Z hG1
 replace d:=hG1.avok
 replace q:IniOK [ob (.pointer (some ⟨b0,0,none⟩)) (.box B0 86 zA3 x27.2),⟨u2,S3,trR (geB w0.heap.size) (oPt 26 (oBx (oSl 63 (oBx (oSl 69 (oRd zA0)))))) ([]:List zA8) []⟩,⟨u21,S23,trR (geB w0.heap.size) (oPt 26 (oBx (oSl 63 (oBx (oSl 69 (oRd zA0)))))) ([]:List zA8) []⟩] A w:=q
 replace h0:=(n 0 Z).trans h0
 replace h2:=(n 2 Z).trans h2
 replace h3:=(n 3 Z).trans h3
 replace h12:=(n 12 Z).trans h12
 have h13:R 13=.int .i64 x27.1:=hd.trans hv
 clear hFz hG1 hv n hd
 obtain ⟨e29,c⟩:=zAC c
 refine SG.textR [ob (.pointer (some ⟨b0,0,none⟩)) (.box B0 86 zA3 x27.2),⟨u2,S3,trR (geB w0.heap.size) (oPt 26 (oBx (oSl 63 (oBx (oSl 69 (oRd zA0)))))) ([]:List zA8) []⟩,⟨u21,S23,trR (geB w0.heap.size) (oPt 26 (oBx (oSl 63 (oBx (oSl 69 (oRd zA0)))))) ([]:List zA8) []⟩] (rR (.pointer (some ⟨b0,0,none⟩))::rI x27.1::rI (1+x27.1)::rI (1+x27.1)::[]) 4 Z Z Z (by kernel_rfl) (by kernel_rfl) (Wf.mk' (by kernel_rfl) (ur (ur (ur (ur (UAll.nil))))) (by kernel_rfl) (by kernel_rfl)) q d (⟨⟨Z,Z,Z,h12⟩,⟨⟨Z,Z,Z,h13⟩,N⟩⟩) ?_ ?_
 exact rp (fun V Q U O D=>zAi Z (D.g 0 Z) e29)<|ra<|rz
 intro done ρ σ A R w y s
 obtain ⟨h0,h2,h3⟩:=k3 s.rg h0 h2 h3
 have z30:=s.inivR 0 Z
 have z31:=s.inivR 1 Z
 have z32:=s.inivR 2 Z
 have eS_u2:=s.inisR 1 Z
 have eS_u21:=s.inisR 2 Z
 have h4:=s.r y 3 Z
 replace B:=s.lowK B C K (q.geK (⟨.inr (fun k h=>.inr h),⟨fun _ h=>.inl h,⟨fun _ h=>.inl h,N⟩⟩⟩))
 replace j:Ch (zAH (.pointer (some ⟨b0,0,none⟩))) w0 w:=j.tr s.ch (q.geK (⟨.inr (fun k h=>.inr h),⟨fun _ h=>.inl h,⟨fun _ h=>.inl h,N⟩⟩⟩))
 replace q:=s.left y [(0,ob (.pointer (some ⟨b0,0,none⟩)) (.box B0 86 zA3 x27.2)),(1,⟨u2,S3,trR (geB w0.heap.size) (oPt 26 (oBx (oSl 63 (oBx (oSl 69 (oRd zA0)))))) ([]:List zA8) []⟩),(2,⟨u21,S23,trR (geB w0.heap.size) (oPt 26 (oBx (oSl 63 (oBx (oSl 69 (oRd zA0)))))) ([]:List zA8) []⟩)] ⟨Z,Z,z30,Z,Z,⟨Z,Z,z31,eS_u2,Z,⟨Z,Z,z32,eS_u21,Z,N⟩⟩⟩
 replace d:=s.avok
 refine zQA Z ?_
 obtain ⟨rl33,q34,c⟩:=zAB c
 replace q34:=q34 Z
 refine zPv (fun R w=>∃ A:Av,∃ (s35:zAK × zAD) (So_u21:Nat->Prop),rl33=s35/\AvOK A w/\Ch (zAH (.pointer (some ⟨b0,0,none⟩))) w0 w/\(∀ b o,A0 b o->A b o)/\IniOK [ob (.pointer (some ⟨b0,0,none⟩)) (.box B0 86 zA3 s35.1),⟨u2,S3,trR (geB w0.heap.size) (oPt 26 (oBx (oSl 63 (oBx (oSl 69 (oRd zA0)))))) ([]:List zA8) []⟩,⟨u21,So_u21,trR (geB w0.heap.size) (oPt 26 (oBx (oSl 63 (oBx (oSl 69 (oRd zA0)))))) s35.2 []⟩] A w/\R 2=u2/\R 3=u21) ?_ ?_
 refine HT.block<|zPz (fun k R w=>∃ A:Av,∃ (y36:Int) (y37:zAK) (y38:zAD) (Sl_u21:Nat->Prop),zCY fu k y36 y37 y38=some rl33/\AvOK A w/\Ch (zAH (.pointer (some ⟨b0,0,none⟩))) w0 w/\(∀ b o,A0 b o->A b o)/\IniOK [ob (.pointer (some ⟨b0,0,none⟩)) (.box B0 86 zA3 y37),⟨u2,S3,trR (geB w0.heap.size) (oPt 26 (oBx (oSl 63 (oBx (oSl 69 (oRd zA0)))))) ([]:List zA8) []⟩,⟨u21,Sl_u21,trR (geB w0.heap.size) (oPt 26 (oBx (oSl 63 (oBx (oSl 69 (oRd zA0)))))) y38 []⟩] A w/\R 0=(.pointer (some ⟨b0,0,none⟩))/\R 2=u2/\R 3=u21/\R 4=.int .i64 y36) fu ⟨_,_,_,_,S23,q34,d,j,B,q,h0,h2,h3,h4⟩ ?_
 have hr0:=c;clear c q34
 rintro k R w ⟨A,y36,y37,y38,Sl_u21,c,d,j,B,q,h0,h2,h3,h4⟩
 rcases k with _ | k
 cases (show none=some _ from c)
 rw [zCY] at c
 refine zQ0 ?_
 refine zQ0 ?_
 refine zQ3 (eI y36::eB (decide (0<y36))::[]) ?_ ?_
 exact om h4<|op (fun Q U W H D=>zEJ (D.g 0 Z) Z)<|oz
 intro R w m n p
 obtain ⟨h0,h2,h3,h4⟩:=k4 n h0 h2 h3 h4
 have h16:=p.r 1 Z
 replace q:=q.fr m
 replace d:=d.fr m.size
 replace j:=j.tr (m.ch noB) fun _ h=>False.elim h
 refine zPt (decide (0<y36)) h16 (fun c39=>?_) (fun c39=>?_)
 have c:=zAh c39 c
 refine HT.skip<|zQ0 ?_
 refine HT.block<|zQ2 [ob (.pointer (some ⟨b0,0,none⟩)) (.box B0 86 zA3 y37),⟨u2,S3,trR (geB w0.heap.size) (oPt 26 (oBx (oSl 63 (oBx (oSl 69 (oRd zA0)))))) ([]:List zA8) []⟩,⟨u21,Sl_u21,trR (geB w0.heap.size) (oPt 26 (oBx (oSl 63 (oBx (oSl 69 (oRd zA0)))))) y38 []⟩] (⟨_,true,[],some (trR (geB w0.heap.size) (oBx (oSl 69 (oRd zA0))) ([]:List zAA) []),true,fun A=>.any⟩::⟨_,true,[],some (trR (geB w0.heap.size) (oPt 63 (oBx (oSl 69 (oRd zA0)))) ([]:List zAA) []),true,fun A=>.any⟩::⟨_,true,[4,3],some (trR (geB w0.heap.size) (oPt 63 (oBx (oSl 69 (oRd zA0)))) ([]:List zAA) []),false,fun A=>.any⟩::[]) (ua (ua (ua (UAll.nil)))) q d ?_ ?_
 exact rc (zQ6 _ Z Z Z Z fun V Q U O D=>by exact zEL (v:=.agg #[.slice none 0 0]) (by simp [execOp,Instr.build,zAM,underlying,underlying63,zeroValue63,sizeOf44,go_sem,Instr.fill]) ⟨⟨_,Z,zDF⟩,fun q hq=>by cases hq⟩ (fun k hk=>Nat.le_trans (Nat.le_trans j.size O.ch.size) hk))<|rc (zQ6 _ Z Z Z Z fun V Q U O D=>by exact zCp zeroValue63 (fun A w=>zDF) (fun k hk=>Nat.le_trans (Nat.le_trans j.size O.ch.size) hk))<|rc (zQ7 4 [3] _ Z Z Z Z fun V Q U O D ρ σ X Y J L M hdd=>by have k1:=X 4 (.head _) _ Z;exact zCz Z (zAJ k1.2.2).ptr (X 3 (.tail _ (.head _)) _ Z).2.2.1 (L 3 (.tail _ (.head _)) _ _ Z Z Z Z).symm (L 4 (.head _) _ _ Z Z Z Z).symm Y hdd k1.2.1 (X 3 (.tail _ (.head _)) _ Z).2.1 sizeOf63 (fun _ _ _ h=>h))<|rz
 intro done ρ σ A R w y s
 obtain ⟨h0,h2,h3,h4⟩:=k4 s.rg h0 h2 h3 h4
 have z40:=s.inivR 0 Z
 have z41:=s.inivR 1 Z
 have z42:=s.inivR 2 Z
 obtain ⟨u43,e_u43⟩:∃ u,ρ 5=u:=⟨_,Z⟩
 have z44:=(s.opnR y 5 2 Z Z Z Z Z).symm.trans e_u43
 have h5:=s.ov y 4 1 z44
 have eS_u2:=s.inisR 1 Z
 have eS_u21:=s.inisR 2 Z
 obtain ⟨S45,eS_u43⟩:∃ S,σ 5=S:=⟨_,Z⟩
 replace B:=s.lowK B C K (q.geK (⟨.inr (fun k h=>.inr h),⟨fun _ h=>.inl h,⟨fun _ h=>.inl h,N⟩⟩⟩))
 replace j:Ch (zAH (.pointer (some ⟨b0,0,none⟩))) w0 w:=j.tr s.ch (q.geK (⟨.inr (fun k h=>.inr h),⟨fun _ h=>.inl h,⟨fun _ h=>.inl h,N⟩⟩⟩))
 replace q:=s.left y [(0,ob (.pointer (some ⟨b0,0,none⟩)) (.box B0 86 zA3 y37)),(1,⟨u2,S3,trR (geB w0.heap.size) (oPt 26 (oBx (oSl 63 (oBx (oSl 69 (oRd zA0)))))) ([]:List zA8) []⟩),(2,⟨u21,Sl_u21,trR (geB w0.heap.size) (oPt 26 (oBx (oSl 63 (oBx (oSl 69 (oRd zA0)))))) y38 []⟩),(5,⟨u43,S45,trR (geB w0.heap.size) (oPt 63 (oBx (oSl 69 (oRd zA0)))) ([]:List zAA) []⟩)] ⟨Z,Z,z40,Z,Z,⟨Z,Z,z41,eS_u2,Z,⟨Z,Z,z42,eS_u21,Z,⟨Z,Z,e_u43,eS_u43,Z,N⟩⟩⟩⟩
 replace d:=s.avok
 refine zQ0 ?_
 refine zQ0 ?_
 refine zQ3 (eI 0::[]) ?_ ?_
 exact op (fun Q U W H D=>zA9 Z)<|oz
 intro R w m n p
 obtain ⟨h0,h2,h3,h4,h5⟩:=k5 n h0 h2 h3 h4 h5
 have h6:=p.r 0 Z
 replace q:=q.fr m
 replace d:=d.fr m.size
 replace j:=j.tr (m.ch noB) fun _ h=>False.elim h
 obtain ⟨rl46,q47,c⟩:=zAB c
 replace q47:=q47 Z
 refine zPv (fun R w=>∃ A:Av,∃ (s48:zAK × zA8) (So_u43:Nat->Prop),rl46=s48/\AvOK A w/\Ch (zAH (.pointer (some ⟨b0,0,none⟩))) w0 w/\(∀ b o,A0 b o->A b o)/\IniOK [ob (.pointer (some ⟨b0,0,none⟩)) (.box B0 86 zA3 s48.1),⟨u2,S3,trR (geB w0.heap.size) (oPt 26 (oBx (oSl 63 (oBx (oSl 69 (oRd zA0)))))) ([]:List zA8) []⟩,⟨u21,Sl_u21,trR (geB w0.heap.size) (oPt 26 (oBx (oSl 63 (oBx (oSl 69 (oRd zA0)))))) y38 []⟩,⟨u43,So_u43,trR (geB w0.heap.size) (oPt 63 (oBx (oSl 69 (oRd zA0)))) s48.2 []⟩] A w/\R 0=(.pointer (some ⟨b0,0,none⟩))/\R 2=u2/\R 3=u21/\R 4=.int .i64 y36/\R 5=u43) ?_ ?_
 refine HT.block<|zPz (fun k R w=>∃ A:Av,∃ (y49:Int) (y50:zAK) (y51:zA8) (Sl_u43:Nat->Prop),zC3 fu k y49 y50 y51=some rl46/\AvOK A w/\Ch (zAH (.pointer (some ⟨b0,0,none⟩))) w0 w/\(∀ b o,A0 b o->A b o)/\IniOK [ob (.pointer (some ⟨b0,0,none⟩)) (.box B0 86 zA3 y50),⟨u2,S3,trR (geB w0.heap.size) (oPt 26 (oBx (oSl 63 (oBx (oSl 69 (oRd zA0)))))) ([]:List zA8) []⟩,⟨u21,Sl_u21,trR (geB w0.heap.size) (oPt 26 (oBx (oSl 63 (oBx (oSl 69 (oRd zA0)))))) y38 []⟩,⟨u43,Sl_u43,trR (geB w0.heap.size) (oPt 63 (oBx (oSl 69 (oRd zA0)))) y51 []⟩] A w/\R 0=(.pointer (some ⟨b0,0,none⟩))/\R 2=u2/\R 3=u21/\R 4=.int .i64 y36/\R 5=u43/\R 6=.int .i64 y49) fu ⟨_,_,_,_,S45,q47,d,j,B,q,h0,h2,h3,h4,h5,h6⟩ ?_
 have hr0:=c;clear c q47
 rintro k R w ⟨A,y49,y50,y51,Sl_u43,c,d,j,B,q,h0,h2,h3,h4,h5,h6⟩
 rcases k with _ | k
 cases (show none=some _ from c)
 rw [zC3] at c
 refine zQ0 ?_
 refine zQ0 ?_
 refine zQ3 (eI y49::eB (decide (y49<6))::[]) ?_ ?_
 exact om h6<|op (fun Q U W H D=>zBS (D.g 0 Z) Z)<|oz
 intro R w m n p
 obtain ⟨h0,h2,h3,h4,h5,h6⟩:=k6 n h0 h2 h3 h4 h5 h6
 have h21:=p.r 1 Z
 replace q:=q.fr m
 replace d:=d.fr m.size
 replace j:=j.tr (m.ch noB) fun _ h=>False.elim h
 refine zPt (decide (y49<6)) h21 (fun c52=>?_) (fun c52=>?_)
 have c:=zAh c52 c
 refine HT.skip<|zQ0 ?_
 refine HT.block<|zQ0 ?_
 refine SG.of ?_
 obtain ⟨h53,p_h53⟩:=(((zAJ (q.own 3 _ Z).2).ptr).bx).open1 Z
 replace q:IniOK [ob (.pointer (some ⟨b0,0,none⟩)) (.box B0 86 zA3 y50),⟨u2,S3,trR (geB w0.heap.size) (oPt 26 (oBx (oSl 63 (oBx (oSl 69 (oRd zA0)))))) ([]:List zA8) []⟩,⟨u21,Sl_u21,trR (geB w0.heap.size) (oPt 26 (oBx (oSl 63 (oBx (oSl 69 (oRd zA0)))))) y38 []⟩,⟨u43,Sl_u43,trR (geB w0.heap.size) (oPt 63 (oBx (oSl 69 (oRd zA0)))) y51 [(u43,[h53])]⟩] A w:=q.repin 3 Z (trP.pin p_h53)
 refine SG.textR [ob (.pointer (some ⟨b0,0,none⟩)) (.box B0 86 zA3 y50),⟨u2,S3,trR (geB w0.heap.size) (oPt 26 (oBx (oSl 63 (oBx (oSl 69 (oRd zA0)))))) ([]:List zA8) []⟩,⟨u21,Sl_u21,trR (geB w0.heap.size) (oPt 26 (oBx (oSl 63 (oBx (oSl 69 (oRd zA0)))))) y38 []⟩,⟨u43,Sl_u43,trR (geB w0.heap.size) (oPt 63 (oBx (oSl 69 (oRd zA0)))) y51 [(u43,[h53])]⟩] (rR u43::rR h53::rI (y51.length:Int)::rB (decide ((y51.length:Int)<3))::rB (decide ((y51.length:Int)<3))::[]) 5 Z Z Z (by kernel_rfl) (by kernel_rfl) (Wf.mk' (by kernel_rfl) (ur (ur (ur (ur (ur (UAll.nil)))))) (by kernel_rfl) (by kernel_rfl)) q d (N) ?_ ?_
 exact rp (fun V Q U O D=>zAQ ((zAJ (q.own 3 _ Z).2).ptr).ad ((O.old 5 Z).trans h5) zDI sizeOf44 (by decide) (zCc ((zAJ (q.own 3 _ Z).2).ptr).ad))<|rp (fun V Q U O D=>zBX ((O.rdo 3 _ Z Z).2.2 _ (.head _)) (D.g 0 Z) isAgg44 sizeOf44)<|rp (fun V Q U O D=>zGE ((((zAJ (q.own 3 _ Z).2).ptr).bx).pin ((q.own 3 _ Z).2.2 _ (.head _)) Z) (D.g 0 Z) underlying44)<|rp (fun V Q U O D=>zBS (D.g 0 Z) Z)<|rv<|rz
 intro done ρ σ A R w y s
 obtain ⟨h0,h2,h3,h4,h5,h6⟩:=k6 s.rg h0 h2 h3 h4 h5 h6
 have z55:=s.inivR 0 Z
 have z56:=s.inivR 1 Z
 have z57:=s.inivR 2 Z
 have z58:=s.inivR 3 Z
 have eS_u2:=s.inisR 1 Z
 have eS_u21:=s.inisR 2 Z
 have eS_u43:=s.inisR 3 Z
 have h28:=s.r y 4 Z
 replace B:=s.lowK B C K (q.geK (⟨.inr (fun k h=>.inr h),⟨fun _ h=>.inl h,⟨fun _ h=>.inl h,⟨fun _ h=>.inl h,N⟩⟩⟩⟩))
 replace j:Ch (zAH (.pointer (some ⟨b0,0,none⟩))) w0 w:=j.tr s.ch (q.geK (⟨.inr (fun k h=>.inr h),⟨fun _ h=>.inl h,⟨fun _ h=>.inl h,⟨fun _ h=>.inl h,N⟩⟩⟩⟩))
 replace q:=s.left y [(0,ob (.pointer (some ⟨b0,0,none⟩)) (.box B0 86 zA3 y50)),(1,⟨u2,S3,trR (geB w0.heap.size) (oPt 26 (oBx (oSl 63 (oBx (oSl 69 (oRd zA0)))))) ([]:List zA8) []⟩),(2,⟨u21,Sl_u21,trR (geB w0.heap.size) (oPt 26 (oBx (oSl 63 (oBx (oSl 69 (oRd zA0)))))) y38 []⟩),(3,⟨u43,Sl_u43,trR (geB w0.heap.size) (oPt 63 (oBx (oSl 69 (oRd zA0)))) y51 [(u43,[h53])]⟩)] ⟨Z,Z,z55,Z,Z,⟨Z,Z,z56,eS_u2,Z,⟨Z,Z,z57,eS_u21,Z,⟨Z,Z,z58,eS_u43,Z,N⟩⟩⟩⟩
 replace d:=s.avok
 replace q:IniOK [ob (.pointer (some ⟨b0,0,none⟩)) (.box B0 86 zA3 y50),⟨u2,S3,trR (geB w0.heap.size) (oPt 26 (oBx (oSl 63 (oBx (oSl 69 (oRd zA0)))))) ([]:List zA8) []⟩,⟨u21,Sl_u21,trR (geB w0.heap.size) (oPt 26 (oBx (oSl 63 (oBx (oSl 69 (oRd zA0)))))) y38 []⟩,⟨u43,Sl_u43,trR (geB w0.heap.size) (oPt 63 (oBx (oSl 69 (oRd zA0)))) y51 []⟩] A w:=q.repin 3 Z trP.nopin
 rcases Bool.eq_false_or_eq_true (decide ((y51.length:Int)<3)) with c59 | c59
 have c:=zAh c59 c
 refine SG.opG 29 4 28 true Z Z Z Z (h28.trans (congrArg Value.bool c59)) Z Z (zBd (f:=.raw ((.pointer (some ⟨b0,0,none⟩)))) (h0:zAM R (.tmp 0)=_)) ?_
 rintro v_ w ⟨hv_,hfr⟩ R n hd
 have hst:=hfr.stp A
 replace j:Ch (zAH (.pointer (some ⟨b0,0,none⟩))) w0 w:=j.tr (hfr.ch noB) fun _ h=>False.elim h
 replace d:=d.fr hfr.size
 replace q:=q.fr hfr
 replace h0:=(n 0 Z).trans h0
 replace h2:=(n 2 Z).trans h2
 replace h3:=(n 3 Z).trans h3
 replace h4:=(n 4 Z).trans h4
 replace h5:=(n 5 Z).trans h5
 replace h6:=(n 6 Z).trans h6
 replace h28:=(n 28 Z).trans h28
 have h29:R 29=(.pointer (some ⟨b0,0,none⟩)):=hd.trans hv_
 clear n hd hst hfr hv_
 obtain ⟨x60,q61,c⟩:=zAB c
 have hFz:w0.heap.size<=w.heap.size:=j.size
 refine SG.opG 30 4 28 true Z Z Z Z (h28.trans (congrArg Value.bool c59)) Z Z (zBg call75 (zF1 (q61 Z) d h29 (q.sub [(0,ob (.pointer (some ⟨b0,0,none⟩)) (.box B0 86 zA3 y50))] ⟨Z,Z,N⟩) Z)) ?_
 rintro v_ w ⟨A,hG1,hv⟩ R n hd
 have hst:=zC1 d hG1 (q.ok 0 _ Z).2
 replace B:∀ b o,A0 b o->A b o:=zCE B C K (q.geK (⟨.inr (fun k h=>.inr h),⟨fun _ h=>.inl h,⟨fun _ h=>.inl h,⟨fun _ h=>.inl h,N⟩⟩⟩⟩)) 0 Z hG1
 replace j:Ch (zAH (.pointer (some ⟨b0,0,none⟩))) w0 w:=j.tr hG1.ch (fun k hk=>(q.geK (⟨.inr (fun k h=>.inr h),⟨fun _ h=>.inl h,⟨fun _ h=>.inl h,⟨fun _ h=>.inl h,N⟩⟩⟩⟩)) k ⟨0,_,Z,hk⟩)
 replace q:=zPs q d 0 Z hG1
 replace d:=hG1.avok
 replace q:IniOK [ob (.pointer (some ⟨b0,0,none⟩)) (.box B0 86 zA3 x60.2),⟨u2,S3,trR (geB w0.heap.size) (oPt 26 (oBx (oSl 63 (oBx (oSl 69 (oRd zA0)))))) ([]:List zA8) []⟩,⟨u21,Sl_u21,trR (geB w0.heap.size) (oPt 26 (oBx (oSl 63 (oBx (oSl 69 (oRd zA0)))))) y38 []⟩,⟨u43,Sl_u43,trR (geB w0.heap.size) (oPt 63 (oBx (oSl 69 (oRd zA0)))) y51 []⟩] A w:=q
 replace h0:=(n 0 Z).trans h0
 replace h2:=(n 2 Z).trans h2
 replace h3:=(n 3 Z).trans h3
 replace h4:=(n 4 Z).trans h4
 replace h5:=(n 5 Z).trans h5
 replace h6:=(n 6 Z).trans h6
 replace h28:=(n 28 Z).trans h28
 replace h29:=(n 29 Z).trans h29
 have h30:R 30=.bool x60.1:=hd.trans hv
 clear hFz hG1 hv n hd
 obtain ⟨h62,p_h62⟩:=(((zAJ (q.own 3 _ Z).2).ptr).bx).open1 Z
 replace q:IniOK [ob (.pointer (some ⟨b0,0,none⟩)) (.box B0 86 zA3 x60.2),⟨u2,S3,trR (geB w0.heap.size) (oPt 26 (oBx (oSl 63 (oBx (oSl 69 (oRd zA0)))))) ([]:List zA8) []⟩,⟨u21,Sl_u21,trR (geB w0.heap.size) (oPt 26 (oBx (oSl 63 (oBx (oSl 69 (oRd zA0)))))) y38 []⟩,⟨u43,Sl_u43,trR (geB w0.heap.size) (oPt 63 (oBx (oSl 69 (oRd zA0)))) y51 [(u43,[h62])]⟩] A w:=q.repin 3 Z (trP.pin p_h62)
 obtain ⟨x64,q65,c⟩:=zAf c
 obtain ⟨x66,q67,c⟩:=zAf c
 obtain ⟨x68,q69,c⟩:=zAf c
 refine SG.textR [ob (.pointer (some ⟨b0,0,none⟩)) (.box B0 86 zA3 x60.2),⟨u2,S3,trR (geB w0.heap.size) (oPt 26 (oBx (oSl 63 (oBx (oSl 69 (oRd zA0)))))) ([]:List zA8) []⟩,⟨u21,Sl_u21,trR (geB w0.heap.size) (oPt 26 (oBx (oSl 63 (oBx (oSl 69 (oRd zA0)))))) y38 []⟩,⟨u43,Sl_u43,trR (geB w0.heap.size) (oPt 63 (oBx (oSl 69 (oRd zA0)))) y51 [(u43,[h62])]⟩] (rA::rA::rA::rA::rB (decide ((y51.length:Int)<3))::rR (.pointer (some ⟨b0,0,none⟩))::rB x60.1::sB (true&&((decide ((y51.length:Int)<3))==true)) x60.1::sI ((true&&((decide ((y51.length:Int)<3))==true))&&(x60.1==false)) y49::sB ((true&&((decide ((y51.length:Int)<3))==true))&&(x60.1==false)) (y49==5)::sB ((true&&((decide ((y51.length:Int)<3))==true))&&(x60.1==false)) (y49==5)::sR (((true&&((decide ((y51.length:Int)<3))==true))&&(x60.1==false))&&((y49==5)==true)) u43::sR (((true&&((decide ((y51.length:Int)<3))==true))&&(x60.1==false))&&((y49==5)==true)) h62::sI (((true&&((decide ((y51.length:Int)<3))==true))&&(x60.1==false))&&((y49==5)==true)) (y51.length:Int)::sB (((true&&((decide ((y51.length:Int)<3))==true))&&(x60.1==false))&&((y49==5)==true)) ((y51.length:Int)==0)::sB ((true&&((decide ((y51.length:Int)<3))==true))&&(x60.1==false)) x64::sB (true&&((decide ((y51.length:Int)<3))==true)) x66::rB x68::[]) 18 Z Z Z (by kernel_rfl) (by kernel_rfl) (Wf.mk' (by kernel_rfl) (ua (ua (ua (ua (ur (ur (ur (ur (ur (ur (ur (ur (ur (ur (ur (ur (ur (ur (UAll.nil))))))))))))))))))) (by kernel_rfl) (by kernel_rfl)) q d (⟨⟨Z,Z,Z,N⟩,⟨⟨Z,Z,Z,N⟩,⟨⟨Z,Z,Z,N⟩,⟨⟨Z,Z,Z,N⟩,⟨⟨Z,Z,Z,h28⟩,⟨⟨Z,Z,Z,h29⟩,⟨⟨Z,Z,Z,h30⟩,N⟩⟩⟩⟩⟩⟩⟩) ?_ ?_
 exact rc (OblR.grd 4 true _ _ _ Z Z Z Z Z (fun _=>Z) Z Z fun G V Q U O D=>by have a0:Q 30=.bool x60.1:=D.g 0 Z;exact zBd a0)<|rc (OblR.grd 7 false _ _ _ Z Z Z Z Z (fun _=>Z) Z Z fun G V Q U O D=>by have a0:Q 6=.int .i64 y49:=(O.old 6 Z).trans h6;exact zBd a0)<|rc (OblR.grd 7 false _ _ _ Z Z Z Z Z (fun _=>Z) Z Z fun G V Q U O D=>by have a0:Q 32=.int .i64 y49:=D 0 _ _ _ Z Z Z Z G;exact zDA a0 Z)<|rc (OblR.grd 7 false _ _ _ Z Z Z Z Z (fun _=>Z) Z Z fun G V Q U O D=>by have a0:Q 33=.bool (y49==5):=D 0 _ _ _ Z Z Z Z G;exact zBd a0)<|rc (OblR.grd 10 true _ _ _ Z Z Z Z Z (fun _=>Z) Z Z fun G V Q U O D=>by have a0:Q 5=u43:=(O.old 5 Z).trans h5;exact zAQ ((zAJ (q.own 3 _ Z).2).ptr).ad a0 zDI sizeOf44 (by decide) (zCc ((zAJ (q.own 3 _ Z).2).ptr).ad))<|rc (OblR.grd 10 true _ _ _ Z Z Z Z Z (fun _=>Z) Z Z fun G V Q U O D=>by have a0:Q 35=u43:=D 0 _ _ _ Z Z Z Z G;exact zBX ((O.rdo 3 _ Z Z).2.2 _ (.head _)) a0 isAgg44 sizeOf44)<|rc (OblR.grd 10 true _ _ _ Z Z Z Z Z (fun _=>Z) Z Z fun G V Q U O D=>by have a0:Q 36=h62:=D 0 _ _ _ Z Z Z Z G;exact zGE ((((zAJ (q.own 3 _ Z).2).ptr).bx).pin ((q.own 3 _ Z).2.2 _ (.head _)) Z) a0 underlying44)<|rc (OblR.grd 10 true _ _ _ Z Z Z Z Z (fun _=>Z) Z Z fun G V Q U O D=>by have a0:Q 37=.int .i64 (y51.length:Int):=D 0 _ _ _ Z Z Z Z G;exact zDA a0 Z)<|rc (OblR.grd 7 false _ _ _ Z Z Z Z Z (fun _=>Z) Z Z fun G V Q U O D=>by have a0:Q 34=.bool (y49==5):=D 0 _ _ _ Z Z Z Z G;exact zAl (y49==5) a0 (fun hc=>by have a1:Q 38=.bool ((y51.length:Int)==0):=D 1 _ _ _ Z Z Z Z (zCH G (zBA hc));show _=Value.bool x64;rw [q65,hc];exact a1) (fun hc=>by show _=Value.bool x64;rw [q65,hc];exact Z))<|rc (OblR.grd 4 true _ _ _ Z Z Z Z Z (fun _=>Z) Z Z fun G V Q U O D=>by have a0:Q 31=.bool x60.1:=D 0 _ _ _ Z Z Z Z G;exact zAl x60.1 a0 (fun hc=>by show _=Value.bool x66;rw [q67,hc];exact Z) (fun hc=>by have a2:Q 39=.bool x64:=D 1 _ _ _ Z Z Z Z (zCH G (zBA hc));show _=Value.bool x66;rw [q67,hc];exact a2))<|rp (fun V Q U O D=>zAl (decide ((y51.length:Int)<3)) (D.g 0 Z) (fun hc=>by have a1:Q 40=.bool x66:=D 1 _ _ _ Z Z Z Z (zCH Z (zBA hc));show _=Value.bool x68;rw [q69,hc];exact a1) (fun hc=>by show _=Value.bool x68;rw [q69,hc];exact Z))<|rz
 intro done ρ σ A R w y s
 obtain ⟨h0,h2,h3,h4,h5,h6⟩:=k6 s.rg h0 h2 h3 h4 h5 h6
 have z70:=s.inivR 0 Z
 have z71:=s.inivR 1 Z
 have z72:=s.inivR 2 Z
 have z73:=s.inivR 3 Z
 have eS_u2:=s.inisR 1 Z
 have eS_u21:=s.inisR 2 Z
 have eS_u43:=s.inisR 3 Z
 have h41:=s.r y 17 Z
 replace B:=s.lowK B C K (q.geK (⟨.inr (fun k h=>.inr h),⟨fun _ h=>.inl h,⟨fun _ h=>.inl h,⟨fun _ h=>.inl h,N⟩⟩⟩⟩))
 replace j:Ch (zAH (.pointer (some ⟨b0,0,none⟩))) w0 w:=j.tr s.ch (q.geK (⟨.inr (fun k h=>.inr h),⟨fun _ h=>.inl h,⟨fun _ h=>.inl h,⟨fun _ h=>.inl h,N⟩⟩⟩⟩))
 replace q:=s.left y [(0,ob (.pointer (some ⟨b0,0,none⟩)) (.box B0 86 zA3 x60.2)),(1,⟨u2,S3,trR (geB w0.heap.size) (oPt 26 (oBx (oSl 63 (oBx (oSl 69 (oRd zA0)))))) ([]:List zA8) []⟩),(2,⟨u21,Sl_u21,trR (geB w0.heap.size) (oPt 26 (oBx (oSl 63 (oBx (oSl 69 (oRd zA0)))))) y38 []⟩),(3,⟨u43,Sl_u43,trR (geB w0.heap.size) (oPt 63 (oBx (oSl 69 (oRd zA0)))) y51 [(u43,[h62])]⟩)] ⟨Z,Z,z70,Z,Z,⟨Z,Z,z71,eS_u2,Z,⟨Z,Z,z72,eS_u21,Z,⟨Z,Z,z73,eS_u43,Z,N⟩⟩⟩⟩
 replace d:=s.avok
 replace q:IniOK [ob (.pointer (some ⟨b0,0,none⟩)) (.box B0 86 zA3 x60.2),⟨u2,S3,trR (geB w0.heap.size) (oPt 26 (oBx (oSl 63 (oBx (oSl 69 (oRd zA0)))))) ([]:List zA8) []⟩,⟨u21,Sl_u21,trR (geB w0.heap.size) (oPt 26 (oBx (oSl 63 (oBx (oSl 69 (oRd zA0)))))) y38 []⟩,⟨u43,Sl_u43,trR (geB w0.heap.size) (oPt 63 (oBx (oSl 69 (oRd zA0)))) y51 []⟩] A w:=q.repin 3 Z trP.nopin
 refine zQA Z ?_
 refine zPt x68 h41 (fun c74=>?_) (fun c74=>?_)
 have c:=zAh c74 c
 obtain ⟨h75,p_h75⟩:=(((zAJ (q.own 3 _ Z).2).ptr).bx).open1 Z
 replace q:IniOK [ob (.pointer (some ⟨b0,0,none⟩)) (.box B0 86 zA3 x60.2),⟨u2,S3,trR (geB w0.heap.size) (oPt 26 (oBx (oSl 63 (oBx (oSl 69 (oRd zA0)))))) ([]:List zA8) []⟩,⟨u21,Sl_u21,trR (geB w0.heap.size) (oPt 26 (oBx (oSl 63 (oBx (oSl 69 (oRd zA0)))))) y38 []⟩,⟨u43,Sl_u43,trR (geB w0.heap.size) (oPt 63 (oBx (oSl 69 (oRd zA0)))) y51 [(u43,[h75])]⟩] A w:=q.repin 3 Z (trP.pin p_h75)
 obtain ⟨x77,q78,c⟩:=zAB c
 obtain ⟨x79,q80,c⟩:=zAB c
 obtain ⟨e81,c⟩:=zAC c
 refine zPx [ob (.pointer (some ⟨b0,0,none⟩)) (.box B0 86 zA3 x60.2),⟨u2,S3,trR (geB w0.heap.size) (oPt 26 (oBx (oSl 63 (oBx (oSl 69 (oRd zA0)))))) ([]:List zA8) []⟩,⟨u21,Sl_u21,trR (geB w0.heap.size) (oPt 26 (oBx (oSl 63 (oBx (oSl 69 (oRd zA0)))))) y38 []⟩,⟨u43,Sl_u43,trR (geB w0.heap.size) (oPt 63 (oBx (oSl 69 (oRd zA0)))) y51 [(u43,[h75])]⟩] (rR u43::rR h75::rI y49::rR (.pointer (some ⟨b0,0,none⟩))::(rF fun A=>.rep (eSl (eInt .i64)) A ([500,700,800,1000]:List Int))::⟨_,true,[0],some (.box B0 86 zA3 x77.2),false,fun A=>.raw (.int .i64 x77.1)⟩::rR (.pointer (some ⟨b0,0,none⟩))::⟨_,true,[9],some (.box B0 86 zA3 x79.2),false,fun A=>.raw (.bool x79.1)⟩::(rF fun A=>.rep zA0 A (y49,x77.1,x79.1))::(rF fun A=>.rep (eSl zA0) A ([(y49,x77.1,x79.1)]:List zAA))::⟨_,true,[3],some (.gen (geB w0.heap.size) (pdP (oSl 69 (oRd zA0)) u43 (fun z A w S=>(trP (oPt 63 (oBx (oSl 69 (oRd zA0)))) z []).P A w S u43) (y51++([(y49,x77.1,x79.1)]:List zAA)))),true,fun A=>.any⟩::rR u43::⟨_,true,[14],some (.gen (geB w0.heap.size) (fixP u43 (trP (oPt 63 (oBx (oSl 69 (oRd zA0)))) (y51++([(y49,x77.1,x79.1)]:List zAA)) []))),false,fun A=>.any⟩::[]) (by kernel_rfl) (by kernel_rfl) (by kernel_rfl) (Wf.mk' (by kernel_rfl) (ur (ur (ur (ur (up (ur (ur (ur (up (up (ua (ur (ua (UAll.nil)))))))))))))) (by kernel_rfl) (by kernel_rfl)) q d ?_ ?_
 exact rp (fun V Q U O D=>zAQ ((zAJ (q.own 3 _ Z).2).ptr).ad ((O.old 5 Z).trans h5) zDI sizeOf44 (by decide) (zCc ((zAJ (q.own 3 _ Z).2).ptr).ad))<|rp (fun V Q U O D=>zBX ((O.rdo 3 _ Z Z).2.2 _ (.head _)) (D.g 0 Z) isAgg44 sizeOf44)<|rm h6<|rm h0<|rp (fun V Q U O D=>zCj [_,_,_,_] (E:=eInt .i64) ⟨(zBZ.eq Z),⟨(zBZ.eq Z),⟨(zBZ.eq Z),⟨(zBZ.eq Z),N⟩⟩⟩⟩ underlying27 sizeOf3 zeroValue3 Z Z Z O.av)<|rc (OblR.took 0 _ _ Z Z Z Z Z fun V Q U O D u X Y J L M=>by have a0:Q 45=(.pointer (some ⟨b0,0,none⟩)):=D.g 0 Z;have a1:Rep (eSl (eInt .i64)) V U (Q 46) ([500,700,800,1000]:List Int):=D.g 1 Z;have e0:=J _ Z;rw [e0] at X Y ⊢;exact zHc call59 X Y O.av (fun s=>zCN (q78 Z) O.av a0 s a1))<|rm h0<|rc (zQ8 9 _ _ Z Z Z Z Z fun V Q U O D u S X I Y J L M hrt=>by have a0:Q 48=(.pointer (some ⟨b0,0,none⟩)):=D.g 0 Z;obtain rfl:=(Res.own_iff Z).1 I;have e0:=hrt 14 0 _ Z Z;rw [e0] at X Y ⊢;exact OpR.took (zHc call75 X Y O.av (fun s=>zF1 (q80 Z) O.av a0 s Z)) Z)<|rp (fun V Q U O D=>by have a0:Q 44=.int .i64 y49:=D.g 0 Z;have a1:Q 47=.int .i64 x77.1:=D.g 1 Z;have a2:Q 49=.bool x79.1:=D.g 2 Z;exact zDK (v:=.agg #[.int .i64 y49,.int .i64 x77.1,.bool x79.1]) (by simp [execOp,Instr.build,zAM,a0,a1,a2,underlying,underlying69,zeroValue69,sizeOf3,sizeOf4,go_sem,Instr.fill]) ⟨_,Z,zAy zAP (zAy zAP zDQ)⟩)<|rp (fun V Q U O D=>zCj [_] (E:=zA0) ⟨(D.g 0 Z),N⟩ underlying44 sizeOf69 zeroValue69 Z Z Z O.av)<|rc (zQ9 3 _ _ Z Z Z Z Z fun V Q U O D u S X I Y J L M=>by have a0:Q 43=h75:=D.g 0 Z;have a1:Rep (eSl zA0) V U (Q 51) ([(y49,x77.1,x79.1)]:List zAA):=D.g 1 Z;have e0:=(J _ Z).1;rw [e0] at I ⊢;exact zF0 ((zAJ I.2).ptr).bx (I.2.2 _ (.head _)) a0 Y I.1 (fun k hk=>Nat.le_trans (Nat.le_trans j.size O.ch.size) hk) (fun k hk=>SP.lt _ I.2 hk) a1 underlying44 zMz e81)<|rp (fun V Q U O D=>zAQ ((zAJ (q.own 3 _ Z).2).ptr).ad ((O.old 5 Z).trans h5) zDI sizeOf44 (by decide) (zCc ((zAJ (q.own 3 _ Z).2).ptr).ad))<|rc (zQ9 14 _ _ Z Z Z Z Z fun V Q U O D u S X I Y J L M=>by have a0:Q 53=u43:=D.g 0 Z;exact zEy I.2 (L _ _ Z Z Z Z).symm a0 Y I.1 sizeOf44 (fun _ _ _ h=>h))<|rz
 intro done ρ σ A R w y s
 obtain ⟨h0,h2,h3,h4,h5,h6⟩:=k6 s.rg h0 h2 h3 h4 h5 h6
 have z82:=s.inivR 0 Z
 have z83:=s.on y 9 5 Z Z Z Z Z z82
 have z84:=s.on y 11 7 Z Z Z Z Z z83
 have z85:=s.inivR 1 Z
 have z86:=s.inivR 2 Z
 obtain ⟨u87,e_u87⟩:∃ u,ρ 16=u:=⟨_,Z⟩
 have eS_u2:=s.inisR 1 Z
 have eS_u21:=s.inisR 2 Z
 obtain ⟨S88,eS_u43⟩:∃ S,σ 16=S:=⟨_,Z⟩
 replace B:=s.lowK B C K (q.geK (⟨.inr (fun k h=>.inr h),⟨fun _ h=>.inl h,⟨fun _ h=>.inl h,⟨fun _ h=>.inl h,N⟩⟩⟩⟩))
 replace j:Ch (zAH (.pointer (some ⟨b0,0,none⟩))) w0 w:=j.tr s.ch (q.geK (⟨.inr (fun k h=>.inr h),⟨fun _ h=>.inl h,⟨fun _ h=>.inl h,⟨fun _ h=>.inl h,N⟩⟩⟩⟩))
 replace q:=s.left y [(11,ob (.pointer (some ⟨b0,0,none⟩)) (.box B0 86 zA3 x79.2)),(1,⟨u2,S3,trR (geB w0.heap.size) (oPt 26 (oBx (oSl 63 (oBx (oSl 69 (oRd zA0)))))) ([]:List zA8) []⟩),(2,⟨u21,Sl_u21,trR (geB w0.heap.size) (oPt 26 (oBx (oSl 63 (oBx (oSl 69 (oRd zA0)))))) y38 []⟩),(16,⟨u87,S88,.gen (geB w0.heap.size) (fixP u43 (trP (oPt 63 (oBx (oSl 69 (oRd zA0)))) (y51++([(y49,x77.1,x79.1)]:List zAA)) []))⟩)] ⟨Z,Z,z84,Z,Z,⟨Z,Z,z85,eS_u2,Z,⟨Z,Z,z86,eS_u21,Z,⟨Z,Z,e_u87,eS_u43,Z,N⟩⟩⟩⟩
 replace d:=s.avok
 replace q:IniOK [ob (.pointer (some ⟨b0,0,none⟩)) (.box B0 86 zA3 x79.2),⟨u2,S3,trR (geB w0.heap.size) (oPt 26 (oBx (oSl 63 (oBx (oSl 69 (oRd zA0)))))) ([]:List zA8) []⟩,⟨u21,Sl_u21,trR (geB w0.heap.size) (oPt 26 (oBx (oSl 63 (oBx (oSl 69 (oRd zA0)))))) y38 []⟩,⟨u43,S88,trR (geB w0.heap.size) (oPt 63 (oBx (oSl 69 (oRd zA0)))) (y51++([(y49,x77.1,x79.1)]:List zAA)) []⟩] A w:=q.refix 3 Z
 obtain ⟨e89,c⟩:=zAC c
 refine zQ3 (eI y49::eI (y49+1)::eI (y49+1)::[]) ?_ ?_
 exact om h6<|op (fun Q U W H D=>zAi (D.g 0 Z) Z e89)<|oa<|oz
 intro R w m n p
 obtain ⟨h0,h2,h3,h4,h5⟩:=k5 n h0 h2 h3 h4 h5
 have h6:=p.r 2 Z
 replace q:=q.fr m
 replace d:=d.fr m.size
 replace j:=j.tr (m.ch noB) fun _ h=>False.elim h
 exact ei k (And.intro (Nat.lt_succ_self k) ⟨_,_,_,_,S88,c,d,j,B,q,h0,h2,h3,h4,h5,h6⟩)
 have c:=zAg c74 c
 refine HT.skip ?_
 obtain ⟨e90,c⟩:=zAC c
 refine zQ3 (eI y49::eI (y49+1)::eI (y49+1)::[]) ?_ ?_
 exact om h6<|op (fun Q U W H D=>zAi (D.g 0 Z) Z e90)<|oa<|oz
 intro R w m n p
 obtain ⟨h0,h2,h3,h4,h5⟩:=k5 n h0 h2 h3 h4 h5
 have h6:=p.r 2 Z
 replace q:=q.fr m
 replace d:=d.fr m.size
 replace j:=j.tr (m.ch noB) fun _ h=>False.elim h
 exact ei k (And.intro (Nat.lt_succ_self k) ⟨_,_,_,_,Sl_u43,c,d,j,B,q,h0,h2,h3,h4,h5,h6⟩)
 have c:=zAg c59 c
 refine SG.skip 29 4 28 true Z Z Z Z (h28.trans (congrArg Value.bool c59)) Z Z ?_
 rintro R n hd
 have hst:Stp A A w w:=(Fr.refl w).stp A
 replace h0:=(n 0 Z).trans h0
 replace h2:=(n 2 Z).trans h2
 replace h3:=(n 3 Z).trans h3
 replace h4:=(n 4 Z).trans h4
 replace h5:=(n 5 Z).trans h5
 replace h6:=(n 6 Z).trans h6
 replace h28:=(n 28 Z).trans h28
 have h29:R 29=undef:=hd
 clear n hd hst
 refine SG.skip 30 4 28 true Z Z Z Z (h28.trans (congrArg Value.bool c59)) Z Z ?_
 rintro R n hd
 have hst:Stp A A w w:=(Fr.refl w).stp A
 replace h0:=(n 0 Z).trans h0
 replace h2:=(n 2 Z).trans h2
 replace h3:=(n 3 Z).trans h3
 replace h4:=(n 4 Z).trans h4
 replace h5:=(n 5 Z).trans h5
 replace h6:=(n 6 Z).trans h6
 replace h28:=(n 28 Z).trans h28
 replace h29:=(n 29 Z).trans h29
 have h30:R 30=undef:=hd
 clear n hd hst
 refine SG.skip 31 4 28 true Z Z Z Z (h28.trans (congrArg Value.bool c59)) Z Z ?_
 rintro R n hd
 have hst:Stp A A w w:=(Fr.refl w).stp A
 replace h0:=(n 0 Z).trans h0
 replace h2:=(n 2 Z).trans h2
 replace h3:=(n 3 Z).trans h3
 replace h4:=(n 4 Z).trans h4
 replace h5:=(n 5 Z).trans h5
 replace h6:=(n 6 Z).trans h6
 replace h28:=(n 28 Z).trans h28
 replace h30:=(n 30 Z).trans h30
 have h31:R 31=undef:=hd
 clear n hd hst
 refine zQC 32 7 31 false Z Z Z Z h31 Z Z ?_
 rintro R n hd
 have hst:Stp A A w w:=(Fr.refl w).stp A
 replace h0:=(n 0 Z).trans h0
 replace h2:=(n 2 Z).trans h2
 replace h3:=(n 3 Z).trans h3
 replace h4:=(n 4 Z).trans h4
 replace h5:=(n 5 Z).trans h5
 replace h6:=(n 6 Z).trans h6
 replace h28:=(n 28 Z).trans h28
 replace h31:=(n 31 Z).trans h31
 have h32:R 32=undef:=hd
 clear n hd hst
 refine zQC 33 7 31 false Z Z Z Z h31 Z Z ?_
 rintro R n hd
 have hst:Stp A A w w:=(Fr.refl w).stp A
 replace h0:=(n 0 Z).trans h0
 replace h2:=(n 2 Z).trans h2
 replace h3:=(n 3 Z).trans h3
 replace h4:=(n 4 Z).trans h4
 replace h5:=(n 5 Z).trans h5
 replace h6:=(n 6 Z).trans h6
 replace h28:=(n 28 Z).trans h28
 replace h31:=(n 31 Z).trans h31
 replace h32:=(n 32 Z).trans h32
 have h33:R 33=undef:=hd
 clear n hd hst
 refine zQC 34 7 31 false Z Z Z Z h31 Z Z ?_
 rintro R n hd
 have hst:Stp A A w w:=(Fr.refl w).stp A
 replace h0:=(n 0 Z).trans h0
 replace h2:=(n 2 Z).trans h2
 replace h3:=(n 3 Z).trans h3
 replace h4:=(n 4 Z).trans h4
 replace h5:=(n 5 Z).trans h5
 replace h6:=(n 6 Z).trans h6
 replace h28:=(n 28 Z).trans h28
 replace h31:=(n 31 Z).trans h31
 replace h33:=(n 33 Z).trans h33
 have h34:R 34=undef:=hd
 clear n hd hst
 refine zQC 35 10 34 true Z Z Z Z h34 Z Z ?_
 rintro R n hd
 have hst:Stp A A w w:=(Fr.refl w).stp A
 replace h0:=(n 0 Z).trans h0
 replace h2:=(n 2 Z).trans h2
 replace h3:=(n 3 Z).trans h3
 replace h4:=(n 4 Z).trans h4
 replace h5:=(n 5 Z).trans h5
 replace h6:=(n 6 Z).trans h6
 replace h28:=(n 28 Z).trans h28
 replace h31:=(n 31 Z).trans h31
 replace h34:=(n 34 Z).trans h34
 have h35:R 35=undef:=hd
 clear n hd hst
 refine zQC 36 10 34 true Z Z Z Z h34 Z Z ?_
 rintro R n hd
 have hst:Stp A A w w:=(Fr.refl w).stp A
 replace h0:=(n 0 Z).trans h0
 replace h2:=(n 2 Z).trans h2
 replace h3:=(n 3 Z).trans h3
 replace h4:=(n 4 Z).trans h4
 replace h5:=(n 5 Z).trans h5
 replace h6:=(n 6 Z).trans h6
 replace h28:=(n 28 Z).trans h28
 replace h31:=(n 31 Z).trans h31
 replace h34:=(n 34 Z).trans h34
 replace h35:=(n 35 Z).trans h35
 have h36:R 36=undef:=hd
 clear n hd hst
 refine zQC 37 10 34 true Z Z Z Z h34 Z Z ?_
 rintro R n hd
 have hst:Stp A A w w:=(Fr.refl w).stp A
 replace h0:=(n 0 Z).trans h0
 replace h2:=(n 2 Z).trans h2
 replace h3:=(n 3 Z).trans h3
 replace h4:=(n 4 Z).trans h4
 replace h5:=(n 5 Z).trans h5
 replace h6:=(n 6 Z).trans h6
 replace h28:=(n 28 Z).trans h28
 replace h31:=(n 31 Z).trans h31
 replace h34:=(n 34 Z).trans h34
 replace h36:=(n 36 Z).trans h36
 have h37:R 37=undef:=hd
 clear n hd hst
 refine zQC 38 10 34 true Z Z Z Z h34 Z Z ?_
 rintro R n hd
 have hst:Stp A A w w:=(Fr.refl w).stp A
 replace h0:=(n 0 Z).trans h0
 replace h2:=(n 2 Z).trans h2
 replace h3:=(n 3 Z).trans h3
 replace h4:=(n 4 Z).trans h4
 replace h5:=(n 5 Z).trans h5
 replace h6:=(n 6 Z).trans h6
 replace h28:=(n 28 Z).trans h28
 replace h31:=(n 31 Z).trans h31
 replace h34:=(n 34 Z).trans h34
 replace h37:=(n 37 Z).trans h37
 have h38:R 38=undef:=hd
 clear n hd hst
 refine zQC 39 7 31 false Z Z Z Z h31 Z Z ?_
 rintro R n hd
 have hst:Stp A A w w:=(Fr.refl w).stp A
 replace h0:=(n 0 Z).trans h0
 replace h2:=(n 2 Z).trans h2
 replace h3:=(n 3 Z).trans h3
 replace h4:=(n 4 Z).trans h4
 replace h5:=(n 5 Z).trans h5
 replace h6:=(n 6 Z).trans h6
 replace h28:=(n 28 Z).trans h28
 replace h31:=(n 31 Z).trans h31
 replace h34:=(n 34 Z).trans h34
 replace h38:=(n 38 Z).trans h38
 have h39:R 39=undef:=hd
 clear n hd hst
 refine SG.skip 40 4 28 true Z Z Z Z (h28.trans (congrArg Value.bool c59)) Z Z ?_
 rintro R n hd
 have hst:Stp A A w w:=(Fr.refl w).stp A
 replace h0:=(n 0 Z).trans h0
 replace h2:=(n 2 Z).trans h2
 replace h3:=(n 3 Z).trans h3
 replace h4:=(n 4 Z).trans h4
 replace h5:=(n 5 Z).trans h5
 replace h6:=(n 6 Z).trans h6
 replace h28:=(n 28 Z).trans h28
 replace h31:=(n 31 Z).trans h31
 replace h39:=(n 39 Z).trans h39
 have h40:R 40=undef:=hd
 clear n hd hst
 refine SG.textR [ob (.pointer (some ⟨b0,0,none⟩)) (.box B0 86 zA3 y50),⟨u2,S3,trR (geB w0.heap.size) (oPt 26 (oBx (oSl 63 (oBx (oSl 69 (oRd zA0)))))) ([]:List zA8) []⟩,⟨u21,Sl_u21,trR (geB w0.heap.size) (oPt 26 (oBx (oSl 63 (oBx (oSl 69 (oRd zA0)))))) y38 []⟩,⟨u43,Sl_u43,trR (geB w0.heap.size) (oPt 63 (oBx (oSl 69 (oRd zA0)))) y51 []⟩] (rA::rA::rA::rA::rB (decide ((y51.length:Int)<3))::rA::rA::rR undef::rA::rA::rA::rA::rA::rA::rA::rR undef::rR undef::rB false::[]) 18 Z Z Z (by kernel_rfl) (by kernel_rfl) (Wf.mk' (by kernel_rfl) (ua (ua (ua (ua (ur (ua (ua (ur (ua (ua (ua (ua (ua (ua (ua (ur (ur (ur (UAll.nil))))))))))))))))))) (by kernel_rfl) (by kernel_rfl)) q d (⟨⟨Z,Z,Z,N⟩,⟨⟨Z,Z,Z,N⟩,⟨⟨Z,Z,Z,N⟩,⟨⟨Z,Z,Z,N⟩,⟨⟨Z,Z,Z,h28⟩,⟨⟨Z,Z,Z,N⟩,⟨⟨Z,Z,Z,N⟩,⟨⟨Z,Z,Z,h31⟩,⟨⟨Z,Z,Z,N⟩,⟨⟨Z,Z,Z,N⟩,⟨⟨Z,Z,Z,N⟩,⟨⟨Z,Z,Z,N⟩,⟨⟨Z,Z,Z,N⟩,⟨⟨Z,Z,Z,N⟩,⟨⟨Z,Z,Z,N⟩,⟨⟨Z,Z,Z,h39⟩,⟨⟨Z,Z,Z,h40⟩,N⟩⟩⟩⟩⟩⟩⟩⟩⟩⟩⟩⟩⟩⟩⟩⟩⟩) ?_ ?_
 exact rp (fun V Q U O D=>zAl (decide ((y51.length:Int)<3)) (D.g 0 Z) (fun hc=>by rw [c59] at hc;cases hc) (fun hc=>Z))<|rz
 intro done ρ σ A R w y s
 obtain ⟨h0,h2,h3,h4,h5,h6⟩:=k6 s.rg h0 h2 h3 h4 h5 h6
 have z91:=s.inivR 0 Z
 have z92:=s.inivR 1 Z
 have z93:=s.inivR 2 Z
 have z94:=s.inivR 3 Z
 have eS_u2:=s.inisR 1 Z
 have eS_u21:=s.inisR 2 Z
 have eS_u43:=s.inisR 3 Z
 have h41:=s.r y 17 Z
 replace B:=s.lowK B C K (q.geK (⟨.inr (fun k h=>.inr h),⟨fun _ h=>.inl h,⟨fun _ h=>.inl h,⟨fun _ h=>.inl h,N⟩⟩⟩⟩))
 replace j:Ch (zAH (.pointer (some ⟨b0,0,none⟩))) w0 w:=j.tr s.ch (q.geK (⟨.inr (fun k h=>.inr h),⟨fun _ h=>.inl h,⟨fun _ h=>.inl h,⟨fun _ h=>.inl h,N⟩⟩⟩⟩))
 replace q:=s.left y [(0,ob (.pointer (some ⟨b0,0,none⟩)) (.box B0 86 zA3 y50)),(1,⟨u2,S3,trR (geB w0.heap.size) (oPt 26 (oBx (oSl 63 (oBx (oSl 69 (oRd zA0)))))) ([]:List zA8) []⟩),(2,⟨u21,Sl_u21,trR (geB w0.heap.size) (oPt 26 (oBx (oSl 63 (oBx (oSl 69 (oRd zA0)))))) y38 []⟩),(3,⟨u43,Sl_u43,trR (geB w0.heap.size) (oPt 63 (oBx (oSl 69 (oRd zA0)))) y51 []⟩)] ⟨Z,Z,z91,Z,Z,⟨Z,Z,z92,eS_u2,Z,⟨Z,Z,z93,eS_u21,Z,⟨Z,Z,z94,eS_u43,Z,N⟩⟩⟩⟩
 replace d:=s.avok
 refine zQA Z ?_
 refine zPt false h41 (fun k_=>(by cases k_)) (fun _=>?_)
 refine HT.skip ?_
 obtain ⟨e96,c⟩:=zAC c
 refine zQ3 (eI y49::eI (y49+1)::eI (y49+1)::[]) ?_ ?_
 exact om h6<|op (fun Q U W H D=>zAi (D.g 0 Z) Z e96)<|oa<|oz
 intro R w m n p
 obtain ⟨h0,h2,h3,h4,h5⟩:=k5 n h0 h2 h3 h4 h5
 have h6:=p.r 2 Z
 replace q:=q.fr m
 replace d:=d.fr m.size
 replace j:=j.tr (m.ch noB) fun _ h=>False.elim h
 exact ei k (And.intro (Nat.lt_succ_self k) ⟨_,_,_,_,Sl_u43,c,d,j,B,q,h0,h2,h3,h4,h5,h6⟩)
 have c:=zAg c52 c
 refine zPy ?_
 obtain rfl:=si c
 exact ei _ ⟨_,Sl_u43,Z,d,j,B,q,h0,h2,h3,h4,h5⟩
 rintro R w ⟨A,s48,So_u43,es,d,j,B,q,h0,h2,h3,h4,h5⟩
 obtain rfl:=es.symm
 obtain ⟨h97,p_h97⟩:=(((zAJ (q.own 2 _ Z).2).ptr).bx).open1 Z
 replace q:IniOK [ob (.pointer (some ⟨b0,0,none⟩)) (.box B0 86 zA3 s48.1),⟨u2,S3,trR (geB w0.heap.size) (oPt 26 (oBx (oSl 63 (oBx (oSl 69 (oRd zA0)))))) ([]:List zA8) []⟩,⟨u21,Sl_u21,trR (geB w0.heap.size) (oPt 26 (oBx (oSl 63 (oBx (oSl 69 (oRd zA0)))))) y38 [(u21,[h97])]⟩,⟨u43,So_u43,trR (geB w0.heap.size) (oPt 63 (oBx (oSl 69 (oRd zA0)))) s48.2 []⟩] A w:=q.repin 2 Z (trP.pin p_h97)
 obtain ⟨e99,c⟩:=zAC c
 refine zQ5 [ob (.pointer (some ⟨b0,0,none⟩)) (.box B0 86 zA3 s48.1),⟨u2,S3,trR (geB w0.heap.size) (oPt 26 (oBx (oSl 63 (oBx (oSl 69 (oRd zA0)))))) ([]:List zA8) []⟩,⟨u21,Sl_u21,trR (geB w0.heap.size) (oPt 26 (oBx (oSl 63 (oBx (oSl 69 (oRd zA0)))))) y38 [(u21,[h97])]⟩,⟨u43,So_u43,trR (geB w0.heap.size) (oPt 63 (oBx (oSl 69 (oRd zA0)))) s48.2 []⟩] (rR u21::rR h97::⟨_,true,[3],some (trR (geB w0.heap.size) (oBx (oSl 69 (oRd zA0))) s48.2 []),true,fun A=>.any⟩::⟨_,true,[6],some (trR (geB w0.heap.size) (oSl 63 (oBx (oSl 69 (oRd zA0)))) ([s48.2]:List zA8) []),true,fun A=>.any⟩::⟨_,true,[2,7],some (.gen (geB w0.heap.size) (pdP (oSl 63 (oBx (oSl 69 (oRd zA0)))) u21 (fun z A w S=>(trP (oPt 26 (oBx (oSl 63 (oBx (oSl 69 (oRd zA0)))))) z []).P A w S u21) (y38 ++ [s48.2]))),true,fun A=>.any⟩::rR u21::⟨_,true,[8],some (.gen (geB w0.heap.size) (fixP u21 (trP (oPt 26 (oBx (oSl 63 (oBx (oSl 69 (oRd zA0)))))) (y38 ++ [s48.2]) []))),false,fun A=>.any⟩::[]) (ur (ur (ua (ua (ua (ur (ua (UAll.nil)))))))) q d ?_ ?_
 exact rp (fun V Q U O D=>zAQ ((zAJ (q.own 2 _ Z).2).ptr).ad ((O.old 3 Z).trans h3) zCh sizeOf24 (by decide) (zCc ((zAJ (q.own 2 _ Z).2).ptr).ad))<|rp (fun V Q U O D=>zBX ((O.rdo 2 _ Z Z).2.2 _ (.head _)) (D.g 0 Z) isAgg24 sizeOf24)<|rc (zQ9 3 _ _ Z Z Z Z Z fun V Q U O D u S X I Y J L M=>by have a0:Q 5=u43:=(O.old 5 Z).trans h5;exact zFj I.2 (a0.trans (J _ Z).1.symm) Y I.1 isAgg63 sizeOf63)<|rc (zQ9 6 _ _ Z Z Z Z Z fun V Q U O D u S X I Y J L M=>by exact zGx I.2 (L _ _ Z Z Z Z).symm Y I.1 (fun k hk=>Nat.le_trans (Nat.le_trans j.size O.ch.size) hk) underlying24 sizeOf63 zeroValue63 (by decide))<|rc (zQ7 2 [7] _ Z Z Z Z fun V Q U O D ρ σ X Y J L M hdd=>by have a0:Q 55=h97:=D.g 0 Z;have k1:=X 2 (.head _) _ Z;have e0:=(J 2 (.head _) _ Z).1;rw [e0] at k1 ⊢;exact zFr Z ((zAJ k1.2.2).ptr).bx (k1.2.2.2 _ (.head _)) a0 (trP.nopin (X 7 (.tail _ (.head _)) _ Z).2.2) (L 7 (.tail _ (.head _)) _ _ Z Z Z Z).symm Y hdd k1.2.1 (X 7 (.tail _ (.head _)) _ Z).2.1 (fun k hk=>Nat.le_trans (Nat.le_trans j.size O.ch.size) hk) (fun k hk=>SP.lt _ k1.2.2 hk) underlying24 zOO e99)<|rp (fun V Q U O D=>zAQ ((zAJ (q.own 2 _ Z).2).ptr).ad ((O.old 3 Z).trans h3) zCh sizeOf24 (by decide) (zCc ((zAJ (q.own 2 _ Z).2).ptr).ad))<|rc (zQ9 8 _ _ Z Z Z Z Z fun V Q U O D u S X I Y J L M=>by have a0:Q 59=u21:=D.g 0 Z;exact zEy I.2 (L _ _ Z Z Z Z).symm a0 Y I.1 sizeOf24 (fun _ _ _ h=>h))<|rz
 intro done ρ σ A R w y s
 obtain ⟨h0,h2,h3,h4⟩:=k4 s.rg h0 h2 h3 h4
 have z100:=s.inivR 0 Z
 have z101:=s.inivR 1 Z
 obtain ⟨u102,e_u102⟩:∃ u,ρ 10=u:=⟨_,Z⟩
 have eS_u2:=s.inisR 1 Z
 obtain ⟨S103,eS_u21⟩:∃ S,σ 10=S:=⟨_,Z⟩
 replace B:=s.lowK B C K (q.geK (⟨.inr (fun k h=>.inr h),⟨fun _ h=>.inl h,⟨fun _ h=>.inl h,⟨fun _ h=>.inl h,N⟩⟩⟩⟩))
 replace j:Ch (zAH (.pointer (some ⟨b0,0,none⟩))) w0 w:=j.tr s.ch (q.geK (⟨.inr (fun k h=>.inr h),⟨fun _ h=>.inl h,⟨fun _ h=>.inl h,⟨fun _ h=>.inl h,N⟩⟩⟩⟩))
 replace q:=s.left y [(0,ob (.pointer (some ⟨b0,0,none⟩)) (.box B0 86 zA3 s48.1)),(1,⟨u2,S3,trR (geB w0.heap.size) (oPt 26 (oBx (oSl 63 (oBx (oSl 69 (oRd zA0)))))) ([]:List zA8) []⟩),(10,⟨u102,S103,.gen (geB w0.heap.size) (fixP u21 (trP (oPt 26 (oBx (oSl 63 (oBx (oSl 69 (oRd zA0)))))) (y38 ++ [s48.2]) []))⟩)] ⟨Z,Z,z100,Z,Z,⟨Z,Z,z101,eS_u2,Z,⟨Z,Z,e_u102,eS_u21,Z,N⟩⟩⟩
 replace d:=s.avok
 replace q:IniOK [ob (.pointer (some ⟨b0,0,none⟩)) (.box B0 86 zA3 s48.1),⟨u2,S3,trR (geB w0.heap.size) (oPt 26 (oBx (oSl 63 (oBx (oSl 69 (oRd zA0)))))) ([]:List zA8) []⟩,⟨u21,S103,trR (geB w0.heap.size) (oPt 26 (oBx (oSl 63 (oBx (oSl 69 (oRd zA0)))))) (y38 ++ [s48.2]) []⟩] A w:=q.refix 2 Z
 obtain ⟨e104,c⟩:=zAC c
 refine zQ3 (eI y36::eI (y36-1)::eI (y36-1)::[]) ?_ ?_
 exact om h4<|op (fun Q U W H D=>zGm (D.g 0 Z) Z e104)<|oa<|oz
 intro R w m n p
 obtain ⟨h0,h2,h3⟩:=k3 n h0 h2 h3
 have h4:=p.r 2 Z
 replace q:=q.fr m
 replace d:=d.fr m.size
 replace j:=j.tr (m.ch noB) fun _ h=>False.elim h
 exact ei k (And.intro (Nat.lt_succ_self k) ⟨_,_,_,_,S103,c,d,j,B,q,h0,h2,h3,h4⟩)
 have c:=zAg c39 c
 refine zPy ?_
 obtain rfl:=si c
 exact ei _ ⟨_,Sl_u21,Z,d,j,B,q,h2,h3⟩
 rintro R w ⟨A,s35,So_u21,es,d,j,B,q,h2,h3⟩
 obtain rfl:=es.symm
 refine zQ2 [ob (.pointer (some ⟨b0,0,none⟩)) (.box B0 86 zA3 s35.1),⟨u2,S3,trR (geB w0.heap.size) (oPt 26 (oBx (oSl 63 (oBx (oSl 69 (oRd zA0)))))) ([]:List zA8) []⟩,⟨u21,So_u21,trR (geB w0.heap.size) (oPt 26 (oBx (oSl 63 (oBx (oSl 69 (oRd zA0)))))) s35.2 []⟩] (⟨_,true,[2],some (trR (geB w0.heap.size) (oBx (oSl 63 (oBx (oSl 69 (oRd zA0))))) s35.2 []),true,fun A=>.any⟩::⟨_,true,[1,3],some (trR (geB w0.heap.size) (oPt 26 (oBx (oSl 63 (oBx (oSl 69 (oRd zA0)))))) s35.2 []),false,fun A=>.any⟩::[]) (ua (ua (UAll.nil))) q d ?_ ?_
 exact rc (zQ9 2 _ _ Z Z Z Z Z fun V Q U O D u S X I Y J L M=>by have a0:Q 3=u21:=(O.old 3 Z).trans h3;exact zFj I.2 (a0.trans (J _ Z).1.symm) Y I.1 isAgg26 sizeOf26)<|rc (zQ7 1 [3] _ Z Z Z Z fun V Q U O D ρ σ X Y J L M hdd=>by have a0:Q 2=u2:=(O.old 2 Z).trans h2;have k1:=X 1 (.head _) _ Z;have e0:=(J 1 (.head _) _ Z).1;rw [e0] at k1 ⊢;exact zCz Z (zAJ k1.2.2).ptr (X 3 (.tail _ (.head _)) _ Z).2.2.1 (L 3 (.tail _ (.head _)) _ _ Z Z Z Z).symm a0 Y hdd k1.2.1 (X 3 (.tail _ (.head _)) _ Z).2.1 sizeOf26 (fun _ _ _ h=>h))<|rz
 intro done ρ σ A R w y s
 replace h2:=k1 s.rg h2
 have z105:=s.inivR 0 Z
 have z106:=s.inivR 1 Z
 have z107:=s.on y 4 1 Z Z Z Z Z z106
 obtain ⟨S108,eS_u2⟩:∃ S,σ 4=S:=⟨_,Z⟩
 replace B:=s.lowK B C K (q.geK (⟨.inr (fun k h=>.inr h),⟨fun _ h=>.inl h,⟨fun _ h=>.inl h,N⟩⟩⟩))
 replace j:Ch (zAH (.pointer (some ⟨b0,0,none⟩))) w0 w:=j.tr s.ch (q.geK (⟨.inr (fun k h=>.inr h),⟨fun _ h=>.inl h,⟨fun _ h=>.inl h,N⟩⟩⟩))
 replace q:=s.left y [(0,ob (.pointer (some ⟨b0,0,none⟩)) (.box B0 86 zA3 s35.1)),(4,⟨u2,S108,trR (geB w0.heap.size) (oPt 26 (oBx (oSl 63 (oBx (oSl 69 (oRd zA0)))))) s35.2 []⟩)] ⟨Z,Z,z105,Z,Z,⟨Z,Z,z107,eS_u2,Z,N⟩⟩
 replace d:=s.avok
 refine HT.ret ?_
 obtain rfl:=si c
 obtain ⟨v_2,S_2,e_2,q⟩:=q.unbox 1 Z h2 isAgg26 sizeOf26
 obtain ⟨A1,hA1,hG1⟩:=GPost.of q d B (q.geK (⟨.inr (fun k h=>.inr h),⟨fun _ h=>.inl h,N⟩⟩)) j
 exact ⟨.inr Z,[v_2],⟨e_2,N⟩,v_2,S_2,A1,hG1,Z⟩
def zEd (fu:Nat) (p0:zAK):Option (zAD × zAK):=
 cl true (zDe fu p0) fun x5=>
 cl true (zBh fu x5.2 14) fun x17=>
 bif (x17.1==0) then (
 ck (inR 0 x5.1.length) <|
 cl true (zBr fu x17.2 ([(-1),5,6]:List Int)) fun x25=>
 ck (inR 0 (gtD x5.1 0).length) <|
 some ((x5.1.set (0:Int).toNat ((gtD x5.1 0).set (0:Int).toNat (x25.1,(gtD (gtD x5.1 0) 0).2.1,(gtD (gtD x5.1 0) 0).2.2))),x25.2)
 ) else (
 bif (x17.1==1) then (
 ck (inR 0 x5.1.length) <|
 cl true (zBr fu x17.2 ([0,1,1001]:List Int)) fun x44=>
 ck (inR 0 (gtD x5.1 0).length) <|
 some ((x5.1.set (0:Int).toNat ((gtD x5.1 0).set (0:Int).toNat ((gtD (gtD x5.1 0) 0).1,x44.1,(gtD (gtD x5.1 0) 0).2.2))),x44.2)
 ) else (
 bif (x17.1==2) then (
 ck (zBu (x5.1.length+1)) <|
 some ((x5.1 ++ [([]:List zAA)]),x17.2)
 ) else (
 some (x5.1,x17.2)
 )
 )
 )
set_option linter.unusedSimpArgs false in
theorem zHn {fu : Nat} {Aq : Av} {p0 : zAK} {r : zAD × zAK} (c : zEd fu p0 = some r) {w : World} {v0 : Value} {b0 B0 : Nat} (d : AvOK Aq w) (h0 : v0=.pointer (some ⟨b0, 0, none⟩)) (hO0 : IniOK [ob (.pointer (some ⟨b0, 0, none⟩)) (.box B0 86 zA3 p0)] Aq w) :
 Calls prog 23 #[v0] w fun e w'=>∃ v,e=.returned v/\(∃ (A1:Av),GPost (subS Aq (zAH (.pointer (some ⟨b0,0,none⟩)))) (zAH (.pointer (some ⟨b0,0,none⟩))) w [ob (.pointer (some ⟨b0,0,none⟩)) (.box B0 86 zA3 r.2)] A1 w'/\(Fact.rep zA2 A1 r.1).ok v w'):=by
 unfold zEd at c
 obtain ⟨w0,hw0⟩:∃ w0,w0=w:=⟨_,Z⟩
 have j:Ch (zAH (.pointer (some ⟨b0,0,none⟩))) w0 w:=hw0 ▸ Ch.refl _ _
 obtain ⟨A0,hA0e⟩:∃ A0,A0=subS Aq (zAH (.pointer (some ⟨b0,0,none⟩))):=⟨_,Z⟩
 have C:∀ b o,A0 b o->b<w0.heap.size:=fun b o h=>hw0 ▸ d b o (hA0e ▸ h:subS Aq _ b o).1
 have K:∀ b o,A0 b o->¬ (zAH (.pointer (some ⟨b0,0,none⟩))) b:=fun b o h=>(hA0e ▸ h:subS Aq _ b o).2
 have hA00:AvOK A0 w0:=C
 rw [show GPost (subS Aq (zAH (.pointer (some ⟨b0,0,none⟩)))) (zAH (.pointer (some ⟨b0,0,none⟩))) w=GPost A0 (zAH (.pointer (some ⟨b0,0,none⟩))) w0 from by rw [hA0e,hw0]]
 obtain ⟨A,hAe⟩:∃ A,A=Aq:=⟨_,Z⟩
 have B:∀ b o,A0 b o->A b o:=fun b o h=>hAe ▸ (hA0e ▸ h:subS Aq _ b o).1
 replace d:AvOK A w:=hAe ▸ d
 have q:IniOK [ob (.pointer (some ⟨b0,0,none⟩)) (.box B0 86 zA3 p0)] A w:=hAe ▸ hO0
 clear hA0e hO0
 refine zAE [.cell 2 26] func23 ntmps23 (by decide) Z Z (nb Z) ?_
 intro R hR
 replace h0:R 0=.pointer (some ⟨b0,0,none⟩):=(hR 0 _ Z).trans h0
 refine zQ2 [ob (.pointer (some ⟨b0,0,none⟩)) (.box B0 86 zA3 p0)] (⟨_,true,[],some (.box w0.heap.size 26 zA2 ([]:List zA8)),true,fun A=>.any⟩::[]) (ua (UAll.nil)) q d ?_ ?_
 exact rc (OblR.made _ Z Z Z Z fun V Q U O D=>by exact zBP zeroValue26 (fun A w=>zEM) (Nat.le_trans j.size O.ch.size))<|rz
 intro done ρ σ A R w y s
 replace h0:=k1 s.rg h0
 have z1:=s.inivR 0 Z
 obtain ⟨b2_1,e_b2_1⟩:=s.boxv y 1 Z Z
 have h2:=s.ov y 1 0 e_b2_1
 replace B:=s.lowK B C K (q.geK (⟨.inr (fun k h=>.inr h),N⟩))
 replace j:Ch (zAH (.pointer (some ⟨b0,0,none⟩))) w0 w:=j.tr s.ch (q.geK (⟨.inr (fun k h=>.inr h),N⟩))
 replace q:=s.left y [(0,ob (.pointer (some ⟨b0,0,none⟩)) (.box B0 86 zA3 p0)),(1,ob (.pointer (some ⟨b2_1,0,none⟩)) (.box w0.heap.size 26 zA2 ([]:List zA8)))] ⟨Z,Z,z1,Z,Z,⟨Z,Z,e_b2_1,Z,Z,N⟩⟩
 replace d:=s.avok
 refine zQ0 ?_
 refine SG.of<|SG.textR [ob (.pointer (some ⟨b0,0,none⟩)) (.box B0 86 zA3 p0),ob (.pointer (some ⟨b2_1,0,none⟩)) (.box w0.heap.size 26 zA2 ([]:List zA8))] (rR (.pointer (some ⟨b0,0,none⟩))::[]) 1 Z Z Z (by kernel_rfl) (by kernel_rfl) (Wf.mk' (by kernel_rfl) (ur (UAll.nil)) (by kernel_rfl) (by kernel_rfl)) q d (N) ?_ ?_
 exact rm h0<|rz
 intro done ρ σ A R w y s
 obtain ⟨h0,h2⟩:=k2 s.rg h0 h2
 have z3:=s.inivR 0 Z
 have z4:=s.inivR 1 Z
 have h4:=s.r y 0 Z
 replace B:=s.lowK B C K (q.geK (⟨.inr (fun k h=>.inr h),⟨.inl Z,N⟩⟩))
 replace j:Ch (zAH (.pointer (some ⟨b0,0,none⟩))) w0 w:=j.tr s.ch (q.geK (⟨.inr (fun k h=>.inr h),⟨.inl Z,N⟩⟩))
 replace q:=s.left y [(0,ob (.pointer (some ⟨b0,0,none⟩)) (.box B0 86 zA3 p0)),(1,ob (.pointer (some ⟨b2_1,0,none⟩)) (.box w0.heap.size 26 zA2 ([]:List zA8)))] ⟨Z,Z,z3,Z,Z,⟨Z,Z,z4,Z,Z,N⟩⟩
 replace d:=s.avok
 obtain ⟨x5,q6,c⟩:=zAB c
 have hFz:w0.heap.size<=w.heap.size:=j.size
 refine zQB 5 Z Z Z Z (zBg call57 (zFV (q6 Z) d h4 (q.sub [(0,ob (.pointer (some ⟨b0,0,none⟩)) (.box B0 86 zA3 p0))] ⟨Z,Z,N⟩))) ?_
 rintro v_ w ⟨u7,S8,A,hG1,hv⟩ R n hd
 have hst:=zC1 d hG1 (q.ok 0 _ Z).2
 replace B:∀ b o,A0 b o->A b o:=zCE B C K (q.geK (⟨.inr (fun k h=>.inr h),⟨.inl Z,N⟩⟩)) 0 Z hG1
 replace j:Ch (zAH (.pointer (some ⟨b0,0,none⟩))) w0 w:=j.tr hG1.ch (fun k hk=>(q.geK (⟨.inr (fun k h=>.inr h),⟨.inl Z,N⟩⟩)) k ⟨0,_,Z,hk⟩)
 replace q:=zPs q d 0 Z hG1
 replace d:=hG1.avok
 replace q:=q.reK (K':=geB w0.heap.size) 1 Z (fun k hk=>Nat.le_trans hFz hk)
 replace q:IniOK [ob (.pointer (some ⟨b0,0,none⟩)) (.box B0 86 zA3 x5.2),⟨u7,S8,trR (geB w0.heap.size) (oBx (oSl 63 (oBx (oSl 69 (oRd zA0))))) x5.1 []⟩,ob (.pointer (some ⟨b2_1,0,none⟩)) (.box w0.heap.size 26 zA2 ([]:List zA8))] A w:=q
 replace h0:=(n 0 Z).trans h0
 replace h2:=(n 2 Z).trans h2
 replace h4:=(n 4 Z).trans h4
 have h5:R 5=u7:=hd.trans hv
 clear hFz hG1 hv n hd
 refine SG.textR [ob (.pointer (some ⟨b0,0,none⟩)) (.box B0 86 zA3 x5.2),⟨u7,S8,trR (geB w0.heap.size) (oBx (oSl 63 (oBx (oSl 69 (oRd zA0))))) x5.1 []⟩,ob (.pointer (some ⟨b2_1,0,none⟩)) (.box w0.heap.size 26 zA2 ([]:List zA8))] (rR (.pointer (some ⟨b0,0,none⟩))::rR u7::⟨_,true,[],some (trR (geB w0.heap.size) (oPt 26 (oBx (oSl 63 (oBx (oSl 69 (oRd zA0)))))) ([]:List zA8) []),true,fun A=>.any⟩::⟨_,true,[5,1],some (trR (geB w0.heap.size) (oPt 26 (oBx (oSl 63 (oBx (oSl 69 (oRd zA0)))))) x5.1 []),false,fun A=>.any⟩::[]) 4 Z Z Z (by kernel_rfl) (by kernel_rfl) (Wf.mk' (by kernel_rfl) (ur (ur (ua (ua (UAll.nil))))) (by kernel_rfl) (by kernel_rfl)) q d (⟨⟨Z,Z,Z,h4⟩,⟨⟨Z,Z,Z,h5⟩,N⟩⟩) ?_ ?_
 exact rc (zQ6 _ Z Z Z Z fun V Q U O D=>by exact zCp zeroValue26 (fun A w=>zDF) (fun k hk=>Nat.le_trans (Nat.le_trans j.size O.ch.size) hk))<|rc (zQ7 5 [1] _ Z Z Z Z fun V Q U O D ρ σ X Y J L M hdd=>by have a1:Q 5=u7:=D.g 1 Z;have k1:=X 5 (.head _) _ Z;exact zCz Z (zAJ k1.2.2).ptr (X 1 (.tail _ (.head _)) _ Z).2.2.1 (a1.trans (J 1 (.tail _ (.head _)) _ Z).1.symm) (L 5 (.head _) _ _ Z Z Z Z).symm Y hdd k1.2.1 (X 1 (.tail _ (.head _)) _ Z).2.1 sizeOf26 (fun _ _ _ h=>h))<|rz
 intro done ρ σ A R w y s
 obtain ⟨h0,h2⟩:=k2 s.rg h0 h2
 have z9:=s.inivR 0 Z
 have z10:=s.inivR 2 Z
 obtain ⟨u11,e_u11⟩:∃ u,ρ 6=u:=⟨_,Z⟩
 have z12:=(s.opnR y 6 3 Z Z Z Z Z).symm.trans e_u11
 have h3:=s.ov y 5 2 z12
 obtain ⟨S13,eS_u11⟩:∃ S,σ 6=S:=⟨_,Z⟩
 replace B:=s.lowK B C K (q.geK (⟨.inr (fun k h=>.inr h),⟨fun _ h=>.inl h,⟨.inl Z,N⟩⟩⟩))
 replace j:Ch (zAH (.pointer (some ⟨b0,0,none⟩))) w0 w:=j.tr s.ch (q.geK (⟨.inr (fun k h=>.inr h),⟨fun _ h=>.inl h,⟨.inl Z,N⟩⟩⟩))
 replace q:=s.left y [(0,ob (.pointer (some ⟨b0,0,none⟩)) (.box B0 86 zA3 x5.2)),(2,ob (.pointer (some ⟨b2_1,0,none⟩)) (.box w0.heap.size 26 zA2 ([]:List zA8))),(6,⟨u11,S13,trR (geB w0.heap.size) (oPt 26 (oBx (oSl 63 (oBx (oSl 69 (oRd zA0)))))) x5.1 []⟩)] ⟨Z,Z,z9,Z,Z,⟨Z,Z,z10,Z,Z,⟨Z,Z,e_u11,eS_u11,Z,N⟩⟩⟩
 replace d:=s.avok
 refine zQA Z ?_
 refine zQ0 ?_
 refine zQ0 ?_
 refine SG.of<|SG.textR [ob (.pointer (some ⟨b0,0,none⟩)) (.box B0 86 zA3 x5.2),ob (.pointer (some ⟨b2_1,0,none⟩)) (.box w0.heap.size 26 zA2 ([]:List zA8)),⟨u11,S13,trR (geB w0.heap.size) (oPt 26 (oBx (oSl 63 (oBx (oSl 69 (oRd zA0)))))) x5.1 []⟩] (rR (.pointer (some ⟨b0,0,none⟩))::[]) 1 Z Z Z (by kernel_rfl) (by kernel_rfl) (Wf.mk' (by kernel_rfl) (ur (UAll.nil)) (by kernel_rfl) (by kernel_rfl)) q d (N) ?_ ?_
 exact rm h0<|rz
 intro done ρ σ A R w y s
 obtain ⟨h0,h2,h3⟩:=k3 s.rg h0 h2 h3
 have z14:=s.inivR 0 Z
 have z15:=s.inivR 1 Z
 have z16:=s.inivR 2 Z
 have eS_u11:=s.inisR 2 Z
 have h6:=s.r y 0 Z
 replace B:=s.lowK B C K (q.geK (⟨.inr (fun k h=>.inr h),⟨.inl Z,⟨fun _ h=>.inl h,N⟩⟩⟩))
 replace j:Ch (zAH (.pointer (some ⟨b0,0,none⟩))) w0 w:=j.tr s.ch (q.geK (⟨.inr (fun k h=>.inr h),⟨.inl Z,⟨fun _ h=>.inl h,N⟩⟩⟩))
 replace q:=s.left y [(0,ob (.pointer (some ⟨b0,0,none⟩)) (.box B0 86 zA3 x5.2)),(1,ob (.pointer (some ⟨b2_1,0,none⟩)) (.box w0.heap.size 26 zA2 ([]:List zA8))),(2,⟨u11,S13,trR (geB w0.heap.size) (oPt 26 (oBx (oSl 63 (oBx (oSl 69 (oRd zA0)))))) x5.1 []⟩)] ⟨Z,Z,z14,Z,Z,⟨Z,Z,z15,Z,Z,⟨Z,Z,z16,eS_u11,Z,N⟩⟩⟩
 replace d:=s.avok
 obtain ⟨x17,q18,c⟩:=zAB c
 have hFz:w0.heap.size<=w.heap.size:=j.size
 refine zQB 7 Z Z Z Z (zBg call58 (zBv (q18 Z) d h6 (q.sub [(0,ob (.pointer (some ⟨b0,0,none⟩)) (.box B0 86 zA3 x5.2))] ⟨Z,Z,N⟩) Z)) ?_
 rintro v_ w ⟨A,hG1,hv⟩ R n hd
 have hst:=zC1 d hG1 (q.ok 0 _ Z).2
 replace B:∀ b o,A0 b o->A b o:=zCE B C K (q.geK (⟨.inr (fun k h=>.inr h),⟨.inl Z,⟨fun _ h=>.inl h,N⟩⟩⟩)) 0 Z hG1
 replace j:Ch (zAH (.pointer (some ⟨b0,0,none⟩))) w0 w:=j.tr hG1.ch (fun k hk=>(q.geK (⟨.inr (fun k h=>.inr h),⟨.inl Z,⟨fun _ h=>.inl h,N⟩⟩⟩)) k ⟨0,_,Z,hk⟩)
 replace q:=zPs q d 0 Z hG1
 replace d:=hG1.avok
 replace q:IniOK [ob (.pointer (some ⟨b0,0,none⟩)) (.box B0 86 zA3 x17.2),ob (.pointer (some ⟨b2_1,0,none⟩)) (.box w0.heap.size 26 zA2 ([]:List zA8)),⟨u11,S13,trR (geB w0.heap.size) (oPt 26 (oBx (oSl 63 (oBx (oSl 69 (oRd zA0)))))) x5.1 []⟩] A w:=q
 replace h0:=(n 0 Z).trans h0
 replace h2:=(n 2 Z).trans h2
 replace h3:=(n 3 Z).trans h3
 replace h6:=(n 6 Z).trans h6
 have h7:R 7=.int .i64 x17.1:=hd.trans hv
 clear hFz hG1 hv n hd
 refine zQA Z ?_
 refine HT.block<|zQ0 ?_
 refine zQ3 (eB (x17.1==0)::eB (x17.1==0)::[]) ?_ ?_
 exact op (fun Q U W H D=>zDA ((H 7 Z).trans h7) Z)<|oa<|oz
 intro R w m n p
 obtain ⟨h0,h2,h3,h7⟩:=k4 n h0 h2 h3 h7
 have h8:=p.r 1 Z
 replace q:=q.fr m
 replace d:=d.fr m.size
 replace j:=j.tr (m.ch noB) fun _ h=>False.elim h
 refine zPt (x17.1==0) h8 (fun c19=>?_) (fun c19=>?_)
 have c:=zAh c19 c
 obtain ⟨h20,p_h20⟩:=(((zAJ (q.own 2 _ Z).2).ptr).bx).open1 Z
 replace q:IniOK [ob (.pointer (some ⟨b0,0,none⟩)) (.box B0 86 zA3 x17.2),ob (.pointer (some ⟨b2_1,0,none⟩)) (.box w0.heap.size 26 zA2 ([]:List zA8)),⟨u11,S13,trR (geB w0.heap.size) (oPt 26 (oBx (oSl 63 (oBx (oSl 69 (oRd zA0)))))) x5.1 [(u11,[h20])]⟩] A w:=q.repin 2 Z (trP.pin p_h20)
 obtain ⟨e22,c⟩:=zAC c
 obtain ⟨h23,p_h23⟩:=(((((((zAJ (q.own 2 _ Z).2).ptr).bx).pin ((q.own 2 _ Z).2.2 _ (.head _)) Z).elem e22 Z)).bx).open1 Z
 replace q:IniOK [ob (.pointer (some ⟨b0,0,none⟩)) (.box B0 86 zA3 x17.2),ob (.pointer (some ⟨b2_1,0,none⟩)) (.box w0.heap.size 26 zA2 ([]:List zA8)),⟨u11,S13,trR (geB w0.heap.size) (oPt 26 (oBx (oSl 63 (oBx (oSl 69 (oRd zA0)))))) x5.1 [((vptr h20 ((0:Int).toNat*1)),[h23]),(u11,[h20])]⟩] A w:=q.repin 2 Z (trP.pin p_h23)
 obtain ⟨x25,q26,c⟩:=zAB c
 obtain ⟨e27,c⟩:=zAC c
 refine zPx [ob (.pointer (some ⟨b0,0,none⟩)) (.box B0 86 zA3 x17.2),ob (.pointer (some ⟨b2_1,0,none⟩)) (.box w0.heap.size 26 zA2 ([]:List zA8)),⟨u11,S13,trR (geB w0.heap.size) (oPt 26 (oBx (oSl 63 (oBx (oSl 69 (oRd zA0)))))) x5.1 [((vptr h20 ((0:Int).toNat*1)),[h23]),(u11,[h20])]⟩] (rR u11::rR h20::rR (vptr h20 ((0:Int).toNat*1))::rR (vptr h20 ((0:Int).toNat*1))::rR h23::rR (.pointer (some ⟨b0,0,none⟩))::(rF fun A=>.rep (eSl (eInt .i64)) A ([(-1),5,6]:List Int))::⟨_,true,[0],some (.box B0 86 zA3 x25.2),false,fun A=>.raw (.int .i64 x25.1)⟩::rR (vptr h23 ((0:Int).toNat*3))::rR (vptr h23 ((0:Int).toNat*3))::⟨_,true,[2],some (trR (geB w0.heap.size) (oPt 26 (oBx (oSl 63 (oBx (oSl 69 (oRd zA0)))))) (x5.1.set (0:Int).toNat ((gtD x5.1 0).set (0:Int).toNat (x25.1,(gtD (gtD x5.1 0) 0).2.1,(gtD (gtD x5.1 0) 0).2.2))) []),false,fun A=>.any⟩::[]) (by kernel_rfl) (by kernel_rfl) (by kernel_rfl) (Wf.mk' (by kernel_rfl) (ur (ur (ur (ur (ur (ur (up (ur (ur (ur (ua (UAll.nil)))))))))))) (by kernel_rfl) (by kernel_rfl)) q d ?_ ?_
 exact rp (fun V Q U O D=>zAQ ((zAJ (q.own 2 _ Z).2).ptr).ad ((O.old 3 Z).trans h3) zCh sizeOf24 (by decide) (zCc ((zAJ (q.own 2 _ Z).2).ptr).ad))<|rp (fun V Q U O D=>zBX ((O.rdo 2 _ Z Z).2.2 _ (.tail _ (.head _))) (D.g 0 Z) isAgg24 sizeOf24)<|rp (fun V Q U O D=>zDO ((((zAJ (q.own 2 _ Z).2).ptr).bx).pin ((q.own 2 _ Z).2.2 _ (.tail _ (.head _))) Z) (D.g 0 Z) Z underlying24 sizeOf63 e22 Z)<|rp (fun V Q U O D=>zAQ ((((((zAJ (q.own 2 _ Z).2).ptr).bx).pin ((q.own 2 _ Z).2.2 _ (.tail _ (.head _))) Z).elem e22 Z)).ad (D.g 0 Z) zDI sizeOf44 (by decide) (zCc ((((((zAJ (q.own 2 _ Z).2).ptr).bx).pin ((q.own 2 _ Z).2.2 _ (.tail _ (.head _))) Z).elem e22 Z)).ad))<|rp (fun V Q U O D=>zBX ((O.rdo 2 _ Z Z).2.2 _ (.head _)) (D.g 0 Z) isAgg44 sizeOf44)<|rm h0<|rp (fun V Q U O D=>zCj [_,_,_] (E:=eInt .i64) ⟨(zBZ.eq Z),⟨(zBZ.eq Z),⟨(zBZ.eq Z),N⟩⟩⟩ underlying27 sizeOf3 zeroValue3 Z Z Z O.av)<|rc (OblR.took 0 _ _ Z Z Z Z Z fun V Q U O D u X Y J L M=>by have a0:Q 15=(.pointer (some ⟨b0,0,none⟩)):=D.g 0 Z;have a1:Rep (eSl (eInt .i64)) V U (Q 16) ([(-1),5,6]:List Int):=D.g 1 Z;have e0:=J _ Z;rw [e0] at X Y ⊢;exact zHc call59 X Y O.av (fun s=>zCN (q26 Z) O.av a0 s a1))<|rp (fun V Q U O D=>zDO ((((((((zAJ (q.own 2 _ Z).2).ptr).bx).pin ((q.own 2 _ Z).2.2 _ (.tail _ (.head _))) Z).elem e22 Z)).bx).pin ((q.own 2 _ Z).2.2 _ (.head _)) Z) (D.g 0 Z) Z underlying44 sizeOf69 e27 Z)<|rp (fun V Q U O D=>zAQ ((((((((((zAJ (q.own 2 _ Z).2).ptr).bx).pin ((q.own 2 _ Z).2.2 _ (.tail _ (.head _))) Z).elem e22 Z)).bx).pin ((q.own 2 _ Z).2.2 _ (.head _)) Z).elem e27 Z)).ad (D.g 0 Z) zDH sizeOf3 (by decide) (zCc ((((((((((zAJ (q.own 2 _ Z).2).ptr).bx).pin ((q.own 2 _ Z).2.2 _ (.tail _ (.head _))) Z).elem e22 Z)).bx).pin ((q.own 2 _ Z).2.2 _ (.head _)) Z).elem e27 Z)).ad))<|rc (zQ9 2 _ _ Z Z Z Z Z fun V Q U O D u S X I Y J L M=>by have a0:Q 19=(vptr h23 ((0:Int).toNat*3)):=D.g 0 Z;have a1:Q 17=.int .i64 x25.1:=D.g 1 Z;have e0:=(J _ Z).1;rw [e0] at I ⊢;exact zEp ((((((((((zAJ I.2).ptr).bx).pin (I.2.2 _ (.tail _ (.head _))) Z).elem e22 Z)).bx).pin (I.2.2 _ (.head _)) Z).elem e27 Z)).rdp.fst (zBZ.eq a1) a0 Y I.1 sizeOf3 (fun _ _ _ h=>h))<|rz
 intro done ρ σ A R w y s
 obtain ⟨h2,h3⟩:=k2 s.rg h2 h3
 have z28:=s.inivR 0 Z
 have z29:=s.on y 10 7 Z Z Z Z Z z28
 have z30:=s.inivR 1 Z
 have z31:=s.inivR 2 Z
 have z32:=s.on y 13 10 Z Z Z Z Z z31
 obtain ⟨S33,eS_u11⟩:∃ S,σ 13=S:=⟨_,Z⟩
 replace B:=s.lowK B C K (q.geK (⟨.inr (fun k h=>.inr h),⟨.inl Z,⟨fun _ h=>.inl h,N⟩⟩⟩))
 replace j:Ch (zAH (.pointer (some ⟨b0,0,none⟩))) w0 w:=j.tr s.ch (q.geK (⟨.inr (fun k h=>.inr h),⟨.inl Z,⟨fun _ h=>.inl h,N⟩⟩⟩))
 replace q:=s.left y [(10,ob (.pointer (some ⟨b0,0,none⟩)) (.box B0 86 zA3 x25.2)),(1,ob (.pointer (some ⟨b2_1,0,none⟩)) (.box w0.heap.size 26 zA2 ([]:List zA8))),(13,⟨u11,S33,trR (geB w0.heap.size) (oPt 26 (oBx (oSl 63 (oBx (oSl 69 (oRd zA0)))))) (x5.1.set (0:Int).toNat ((gtD x5.1 0).set (0:Int).toNat (x25.1,(gtD (gtD x5.1 0) 0).2.1,(gtD (gtD x5.1 0) 0).2.2))) []⟩)] ⟨Z,Z,z29,Z,Z,⟨Z,Z,z30,Z,Z,⟨Z,Z,z32,eS_u11,Z,N⟩⟩⟩
 replace d:=s.avok
 obtain ⟨Yg33,g_Yg33⟩:∃ z:zAD,z=(x5.1.set (0:Int).toNat ((gtD x5.1 0).set (0:Int).toNat (x25.1,(gtD (gtD x5.1 0) 0).2.1,(gtD (gtD x5.1 0) 0).2.2))):=⟨_,Z⟩
 rw [<- g_Yg33] at q
 try rw [<- g_Yg33] at c
 refine zQ2 [ob (.pointer (some ⟨b0,0,none⟩)) (.box B0 86 zA3 x25.2),ob (.pointer (some ⟨b2_1,0,none⟩)) (.box w0.heap.size 26 zA2 ([]:List zA8)),⟨u11,S33,trR (geB w0.heap.size) (oPt 26 (oBx (oSl 63 (oBx (oSl 69 (oRd zA0)))))) Yg33 []⟩] (⟨_,true,[2],some (.nul),false,fun A=>.rep zA2 A Yg33⟩::⟨_,true,[1],some (.box w0.heap.size 26 zA2 Yg33),false,fun A=>.any⟩::[]) (up (ua (UAll.nil))) q d ?_ ?_
 exact rc (zQ9 2 .nul _ Z Z Z Z Z fun V Q U O D u S X I Y J L M=>by have a0:Q 3=u11:=(O.old 3 Z).trans h3;exact zFO I.2 (a0.trans (J _ Z).1.symm) Y isAgg26 sizeOf26)<|rc (OblR.took 1 _ _ Z Z Z Z Z fun V Q U O D u X Y J L M=>by have a0:Q 2=(.pointer (some ⟨b2_1,0,none⟩)):=(O.old 2 Z).trans h2;have a1:Rep zA2 V U (Q 40) Yg33:=D.g 0 Z;exact zAp a1 a0 (J _ Z) X Y (FldS.id _) sizeOf26 Z)<|rz
 intro done ρ σ A R w y s
 replace h2:=k1 s.rg h2
 have z35:=s.inivR 0 Z
 have z36:=s.inivR 1 Z
 have z37:=s.on y 4 1 Z Z Z Z Z z36
 replace B:=s.lowK B C K (q.geK (⟨.inr (fun k h=>.inr h),⟨.inl Z,⟨fun _ h=>.inl h,N⟩⟩⟩))
 replace j:Ch (zAH (.pointer (some ⟨b0,0,none⟩))) w0 w:=j.tr s.ch (q.geK (⟨.inr (fun k h=>.inr h),⟨.inl Z,⟨fun _ h=>.inl h,N⟩⟩⟩))
 replace q:=s.left y [(0,ob (.pointer (some ⟨b0,0,none⟩)) (.box B0 86 zA3 x25.2)),(4,ob (.pointer (some ⟨b2_1,0,none⟩)) (.box w0.heap.size 26 zA2 Yg33))] ⟨Z,Z,z35,Z,Z,⟨Z,Z,z37,Z,Z,N⟩⟩
 replace d:=s.avok
 refine HT.ret ?_
 obtain rfl:=si c
 obtain ⟨v_2,e_2,p_2⟩:=zEO (q.ok 1 _ Z).1 h2 isAgg26 sizeOf26 (fun _ _ h=>h)
 replace q:IniOK [ob (.pointer (some ⟨b0,0,none⟩)) (.box B0 86 zA3 x25.2)] A w:=q.sub [(0,ob (.pointer (some ⟨b0,0,none⟩)) (.box B0 86 zA3 x25.2))] ⟨Z,Z,N⟩
 obtain ⟨A1,hA1,hG1⟩:=GPost.of q d B (q.geK (⟨.inr (fun k h=>.inr h),N⟩)) j
 exact ⟨.inr Z,[v_2],⟨e_2,N⟩,A1,hG1,p_2.down hA1⟩
 have c:=zAg c19 c
 refine zQ0 ?_
 refine zQ3 (eB (x17.1==1)::eB (x17.1==1)::[]) ?_ ?_
 exact op (fun Q U W H D=>zDA ((H 7 Z).trans h7) Z)<|oa<|oz
 intro R w m n p
 obtain ⟨h0,h2,h3,h7⟩:=k4 n h0 h2 h3 h7
 have h20:=p.r 1 Z
 replace q:=q.fr m
 replace d:=d.fr m.size
 replace j:=j.tr (m.ch noB) fun _ h=>False.elim h
 refine zPt (x17.1==1) h20 (fun c38=>?_) (fun c38=>?_)
 have c:=zAh c38 c
 obtain ⟨h39,p_h39⟩:=(((zAJ (q.own 2 _ Z).2).ptr).bx).open1 Z
 replace q:IniOK [ob (.pointer (some ⟨b0,0,none⟩)) (.box B0 86 zA3 x17.2),ob (.pointer (some ⟨b2_1,0,none⟩)) (.box w0.heap.size 26 zA2 ([]:List zA8)),⟨u11,S13,trR (geB w0.heap.size) (oPt 26 (oBx (oSl 63 (oBx (oSl 69 (oRd zA0)))))) x5.1 [(u11,[h39])]⟩] A w:=q.repin 2 Z (trP.pin p_h39)
 obtain ⟨e41,c⟩:=zAC c
 obtain ⟨h42,p_h42⟩:=(((((((zAJ (q.own 2 _ Z).2).ptr).bx).pin ((q.own 2 _ Z).2.2 _ (.head _)) Z).elem e41 Z)).bx).open1 Z
 replace q:IniOK [ob (.pointer (some ⟨b0,0,none⟩)) (.box B0 86 zA3 x17.2),ob (.pointer (some ⟨b2_1,0,none⟩)) (.box w0.heap.size 26 zA2 ([]:List zA8)),⟨u11,S13,trR (geB w0.heap.size) (oPt 26 (oBx (oSl 63 (oBx (oSl 69 (oRd zA0)))))) x5.1 [((vptr h39 ((0:Int).toNat*1)),[h42]),(u11,[h39])]⟩] A w:=q.repin 2 Z (trP.pin p_h42)
 obtain ⟨x44,q45,c⟩:=zAB c
 obtain ⟨e46,c⟩:=zAC c
 refine zPx [ob (.pointer (some ⟨b0,0,none⟩)) (.box B0 86 zA3 x17.2),ob (.pointer (some ⟨b2_1,0,none⟩)) (.box w0.heap.size 26 zA2 ([]:List zA8)),⟨u11,S13,trR (geB w0.heap.size) (oPt 26 (oBx (oSl 63 (oBx (oSl 69 (oRd zA0)))))) x5.1 [((vptr h39 ((0:Int).toNat*1)),[h42]),(u11,[h39])]⟩] (rR u11::rR h39::rR (vptr h39 ((0:Int).toNat*1))::rR (vptr h39 ((0:Int).toNat*1))::rR h42::rR (.pointer (some ⟨b0,0,none⟩))::(rF fun A=>.rep (eSl (eInt .i64)) A ([0,1,1001]:List Int))::⟨_,true,[0],some (.box B0 86 zA3 x44.2),false,fun A=>.raw (.int .i64 x44.1)⟩::rR (vptr h42 ((0:Int).toNat*3))::rR (vptr h42 ((0:Int).toNat*3+1))::⟨_,true,[2],some (trR (geB w0.heap.size) (oPt 26 (oBx (oSl 63 (oBx (oSl 69 (oRd zA0)))))) (x5.1.set (0:Int).toNat ((gtD x5.1 0).set (0:Int).toNat ((gtD (gtD x5.1 0) 0).1,x44.1,(gtD (gtD x5.1 0) 0).2.2))) []),false,fun A=>.any⟩::[]) (by kernel_rfl) (by kernel_rfl) (by kernel_rfl) (Wf.mk' (by kernel_rfl) (ur (ur (ur (ur (ur (ur (up (ur (ur (ur (ua (UAll.nil)))))))))))) (by kernel_rfl) (by kernel_rfl)) q d ?_ ?_
 exact rp (fun V Q U O D=>zAQ ((zAJ (q.own 2 _ Z).2).ptr).ad ((O.old 3 Z).trans h3) zCh sizeOf24 (by decide) (zCc ((zAJ (q.own 2 _ Z).2).ptr).ad))<|rp (fun V Q U O D=>zBX ((O.rdo 2 _ Z Z).2.2 _ (.tail _ (.head _))) (D.g 0 Z) isAgg24 sizeOf24)<|rp (fun V Q U O D=>zDO ((((zAJ (q.own 2 _ Z).2).ptr).bx).pin ((q.own 2 _ Z).2.2 _ (.tail _ (.head _))) Z) (D.g 0 Z) Z underlying24 sizeOf63 e41 Z)<|rp (fun V Q U O D=>zAQ ((((((zAJ (q.own 2 _ Z).2).ptr).bx).pin ((q.own 2 _ Z).2.2 _ (.tail _ (.head _))) Z).elem e41 Z)).ad (D.g 0 Z) zDI sizeOf44 (by decide) (zCc ((((((zAJ (q.own 2 _ Z).2).ptr).bx).pin ((q.own 2 _ Z).2.2 _ (.tail _ (.head _))) Z).elem e41 Z)).ad))<|rp (fun V Q U O D=>zBX ((O.rdo 2 _ Z Z).2.2 _ (.head _)) (D.g 0 Z) isAgg44 sizeOf44)<|rm h0<|rp (fun V Q U O D=>zCj [_,_,_] (E:=eInt .i64) ⟨(zBZ.eq Z),⟨(zBZ.eq Z),⟨(zBZ.eq Z),N⟩⟩⟩ underlying27 sizeOf3 zeroValue3 Z Z Z O.av)<|rc (OblR.took 0 _ _ Z Z Z Z Z fun V Q U O D u X Y J L M=>by have a0:Q 27=(.pointer (some ⟨b0,0,none⟩)):=D.g 0 Z;have a1:Rep (eSl (eInt .i64)) V U (Q 28) ([0,1,1001]:List Int):=D.g 1 Z;have e0:=J _ Z;rw [e0] at X Y ⊢;exact zHc call59 X Y O.av (fun s=>zCN (q45 Z) O.av a0 s a1))<|rp (fun V Q U O D=>zDO ((((((((zAJ (q.own 2 _ Z).2).ptr).bx).pin ((q.own 2 _ Z).2.2 _ (.tail _ (.head _))) Z).elem e41 Z)).bx).pin ((q.own 2 _ Z).2.2 _ (.head _)) Z) (D.g 0 Z) Z underlying44 sizeOf69 e46 Z)<|rp (fun V Q U O D=>zAQ ((((((((((zAJ (q.own 2 _ Z).2).ptr).bx).pin ((q.own 2 _ Z).2.2 _ (.tail _ (.head _))) Z).elem e41 Z)).bx).pin ((q.own 2 _ Z).2.2 _ (.head _)) Z).elem e46 Z)).ad (D.g 0 Z) zDU sizeOf3 (by decide) (zJq _ _ _))<|rc (zQ9 2 _ _ Z Z Z Z Z fun V Q U O D u S X I Y J L M=>by have a0:Q 31=(vptr h42 ((0:Int).toNat*3+1)):=D.g 0 Z;have a1:Q 29=.int .i64 x44.1:=D.g 1 Z;have e0:=(J _ Z).1;rw [e0] at I ⊢;exact zEp (((((((((((zAJ I.2).ptr).bx).pin (I.2.2 _ (.tail _ (.head _))) Z).elem e41 Z)).bx).pin (I.2.2 _ (.head _)) Z).elem e46 Z)).rdp.snd (zJq _ _ _)).rdp.fst (zBZ.eq a1) a0 Y I.1 sizeOf3 (fun _ _ _ h=>h))<|rz
 intro done ρ σ A R w y s
 obtain ⟨h2,h3⟩:=k2 s.rg h2 h3
 have z47:=s.inivR 0 Z
 have z48:=s.on y 10 7 Z Z Z Z Z z47
 have z49:=s.inivR 1 Z
 have z50:=s.inivR 2 Z
 have z51:=s.on y 13 10 Z Z Z Z Z z50
 obtain ⟨S52,eS_u11⟩:∃ S,σ 13=S:=⟨_,Z⟩
 replace B:=s.lowK B C K (q.geK (⟨.inr (fun k h=>.inr h),⟨.inl Z,⟨fun _ h=>.inl h,N⟩⟩⟩))
 replace j:Ch (zAH (.pointer (some ⟨b0,0,none⟩))) w0 w:=j.tr s.ch (q.geK (⟨.inr (fun k h=>.inr h),⟨.inl Z,⟨fun _ h=>.inl h,N⟩⟩⟩))
 replace q:=s.left y [(10,ob (.pointer (some ⟨b0,0,none⟩)) (.box B0 86 zA3 x44.2)),(1,ob (.pointer (some ⟨b2_1,0,none⟩)) (.box w0.heap.size 26 zA2 ([]:List zA8))),(13,⟨u11,S52,trR (geB w0.heap.size) (oPt 26 (oBx (oSl 63 (oBx (oSl 69 (oRd zA0)))))) (x5.1.set (0:Int).toNat ((gtD x5.1 0).set (0:Int).toNat ((gtD (gtD x5.1 0) 0).1,x44.1,(gtD (gtD x5.1 0) 0).2.2))) []⟩)] ⟨Z,Z,z48,Z,Z,⟨Z,Z,z49,Z,Z,⟨Z,Z,z51,eS_u11,Z,N⟩⟩⟩
 replace d:=s.avok
 obtain ⟨Yg52,g_Yg52⟩:∃ z:zAD,z=(x5.1.set (0:Int).toNat ((gtD x5.1 0).set (0:Int).toNat ((gtD (gtD x5.1 0) 0).1,x44.1,(gtD (gtD x5.1 0) 0).2.2))):=⟨_,Z⟩
 rw [<- g_Yg52] at q
 try rw [<- g_Yg52] at c
 refine zQ2 [ob (.pointer (some ⟨b0,0,none⟩)) (.box B0 86 zA3 x44.2),ob (.pointer (some ⟨b2_1,0,none⟩)) (.box w0.heap.size 26 zA2 ([]:List zA8)),⟨u11,S52,trR (geB w0.heap.size) (oPt 26 (oBx (oSl 63 (oBx (oSl 69 (oRd zA0)))))) Yg52 []⟩] (⟨_,true,[2],some (.nul),false,fun A=>.rep zA2 A Yg52⟩::⟨_,true,[1],some (.box w0.heap.size 26 zA2 Yg52),false,fun A=>.any⟩::[]) (up (ua (UAll.nil))) q d ?_ ?_
 exact rc (zQ9 2 .nul _ Z Z Z Z Z fun V Q U O D u S X I Y J L M=>by have a0:Q 3=u11:=(O.old 3 Z).trans h3;exact zFO I.2 (a0.trans (J _ Z).1.symm) Y isAgg26 sizeOf26)<|rc (OblR.took 1 _ _ Z Z Z Z Z fun V Q U O D u X Y J L M=>by have a0:Q 2=(.pointer (some ⟨b2_1,0,none⟩)):=(O.old 2 Z).trans h2;have a1:Rep zA2 V U (Q 40) Yg52:=D.g 0 Z;exact zAp a1 a0 (J _ Z) X Y (FldS.id _) sizeOf26 Z)<|rz
 intro done ρ σ A R w y s
 replace h2:=k1 s.rg h2
 have z54:=s.inivR 0 Z
 have z55:=s.inivR 1 Z
 have z56:=s.on y 4 1 Z Z Z Z Z z55
 replace B:=s.lowK B C K (q.geK (⟨.inr (fun k h=>.inr h),⟨.inl Z,⟨fun _ h=>.inl h,N⟩⟩⟩))
 replace j:Ch (zAH (.pointer (some ⟨b0,0,none⟩))) w0 w:=j.tr s.ch (q.geK (⟨.inr (fun k h=>.inr h),⟨.inl Z,⟨fun _ h=>.inl h,N⟩⟩⟩))
 replace q:=s.left y [(0,ob (.pointer (some ⟨b0,0,none⟩)) (.box B0 86 zA3 x44.2)),(4,ob (.pointer (some ⟨b2_1,0,none⟩)) (.box w0.heap.size 26 zA2 Yg52))] ⟨Z,Z,z54,Z,Z,⟨Z,Z,z56,Z,Z,N⟩⟩
 replace d:=s.avok
 refine HT.ret ?_
 obtain rfl:=si c
 obtain ⟨v_2,e_2,p_2⟩:=zEO (q.ok 1 _ Z).1 h2 isAgg26 sizeOf26 (fun _ _ h=>h)
 replace q:IniOK [ob (.pointer (some ⟨b0,0,none⟩)) (.box B0 86 zA3 x44.2)] A w:=q.sub [(0,ob (.pointer (some ⟨b0,0,none⟩)) (.box B0 86 zA3 x44.2))] ⟨Z,Z,N⟩
 obtain ⟨A1,hA1,hG1⟩:=GPost.of q d B (q.geK (⟨.inr (fun k h=>.inr h),N⟩)) j
 exact ⟨.inr Z,[v_2],⟨e_2,N⟩,A1,hG1,p_2.down hA1⟩
 have c:=zAg c38 c
 refine zQ0 ?_
 refine zQ3 (eB (x17.1==2)::eB (x17.1==2)::[]) ?_ ?_
 exact op (fun Q U W H D=>zDA ((H 7 Z).trans h7) Z)<|oa<|oz
 intro R w m n p
 obtain ⟨h2,h3⟩:=k2 n h2 h3
 have h32:=p.r 1 Z
 replace q:=q.fr m
 replace d:=d.fr m.size
 replace j:=j.tr (m.ch noB) fun _ h=>False.elim h
 refine zPt (x17.1==2) h32 (fun c57=>?_) (fun c57=>?_)
 have c:=zAh c57 c
 obtain ⟨h58,p_h58⟩:=(((zAJ (q.own 2 _ Z).2).ptr).bx).open1 Z
 replace q:IniOK [ob (.pointer (some ⟨b0,0,none⟩)) (.box B0 86 zA3 x17.2),ob (.pointer (some ⟨b2_1,0,none⟩)) (.box w0.heap.size 26 zA2 ([]:List zA8)),⟨u11,S13,trR (geB w0.heap.size) (oPt 26 (oBx (oSl 63 (oBx (oSl 69 (oRd zA0)))))) x5.1 [(u11,[h58])]⟩] A w:=q.repin 2 Z (trP.pin p_h58)
 obtain ⟨e60,c⟩:=zAC c
 refine zQ5 [ob (.pointer (some ⟨b0,0,none⟩)) (.box B0 86 zA3 x17.2),ob (.pointer (some ⟨b2_1,0,none⟩)) (.box w0.heap.size 26 zA2 ([]:List zA8)),⟨u11,S13,trR (geB w0.heap.size) (oPt 26 (oBx (oSl 63 (oBx (oSl 69 (oRd zA0)))))) x5.1 [(u11,[h58])]⟩] (rR u11::rR h58::⟨_,true,[],some (trR (geB w0.heap.size) (oBx (oSl 69 (oRd zA0))) ([]:List zAA) []),true,fun A=>.any⟩::⟨_,true,[5],some (trR (geB w0.heap.size) (oSl 63 (oBx (oSl 69 (oRd zA0)))) ([([]:List zAA)]:List zA8) []),true,fun A=>.any⟩::⟨_,true,[2,6],some (.gen (geB w0.heap.size) (pdP (oSl 63 (oBx (oSl 69 (oRd zA0)))) u11 (fun z A w S=>(trP (oPt 26 (oBx (oSl 63 (oBx (oSl 69 (oRd zA0)))))) z []).P A w S u11) (x5.1 ++ [([]:List zAA)]))),true,fun A=>.any⟩::rR u11::⟨_,true,[7],some (.gen (geB w0.heap.size) (fixP u11 (trP (oPt 26 (oBx (oSl 63 (oBx (oSl 69 (oRd zA0)))))) (x5.1 ++ [([]:List zAA)]) []))),false,fun A=>.any⟩::[]) (ur (ur (ua (ua (ua (ur (ua (UAll.nil)))))))) q d ?_ ?_
 exact rp (fun V Q U O D=>zAQ ((zAJ (q.own 2 _ Z).2).ptr).ad ((O.old 3 Z).trans h3) zCh sizeOf24 (by decide) (zCc ((zAJ (q.own 2 _ Z).2).ptr).ad))<|rp (fun V Q U O D=>zBX ((O.rdo 2 _ Z Z).2.2 _ (.head _)) (D.g 0 Z) isAgg24 sizeOf24)<|rc (zQ6 _ Z Z Z Z fun V Q U O D=>by exact zEL (v:=.agg #[.slice none 0 0]) (by simp [execOp,Instr.build,zAM,underlying,underlying63,zeroValue63,sizeOf44,go_sem,Instr.fill]) ⟨⟨_,Z,zDF⟩,fun q hq=>by cases hq⟩ (fun k hk=>Nat.le_trans (Nat.le_trans j.size O.ch.size) hk))<|rc (zQ9 5 _ _ Z Z Z Z Z fun V Q U O D u S X I Y J L M=>by exact zGx I.2 (L _ _ Z Z Z Z).symm Y I.1 (fun k hk=>Nat.le_trans (Nat.le_trans j.size O.ch.size) hk) underlying24 sizeOf63 zeroValue63 (by decide))<|rc (zQ7 2 [6] _ Z Z Z Z fun V Q U O D ρ σ X Y J L M hdd=>by have a0:Q 35=h58:=D.g 0 Z;have k1:=X 2 (.head _) _ Z;have e0:=(J 2 (.head _) _ Z).1;rw [e0] at k1 ⊢;exact zFr Z ((zAJ k1.2.2).ptr).bx (k1.2.2.2 _ (.head _)) a0 (trP.nopin (X 6 (.tail _ (.head _)) _ Z).2.2) (L 6 (.tail _ (.head _)) _ _ Z Z Z Z).symm Y hdd k1.2.1 (X 6 (.tail _ (.head _)) _ Z).2.1 (fun k hk=>Nat.le_trans (Nat.le_trans j.size O.ch.size) hk) (fun k hk=>SP.lt _ k1.2.2 hk) underlying24 zOO e60)<|rp (fun V Q U O D=>zAQ ((zAJ (q.own 2 _ Z).2).ptr).ad ((O.old 3 Z).trans h3) zCh sizeOf24 (by decide) (zCc ((zAJ (q.own 2 _ Z).2).ptr).ad))<|rc (zQ9 7 _ _ Z Z Z Z Z fun V Q U O D u S X I Y J L M=>by have a0:Q 39=u11:=D.g 0 Z;exact zEy I.2 (L _ _ Z Z Z Z).symm a0 Y I.1 sizeOf24 (fun _ _ _ h=>h))<|rz
 intro done ρ σ A R w y s
 obtain ⟨h2,h3⟩:=k2 s.rg h2 h3
 have z61:=s.inivR 0 Z
 have z62:=s.inivR 1 Z
 obtain ⟨u63,e_u63⟩:∃ u,ρ 9=u:=⟨_,Z⟩
 obtain ⟨S64,eS_u11⟩:∃ S,σ 9=S:=⟨_,Z⟩
 replace B:=s.lowK B C K (q.geK (⟨.inr (fun k h=>.inr h),⟨.inl Z,⟨fun _ h=>.inl h,N⟩⟩⟩))
 replace j:Ch (zAH (.pointer (some ⟨b0,0,none⟩))) w0 w:=j.tr s.ch (q.geK (⟨.inr (fun k h=>.inr h),⟨.inl Z,⟨fun _ h=>.inl h,N⟩⟩⟩))
 replace q:=s.left y [(0,ob (.pointer (some ⟨b0,0,none⟩)) (.box B0 86 zA3 x17.2)),(1,ob (.pointer (some ⟨b2_1,0,none⟩)) (.box w0.heap.size 26 zA2 ([]:List zA8))),(9,⟨u63,S64,.gen (geB w0.heap.size) (fixP u11 (trP (oPt 26 (oBx (oSl 63 (oBx (oSl 69 (oRd zA0)))))) (x5.1 ++ [([]:List zAA)]) []))⟩)] ⟨Z,Z,z61,Z,Z,⟨Z,Z,z62,Z,Z,⟨Z,Z,e_u63,eS_u11,Z,N⟩⟩⟩
 replace d:=s.avok
 replace q:IniOK [ob (.pointer (some ⟨b0,0,none⟩)) (.box B0 86 zA3 x17.2),ob (.pointer (some ⟨b2_1,0,none⟩)) (.box w0.heap.size 26 zA2 ([]:List zA8)),⟨u11,S64,trR (geB w0.heap.size) (oPt 26 (oBx (oSl 63 (oBx (oSl 69 (oRd zA0)))))) (x5.1 ++ [([]:List zAA)]) []⟩] A w:=q.refix 2 Z
 refine zQ2 [ob (.pointer (some ⟨b0,0,none⟩)) (.box B0 86 zA3 x17.2),ob (.pointer (some ⟨b2_1,0,none⟩)) (.box w0.heap.size 26 zA2 ([]:List zA8)),⟨u11,S64,trR (geB w0.heap.size) (oPt 26 (oBx (oSl 63 (oBx (oSl 69 (oRd zA0)))))) (x5.1 ++ [([]:List zAA)]) []⟩] (⟨_,true,[2],some (.nul),false,fun A=>.rep zA2 A (x5.1 ++ [([]:List zAA)])⟩::⟨_,true,[1],some (.box w0.heap.size 26 zA2 (x5.1 ++ [([]:List zAA)])),false,fun A=>.any⟩::[]) (up (ua (UAll.nil))) q d ?_ ?_
 exact rc (zQ9 2 .nul _ Z Z Z Z Z fun V Q U O D u S X I Y J L M=>by have a0:Q 3=u11:=(O.old 3 Z).trans h3;exact zFO I.2 (a0.trans (J _ Z).1.symm) Y isAgg26 sizeOf26)<|rc (OblR.took 1 _ _ Z Z Z Z Z fun V Q U O D u X Y J L M=>by have a0:Q 2=(.pointer (some ⟨b2_1,0,none⟩)):=(O.old 2 Z).trans h2;have a1:Rep zA2 V U (Q 40) (x5.1 ++ [([]:List zAA)]):=D.g 0 Z;exact zAp a1 a0 (J _ Z) X Y (FldS.id _) sizeOf26 Z)<|rz
 intro done ρ σ A R w y s
 replace h2:=k1 s.rg h2
 have z65:=s.inivR 0 Z
 have z66:=s.inivR 1 Z
 have z67:=s.on y 4 1 Z Z Z Z Z z66
 replace B:=s.lowK B C K (q.geK (⟨.inr (fun k h=>.inr h),⟨.inl Z,⟨fun _ h=>.inl h,N⟩⟩⟩))
 replace j:Ch (zAH (.pointer (some ⟨b0,0,none⟩))) w0 w:=j.tr s.ch (q.geK (⟨.inr (fun k h=>.inr h),⟨.inl Z,⟨fun _ h=>.inl h,N⟩⟩⟩))
 replace q:=s.left y [(0,ob (.pointer (some ⟨b0,0,none⟩)) (.box B0 86 zA3 x17.2)),(4,ob (.pointer (some ⟨b2_1,0,none⟩)) (.box w0.heap.size 26 zA2 (x5.1 ++ [([]:List zAA)])))] ⟨Z,Z,z65,Z,Z,⟨Z,Z,z67,Z,Z,N⟩⟩
 replace d:=s.avok
 refine HT.ret ?_
 obtain rfl:=si c
 obtain ⟨v_2,e_2,p_2⟩:=zEO (q.ok 1 _ Z).1 h2 isAgg26 sizeOf26 (fun _ _ h=>h)
 replace q:IniOK [ob (.pointer (some ⟨b0,0,none⟩)) (.box B0 86 zA3 x17.2)] A w:=q.sub [(0,ob (.pointer (some ⟨b0,0,none⟩)) (.box B0 86 zA3 x17.2))] ⟨Z,Z,N⟩
 obtain ⟨A1,hA1,hG1⟩:=GPost.of q d B (q.geK (⟨.inr (fun k h=>.inr h),N⟩)) j
 exact ⟨.inr Z,[v_2],⟨e_2,N⟩,A1,hG1,p_2.down hA1⟩
 have c:=zAg c57 c
 refine HT.skip<|zQ2 [ob (.pointer (some ⟨b0,0,none⟩)) (.box B0 86 zA3 x17.2),ob (.pointer (some ⟨b2_1,0,none⟩)) (.box w0.heap.size 26 zA2 ([]:List zA8)),⟨u11,S13,trR (geB w0.heap.size) (oPt 26 (oBx (oSl 63 (oBx (oSl 69 (oRd zA0)))))) x5.1 []⟩] (⟨_,true,[2],some (.nul),false,fun A=>.rep zA2 A x5.1⟩::⟨_,true,[1],some (.box w0.heap.size 26 zA2 x5.1),false,fun A=>.any⟩::[]) (up (ua (UAll.nil))) q d ?_ ?_
 exact rc (zQ9 2 .nul _ Z Z Z Z Z fun V Q U O D u S X I Y J L M=>by have a0:Q 3=u11:=(O.old 3 Z).trans h3;exact zFO I.2 (a0.trans (J _ Z).1.symm) Y isAgg26 sizeOf26)<|rc (OblR.took 1 _ _ Z Z Z Z Z fun V Q U O D u X Y J L M=>by have a0:Q 2=(.pointer (some ⟨b2_1,0,none⟩)):=(O.old 2 Z).trans h2;have a1:Rep zA2 V U (Q 40) x5.1:=D.g 0 Z;exact zAp a1 a0 (J _ Z) X Y (FldS.id _) sizeOf26 Z)<|rz
 intro done ρ σ A R w y s
 replace h2:=k1 s.rg h2
 have z68:=s.inivR 0 Z
 have z69:=s.inivR 1 Z
 have z70:=s.on y 4 1 Z Z Z Z Z z69
 replace B:=s.lowK B C K (q.geK (⟨.inr (fun k h=>.inr h),⟨.inl Z,⟨fun _ h=>.inl h,N⟩⟩⟩))
 replace j:Ch (zAH (.pointer (some ⟨b0,0,none⟩))) w0 w:=j.tr s.ch (q.geK (⟨.inr (fun k h=>.inr h),⟨.inl Z,⟨fun _ h=>.inl h,N⟩⟩⟩))
 replace q:=s.left y [(0,ob (.pointer (some ⟨b0,0,none⟩)) (.box B0 86 zA3 x17.2)),(4,ob (.pointer (some ⟨b2_1,0,none⟩)) (.box w0.heap.size 26 zA2 x5.1))] ⟨Z,Z,z68,Z,Z,⟨Z,Z,z70,Z,Z,N⟩⟩
 replace d:=s.avok
 refine HT.ret ?_
 obtain rfl:=si c
 obtain ⟨v_2,e_2,p_2⟩:=zEO (q.ok 1 _ Z).1 h2 isAgg26 sizeOf26 (fun _ _ h=>h)
 replace q:IniOK [ob (.pointer (some ⟨b0,0,none⟩)) (.box B0 86 zA3 x17.2)] A w:=q.sub [(0,ob (.pointer (some ⟨b0,0,none⟩)) (.box B0 86 zA3 x17.2))] ⟨Z,Z,N⟩
 obtain ⟨A1,hA1,hG1⟩:=GPost.of q d B (q.geK (⟨.inr (fun k h=>.inr h),N⟩)) j
 exact ⟨.inr Z,[v_2],⟨e_2,N⟩,A1,hG1,p_2.down hA1⟩
def zCb (fu : Nat) : Nat -> Int -> zAK -> (List Int) -> Option (zAK × (List Int))
 | 0,_,_,_=>none
 | k+1,y6,y7,y8=>
 bif (decide (y6<6)) then (
 cl true (zBr fu y7 ([0,400,500,700,800,900,1000]:List Int)) fun x13=>
 ck (zBu (y8.length+([x13.1]:List Int).length)) <|
 ck (i64B (y6+1)) <|
 zCb fu k (y6+1) x13.2 (y8++([x13.1]:List Int))
 ) else (
 some (y7,y8)
 )
def zE8 (fu:Nat) (p0:zAK):Option ((List Int) × zAK):=
 cl true (zCb fu fu 0 p0 ([]:List Int)) fun s5=>
 some (s5.2,s5.1)
theorem zHF {fu : Nat} {Aq : Av} {p0 : zAK} {r : (List Int) × zAK} (c : zE8 fu p0 = some r) {w : World} {v0 : Value} {b0 B0 : Nat} (d : AvOK Aq w) (h0 : v0=.pointer (some ⟨b0, 0, none⟩)) (hO0 : IniOK [ob (.pointer (some ⟨b0, 0, none⟩)) (.box B0 86 zA3 p0)] Aq w) :
 Calls prog 60 #[v0] w fun e w'=>∃ v,e=.returned v/\(∃ (u0:Value) (A1:Av),GPost (subS Aq (zAH (.pointer (some ⟨b0,0,none⟩)))) (zAH (.pointer (some ⟨b0,0,none⟩))) w [ob (.pointer (some ⟨b0,0,none⟩)) (.box B0 86 zA3 r.2),ob u0 (.vec w.heap.size 3 (eInt .i64) r.1)] A1 w'/\(Fact.raw u0).ok v w'):=by
 unfold zE8 at c
 obtain ⟨w0,hw0⟩:∃ w0,w0=w:=⟨_,Z⟩
 have j:Ch (zAH (.pointer (some ⟨b0,0,none⟩))) w0 w:=hw0 ▸ Ch.refl _ _
 obtain ⟨A0,hA0e⟩:∃ A0,A0=subS Aq (zAH (.pointer (some ⟨b0,0,none⟩))):=⟨_,Z⟩
 have C:∀ b o,A0 b o->b<w0.heap.size:=fun b o h=>hw0 ▸ d b o (hA0e ▸ h:subS Aq _ b o).1
 have K:∀ b o,A0 b o->¬ (zAH (.pointer (some ⟨b0,0,none⟩))) b:=fun b o h=>(hA0e ▸ h:subS Aq _ b o).2
 have hA00:AvOK A0 w0:=C
 rw [show GPost (subS Aq (zAH (.pointer (some ⟨b0,0,none⟩)))) (zAH (.pointer (some ⟨b0,0,none⟩))) w=GPost A0 (zAH (.pointer (some ⟨b0,0,none⟩))) w0 from by rw [hA0e,hw0]]
 rw [show w.heap.size=w0.heap.size from by rw [hw0]]
 obtain ⟨A,hAe⟩:∃ A,A=Aq:=⟨_,Z⟩
 have B:∀ b o,A0 b o->A b o:=fun b o h=>hAe ▸ (hA0e ▸ h:subS Aq _ b o).1
 replace d:AvOK A w:=hAe ▸ d
 have q:IniOK [ob (.pointer (some ⟨b0,0,none⟩)) (.box B0 86 zA3 p0)] A w:=hAe ▸ hO0
 clear hA0e hO0
 refine zAE [.tmp 2] func60 ntmps60 (by decide) Z Z (nb Z) ?_
 intro R hR
 replace h0:R 0=.pointer (some ⟨b0,0,none⟩):=(hR 0 _ Z).trans h0
 refine zQ0 ?_
 refine zQ3 (eA::[]) ?_ ?_
 exact op (fun Q U W H D=>zA9 N)<|oz
 intro R w m n p
 replace h0:=k1 n h0
 replace q:=q.fr m
 replace d:=d.fr m.size
 replace j:=j.tr (m.ch noB) fun _ h=>False.elim h
 refine zQ2 [ob (.pointer (some ⟨b0,0,none⟩)) (.box B0 86 zA3 p0)] (⟨_,true,[],some (.vec w0.heap.size 3 (eInt .i64) ([]:List Int)),true,fun A=>.any⟩::⟨_,true,[1],some (.vec w0.heap.size 3 (eInt .i64) ([]:List Int)),true,fun A=>.any⟩::[]) (ua (ua (UAll.nil))) q d ?_ ?_
 exact rc (OblR.made _ Z Z Z Z fun V Q U O D=>by exact zFn [] (E:=eInt .i64) N underlying27 sizeOf3 zeroValue3 Z Z Z (Nat.le_trans j.size O.ch.size))<|rc (OblR.took 1 _ _ Z Z Z Z Z fun V Q U O D u X Y J L M=>by exact zCQ (L _ _ Z Z Z Z).symm X Y)<|rz
 intro done ρ σ A R w y s
 replace h0:=k1 s.rg h0
 have z1:=s.inivR 0 Z
 obtain ⟨u2,e_u2⟩:∃ u,ρ 2=u:=⟨_,Z⟩
 have h3:=s.ov y 2 1 e_u2
 replace B:=s.lowK B C K (q.geK (⟨.inr (fun k h=>.inr h),N⟩))
 replace j:Ch (zAH (.pointer (some ⟨b0,0,none⟩))) w0 w:=j.tr s.ch (q.geK (⟨.inr (fun k h=>.inr h),N⟩))
 replace q:=s.left y [(0,ob (.pointer (some ⟨b0,0,none⟩)) (.box B0 86 zA3 p0)),(2,ob u2 (.vec w0.heap.size 3 (eInt .i64) ([]:List Int)))] ⟨Z,Z,z1,Z,Z,⟨Z,Z,e_u2,Z,Z,N⟩⟩
 replace d:=s.avok
 refine zQ0 ?_
 refine zQ0 ?_
 refine zQ3 (eI 0::[]) ?_ ?_
 exact op (fun Q U W H D=>zA9 Z)<|oz
 intro R w m n p
 obtain ⟨h0,h3⟩:=k2 n h0 h3
 have h4:=p.r 0 Z
 replace q:=q.fr m
 replace d:=d.fr m.size
 replace j:=j.tr (m.ch noB) fun _ h=>False.elim h
 obtain ⟨rl3,q4,c⟩:=zAB c
 replace q4:=q4 Z
 refine zPv (fun R w=>∃ A:Av,∃ (s5:zAK × (List Int)) (uo_u2:Value),rl3=s5/\AvOK A w/\Ch (zAH (.pointer (some ⟨b0,0,none⟩))) w0 w/\(∀ b o,A0 b o->A b o)/\IniOK [ob (.pointer (some ⟨b0,0,none⟩)) (.box B0 86 zA3 s5.1),ob uo_u2 (.vec w0.heap.size 3 (eInt .i64) s5.2)] A w/\R 3=uo_u2) ?_ ?_
 refine HT.block<|zPz (fun k R w=>∃ A:Av,∃ (y6:Int) (y7:zAK) (y8:List Int) (ul_u2:Value),zCb fu k y6 y7 y8=some rl3/\AvOK A w/\Ch (zAH (.pointer (some ⟨b0,0,none⟩))) w0 w/\(∀ b o,A0 b o->A b o)/\IniOK [ob (.pointer (some ⟨b0,0,none⟩)) (.box B0 86 zA3 y7),ob ul_u2 (.vec w0.heap.size 3 (eInt .i64) y8)] A w/\R 0=(.pointer (some ⟨b0,0,none⟩))/\R 3=ul_u2/\R 4=.int .i64 y6) fu ⟨_,_,_,_,u2,q4,d,j,B,q,h0,h3,h4⟩ ?_
 have hr0:=c;clear c q4
 rintro k R w ⟨A,y6,y7,y8,ul_u2,c,d,j,B,q,h0,h3,h4⟩
 rcases k with _ | k
 cases (show none=some _ from c)
 rw [zCb] at c
 refine zQ0 ?_
 refine zQ0 ?_
 refine zQ3 (eI y6::eB (decide (y6<6))::[]) ?_ ?_
 exact om h4<|op (fun Q U W H D=>zBS (D.g 0 Z) Z)<|oz
 intro R w m n p
 obtain ⟨h0,h3,h4⟩:=k3 n h0 h3 h4
 have h7:=p.r 1 Z
 replace q:=q.fr m
 replace d:=d.fr m.size
 replace j:=j.tr (m.ch noB) fun _ h=>False.elim h
 refine zPt (decide (y6<6)) h7 (fun c9=>?_) (fun c9=>?_)
 have c:=zAh c9 c
 refine HT.skip<|zQ0 ?_
 refine HT.block<|SG.of<|SG.textR [ob (.pointer (some ⟨b0,0,none⟩)) (.box B0 86 zA3 y7),ob ul_u2 (.vec w0.heap.size 3 (eInt .i64) y8)] (rR ul_u2::rR (.pointer (some ⟨b0,0,none⟩))::(rF fun A=>.rep (eSl (eInt .i64)) A ([0,400,500,700,800,900,1000]:List Int))::[]) 3 Z Z Z (by kernel_rfl) (by kernel_rfl) (Wf.mk' (by kernel_rfl) (ur (ur (up (UAll.nil)))) (by kernel_rfl) (by kernel_rfl)) q d (N) ?_ ?_
 exact rm h3<|rm h0<|rp (fun V Q U O D=>zCj [_,_,_,_,_,_,_] (E:=eInt .i64) ⟨(zBZ.eq Z),⟨(zBZ.eq Z),⟨(zBZ.eq Z),⟨(zBZ.eq Z),⟨(zBZ.eq Z),⟨(zBZ.eq Z),⟨(zBZ.eq Z),N⟩⟩⟩⟩⟩⟩⟩ underlying27 sizeOf3 zeroValue3 Z Z Z O.av)<|rz
 intro done ρ σ A R w y s
 obtain ⟨h0,h3,h4⟩:=k3 s.rg h0 h3 h4
 have z10:=s.inivR 0 Z
 have z11:=s.inivR 1 Z
 have h10:=s.r y 0 Z
 have h11:=s.r y 1 Z
 obtain ⟨u12,h12,f_u12⟩:∃ u,R 12=u/\Rep (eSl (eInt .i64)) A w u ([0,400,500,700,800,900,1000]:List Int):=⟨_,Z,s.fact y (i:=2) Z Z Z⟩
 replace B:=s.lowK B C K (q.geK (⟨.inr (fun k h=>.inr h),⟨.inl Z,N⟩⟩))
 replace j:Ch (zAH (.pointer (some ⟨b0,0,none⟩))) w0 w:=j.tr s.ch (q.geK (⟨.inr (fun k h=>.inr h),⟨.inl Z,N⟩⟩))
 replace q:=s.left y [(0,ob (.pointer (some ⟨b0,0,none⟩)) (.box B0 86 zA3 y7)),(1,ob ul_u2 (.vec w0.heap.size 3 (eInt .i64) y8))] ⟨Z,Z,z10,Z,Z,⟨Z,Z,z11,Z,Z,N⟩⟩
 replace d:=s.avok
 obtain ⟨x13,q14,c⟩:=zAB c
 have hFz:w0.heap.size<=w.heap.size:=j.size
 refine zQB 13 Z Z Z Z (zBg call59 (zCN (q14 Z) d h11 (q.sub [(0,ob (.pointer (some ⟨b0,0,none⟩)) (.box B0 86 zA3 y7))] ⟨Z,Z,N⟩) (f_u12.eq h12))) ?_
 rintro v_ w ⟨A,hG1,hv⟩ R n hd
 have hst:=zC1 d hG1 (q.ok 0 _ Z).2
 replace B:∀ b o,A0 b o->A b o:=zCE B C K (q.geK (⟨.inr (fun k h=>.inr h),⟨.inl Z,N⟩⟩)) 0 Z hG1
 replace j:Ch (zAH (.pointer (some ⟨b0,0,none⟩))) w0 w:=j.tr hG1.ch (fun k hk=>(q.geK (⟨.inr (fun k h=>.inr h),⟨.inl Z,N⟩⟩)) k ⟨0,_,Z,hk⟩)
 replace q:=zPs q d 0 Z hG1
 replace d:=hG1.avok
 replace q:IniOK [ob (.pointer (some ⟨b0,0,none⟩)) (.box B0 86 zA3 x13.2),ob ul_u2 (.vec w0.heap.size 3 (eInt .i64) y8)] A w:=q
 replace h0:=(n 0 Z).trans h0
 replace h3:=(n 3 Z).trans h3
 replace h4:=(n 4 Z).trans h4
 replace h10:=(n 10 Z).trans h10
 replace h11:=(n 11 Z).trans h11
 replace h12:=(n 12 Z).trans h12
 replace f_u12:=f_u12.stp hst
 have h13:R 13=.int .i64 x13.1:=hd.trans hv
 clear hFz hG1 hv n hd
 obtain ⟨e15,c⟩:=zAC c
 refine SG.textR [ob (.pointer (some ⟨b0,0,none⟩)) (.box B0 86 zA3 x13.2),ob ul_u2 (.vec w0.heap.size 3 (eInt .i64) y8)] (rR ul_u2::rR (.pointer (some ⟨b0,0,none⟩))::rR u12::rI x13.1::(rF fun A=>.rep (eSl (eInt .i64)) A ([x13.1]:List Int))::⟨_,true,[1],some (.vec w0.heap.size 3 (eInt .i64) (y8++([x13.1]:List Int))),true,fun A=>.any⟩::⟨_,true,[7],some (.vec w0.heap.size 3 (eInt .i64) (y8++([x13.1]:List Int))),true,fun A=>.any⟩::[]) 7 Z Z Z (by kernel_rfl) (by kernel_rfl) (Wf.mk' (by kernel_rfl) (ur (ur (ur (ur (up (ua (ua (UAll.nil)))))))) (by kernel_rfl) (by kernel_rfl)) q d (⟨⟨Z,Z,Z,h10⟩,⟨⟨Z,Z,Z,h11⟩,⟨⟨Z,Z,Z,h12⟩,⟨⟨Z,Z,Z,h13⟩,N⟩⟩⟩⟩) ?_ ?_
 exact rp (fun V Q U O D=>zCj [_] (E:=eInt .i64) ⟨(zBZ.eq (D.g 0 Z)),N⟩ underlying27 sizeOf3 zeroValue3 Z Z Z O.av)<|rc (OblR.took 1 _ _ Z Z Z Z Z fun V Q U O D u X Y J L M=>by have a0:Q 10=ul_u2:=D.g 0 Z;have a1:Rep (eSl (eInt .i64)) V U (Q 14) ([x13.1]:List Int):=D.g 1 Z;exact zET (a0.trans (J _ Z).symm) X Y (Nat.le_trans j.size O.ch.size) a1 underlying27 el_3 e15)<|rc (OblR.took 7 _ _ Z Z Z Z Z fun V Q U O D u X Y J L M=>by exact zCQ (L _ _ Z Z Z Z).symm X Y)<|rz
 intro done ρ σ A R w y s
 obtain ⟨h0,h4⟩:=k2 s.rg h0 h4
 have z16:=s.inivR 0 Z
 obtain ⟨u17,e_u17⟩:∃ u,ρ 8=u:=⟨_,Z⟩
 have h3:=s.ov y 8 6 e_u17
 replace B:=s.lowK B C K (q.geK (⟨.inr (fun k h=>.inr h),⟨.inl Z,N⟩⟩))
 replace j:Ch (zAH (.pointer (some ⟨b0,0,none⟩))) w0 w:=j.tr s.ch (q.geK (⟨.inr (fun k h=>.inr h),⟨.inl Z,N⟩⟩))
 replace q:=s.left y [(0,ob (.pointer (some ⟨b0,0,none⟩)) (.box B0 86 zA3 x13.2)),(8,ob u17 (.vec w0.heap.size 3 (eInt .i64) (y8++([x13.1]:List Int))))] ⟨Z,Z,z16,Z,Z,⟨Z,Z,e_u17,Z,Z,N⟩⟩
 replace d:=s.avok
 refine zQA Z ?_
 obtain ⟨e18,c⟩:=zAC c
 refine zQ3 (eI y6::eI (y6+1)::eI (y6+1)::[]) ?_ ?_
 exact om h4<|op (fun Q U W H D=>zAi (D.g 0 Z) Z e18)<|oa<|oz
 intro R w m n p
 obtain ⟨h0,h3⟩:=k2 n h0 h3
 have h4:=p.r 2 Z
 replace q:=q.fr m
 replace d:=d.fr m.size
 replace j:=j.tr (m.ch noB) fun _ h=>False.elim h
 exact ei k (And.intro (Nat.lt_succ_self k) ⟨_,_,_,_,u17,c,d,j,B,q,h0,h3,h4⟩)
 have c:=zAg c9 c
 refine zPy ?_
 obtain rfl:=si c
 exact ei _ ⟨_,ul_u2,Z,d,j,B,q,h3⟩
 rintro R w ⟨A,s5,uo_u2,es,d,j,B,q,h3⟩
 obtain rfl:=es.symm
 refine zQ0 ?_
 refine zQ3 (eR uo_u2::eR uo_u2::[]) ?_ ?_
 exact om h3<|oa<|oz
 intro R w m n p
 have h2:=p.r 1 Z
 replace q:=q.fr m
 replace d:=d.fr m.size
 replace j:=j.tr (m.ch noB) fun _ h=>False.elim h
 refine HT.ret ?_
 obtain rfl:=si c
 obtain ⟨A1,hA1,hG1⟩:=GPost.of q d B (q.geK (⟨.inr (fun k h=>.inr h),⟨.inl Z,N⟩⟩)) j
 exact ⟨.inr Z,[R 2],⟨Z,N⟩,uo_u2,A1,hG1,h2⟩
def zEX (fu:Nat) (p0:zAK):Option ((List Int) × zAK):=
 cl true (zE8 fu p0) fun x2=>
 cl true (zBh fu x2.2 16) fun x9=>
 bif (x9.1==0) then (
 cl true (zBr fu x9.2 ([(-1),1001]:List Int)) fun x15=>
 ck (inR 0 x2.1.length) <|
 some ((x2.1.set (0:Int).toNat x15.1),x15.2)
 ) else (
 bif (x9.1==1) then (
 ck (subR 1 (x2.1.length:Int) x2.1.length) <|
 some ((subL x2.1 1 (x2.1.length:Int)),x9.2)
 ) else (
 some (x2.1,x9.2)
 )
 )
theorem zGD {fu : Nat} {Aq : Av} {p0 : zAK} {r : (List Int) × zAK} (c : zEX fu p0 = some r) {w : World} {v0 : Value} {b0 B0 : Nat} (d : AvOK Aq w) (h0 : v0=.pointer (some ⟨b0, 0, none⟩)) (hO0 : IniOK [ob (.pointer (some ⟨b0, 0, none⟩)) (.box B0 86 zA3 p0)] Aq w) :
 Calls prog 24 #[v0] w fun e w'=>∃ v,e=.returned v/\(∃ (A1:Av),GPost (subS Aq (zAH (.pointer (some ⟨b0,0,none⟩)))) (zAH (.pointer (some ⟨b0,0,none⟩))) w [ob (.pointer (some ⟨b0,0,none⟩)) (.box B0 86 zA3 r.2)] A1 w'/\(Fact.rep (eSl (eInt .i64)) A1 r.1).ok v w'):=by
 unfold zEX at c
 obtain ⟨w0,hw0⟩:∃ w0,w0=w:=⟨_,Z⟩
 have j:Ch (zAH (.pointer (some ⟨b0,0,none⟩))) w0 w:=hw0 ▸ Ch.refl _ _
 obtain ⟨A0,hA0e⟩:∃ A0,A0=subS Aq (zAH (.pointer (some ⟨b0,0,none⟩))):=⟨_,Z⟩
 have C:∀ b o,A0 b o->b<w0.heap.size:=fun b o h=>hw0 ▸ d b o (hA0e ▸ h:subS Aq _ b o).1
 have K:∀ b o,A0 b o->¬ (zAH (.pointer (some ⟨b0,0,none⟩))) b:=fun b o h=>(hA0e ▸ h:subS Aq _ b o).2
 have hA00:AvOK A0 w0:=C
 rw [show GPost (subS Aq (zAH (.pointer (some ⟨b0,0,none⟩)))) (zAH (.pointer (some ⟨b0,0,none⟩))) w=GPost A0 (zAH (.pointer (some ⟨b0,0,none⟩))) w0 from by rw [hA0e,hw0]]
 obtain ⟨A,hAe⟩:∃ A,A=Aq:=⟨_,Z⟩
 have B:∀ b o,A0 b o->A b o:=fun b o h=>hAe ▸ (hA0e ▸ h:subS Aq _ b o).1
 replace d:AvOK A w:=hAe ▸ d
 have q:IniOK [ob (.pointer (some ⟨b0,0,none⟩)) (.box B0 86 zA3 p0)] A w:=hAe ▸ hO0
 clear hA0e hO0
 refine zAE [.tmp 2] func24 ntmps24 (by decide) Z Z (nb Z) ?_
 intro R hR
 replace h0:R 0=.pointer (some ⟨b0,0,none⟩):=(hR 0 _ Z).trans h0
 refine zQ0 ?_
 refine zQ3 (eF (.rep (eSl (eInt .i64)) A ([]:List Int))::[]) ?_ ?_
 exact op (fun Q U W H D=>zA9 zHV)<|oz
 intro R w m n p
 replace h0:=k1 n h0
 replace q:=q.fr m
 replace d:=d.fr m.size
 replace j:=j.tr (m.ch noB) fun _ h=>False.elim h
 refine zQ0 ?_
 refine SG.of<|SG.textR [ob (.pointer (some ⟨b0,0,none⟩)) (.box B0 86 zA3 p0)] (rR (.pointer (some ⟨b0,0,none⟩))::[]) 1 Z Z Z (by kernel_rfl) (by kernel_rfl) (Wf.mk' (by kernel_rfl) (ur (UAll.nil)) (by kernel_rfl) (by kernel_rfl)) q d (N) ?_ ?_
 exact rm h0<|rz
 intro done ρ σ A R w y s
 replace h0:=k1 s.rg h0
 have z1:=s.inivR 0 Z
 have h4:=s.r y 0 Z
 replace B:=s.lowK B C K (q.geK (⟨.inr (fun k h=>.inr h),N⟩))
 replace j:Ch (zAH (.pointer (some ⟨b0,0,none⟩))) w0 w:=j.tr s.ch (q.geK (⟨.inr (fun k h=>.inr h),N⟩))
 replace q:=s.left y [(0,ob (.pointer (some ⟨b0,0,none⟩)) (.box B0 86 zA3 p0))] ⟨Z,Z,z1,Z,Z,N⟩
 replace d:=s.avok
 obtain ⟨x2,q3,c⟩:=zAB c
 have hFz:w0.heap.size<=w.heap.size:=j.size
 refine zQB 5 Z Z Z Z (zBg call60 (zHF (q3 Z) d h4 (q.sub [(0,ob (.pointer (some ⟨b0,0,none⟩)) (.box B0 86 zA3 p0))] ⟨Z,Z,N⟩))) ?_
 rintro v_ w ⟨u4,A,hG1,hv⟩ R n hd
 have hst:=zC1 d hG1 (q.ok 0 _ Z).2
 replace B:∀ b o,A0 b o->A b o:=zCE B C K (q.geK (⟨.inr (fun k h=>.inr h),N⟩)) 0 Z hG1
 replace j:Ch (zAH (.pointer (some ⟨b0,0,none⟩))) w0 w:=j.tr hG1.ch (fun k hk=>(q.geK (⟨.inr (fun k h=>.inr h),N⟩)) k ⟨0,_,Z,hk⟩)
 replace q:=zPs q d 0 Z hG1
 replace d:=hG1.avok
 replace q:=q.reV (B':=w0.heap.size) 1 Z hFz
 replace q:IniOK [ob (.pointer (some ⟨b0,0,none⟩)) (.box B0 86 zA3 x2.2),ob u4 (.vec w0.heap.size 3 (eInt .i64) x2.1)] A w:=q
 replace h0:=(n 0 Z).trans h0
 replace h4:=(n 4 Z).trans h4
 have h5:R 5=u4:=hd.trans hv
 clear hFz hG1 hv n hd
 refine SG.textR [ob (.pointer (some ⟨b0,0,none⟩)) (.box B0 86 zA3 x2.2),ob u4 (.vec w0.heap.size 3 (eInt .i64) x2.1)] (rR (.pointer (some ⟨b0,0,none⟩))::rR u4::rR u4::[]) 3 Z Z Z (by kernel_rfl) (by kernel_rfl) (Wf.mk' (by kernel_rfl) (ur (ur (ur (UAll.nil)))) (by kernel_rfl) (by kernel_rfl)) q d (⟨⟨Z,Z,Z,h4⟩,⟨⟨Z,Z,Z,h5⟩,N⟩⟩) ?_ ?_
 exact ra<|rz
 intro done ρ σ A R w y s
 replace h0:=k1 s.rg h0
 have z5:=s.inivR 0 Z
 have z6:=s.inivR 1 Z
 have h3:=s.r y 2 Z
 replace B:=s.lowK B C K (q.geK (⟨.inr (fun k h=>.inr h),⟨.inl Z,N⟩⟩))
 replace j:Ch (zAH (.pointer (some ⟨b0,0,none⟩))) w0 w:=j.tr s.ch (q.geK (⟨.inr (fun k h=>.inr h),⟨.inl Z,N⟩⟩))
 replace q:=s.left y [(0,ob (.pointer (some ⟨b0,0,none⟩)) (.box B0 86 zA3 x2.2)),(1,ob u4 (.vec w0.heap.size 3 (eInt .i64) x2.1))] ⟨Z,Z,z5,Z,Z,⟨Z,Z,z6,Z,Z,N⟩⟩
 replace d:=s.avok
 refine zQA Z ?_
 refine zQ0 ?_
 refine zQ0 ?_
 refine SG.of<|SG.textR [ob (.pointer (some ⟨b0,0,none⟩)) (.box B0 86 zA3 x2.2),ob u4 (.vec w0.heap.size 3 (eInt .i64) x2.1)] (rR (.pointer (some ⟨b0,0,none⟩))::[]) 1 Z Z Z (by kernel_rfl) (by kernel_rfl) (Wf.mk' (by kernel_rfl) (ur (UAll.nil)) (by kernel_rfl) (by kernel_rfl)) q d (N) ?_ ?_
 exact rm h0<|rz
 intro done ρ σ A R w y s
 obtain ⟨h0,h3⟩:=k2 s.rg h0 h3
 have z7:=s.inivR 0 Z
 have z8:=s.inivR 1 Z
 have h6:=s.r y 0 Z
 replace B:=s.lowK B C K (q.geK (⟨.inr (fun k h=>.inr h),⟨.inl Z,N⟩⟩))
 replace j:Ch (zAH (.pointer (some ⟨b0,0,none⟩))) w0 w:=j.tr s.ch (q.geK (⟨.inr (fun k h=>.inr h),⟨.inl Z,N⟩⟩))
 replace q:=s.left y [(0,ob (.pointer (some ⟨b0,0,none⟩)) (.box B0 86 zA3 x2.2)),(1,ob u4 (.vec w0.heap.size 3 (eInt .i64) x2.1))] ⟨Z,Z,z7,Z,Z,⟨Z,Z,z8,Z,Z,N⟩⟩
 replace d:=s.avok
 obtain ⟨x9,q10,c⟩:=zAB c
 have hFz:w0.heap.size<=w.heap.size:=j.size
 refine zQB 7 Z Z Z Z (zBg call58 (zBv (q10 Z) d h6 (q.sub [(0,ob (.pointer (some ⟨b0,0,none⟩)) (.box B0 86 zA3 x2.2))] ⟨Z,Z,N⟩) Z)) ?_
 rintro v_ w ⟨A,hG1,hv⟩ R n hd
 have hst:=zC1 d hG1 (q.ok 0 _ Z).2
 replace B:∀ b o,A0 b o->A b o:=zCE B C K (q.geK (⟨.inr (fun k h=>.inr h),⟨.inl Z,N⟩⟩)) 0 Z hG1
 replace j:Ch (zAH (.pointer (some ⟨b0,0,none⟩))) w0 w:=j.tr hG1.ch (fun k hk=>(q.geK (⟨.inr (fun k h=>.inr h),⟨.inl Z,N⟩⟩)) k ⟨0,_,Z,hk⟩)
 replace q:=zPs q d 0 Z hG1
 replace d:=hG1.avok
 replace q:IniOK [ob (.pointer (some ⟨b0,0,none⟩)) (.box B0 86 zA3 x9.2),ob u4 (.vec w0.heap.size 3 (eInt .i64) x2.1)] A w:=q
 replace h0:=(n 0 Z).trans h0
 replace h3:=(n 3 Z).trans h3
 replace h6:=(n 6 Z).trans h6
 have h7:R 7=.int .i64 x9.1:=hd.trans hv
 clear hFz hG1 hv n hd
 refine zQA Z ?_
 refine HT.block<|zQ0 ?_
 refine zQ3 (eB (x9.1==0)::eB (x9.1==0)::[]) ?_ ?_
 exact op (fun Q U W H D=>zDA ((H 7 Z).trans h7) Z)<|oa<|oz
 intro R w m n p
 obtain ⟨h0,h3,h7⟩:=k3 n h0 h3 h7
 have h8:=p.r 1 Z
 replace q:=q.fr m
 replace d:=d.fr m.size
 replace j:=j.tr (m.ch noB) fun _ h=>False.elim h
 refine zPt (x9.1==0) h8 (fun c11=>?_) (fun c11=>?_)
 have c:=zAh c11 c
 refine SG.of<|SG.textR [ob (.pointer (some ⟨b0,0,none⟩)) (.box B0 86 zA3 x9.2),ob u4 (.vec w0.heap.size 3 (eInt .i64) x2.1)] (rR u4::rR (.pointer (some ⟨b0,0,none⟩))::(rF fun A=>.rep (eSl (eInt .i64)) A ([(-1),1001]:List Int))::[]) 3 Z Z Z (by kernel_rfl) (by kernel_rfl) (Wf.mk' (by kernel_rfl) (ur (ur (up (UAll.nil)))) (by kernel_rfl) (by kernel_rfl)) q d (N) ?_ ?_
 exact rm h3<|rm h0<|rp (fun V Q U O D=>zCj [_,_] (E:=eInt .i64) ⟨(zBZ.eq Z),⟨(zBZ.eq Z),N⟩⟩ underlying27 sizeOf3 zeroValue3 Z Z Z O.av)<|rz
 intro done ρ σ A R w y s
 replace h3:=k1 s.rg h3
 have z12:=s.inivR 0 Z
 have z13:=s.inivR 1 Z
 have h10:=s.r y 0 Z
 have h11:=s.r y 1 Z
 obtain ⟨u14,h12,f_u14⟩:∃ u,R 12=u/\Rep (eSl (eInt .i64)) A w u ([(-1),1001]:List Int):=⟨_,Z,s.fact y (i:=2) Z Z Z⟩
 replace B:=s.lowK B C K (q.geK (⟨.inr (fun k h=>.inr h),⟨.inl Z,N⟩⟩))
 replace j:Ch (zAH (.pointer (some ⟨b0,0,none⟩))) w0 w:=j.tr s.ch (q.geK (⟨.inr (fun k h=>.inr h),⟨.inl Z,N⟩⟩))
 replace q:=s.left y [(0,ob (.pointer (some ⟨b0,0,none⟩)) (.box B0 86 zA3 x9.2)),(1,ob u4 (.vec w0.heap.size 3 (eInt .i64) x2.1))] ⟨Z,Z,z12,Z,Z,⟨Z,Z,z13,Z,Z,N⟩⟩
 replace d:=s.avok
 obtain ⟨x15,q16,c⟩:=zAB c
 have hFz:w0.heap.size<=w.heap.size:=j.size
 refine zQB 13 Z Z Z Z (zBg call59 (zCN (q16 Z) d h11 (q.sub [(0,ob (.pointer (some ⟨b0,0,none⟩)) (.box B0 86 zA3 x9.2))] ⟨Z,Z,N⟩) (f_u14.eq h12))) ?_
 rintro v_ w ⟨A,hG1,hv⟩ R n hd
 have hst:=zC1 d hG1 (q.ok 0 _ Z).2
 replace B:∀ b o,A0 b o->A b o:=zCE B C K (q.geK (⟨.inr (fun k h=>.inr h),⟨.inl Z,N⟩⟩)) 0 Z hG1
 replace j:Ch (zAH (.pointer (some ⟨b0,0,none⟩))) w0 w:=j.tr hG1.ch (fun k hk=>(q.geK (⟨.inr (fun k h=>.inr h),⟨.inl Z,N⟩⟩)) k ⟨0,_,Z,hk⟩)
 replace q:=zPs q d 0 Z hG1
 replace d:=hG1.avok
 replace q:IniOK [ob (.pointer (some ⟨b0,0,none⟩)) (.box B0 86 zA3 x15.2),ob u4 (.vec w0.heap.size 3 (eInt .i64) x2.1)] A w:=q
 replace h3:=(n 3 Z).trans h3
 replace h10:=(n 10 Z).trans h10
 replace h11:=(n 11 Z).trans h11
 replace h12:=(n 12 Z).trans h12
 replace f_u14:=f_u14.stp hst
 have h13:R 13=.int .i64 x15.1:=hd.trans hv
 clear hFz hG1 hv n hd
 obtain ⟨e17,c⟩:=zAC c
 refine SG.textR [ob (.pointer (some ⟨b0,0,none⟩)) (.box B0 86 zA3 x15.2),ob u4 (.vec w0.heap.size 3 (eInt .i64) x2.1)] (rR u4::rR (.pointer (some ⟨b0,0,none⟩))::rR u14::rI x15.1::rR (vptr u4 ((0:Int).toNat*1))::⟨_,true,[1],some (.vec w0.heap.size 3 (eInt .i64) (x2.1.set (0:Int).toNat x15.1)),false,fun A=>.any⟩::[]) 6 Z Z Z (by kernel_rfl) (by kernel_rfl) (Wf.mk' (by kernel_rfl) (ur (ur (ur (ur (ur (ua (UAll.nil))))))) (by kernel_rfl) (by kernel_rfl)) q d (⟨⟨Z,Z,Z,h10⟩,⟨⟨Z,Z,Z,h11⟩,⟨⟨Z,Z,Z,h12⟩,⟨⟨Z,Z,Z,h13⟩,N⟩⟩⟩⟩) ?_ ?_
 exact rp (fun V Q U O D=>zD7 (q.ok 1 _ Z).1 (D.g 0 Z) Z underlying27 sizeOf3 e17 Z)<|rc (OblR.took 1 _ _ Z Z Z Z Z fun V Q U O D u X Y J L M=>by have a0:Q 14=(vptr u4 ((0:Int).toNat*1)):=D.g 0 Z;have a1:Q 13=.int .i64 x15.1:=D.g 1 Z;obtain rfl:=J _ Z;exact zH5 (zBZ.eq a1) X Y a0 e17 Z (FldS.id _) sizeOf3 Z)<|rz
 intro done ρ σ A R w y s
 replace h3:=k1 s.rg h3
 have z18:=s.inivR 0 Z
 have z19:=s.inivR 1 Z
 have z20:=s.on y 7 5 Z Z Z Z Z z19
 replace B:=s.lowK B C K (q.geK (⟨.inr (fun k h=>.inr h),⟨.inl Z,N⟩⟩))
 replace j:Ch (zAH (.pointer (some ⟨b0,0,none⟩))) w0 w:=j.tr s.ch (q.geK (⟨.inr (fun k h=>.inr h),⟨.inl Z,N⟩⟩))
 replace q:=s.left y [(0,ob (.pointer (some ⟨b0,0,none⟩)) (.box B0 86 zA3 x15.2)),(7,ob u4 (.vec w0.heap.size 3 (eInt .i64) (x2.1.set (0:Int).toNat x15.1)))] ⟨Z,Z,z18,Z,Z,⟨Z,Z,z20,Z,Z,N⟩⟩
 replace d:=s.avok
 refine zQA Z ?_
 refine zQ2 [ob (.pointer (some ⟨b0,0,none⟩)) (.box B0 86 zA3 x15.2),ob u4 (.vec w0.heap.size 3 (eInt .i64) (x2.1.set (0:Int).toNat x15.1))] (rR u4::⟨_,true,[1],some (.nul),false,fun A=>.rep (eSl (eInt .i64)) A (x2.1.set (0:Int).toNat x15.1)⟩::[]) (ur (up (UAll.nil))) q d ?_ ?_
 exact rm h3<|rc (OblR.frz 1 _ Z Z Z Z Z fun V Q U O D u X Y J L M=>by have a0:Q 19=u4:=D.g 0 Z;exact zIp (a0.trans (J _ Z).symm) X O.av Y)<|rz
 intro done ρ σ A R w y s
 have z21:=s.inivR 0 Z
 obtain ⟨u22,h2,f_u22⟩:∃ u,R 2=u/\Rep (eSl (eInt .i64)) A w u (x2.1.set (0:Int).toNat x15.1):=⟨_,Z,s.fact y (i:=1) Z Z Z⟩
 replace B:=s.lowK B C K (q.geK (⟨.inr (fun k h=>.inr h),⟨.inl Z,N⟩⟩))
 replace j:Ch (zAH (.pointer (some ⟨b0,0,none⟩))) w0 w:=j.tr s.ch (q.geK (⟨.inr (fun k h=>.inr h),⟨.inl Z,N⟩⟩))
 replace q:=s.left y [(0,ob (.pointer (some ⟨b0,0,none⟩)) (.box B0 86 zA3 x15.2))] ⟨Z,Z,z21,Z,Z,N⟩
 replace d:=s.avok
 refine HT.ret ?_
 obtain rfl:=si c
 obtain ⟨A1,hA1,hG1⟩:=GPost.of q d B (q.geK (⟨.inr (fun k h=>.inr h),N⟩)) j
 exact ⟨.inr Z,[R 2],⟨Z,N⟩,A1,hG1,(f_u22.eq h2).down hA1⟩
 have c:=zAg c11 c
 refine zQ0 ?_
 refine zQ3 (eB (x9.1==1)::eB (x9.1==1)::[]) ?_ ?_
 exact op (fun Q U W H D=>zDA ((H 7 Z).trans h7) Z)<|oa<|oz
 intro R w m n p
 replace h3:=k1 n h3
 have h15:=p.r 1 Z
 replace q:=q.fr m
 replace d:=d.fr m.size
 replace j:=j.tr (m.ch noB) fun _ h=>False.elim h
 refine zPt (x9.1==1) h15 (fun c23=>?_) (fun c23=>?_)
 have c:=zAh c23 c
 replace q:IniOK [ob u4 (.vec w0.heap.size 3 (eInt .i64) x2.1),ob (.pointer (some ⟨b0,0,none⟩)) (.box B0 86 zA3 x9.2)] A w:=q.sub [(1,ob u4 (.vec w0.heap.size 3 (eInt .i64) x2.1)),(0,ob (.pointer (some ⟨b0,0,none⟩)) (.box B0 86 zA3 x9.2))] ⟨Z,Z,⟨Z,Z,N⟩⟩
 obtain ⟨A,hle,B,d,q,f_u4⟩:=q.freeze d B C
 clear hle
 obtain ⟨e24,c⟩:=zAC c
 refine zQ3 (eR u4::eF (.rep (eSl (eInt .i64)) A (subL x2.1 1 (x2.1.length:Int)))::eF (.rep (eSl (eInt .i64)) A (subL x2.1 1 (x2.1.length:Int)))::[]) ?_ ?_
 exact om h3<|op (fun Q U W H D=>zIZ ((f_u4.fr W).eq (D.g 0 Z)) Z underlying27 sizeOf3 e24)<|op (fun Q U W H D=>zA9 (D.g 0 Z))<|oz
 intro R w m n p
 obtain ⟨u25,h3,f_u25⟩:∃ u,R 3=u/\Rep (eSl (eInt .i64)) A w u (subL x2.1 1 (x2.1.length:Int)):=⟨_,Z,p 2 _ _ Z Z Z⟩
 replace q:=q.fr m
 replace d:=d.fr m.size
 replace j:=j.tr (m.ch noB) fun _ h=>False.elim h
 refine zQ0 ?_
 refine zQ3 (eR u25::eR u25::[]) ?_ ?_
 exact om h3<|oa<|oz
 intro R w m n p
 have h2:=p.r 1 Z
 replace f_u25:=f_u25.fr m
 replace q:=q.fr m
 replace d:=d.fr m.size
 replace j:=j.tr (m.ch noB) fun _ h=>False.elim h
 refine HT.ret ?_
 obtain rfl:=si c
 obtain ⟨A1,hA1,hG1⟩:=GPost.of q d B (q.geK (⟨.inr (fun k h=>.inr h),N⟩)) j
 exact ⟨.inr Z,[R 2],⟨Z,N⟩,A1,hG1,(f_u25.eq h2).down hA1⟩
 have c:=zAg c23 c
 refine HT.skip<|zQ2 [ob (.pointer (some ⟨b0,0,none⟩)) (.box B0 86 zA3 x9.2),ob u4 (.vec w0.heap.size 3 (eInt .i64) x2.1)] (rR u4::⟨_,true,[1],some (.nul),false,fun A=>.rep (eSl (eInt .i64)) A x2.1⟩::[]) (ur (up (UAll.nil))) q d ?_ ?_
 exact rm h3<|rc (OblR.frz 1 _ Z Z Z Z Z fun V Q U O D u X Y J L M=>by have a0:Q 19=u4:=D.g 0 Z;exact zIp (a0.trans (J _ Z).symm) X O.av Y)<|rz
 intro done ρ σ A R w y s
 have z26:=s.inivR 0 Z
 obtain ⟨u27,h2,f_u27⟩:∃ u,R 2=u/\Rep (eSl (eInt .i64)) A w u x2.1:=⟨_,Z,s.fact y (i:=1) Z Z Z⟩
 replace B:=s.lowK B C K (q.geK (⟨.inr (fun k h=>.inr h),⟨.inl Z,N⟩⟩))
 replace j:Ch (zAH (.pointer (some ⟨b0,0,none⟩))) w0 w:=j.tr s.ch (q.geK (⟨.inr (fun k h=>.inr h),⟨.inl Z,N⟩⟩))
 replace q:=s.left y [(0,ob (.pointer (some ⟨b0,0,none⟩)) (.box B0 86 zA3 x9.2))] ⟨Z,Z,z26,Z,Z,N⟩
 replace d:=s.avok
 refine HT.ret ?_
 obtain rfl:=si c
 obtain ⟨A1,hA1,hG1⟩:=GPost.of q d B (q.geK (⟨.inr (fun k h=>.inr h),N⟩)) j
 exact ⟨.inr Z,[R 2],⟨Z,N⟩,A1,hG1,(f_u27.eq h2).down hA1⟩
def zDC (fu:Nat) (p0:List Int):Option (zAD × (List Int)):=
 cl true (zEZ fu p0) fun x3=>
 cl true (zEd fu x3) fun x10=>
 cl true (zEX fu x10.2) fun x15=>
 some (x10.1,x15.1)
theorem zFs {fu : Nat} {A0 : Av} {p0 : List Int} {r : zAD × (List Int)} (c : zDC fu p0 = some r) {w : World} {v0 : Value} (d : AvOK A0 w) (h0 : Rep (eSl (eInt .u8)) A0 w v0 p0) :
 Calls prog 5 #[v0] w fun e w'=>∃ v,e=.returned v/\((∃ a b,v=.tuple #[a,b]/\Rep zA2 A0 w' a r.1/\Rep (eSl (eInt .i64)) A0 w' b r.2)/\Fr w w'):=by
 unfold zDC at c
 obtain ⟨w0,hw0,j,C⟩:=pw d
 have hA00:AvOK A0 w0:=C
 rw [fw hw0]
 obtain ⟨A,hAe,B,d,q⟩:=pa d
 refine zAE [.cell 2 26,.tmp 3] func5 ntmps5 (by decide) Z Z (nb Z) ?_
 intro R hR
 have f_v0:Rep (eSl (eInt .u8)) A w v0 p0:=hAe ▸ h0
 replace h0:R 0=v0:=hR 0 _ Z
 refine zQ2 [] (⟨_,true,[],some (.box w0.heap.size 26 zA2 ([]:List zA8)),true,fun A=>.any⟩::(rF fun A=>.rep (eSl (eInt .i64)) A ([]:List Int))::[]) (ua (up (UAll.nil))) q d ?_ ?_
 exact rc (OblR.made _ Z Z Z Z fun V Q U O D=>by exact zBP zeroValue26 (fun A w=>zEM) (Nat.le_trans j.size O.ch.size))<|rp (fun V Q U O D=>zA9 zHV)<|rz
 intro done ρ σ A R w y s
 replace h0:=k1 s.rg h0
 obtain ⟨b2_0,e_b2_0⟩:=s.boxv y 0 Z Z
 have h2:=s.ov y 0 0 e_b2_0
 replace f_v0:=f_v0.stp s.stp
 obtain ⟨B,j,d⟩:=s.s B C j q N
 replace q:=s.left y [(0,ob (.pointer (some ⟨b2_0,0,none⟩)) (.box w0.heap.size 26 zA2 ([]:List zA8)))] ⟨Z,Z,e_b2_0,Z,Z,N⟩
 refine zQ0 ?_
 refine SG.of<|SG.textR [ob (.pointer (some ⟨b2_0,0,none⟩)) (.box w0.heap.size 26 zA2 ([]:List zA8))] (rR v0::[]) 1 Z Z Z (by kernel_rfl) (by kernel_rfl) (Wf.mk' (by kernel_rfl) (ur (UAll.nil)) (by kernel_rfl) (by kernel_rfl)) q d (N) ?_ ?_
 exact rm h0<|rz
 intro done ρ σ A R w y s
 replace h2:=k1 s.rg h2
 have z2:=s.inivR 0 Z
 have h5:=s.r y 0 Z
 replace f_v0:=f_v0.stp s.stp
 obtain ⟨B,j,d⟩:=s.s B C j q ⟨Z,N⟩
 replace q:=s.left y [(0,ob (.pointer (some ⟨b2_0,0,none⟩)) (.box w0.heap.size 26 zA2 ([]:List zA8)))] ⟨Z,Z,z2,Z,Z,N⟩
 obtain ⟨x3,q4,c⟩:=zAB c
 have hFz:w0.heap.size<=w.heap.size:=j.size
 refine zQB 6 Z Z Z Z (zBg call22 (zGK (q4 Z) d (f_v0.eq h5))) ?_
 rintro v_ w ⟨b5,A,hG1,hv⟩ R n hd
 obtain ⟨hO2,hst⟩:=GPost.next0 q d hG1
 replace q:=hO2
 replace d:=hG1.avok
 replace B:∀ b o,A0 b o->A b o:=fun b o h=>hG1.low b o (B b o h)
 replace j:Fr w0 w:=j.trans hG1.ch.no
 replace q:=q.reX (B':=w0.heap.size) 0 Z hFz
 replace q:IniOK [ob (.pointer (some ⟨b5,0,none⟩)) (.box w0.heap.size 86 zA3 x3),ob (.pointer (some ⟨b2_0,0,none⟩)) (.box w0.heap.size 26 zA2 ([]:List zA8))] A w:=q
 replace h2:=(n 2 Z).trans h2
 replace h5:=(n 5 Z).trans h5
 replace f_v0:=f_v0.stp hst
 have h6:R 6=(.pointer (some ⟨b5,0,none⟩)):=hd.trans hv
 clear hFz hG1 hv n hd
 refine SG.textR [ob (.pointer (some ⟨b5,0,none⟩)) (.box w0.heap.size 86 zA3 x3),ob (.pointer (some ⟨b2_0,0,none⟩)) (.box w0.heap.size 26 zA2 ([]:List zA8))] (rR v0::rR (.pointer (some ⟨b5,0,none⟩))::rR (.pointer (some ⟨b5,0,none⟩))::[]) 3 Z Z Z (by kernel_rfl) (by kernel_rfl) (Wf.mk' (by kernel_rfl) (ur (ur (ur (UAll.nil)))) (by kernel_rfl) (by kernel_rfl)) q d (⟨⟨Z,Z,Z,h5⟩,⟨⟨Z,Z,Z,h6⟩,N⟩⟩) ?_ ?_
 exact ra<|rz
 intro done ρ σ A R w y s
 replace h2:=k1 s.rg h2
 have z6:=s.inivR 0 Z
 have z7:=s.inivR 1 Z
 have h4:=s.r y 2 Z
 obtain ⟨B,j,d⟩:=s.s B C j q ⟨Z,⟨Z,N⟩⟩
 replace q:=s.left y [(0,ob (.pointer (some ⟨b5,0,none⟩)) (.box w0.heap.size 86 zA3 x3)),(1,ob (.pointer (some ⟨b2_0,0,none⟩)) (.box w0.heap.size 26 zA2 ([]:List zA8)))] ⟨Z,Z,z6,Z,Z,⟨Z,Z,z7,Z,Z,N⟩⟩
 refine zQA Z ?_
 refine zQ0 ?_
 refine SG.of<|SG.textR [ob (.pointer (some ⟨b5,0,none⟩)) (.box w0.heap.size 86 zA3 x3),ob (.pointer (some ⟨b2_0,0,none⟩)) (.box w0.heap.size 26 zA2 ([]:List zA8))] (rR (.pointer (some ⟨b5,0,none⟩))::[]) 1 Z Z Z (by kernel_rfl) (by kernel_rfl) (Wf.mk' (by kernel_rfl) (ur (UAll.nil)) (by kernel_rfl) (by kernel_rfl)) q d (N) ?_ ?_
 exact rm h4<|rz
 intro done ρ σ A R w y s
 obtain ⟨h2,h4⟩:=k2 s.rg h2 h4
 have z8:=s.inivR 0 Z
 have z9:=s.inivR 1 Z
 have h7:=s.r y 0 Z
 obtain ⟨B,j,d⟩:=s.s B C j q ⟨Z,⟨Z,N⟩⟩
 replace q:=s.left y [(0,ob (.pointer (some ⟨b5,0,none⟩)) (.box w0.heap.size 86 zA3 x3)),(1,ob (.pointer (some ⟨b2_0,0,none⟩)) (.box w0.heap.size 26 zA2 ([]:List zA8)))] ⟨Z,Z,z8,Z,Z,⟨Z,Z,z9,Z,Z,N⟩⟩
 obtain ⟨x10,q11,c⟩:=zAB c
 have hFz:w0.heap.size<=w.heap.size:=j.size
 refine zQB 8 Z Z Z Z (zBg call23 (zHn (q11 Z) d h7 (q.sub [(0,ob (.pointer (some ⟨b5,0,none⟩)) (.box w0.heap.size 86 zA3 x3))] ⟨Z,Z,N⟩))) ?_
 rintro v_ w ⟨A,hG1,hv⟩ R n hd
 have hst:=zC1 d hG1 (q.ok 0 _ Z).2
 replace B:∀ b o,A0 b o->A b o:=zHq B C (q.ge (⟨Z,⟨Z,N⟩⟩)) 0 Z hG1
 replace j:Fr w0 w:=j.tr hG1.ch (fun k hk=>(q.ge (⟨Z,⟨Z,N⟩⟩)) k ⟨0,_,Z,hk⟩)
 replace q:=zPs q d 0 Z hG1
 replace d:=hG1.avok
 replace q:IniOK [ob (.pointer (some ⟨b5,0,none⟩)) (.box w0.heap.size 86 zA3 x10.2),ob (.pointer (some ⟨b2_0,0,none⟩)) (.box w0.heap.size 26 zA2 ([]:List zA8))] A w:=q
 replace h2:=(n 2 Z).trans h2
 replace h4:=(n 4 Z).trans h4
 replace h7:=(n 7 Z).trans h7
 obtain ⟨u12,h8,f_u12⟩:∃ u,R 8=u/\Rep zA2 A w u x10.1:=⟨_,Z,hd ▸ hv⟩
 clear hFz hG1 hv n hd
 refine SG.textR [ob (.pointer (some ⟨b5,0,none⟩)) (.box w0.heap.size 86 zA3 x10.2),ob (.pointer (some ⟨b2_0,0,none⟩)) (.box w0.heap.size 26 zA2 ([]:List zA8))] (rR (.pointer (some ⟨b5,0,none⟩))::rR u12::rR (.pointer (some ⟨b5,0,none⟩))::[]) 3 Z Z Z (by kernel_rfl) (by kernel_rfl) (Wf.mk' (by kernel_rfl) (ur (ur (ur (UAll.nil)))) (by kernel_rfl) (by kernel_rfl)) q d (⟨⟨Z,Z,Z,h7⟩,⟨⟨Z,Z,Z,h8⟩,N⟩⟩) ?_ ?_
 exact rm h4<|rz
 intro done ρ σ A R w y s
 replace h2:=k1 s.rg h2
 have z13:=s.inivR 0 Z
 have z14:=s.inivR 1 Z
 have h8:=s.r y 1 Z
 have h9:=s.r y 2 Z
 replace f_u12:=f_u12.stp s.stp
 obtain ⟨B,j,d⟩:=s.s B C j q ⟨Z,⟨Z,N⟩⟩
 replace q:=s.left y [(0,ob (.pointer (some ⟨b5,0,none⟩)) (.box w0.heap.size 86 zA3 x10.2)),(1,ob (.pointer (some ⟨b2_0,0,none⟩)) (.box w0.heap.size 26 zA2 ([]:List zA8)))] ⟨Z,Z,z13,Z,Z,⟨Z,Z,z14,Z,Z,N⟩⟩
 obtain ⟨x15,q16,c⟩:=zAB c
 have hFz:w0.heap.size<=w.heap.size:=j.size
 refine zQB 10 Z Z Z Z (zBg call24 (zGD (q16 Z) d h9 (q.sub [(0,ob (.pointer (some ⟨b5,0,none⟩)) (.box w0.heap.size 86 zA3 x10.2))] ⟨Z,Z,N⟩))) ?_
 rintro v_ w ⟨A,hG1,hv⟩ R n hd
 have hst:=zC1 d hG1 (q.ok 0 _ Z).2
 replace B:∀ b o,A0 b o->A b o:=zHq B C (q.ge (⟨Z,⟨Z,N⟩⟩)) 0 Z hG1
 replace j:Fr w0 w:=j.tr hG1.ch (fun k hk=>(q.ge (⟨Z,⟨Z,N⟩⟩)) k ⟨0,_,Z,hk⟩)
 replace q:=zPs q d 0 Z hG1
 replace d:=hG1.avok
 replace q:IniOK [ob (.pointer (some ⟨b5,0,none⟩)) (.box w0.heap.size 86 zA3 x15.2),ob (.pointer (some ⟨b2_0,0,none⟩)) (.box w0.heap.size 26 zA2 ([]:List zA8))] A w:=q
 replace h2:=(n 2 Z).trans h2
 replace h8:=(n 8 Z).trans h8
 replace h9:=(n 9 Z).trans h9
 replace f_u12:=f_u12.stp hst
 obtain ⟨u17,h10,f_u17⟩:∃ u,R 10=u/\Rep (eSl (eInt .i64)) A w u x15.1:=⟨_,Z,hd ▸ hv⟩
 clear hFz hG1 hv n hd
 refine SG.textR [ob (.pointer (some ⟨b5,0,none⟩)) (.box w0.heap.size 86 zA3 x15.2),ob (.pointer (some ⟨b2_0,0,none⟩)) (.box w0.heap.size 26 zA2 ([]:List zA8))] (rA::rR u12::rR (.pointer (some ⟨b5,0,none⟩))::rR u17::⟨_,true,[1],some (.box w0.heap.size 26 zA2 x10.1),false,fun A=>.any⟩::rR u17::[]) 6 Z Z Z (by kernel_rfl) (by kernel_rfl) (Wf.mk' (by kernel_rfl) (ua (ur (ur (ur (ua (ur (UAll.nil))))))) (by kernel_rfl) (by kernel_rfl)) q d (⟨⟨Z,Z,Z,N⟩,⟨⟨Z,Z,Z,h8⟩,⟨⟨Z,Z,Z,h9⟩,⟨⟨Z,Z,Z,h10⟩,N⟩⟩⟩⟩) ?_ ?_
 exact rc (OblR.took 1 _ _ Z Z Z Z Z fun V Q U O D u X Y J L M=>by have a0:Q 2=(.pointer (some ⟨b2_0,0,none⟩)):=(O.old 2 Z).trans h2;have a1:Q 8=u12:=D.g 0 Z;have ra1:=(f_u12.stp O.stp).eq a1;exact zAp ra1 a0 (J _ Z) X Y (FldS.id _) sizeOf26 Z)<|ra<|rz
 intro done ρ σ A R w y s
 replace h2:=k1 s.rg h2
 have z18:=s.inivR 0 Z
 have z19:=s.inivR 1 Z
 have z20:=s.on y 6 4 Z Z Z Z Z z19
 have h3:=s.r y 5 Z
 replace f_u17:=f_u17.stp s.stp
 obtain ⟨B,j,d⟩:=s.s B C j q ⟨Z,⟨Z,N⟩⟩
 replace q:=s.left y [(6,ob (.pointer (some ⟨b2_0,0,none⟩)) (.box w0.heap.size 26 zA2 x10.1))] ⟨Z,Z,z20,Z,Z,N⟩
 refine zQA Z ?_
 refine HT.ret ?_
 obtain rfl:=si c
 obtain ⟨v_2,e_2,p_2⟩:=zEO (q.ok 0 _ Z).1 h2 isAgg26 sizeOf26 B
 exact ⟨.inr Z,[v_2,R 3],⟨e_2,⟨Z,N⟩⟩,⟨_,_,Z,p_2,(f_u17.eq h3).down B⟩,j⟩
def zCa (fu:Nat) (p0:Int) (p1:Int) (p2:Int):Option Bool:=
 bd ((decide (p1<=p0))&&(decide (p0<=p2))) fun x1=>
 some x1
theorem zD6 {fu : Nat} {A : Av} {p0 : Int} {p1 : Int} {p2 : Int} {r : Bool} (c : zCa fu p0 p1 p2 = some r) {w : World} {v0 : Value} {v1 : Value} {v2 : Value} (d : AvOK A w) (h0 : v0=.int .i64 p0) (h1 : v1=.int .i64 p1) (h2 : v2=.int .i64 p2) :
 Calls prog 44 #[v0,v1,v2] w fun e w'=>∃ v,e=.returned v/\(v=.bool r/\Fr w w'):=by
 unfold zCa at c
 obtain ⟨w0,hw0,j⟩:=pf w
 rw [fw hw0]
 refine zAE [.tmp 6] func44 ntmps44 (by decide) Z Z (nb Z) ?_
 intro R hR
 replace h0:R 0=.int .i64 p0:=(hR 0 _ Z).trans h0
 replace h1:R 1=.int .i64 p1:=(hR 1 _ Z).trans h1
 replace h2:R 2=.int .i64 p2:=(hR 2 _ Z).trans h2
 refine zQ1 d j (eB false::[]) ?_ ?_
 exact op (fun Q U W H D=>zA9 Z)<|oz
 intro R w m n p d j
 obtain ⟨h0,h1,h2⟩:=k3 n h0 h1 h2
 refine zQ0 ?_
 obtain ⟨x1,q2,c⟩:=zAf c
 refine HT.u d j (eI p0::eI p1::eB (decide (p1<=p0))::eB (decide (p1<=p0))::gI (true&&((decide (p1<=p0))==true)) p0::gI (true&&((decide (p1<=p0))==true)) p2::gB (true&&((decide (p1<=p0))==true)) (decide (p0<=p2))::eB x1::eB x1::[]) ?_ ?_
 exact om h0<|om h1<|op (fun Q U W H D=>zFq (D.g 0 Z) (D.g 1 Z))<|ov<|gm 3 true h0<|gm 3 true h2<|og 3 true (fun G Q U W H D=>zHB (D.h 0 G Z) (D.h 1 G Z))<|op (fun Q U W H D=>zAl (decide (p1<=p0)) (D.g 0 Z) (fun hc=>by have a1:Q 13=.bool (decide (p0<=p2)):=D 1 _ _ _ Z Z Z Z (zCH Z (zBA hc));show _=Value.bool x1;rw [q2,hc];exact a1) (fun hc=>by show _=Value.bool x1;rw [q2,hc];exact Z))<|oa<|oz
 intro R w m n p d j
 have h6:=p.r 8 Z
 refine HT.ret ?_
 obtain rfl:=si c
 exact ⟨.inr Z,[R 6],⟨Z,N⟩,h6,j⟩
def zCg (fu:Nat) (p0:Int):Option Bool:=
 cl true (zCa fu p0 0 5) fun x1=>
 some x1
theorem zEV {fu : Nat} {A : Av} {p0 : Int} {r : Bool} (c : zCg fu p0 = some r) {w : World} {v0 : Value} (d : AvOK A w) (h0 : v0=.int .i64 p0) :
 Calls prog 45 #[v0] w fun e w'=>∃ v,e=.returned v/\(v=.bool r/\Fr w w'):=by
 unfold zCg at c
 obtain ⟨w0,hw0,j⟩:=pf w
 rw [fw hw0]
 refine zAE [.tmp 2] func45 ntmps45 (by decide) Z Z (nb Z) ?_
 intro R hR
 replace h0:R 0=.int .i64 p0:=(hR 0 _ Z).trans h0
 refine zQ1 d j (eB false::[]) ?_ ?_
 exact op (fun Q U W H D=>zA9 Z)<|oz
 intro R w m n p d j
 replace h0:=k1 n h0
 obtain ⟨x1,q2,c⟩:=zAB c
 refine zQ1 d j (eI p0::eB x1::eB x1::[]) ?_ ?_
 exact om h0<|op (fun Q U W H D=>zAN call44 (zD6 (q2 Z) (d.fr W.size) (D.g 0 Z) Z Z))<|oa<|oz
 intro R w m n p d j
 have h2:=p.r 2 Z
 refine HT.ret ?_
 obtain rfl:=si c
 exact ⟨.inr Z,[R 2],⟨Z,N⟩,h2,j⟩
def zD1 (fu:Nat) (p0:Int):Option Bool:=
 cl true (zCa fu p0 1 1000) fun x1=>
 some x1
theorem zEx {fu : Nat} {A : Av} {p0 : Int} {r : Bool} (c : zD1 fu p0 = some r) {w : World} {v0 : Value} (d : AvOK A w) (h0 : v0=.int .i64 p0) :
 Calls prog 46 #[v0] w fun e w'=>∃ v,e=.returned v/\(v=.bool r/\Fr w w'):=by
 unfold zD1 at c
 obtain ⟨w0,hw0,j⟩:=pf w
 rw [fw hw0]
 refine zAE [.tmp 2] func46 ntmps46 (by decide) Z Z (nb Z) ?_
 intro R hR
 replace h0:R 0=.int .i64 p0:=(hR 0 _ Z).trans h0
 refine zQ1 d j (eB false::[]) ?_ ?_
 exact op (fun Q U W H D=>zA9 Z)<|oz
 intro R w m n p d j
 replace h0:=k1 n h0
 obtain ⟨x1,q2,c⟩:=zAB c
 refine zQ1 d j (eI p0::eB x1::eB x1::[]) ?_ ?_
 exact om h0<|op (fun Q U W H D=>zAN call44 (zD6 (q2 Z) (d.fr W.size) (D.g 0 Z) Z Z))<|oa<|oz
 intro R w m n p d j
 have h2:=p.r 2 Z
 refine HT.ret ?_
 obtain rfl:=si c
 exact ⟨.inr Z,[R 2],⟨Z,N⟩,h2,j⟩
end Go.Proofs.YtmgiijdejigdhaaGreatDoor
