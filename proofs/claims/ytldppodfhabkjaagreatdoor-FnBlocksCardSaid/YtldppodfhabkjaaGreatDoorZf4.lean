/- Own texts laid together. No statement of the seat is proved here. -/
import Derived.Test.YtldppodfhabkjaaGreatDoorZf3
namespace Go.Proofs.YtldppodfhabkjaaGreatDoor
open Go.RowKit
set_option linter.unusedVariables false
open _root_.Go.Proofs.Tryz
set_option maxRecDepth 100000
set_option maxHeartbeats 4000000
def zBQ (fu : Nat) (p0 : List UInt8) : Nat -> Int -> (List Int) -> Option (List Int)
 | 0,_,_=>none
 | k+1,y5,y6=>
 bif (decide (y5<(p0.length:Int))) then (
 ck (inR y5 p0.length) <|
 ck (!(true&&((decide (48<=(bAt p0 y5)))==true)) || inR y5 p0.length) <|
 bd ((decide (48<=(bAt p0 y5)))&&(decide ((bAt p0 y5)<=57))) fun x10=>
 bif x10 then (
 ck (inR y5 p0.length) <|
 ck (zBJ (y6.length+([(bAt p0 y5)]:List Int).length)) <|
 ck (i64B (y5+1)) <|
 zBQ fu p0 k (y5+1) (y6++([(bAt p0 y5)]:List Int))
 ) else (
 ck (i64B (y5+1)) <|
 zBQ fu p0 k (y5+1) y6
 )
 ) else (
 some y6
 )
def zDo (fu:Nat) (p0:List UInt8):Option (List UInt8):=
 cl true (zBQ fu p0 fu 0 ([]:List Int)) fun s4=>
 some (strB s4)
theorem zHT {fu : Nat} {A0 : Av} {p0 : List UInt8} {r : List UInt8} (c : zDo fu p0 = some r) {w : World} {v0 : Value} (d : AvOK A0 w) (h0 : Rep eStr A0 w v0 p0) :
 Calls prog 62 #[v0] w fun e w'=>∃ v,e=.returned v/\(Rep eStr A0 w' v r/\Fr w w'):=by
 unfold zDo at c
 obtain ⟨w0,hw0,j,C⟩:=pw d
 have hA00:AvOK A0 w0:=C
 rw [fw hw0]
 obtain ⟨A,hAe,B,d,q⟩:=pa d
 refine zA9 [.tmp 2] func62 ntmps62 (by decide) Z Z (nb Z) ?_
 intro R hR
 have f_v0:Rep eStr A w v0 p0:=hAe ▸ h0
 replace h0:R 0=v0:=hR 0 _ Z
 refine zQU d j (eF (.rep eStr A ([]:List UInt8))::[]) ?_ ?_
 exact op (fun Q U W H D=>zA2 ⟨_,Z,⟨_,Z,Z,by decide⟩⟩)<|oz
 intro R w m n p d j
 replace h0:=k1 n h0
 replace f_v0:=f_v0.fr m
 replace q:=q.fr m
 refine zQV [] (⟨_,true,[],some (.vec w0.heap.size 5 (eInt .u8) ([]:List Int)),true,fun A=>.any⟩::⟨_,true,[0],some (.vec w0.heap.size 5 (eInt .u8) ([]:List Int)),true,fun A=>.any⟩::[]) (ua (ua (UAll.nil))) q d ?_ ?_
 exact rc (OblR.made _ Z Z Z Z fun V Q U O D=>by exact zC0 [] (E:=eInt .u8) N underlying43 sizeOf5 zeroValue5 Z Z Z (Nat.le_trans j.size O.ch.size))<|rc (OblR.took 0 _ _ Z Z Z Z Z fun V Q U O D u X Y J L M=>by exact zAD (L _ _ Z Z Z Z).symm X Y)<|rz
 intro done ρ σ A R w y s
 replace h0:=k1 s.rg h0
 obtain ⟨u1,e_u1⟩:∃ u,ρ 1=u:=⟨_,Z⟩
 have h3:=s.ov y 1 1 e_u1
 replace f_v0:=f_v0.stp s.stp
 obtain ⟨B,j,d⟩:=s.s B C j q N
 replace q:=s.left y [(1,ob u1 (.vec w0.heap.size 5 (eInt .u8) ([]:List Int)))] ⟨Z,Z,e_u1,Z,Z,N⟩
 refine zQT<|zQU d j (eI 0::[]) ?_ ?_
 exact op (fun Q U W H D=>zA2 Z)<|oz
 intro R w m n p d j
 obtain ⟨h0,h3⟩:=k2 n h0 h3
 have h4:=p.r 0 Z
 replace f_v0:=f_v0.fr m
 replace q:=q.fr m
 obtain ⟨rl2,q3,c⟩:=zA6 c
 replace q3:=q3 Z
 refine zQO (fun R w=>∃ A:Av,∃ (s4:(List Int)) (uo_u1:Value),rl2=s4/\AvOK A w/\Fr w0 w/\(∀ b o,A0 b o->A b o)/\IniOK [ob uo_u1 (.vec w0.heap.size 5 (eInt .u8) s4)] A w/\R 3=uo_u1) ?_ ?_
 refine HT.block<|zQS (fun k R w=>∃ A:Av,∃ (y5:Int) (y6:List Int) (ul_u1:Value),zBQ fu p0 k y5 y6=some rl2/\AvOK A w/\Fr w0 w/\(∀ b o,A0 b o->A b o)/\IniOK [ob ul_u1 (.vec w0.heap.size 5 (eInt .u8) y6)] A w/\R 0=v0/\R 3=ul_u1/\R 4=.int .i64 y5/\Rep eStr A w v0 p0) fu ⟨_,_,_,u1,q3,d,j,B,q,h0,h3,h4,f_v0⟩ ?_
 have hr0:=c;clear c q3
 rintro k R w ⟨A,y5,y6,ul_u1,c,d,j,B,q,h0,h3,h4,f_v0⟩
 rcases k with _ | k
 cases (show none=some _ from c)
 rw [zBQ] at c
 refine zQT<|zQU d j (eI y5::eR v0::eI (p0.length:Int)::eB (decide (y5<(p0.length:Int)))::[]) ?_ ?_
 exact om h4<|om h0<|op (fun Q U W H D=>zB0 ((f_v0.fr W).eq (D.g 0 Z)) underlying9)<|op (fun Q U W H D=>zAk (D.g 0 Z) (D.g 1 Z))<|oz
 intro R w m n p d j
 obtain ⟨h0,h3,h4⟩:=k3 n h0 h3 h4
 have h9:=p.r 3 Z
 replace f_v0:=f_v0.fr m
 replace q:=q.fr m
 refine zQM (decide (y5<(p0.length:Int))) h9 (fun c7=>?_) (fun c7=>?_)
 have c:=zAN c7 c
 refine HT.skip<|zQT<|HT.block<|zQT ?_
 obtain ⟨e8,e9,c⟩:=ck2 c
 obtain ⟨x10,q11,c⟩:=zAU c
 refine HT.u d j (eR v0::eI y5::eU (bAt p0 y5)::eB (decide (48<=(bAt p0 y5)))::eB (decide (48<=(bAt p0 y5)))::gR (true&&((decide (48<=(bAt p0 y5)))==true)) v0::gI (true&&((decide (48<=(bAt p0 y5)))==true)) y5::gU (true&&((decide (48<=(bAt p0 y5)))==true)) (bAt p0 y5)::gB (true&&((decide (48<=(bAt p0 y5)))==true)) (decide ((bAt p0 y5)<=57))::eB x10::[]) ?_ ?_
 exact om h0<|om h4<|op (fun Q U W H D=>zAf ((f_v0.fr W).eq (D.g 0 Z)) (D.g 1 Z) underlying9 e8)<|op (fun Q U W H D=>zE8 (D.g 0 Z) Z)<|ov<|gm 4 true h0<|gm 4 true h4<|og 4 true (fun G Q U W H D=>zAf ((f_v0.fr W).eq (D.h 0 G Z)) (D.h 1 G Z) underlying9 (gd e9 G))<|og 4 true (fun G Q U W H D=>zEZ (D.h 0 G Z) Z)<|op (fun Q U W H D=>zAX (decide (48<=(bAt p0 y5))) (D.g 0 Z) (fun hc=>by have a1:Q 20=.bool (decide ((bAt p0 y5)<=57)):=D 1 _ _ _ Z Z Z Z (zC2 Z (zB2 hc));show _=Value.bool x10;rw [q11,hc];exact a1) (fun hc=>by show _=Value.bool x10;rw [q11,hc];exact Z))<|oz
 intro R w m n p d j
 obtain ⟨h0,h3,h4⟩:=k3 n h0 h3 h4
 have h21:=p.r 9 Z
 replace f_v0:=f_v0.fr m
 replace q:=q.fr m
 refine zQM x10 h21 (fun c12=>?_) (fun c12=>?_)
 have c:=zAN c12 c
 obtain ⟨e13,e14,c⟩:=ck2 c
 refine zQY [ob ul_u1 (.vec w0.heap.size 5 (eInt .u8) y6)] (rR ul_u1::rR v0::rI y5::rU (bAt p0 y5)::(rF fun A=>.rep (eSl (eInt .u8)) A ([(bAt p0 y5)]:List Int))::⟨_,true,[0],some (.vec w0.heap.size 5 (eInt .u8) (y6++([(bAt p0 y5)]:List Int))),true,fun A=>.any⟩::⟨_,true,[6],some (.vec w0.heap.size 5 (eInt .u8) (y6++([(bAt p0 y5)]:List Int))),true,fun A=>.any⟩::[]) (ur (ur (ur (ur (up (ua (ua (UAll.nil)))))))) q d ?_ ?_
 exact rm h3<|rm h0<|rm h4<|rp (fun V Q U O D=>zAf ((f_v0.stp O.stp).eq (D.g 0 Z)) (D.g 1 Z) underlying9 e13)<|rp (fun V Q U O D=>zAe [_] (E:=eInt .u8) ⟨(zBT.eq (D.g 0 Z)),N⟩ underlying43 sizeOf5 zeroValue5 Z Z Z O.av)<|rc (OblR.took 0 _ _ Z Z Z Z Z fun V Q U O D u X Y J L M=>by have a0:Q 22=ul_u1:=D.g 0 Z;have a1:Rep (eSl (eInt .u8)) V U (Q 26) ([(bAt p0 y5)]:List Int):=D.g 1 Z;exact zAW (a0.trans (J _ Z).symm) X Y (Nat.le_trans j.size O.ch.size) a1 underlying43 el_5 e14)<|rc (OblR.took 6 _ _ Z Z Z Z Z fun V Q U O D u X Y J L M=>by exact zAD (L _ _ Z Z Z Z).symm X Y)<|rz
 intro done ρ σ A R w y s
 obtain ⟨h0,h4⟩:=k2 s.rg h0 h4
 obtain ⟨u15,e_u15⟩:∃ u,ρ 7=u:=⟨_,Z⟩
 have h3:=s.ov y 7 6 e_u15
 replace f_v0:=f_v0.stp s.stp
 obtain ⟨B,j,d⟩:=s.s B C j q ⟨Z,N⟩
 replace q:=s.left y [(7,ob u15 (.vec w0.heap.size 5 (eInt .u8) (y6++([(bAt p0 y5)]:List Int))))] ⟨Z,Z,e_u15,Z,Z,N⟩
 obtain ⟨e16,c⟩:=zA7 c
 refine HT.u d j (eI y5::eI (y5+1)::eI (y5+1)::[]) ?_ ?_
 exact om h4<|op (fun Q U W H D=>zAS (D.g 0 Z) Z e16)<|oa<|oz
 intro R w m n p d j
 obtain ⟨h0,h3⟩:=k2 n h0 h3
 have h4:=p.r 2 Z
 replace f_v0:=f_v0.fr m
 replace q:=q.fr m
 exact ei k (And.intro (Nat.lt_succ_self k) ⟨_,_,_,u15,c,d,j,B,q,h0,h3,h4,f_v0⟩)
 have c:=zAM c12 c
 refine HT.skip ?_
 obtain ⟨e17,c⟩:=zA7 c
 refine HT.u d j (eI y5::eI (y5+1)::eI (y5+1)::[]) ?_ ?_
 exact om h4<|op (fun Q U W H D=>zAS (D.g 0 Z) Z e17)<|oa<|oz
 intro R w m n p d j
 obtain ⟨h0,h3⟩:=k2 n h0 h3
 have h4:=p.r 2 Z
 replace f_v0:=f_v0.fr m
 replace q:=q.fr m
 exact ei k (And.intro (Nat.lt_succ_self k) ⟨_,_,_,ul_u1,c,d,j,B,q,h0,h3,h4,f_v0⟩)
 have c:=zAM c7 c
 refine zQR ?_
 obtain rfl:=si c
 exact ei _ ⟨_,ul_u1,Z,d,j,B,q,h3⟩
 rintro R w ⟨A,s4,uo_u1,es,d,j,B,q,h3⟩
 obtain rfl:=es.symm
 refine zQU d j (eR uo_u1::eF (.rep eStr A (strB s4))::eF (.rep eStr A (strB s4))::[]) ?_ ?_
 exact om h3<|op (fun Q U W H D=>zC4 ((zCB ((q.fr W).ok 0 _ Z).1 B C).eq (D.g 0 Z)) underlying43 underlying5 underlying9)<|op (fun Q U W H D=>zA2 (D.g 0 Z))<|oz
 intro R w m n p d j
 obtain ⟨u18,h2,f_u18⟩:∃ u,R 2=u/\Rep eStr A w u (strB s4):=⟨_,Z,p 2 _ _ Z Z Z⟩
 replace q:=q.fr m
 replace q:IniOK [] A w:=q.sub [] N
 refine HT.ret ?_
 obtain rfl:=si c
 exact ⟨.inr Z,[R 2],⟨Z,N⟩,(f_u18.eq h2).down B,j⟩
def zBZ (fu : Nat) : Nat -> Int -> (List UInt8) -> Option (List UInt8)
 | 0,_,_=>none
 | k+1,y7,y8=>
 bif (y7 != 0) then (
 ck ((10:Int) != 0) <|
 bif (decide ((y7.tmod 10)<0)) then (
 ck (i64B (0-(y7.tmod 10))) <|
 ck (i64B (48+(0-(y7.tmod 10)))) <|
 ck (zBJ ((strB ([(IntKind.u8.wrap (48+(0-(y7.tmod 10))))]:List Int))++y8).length) <|
 ck ((10:Int) != 0) <|
 ck (i64B (y7.tdiv 10)) <|
 zBZ fu k (y7.tdiv 10) ((strB ([(IntKind.u8.wrap (48+(0-(y7.tmod 10))))]:List Int))++y8)
 ) else (
 ck (i64B (48+(y7.tmod 10))) <|
 ck (zBJ ((strB ([(IntKind.u8.wrap (48+(y7.tmod 10)))]:List Int))++y8).length) <|
 ck ((10:Int) != 0) <|
 ck (i64B (y7.tdiv 10)) <|
 zBZ fu k (y7.tdiv 10) ((strB ([(IntKind.u8.wrap (48+(y7.tmod 10)))]:List Int))++y8)
 )
 ) else (
 some y8
 )
def zC6 (fu:Nat) (p0:Int):Option (List UInt8):=
 bif (p0==0) then (
 some ([48]:List UInt8)
 ) else (
 cl true (zBZ fu fu p0 ([]:List UInt8)) fun s6=>
 bif (decide (p0<0)) then (
 ck (zBJ (([45]:List UInt8)++s6).length) <|
 some (([45]:List UInt8)++s6)
 ) else (
 some s6
 )
 )
theorem zDb {fu : Nat} {A : Av} {p0 : Int} {r : List UInt8} (c : zC6 fu p0 = some r) {w : World} {v0 : Value} (d : AvOK A w) (h0 : v0=.int .i64 p0) :
 Calls prog 65 #[v0] w fun e w'=>∃ v,e=.returned v/\(Rep eStr A w' v r/\Fr w w'):=by
 unfold zC6 at c
 obtain ⟨w0,hw0,j⟩:=pf w
 rw [fw hw0]
 refine zA9 [.tmp 2] func65 ntmps65 (by decide) Z Z (nb Z) ?_
 intro R hR
 replace h0:R 0=.int .i64 p0:=(hR 0 _ Z).trans h0
 refine zQU d j (eF (.rep eStr A ([]:List UInt8))::[]) ?_ ?_
 exact op (fun Q U W H D=>zA2 ⟨_,Z,⟨_,Z,Z,by decide⟩⟩)<|oz
 intro R w m n p d j
 replace h0:=k1 n h0
 refine zQT<|zQU d j (eI p0::eB (p0==0)::[]) ?_ ?_
 exact om h0<|op (fun Q U W H D=>zDM (D.g 0 Z) Z)<|oz
 intro R w m n p d j
 replace h0:=k1 n h0
 have h7:=p.r 1 Z
 refine zQM (p0==0) h7 (fun c1=>?_) (fun c1=>?_)
 have c:=zAN c1 c
 refine zQU d j (eF (.rep eStr A ([48]:List UInt8))::[]) ?_ ?_
 exact op (fun Q U W H D=>zA2 ⟨_,Z,⟨_,Z,Z,by decide⟩⟩)<|oz
 intro R w m n p d j
 obtain ⟨u2,h2,f_u2⟩:∃ u,R 2=u/\Rep eStr A w u ([48]:List UInt8):=⟨_,Z,p 0 _ _ Z Z Z⟩
 refine HT.ret ?_
 obtain rfl:=si c
 exact ⟨.inr Z,[R 2],⟨Z,N⟩,(f_u2.eq h2),j⟩
 have c:=zAM c1 c
 refine HT.skip<|zQU d j (eF (.rep eStr A ([]:List UInt8))::[]) ?_ ?_
 exact op (fun Q U W H D=>zA2 ⟨_,Z,⟨_,Z,Z,by decide⟩⟩)<|oz
 intro R w m n p d j
 replace h0:=k1 n h0
 obtain ⟨u3,h3,f_u3⟩:∃ u,R 3=u/\Rep eStr A w u ([]:List UInt8):=⟨_,Z,p 0 _ _ Z Z Z⟩
 refine zQU d j (eI p0::eB (decide (p0<0))::eB (decide (p0<0))::[]) ?_ ?_
 exact om h0<|op (fun Q U W H D=>zAk (D.g 0 Z) Z)<|oa<|oz
 intro R w m n p d j
 obtain ⟨h0,h3⟩:=k2 n h0 h3
 have h4:=p.r 2 Z
 replace f_u3:=f_u3.fr m
 obtain ⟨rl4,q5,c⟩:=zA6 c
 replace q5:=q5 Z
 refine zQN (fun R w=>∃ (s6:(List UInt8)) (wo_3:Value),rl4=s6/\AvOK A w/\Fr w0 w/\R 3=wo_3/\R 4=.bool (decide (p0<0))/\Rep eStr A w wo_3 s6) ?_ ?_
 refine HT.block<|zQS (fun k R w=>∃ (y7:Int) (y8:List UInt8) (wl_3:Value),zBZ fu k y7 y8=some rl4/\AvOK A w/\Fr w0 w/\R 0=.int .i64 y7/\R 3=wl_3/\R 4=.bool (decide (p0<0))/\Rep eStr A w wl_3 y8) fu ⟨_,_,u3,q5,d,j,h0,h3,h4,f_u3⟩ ?_
 have hr0:=c;clear c q5
 rintro k R w ⟨y7,y8,wl_3,c,d,j,h0,h3,h4,f_wl_3⟩
 rcases k with _ | k
 cases (show none=some _ from c)
 rw [zBZ] at c
 refine zQT<|zQU d j (eI y7::eB (y7 != 0)::[]) ?_ ?_
 exact om h0<|op (fun Q U W H D=>zH1 (D.g 0 Z) Z)<|oz
 intro R w m n p d j
 obtain ⟨h0,h3,h4⟩:=k3 n h0 h3 h4
 have h11:=p.r 1 Z
 replace f_wl_3:=f_wl_3.fr m
 refine zQM (y7 != 0) h11 (fun c9=>?_) (fun c9=>?_)
 have c:=zAN c9 c
 refine HT.skip<|HT.block ?_
 obtain ⟨e10,c⟩:=zA7 c
 refine zQU d j (eI y7::eI (y7.tmod 10)::eI (y7.tmod 10)::[]) ?_ ?_
 exact om h0<|op (fun Q U W H D=>zMQ (D.g 0 Z) Z e10)<|oa<|oz
 intro R w m n p d j
 obtain ⟨h0,h3,h4⟩:=k3 n h0 h3 h4
 have h5:=p.r 2 Z
 replace f_wl_3:=f_wl_3.fr m
 refine zQT<|zQU d j (eI (y7.tmod 10)::eB (decide ((y7.tmod 10)<0))::[]) ?_ ?_
 exact om h5<|op (fun Q U W H D=>zAk (D.g 0 Z) Z)<|oz
 intro R w m n p d j
 obtain ⟨h0,h3,h4,h5⟩:=k4 n h0 h3 h4 h5
 have h15:=p.r 1 Z
 replace f_wl_3:=f_wl_3.fr m
 refine zQM (decide ((y7.tmod 10)<0)) h15 (fun c11=>?_) (fun c11=>?_)
 have c:=zAN c11 c
 obtain ⟨e12,c⟩:=zA7 c
 refine HT.u d j (eI (y7.tmod 10)::eI (0-(y7.tmod 10))::eI (0-(y7.tmod 10))::[]) ?_ ?_
 exact om h5<|op (fun Q U W H D=>zON (D.g 0 Z) e12)<|oa<|oz
 intro R w m n p d j
 obtain ⟨h0,h3,h4⟩:=k3 n h0 h3 h4
 have h5:=p.r 2 Z
 replace f_wl_3:=f_wl_3.fr m
 obtain ⟨e13,e14,c⟩:=ck2 c
 refine zQU d j (eI (0-(y7.tmod 10))::eI (48+(0-(y7.tmod 10)))::eU (IntKind.u8.wrap (48+(0-(y7.tmod 10))))::eF (.rep (eSl (eInt .u8)) A ([(IntKind.u8.wrap (48+(0-(y7.tmod 10))))]:List Int))::eF (.rep eStr A (strB ([(IntKind.u8.wrap (48+(0-(y7.tmod 10))))]:List Int)))::eR wl_3::eF (.rep eStr A ((strB ([(IntKind.u8.wrap (48+(0-(y7.tmod 10))))]:List Int))++y8))::eF (.rep eStr A ((strB ([(IntKind.u8.wrap (48+(0-(y7.tmod 10))))]:List Int))++y8))::[]) ?_ ?_
 exact om h5<|op (fun Q U W H D=>zAS Z (D.g 0 Z) e13)<|op (fun Q U W H D=>zDr (D.g 0 Z) underlying3 underlying5)<|op (fun Q U W H D=>zAe [_] (E:=eInt .u8) ⟨(zBT.eq (D.g 0 Z)),N⟩ underlying43 sizeOf5 zeroValue5 Z Z Z (d.fr W.size))<|op (fun Q U W H D=>zC4 (D.g 0 Z) underlying43 underlying5 underlying9)<|om h3<|op (fun Q U W H D=>zDm (D.g 0 Z) ((f_wl_3.fr W).eq (D.g 1 Z)) e14)<|op (fun Q U W H D=>zA2 (D.g 0 Z))<|oz
 intro R w m n p d j
 obtain ⟨h0,h4⟩:=k2 n h0 h4
 obtain ⟨u15,h3,f_u15⟩:∃ u,R 3=u/\Rep eStr A w u ((strB ([(IntKind.u8.wrap (48+(0-(y7.tmod 10))))]:List Int))++y8):=⟨_,Z,p 7 _ _ Z Z Z⟩
 obtain ⟨e16,e17,c⟩:=ck2 c
 refine HT.u d j (eI y7::eI (y7.tdiv 10)::eI (y7.tdiv 10)::[]) ?_ ?_
 exact om h0<|op (fun Q U W H D=>zOQ (D.g 0 Z) Z e16 e17)<|oa<|oz
 intro R w m n p d j
 obtain ⟨h3,h4⟩:=k2 n h3 h4
 have h0:=p.r 2 Z
 replace f_u15:=f_u15.fr m
 exact ei k (And.intro (Nat.lt_succ_self k) ⟨_,_,u15,c,d,j,h0,h3,h4,f_u15⟩)
 have c:=zAM c11 c
 refine HT.skip ?_
 obtain ⟨e18,e19,c⟩:=ck2 c
 refine zQU d j (eI (y7.tmod 10)::eI (48+(y7.tmod 10))::eU (IntKind.u8.wrap (48+(y7.tmod 10)))::eF (.rep (eSl (eInt .u8)) A ([(IntKind.u8.wrap (48+(y7.tmod 10)))]:List Int))::eF (.rep eStr A (strB ([(IntKind.u8.wrap (48+(y7.tmod 10)))]:List Int)))::eR wl_3::eF (.rep eStr A ((strB ([(IntKind.u8.wrap (48+(y7.tmod 10)))]:List Int))++y8))::eF (.rep eStr A ((strB ([(IntKind.u8.wrap (48+(y7.tmod 10)))]:List Int))++y8))::[]) ?_ ?_
 exact om h5<|op (fun Q U W H D=>zAS Z (D.g 0 Z) e18)<|op (fun Q U W H D=>zDr (D.g 0 Z) underlying3 underlying5)<|op (fun Q U W H D=>zAe [_] (E:=eInt .u8) ⟨(zBT.eq (D.g 0 Z)),N⟩ underlying43 sizeOf5 zeroValue5 Z Z Z (d.fr W.size))<|op (fun Q U W H D=>zC4 (D.g 0 Z) underlying43 underlying5 underlying9)<|om h3<|op (fun Q U W H D=>zDm (D.g 0 Z) ((f_wl_3.fr W).eq (D.g 1 Z)) e19)<|op (fun Q U W H D=>zA2 (D.g 0 Z))<|oz
 intro R w m n p d j
 obtain ⟨h0,h4⟩:=k2 n h0 h4
 obtain ⟨u20,h3,f_u20⟩:∃ u,R 3=u/\Rep eStr A w u ((strB ([(IntKind.u8.wrap (48+(y7.tmod 10)))]:List Int))++y8):=⟨_,Z,p 7 _ _ Z Z Z⟩
 obtain ⟨e21,e22,c⟩:=ck2 c
 refine HT.u d j (eI y7::eI (y7.tdiv 10)::eI (y7.tdiv 10)::[]) ?_ ?_
 exact om h0<|op (fun Q U W H D=>zOQ (D.g 0 Z) Z e21 e22)<|oa<|oz
 intro R w m n p d j
 obtain ⟨h3,h4⟩:=k2 n h3 h4
 have h0:=p.r 2 Z
 replace f_u20:=f_u20.fr m
 exact ei k (And.intro (Nat.lt_succ_self k) ⟨_,_,u20,c,d,j,h0,h3,h4,f_u20⟩)
 have c:=zAM c9 c
 refine zQR ?_
 obtain rfl:=si c
 exact ei _ ⟨wl_3,Z,d,j,h3,h4,f_wl_3⟩
 rintro R w ⟨s6,wo_3,es,d,j,h3,h4,f_wo_3⟩
 obtain rfl:=es.symm
 refine zQT<|zQU d j (eB (decide (p0<0))::[]) ?_ ?_
 exact om h4<|oz
 intro R w m n p d j
 replace h3:=k1 n h3
 have h27:=p.r 0 Z
 replace f_wo_3:=f_wo_3.fr m
 refine zQM (decide (p0<0)) h27 (fun c23=>?_) (fun c23=>?_)
 have c:=zAN c23 c
 obtain ⟨e24,c⟩:=zA7 c
 refine zQU d j (eR wo_3::eF (.rep eStr A (([45]:List UInt8)++s6))::eF (.rep eStr A (([45]:List UInt8)++s6))::[]) ?_ ?_
 exact om h3<|op (fun Q U W H D=>zDm ⟨_,Z,⟨_,Z,Z,by decide⟩⟩ ((f_wo_3.fr W).eq (D.g 0 Z)) e24)<|op (fun Q U W H D=>zA2 (D.g 0 Z))<|oz
 intro R w m n p d j
 obtain ⟨u25,h2,f_u25⟩:∃ u,R 2=u/\Rep eStr A w u (([45]:List UInt8)++s6):=⟨_,Z,p 2 _ _ Z Z Z⟩
 refine HT.ret ?_
 obtain rfl:=si c
 exact ⟨.inr Z,[R 2],⟨Z,N⟩,(f_u25.eq h2),j⟩
 have c:=zAM c23 c
 refine HT.skip<|zQU d j (eR wo_3::eR wo_3::[]) ?_ ?_
 exact om h3<|oa<|oz
 intro R w m n p d j
 have h2:=p.r 1 Z
 replace f_wo_3:=f_wo_3.fr m
 refine HT.ret ?_
 obtain rfl:=si c
 exact ⟨.inr Z,[R 2],⟨Z,N⟩,(f_wo_3.eq h2),j⟩
def zBH (fu : Nat) (p0 : List UInt8) : Nat -> Int -> Int -> Int -> Option (Int × Int)
 | 0,_,_,_=>none
 | k+1,y4,y5,y6=>
 bd ((decide (y6<(p0.length:Int)))&&(decide (y6<11))) fun x7=>
 bif x7 then (
 ck (inR y6 p0.length) <|
 ck (!(true&&((decide (48<=(bAt p0 y6)))==true)) || inR y6 p0.length) <|
 bd ((decide (48<=(bAt p0 y6)))&&(decide ((bAt p0 y6)<=57))) fun x12=>
 bif x12 then (
 ck (i64B (y4*10)) <|
 ck (inR y6 p0.length) <|
 ck (i64B ((y4*10)+(IntKind.i64.wrap (IntKind.u8.wrap ((bAt p0 y6)-48))))) <|
 ck (i64B (y5+1)) <|
 ck (i64B (y6+1)) <|
 zBH fu p0 k ((y4*10)+(IntKind.i64.wrap (IntKind.u8.wrap ((bAt p0 y6)-48)))) (y5+1) (y6+1)
 ) else (
 ck (i64B (y6+1)) <|
 zBH fu p0 k y4 y5 (y6+1)
 )
 ) else (
 some (y4,y5)
 )
def zDq (fu:Nat) (p0:List UInt8):Option (Int × Bool):=
 cl true (zBH fu p0 fu 0 0 0) fun s3=>
 ck (!(true&&((decide (0<(p0.length:Int)))==true)) || inR 0 p0.length) <|
 bd ((decide (0<(p0.length:Int)))&&((bAt p0 0)==45)) fun x22=>
 bif x22 then (
 ck (i64B (0-s3.1)) <|
 bd ((decide (9<s3.2)) || (decide (10<(p0.length:Int)))) fun x26=>
 cl (true&&(x26==false)) (zC6 fu (0-s3.1)) fun x28=>
 bd (x26 || (!(x28==p0))) fun x30=>
 bif x30 then (
 some (0,false)
 ) else (
 some ((0-s3.1),true)
 )
 ) else (
 bd ((decide (9<s3.2)) || (decide (10<(p0.length:Int)))) fun x33=>
 cl (true&&(x33==false)) (zC6 fu s3.1) fun x35=>
 bd (x33 || (!(x35==p0))) fun x37=>
 bif x37 then (
 some (0,false)
 ) else (
 some (s3.1,true)
 )
 )
theorem zHN {fu : Nat} {A : Av} {p0 : List UInt8} {r : Int × Bool} (c : zDq fu p0 = some r) {w : World} {v0 : Value} (d : AvOK A w) (h0 : Rep eStr A w v0 p0) :
 Calls prog 98 #[v0] w fun e w'=>∃ v,e=.returned v/\((∃ a b,v=.tuple #[a,b]/\a=.int .i64 r.1/\b=.bool r.2)/\Fr w w'):=by
 unfold zDq at c
 obtain ⟨w0,hw0,j⟩:=pf w
 rw [fw hw0]
 refine zA9 [.tmp 2,.tmp 3] func98 ntmps98 (by decide) Z Z (nb Z) ?_
 intro R hR
 have f_v0:=h0
 replace h0:R 0=v0:=hR 0 _ Z
 refine zQU d j (eI 0::eB false::[]) ?_ ?_
 exact op (fun Q U W H D=>zA2 Z)<|op (fun Q U W H D=>zA2 Z)<|oz
 intro R w m n p d j
 replace h0:=k1 n h0
 replace f_v0:=f_v0.fr m
 refine zQU d j (eI 0::[]) ?_ ?_
 exact op (fun Q U W H D=>zA2 Z)<|oz
 intro R w m n p d j
 replace h0:=k1 n h0
 have h4:=p.r 0 Z
 replace f_v0:=f_v0.fr m
 refine zQU d j (eI 0::[]) ?_ ?_
 exact op (fun Q U W H D=>zA2 Z)<|oz
 intro R w m n p d j
 obtain ⟨h0,h4⟩:=k2 n h0 h4
 have h5:=p.r 0 Z
 replace f_v0:=f_v0.fr m
 refine zQT<|zQU d j (eI 0::[]) ?_ ?_
 exact op (fun Q U W H D=>zA2 Z)<|oz
 intro R w m n p d j
 obtain ⟨h0,h4,h5⟩:=k3 n h0 h4 h5
 have h6:=p.r 0 Z
 replace f_v0:=f_v0.fr m
 obtain ⟨rl1,q2,c⟩:=zA6 c
 replace q2:=q2 Z
 refine zQO (fun R w=>∃ (s3:Int × Int),rl1=s3/\AvOK A w/\Fr w0 w/\R 0=v0/\R 4=.int .i64 s3.1/\R 5=.int .i64 s3.2/\Rep eStr A w v0 p0) ?_ ?_
 refine HT.block<|zQS (fun k R w=>∃ (y4:Int) (y5:Int) (y6:Int),zBH fu p0 k y4 y5 y6=some rl1/\AvOK A w/\Fr w0 w/\R 0=v0/\R 4=.int .i64 y4/\R 5=.int .i64 y5/\R 6=.int .i64 y6/\Rep eStr A w v0 p0) fu ⟨_,_,_,q2,d,j,h0,h4,h5,h6,f_v0⟩ ?_
 have hr0:=c;clear c q2
 rintro k R w ⟨y4,y5,y6,c,d,j,h0,h4,h5,h6,f_v0⟩
 rcases k with _ | k
 cases (show none=some _ from c)
 rw [zBH] at c
 refine zQT<|zQT ?_
 obtain ⟨x7,q8,c⟩:=zAU c
 refine HT.u d j (eI y6::eR v0::eI (p0.length:Int)::eB (decide (y6<(p0.length:Int)))::eB (decide (y6<(p0.length:Int)))::gI (true&&((decide (y6<(p0.length:Int)))==true)) y6::gB (true&&((decide (y6<(p0.length:Int)))==true)) (decide (y6<11))::eB x7::[]) ?_ ?_
 exact om h6<|om h0<|op (fun Q U W H D=>zB0 ((f_v0.fr W).eq (D.g 0 Z)) underlying9)<|op (fun Q U W H D=>zAk (D.g 0 Z) (D.g 1 Z))<|ov<|gm 4 true h6<|og 4 true (fun G Q U W H D=>zAk (D.h 0 G Z) Z)<|op (fun Q U W H D=>zAX (decide (y6<(p0.length:Int))) (D.g 0 Z) (fun hc=>by have a1:Q 13=.bool (decide (y6<11)):=D 1 _ _ _ Z Z Z Z (zC2 Z (zB2 hc));show _=Value.bool x7;rw [q8,hc];exact a1) (fun hc=>by show _=Value.bool x7;rw [q8,hc];exact Z))<|oz
 intro R w m n p d j
 obtain ⟨h0,h4,h5,h6⟩:=k4 n h0 h4 h5 h6
 have h14:=p.r 7 Z
 replace f_v0:=f_v0.fr m
 refine zQM x7 h14 (fun c9=>?_) (fun c9=>?_)
 have c:=zAN c9 c
 refine HT.skip<|zQT<|HT.block<|zQT ?_
 obtain ⟨e10,e11,c⟩:=ck2 c
 obtain ⟨x12,q13,c⟩:=zAU c
 refine HT.u d j (eR v0::eI y6::eU (bAt p0 y6)::eB (decide (48<=(bAt p0 y6)))::eB (decide (48<=(bAt p0 y6)))::gR (true&&((decide (48<=(bAt p0 y6)))==true)) v0::gI (true&&((decide (48<=(bAt p0 y6)))==true)) y6::gU (true&&((decide (48<=(bAt p0 y6)))==true)) (bAt p0 y6)::gB (true&&((decide (48<=(bAt p0 y6)))==true)) (decide ((bAt p0 y6)<=57))::eB x12::[]) ?_ ?_
 exact om h0<|om h6<|op (fun Q U W H D=>zAf ((f_v0.fr W).eq (D.g 0 Z)) (D.g 1 Z) underlying9 e10)<|op (fun Q U W H D=>zE8 (D.g 0 Z) Z)<|ov<|gm 4 true h0<|gm 4 true h6<|og 4 true (fun G Q U W H D=>zAf ((f_v0.fr W).eq (D.h 0 G Z)) (D.h 1 G Z) underlying9 (gd e11 G))<|og 4 true (fun G Q U W H D=>zEZ (D.h 0 G Z) Z)<|op (fun Q U W H D=>zAX (decide (48<=(bAt p0 y6))) (D.g 0 Z) (fun hc=>by have a1:Q 25=.bool (decide ((bAt p0 y6)<=57)):=D 1 _ _ _ Z Z Z Z (zC2 Z (zB2 hc));show _=Value.bool x12;rw [q13,hc];exact a1) (fun hc=>by show _=Value.bool x12;rw [q13,hc];exact Z))<|oz
 intro R w m n p d j
 obtain ⟨h0,h4,h5,h6⟩:=k4 n h0 h4 h5 h6
 have h26:=p.r 9 Z
 replace f_v0:=f_v0.fr m
 refine zQM x12 h26 (fun c14=>?_) (fun c14=>?_)
 have c:=zAN c14 c
 obtain ⟨e15,e16,e17,c⟩:=ck3 c
 refine zQU d j (eI y4::eI (y4*10)::eR v0::eI y6::eU (bAt p0 y6)::eU (IntKind.u8.wrap ((bAt p0 y6)-48))::eI (IntKind.i64.wrap (IntKind.u8.wrap ((bAt p0 y6)-48)))::eI ((y4*10)+(IntKind.i64.wrap (IntKind.u8.wrap ((bAt p0 y6)-48))))::eI ((y4*10)+(IntKind.i64.wrap (IntKind.u8.wrap ((bAt p0 y6)-48))))::[]) ?_ ?_
 exact om h4<|op (fun Q U W H D=>zKM (D.g 0 Z) Z e15)<|om h0<|om h6<|op (fun Q U W H D=>zAf ((f_v0.fr W).eq (D.g 0 Z)) (D.g 1 Z) underlying9 e16)<|op (fun Q U W H D=>zJU (D.g 0 Z) Z)<|op (fun Q U W H D=>zDr (D.g 0 Z) underlying5 underlying3)<|op (fun Q U W H D=>zAS (D.g 0 Z) (D.g 1 Z) e17)<|oa<|oz
 intro R w m n p d j
 obtain ⟨h0,h5,h6⟩:=k3 n h0 h5 h6
 have h4:=p.r 8 Z
 replace f_v0:=f_v0.fr m
 obtain ⟨e18,c⟩:=zA7 c
 refine HT.u d j (eI y5::eI (y5+1)::eI (y5+1)::[]) ?_ ?_
 exact om h5<|op (fun Q U W H D=>zAS (D.g 0 Z) Z e18)<|oa<|oz
 intro R w m n p d j
 obtain ⟨h0,h4,h6⟩:=k3 n h0 h4 h6
 have h5:=p.r 2 Z
 replace f_v0:=f_v0.fr m
 obtain ⟨e19,c⟩:=zA7 c
 refine HT.u d j (eI y6::eI (y6+1)::eI (y6+1)::[]) ?_ ?_
 exact om h6<|op (fun Q U W H D=>zAS (D.g 0 Z) Z e19)<|oa<|oz
 intro R w m n p d j
 obtain ⟨h0,h4,h5⟩:=k3 n h0 h4 h5
 have h6:=p.r 2 Z
 replace f_v0:=f_v0.fr m
 exact ei k (And.intro (Nat.lt_succ_self k) ⟨_,_,_,c,d,j,h0,h4,h5,h6,f_v0⟩)
 have c:=zAM c14 c
 refine HT.skip ?_
 obtain ⟨e20,c⟩:=zA7 c
 refine HT.u d j (eI y6::eI (y6+1)::eI (y6+1)::[]) ?_ ?_
 exact om h6<|op (fun Q U W H D=>zAS (D.g 0 Z) Z e20)<|oa<|oz
 intro R w m n p d j
 obtain ⟨h0,h4,h5⟩:=k3 n h0 h4 h5
 have h6:=p.r 2 Z
 replace f_v0:=f_v0.fr m
 exact ei k (And.intro (Nat.lt_succ_self k) ⟨_,_,_,c,d,j,h0,h4,h5,h6,f_v0⟩)
 have c:=zAM c9 c
 refine zQR ?_
 obtain rfl:=si c
 exact ei _ ⟨Z,d,j,h0,h4,h5,f_v0⟩
 rintro R w ⟨s3,es,d,j,h0,h4,h5,f_v0⟩
 obtain rfl:=es.symm
 refine zQT<|zQT ?_
 obtain ⟨e21,c⟩:=zA7 c
 obtain ⟨x22,q23,c⟩:=zAU c
 refine HT.u d j (eR v0::eI (p0.length:Int)::eB (decide (0<(p0.length:Int)))::eB (decide (0<(p0.length:Int)))::gR (true&&((decide (0<(p0.length:Int)))==true)) v0::gU (true&&((decide (0<(p0.length:Int)))==true)) (bAt p0 0)::gB (true&&((decide (0<(p0.length:Int)))==true)) ((bAt p0 0)==45)::eB x22::[]) ?_ ?_
 exact om h0<|op (fun Q U W H D=>zB0 ((f_v0.fr W).eq (D.g 0 Z)) underlying9)<|op (fun Q U W H D=>zDg (D.g 0 Z) Z)<|ov<|gm 3 true h0<|og 3 true (fun G Q U W H D=>zAf ((f_v0.fr W).eq (D.h 0 G Z)) Z underlying9 (gd e21 G))<|og 3 true (fun G Q U W H D=>zDM (D.h 0 G Z) Z)<|op (fun Q U W H D=>zAX (decide (0<(p0.length:Int))) (D.g 0 Z) (fun hc=>by have a1:Q 43=.bool ((bAt p0 0)==45):=D 1 _ _ _ Z Z Z Z (zC2 Z (zB2 hc));show _=Value.bool x22;rw [q23,hc];exact a1) (fun hc=>by show _=Value.bool x22;rw [q23,hc];exact Z))<|oz
 intro R w m n p d j
 obtain ⟨h0,h4,h5⟩:=k3 n h0 h4 h5
 have h44:=p.r 7 Z
 replace f_v0:=f_v0.fr m
 refine zQM x22 h44 (fun c24=>?_) (fun c24=>?_)
 have c:=zAN c24 c
 obtain ⟨e25,c⟩:=zA7 c
 refine HT.u d j (eI s3.1::eI (0-s3.1)::eI (0-s3.1)::[]) ?_ ?_
 exact om h4<|op (fun Q U W H D=>zON (D.g 0 Z) e25)<|oa<|oz
 intro R w m n p d j
 obtain ⟨h0,h5⟩:=k2 n h0 h5
 have h4:=p.r 2 Z
 replace f_v0:=f_v0.fr m
 refine zQT<|zQT ?_
 obtain ⟨x26,q27,c⟩:=zAU c
 obtain ⟨x28,q29,c⟩:=zA6 c
 obtain ⟨x30,q31,c⟩:=zAU c
 refine HT.u d j (eI s3.2::eB (decide (9<s3.2))::eB (decide (9<s3.2))::gR (true&&((decide (9<s3.2))==false)) v0::gI (true&&((decide (9<s3.2))==false)) (p0.length:Int)::gB (true&&((decide (9<s3.2))==false)) (decide (10<(p0.length:Int)))::eB x26::eB x26::gI (true&&(x26==false)) (0-s3.1)::gF (true&&(x26==false)) (.rep eStr A x28)::gR (true&&(x26==false)) v0::gB (true&&(x26==false)) (!(x28==p0))::eB x30::[]) ?_ ?_
 exact om h5<|op (fun Q U W H D=>zDg (D.g 0 Z) Z)<|ov<|gm 2 false h0<|og 2 false (fun G Q U W H D=>zB0 ((f_v0.fr W).eq (D.h 0 G Z)) underlying9)<|og 2 false (fun G Q U W H D=>zDg (D.h 0 G Z) Z)<|op (fun Q U W H D=>zAX (decide (9<s3.2)) (D.g 0 Z) (fun hc=>by show _=Value.bool x26;rw [q27,hc];exact Z) (fun hc=>by have a2:Q 52=.bool (decide (10<(p0.length:Int))):=D 1 _ _ _ Z Z Z Z (zC2 Z (zB2 hc));show _=Value.bool x26;rw [q27,hc];exact a2))<|ov<|gm 7 false h4<|og 7 false (fun G Q U W H D=>zAI call65 (zDb (q29 G) (d.fr W.size) (D.h 0 G Z)))<|gm 7 false h0<|og 7 false (fun G Q U W H D=>zGV (D.h 0 G Z) ((f_v0.fr W).eq (D.h 1 G Z)))<|op (fun Q U W H D=>zAX x26 (D.g 0 Z) (fun hc=>by show _=Value.bool x30;rw [q31,hc];exact Z) (fun hc=>by have a2:Q 58=.bool (!(x28==p0)):=D 1 _ _ _ Z Z Z Z (zC2 Z (zB2 hc));show _=Value.bool x30;rw [q31,hc];exact a2))<|oz
 intro R w m n p d j
 replace h4:=k1 n h4
 have h59:=p.r 12 Z
 refine zQM x30 h59 (fun c32=>?_) (fun c32=>?_)
 have c:=zAN c32 c
 refine zQU d j (eI 0::eB false::[]) ?_ ?_
 exact op (fun Q U W H D=>zA2 Z)<|op (fun Q U W H D=>zA2 Z)<|oz
 intro R w m n p d j
 have h2:=p.r 0 Z
 have h3:=p.r 1 Z
 refine HT.ret ?_
 obtain rfl:=si c
 exact ⟨.inr Z,[R 2,R 3],⟨Z,⟨Z,N⟩⟩,⟨_,_,Z,h2,h3⟩,j⟩
 have c:=zAM c32 c
 refine HT.skip<|zQU d j (eI (0-s3.1)::eI (0-s3.1)::eB true::[]) ?_ ?_
 exact om h4<|oa<|op (fun Q U W H D=>zA2 Z)<|oz
 intro R w m n p d j
 have h2:=p.r 1 Z
 have h3:=p.r 2 Z
 refine HT.ret ?_
 obtain rfl:=si c
 exact ⟨.inr Z,[R 2,R 3],⟨Z,⟨Z,N⟩⟩,⟨_,_,Z,h2,h3⟩,j⟩
 have c:=zAM c24 c
 refine HT.skip<|zQT<|zQT ?_
 obtain ⟨x33,q34,c⟩:=zAU c
 obtain ⟨x35,q36,c⟩:=zA6 c
 obtain ⟨x37,q38,c⟩:=zAU c
 refine HT.u d j (eI s3.2::eB (decide (9<s3.2))::eB (decide (9<s3.2))::gR (true&&((decide (9<s3.2))==false)) v0::gI (true&&((decide (9<s3.2))==false)) (p0.length:Int)::gB (true&&((decide (9<s3.2))==false)) (decide (10<(p0.length:Int)))::eB x33::eB x33::gI (true&&(x33==false)) s3.1::gF (true&&(x33==false)) (.rep eStr A x35)::gR (true&&(x33==false)) v0::gB (true&&(x33==false)) (!(x35==p0))::eB x37::[]) ?_ ?_
 exact om h5<|op (fun Q U W H D=>zDg (D.g 0 Z) Z)<|ov<|gm 2 false h0<|og 2 false (fun G Q U W H D=>zB0 ((f_v0.fr W).eq (D.h 0 G Z)) underlying9)<|og 2 false (fun G Q U W H D=>zDg (D.h 0 G Z) Z)<|op (fun Q U W H D=>zAX (decide (9<s3.2)) (D.g 0 Z) (fun hc=>by show _=Value.bool x33;rw [q34,hc];exact Z) (fun hc=>by have a2:Q 52=.bool (decide (10<(p0.length:Int))):=D 1 _ _ _ Z Z Z Z (zC2 Z (zB2 hc));show _=Value.bool x33;rw [q34,hc];exact a2))<|ov<|gm 7 false h4<|og 7 false (fun G Q U W H D=>zAI call65 (zDb (q36 G) (d.fr W.size) (D.h 0 G Z)))<|gm 7 false h0<|og 7 false (fun G Q U W H D=>zGV (D.h 0 G Z) ((f_v0.fr W).eq (D.h 1 G Z)))<|op (fun Q U W H D=>zAX x33 (D.g 0 Z) (fun hc=>by show _=Value.bool x37;rw [q38,hc];exact Z) (fun hc=>by have a2:Q 58=.bool (!(x35==p0)):=D 1 _ _ _ Z Z Z Z (zC2 Z (zB2 hc));show _=Value.bool x37;rw [q38,hc];exact a2))<|oz
 intro R w m n p d j
 replace h4:=k1 n h4
 have h59:=p.r 12 Z
 refine zQM x37 h59 (fun c39=>?_) (fun c39=>?_)
 have c:=zAN c39 c
 refine zQU d j (eI 0::eB false::[]) ?_ ?_
 exact op (fun Q U W H D=>zA2 Z)<|op (fun Q U W H D=>zA2 Z)<|oz
 intro R w m n p d j
 have h2:=p.r 0 Z
 have h3:=p.r 1 Z
 refine HT.ret ?_
 obtain rfl:=si c
 exact ⟨.inr Z,[R 2,R 3],⟨Z,⟨Z,N⟩⟩,⟨_,_,Z,h2,h3⟩,j⟩
 have c:=zAM c39 c
 refine HT.skip<|zQU d j (eI s3.1::eI s3.1::eB true::[]) ?_ ?_
 exact om h4<|oa<|op (fun Q U W H D=>zA2 Z)<|oz
 intro R w m n p d j
 have h2:=p.r 1 Z
 have h3:=p.r 2 Z
 refine HT.ret ?_
 obtain rfl:=si c
 exact ⟨.inr Z,[R 2,R 3],⟨Z,⟨Z,N⟩⟩,⟨_,_,Z,h2,h3⟩,j⟩
def zCG (fu:Nat) (p0:List UInt8):Option Int:=
 cl true (zDq fu p0) fun x1=>
 cl (true&&((!x1.2)==false)) (zEK fu x1.1 1000 9999) fun x3=>
 bd ((!x1.2) || (!x3)) fun x5=>
 bif x5 then (
 some 0
 ) else (
 some x1.1
 )
theorem zFL {fu : Nat} {A : Av} {p0 : List UInt8} {r : Int} (c : zCG fu p0 = some r) {w : World} {v0 : Value} (d : AvOK A w) (h0 : Rep eStr A w v0 p0) :
 Calls prog 64 #[v0] w fun e w'=>∃ v,e=.returned v/\(v=.int .i64 r/\Fr w w'):=by
 unfold zCG at c
 obtain ⟨w0,hw0,j⟩:=pf w
 rw [fw hw0]
 refine zA9 [.tmp 2] func64 ntmps64 (by decide) Z Z (nb Z) ?_
 intro R hR
 have f_v0:=h0
 replace h0:R 0=v0:=hR 0 _ Z
 refine zQU d j (eI 0::[]) ?_ ?_
 exact op (fun Q U W H D=>zA2 Z)<|oz
 intro R w m n p d j
 replace h0:=k1 n h0
 replace f_v0:=f_v0.fr m
 obtain ⟨x1,q2,c⟩:=zA6 c
 refine zQU d j (eR v0::eF (.tup2 (.raw (.int .i64 x1.1)) (.raw (.bool x1.2)))::eF (.tup2 (.raw (.int .i64 x1.1)) (.raw (.bool x1.2)))::eI x1.1::eB x1.2::eI x1.1::eB x1.2::[]) ?_ ?_
 exact om h0<|op (fun Q U W H D=>zAI call98 (zHN (q2 Z) (d.fr W.size) ((f_v0.fr W).eq (D.g 0 Z))))<|op (fun Q U W H D=>zBj (D.g 0 Z))<|op (fun Q U W H D=>zFD (D.g 0 Z))<|op (fun Q U W H D=>zF9 (D.g 0 Z))<|oa<|oa<|oz
 intro R w m n p d j
 have h3:=p.r 5 Z
 have h4:=p.r 6 Z
 refine zQT<|zQT ?_
 obtain ⟨x3,q4,c⟩:=zA6 c
 obtain ⟨x5,q6,c⟩:=zAU c
 refine HT.u d j (eB x1.2::eB (!x1.2)::eB (!x1.2)::gI (true&&((!x1.2)==false)) x1.1::gB (true&&((!x1.2)==false)) x3::gB (true&&((!x1.2)==false)) (!x3)::eB x5::[]) ?_ ?_
 exact om h4<|op (fun Q U W H D=>zDU (D.g 0 Z))<|ov<|gm 2 false h3<|og 2 false (fun G Q U W H D=>zAI call94 (zEv (q4 G) (d.fr W.size) (D.h 0 G Z) Z Z))<|og 2 false (fun G Q U W H D=>zDU (D.h 0 G Z))<|op (fun Q U W H D=>zAX (!x1.2) (D.g 0 Z) (fun hc=>by show _=Value.bool x5;rw [q6,hc];exact Z) (fun hc=>by have a2:Q 15=.bool (!x3):=D 1 _ _ _ Z Z Z Z (zC2 Z (zB2 hc));show _=Value.bool x5;rw [q6,hc];exact a2))<|oz
 intro R w m n p d j
 replace h3:=k1 n h3
 have h16:=p.r 6 Z
 refine zQM x5 h16 (fun c7=>?_) (fun c7=>?_)
 have c:=zAN c7 c
 refine zQU d j (eI 0::[]) ?_ ?_
 exact op (fun Q U W H D=>zA2 Z)<|oz
 intro R w m n p d j
 have h2:=p.r 0 Z
 refine HT.ret ?_
 obtain rfl:=si c
 exact ⟨.inr Z,[R 2],⟨Z,N⟩,h2,j⟩
 have c:=zAM c7 c
 refine HT.skip<|zQU d j (eI x1.1::eI x1.1::[]) ?_ ?_
 exact om h3<|oa<|oz
 intro R w m n p d j
 have h2:=p.r 1 Z
 refine HT.ret ?_
 obtain rfl:=si c
 exact ⟨.inr Z,[R 2],⟨Z,N⟩,h2,j⟩
def zC8 (fu : Nat) (x8 : List (List UInt8)) : Nat -> Int -> (List (List UInt8)) -> Option (List (List UInt8))
 | 0,_,_=>none
 | k+1,y14,y15=>
 bif (decide (y14<(x8.length:Int))) then (
 ck (inR y14 x8.length) <|
 ck (zBJ (([115]:List UInt8)++(gtD x8 y14)).length) <|
 cl true (zCK fu y15 (([115]:List UInt8)++(gtD x8 y14)) false) fun x19=>
 ck (i64B (y14+1)) <|
 zC8 fu x8 k (y14+1) x19
 ) else (
 some y15
 )
def zBY (fu : Nat) (x37 : List (List UInt8)) (x41 : Int) : Nat -> Int -> (List (List UInt8)) -> Option (List (List UInt8))
 | 0,_,_=>none
 | k+1,y46,y47=>
 bd ((decide (y46<(x37.length:Int)))&&(decide (0<x41))) fun x48=>
 bif x48 then (
 cl true (zC6 fu x41) fun x51=>
 ck (zBJ (([121]:List UInt8)++x51).length) <|
 ck (inR y46 x37.length) <|
 ck (subR 0 1 (gtD x37 y46).length) <|
 ck (zBJ ((([121]:List UInt8)++x51)++(subL (gtD x37 y46) 0 1)).length) <|
 cl true (zCK fu y47 ((([121]:List UInt8)++x51)++(subL (gtD x37 y46) 0 1)) false) fun x57=>
 ck (i64B (y46+1)) <|
 zBY fu x37 x41 k (y46+1) x57
 ) else (
 some y47
 )
def zBX (fu : Nat) (x62 : List (List UInt8)) (x66 : Int) : Nat -> Int -> (List (List UInt8)) -> Option (List (List UInt8))
 | 0,_,_=>none
 | k+1,y71,y72=>
 bd ((decide (y71<(x62.length:Int)))&&(decide (0<x66))) fun x73=>
 bif x73 then (
 cl true (zC6 fu x66) fun x76=>
 ck (zBJ (([121]:List UInt8)++x76).length) <|
 ck (inR y71 x62.length) <|
 ck (subR 0 1 (gtD x62 y71).length) <|
 ck (zBJ ((([121]:List UInt8)++x76)++(subL (gtD x62 y71) 0 1)).length) <|
 cl true (zCK fu y72 ((([121]:List UInt8)++x76)++(subL (gtD x62 y71) 0 1)) false) fun x82=>
 ck (i64B (y71+1)) <|
 zBX fu x62 x66 k (y71+1) x82
 ) else (
 some y72
 )
def zBa (fu:Nat) (p0:zA4):Option (List (List UInt8)):=
 cl true (zCD fu p0) fun x4=>
 bif (!x4) then (
 some ([]:List (List UInt8))
 ) else (
 ck (inR 0 p0.2.2.2.length) <|
 cl true (zD8 fu (gtD p0.2.2.2 0)) fun x8=>
 cl true (zC8 fu x8 fu 0 ([]:List (List UInt8))) fun s13=>
 ck (inR 3 p0.2.2.2.length) <|
 cl true (zDo fu (gtD p0.2.2.2 3)) fun x25=>
 bif (decide (4<=(x25.length:Int))) then (
 ck (i64B ((x25.length:Int)-4)) <|
 ck (subR ((x25.length:Int)-4) (x25.length:Int) x25.length) <|
 ck (zBJ (([112]:List UInt8)++(subL x25 ((x25.length:Int)-4) (x25.length:Int))).length) <|
 cl true (zCK fu s13 (([112]:List UInt8)++(subL x25 ((x25.length:Int)-4) (x25.length:Int))) false) fun x32=>
 ck (inR 0 p0.2.2.2.length) <|
 cl true (zDE fu (gtD p0.2.2.2 0)) fun x37=>
 ck (inR 2 p0.2.2.2.length) <|
 cl true (zCG fu (gtD p0.2.2.2 2)) fun x41=>
 cl true (zBY fu x37 x41 fu 0 x32) fun s45=>
 some s45
 ) else (
 ck (inR 0 p0.2.2.2.length) <|
 cl true (zDE fu (gtD p0.2.2.2 0)) fun x62=>
 ck (inR 2 p0.2.2.2.length) <|
 cl true (zCG fu (gtD p0.2.2.2 2)) fun x66=>
 cl true (zBX fu x62 x66 fu 0 s13) fun s70=>
 some s70
 )
 )
theorem zHF {fu : Nat} {A0 : Av} {p0 : zA4} {r : List (List UInt8)} (c : zBa fu p0 = some r) {w : World} {v0 : Value} (d : AvOK A0 w) (h0 : Rep zA0 A0 w v0 p0) :
 Calls prog 37 #[v0] w fun e w'=>∃ v,e=.returned v/\((Res.vec w.heap.size 9 eStr r).ok (addA A0 v) v w'/\Fr w w'):=by
 unfold zBa at c
 obtain ⟨w0,hw0,j,C⟩:=pw d
 have hA00:AvOK A0 w0:=C
 rw [fh hw0]
 rw [fw hw0]
 obtain ⟨A,hAe,B,d,q⟩:=pa d
 refine zA9 [.tmp 2] func37 ntmps37 (by decide) Z Z (nb Z) ?_
 intro R hR
 have f_v0:Rep zA0 A w v0 p0:=hAe ▸ h0
 replace h0:R 0=v0:=hR 0 _ Z
 refine zQV [] (⟨_,true,[],some (.box w0.heap.size 51 zA0 p0),true,fun A=>.any⟩::rA::[]) (ua (ua (UAll.nil))) q d ?_ ?_
 exact rc (OblR.made _ Z Z Z Z fun V Q U O D=>by have a0:Q 0=v0:=(O.old 0 Z).trans h0;have ra0:=(f_v0.stp O.stp).eq a0;exact zEe ra0 (Nat.le_trans j.size O.ch.size))<|rp (fun V Q U O D=>zA2 N)<|rz
 intro done ρ σ A R w y s
 obtain ⟨b1_0,e_b1_0⟩:=s.boxv y 0 Z Z
 have h1:=s.ov y 0 0 e_b1_0
 obtain ⟨B,j,d⟩:=s.s B C j q N
 replace q:=s.left y [(0,ob (.pointer (some ⟨b1_0,0,none⟩)) (.box w0.heap.size 51 zA0 p0))] ⟨Z,Z,e_b1_0,Z,Z,N⟩
 refine zQV [ob (.pointer (some ⟨b1_0,0,none⟩)) (.box w0.heap.size 51 zA0 p0)] (⟨_,true,[],some (.vec w0.heap.size 9 eStr ([]:List (List UInt8))),true,fun A=>.any⟩::⟨_,true,[1],some (.vec w0.heap.size 9 eStr ([]:List (List UInt8))),true,fun A=>.any⟩::[]) (ua (ua (UAll.nil))) q d ?_ ?_
 exact rc (OblR.made _ Z Z Z Z fun V Q U O D=>by exact zC0 [] (E:=eStr) N underlying34 sizeOf9 zeroValue9 Z Z Z (Nat.le_trans j.size O.ch.size))<|rc (OblR.took 1 _ _ Z Z Z Z Z fun V Q U O D u X Y J L M=>by exact zAD (L _ _ Z Z Z Z).symm X Y)<|rz
 intro done ρ σ A R w y s
 replace h1:=k1 s.rg h1
 have z2:=s.inivR 0 Z
 obtain ⟨u3,e_u3⟩:∃ u,ρ 2=u:=⟨_,Z⟩
 have h3:=s.ov y 2 1 e_u3
 obtain ⟨B,j,d⟩:=s.s B C j q ⟨Z,N⟩
 replace q:=s.left y [(0,ob (.pointer (some ⟨b1_0,0,none⟩)) (.box w0.heap.size 51 zA0 p0)),(2,ob u3 (.vec w0.heap.size 9 eStr ([]:List (List UInt8))))] ⟨Z,Z,z2,Z,Z,⟨Z,Z,e_u3,Z,Z,N⟩⟩
 refine zQT ?_
 obtain ⟨x4,q5,c⟩:=zA6 c
 refine zQU d j (eF (.rep zA0 A p0)::eB x4::eB (!x4)::[]) ?_ ?_
 exact op (fun Q U W H D=>(zAJ ((q.fr W).ok 0 _ Z).1 ((H 1 Z).trans h1) (Fld.id _) Z isAgg51 sizeOf51))<|op (fun Q U W H D=>zAI call59 (zER (q5 Z) (d.fr W.size) (D.g 0 Z)))<|op (fun Q U W H D=>zDU (D.g 0 Z))<|oz
 intro R w m n p d j
 obtain ⟨h1,h3⟩:=k2 n h1 h3
 have h13:=p.r 2 Z
 replace q:=q.fr m
 refine zQM (!x4) h13 (fun c6=>?_) (fun c6=>?_)
 have c:=zAN c6 c
 refine zQU d j (eR u3::eR u3::[]) ?_ ?_
 exact om h3<|oa<|oz
 intro R w m n p d j
 have h2:=p.r 1 Z
 replace q:=q.fr m
 replace q:IniOK [ob u3 (.vec w0.heap.size 9 eStr ([]:List (List UInt8)))] A w:=q.sub [(1,ob u3 (.vec w0.heap.size 9 eStr ([]:List (List UInt8))))] ⟨Z,Z,N⟩
 refine HT.ret ?_
 obtain rfl:=si c
 exact ⟨.inr Z,[R 2],⟨Z,N⟩,(zC7 (q.ok 0 _ Z) B h2),j⟩
 have c:=zAM c6 c
 refine HT.skip ?_
 obtain ⟨e7,c⟩:=zA7 c
 obtain ⟨x8,q9,c⟩:=zA6 c
 refine zQU d j (eR (.pointer (some ⟨b1_0,3,none⟩))::eF (.rep (eSl eStr) A p0.2.2.2)::eF (.qtr eStr A (gtD p0.2.2.2 0))::eF (.rep eStr A (gtD p0.2.2.2 0))::eF (.rep (eSl eStr) A x8)::eF (.rep (eSl eStr) A x8)::[]) ?_ ?_
 exact op (fun Q U W H D=>zAE ((H 1 Z).trans h1) zD7 sizeOf34 (by decide) Z)<|op (fun Q U W H D=>(zAJ ((q.fr W).ok 0 _ Z).1 (D.g 0 Z) zAc Z isAgg34 sizeOf34))<|op (fun Q U W H D=>zAC (D.g 0 Z) Z underlying34 sizeOf9 e7)<|op (fun Q U W H D=>(zAT (QRep.ptr (D.g 0 Z)) isAgg9 sizeOf9))<|op (fun Q U W H D=>zAI call61 (zGr (q9 Z) (d.fr W.size) (D.g 0 Z)))<|op (fun Q U W H D=>zA2 (D.g 0 Z))<|oz
 intro R w m n p d j
 obtain ⟨h1,h3⟩:=k2 n h1 h3
 obtain ⟨u10,h4,f_u10⟩:∃ u,R 4=u/\Rep (eSl eStr) A w u x8:=⟨_,Z,p 5 _ _ Z Z Z⟩
 replace q:=q.fr m
 refine zQT<|zQU d j (eI 0::[]) ?_ ?_
 exact op (fun Q U W H D=>zA2 Z)<|oz
 intro R w m n p d j
 obtain ⟨h1,h3,h4⟩:=k3 n h1 h3 h4
 have h5:=p.r 0 Z
 replace f_u10:=f_u10.fr m
 replace q:=q.fr m
 obtain ⟨rl11,q12,c⟩:=zA6 c
 replace q12:=q12 Z
 refine zQO (fun R w=>∃ A:Av,∃ (s13:(List (List UInt8))) (uo_u3:Value),rl11=s13/\AvOK A w/\Fr w0 w/\(∀ b o,A0 b o->A b o)/\IniOK [ob (.pointer (some ⟨b1_0,0,none⟩)) (.box w0.heap.size 51 zA0 p0),ob uo_u3 (.vec w0.heap.size 9 eStr s13)] A w/\R 1=(.pointer (some ⟨b1_0,0,none⟩))/\R 3=uo_u3) ?_ ?_
 refine HT.block<|zQS (fun k R w=>∃ A:Av,∃ (y14:Int) (y15:List (List UInt8)) (ul_u3:Value),zC8 fu x8 k y14 y15=some rl11/\AvOK A w/\Fr w0 w/\(∀ b o,A0 b o->A b o)/\IniOK [ob (.pointer (some ⟨b1_0,0,none⟩)) (.box w0.heap.size 51 zA0 p0),ob ul_u3 (.vec w0.heap.size 9 eStr y15)] A w/\R 1=(.pointer (some ⟨b1_0,0,none⟩))/\R 3=ul_u3/\R 4=u10/\R 5=.int .i64 y14/\Rep (eSl eStr) A w u10 x8) fu ⟨_,_,_,u3,q12,d,j,B,q,h1,h3,h4,h5,f_u10⟩ ?_
 have hr0:=c;clear c q12
 rintro k R w ⟨A,y14,y15,ul_u3,c,d,j,B,q,h1,h3,h4,h5,f_u10⟩
 rcases k with _ | k
 cases (show none=some _ from c)
 rw [zC8] at c
 refine zQT<|zQU d j (eI y14::eR u10::eI (x8.length:Int)::eB (decide (y14<(x8.length:Int)))::[]) ?_ ?_
 exact om h5<|om h4<|op (fun Q U W H D=>zAK (aT:=#[]) ((f_u10.fr W).eq (D.g 0 Z)) underlying34)<|op (fun Q U W H D=>zAk (D.g 0 Z) (D.g 1 Z))<|oz
 intro R w m n p d j
 obtain ⟨h1,h3,h4,h5⟩:=k4 n h1 h3 h4 h5
 have h23:=p.r 3 Z
 replace f_u10:=f_u10.fr m
 replace q:=q.fr m
 refine zQM (decide (y14<(x8.length:Int))) h23 (fun c16=>?_) (fun c16=>?_)
 have c:=zAN c16 c
 refine HT.skip<|zQT<|HT.block ?_
 obtain ⟨e17,e18,c⟩:=ck2 c
 obtain ⟨x19,q20,c⟩:=zA6 c
 refine zQY [ob (.pointer (some ⟨b1_0,0,none⟩)) (.box w0.heap.size 51 zA0 p0),ob ul_u3 (.vec w0.heap.size 9 eStr y15)] (rR ul_u3::rR u10::rI y14::(rF fun A=>.qtr eStr A (gtD x8 y14))::(rF fun A=>.rep eStr A (gtD x8 y14))::(rF fun A=>.rep eStr A (([115]:List UInt8)++(gtD x8 y14)))::⟨_,true,[1],some (.vec w0.heap.size 9 eStr x19),true,fun A=>.any⟩::⟨_,true,[8],some (.vec w0.heap.size 9 eStr x19),true,fun A=>.any⟩::[]) (ur (ur (ur (UAll.cons zDl (up (up (ua (ua (UAll.nil))))))))) q d ?_ ?_
 exact rm h3<|rm h4<|rm h5<|rp (fun V Q U O D=>zAC ((f_u10.stp O.stp).eq (D.g 0 Z)) (D.g 1 Z) underlying34 sizeOf9 e17)<|rp (fun V Q U O D=>(zAT (QRep.ptr (D.g 0 Z)) isAgg9 sizeOf9))<|rp (fun V Q U O D=>zDm ⟨_,Z,⟨_,Z,Z,by decide⟩⟩ (D.g 0 Z) e18)<|rc (OblR.took 1 _ _ Z Z Z Z Z fun V Q U O D u X Y J L M=>by have a0:Q 26=ul_u3:=D.g 0 Z;have a1:Rep eStr V U (Q 31) (([115]:List UInt8)++(gtD x8 y14)):=D.g 1 Z;have hu0:zAH Q (.tmp 26)=u:=a0.trans (J _ Z).symm;exact zD9 call60 Y (by simp only [List.map,hu0];exact zCd (q20 Z) (O.av.sub _) (fun b o h=>h.2) (Nat.le_trans j.size O.ch.size) (Vec.flat X (fun _ _ _ _ _ h=>h)) (a1.less fun b o h=>h.1) Z))<|rc (OblR.took 8 _ _ Z Z Z Z Z fun V Q U O D u X Y J L M=>by exact zAD (L _ _ Z Z Z Z).symm X Y)<|rz
 intro done ρ σ A R w y s
 obtain ⟨h1,h4,h5⟩:=k3 s.rg h1 h4 h5
 have z21:=s.inivR 0 Z
 obtain ⟨u22,e_u22⟩:∃ u,ρ 9=u:=⟨_,Z⟩
 have h3:=s.ov y 9 7 e_u22
 replace f_u10:=f_u10.stp s.stp
 obtain ⟨B,j,d⟩:=s.s B C j q ⟨Z,⟨Z,N⟩⟩
 replace q:=s.left y [(0,ob (.pointer (some ⟨b1_0,0,none⟩)) (.box w0.heap.size 51 zA0 p0)),(9,ob u22 (.vec w0.heap.size 9 eStr x19))] ⟨Z,Z,z21,Z,Z,⟨Z,Z,e_u22,Z,Z,N⟩⟩
 obtain ⟨e23,c⟩:=zA7 c
 refine HT.u d j (eI y14::eI (y14+1)::eI (y14+1)::[]) ?_ ?_
 exact om h5<|op (fun Q U W H D=>zAS (D.g 0 Z) Z e23)<|oa<|oz
 intro R w m n p d j
 obtain ⟨h1,h3,h4⟩:=k3 n h1 h3 h4
 have h5:=p.r 2 Z
 replace f_u10:=f_u10.fr m
 replace q:=q.fr m
 exact ei k (And.intro (Nat.lt_succ_self k) ⟨_,_,_,u22,c,d,j,B,q,h1,h3,h4,h5,f_u10⟩)
 have c:=zAM c16 c
 refine zQR ?_
 obtain rfl:=si c
 exact ei _ ⟨_,ul_u3,Z,d,j,B,q,h1,h3⟩
 rintro R w ⟨A,s13,uo_u3,es,d,j,B,q,h1,h3⟩
 obtain rfl:=es.symm
 obtain ⟨e24,c⟩:=zA7 c
 obtain ⟨x25,q26,c⟩:=zA6 c
 refine zQU d j (eR (.pointer (some ⟨b1_0,3,none⟩))::eF (.rep (eSl eStr) A p0.2.2.2)::eF (.qtr eStr A (gtD p0.2.2.2 3))::eF (.rep eStr A (gtD p0.2.2.2 3))::eF (.rep eStr A x25)::eF (.rep eStr A x25)::[]) ?_ ?_
 exact op (fun Q U W H D=>zAE ((H 1 Z).trans h1) zD7 sizeOf34 (by decide) Z)<|op (fun Q U W H D=>(zAJ ((q.fr W).ok 0 _ Z).1 (D.g 0 Z) zAc Z isAgg34 sizeOf34))<|op (fun Q U W H D=>zAC (D.g 0 Z) Z underlying34 sizeOf9 e24)<|op (fun Q U W H D=>(zAT (QRep.ptr (D.g 0 Z)) isAgg9 sizeOf9))<|op (fun Q U W H D=>zAI call62 (zHT (q26 Z) (d.fr W.size) (D.g 0 Z)))<|op (fun Q U W H D=>zA2 (D.g 0 Z))<|oz
 intro R w m n p d j
 obtain ⟨h1,h3⟩:=k2 n h1 h3
 obtain ⟨u27,h6,f_u27⟩:∃ u,R 6=u/\Rep eStr A w u x25:=⟨_,Z,p 5 _ _ Z Z Z⟩
 replace q:=q.fr m
 refine zQT<|zQU d j (eR u27::eI (x25.length:Int)::eB (decide (4<=(x25.length:Int)))::[]) ?_ ?_
 exact om h6<|op (fun Q U W H D=>zB0 ((f_u27.fr W).eq (D.g 0 Z)) underlying9)<|op (fun Q U W H D=>zE8 (D.g 0 Z) Z)<|oz
 intro R w m n p d j
 obtain ⟨h1,h3,h6⟩:=k3 n h1 h3 h6
 have h40:=p.r 2 Z
 replace f_u27:=f_u27.fr m
 replace q:=q.fr m
 refine zQM (decide (4<=(x25.length:Int))) h40 (fun c28=>?_) (fun c28=>?_)
 have c:=zAN c28 c
 obtain ⟨e29,e30,e31,c⟩:=ck3 c
 obtain ⟨x32,q33,c⟩:=zA6 c
 refine zQY [ob (.pointer (some ⟨b1_0,0,none⟩)) (.box w0.heap.size 51 zA0 p0),ob uo_u3 (.vec w0.heap.size 9 eStr s13)] (rR uo_u3::rR u27::rR u27::rI (x25.length:Int)::rI ((x25.length:Int)-4)::(rF fun A=>.rep eStr A (subL x25 ((x25.length:Int)-4) (x25.length:Int)))::(rF fun A=>.rep eStr A (([112]:List UInt8)++(subL x25 ((x25.length:Int)-4) (x25.length:Int))))::⟨_,true,[1],some (.vec w0.heap.size 9 eStr x32),true,fun A=>.any⟩::⟨_,true,[9],some (.vec w0.heap.size 9 eStr x32),true,fun A=>.any⟩::[]) (ur (ur (ur (ur (ur (up (up (ua (ua (UAll.nil)))))))))) q d ?_ ?_
 exact rm h3<|rm h6<|rm h6<|rp (fun V Q U O D=>zB0 ((f_u27.stp O.stp).eq (D.g 0 Z)) underlying9)<|rp (fun V Q U O D=>zFq (D.g 0 Z) Z e29)<|rp (fun V Q U O D=>zEf ((f_u27.stp O.stp).eq (D.g 0 Z)) (D.g 1 Z) underlying9  e30)<|rp (fun V Q U O D=>zDm ⟨_,Z,⟨_,Z,Z,by decide⟩⟩ (D.g 0 Z) e31)<|rc (OblR.took 1 _ _ Z Z Z Z Z fun V Q U O D u X Y J L M=>by have a0:Q 41=uo_u3:=D.g 0 Z;have a1:Rep eStr V U (Q 47) (([112]:List UInt8)++(subL x25 ((x25.length:Int)-4) (x25.length:Int))):=D.g 1 Z;have hu0:zAH Q (.tmp 41)=u:=a0.trans (J _ Z).symm;exact zD9 call60 Y (by simp only [List.map,hu0];exact zCd (q33 Z) (O.av.sub _) (fun b o h=>h.2) (Nat.le_trans j.size O.ch.size) (Vec.flat X (fun _ _ _ _ _ h=>h)) (a1.less fun b o h=>h.1) Z))<|rc (OblR.took 9 _ _ Z Z Z Z Z fun V Q U O D u X Y J L M=>by exact zAD (L _ _ Z Z Z Z).symm X Y)<|rz
 intro done ρ σ A R w y s
 replace h1:=k1 s.rg h1
 have z34:=s.inivR 0 Z
 obtain ⟨u35,e_u35⟩:∃ u,ρ 10=u:=⟨_,Z⟩
 have h3:=s.ov y 10 8 e_u35
 obtain ⟨B,j,d⟩:=s.s B C j q ⟨Z,⟨Z,N⟩⟩
 replace q:=s.left y [(0,ob (.pointer (some ⟨b1_0,0,none⟩)) (.box w0.heap.size 51 zA0 p0)),(10,ob u35 (.vec w0.heap.size 9 eStr x32))] ⟨Z,Z,z34,Z,Z,⟨Z,Z,e_u35,Z,Z,N⟩⟩
 obtain ⟨e36,c⟩:=zA7 c
 obtain ⟨x37,q38,c⟩:=zA6 c
 refine zQU d j (eR (.pointer (some ⟨b1_0,3,none⟩))::eF (.rep (eSl eStr) A p0.2.2.2)::eF (.qtr eStr A (gtD p0.2.2.2 0))::eF (.rep eStr A (gtD p0.2.2.2 0))::eF (.rep (eSl eStr) A x37)::eF (.rep (eSl eStr) A x37)::[]) ?_ ?_
 exact op (fun Q U W H D=>zAE ((H 1 Z).trans h1) zD7 sizeOf34 (by decide) Z)<|op (fun Q U W H D=>(zAJ ((q.fr W).ok 0 _ Z).1 (D.g 0 Z) zAc Z isAgg34 sizeOf34))<|op (fun Q U W H D=>zAC (D.g 0 Z) Z underlying34 sizeOf9 e36)<|op (fun Q U W H D=>(zAT (QRep.ptr (D.g 0 Z)) isAgg9 sizeOf9))<|op (fun Q U W H D=>zAI call63 (zEs (q38 Z) (d.fr W.size) (D.g 0 Z)))<|op (fun Q U W H D=>zA2 (D.g 0 Z))<|oz
 intro R w m n p d j
 obtain ⟨h1,h3⟩:=k2 n h1 h3
 obtain ⟨u39,h7,f_u39⟩:∃ u,R 7=u/\Rep (eSl eStr) A w u x37:=⟨_,Z,p 5 _ _ Z Z Z⟩
 replace q:=q.fr m
 obtain ⟨e40,c⟩:=zA7 c
 obtain ⟨x41,q42,c⟩:=zA6 c
 refine zQU d j (eR (.pointer (some ⟨b1_0,3,none⟩))::eF (.rep (eSl eStr) A p0.2.2.2)::eF (.qtr eStr A (gtD p0.2.2.2 2))::eF (.rep eStr A (gtD p0.2.2.2 2))::eI x41::eI x41::[]) ?_ ?_
 exact op (fun Q U W H D=>zAE ((H 1 Z).trans h1) zD7 sizeOf34 (by decide) Z)<|op (fun Q U W H D=>(zAJ ((q.fr W).ok 0 _ Z).1 (D.g 0 Z) zAc Z isAgg34 sizeOf34))<|op (fun Q U W H D=>zAC (D.g 0 Z) Z underlying34 sizeOf9 e40)<|op (fun Q U W H D=>(zAT (QRep.ptr (D.g 0 Z)) isAgg9 sizeOf9))<|op (fun Q U W H D=>zAI call64 (zFL (q42 Z) (d.fr W.size) (D.g 0 Z)))<|oa<|oz
 intro R w m n p d j
 obtain ⟨h3,h7⟩:=k2 n h3 h7
 have h8:=p.r 5 Z
 replace f_u39:=f_u39.fr m
 replace q:=q.fr m
 replace q:IniOK [ob u35 (.vec w0.heap.size 9 eStr x32)] A w:=q.sub [(1,ob u35 (.vec w0.heap.size 9 eStr x32))] ⟨Z,Z,N⟩
 refine zQT<|zQU d j (eI 0::[]) ?_ ?_
 exact op (fun Q U W H D=>zA2 Z)<|oz
 intro R w m n p d j
 obtain ⟨h3,h7,h8⟩:=k3 n h3 h7 h8
 have h9:=p.r 0 Z
 replace f_u39:=f_u39.fr m
 replace q:=q.fr m
 obtain ⟨rl43,q44,c⟩:=zA6 c
 replace q44:=q44 Z
 refine zQO (fun R w=>∃ A:Av,∃ (s45:(List (List UInt8))) (uo_u35:Value),rl43=s45/\AvOK A w/\Fr w0 w/\(∀ b o,A0 b o->A b o)/\IniOK [ob uo_u35 (.vec w0.heap.size 9 eStr s45)] A w/\R 3=uo_u35) ?_ ?_
 refine HT.block<|zQS (fun k R w=>∃ A:Av,∃ (y46:Int) (y47:List (List UInt8)) (ul_u35:Value),zBY fu x37 x41 k y46 y47=some rl43/\AvOK A w/\Fr w0 w/\(∀ b o,A0 b o->A b o)/\IniOK [ob ul_u35 (.vec w0.heap.size 9 eStr y47)] A w/\R 3=ul_u35/\R 7=u39/\R 8=.int .i64 x41/\R 9=.int .i64 y46/\Rep (eSl eStr) A w u39 x37) fu ⟨_,_,_,u35,q44,d,j,B,q,h3,h7,h8,h9,f_u39⟩ ?_
 have hr0:=c;clear c q44
 rintro k R w ⟨A,y46,y47,ul_u35,c,d,j,B,q,h3,h7,h8,h9,f_u39⟩
 rcases k with _ | k
 cases (show none=some _ from c)
 rw [zBY] at c
 refine zQT<|zQT ?_
 obtain ⟨x48,q49,c⟩:=zAU c
 refine HT.u d j (eI y46::eR u39::eI (x37.length:Int)::eB (decide (y46<(x37.length:Int)))::eB (decide (y46<(x37.length:Int)))::gI (true&&((decide (y46<(x37.length:Int)))==true)) x41::gB (true&&((decide (y46<(x37.length:Int)))==true)) (decide (0<x41))::eB x48::[]) ?_ ?_
 exact om h9<|om h7<|op (fun Q U W H D=>zAK (aT:=#[]) ((f_u39.fr W).eq (D.g 0 Z)) underlying34)<|op (fun Q U W H D=>zAk (D.g 0 Z) (D.g 1 Z))<|ov<|gm 4 true h8<|og 4 true (fun G Q U W H D=>zDg (D.h 0 G Z) Z)<|op (fun Q U W H D=>zAX (decide (y46<(x37.length:Int))) (D.g 0 Z) (fun hc=>by have a1:Q 65=.bool (decide (0<x41)):=D 1 _ _ _ Z Z Z Z (zC2 Z (zB2 hc));show _=Value.bool x48;rw [q49,hc];exact a1) (fun hc=>by show _=Value.bool x48;rw [q49,hc];exact Z))<|oz
 intro R w m n p d j
 obtain ⟨h3,h7,h8,h9⟩:=k4 n h3 h7 h8 h9
 have h66:=p.r 7 Z
 replace f_u39:=f_u39.fr m
 replace q:=q.fr m
 refine zQM x48 h66 (fun c50=>?_) (fun c50=>?_)
 have c:=zAN c50 c
 refine HT.skip<|zQT<|HT.block ?_
 obtain ⟨x51,q52,c⟩:=zA6 c
 obtain ⟨e53,e54,e55,e56,c⟩:=ck4 c
 obtain ⟨x57,q58,c⟩:=zA6 c
 refine zQQ [ob ul_u35 (.vec w0.heap.size 9 eStr y47)] (rR ul_u35::rI x41::(rF fun A=>.rep eStr A x51)::(rF fun A=>.rep eStr A (([121]:List UInt8)++x51))::rR u39::rI y46::(rF fun A=>.qtr eStr A (gtD x37 y46))::(rF fun A=>.rep eStr A (gtD x37 y46))::(rF fun A=>.rep eStr A (subL (gtD x37 y46) 0 1))::(rF fun A=>.rep eStr A ((([121]:List UInt8)++x51)++(subL (gtD x37 y46) 0 1)))::⟨_,true,[0],some (.vec w0.heap.size 9 eStr x57),true,fun A=>.any⟩::⟨_,true,[11],some (.vec w0.heap.size 9 eStr x57),true,fun A=>.any⟩::[]) (by kernel_rfl) (by kernel_rfl) (by kernel_rfl) (Wf.mk' (by kernel_rfl) (ur (ur (up (up (ur (ur (UAll.cons zDl (up (up (up (ua (ua (UAll.nil))))))))))))) (by kernel_rfl) (by kernel_rfl)) q d ?_ ?_
 exact rm h3<|rm h8<|rp (fun V Q U O D=>zAI call65 (zDb (q52 Z) O.av (D.g 0 Z)))<|rp (fun V Q U O D=>zDm ⟨_,Z,⟨_,Z,Z,by decide⟩⟩ (D.g 0 Z) e53)<|rm h7<|rm h9<|rp (fun V Q U O D=>zAC ((f_u39.stp O.stp).eq (D.g 0 Z)) (D.g 1 Z) underlying34 sizeOf9 e54)<|rp (fun V Q U O D=>(zAT (QRep.ptr (D.g 0 Z)) isAgg9 sizeOf9))<|rp (fun V Q U O D=>zCZ (D.g 0 Z) Z underlying9  e55)<|rp (fun V Q U O D=>zDm (D.g 0 Z) (D.g 1 Z) e56)<|rc (OblR.took 0 _ _ Z Z Z Z Z fun V Q U O D u X Y J L M=>by have a0:Q 69=ul_u35:=D.g 0 Z;have a1:Rep eStr V U (Q 78) ((([121]:List UInt8)++x51)++(subL (gtD x37 y46) 0 1)):=D.g 1 Z;have hu0:zAH Q (.tmp 69)=u:=a0.trans (J _ Z).symm;exact zD9 call60 Y (by simp only [List.map,hu0];exact zCd (q58 Z) (O.av.sub _) (fun b o h=>h.2) (Nat.le_trans j.size O.ch.size) (Vec.flat X (fun _ _ _ _ _ h=>h)) (a1.less fun b o h=>h.1) Z))<|rc (OblR.took 11 _ _ Z Z Z Z Z fun V Q U O D u X Y J L M=>by exact zAD (L _ _ Z Z Z Z).symm X Y)<|rz
 intro done ρ σ A R w y s
 obtain ⟨h7,h8,h9⟩:=k3 s.rg h7 h8 h9
 obtain ⟨u59,e_u59⟩:∃ u,ρ 12=u:=⟨_,Z⟩
 have h3:=s.ov y 12 11 e_u59
 replace f_u39:=f_u39.stp s.stp
 obtain ⟨B,j,d⟩:=s.s B C j q ⟨Z,N⟩
 replace q:=s.left y [(12,ob u59 (.vec w0.heap.size 9 eStr x57))] ⟨Z,Z,e_u59,Z,Z,N⟩
 obtain ⟨e60,c⟩:=zA7 c
 refine HT.u d j (eI y46::eI (y46+1)::eI (y46+1)::[]) ?_ ?_
 exact om h9<|op (fun Q U W H D=>zAS (D.g 0 Z) Z e60)<|oa<|oz
 intro R w m n p d j
 obtain ⟨h3,h7,h8⟩:=k3 n h3 h7 h8
 have h9:=p.r 2 Z
 replace f_u39:=f_u39.fr m
 replace q:=q.fr m
 exact ei k (And.intro (Nat.lt_succ_self k) ⟨_,_,_,u59,c,d,j,B,q,h3,h7,h8,h9,f_u39⟩)
 have c:=zAM c50 c
 refine zQR ?_
 obtain rfl:=si c
 exact ei _ ⟨_,ul_u35,Z,d,j,B,q,h3⟩
 rintro R w ⟨A,s45,uo_u35,es,d,j,B,q,h3⟩
 obtain rfl:=es.symm
 refine zQU d j (eR uo_u35::eR uo_u35::[]) ?_ ?_
 exact om h3<|oa<|oz
 intro R w m n p d j
 have h2:=p.r 1 Z
 replace q:=q.fr m
 refine HT.ret ?_
 obtain rfl:=si c
 exact ⟨.inr Z,[R 2],⟨Z,N⟩,(zC7 (q.ok 0 _ Z) B h2),j⟩
 have c:=zAM c28 c
 refine HT.skip ?_
 obtain ⟨e61,c⟩:=zA7 c
 obtain ⟨x62,q63,c⟩:=zA6 c
 refine zQU d j (eR (.pointer (some ⟨b1_0,3,none⟩))::eF (.rep (eSl eStr) A p0.2.2.2)::eF (.qtr eStr A (gtD p0.2.2.2 0))::eF (.rep eStr A (gtD p0.2.2.2 0))::eF (.rep (eSl eStr) A x62)::eF (.rep (eSl eStr) A x62)::[]) ?_ ?_
 exact op (fun Q U W H D=>zAE ((H 1 Z).trans h1) zD7 sizeOf34 (by decide) Z)<|op (fun Q U W H D=>(zAJ ((q.fr W).ok 0 _ Z).1 (D.g 0 Z) zAc Z isAgg34 sizeOf34))<|op (fun Q U W H D=>zAC (D.g 0 Z) Z underlying34 sizeOf9 e61)<|op (fun Q U W H D=>(zAT (QRep.ptr (D.g 0 Z)) isAgg9 sizeOf9))<|op (fun Q U W H D=>zAI call63 (zEs (q63 Z) (d.fr W.size) (D.g 0 Z)))<|op (fun Q U W H D=>zA2 (D.g 0 Z))<|oz
 intro R w m n p d j
 obtain ⟨h1,h3⟩:=k2 n h1 h3
 obtain ⟨u64,h7,f_u64⟩:∃ u,R 7=u/\Rep (eSl eStr) A w u x62:=⟨_,Z,p 5 _ _ Z Z Z⟩
 replace q:=q.fr m
 obtain ⟨e65,c⟩:=zA7 c
 obtain ⟨x66,q67,c⟩:=zA6 c
 refine zQU d j (eR (.pointer (some ⟨b1_0,3,none⟩))::eF (.rep (eSl eStr) A p0.2.2.2)::eF (.qtr eStr A (gtD p0.2.2.2 2))::eF (.rep eStr A (gtD p0.2.2.2 2))::eI x66::eI x66::[]) ?_ ?_
 exact op (fun Q U W H D=>zAE ((H 1 Z).trans h1) zD7 sizeOf34 (by decide) Z)<|op (fun Q U W H D=>(zAJ ((q.fr W).ok 0 _ Z).1 (D.g 0 Z) zAc Z isAgg34 sizeOf34))<|op (fun Q U W H D=>zAC (D.g 0 Z) Z underlying34 sizeOf9 e65)<|op (fun Q U W H D=>(zAT (QRep.ptr (D.g 0 Z)) isAgg9 sizeOf9))<|op (fun Q U W H D=>zAI call64 (zFL (q67 Z) (d.fr W.size) (D.g 0 Z)))<|oa<|oz
 intro R w m n p d j
 obtain ⟨h3,h7⟩:=k2 n h3 h7
 have h8:=p.r 5 Z
 replace f_u64:=f_u64.fr m
 replace q:=q.fr m
 replace q:IniOK [ob uo_u3 (.vec w0.heap.size 9 eStr s13)] A w:=q.sub [(1,ob uo_u3 (.vec w0.heap.size 9 eStr s13))] ⟨Z,Z,N⟩
 refine zQT<|zQU d j (eI 0::[]) ?_ ?_
 exact op (fun Q U W H D=>zA2 Z)<|oz
 intro R w m n p d j
 obtain ⟨h3,h7,h8⟩:=k3 n h3 h7 h8
 have h9:=p.r 0 Z
 replace f_u64:=f_u64.fr m
 replace q:=q.fr m
 obtain ⟨rl68,q69,c⟩:=zA6 c
 replace q69:=q69 Z
 refine zQO (fun R w=>∃ A:Av,∃ (s70:(List (List UInt8))) (uo_uo_u3:Value),rl68=s70/\AvOK A w/\Fr w0 w/\(∀ b o,A0 b o->A b o)/\IniOK [ob uo_uo_u3 (.vec w0.heap.size 9 eStr s70)] A w/\R 3=uo_uo_u3) ?_ ?_
 refine HT.block<|zQS (fun k R w=>∃ A:Av,∃ (y71:Int) (y72:List (List UInt8)) (ul_uo_u3:Value),zBX fu x62 x66 k y71 y72=some rl68/\AvOK A w/\Fr w0 w/\(∀ b o,A0 b o->A b o)/\IniOK [ob ul_uo_u3 (.vec w0.heap.size 9 eStr y72)] A w/\R 3=ul_uo_u3/\R 7=u64/\R 8=.int .i64 x66/\R 9=.int .i64 y71/\Rep (eSl eStr) A w u64 x62) fu ⟨_,_,_,uo_u3,q69,d,j,B,q,h3,h7,h8,h9,f_u64⟩ ?_
 have hr0:=c;clear c q69
 rintro k R w ⟨A,y71,y72,ul_uo_u3,c,d,j,B,q,h3,h7,h8,h9,f_u64⟩
 rcases k with _ | k
 cases (show none=some _ from c)
 rw [zBX] at c
 refine zQT<|zQT ?_
 obtain ⟨x73,q74,c⟩:=zAU c
 refine HT.u d j (eI y71::eR u64::eI (x62.length:Int)::eB (decide (y71<(x62.length:Int)))::eB (decide (y71<(x62.length:Int)))::gI (true&&((decide (y71<(x62.length:Int)))==true)) x66::gB (true&&((decide (y71<(x62.length:Int)))==true)) (decide (0<x66))::eB x73::[]) ?_ ?_
 exact om h9<|om h7<|op (fun Q U W H D=>zAK (aT:=#[]) ((f_u64.fr W).eq (D.g 0 Z)) underlying34)<|op (fun Q U W H D=>zAk (D.g 0 Z) (D.g 1 Z))<|ov<|gm 4 true h8<|og 4 true (fun G Q U W H D=>zDg (D.h 0 G Z) Z)<|op (fun Q U W H D=>zAX (decide (y71<(x62.length:Int))) (D.g 0 Z) (fun hc=>by have a1:Q 65=.bool (decide (0<x66)):=D 1 _ _ _ Z Z Z Z (zC2 Z (zB2 hc));show _=Value.bool x73;rw [q74,hc];exact a1) (fun hc=>by show _=Value.bool x73;rw [q74,hc];exact Z))<|oz
 intro R w m n p d j
 obtain ⟨h3,h7,h8,h9⟩:=k4 n h3 h7 h8 h9
 have h66:=p.r 7 Z
 replace f_u64:=f_u64.fr m
 replace q:=q.fr m
 refine zQM x73 h66 (fun c75=>?_) (fun c75=>?_)
 have c:=zAN c75 c
 refine HT.skip<|zQT<|HT.block ?_
 obtain ⟨x76,q77,c⟩:=zA6 c
 obtain ⟨e78,e79,e80,e81,c⟩:=ck4 c
 obtain ⟨x82,q83,c⟩:=zA6 c
 refine zQQ [ob ul_uo_u3 (.vec w0.heap.size 9 eStr y72)] (rR ul_uo_u3::rI x66::(rF fun A=>.rep eStr A x76)::(rF fun A=>.rep eStr A (([121]:List UInt8)++x76))::rR u64::rI y71::(rF fun A=>.qtr eStr A (gtD x62 y71))::(rF fun A=>.rep eStr A (gtD x62 y71))::(rF fun A=>.rep eStr A (subL (gtD x62 y71) 0 1))::(rF fun A=>.rep eStr A ((([121]:List UInt8)++x76)++(subL (gtD x62 y71) 0 1)))::⟨_,true,[0],some (.vec w0.heap.size 9 eStr x82),true,fun A=>.any⟩::⟨_,true,[11],some (.vec w0.heap.size 9 eStr x82),true,fun A=>.any⟩::[]) (by kernel_rfl) (by kernel_rfl) (by kernel_rfl) (Wf.mk' (by kernel_rfl) (ur (ur (up (up (ur (ur (UAll.cons zDl (up (up (up (ua (ua (UAll.nil))))))))))))) (by kernel_rfl) (by kernel_rfl)) q d ?_ ?_
 exact rm h3<|rm h8<|rp (fun V Q U O D=>zAI call65 (zDb (q77 Z) O.av (D.g 0 Z)))<|rp (fun V Q U O D=>zDm ⟨_,Z,⟨_,Z,Z,by decide⟩⟩ (D.g 0 Z) e78)<|rm h7<|rm h9<|rp (fun V Q U O D=>zAC ((f_u64.stp O.stp).eq (D.g 0 Z)) (D.g 1 Z) underlying34 sizeOf9 e79)<|rp (fun V Q U O D=>(zAT (QRep.ptr (D.g 0 Z)) isAgg9 sizeOf9))<|rp (fun V Q U O D=>zCZ (D.g 0 Z) Z underlying9  e80)<|rp (fun V Q U O D=>zDm (D.g 0 Z) (D.g 1 Z) e81)<|rc (OblR.took 0 _ _ Z Z Z Z Z fun V Q U O D u X Y J L M=>by have a0:Q 69=ul_uo_u3:=D.g 0 Z;have a1:Rep eStr V U (Q 78) ((([121]:List UInt8)++x76)++(subL (gtD x62 y71) 0 1)):=D.g 1 Z;have hu0:zAH Q (.tmp 69)=u:=a0.trans (J _ Z).symm;exact zD9 call60 Y (by simp only [List.map,hu0];exact zCd (q83 Z) (O.av.sub _) (fun b o h=>h.2) (Nat.le_trans j.size O.ch.size) (Vec.flat X (fun _ _ _ _ _ h=>h)) (a1.less fun b o h=>h.1) Z))<|rc (OblR.took 11 _ _ Z Z Z Z Z fun V Q U O D u X Y J L M=>by exact zAD (L _ _ Z Z Z Z).symm X Y)<|rz
 intro done ρ σ A R w y s
 obtain ⟨h7,h8,h9⟩:=k3 s.rg h7 h8 h9
 obtain ⟨u84,e_u84⟩:∃ u,ρ 12=u:=⟨_,Z⟩
 have h3:=s.ov y 12 11 e_u84
 replace f_u64:=f_u64.stp s.stp
 obtain ⟨B,j,d⟩:=s.s B C j q ⟨Z,N⟩
 replace q:=s.left y [(12,ob u84 (.vec w0.heap.size 9 eStr x82))] ⟨Z,Z,e_u84,Z,Z,N⟩
 obtain ⟨e85,c⟩:=zA7 c
 refine HT.u d j (eI y71::eI (y71+1)::eI (y71+1)::[]) ?_ ?_
 exact om h9<|op (fun Q U W H D=>zAS (D.g 0 Z) Z e85)<|oa<|oz
 intro R w m n p d j
 obtain ⟨h3,h7,h8⟩:=k3 n h3 h7 h8
 have h9:=p.r 2 Z
 replace f_u64:=f_u64.fr m
 replace q:=q.fr m
 exact ei k (And.intro (Nat.lt_succ_self k) ⟨_,_,_,u84,c,d,j,B,q,h3,h7,h8,h9,f_u64⟩)
 have c:=zAM c75 c
 refine zQR ?_
 obtain rfl:=si c
 exact ei _ ⟨_,ul_uo_u3,Z,d,j,B,q,h3⟩
 rintro R w ⟨A,s70,uo_uo_u3,es,d,j,B,q,h3⟩
 obtain rfl:=es.symm
 refine zQU d j (eR uo_uo_u3::eR uo_uo_u3::[]) ?_ ?_
 exact om h3<|oa<|oz
 intro R w m n p d j
 have h2:=p.r 1 Z
 replace q:=q.fr m
 refine HT.ret ?_
 obtain rfl:=si c
 exact ⟨.inr Z,[R 2],⟨Z,N⟩,(zC7 (q.ok 0 _ Z) B h2),j⟩
theorem zF8 {fu : Nat} {A0 : Av} {p0 : zA4} {r : List (List UInt8)} (c : zBa fu p0 = some r) {w : World} {v0 : Value} (d : AvOK A0 w) (h0 : Rep zA0 A0 w v0 p0) :
 Calls prog 37 #[v0] w fun e w'=>∃ v,e=.returned v/\(Rep (eSl eStr) A0 w' v r/\Fr w w'):=by
 refine Calls.mono (zHF c d h0) ?_
 rintro e w' ⟨v,he,hv,hf⟩
 exact ⟨v,he,zCB hv (fun b o h=>.inl h) d,hf⟩
def zBI (fu : Nat) (p0 : List (List UInt8)) : Nat -> Int -> (List (List UInt8)) -> Option (List (List UInt8))
 | 0,_,_=>none
 | k+1,y5,y6=>
 bif (decide (y5<(p0.length:Int))) then (
 ck (inR y5 p0.length) <|
 cl true (zCK fu y6 (gtD p0 y5) false) fun x9=>
 ck (i64B (y5+1)) <|
 zBI fu p0 k (y5+1) x9
 ) else (
 some y6
 )
def zBC (fu : Nat) (p1 : List (List UInt8)) : Nat -> Int -> (List (List UInt8)) -> Option (List (List UInt8))
 | 0,_,_=>none
 | k+1,y16,y17=>
 bif (decide (y16<(p1.length:Int))) then (
 ck (inR y16 p1.length) <|
 cl true (zCK fu y17 (gtD p1 y16) false) fun x20=>
 ck (i64B (y16+1)) <|
 zBC fu p1 k (y16+1) x20
 ) else (
 some y17
 )
def zCh (fu:Nat) (p0:List (List UInt8)) (p1:List (List UInt8)):Option (List (List UInt8)):=
 cl true (zBI fu p0 fu 0 ([]:List (List UInt8))) fun s4=>
 cl true (zBC fu p1 fu 0 s4) fun s15=>
 some s15
theorem zGc {fu : Nat} {A0 : Av} {p0 : List (List UInt8)} {p1 : List (List UInt8)} {r : List (List UInt8)} (c : zCh fu p0 p1 = some r) {w : World} {v0 : Value} {v1 : Value} (d : AvOK A0 w) (h0 : Rep (eSl eStr) A0 w v0 p0) (h1 : Rep (eSl eStr) A0 w v1 p1) :
 Calls prog 36 #[v0,v1] w fun e w'=>∃ v,e=.returned v/\((Res.vec w.heap.size 9 eStr r).ok (addA A0 v) v w'/\Fr w w'):=by
 unfold zCh at c
 obtain ⟨w0,hw0,j,C⟩:=pw d
 have hA00:AvOK A0 w0:=C
 rw [fh hw0]
 rw [fw hw0]
 obtain ⟨A,hAe,B,d,q⟩:=pa d
 refine zA9 [.tmp 4] func36 ntmps36 (by decide) Z Z (nb Z) ?_
 intro R hR
 have f_v0:Rep (eSl eStr) A w v0 p0:=hAe ▸ h0
 replace h0:R 0=v0:=hR 0 _ Z
 have f_v1:Rep (eSl eStr) A w v1 p1:=hAe ▸ h1
 replace h1:R 1=v1:=hR 1 _ Z
 refine zQU d j (eA::[]) ?_ ?_
 exact op (fun Q U W H D=>zA2 N)<|oz
 intro R w m n p d j
 obtain ⟨h0,h1⟩:=k2 n h0 h1
 replace f_v0:=f_v0.fr m
 replace f_v1:=f_v1.fr m
 replace q:=q.fr m
 refine zQV [] (⟨_,true,[],some (.vec w0.heap.size 9 eStr ([]:List (List UInt8))),true,fun A=>.any⟩::⟨_,true,[0],some (.vec w0.heap.size 9 eStr ([]:List (List UInt8))),true,fun A=>.any⟩::[]) (ua (ua (UAll.nil))) q d ?_ ?_
 exact rc (OblR.made _ Z Z Z Z fun V Q U O D=>by exact zC0 [] (E:=eStr) N underlying34 sizeOf9 zeroValue9 Z Z Z (Nat.le_trans j.size O.ch.size))<|rc (OblR.took 0 _ _ Z Z Z Z Z fun V Q U O D u X Y J L M=>by exact zAD (L _ _ Z Z Z Z).symm X Y)<|rz
 intro done ρ σ A R w y s
 obtain ⟨h0,h1⟩:=k2 s.rg h0 h1
 obtain ⟨u1,e_u1⟩:∃ u,ρ 1=u:=⟨_,Z⟩
 have h5:=s.ov y 1 1 e_u1
 replace f_v0:=f_v0.stp s.stp
 replace f_v1:=f_v1.stp s.stp
 obtain ⟨B,j,d⟩:=s.s B C j q N
 replace q:=s.left y [(1,ob u1 (.vec w0.heap.size 9 eStr ([]:List (List UInt8))))] ⟨Z,Z,e_u1,Z,Z,N⟩
 refine zQT<|zQU d j (eI 0::[]) ?_ ?_
 exact op (fun Q U W H D=>zA2 Z)<|oz
 intro R w m n p d j
 obtain ⟨h0,h1,h5⟩:=k3 n h0 h1 h5
 have h6:=p.r 0 Z
 replace f_v0:=f_v0.fr m
 replace f_v1:=f_v1.fr m
 replace q:=q.fr m
 obtain ⟨rl2,q3,c⟩:=zA6 c
 replace q3:=q3 Z
 refine zQO (fun R w=>∃ A:Av,∃ (s4:(List (List UInt8))) (uo_u1:Value),rl2=s4/\AvOK A w/\Fr w0 w/\(∀ b o,A0 b o->A b o)/\IniOK [ob uo_u1 (.vec w0.heap.size 9 eStr s4)] A w/\R 1=v1/\R 5=uo_u1/\Rep (eSl eStr) A w v1 p1) ?_ ?_
 refine HT.block<|zQS (fun k R w=>∃ A:Av,∃ (y5:Int) (y6:List (List UInt8)) (ul_u1:Value),zBI fu p0 k y5 y6=some rl2/\AvOK A w/\Fr w0 w/\(∀ b o,A0 b o->A b o)/\IniOK [ob ul_u1 (.vec w0.heap.size 9 eStr y6)] A w/\R 0=v0/\R 1=v1/\R 5=ul_u1/\R 6=.int .i64 y5/\Rep (eSl eStr) A w v0 p0/\Rep (eSl eStr) A w v1 p1) fu ⟨_,_,_,u1,q3,d,j,B,q,h0,h1,h5,h6,f_v0,f_v1⟩ ?_
 have hr0:=c;clear c q3
 rintro k R w ⟨A,y5,y6,ul_u1,c,d,j,B,q,h0,h1,h5,h6,f_v0,f_v1⟩
 rcases k with _ | k
 cases (show none=some _ from c)
 rw [zBI] at c
 refine zQT<|zQU d j (eI y5::eR v0::eI (p0.length:Int)::eB (decide (y5<(p0.length:Int)))::[]) ?_ ?_
 exact om h6<|om h0<|op (fun Q U W H D=>zAK (aT:=#[]) ((f_v0.fr W).eq (D.g 0 Z)) underlying34)<|op (fun Q U W H D=>zAk (D.g 0 Z) (D.g 1 Z))<|oz
 intro R w m n p d j
 obtain ⟨h0,h1,h5,h6⟩:=k4 n h0 h1 h5 h6
 have h12:=p.r 3 Z
 replace f_v0:=f_v0.fr m
 replace f_v1:=f_v1.fr m
 replace q:=q.fr m
 refine zQM (decide (y5<(p0.length:Int))) h12 (fun c7=>?_) (fun c7=>?_)
 have c:=zAN c7 c
 refine HT.skip<|zQT<|HT.block ?_
 obtain ⟨e8,c⟩:=zA7 c
 obtain ⟨x9,q10,c⟩:=zA6 c
 refine zQY [ob ul_u1 (.vec w0.heap.size 9 eStr y6)] (rR ul_u1::rR v0::rI y5::(rF fun A=>.qtr eStr A (gtD p0 y5))::(rF fun A=>.rep eStr A (gtD p0 y5))::⟨_,true,[0],some (.vec w0.heap.size 9 eStr x9),true,fun A=>.any⟩::⟨_,true,[6],some (.vec w0.heap.size 9 eStr x9),true,fun A=>.any⟩::[]) (ur (ur (ur (UAll.cons zDl (up (ua (ua (UAll.nil)))))))) q d ?_ ?_
 exact rm h5<|rm h0<|rm h6<|rp (fun V Q U O D=>zAC ((f_v0.stp O.stp).eq (D.g 0 Z)) (D.g 1 Z) underlying34 sizeOf9 e8)<|rp (fun V Q U O D=>(zAT (QRep.ptr (D.g 0 Z)) isAgg9 sizeOf9))<|rc (OblR.took 0 _ _ Z Z Z Z Z fun V Q U O D u X Y J L M=>by have a0:Q 15=ul_u1:=D.g 0 Z;have a1:Rep eStr V U (Q 19) (gtD p0 y5):=D.g 1 Z;have hu0:zAH Q (.tmp 15)=u:=a0.trans (J _ Z).symm;exact zD9 call60 Y (by simp only [List.map,hu0];exact zCd (q10 Z) (O.av.sub _) (fun b o h=>h.2) (Nat.le_trans j.size O.ch.size) (Vec.flat X (fun _ _ _ _ _ h=>h)) (a1.less fun b o h=>h.1) Z))<|rc (OblR.took 6 _ _ Z Z Z Z Z fun V Q U O D u X Y J L M=>by exact zAD (L _ _ Z Z Z Z).symm X Y)<|rz
 intro done ρ σ A R w y s
 obtain ⟨h0,h1,h6⟩:=k3 s.rg h0 h1 h6
 obtain ⟨u11,e_u11⟩:∃ u,ρ 7=u:=⟨_,Z⟩
 have h5:=s.ov y 7 6 e_u11
 replace f_v0:=f_v0.stp s.stp
 replace f_v1:=f_v1.stp s.stp
 obtain ⟨B,j,d⟩:=s.s B C j q ⟨Z,N⟩
 replace q:=s.left y [(7,ob u11 (.vec w0.heap.size 9 eStr x9))] ⟨Z,Z,e_u11,Z,Z,N⟩
 obtain ⟨e12,c⟩:=zA7 c
 refine HT.u d j (eI y5::eI (y5+1)::eI (y5+1)::[]) ?_ ?_
 exact om h6<|op (fun Q U W H D=>zAS (D.g 0 Z) Z e12)<|oa<|oz
 intro R w m n p d j
 obtain ⟨h0,h1,h5⟩:=k3 n h0 h1 h5
 have h6:=p.r 2 Z
 replace f_v0:=f_v0.fr m
 replace f_v1:=f_v1.fr m
 replace q:=q.fr m
 exact ei k (And.intro (Nat.lt_succ_self k) ⟨_,_,_,u11,c,d,j,B,q,h0,h1,h5,h6,f_v0,f_v1⟩)
 have c:=zAM c7 c
 refine zQR ?_
 obtain rfl:=si c
 exact ei _ ⟨_,ul_u1,Z,d,j,B,q,h1,h5,f_v1⟩
 rintro R w ⟨A,s4,uo_u1,es,d,j,B,q,h1,h5,f_v1⟩
 obtain rfl:=es.symm
 refine zQT<|zQU d j (eI 0::[]) ?_ ?_
 exact op (fun Q U W H D=>zA2 Z)<|oz
 intro R w m n p d j
 obtain ⟨h1,h5⟩:=k2 n h1 h5
 have h7:=p.r 0 Z
 replace f_v1:=f_v1.fr m
 replace q:=q.fr m
 obtain ⟨rl13,q14,c⟩:=zA6 c
 replace q14:=q14 Z
 refine zQO (fun R w=>∃ A:Av,∃ (s15:(List (List UInt8))) (uo_uo_u1:Value),rl13=s15/\AvOK A w/\Fr w0 w/\(∀ b o,A0 b o->A b o)/\IniOK [ob uo_uo_u1 (.vec w0.heap.size 9 eStr s15)] A w/\R 5=uo_uo_u1) ?_ ?_
 refine HT.block<|zQS (fun k R w=>∃ A:Av,∃ (y16:Int) (y17:List (List UInt8)) (ul_uo_u1:Value),zBC fu p1 k y16 y17=some rl13/\AvOK A w/\Fr w0 w/\(∀ b o,A0 b o->A b o)/\IniOK [ob ul_uo_u1 (.vec w0.heap.size 9 eStr y17)] A w/\R 1=v1/\R 5=ul_uo_u1/\R 7=.int .i64 y16/\Rep (eSl eStr) A w v1 p1) fu ⟨_,_,_,uo_u1,q14,d,j,B,q,h1,h5,h7,f_v1⟩ ?_
 have hr0:=c;clear c q14
 rintro k R w ⟨A,y16,y17,ul_uo_u1,c,d,j,B,q,h1,h5,h7,f_v1⟩
 rcases k with _ | k
 cases (show none=some _ from c)
 rw [zBC] at c
 refine zQT<|zQU d j (eI y16::eR v1::eI (p1.length:Int)::eB (decide (y16<(p1.length:Int)))::[]) ?_ ?_
 exact om h7<|om h1<|op (fun Q U W H D=>zAK (aT:=#[]) ((f_v1.fr W).eq (D.g 0 Z)) underlying34)<|op (fun Q U W H D=>zAk (D.g 0 Z) (D.g 1 Z))<|oz
 intro R w m n p d j
 obtain ⟨h1,h5,h7⟩:=k3 n h1 h5 h7
 have h24:=p.r 3 Z
 replace f_v1:=f_v1.fr m
 replace q:=q.fr m
 refine zQM (decide (y16<(p1.length:Int))) h24 (fun c18=>?_) (fun c18=>?_)
 have c:=zAN c18 c
 refine HT.skip<|zQT<|HT.block ?_
 obtain ⟨e19,c⟩:=zA7 c
 obtain ⟨x20,q21,c⟩:=zA6 c
 refine zQY [ob ul_uo_u1 (.vec w0.heap.size 9 eStr y17)] (rR ul_uo_u1::rR v1::rI y16::(rF fun A=>.qtr eStr A (gtD p1 y16))::(rF fun A=>.rep eStr A (gtD p1 y16))::⟨_,true,[0],some (.vec w0.heap.size 9 eStr x20),true,fun A=>.any⟩::⟨_,true,[6],some (.vec w0.heap.size 9 eStr x20),true,fun A=>.any⟩::[]) (ur (ur (ur (UAll.cons zDl (up (ua (ua (UAll.nil)))))))) q d ?_ ?_
 exact rm h5<|rm h1<|rm h7<|rp (fun V Q U O D=>zAC ((f_v1.stp O.stp).eq (D.g 0 Z)) (D.g 1 Z) underlying34 sizeOf9 e19)<|rp (fun V Q U O D=>(zAT (QRep.ptr (D.g 0 Z)) isAgg9 sizeOf9))<|rc (OblR.took 0 _ _ Z Z Z Z Z fun V Q U O D u X Y J L M=>by have a0:Q 27=ul_uo_u1:=D.g 0 Z;have a1:Rep eStr V U (Q 31) (gtD p1 y16):=D.g 1 Z;have hu0:zAH Q (.tmp 27)=u:=a0.trans (J _ Z).symm;exact zD9 call60 Y (by simp only [List.map,hu0];exact zCd (q21 Z) (O.av.sub _) (fun b o h=>h.2) (Nat.le_trans j.size O.ch.size) (Vec.flat X (fun _ _ _ _ _ h=>h)) (a1.less fun b o h=>h.1) Z))<|rc (OblR.took 6 _ _ Z Z Z Z Z fun V Q U O D u X Y J L M=>by exact zAD (L _ _ Z Z Z Z).symm X Y)<|rz
 intro done ρ σ A R w y s
 obtain ⟨h1,h7⟩:=k2 s.rg h1 h7
 obtain ⟨u22,e_u22⟩:∃ u,ρ 7=u:=⟨_,Z⟩
 have h5:=s.ov y 7 6 e_u22
 replace f_v1:=f_v1.stp s.stp
 obtain ⟨B,j,d⟩:=s.s B C j q ⟨Z,N⟩
 replace q:=s.left y [(7,ob u22 (.vec w0.heap.size 9 eStr x20))] ⟨Z,Z,e_u22,Z,Z,N⟩
 obtain ⟨e23,c⟩:=zA7 c
 refine HT.u d j (eI y16::eI (y16+1)::eI (y16+1)::[]) ?_ ?_
 exact om h7<|op (fun Q U W H D=>zAS (D.g 0 Z) Z e23)<|oa<|oz
 intro R w m n p d j
 obtain ⟨h1,h5⟩:=k2 n h1 h5
 have h7:=p.r 2 Z
 replace f_v1:=f_v1.fr m
 replace q:=q.fr m
 exact ei k (And.intro (Nat.lt_succ_self k) ⟨_,_,_,u22,c,d,j,B,q,h1,h5,h7,f_v1⟩)
 have c:=zAM c18 c
 refine zQR ?_
 obtain rfl:=si c
 exact ei _ ⟨_,ul_uo_u1,Z,d,j,B,q,h5⟩
 rintro R w ⟨A,s15,uo_uo_u1,es,d,j,B,q,h5⟩
 obtain rfl:=es.symm
 refine zQU d j (eR uo_uo_u1::eR uo_uo_u1::[]) ?_ ?_
 exact om h5<|oa<|oz
 intro R w m n p d j
 have h4:=p.r 1 Z
 replace q:=q.fr m
 refine HT.ret ?_
 obtain rfl:=si c
 exact ⟨.inr Z,[R 4],⟨Z,N⟩,(zC7 (q.ok 0 _ Z) B h4),j⟩
theorem zGE {fu : Nat} {A0 : Av} {p0 : List (List UInt8)} {p1 : List (List UInt8)} {r : List (List UInt8)} (c : zCh fu p0 p1 = some r) {w : World} {v0 : Value} {v1 : Value} (d : AvOK A0 w) (h0 : Rep (eSl eStr) A0 w v0 p0) (h1 : Rep (eSl eStr) A0 w v1 p1) :
 Calls prog 36 #[v0,v1] w fun e w'=>∃ v,e=.returned v/\(Rep (eSl eStr) A0 w' v r/\Fr w w'):=by
 refine Calls.mono (zGc c d h0 h1) ?_
 rintro e w' ⟨v,he,hv,hf⟩
 exact ⟨v,he,zCB hv (fun b o h=>.inl h) d,hf⟩
def zCx (fu : Nat) (p0 : List (List UInt8)) (p1 : List UInt8) : Nat -> Int -> Option (Ex Bool Unit)
 | 0,_=>none
 | k+1,y4=>
 bif (decide (y4<(p0.length:Int))) then (
 ck (inR y4 p0.length) <|
 bif ((gtD p0 y4)==p1) then (
 some (Ex.ret true)
 ) else (
 ck (i64B (y4+1)) <|
 zCx fu p0 p1 k (y4+1)
 )
 ) else (
 some (Ex.go ())
 )
def zF5 (fu:Nat) (p0:List (List UInt8)) (p1:List UInt8):Option Bool:=
 cl true (zCx fu p0 p1 fu 0) fun rl1=>
 exM rl1 (fun r=>some r) fun s3=>
 some false
theorem zIU {fu : Nat} {A : Av} {p0 : List (List UInt8)} {p1 : List UInt8} {r : Bool} (c : zF5 fu p0 p1 = some r) {w : World} {v0 : Value} {v1 : Value} (d : AvOK A w) (h0 : Rep (eSl eStr) A w v0 p0) (h1 : Rep eStr A w v1 p1) :
 Calls prog 38 #[v0,v1] w fun e w'=>∃ v,e=.returned v/\(v=.bool r/\Fr w w'):=by
 unfold zF5 at c
 obtain ⟨w0,hw0,j⟩:=pf w
 rw [fw hw0]
 refine zA9 [.tmp 4] func38 ntmps38 (by decide) Z Z (nb Z) ?_
 intro R hR
 have f_v0:=h0
 replace h0:R 0=v0:=hR 0 _ Z
 have f_v1:=h1
 replace h1:R 1=v1:=hR 1 _ Z
 refine zQU d j (eB false::[]) ?_ ?_
 exact op (fun Q U W H D=>zA2 Z)<|oz
 intro R w m n p d j
 obtain ⟨h0,h1⟩:=k2 n h0 h1
 replace f_v0:=f_v0.fr m
 replace f_v1:=f_v1.fr m
 refine zQT<|zQU d j (eI 0::[]) ?_ ?_
 exact op (fun Q U W H D=>zA2 Z)<|oz
 intro R w m n p d j
 obtain ⟨h0,h1⟩:=k2 n h0 h1
 have h5:=p.r 0 Z
 replace f_v0:=f_v0.fr m
 replace f_v1:=f_v1.fr m
 obtain ⟨rl1,q2,c⟩:=zA6 c
 replace q2:=q2 Z
 refine zQO (fun R w=>∃ (s3:Unit),rl1=Ex.go s3/\AvOK A w/\Fr w0 w) ?_ ?_
 refine HT.block<|zQS (fun k R w=>∃ (y4:Int),zCx fu p0 p1 k y4=some rl1/\AvOK A w/\Fr w0 w/\R 0=v0/\R 1=v1/\R 5=.int .i64 y4/\Rep (eSl eStr) A w v0 p0/\Rep eStr A w v1 p1) fu ⟨_,q2,d,j,h0,h1,h5,f_v0,f_v1⟩ ?_
 have hr0:=c;clear c q2
 rintro k R w ⟨y4,c,d,j,h0,h1,h5,f_v0,f_v1⟩
 rcases k with _ | k
 cases (show none=some _ from c)
 rw [zCx] at c
 refine zQT<|zQU d j (eI y4::eR v0::eI (p0.length:Int)::eB (decide (y4<(p0.length:Int)))::[]) ?_ ?_
 exact om h5<|om h0<|op (fun Q U W H D=>zAK (aT:=#[]) ((f_v0.fr W).eq (D.g 0 Z)) underlying34)<|op (fun Q U W H D=>zAk (D.g 0 Z) (D.g 1 Z))<|oz
 intro R w m n p d j
 obtain ⟨h0,h1,h5⟩:=k3 n h0 h1 h5
 have h9:=p.r 3 Z
 replace f_v0:=f_v0.fr m
 replace f_v1:=f_v1.fr m
 refine zQM (decide (y4<(p0.length:Int))) h9 (fun c5=>?_) (fun c5=>?_)
 have c:=zAN c5 c
 refine HT.skip<|zQT<|HT.block ?_
 obtain ⟨e6,c⟩:=zA7 c
 refine zQU d j (eR v0::eI y4::eF (.qtr eStr A (gtD p0 y4))::eF (.rep eStr A (gtD p0 y4))::eR v1::eB ((gtD p0 y4)==p1)::[]) ?_ ?_
 exact om h0<|om h5<|op (fun Q U W H D=>zAC ((f_v0.fr W).eq (D.g 0 Z)) (D.g 1 Z) underlying34 sizeOf9 e6)<|op (fun Q U W H D=>(zAT (QRep.ptr (D.g 0 Z)) isAgg9 sizeOf9))<|om h1<|op (fun Q U W H D=>zBv (D.g 0 Z) ((f_v1.fr W).eq (D.g 1 Z)))<|oz
 intro R w m n p d j
 obtain ⟨h0,h1,h5⟩:=k3 n h0 h1 h5
 have h17:=p.r 5 Z
 replace f_v0:=f_v0.fr m
 replace f_v1:=f_v1.fr m
 refine zQM ((gtD p0 y4)==p1) h17 (fun c7=>?_) (fun c7=>?_)
 have c:=zAN c7 c
 refine zQU d j (eB true::[]) ?_ ?_
 exact op (fun Q U W H D=>zA2 Z)<|oz
 intro R w m n p d j
 have h4:=p.r 0 Z
 refine HT.ret ?_
 obtain rfl:=si c
 have c:=hr0
 replace c:some _=some _:=c
 obtain rfl:=si c
 exact ⟨.inr Z,[R 4],⟨Z,N⟩,h4,j⟩
 have c:=zAM c7 c
 refine HT.skip ?_
 obtain ⟨e8,c⟩:=zA7 c
 refine HT.u d j (eI y4::eI (y4+1)::eI (y4+1)::[]) ?_ ?_
 exact om h5<|op (fun Q U W H D=>zAS (D.g 0 Z) Z e8)<|oa<|oz
 intro R w m n p d j
 obtain ⟨h0,h1⟩:=k2 n h0 h1
 have h5:=p.r 2 Z
 replace f_v0:=f_v0.fr m
 replace f_v1:=f_v1.fr m
 exact ei k (And.intro (Nat.lt_succ_self k) ⟨_,c,d,j,h0,h1,h5,f_v0,f_v1⟩)
 have c:=zAM c5 c
 refine zQR ?_
 obtain rfl:=si c
 exact ei _ ⟨Z,d,j⟩
 rintro R w ⟨s3,rfl,d,j⟩
 have c:=zF3 c
 refine zQU d j (eB false::[]) ?_ ?_
 exact op (fun Q U W H D=>zA2 Z)<|oz
 intro R w m n p d j
 have h4:=p.r 0 Z
 refine HT.ret ?_
 obtain rfl:=si c
 exact ⟨.inr Z,[R 4],⟨Z,N⟩,h4,j⟩
def zAt (fu : Nat) (p0 : List zA4) : Nat -> (List (List UInt8)) -> Int -> Option (List (List UInt8))
 | 0,_,_=>none
 | k+1,y9,y10=>
 bif (decide (y10<(p0.length:Int))) then (
 ck (inR y10 p0.length) <|
 cl true (zBa fu (gtD p0 y10)) fun x13=>
 cl true (zCh fu y9 x13) fun x15=>
 ck (i64B (y10+1)) <|
 zAt fu p0 k x15 (y10+1)
 ) else (
 some y9
 )
def zAi (fu : Nat) (p0 : List zA4) (s8 : (List (List UInt8))) (y22 : Int) : Nat -> Int -> zAF -> Option zAF
 | 0,_,_=>none
 | k+1,y34,y35=>
 bif (decide (y34<(p0.length:Int))) then (
 ck (inR y34 p0.length) <|
 cl true (zBa fu (gtD p0 y34)) fun x38=>
 ck (inR y22 s8.length) <|
 cl true (zF5 fu x38 (gtD s8 y22)) fun x41=>
 bif x41 then (
 ck (zBJ (y35.2.length+([y34]:List Int).length)) <|
 ck (i64B (y34+1)) <|
 zAi fu p0 s8 y22 k (y34+1) (y35.1,(y35.2++([y34]:List Int)))
 ) else (
 ck (i64B (y34+1)) <|
 zAi fu p0 s8 y22 k (y34+1) y35
 )
 ) else (
 some y35
 )
def zBU (fu : Nat) (p0 : List zA4) (s8 : (List (List UInt8))) : Nat -> Int -> (List zAF) -> Option (List zAF)
 | 0,_,_=>none
 | k+1,y22,y23=>
 bif (decide (y22<(s8.length:Int))) then (
 ck (inR y22 s8.length) <|
 cl true (zAi fu p0 s8 y22 fu 0 ((gtD s8 y22),([]:List Int))) fun s33=>
 ck (zBJ (y23.length+([s33]:List zAF).length)) <|
 ck (i64B (y22+1)) <|
 zBU fu p0 s8 k (y22+1) (y23++([s33]:List zAF))
 ) else (
 some y23
 )
def zBg (fu:Nat) (p0:List zA4):Option (List zAF):=
 cl true (zEB fu p0) fun x2=>
 bif (!x2) then (
 some ([]:List zAF)
 ) else (
 cl true (zAt fu p0 fu ([]:List (List UInt8)) 0) fun s8=>
 cl true (zBU fu p0 s8 fu 0 ([]:List zAF)) fun s21=>
 some s21
 )
set_option linter.unusedSimpArgs false in
theorem zGP {fu : Nat} {A0 : Av} {p0 : List zA4} {r : List zAF} (c : zBg fu p0 = some r) {w : World} {v0 : Value} (d : AvOK A0 w) (h0 : Rep (eSl zA0) A0 w v0 p0) :
 Calls prog 9 #[v0] w fun e w'=>∃ v,e=.returned v/\((Res.vec w.heap.size 54 zA8 r).ok (addA A0 v) v w'/\Fr w w'):=by
 unfold zBg at c
 obtain ⟨w0,hw0,j,C⟩:=pw d
 have hA00:AvOK A0 w0:=C
 rw [fh hw0]
 rw [fw hw0]
 obtain ⟨A,hAe,B,d,q⟩:=pa d
 refine zA9 [.tmp 2] func9 ntmps9 (by decide) Z Z (nb Z) ?_
 intro R hR
 have f_v0:Rep (eSl zA0) A w v0 p0:=hAe ▸ h0
 replace h0:R 0=v0:=hR 0 _ Z
 refine zQU d j (eA::[]) ?_ ?_
 exact op (fun Q U W H D=>zA2 N)<|oz
 intro R w m n p d j
 replace h0:=k1 n h0
 replace f_v0:=f_v0.fr m
 replace q:=q.fr m
 refine zQV [] (⟨_,true,[],some (.vec w0.heap.size 54 zA8 ([]:List zAF)),true,fun A=>.any⟩::⟨_,true,[0],some (.vec w0.heap.size 54 zA8 ([]:List zAF)),true,fun A=>.any⟩::[]) (ua (ua (UAll.nil))) q d ?_ ?_
 exact rc (OblR.made _ Z Z Z Z fun V Q U O D=>by exact zC0 [] (E:=zA8) N underlying24 sizeOf54 zeroValue54 Z Z Z (Nat.le_trans j.size O.ch.size))<|rc (OblR.took 0 _ _ Z Z Z Z Z fun V Q U O D u X Y J L M=>by exact zAD (L _ _ Z Z Z Z).symm X Y)<|rz
 intro done ρ σ A R w y s
 replace h0:=k1 s.rg h0
 obtain ⟨u1,e_u1⟩:∃ u,ρ 1=u:=⟨_,Z⟩
 have h3:=s.ov y 1 1 e_u1
 replace f_v0:=f_v0.stp s.stp
 obtain ⟨B,j,d⟩:=s.s B C j q N
 replace q:=s.left y [(1,ob u1 (.vec w0.heap.size 54 zA8 ([]:List zAF)))] ⟨Z,Z,e_u1,Z,Z,N⟩
 refine zQT ?_
 obtain ⟨x2,q3,c⟩:=zA6 c
 refine zQU d j (eR v0::eB x2::eB (!x2)::[]) ?_ ?_
 exact om h0<|op (fun Q U W H D=>zAI call35 (zHr (q3 Z) (d.fr W.size) ((f_v0.fr W).eq (D.g 0 Z))))<|op (fun Q U W H D=>zDU (D.g 0 Z))<|oz
 intro R w m n p d j
 obtain ⟨h0,h3⟩:=k2 n h0 h3
 have h12:=p.r 2 Z
 replace f_v0:=f_v0.fr m
 replace q:=q.fr m
 refine zQM (!x2) h12 (fun c4=>?_) (fun c4=>?_)
 have c:=zAN c4 c
 refine zQU d j (eR u1::eR u1::[]) ?_ ?_
 exact om h3<|oa<|oz
 intro R w m n p d j
 have h2:=p.r 1 Z
 replace q:=q.fr m
 refine HT.ret ?_
 obtain rfl:=si c
 exact ⟨.inr Z,[R 2],⟨Z,N⟩,(zC7 (q.ok 0 _ Z) B h2),j⟩
 have c:=zAM c4 c
 refine HT.skip<|zQU d j (eF (.rep (eSl eStr) A ([]:List (List UInt8)))::eF (.rep (eSl eStr) A ([]:List (List UInt8)))::[]) ?_ ?_
 exact op (fun Q U W H D=>zAe [] (E:=eStr) N underlying34 sizeOf9 zeroValue9 Z Z Z (d.fr W.size))<|op (fun Q U W H D=>zA2 (D.g 0 Z))<|oz
 intro R w m n p d j
 obtain ⟨h0,h3⟩:=k2 n h0 h3
 obtain ⟨u5,h4,f_u5⟩:∃ u,R 4=u/\Rep (eSl eStr) A w u ([]:List (List UInt8)):=⟨_,Z,p 1 _ _ Z Z Z⟩
 replace f_v0:=f_v0.fr m
 replace q:=q.fr m
 refine zQT<|zQU d j (eI 0::[]) ?_ ?_
 exact op (fun Q U W H D=>zA2 Z)<|oz
 intro R w m n p d j
 obtain ⟨h0,h3,h4⟩:=k3 n h0 h3 h4
 have h5:=p.r 0 Z
 replace f_u5:=f_u5.fr m
 replace f_v0:=f_v0.fr m
 replace q:=q.fr m
 obtain ⟨rl6,q7,c⟩:=zA6 c
 replace q7:=q7 Z
 refine zQO (fun R w=>∃ A:Av,∃ (s8:(List (List UInt8))) (wo_4:Value),rl6=s8/\AvOK A w/\Fr w0 w/\(∀ b o,A0 b o->A b o)/\IniOK [ob u1 (.vec w0.heap.size 54 zA8 ([]:List zAF))] A w/\R 0=v0/\R 3=u1/\R 4=wo_4/\Rep (eSl zA0) A w v0 p0/\Rep (eSl eStr) A w wo_4 s8) ?_ ?_
 refine HT.block<|zQS (fun k R w=>∃ A:Av,∃ (y9:List (List UInt8)) (y10:Int) (wl_4:Value),zAt fu p0 k y9 y10=some rl6/\AvOK A w/\Fr w0 w/\(∀ b o,A0 b o->A b o)/\IniOK [ob u1 (.vec w0.heap.size 54 zA8 ([]:List zAF))] A w/\R 0=v0/\R 3=u1/\R 4=wl_4/\R 5=.int .i64 y10/\Rep (eSl zA0) A w v0 p0/\Rep (eSl eStr) A w wl_4 y9) fu ⟨_,_,_,u5,q7,d,j,B,q,h0,h3,h4,h5,f_v0,f_u5⟩ ?_
 have hr0:=c;clear c q7
 rintro k R w ⟨A,y9,y10,wl_4,c,d,j,B,q,h0,h3,h4,h5,f_v0,f_wl_4⟩
 rcases k with _ | k
 cases (show none=some _ from c)
 rw [zAt] at c
 refine zQT<|zQU d j (eI y10::eR v0::eI (p0.length:Int)::eB (decide (y10<(p0.length:Int)))::[]) ?_ ?_
 exact om h5<|om h0<|op (fun Q U W H D=>zAK (aT:=#[]) ((f_v0.fr W).eq (D.g 0 Z)) underlying26)<|op (fun Q U W H D=>zAk (D.g 0 Z) (D.g 1 Z))<|oz
 intro R w m n p d j
 obtain ⟨h0,h3,h4,h5⟩:=k4 n h0 h3 h4 h5
 have h18:=p.r 3 Z
 replace f_v0:=f_v0.fr m
 replace f_wl_4:=f_wl_4.fr m
 replace q:=q.fr m
 refine zQM (decide (y10<(p0.length:Int))) h18 (fun c11=>?_) (fun c11=>?_)
 have c:=zAN c11 c
 refine HT.skip<|zQT<|HT.block ?_
 obtain ⟨e12,c⟩:=zA7 c
 obtain ⟨x13,q14,c⟩:=zA6 c
 obtain ⟨x15,q16,c⟩:=zA6 c
 refine HT.u d j (eR wl_4::eR v0::eI y10::eF (.qtr zA0 A (gtD p0 y10))::eF (.rep zA0 A (gtD p0 y10))::eF (.rep (eSl eStr) A x13)::eF (.rep (eSl eStr) A x15)::eF (.rep (eSl eStr) A x15)::[]) ?_ ?_
 exact om h4<|om h0<|om h5<|op (fun Q U W H D=>zAC ((f_v0.fr W).eq (D.g 0 Z)) (D.g 1 Z) underlying26 sizeOf51 e12)<|op (fun Q U W H D=>(zAT (QRep.ptr (D.g 0 Z)) isAgg51 sizeOf51))<|op (fun Q U W H D=>zAI call37 (zF8 (q14 Z) (d.fr W.size) (D.g 0 Z)))<|op (fun Q U W H D=>zAI call36 (zGE (q16 Z) (d.fr W.size) ((f_wl_4.fr W).eq (D.g 0 Z)) (D.g 1 Z)))<|op (fun Q U W H D=>zA2 (D.g 0 Z))<|oz
 intro R w m n p d j
 obtain ⟨h0,h3,h5⟩:=k3 n h0 h3 h5
 obtain ⟨u17,h4,f_u17⟩:∃ u,R 4=u/\Rep (eSl eStr) A w u x15:=⟨_,Z,p 7 _ _ Z Z Z⟩
 replace f_v0:=f_v0.fr m
 replace q:=q.fr m
 obtain ⟨e18,c⟩:=zA7 c
 refine HT.u d j (eI y10::eI (y10+1)::eI (y10+1)::[]) ?_ ?_
 exact om h5<|op (fun Q U W H D=>zAS (D.g 0 Z) Z e18)<|oa<|oz
 intro R w m n p d j
 obtain ⟨h0,h3,h4⟩:=k3 n h0 h3 h4
 have h5:=p.r 2 Z
 replace f_u17:=f_u17.fr m
 replace f_v0:=f_v0.fr m
 replace q:=q.fr m
 exact ei k (And.intro (Nat.lt_succ_self k) ⟨_,_,_,u17,c,d,j,B,q,h0,h3,h4,h5,f_v0,f_u17⟩)
 have c:=zAM c11 c
 refine zQR ?_
 obtain rfl:=si c
 exact ei _ ⟨_,wl_4,Z,d,j,B,q,h0,h3,h4,f_v0,f_wl_4⟩
 rintro R w ⟨A,s8,wo_4,es,d,j,B,q,h0,h3,h4,f_v0,f_wo_4⟩
 obtain rfl:=es.symm
 refine zQT<|zQU d j (eI 0::[]) ?_ ?_
 exact op (fun Q U W H D=>zA2 Z)<|oz
 intro R w m n p d j
 obtain ⟨h0,h3,h4⟩:=k3 n h0 h3 h4
 have h6:=p.r 0 Z
 replace f_v0:=f_v0.fr m
 replace f_wo_4:=f_wo_4.fr m
 replace q:=q.fr m
 obtain ⟨rl19,q20,c⟩:=zA6 c
 replace q20:=q20 Z
 refine zQO (fun R w=>∃ A:Av,∃ (s21:(List zAF)) (uo_u1:Value),rl19=s21/\AvOK A w/\Fr w0 w/\(∀ b o,A0 b o->A b o)/\IniOK [ob uo_u1 (.vec w0.heap.size 54 zA8 s21)] A w/\R 3=uo_u1) ?_ ?_
 refine HT.block<|zQS (fun k R w=>∃ A:Av,∃ (y22:Int) (y23:List zAF) (ul_u1:Value),zBU fu p0 s8 k y22 y23=some rl19/\AvOK A w/\Fr w0 w/\(∀ b o,A0 b o->A b o)/\IniOK [ob ul_u1 (.vec w0.heap.size 54 zA8 y23)] A w/\R 0=v0/\R 3=ul_u1/\R 4=wo_4/\R 6=.int .i64 y22/\Rep (eSl zA0) A w v0 p0/\Rep (eSl eStr) A w wo_4 s8) fu ⟨_,_,_,u1,q20,d,j,B,q,h0,h3,h4,h6,f_v0,f_wo_4⟩ ?_
 have hr0:=c;clear c q20
 rintro k R w ⟨A,y22,y23,ul_u1,c,d,j,B,q,h0,h3,h4,h6,f_v0,f_wo_4⟩
 rcases k with _ | k
 cases (show none=some _ from c)
 rw [zBU] at c
 refine zQT<|zQU d j (eI y22::eR wo_4::eI (s8.length:Int)::eB (decide (y22<(s8.length:Int)))::[]) ?_ ?_
 exact om h6<|om h4<|op (fun Q U W H D=>zAK (aT:=#[]) ((f_wo_4.fr W).eq (D.g 0 Z)) underlying34)<|op (fun Q U W H D=>zAk (D.g 0 Z) (D.g 1 Z))<|oz
 intro R w m n p d j
 obtain ⟨h0,h3,h4,h6⟩:=k4 n h0 h3 h4 h6
 have h31:=p.r 3 Z
 replace f_v0:=f_v0.fr m
 replace f_wo_4:=f_wo_4.fr m
 replace q:=q.fr m
 refine zQM (decide (y22<(s8.length:Int))) h31 (fun c24=>?_) (fun c24=>?_)
 have c:=zAN c24 c
 refine HT.skip<|zQT<|HT.block ?_
 obtain ⟨e25,c⟩:=zA7 c
 refine zQV [ob ul_u1 (.vec w0.heap.size 54 zA8 y23)] (rR wo_4::rI y22::(rF fun A=>.qtr eStr A (gtD s8 y22))::(rF fun A=>.rep eStr A (gtD s8 y22))::⟨_,true,[],some (trR (geB w0.heap.size) (oPr (oRd eStr) (oSl 3 (oRd (eInt .i64)))) ((gtD s8 y22),([]:List Int)) []),true,fun A=>.any⟩::⟨_,true,[],some (trR (geB w0.heap.size) (oPt 54 (oPr (oRd eStr) (oSl 3 (oRd (eInt .i64))))) (([]:List UInt8),([]:List Int)) []),true,fun A=>.any⟩::⟨_,true,[6,5],some (trR (geB w0.heap.size) (oPt 54 (oPr (oRd eStr) (oSl 3 (oRd (eInt .i64))))) ((gtD s8 y22),([]:List Int)) []),false,fun A=>.any⟩::[]) (ur (ur (UAll.cons zDl (up (ua (ua (ua (UAll.nil)))))))) q d ?_ ?_
 exact rm h4<|rm h6<|rp (fun V Q U O D=>zAC ((f_wo_4.stp O.stp).eq (D.g 0 Z)) (D.g 1 Z) underlying34 sizeOf9 e25)<|rp (fun V Q U O D=>(zAT (QRep.ptr (D.g 0 Z)) isAgg9 sizeOf9))<|rc (zQZ _ Z Z Z Z fun V Q U O D=>by have a0:Rep eStr V U (Q 37) (gtD s8 y22):=D.g 0 Z;obtain ⟨c26s,c26,c26r⟩:=zJ0 a0;exact zMv (v:=.agg #[.string c26s,.slice none 0 0]) (by simp [execOp,Instr.build,zAH,c26,underlying,underlying54,zeroValue54,sizeOf52,sizeOf9,go_sem,Instr.fill]) ⟨⟨_,Z,zGJ (zFQ c26r) zI0⟩,fun q hq=>by cases hq⟩ (fun k hk=>Nat.le_trans (Nat.le_trans j.size O.ch.size) hk))<|rc (zQZ _ Z Z Z Z fun V Q U O D=>by exact zG6 zeroValue54 (fun A w=>zGJ (zFQ (zGg Z (by decide))) zI0) (fun k hk=>Nat.le_trans (Nat.le_trans j.size O.ch.size) hk))<|rc (zQa 6 [5] _ Z Z Z Z fun V Q U O D ρ σ X Y J L M hdd=>by have k1:=X 6 (.head _) _ Z;exact zHV Z (zD1 k1.2.2).ptr (X 5 (.tail _ (.head _)) _ Z).2.2.1 (L 5 (.tail _ (.head _)) _ _ Z Z Z Z).symm (L 6 (.head _) _ _ Z Z Z Z).symm Y hdd k1.2.1 (X 5 (.tail _ (.head _)) _ Z).2.1 sizeOf54 (fun _ _ _ h=>h))<|rz
 intro done ρ σ A R w y s
 obtain ⟨h0,h3,h4,h6⟩:=k4 s.rg h0 h3 h4 h6
 have z27:=s.inivR 0 Z
 obtain ⟨u28,e_u28⟩:∃ u,ρ 7=u:=⟨_,Z⟩
 have z29:=(s.opnR y 7 6 Z Z Z Z Z).symm.trans e_u28
 have h7:=s.ov y 6 5 z29
 obtain ⟨S30,eS_u28⟩:∃ S,σ 7=S:=⟨_,Z⟩
 replace f_v0:=f_v0.stp s.stp
 replace f_wo_4:=f_wo_4.stp s.stp
 obtain ⟨B,j,d⟩:=s.s B C j q ⟨Z,N⟩
 replace q:=s.left y [(0,ob ul_u1 (.vec w0.heap.size 54 zA8 y23)),(7,⟨u28,S30,trR (geB w0.heap.size) (oPt 54 (oPr (oRd eStr) (oSl 3 (oRd (eInt .i64))))) ((gtD s8 y22),([]:List Int)) []⟩)] ⟨Z,Z,z27,Z,Z,⟨Z,Z,e_u28,eS_u28,Z,N⟩⟩
 refine zQT<|zQU d j (eI 0::[]) ?_ ?_
 exact op (fun Q U W H D=>zA2 Z)<|oz
 intro R w m n p d j
 obtain ⟨h0,h3,h4,h6,h7⟩:=k5 n h0 h3 h4 h6 h7
 have h8:=p.r 0 Z
 replace f_v0:=f_v0.fr m
 replace f_wo_4:=f_wo_4.fr m
 replace q:=q.fr m
 obtain ⟨rl31,q32,c⟩:=zA6 c
 replace q32:=q32 Z
 refine zQO (fun R w=>∃ A:Av,∃ (s33:zAF) (So_u28:Nat->Prop),rl31=s33/\AvOK A w/\Fr w0 w/\(∀ b o,A0 b o->A b o)/\IniOK [ob ul_u1 (.vec w0.heap.size 54 zA8 y23),⟨u28,So_u28,trR (geB w0.heap.size) (oPt 54 (oPr (oRd eStr) (oSl 3 (oRd (eInt .i64))))) s33 []⟩] A w/\R 0=v0/\R 3=ul_u1/\R 4=wo_4/\R 6=.int .i64 y22/\R 7=u28/\Rep (eSl zA0) A w v0 p0/\Rep (eSl eStr) A w wo_4 s8) ?_ ?_
 refine HT.block<|zQS (fun k R w=>∃ A:Av,∃ (y34:Int) (y35:zAF) (Sl_u28:Nat->Prop),zAi fu p0 s8 y22 k y34 y35=some rl31/\AvOK A w/\Fr w0 w/\(∀ b o,A0 b o->A b o)/\IniOK [ob ul_u1 (.vec w0.heap.size 54 zA8 y23),⟨u28,Sl_u28,trR (geB w0.heap.size) (oPt 54 (oPr (oRd eStr) (oSl 3 (oRd (eInt .i64))))) y35 []⟩] A w/\R 0=v0/\R 3=ul_u1/\R 4=wo_4/\R 6=.int .i64 y22/\R 7=u28/\R 8=.int .i64 y34/\Rep (eSl zA0) A w v0 p0/\Rep (eSl eStr) A w wo_4 s8) fu ⟨_,_,_,S30,q32,d,j,B,q,h0,h3,h4,h6,h7,h8,f_v0,f_wo_4⟩ ?_
 have hr0:=c;clear c q32
 rintro k R w ⟨A,y34,y35,Sl_u28,c,d,j,B,q,h0,h3,h4,h6,h7,h8,f_v0,f_wo_4⟩
 rcases k with _ | k
 cases (show none=some _ from c)
 rw [zAi] at c
 refine zQT<|zQU d j (eI y34::eR v0::eI (p0.length:Int)::eB (decide (y34<(p0.length:Int)))::[]) ?_ ?_
 exact om h8<|om h0<|op (fun Q U W H D=>zAK (aT:=#[]) ((f_v0.fr W).eq (D.g 0 Z)) underlying26)<|op (fun Q U W H D=>zAk (D.g 0 Z) (D.g 1 Z))<|oz
 intro R w m n p d j
 obtain ⟨h0,h3,h4,h6,h7,h8⟩:=k6 n h0 h3 h4 h6 h7 h8
 have h42:=p.r 3 Z
 replace f_v0:=f_v0.fr m
 replace f_wo_4:=f_wo_4.fr m
 replace q:=q.fr m
 refine zQM (decide (y34<(p0.length:Int))) h42 (fun c36=>?_) (fun c36=>?_)
 have c:=zAN c36 c
 refine HT.skip<|zQT<|HT.block<|zQT ?_
 obtain ⟨e37,c⟩:=zA7 c
 obtain ⟨x38,q39,c⟩:=zA6 c
 obtain ⟨e40,c⟩:=zA7 c
 obtain ⟨x41,q42,c⟩:=zA6 c
 refine zQP (by kernel_rfl) (l:=eR v0::eI y34::eF (.qtr zA0 A (gtD p0 y34))::eF (.rep zA0 A (gtD p0 y34))::eF (.rep (eSl eStr) A x38)::eR wo_4::eI y22::eF (.qtr eStr A (gtD s8 y22))::eF (.rep eStr A (gtD s8 y22))::eB x41::[]) (tl:=[]) (by kernel_rfl) (by kernel_rfl) (by kernel_rfl) (by kernel_rfl) ?_ ?_
 exact om h0<|om h8<|op (fun Q U W H D=>zAC ((f_v0.fr W).eq (D.g 0 Z)) (D.g 1 Z) underlying26 sizeOf51 e37)<|op (fun Q U W H D=>(zAT (QRep.ptr (D.g 0 Z)) isAgg51 sizeOf51))<|op (fun Q U W H D=>zAI call37 (zF8 (q39 Z) (d.fr W.size) (D.g 0 Z)))<|om h4<|om h6<|op (fun Q U W H D=>zAC ((f_wo_4.fr W).eq (D.g 0 Z)) (D.g 1 Z) underlying34 sizeOf9 e40)<|op (fun Q U W H D=>(zAT (QRep.ptr (D.g 0 Z)) isAgg9 sizeOf9))<|op (fun Q U W H D=>zAI call38 (zIU (q42 Z) (d.fr W.size) (D.g 0 Z) (D.g 1 Z)))<|oz
 intro R w m n p
 obtain ⟨h0,h3,h4,h6,h7,h8⟩:=k6 n h0 h3 h4 h6 h7 h8
 have h54:=p.r 9 Z
 replace f_v0:=f_v0.fr m
 replace f_wo_4:=f_wo_4.fr m
 replace q:=q.fr m
 replace d:=d.fr m.size
 replace j:=j.trans m
 refine zQM x41 h54 (fun c43=>?_) (fun c43=>?_)
 have c:=zAN c43 c
 obtain ⟨h44,p_h44⟩:=((((zD1 (q.own 1 _ Z).2).ptr).snd Z)).open1 Z
 replace q:IniOK [ob ul_u1 (.vec w0.heap.size 54 zA8 y23),⟨u28,Sl_u28,trR (geB w0.heap.size) (oPt 54 (oPr (oRd eStr) (oSl 3 (oRd (eInt .i64))))) y35 [((padd u28 1),[h44])]⟩] A w:=q.repin 1 Z (trP.pin p_h44)
 obtain ⟨e46,c⟩:=zA7 c
 refine zQY [ob ul_u1 (.vec w0.heap.size 54 zA8 y23),⟨u28,Sl_u28,trR (geB w0.heap.size) (oPt 54 (oPr (oRd eStr) (oSl 3 (oRd (eInt .i64))))) y35 [((padd u28 1),[h44])]⟩] (rR (padd u28 1)::rR h44::rI y34::(rF fun A=>.rep (eSl (eInt .i64)) A ([y34]:List Int))::⟨_,true,[1],some (.gen (geB w0.heap.size) (pdP (oSl 3 (oRd (eInt .i64))) (padd u28 1) (fun z A w S=>(trP (oPt 54 (oPr (oRd eStr) (oSl 3 (oRd (eInt .i64))))) (y35.1,z) []).P A w S u28) (y35.2++([y34]:List Int)))),true,fun A=>.any⟩::rR (padd u28 1)::⟨_,true,[6],some (.gen (geB w0.heap.size) (fixP u28 (trP (oPt 54 (oPr (oRd eStr) (oSl 3 (oRd (eInt .i64))))) (y35.1,(y35.2++([y34]:List Int))) []))),false,fun A=>.any⟩::[]) (ur (ur (ur (up (ua (ur (ua (UAll.nil)))))))) q d ?_ ?_
 exact rp (fun V Q U O D=>zD2 ((zD1 (q.own 1 _ Z).2).ptr).ad ((O.old 7 Z).trans h7) zEn sizeOf52 (by decide) Z)<|rp (fun V Q U O D=>zH4 ((O.rdo 1 _ Z Z).2.2 _ (.head _)) (D.g 0 Z) isAgg52 sizeOf52)<|rm h8<|rp (fun V Q U O D=>zAe [_] (E:=eInt .i64) ⟨(zBT.eq (D.g 0 Z)),N⟩ underlying52 sizeOf3 zeroValue3 Z Z Z O.av)<|rc (zQb 1 _ _ Z Z Z Z Z fun V Q U O D u S X I Y J L M=>by have a0:Q 56=h44:=D.g 0 Z;have a1:Rep (eSl (eInt .i64)) V U (Q 58) ([y34]:List Int):=D.g 1 Z;have e0:=(J _ Z).1;rw [e0] at I ⊢;exact zKE (((zD1 I.2).ptr).snd Z) (I.2.2 _ (.head _)) a0 Y I.1 (fun k hk=>Nat.le_trans (Nat.le_trans j.size O.ch.size) hk) (fun k hk=>SP.lt _ I.2 hk) a1 underlying52 el_3 e46)<|rp (fun V Q U O D=>zD2 ((zD1 (q.own 1 _ Z).2).ptr).ad ((O.old 7 Z).trans h7) zEn sizeOf52 (by decide) Z)<|rc (zQb 6 _ _ Z Z Z Z Z fun V Q U O D u S X I Y J L M=>by have a0:Q 60=(padd u28 1):=D.g 0 Z;exact zMn I.2 (L _ _ Z Z Z Z).symm a0 Y I.1 sizeOf52 (fun _ _ _ h=>h))<|rz
 intro done ρ σ A R w y s
 obtain ⟨h0,h3,h4,h6,h7,h8⟩:=k6 s.rg h0 h3 h4 h6 h7 h8
 have z47:=s.inivR 0 Z
 obtain ⟨u48,e_u48⟩:∃ u,ρ 8=u:=⟨_,Z⟩
 obtain ⟨S49,eS_u28⟩:∃ S,σ 8=S:=⟨_,Z⟩
 replace f_v0:=f_v0.stp s.stp
 replace f_wo_4:=f_wo_4.stp s.stp
 obtain ⟨B,j,d⟩:=s.s B C j q ⟨Z,⟨fun _ h=>h,N⟩⟩
 replace q:=s.left y [(0,ob ul_u1 (.vec w0.heap.size 54 zA8 y23)),(8,⟨u48,S49,.gen (geB w0.heap.size) (fixP u28 (trP (oPt 54 (oPr (oRd eStr) (oSl 3 (oRd (eInt .i64))))) (y35.1,(y35.2++([y34]:List Int))) []))⟩)] ⟨Z,Z,z47,Z,Z,⟨Z,Z,e_u48,eS_u28,Z,N⟩⟩
 replace q:IniOK [ob ul_u1 (.vec w0.heap.size 54 zA8 y23),⟨u28,S49,trR (geB w0.heap.size) (oPt 54 (oPr (oRd eStr) (oSl 3 (oRd (eInt .i64))))) (y35.1,(y35.2++([y34]:List Int))) []⟩] A w:=q.refix 1 Z
 obtain ⟨e50,c⟩:=zA7 c
 refine HT.u d j (eI y34::eI (y34+1)::eI (y34+1)::[]) ?_ ?_
 exact om h8<|op (fun Q U W H D=>zAS (D.g 0 Z) Z e50)<|oa<|oz
 intro R w m n p d j
 obtain ⟨h0,h3,h4,h6,h7⟩:=k5 n h0 h3 h4 h6 h7
 have h8:=p.r 2 Z
 replace f_v0:=f_v0.fr m
 replace f_wo_4:=f_wo_4.fr m
 replace q:=q.fr m
 exact ei k (And.intro (Nat.lt_succ_self k) ⟨_,_,_,S49,c,d,j,B,q,h0,h3,h4,h6,h7,h8,f_v0,f_wo_4⟩)
 have c:=zAM c43 c
 refine HT.skip ?_
 obtain ⟨e51,c⟩:=zA7 c
 refine HT.u d j (eI y34::eI (y34+1)::eI (y34+1)::[]) ?_ ?_
 exact om h8<|op (fun Q U W H D=>zAS (D.g 0 Z) Z e51)<|oa<|oz
 intro R w m n p d j
 obtain ⟨h0,h3,h4,h6,h7⟩:=k5 n h0 h3 h4 h6 h7
 have h8:=p.r 2 Z
 replace f_v0:=f_v0.fr m
 replace f_wo_4:=f_wo_4.fr m
 replace q:=q.fr m
 exact ei k (And.intro (Nat.lt_succ_self k) ⟨_,_,_,Sl_u28,c,d,j,B,q,h0,h3,h4,h6,h7,h8,f_v0,f_wo_4⟩)
 have c:=zAM c36 c
 refine zQR ?_
 obtain rfl:=si c
 exact ei _ ⟨_,Sl_u28,Z,d,j,B,q,h0,h3,h4,h6,h7,f_v0,f_wo_4⟩
 rintro R w ⟨A,s33,So_u28,es,d,j,B,q,h0,h3,h4,h6,h7,f_v0,f_wo_4⟩
 obtain rfl:=es.symm
 obtain ⟨e52,c⟩:=zA7 c
 refine zQY [ob ul_u1 (.vec w0.heap.size 54 zA8 y23),⟨u28,So_u28,trR (geB w0.heap.size) (oPt 54 (oPr (oRd eStr) (oSl 3 (oRd (eInt .i64))))) s33 []⟩] (rR ul_u1::⟨_,true,[1],some (.nul),false,fun A=>.rep zA8 A s33⟩::(rF fun A=>.rep (eSl zA8) A ([s33]:List zAF))::⟨_,true,[0],some (.vec w0.heap.size 54 zA8 (y23++([s33]:List zAF))),true,fun A=>.any⟩::⟨_,true,[5],some (.vec w0.heap.size 54 zA8 (y23++([s33]:List zAF))),true,fun A=>.any⟩::[]) (ur (up (up (ua (ua (UAll.nil)))))) q d ?_ ?_
 exact rm h3<|rc (zQb 1 .nul _ Z Z Z Z Z fun V Q U O D u S X I Y J L M=>by have a0:Q 7=u28:=(O.old 7 Z).trans h7;exact zET I.2 (a0.trans (J _ Z).1.symm) Y isAgg54 sizeOf54)<|rp (fun V Q U O D=>zAe [_] (E:=zA8) ⟨(D.g 0 Z),N⟩ underlying24 sizeOf54 zeroValue54 Z Z Z O.av)<|rc (OblR.took 0 _ _ Z Z Z Z Z fun V Q U O D u X Y J L M=>by have a0:Q 61=ul_u1:=D.g 0 Z;have a1:Rep (eSl zA8) V U (Q 63) ([s33]:List zAF):=D.g 1 Z;exact zAW (a0.trans (J _ Z).symm) X Y (Nat.le_trans j.size O.ch.size) a1 underlying24 zPv e52)<|rc (OblR.took 5 _ _ Z Z Z Z Z fun V Q U O D u X Y J L M=>by exact zAD (L _ _ Z Z Z Z).symm X Y)<|rz
 intro done ρ σ A R w y s
 obtain ⟨h0,h4,h6⟩:=k3 s.rg h0 h4 h6
 obtain ⟨u53,e_u53⟩:∃ u,ρ 6=u:=⟨_,Z⟩
 have h3:=s.ov y 6 4 e_u53
 replace f_v0:=f_v0.stp s.stp
 replace f_wo_4:=f_wo_4.stp s.stp
 obtain ⟨B,j,d⟩:=s.s B C j q ⟨Z,⟨fun _ h=>h,N⟩⟩
 replace q:=s.left y [(6,ob u53 (.vec w0.heap.size 54 zA8 (y23++([s33]:List zAF))))] ⟨Z,Z,e_u53,Z,Z,N⟩
 obtain ⟨e54,c⟩:=zA7 c
 refine HT.u d j (eI y22::eI (y22+1)::eI (y22+1)::[]) ?_ ?_
 exact om h6<|op (fun Q U W H D=>zAS (D.g 0 Z) Z e54)<|oa<|oz
 intro R w m n p d j
 obtain ⟨h0,h3,h4⟩:=k3 n h0 h3 h4
 have h6:=p.r 2 Z
 replace f_v0:=f_v0.fr m
 replace f_wo_4:=f_wo_4.fr m
 replace q:=q.fr m
 exact ei k (And.intro (Nat.lt_succ_self k) ⟨_,_,_,u53,c,d,j,B,q,h0,h3,h4,h6,f_v0,f_wo_4⟩)
 have c:=zAM c24 c
 refine zQR ?_
 obtain rfl:=si c
 exact ei _ ⟨_,ul_u1,Z,d,j,B,q,h3⟩
 rintro R w ⟨A,s21,uo_u1,es,d,j,B,q,h3⟩
 obtain rfl:=es.symm
 refine zQU d j (eR uo_u1::eR uo_u1::[]) ?_ ?_
 exact om h3<|oa<|oz
 intro R w m n p d j
 have h2:=p.r 1 Z
 replace q:=q.fr m
 refine HT.ret ?_
 obtain rfl:=si c
 exact ⟨.inr Z,[R 2],⟨Z,N⟩,(zC7 (q.ok 0 _ Z) B h2),j⟩
theorem zD4 {fu : Nat} {A0 : Av} {p0 : List zA4} {r : List zAF} (c : zBg fu p0 = some r) {w : World} {v0 : Value} (d : AvOK A0 w) (h0 : Rep (eSl zA0) A0 w v0 p0) :
 Calls prog 9 #[v0] w fun e w'=>∃ v,e=.returned v/\(Rep (eSl zA8) A0 w' v r/\Fr w w'):=by
 refine Calls.mono (zGP c d h0) ?_
 rintro e w' ⟨v,he,hv,hf⟩
 exact ⟨v,he,zCB hv (fun b o h=>.inl h) d,hf⟩
def zCn (fu : Nat) (p0 : List zA5) (p1 : zA5) : Nat -> Int -> Option Int
 | 0,_=>none
 | k+1,y6=>
 ck (!(true&&((decide (y6<(p0.length:Int)))==true)) || inR y6 p0.length) <|
 ck (!((true&&((decide (y6<(p0.length:Int)))==true))&&((decide (((gtD p0 y6).1)<p1.1))==false)) || inR y6 p0.length) <|
 ck (!(((true&&((decide (y6<(p0.length:Int)))==true))&&((decide (((gtD p0 y6).1)<p1.1))==false))&&((((gtD p0 y6).1)==p1.1)==true)) || inR y6 p0.length) <|
 bd ((((gtD p0 y6).1)==p1.1)&&(decide (((gtD p0 y6).2)<p1.2))) fun x10=>
 bd ((decide (((gtD p0 y6).1)<p1.1)) || x10) fun x12=>
 bd ((decide (y6<(p0.length:Int)))&&x12) fun x14=>
 bif x14 then (
 ck (i64B (y6+1)) <|
 zCn fu p0 p1 k (y6+1)
 ) else (
 some y6
 )
def zEi (fu:Nat) (p0:List zA5) (p1:zA5):Option (List zA5):=
 cl true (zCn fu p0 p1 fu 0) fun s5=>
 ck (!(true&&((decide (s5<(p0.length:Int)))==true)) || inR s5 p0.length) <|
 bd ((decide (s5<(p0.length:Int)))&&((gtD p0 s5)==p1)) fun x19=>
 bif x19 then (
 some p0
 ) else (
 ck (subR 0 s5 p0.length) <|
 bd (s5.toNat-(0:Int).toNat) fun x23=>
 ck (zBJ (([]:List zA5).length+(subL p0 0 s5).length)) <|
 ck (zBJ ((([]:List zA5)++(subL p0 0 s5)).length+([p1]:List zA5).length)) <|
 ck (subR s5 (p0.length:Int) p0.length) <|
 bd ((p0.length:Int).toNat-s5.toNat) fun x28=>
 ck (zBJ (((([]:List zA5)++(subL p0 0 s5))++([p1]:List zA5)).length+(subL p0 s5 (p0.length:Int)).length)) <|
 some (((([]:List zA5)++(subL p0 0 s5))++([p1]:List zA5))++(subL p0 s5 (p0.length:Int)))
 )
theorem zII {fu : Nat} {A0 : Av} {p0 : List zA5} {p1 : zA5} {r : List zA5} (c : zEi fu p0 p1 = some r) {w : World} {v0 : Value} {v1 : Value} {B0 : Nat} (d : AvOK A0 w) (K : ∀ b o, A0 b o -> ¬ zAB v0 b) (hB0 : B0 <= w.heap.size) (h0 : (Res.vec B0 48 zA3 p0).ok A0 v0 w) (h1 : Rep zA3 A0 w v1 p1) :
 Calls prog 48 #[v0,v1] w fun e w'=>∃ v,e=.returned v/\Took (addA A0 v0) true v0 (.vec B0 48 zA3 r) (fun _=>.any) w v w':=by
 unfold zEi at c
 obtain ⟨w0,hw0⟩:∃ w0,w0=w:=⟨_,Z⟩
 have j:Ch (zAB v0) w0 w:=hw0 ▸ Ch.refl _ _
 replace hB0:B0<=w0.heap.size:=hw0 ▸ hB0
 have C:∀ b o,A0 b o->b<w0.heap.size:=fun b o h=>hw0 ▸ d b o h
 have hA00:AvOK A0 w0:=C
 rw [show Took (addA A0 v0) true v0 (.vec B0 48 zA3 r) (fun _=>.any) w=Took (addA A0 v0) true v0 (.vec B0 48 zA3 r) (fun _=>.any) w0 from hw0 ▸ Z]
 obtain ⟨A,hAe⟩:∃ A,A=addA A0 v0:=⟨_,Z⟩
 have B:∀ b o,A0 b o->A b o:=fun b o h=>hAe ▸ .inl h
 replace d:AvOK A w:=hAe ▸ d.one h0
 have q:IniOK [ob v0 (.vec B0 48 zA3 p0)] A w:=hAe ▸ IniOK.one h0 (fun _ _ _ _ _ h=>h)
 refine zA9 [.tmp 4] func48 ntmps48 (by decide) Z Z (nb Z) ?_
 intro R hR
 replace h0:R 0=v0:=hR 0 _ Z
 have f_v1:Rep zA3 A w v1 p1:=h1
 replace h1:R 1=v1:=hR 1 _ Z
 refine zQV [ob v0 (.vec B0 48 zA3 p0)] (⟨_,true,[],some (.box w0.heap.size 48 zA3 p1),true,fun A=>.any⟩::rA::[]) (ua (ua (UAll.nil))) q d ?_ ?_
 exact rc (OblR.made _ Z Z Z Z fun V Q U O D=>by have a0:Q 1=v1:=(O.old 1 Z).trans h1;have ra0:=(f_v1.stp O.stp).eq a0;exact zEe ra0 (Nat.le_trans j.size O.ch.size))<|rp (fun V Q U O D=>zA2 N)<|rz
 intro done ρ σ A R w y s
 replace h0:=k1 s.rg h0
 have z1:=s.inivR 0 Z
 obtain ⟨b3_1,e_b3_1⟩:=s.boxv y 1 Z Z
 have h3:=s.ov y 1 0 e_b3_1
 replace B:=s.lowK B C K (q.geK (⟨.inr (fun k h=>.inr h),N⟩))
 replace j:Ch (zAB v0) w0 w:=j.tr s.ch (q.geK (⟨.inr (fun k h=>.inr h),N⟩))
 replace q:=s.left y [(0,ob v0 (.vec B0 48 zA3 p0)),(1,ob (.pointer (some ⟨b3_1,0,none⟩)) (.box w0.heap.size 48 zA3 p1))] ⟨Z,Z,z1,Z,Z,⟨Z,Z,e_b3_1,Z,Z,N⟩⟩
 replace d:=s.avok
 refine zQT<|zQW (eI 0::[]) ?_ ?_
 exact op (fun Q U W H D=>zA2 Z)<|oz
 intro R w m n p
 obtain ⟨h0,h3⟩:=k2 n h0 h3
 have h5:=p.r 0 Z
 replace q:=q.fr m
 replace d:=d.fr m.size
 replace j:=j.tr (m.ch noB) fun _ h=>False.elim h
 obtain ⟨rl3,q4,c⟩:=zA6 c
 replace q4:=q4 Z
 refine zQN (fun R w=>∃ A:Av,∃ (s5:Int),rl3=s5/\AvOK A w/\Ch (zAB v0) w0 w/\(∀ b o,A0 b o->A b o)/\IniOK [ob v0 (.vec B0 48 zA3 p0),ob (.pointer (some ⟨b3_1,0,none⟩)) (.box w0.heap.size 48 zA3 p1)] A w/\R 0=v0/\R 3=(.pointer (some ⟨b3_1,0,none⟩))/\R 5=.int .i64 s5) ?_ ?_
 refine HT.block<|zQS (fun k R w=>∃ A:Av,∃ (y6:Int),zCn fu p0 p1 k y6=some rl3/\AvOK A w/\Ch (zAB v0) w0 w/\(∀ b o,A0 b o->A b o)/\IniOK [ob v0 (.vec B0 48 zA3 p0),ob (.pointer (some ⟨b3_1,0,none⟩)) (.box w0.heap.size 48 zA3 p1)] A w/\R 0=v0/\R 3=(.pointer (some ⟨b3_1,0,none⟩))/\R 5=.int .i64 y6) fu ⟨_,_,q4,d,j,B,q,h0,h3,h5⟩ ?_
 have hr0:=c;clear c q4
 rintro k R w ⟨A,y6,c,d,j,B,q,h0,h3,h5⟩
 rcases k with _ | k
 cases (show none=some _ from c)
 rw [zCn] at c
 refine zQT<|zQT ?_
 obtain ⟨e7,e8,e9,c⟩:=ck3 c
 obtain ⟨x10,q11,c⟩:=zAU c
 obtain ⟨x12,q13,c⟩:=zAU c
 obtain ⟨x14,q15,c⟩:=zAU c
 refine zQP (by kernel_rfl) (l:=eI y6::eR v0::eI (p0.length:Int)::eB (decide (y6<(p0.length:Int)))::eB (decide (y6<(p0.length:Int)))::gR (true&&((decide (y6<(p0.length:Int)))==true)) v0::gI (true&&((decide (y6<(p0.length:Int)))==true)) y6::gR (true&&((decide (y6<(p0.length:Int)))==true)) (vptr v0 (y6.toNat*2))::gR (true&&((decide (y6<(p0.length:Int)))==true)) (vptr v0 (y6.toNat*2+0))::gI (true&&((decide (y6<(p0.length:Int)))==true)) ((gtD p0 y6).1)::gR (true&&((decide (y6<(p0.length:Int)))==true)) (.pointer (some ⟨b3_1,0,none⟩))::gI (true&&((decide (y6<(p0.length:Int)))==true)) p1.1::gB (true&&((decide (y6<(p0.length:Int)))==true)) (decide (((gtD p0 y6).1)<p1.1))::gB (true&&((decide (y6<(p0.length:Int)))==true)) (decide (((gtD p0 y6).1)<p1.1))::gR ((true&&((decide (y6<(p0.length:Int)))==true))&&((decide (((gtD p0 y6).1)<p1.1))==false)) v0::gI ((true&&((decide (y6<(p0.length:Int)))==true))&&((decide (((gtD p0 y6).1)<p1.1))==false)) y6::gR ((true&&((decide (y6<(p0.length:Int)))==true))&&((decide (((gtD p0 y6).1)<p1.1))==false)) (vptr v0 (y6.toNat*2))::gR ((true&&((decide (y6<(p0.length:Int)))==true))&&((decide (((gtD p0 y6).1)<p1.1))==false)) (vptr v0 (y6.toNat*2+0))::gI ((true&&((decide (y6<(p0.length:Int)))==true))&&((decide (((gtD p0 y6).1)<p1.1))==false)) ((gtD p0 y6).1)::gR ((true&&((decide (y6<(p0.length:Int)))==true))&&((decide (((gtD p0 y6).1)<p1.1))==false)) (.pointer (some ⟨b3_1,0,none⟩))::gI ((true&&((decide (y6<(p0.length:Int)))==true))&&((decide (((gtD p0 y6).1)<p1.1))==false)) p1.1::gB ((true&&((decide (y6<(p0.length:Int)))==true))&&((decide (((gtD p0 y6).1)<p1.1))==false)) (((gtD p0 y6).1)==p1.1)::gB ((true&&((decide (y6<(p0.length:Int)))==true))&&((decide (((gtD p0 y6).1)<p1.1))==false)) (((gtD p0 y6).1)==p1.1)::gR (((true&&((decide (y6<(p0.length:Int)))==true))&&((decide (((gtD p0 y6).1)<p1.1))==false))&&((((gtD p0 y6).1)==p1.1)==true)) v0::gI (((true&&((decide (y6<(p0.length:Int)))==true))&&((decide (((gtD p0 y6).1)<p1.1))==false))&&((((gtD p0 y6).1)==p1.1)==true)) y6::gR (((true&&((decide (y6<(p0.length:Int)))==true))&&((decide (((gtD p0 y6).1)<p1.1))==false))&&((((gtD p0 y6).1)==p1.1)==true)) (vptr v0 (y6.toNat*2))::gR (((true&&((decide (y6<(p0.length:Int)))==true))&&((decide (((gtD p0 y6).1)<p1.1))==false))&&((((gtD p0 y6).1)==p1.1)==true)) (vptr v0 (y6.toNat*2+1))::gI (((true&&((decide (y6<(p0.length:Int)))==true))&&((decide (((gtD p0 y6).1)<p1.1))==false))&&((((gtD p0 y6).1)==p1.1)==true)) ((gtD p0 y6).2)::gR (((true&&((decide (y6<(p0.length:Int)))==true))&&((decide (((gtD p0 y6).1)<p1.1))==false))&&((((gtD p0 y6).1)==p1.1)==true)) (.pointer (some ⟨b3_1,1,none⟩))::gI (((true&&((decide (y6<(p0.length:Int)))==true))&&((decide (((gtD p0 y6).1)<p1.1))==false))&&((((gtD p0 y6).1)==p1.1)==true)) p1.2::gB (((true&&((decide (y6<(p0.length:Int)))==true))&&((decide (((gtD p0 y6).1)<p1.1))==false))&&((((gtD p0 y6).1)==p1.1)==true)) (decide (((gtD p0 y6).2)<p1.2))::gB ((true&&((decide (y6<(p0.length:Int)))==true))&&((decide (((gtD p0 y6).1)<p1.1))==false)) x10::gB (true&&((decide (y6<(p0.length:Int)))==true)) x12::eB x14::[]) (tl:=[]) (by kernel_rfl) (by kernel_rfl) (by kernel_rfl) (by kernel_rfl) ?_ ?_
 exact om h5<|om h0<|op (fun Q U W H D=>zBu (q.ok 0 _ Z).1 (D.g 0 Z) underlying39)<|op (fun Q U W H D=>zAk (D.g 0 Z) (D.g 1 Z))<|ov<|gm 4 true h0<|gm 4 true h5<|og 4 true (fun G Q U W H D=>zAb (q.ok 0 _ Z).1 (D.h 0 G Z) (D.h 1 G Z) underlying39 sizeOf48 (gd e7 G) Z)<|og 4 true (fun G Q U W H D=>zEF ((q.fr W).ok 0 _ Z).1 (zLV (gd e7 G)) (D.h 0 G Z) zHy sizeOf3 (by decide) Z)<|og 4 true (fun G Q U W H D=>OpF.int (zBK ((q.fr W).ok 0 _ Z).1 (D.h 0 G Z) (gd e7 G) Z zDA Z isAgg3 sizeOf3))<|og 4 true (fun G Q U W H D=>zAE ((H 3 Z).trans h3) zHy sizeOf3 (by decide) Z)<|og 4 true (fun G Q U W H D=>OpF.int (zAJ ((q.fr W).ok 1 _ Z).1 (D.h 0 G Z) zDA Z isAgg3 sizeOf3))<|og 4 true (fun G Q U W H D=>zAk (D.h 0 G Z) (D.h 1 G Z))<|og 4 true (fun G Q U W H D=>zBj (D.h 0 G Z))<|gm 13 false h0<|gm 13 false h5<|og 13 false (fun G Q U W H D=>zAb (q.ok 0 _ Z).1 (D.h 0 G Z) (D.h 1 G Z) underlying39 sizeOf48 (gd e8 G) Z)<|og 13 false (fun G Q U W H D=>zEF ((q.fr W).ok 0 _ Z).1 (zLV (gd e8 G)) (D.h 0 G Z) zHy sizeOf3 (by decide) Z)<|og 13 false (fun G Q U W H D=>OpF.int (zBK ((q.fr W).ok 0 _ Z).1 (D.h 0 G Z) (gd e8 G) Z zDA Z isAgg3 sizeOf3))<|og 13 false (fun G Q U W H D=>zAE ((H 3 Z).trans h3) zHy sizeOf3 (by decide) Z)<|og 13 false (fun G Q U W H D=>OpF.int (zAJ ((q.fr W).ok 1 _ Z).1 (D.h 0 G Z) zDA Z isAgg3 sizeOf3))<|og 13 false (fun G Q U W H D=>zDM (D.h 0 G Z) (D.h 1 G Z))<|og 13 false (fun G Q U W H D=>zBj (D.h 0 G Z))<|gm 22 true h0<|gm 22 true h5<|og 22 true (fun G Q U W H D=>zAb (q.ok 0 _ Z).1 (D.h 0 G Z) (D.h 1 G Z) underlying39 sizeOf48 (gd e9 G) Z)<|og 22 true (fun G Q U W H D=>zEF ((q.fr W).ok 0 _ Z).1 (zLV (gd e9 G)) (D.h 0 G Z) zJh sizeOf3 (by decide) Z)<|og 22 true (fun G Q U W H D=>OpF.int (zBK ((q.fr W).ok 0 _ Z).1 (D.h 0 G Z) (gd e9 G) Z zEG Z isAgg3 sizeOf3))<|og 22 true (fun G Q U W H D=>zAE ((H 3 Z).trans h3) zJh sizeOf3 (by decide) Z)<|og 22 true (fun G Q U W H D=>OpF.int (zAJ ((q.fr W).ok 1 _ Z).1 (D.h 0 G Z) zEG Z isAgg3 sizeOf3))<|og 22 true (fun G Q U W H D=>zAk (D.h 0 G Z) (D.h 1 G Z))<|og 13 false (fun G Q U W H D=>zAX (((gtD p0 y6).1)==p1.1) (D.h 0 G Z) (fun hc=>by have a1:Q 36=.bool (decide (((gtD p0 y6).2)<p1.2)):=D 1 _ _ _ Z Z Z Z (zC2 G (zB2 hc));show _=Value.bool x10;rw [q11,hc];exact a1) (fun hc=>by show _=Value.bool x10;rw [q11,hc];exact Z))<|og 4 true (fun G Q U W H D=>zAX (decide (((gtD p0 y6).1)<p1.1)) (D.h 0 G Z) (fun hc=>by show _=Value.bool x12;rw [q13,hc];exact Z) (fun hc=>by have a2:Q 37=.bool x10:=D 1 _ _ _ Z Z Z Z (zC2 G (zB2 hc));show _=Value.bool x12;rw [q13,hc];exact a2))<|op (fun Q U W H D=>zAX (decide (y6<(p0.length:Int))) (D.g 0 Z) (fun hc=>by have a1:Q 38=.bool x12:=D 1 _ _ _ Z Z Z Z (zC2 Z (zB2 hc));show _=Value.bool x14;rw [q15,hc];exact a1) (fun hc=>by show _=Value.bool x14;rw [q15,hc];exact Z))<|oz
 intro R w m n p
 obtain ⟨h0,h3,h5⟩:=k3 n h0 h3 h5
 have h39:=p.r 33 Z
 replace q:=q.fr m
 replace d:=d.fr m.size
 replace j:=j.tr (m.ch noB) fun _ h=>False.elim h
 refine zQM x14 h39 (fun c16=>?_) (fun c16=>?_)
 have c:=zAN c16 c
 refine HT.skip<|HT.block ?_
 obtain ⟨e17,c⟩:=zA7 c
 refine zQW (eI y6::eI (y6+1)::eI (y6+1)::[]) ?_ ?_
 exact om h5<|op (fun Q U W H D=>zAS (D.g 0 Z) Z e17)<|oa<|oz
 intro R w m n p
 obtain ⟨h0,h3⟩:=k2 n h0 h3
 have h5:=p.r 2 Z
 replace q:=q.fr m
 replace d:=d.fr m.size
 replace j:=j.tr (m.ch noB) fun _ h=>False.elim h
 exact ei k (And.intro (Nat.lt_succ_self k) ⟨_,_,c,d,j,B,q,h0,h3,h5⟩)
 have c:=zAM c16 c
 refine zQR ?_
 obtain rfl:=si c
 exact ei _ ⟨_,Z,d,j,B,q,h0,h3,h5⟩
 rintro R w ⟨A,s5,es,d,j,B,q,h0,h3,h5⟩
 obtain rfl:=es.symm
 refine zQT<|zQT ?_
 obtain ⟨e18,c⟩:=zA7 c
 obtain ⟨x19,q20,c⟩:=zAU c
 refine zQP (by kernel_rfl) (l:=eI s5::eR v0::eI (p0.length:Int)::eB (decide (s5<(p0.length:Int)))::eB (decide (s5<(p0.length:Int)))::gR (true&&((decide (s5<(p0.length:Int)))==true)) v0::gI (true&&((decide (s5<(p0.length:Int)))==true)) s5::gR (true&&((decide (s5<(p0.length:Int)))==true)) (vptr v0 (s5.toNat*2))::gF (true&&((decide (s5<(p0.length:Int)))==true)) (.rep zA3 A (gtD p0 s5))::gF (true&&((decide (s5<(p0.length:Int)))==true)) (.rep zA3 A p1)::gB (true&&((decide (s5<(p0.length:Int)))==true)) ((gtD p0 s5)==p1)::eB x19::[]) (tl:=[]) (by kernel_rfl) (by kernel_rfl) (by kernel_rfl) (by kernel_rfl) ?_ ?_
 exact om h5<|om h0<|op (fun Q U W H D=>zBu (q.ok 0 _ Z).1 (D.g 0 Z) underlying39)<|op (fun Q U W H D=>zAk (D.g 0 Z) (D.g 1 Z))<|ov<|gm 4 true h0<|gm 4 true h5<|og 4 true (fun G Q U W H D=>zAb (q.ok 0 _ Z).1 (D.h 0 G Z) (D.h 1 G Z) underlying39 sizeOf48 (gd e18 G) Z)<|og 4 true (fun G Q U W H D=>(zBK ((q.fr W).ok 0 _ Z).1 (D.h 0 G Z) (gd e18 G) Z (Fld.id _) Z isAgg48 sizeOf48))<|og 4 true (fun G Q U W H D=>(zAJ ((q.fr W).ok 1 _ Z).1 ((H 3 Z).trans h3) (Fld.id _) Z isAgg48 sizeOf48))<|og 4 true (fun G Q U W H D=>zHP eqGuardType48 (zCb (D.h 0 G Z)) (zCb (D.h 1 G Z)) (zOX (gtD p0 s5) p1 _))<|op (fun Q U W H D=>zAX (decide (s5<(p0.length:Int))) (D.g 0 Z) (fun hc=>by have a1:Q 52=.bool ((gtD p0 s5)==p1):=D 1 _ _ _ Z Z Z Z (zC2 Z (zB2 hc));show _=Value.bool x19;rw [q20,hc];exact a1) (fun hc=>by show _=Value.bool x19;rw [q20,hc];exact Z))<|oz
 intro R w m n p
 obtain ⟨h0,h3,h5⟩:=k3 n h0 h3 h5
 have h53:=p.r 11 Z
 replace q:=q.fr m
 replace d:=d.fr m.size
 replace j:=j.tr (m.ch noB) fun _ h=>False.elim h
 refine zQM x19 h53 (fun c21=>?_) (fun c21=>?_)
 have c:=zAN c21 c
 refine zQT<|zQW (eR v0::eR v0::[]) ?_ ?_
 exact om h0<|oa<|oz
 intro R w m n p
 have h4:=p.r 1 Z
 replace q:=q.fr m
 replace q:IniOK [ob v0 (.vec B0 48 zA3 p0)] A w:=q.sub [(0,ob v0 (.vec B0 48 zA3 p0))] ⟨Z,Z,N⟩
 replace d:=d.fr m.size
 replace j:=j.tr (m.ch noB) fun _ h=>False.elim h
 refine HT.ret ?_
 obtain rfl:=si c
 exact ⟨.inr Z,[R 4],⟨Z,N⟩,by show Took _ true _ _ _ w0 (R 4) w;rw [h4];exact zDe (fun k h o=>.inr h) j (q.ok 0 _ Z).1 (q.own_ge (⟨.inr (fun k h=>.inr h),N⟩) (i:=0) Z) (fun _ _ _ _ _ h=>h)⟩
 have c:=zAM c21 c
 refine HT.skip<|zQT ?_
 obtain ⟨e22,c⟩:=zA7 c
 obtain ⟨x23,q24,c⟩:=zAU c
 obtain ⟨e25,e26,e27,c⟩:=ck3 c
 obtain ⟨x28,q29,c⟩:=zAU c
 obtain ⟨e30,c⟩:=zA7 c
 refine zQQ [ob v0 (.vec B0 48 zA3 p0),ob (.pointer (some ⟨b3_1,0,none⟩)) (.box w0.heap.size 48 zA3 p1)] (⟨_,true,[],some (.vec w0.heap.size 48 zA3 ([]:List zA5)),true,fun A=>.any⟩::rR v0::rI s5::rR (vsub v0 (0:Int).toNat x23 2)::⟨_,true,[2],some (.vec w0.heap.size 48 zA3 (([]:List zA5)++(subL p0 0 s5))),true,fun A=>.any⟩::(rF fun A=>.rep zA3 A p1)::(rF fun A=>.rep (eSl zA3) A ([p1]:List zA5))::⟨_,true,[6],some (.vec w0.heap.size 48 zA3 ((([]:List zA5)++(subL p0 0 s5))++([p1]:List zA5))),true,fun A=>.any⟩::rR v0::rI s5::rR (vsub v0 s5.toNat x28 2)::⟨_,true,[9],some (.vec w0.heap.size 48 zA3 (((([]:List zA5)++(subL p0 0 s5))++([p1]:List zA5))++(subL p0 s5 (p0.length:Int)))),true,fun A=>.any⟩::⟨_,true,[13],some (.vec w0.heap.size 48 zA3 (((([]:List zA5)++(subL p0 0 s5))++([p1]:List zA5))++(subL p0 s5 (p0.length:Int)))),true,fun A=>.any⟩::[]) (by kernel_rfl) (by kernel_rfl) (by kernel_rfl) (Wf.mk' (by kernel_rfl) (ua (ur (ur (ur (ua (up (up (ua (ur (ur (ur (ua (ua (UAll.nil)))))))))))))) (by kernel_rfl) (by kernel_rfl)) q d ?_ ?_
 exact rc (OblR.made _ Z Z Z Z fun V Q U O D=>by exact zC0 [] (E:=zA3) N underlying39 sizeOf48 zeroValue48 Z Z Z (Nat.le_trans j.size O.ch.size))<|rm h0<|rm h5<|rp (fun V Q U O D=>(q24 ▸ zJI (q.ok 0 _ Z).1 (D.g 0 Z) (D.g 1 Z) underlying39 sizeOf48 e22))<|rc (OblR.took 2 _ _ Z Z Z Z Z fun V Q U O D u X Y J L M=>by have a1:Q 58=(vsub v0 (0:Int).toNat x23 2):=D.g 1 Z;have ra1:Rep (eSl zA3) A0 U (Q 58) _:=(zIQ (zHO (O.rd 0 _ Z Z) (O.lowK B C K (q.geK (⟨.inr (fun k h=>.inr h),⟨.inl Z,N⟩⟩))) C K (fun k h=>.inr h)) e22 q24 Z).eq a1;exact zF2 (L _ _ Z Z Z Z).symm X Y (Nat.le_trans j.size O.ch.size) ra1 underlying39 zNs e25 (fun _ _ h=>h))<|rp (fun V Q U O D=>(zAJ (O.rd 1 _ Z Z) ((O.old 3 Z).trans h3) (Fld.id _) Z isAgg48 sizeOf48))<|rp (fun V Q U O D=>zAe [_] (E:=zA3) ⟨(D.g 0 Z),N⟩ underlying39 sizeOf48 zeroValue48 Z Z Z O.av)<|rc (OblR.took 6 _ _ Z Z Z Z Z fun V Q U O D u X Y J L M=>by have a1:Rep (eSl zA3) V U (Q 61) ([p1]:List zA5):=D.g 1 Z;exact zAW (L _ _ Z Z Z Z).symm X Y (Nat.le_trans j.size O.ch.size) a1 underlying39 zNs e26)<|rm h0<|rm h5<|rp (fun V Q U O D=>(q29 ▸ zHD (q.ok 0 _ Z).1 (D.g 0 Z) (D.g 1 Z) underlying39 sizeOf48 e27))<|rc (OblR.took 9 _ _ Z Z Z Z Z fun V Q U O D u X Y J L M=>by have a1:Q 65=(vsub v0 s5.toNat x28 2):=D.g 1 Z;have ra1:Rep (eSl zA3) A0 U (Q 65) _:=(zIQ (zHO (O.rd 0 _ Z Z) (O.lowK B C K (q.geK (⟨.inr (fun k h=>.inr h),⟨.inl Z,N⟩⟩))) C K (fun k h=>.inr h)) e27 q29 Z).eq a1;exact zF2 (L _ _ Z Z Z Z).symm X Y (Nat.le_trans j.size O.ch.size) ra1 underlying39 zNs e30 (fun _ _ h=>h))<|rc (OblR.took 13 _ _ Z Z Z Z Z fun V Q U O D u X Y J L M=>by exact zAD (L _ _ Z Z Z Z).symm X Y)<|rz
 intro done ρ σ A R w y s
 have z31:=s.inivR 0 Z
 have z32:=s.inivR 1 Z
 obtain ⟨u33,e_u33⟩:∃ u,ρ 14=u:=⟨_,Z⟩
 have h4:=s.ov y 14 12 e_u33
 replace B:=s.lowK B C K (q.geK (⟨.inr (fun k h=>.inr h),⟨.inl Z,N⟩⟩))
 replace j:Ch (zAB v0) w0 w:=j.tr s.ch (q.geK (⟨.inr (fun k h=>.inr h),⟨.inl Z,N⟩⟩))
 replace q:=s.left y [(14,ob u33 (.vec w0.heap.size 48 zA3 (((([]:List zA5)++(subL p0 0 s5))++([p1]:List zA5))++(subL p0 s5 (p0.length:Int)))))] ⟨Z,Z,e_u33,Z,Z,N⟩
 replace d:=s.avok
 obtain ⟨Yg33,g_Yg33⟩:∃ z:List zA5,z=(((([]:List zA5)++(subL p0 0 s5))++([p1]:List zA5))++(subL p0 s5 (p0.length:Int))):=⟨_,Z⟩
 rw [<- g_Yg33] at q
 try rw [<- g_Yg33] at c
 refine HT.ret ?_
 obtain rfl:=si c
 exact ⟨.inr Z,[R 4],⟨Z,N⟩,by show Took _ true _ _ _ w0 (R 4) w;rw [h4];exact zDe (fun k h o=>.inr h) j (zLY hB0 (q.ok 0 _ Z).1) (q.own_ge (⟨.inl Z,N⟩) (i:=0) Z) (fun _ _ _ _ _ h=>h)⟩
def zAz (fu : Nat) (x2 : List zAF) (y8 : Int) (y16 : Int) : Nat -> Int -> (List zA5) -> Option (List zA5)
 | 0,_,_=>none
 | k+1,y25,y26=>
 bif (decide (y25<(((gtD x2 y8).2).length:Int))) then (
 ck (inR y16 ((gtD x2 y8).2).length) <|
 ck (inR y25 ((gtD x2 y8).2).length) <|
 cl true (zEi fu y26 ((gtD ((gtD x2 y8).2) y16),(gtD ((gtD x2 y8).2) y25))) fun x30=>
 ck (i64B (y25+1)) <|
 zAz fu x2 y8 y16 k (y25+1) x30
 ) else (
 some y26
 )
def zAo (fu : Nat) (p1 : Int) (x2 : List zAF) (y8 : Int) : Nat -> Int -> (List zA5) -> Option (List zA5)
 | 0,_,_=>none
 | k+1,y16,y17=>
 bd ((decide (y16<(((gtD x2 y8).2).length:Int)))&&(decide ((((gtD x2 y8).2).length:Int)<=p1))) fun x18=>
 bif x18 then (
 ck (i64B (y16+1)) <|
 cl true (zAz fu x2 y8 y16 fu (y16+1) y17) fun s24=>
 ck (i64B (y16+1)) <|
 zAo fu p1 x2 y8 k (y16+1) s24
 ) else (
 some y17
 )
def zAx (fu : Nat) (p1 : Int) (x2 : List zAF) : Nat -> Int -> (List zA5) -> Option (List zA5)
 | 0,_,_=>none
 | k+1,y8,y9=>
 bif (decide (y8<(x2.length:Int))) then (
 ck (inR y8 x2.length) <|
 cl true (zAo fu p1 x2 y8 fu 0 y9) fun s15=>
 ck (i64B (y8+1)) <|
 zAx fu p1 x2 k (y8+1) s15
 ) else (
 some y9
 )
def zCt (fu:Nat) (p0:List zA4) (p1:Int):Option (List zA5):=
 cl true (zBg fu p0) fun x2=>
 cl true (zAx fu p1 x2 fu 0 ([]:List zA5)) fun s7=>
 some s7
set_option linter.unusedSimpArgs false in
theorem zGv {fu : Nat} {A0 : Av} {p0 : List zA4} {p1 : Int} {r : List zA5} (c : zCt fu p0 p1 = some r) {w : World} {v0 : Value} {v1 : Value} (d : AvOK A0 w) (h0 : Rep (eSl zA0) A0 w v0 p0) (h1 : v1=.int .i64 p1) :
 Calls prog 24 #[v0,v1] w fun e w'=>∃ v,e=.returned v/\((Res.vec w.heap.size 48 zA3 r).ok (addA A0 v) v w'/\Fr w w'):=by
 unfold zCt at c
 obtain ⟨w0,hw0,j,C⟩:=pw d
 have hA00:AvOK A0 w0:=C
 rw [fh hw0]
 rw [fw hw0]
 obtain ⟨A,hAe,B,d,q⟩:=pa d
 refine zA9 [.tmp 4] func24 ntmps24 (by decide) Z Z (nb Z) ?_
 intro R hR
 have f_v0:Rep (eSl zA0) A w v0 p0:=hAe ▸ h0
 replace h0:R 0=v0:=hR 0 _ Z
 replace h1:R 1=.int .i64 p1:=(hR 1 _ Z).trans h1
 refine zQU d j (eA::[]) ?_ ?_
 exact op (fun Q U W H D=>zA2 N)<|oz
 intro R w m n p d j
 obtain ⟨h0,h1⟩:=k2 n h0 h1
 replace f_v0:=f_v0.fr m
 replace q:=q.fr m
 refine zQV [] (⟨_,true,[],some (.vec w0.heap.size 48 zA3 ([]:List zA5)),true,fun A=>.any⟩::⟨_,true,[0],some (.vec w0.heap.size 48 zA3 ([]:List zA5)),true,fun A=>.any⟩::[]) (ua (ua (UAll.nil))) q d ?_ ?_
 exact rc (OblR.made _ Z Z Z Z fun V Q U O D=>by exact zC0 [] (E:=zA3) N underlying39 sizeOf48 zeroValue48 Z Z Z (Nat.le_trans j.size O.ch.size))<|rc (OblR.took 0 _ _ Z Z Z Z Z fun V Q U O D u X Y J L M=>by exact zAD (L _ _ Z Z Z Z).symm X Y)<|rz
 intro done ρ σ A R w y s
 obtain ⟨h0,h1⟩:=k2 s.rg h0 h1
 obtain ⟨u1,e_u1⟩:∃ u,ρ 1=u:=⟨_,Z⟩
 have h5:=s.ov y 1 1 e_u1
 replace f_v0:=f_v0.stp s.stp
 obtain ⟨B,j,d⟩:=s.s B C j q N
 replace q:=s.left y [(1,ob u1 (.vec w0.heap.size 48 zA3 ([]:List zA5)))] ⟨Z,Z,e_u1,Z,Z,N⟩
 obtain ⟨x2,q3,c⟩:=zA6 c
 refine zQU d j (eR v0::eF (.rep (eSl zA8) A x2)::eF (.rep (eSl zA8) A x2)::[]) ?_ ?_
 exact om h0<|op (fun Q U W H D=>zAI call9 (zD4 (q3 Z) (d.fr W.size) ((f_v0.fr W).eq (D.g 0 Z))))<|op (fun Q U W H D=>zA2 (D.g 0 Z))<|oz
 intro R w m n p d j
 obtain ⟨h1,h5⟩:=k2 n h1 h5
 obtain ⟨u4,h6,f_u4⟩:∃ u,R 6=u/\Rep (eSl zA8) A w u x2:=⟨_,Z,p 2 _ _ Z Z Z⟩
 replace q:=q.fr m
 refine zQT<|zQU d j (eI 0::[]) ?_ ?_
 exact op (fun Q U W H D=>zA2 Z)<|oz
 intro R w m n p d j
 obtain ⟨h1,h5,h6⟩:=k3 n h1 h5 h6
 have h7:=p.r 0 Z
 replace f_u4:=f_u4.fr m
 replace q:=q.fr m
 obtain ⟨rl5,q6,c⟩:=zA6 c
 replace q6:=q6 Z
 refine zQO (fun R w=>∃ A:Av,∃ (s7:(List zA5)) (uo_u1:Value),rl5=s7/\AvOK A w/\Fr w0 w/\(∀ b o,A0 b o->A b o)/\IniOK [ob uo_u1 (.vec w0.heap.size 48 zA3 s7)] A w/\R 5=uo_u1) ?_ ?_
 refine HT.block<|zQS (fun k R w=>∃ A:Av,∃ (y8:Int) (y9:List zA5) (ul_u1:Value),zAx fu p1 x2 k y8 y9=some rl5/\AvOK A w/\Fr w0 w/\(∀ b o,A0 b o->A b o)/\IniOK [ob ul_u1 (.vec w0.heap.size 48 zA3 y9)] A w/\R 1=.int .i64 p1/\R 5=ul_u1/\R 6=u4/\R 7=.int .i64 y8/\Rep (eSl zA8) A w u4 x2) fu ⟨_,_,_,u1,q6,d,j,B,q,h1,h5,h6,h7,f_u4⟩ ?_
 have hr0:=c;clear c q6
 rintro k R w ⟨A,y8,y9,ul_u1,c,d,j,B,q,h1,h5,h6,h7,f_u4⟩
 rcases k with _ | k
 cases (show none=some _ from c)
 rw [zAx] at c
 refine zQT<|zQU d j (eI y8::eR u4::eI (x2.length:Int)::eB (decide (y8<(x2.length:Int)))::[]) ?_ ?_
 exact om h7<|om h6<|op (fun Q U W H D=>zAK (aT:=#[]) ((f_u4.fr W).eq (D.g 0 Z)) underlying24)<|op (fun Q U W H D=>zAk (D.g 0 Z) (D.g 1 Z))<|oz
 intro R w m n p d j
 obtain ⟨h1,h5,h6,h7⟩:=k4 n h1 h5 h6 h7
 have h17:=p.r 3 Z
 replace f_u4:=f_u4.fr m
 replace q:=q.fr m
 refine zQM (decide (y8<(x2.length:Int))) h17 (fun c10=>?_) (fun c10=>?_)
 have c:=zAN c10 c
 refine HT.skip<|zQT<|HT.block ?_
 obtain ⟨e11,c⟩:=zA7 c
 refine zQU d j (eR u4::eI y8::eF (.qtr zA8 A (gtD x2 y8))::eF (.qtr (eSl (eInt .i64)) A ((gtD x2 y8).2))::eF (.rep (eSl (eInt .i64)) A ((gtD x2 y8).2))::eF (.rep (eSl (eInt .i64)) A ((gtD x2 y8).2))::[]) ?_ ?_
 exact om h6<|om h7<|op (fun Q U W H D=>zAC ((f_u4.fr W).eq (D.g 0 Z)) (D.g 1 Z) underlying24 sizeOf54 e11)<|op (fun Q U W H D=>zBt (qt (D.g 0 Z)) zEn sizeOf52 (by decide) zBp Z)<|op (fun Q U W H D=>(zAT (QRep.ptr (D.g 0 Z)) isAgg52 sizeOf52))<|op (fun Q U W H D=>zA2 (D.g 0 Z))<|oz
 intro R w m n p d j
 obtain ⟨h1,h5,h6,h7⟩:=k4 n h1 h5 h6 h7
 obtain ⟨u12,h8,f_u12⟩:∃ u,R 8=u/\Rep (eSl (eInt .i64)) A w u ((gtD x2 y8).2):=⟨_,Z,p 5 _ _ Z Z Z⟩
 replace f_u4:=f_u4.fr m
 replace q:=q.fr m
 refine zQU d j (eI 0::[]) ?_ ?_
 exact op (fun Q U W H D=>zA2 Z)<|oz
 intro R w m n p d j
 obtain ⟨h1,h5,h6,h7,h8⟩:=k5 n h1 h5 h6 h7 h8
 have h9:=p.r 0 Z
 replace f_u12:=f_u12.fr m
 replace f_u4:=f_u4.fr m
 replace q:=q.fr m
 obtain ⟨rl13,q14,c⟩:=zA6 c
 replace q14:=q14 Z
 refine zQO (fun R w=>∃ A:Av,∃ (s15:(List zA5)) (uo_ul_u1:Value),rl13=s15/\AvOK A w/\Fr w0 w/\(∀ b o,A0 b o->A b o)/\IniOK [ob uo_ul_u1 (.vec w0.heap.size 48 zA3 s15)] A w/\R 1=.int .i64 p1/\R 5=uo_ul_u1/\R 6=u4/\R 7=.int .i64 y8/\Rep (eSl zA8) A w u4 x2) ?_ ?_
 refine HT.block<|zQS (fun k R w=>∃ A:Av,∃ (y16:Int) (y17:List zA5) (ul_ul_u1:Value),zAo fu p1 x2 y8 k y16 y17=some rl13/\AvOK A w/\Fr w0 w/\(∀ b o,A0 b o->A b o)/\IniOK [ob ul_ul_u1 (.vec w0.heap.size 48 zA3 y17)] A w/\R 1=.int .i64 p1/\R 5=ul_ul_u1/\R 6=u4/\R 7=.int .i64 y8/\R 8=u12/\R 9=.int .i64 y16/\Rep (eSl (eInt .i64)) A w u12 ((gtD x2 y8).2)/\Rep (eSl zA8) A w u4 x2) fu ⟨_,_,_,ul_u1,q14,d,j,B,q,h1,h5,h6,h7,h8,h9,f_u12,f_u4⟩ ?_
 have hr0:=c;clear c q14
 rintro k R w ⟨A,y16,y17,ul_ul_u1,c,d,j,B,q,h1,h5,h6,h7,h8,h9,f_u12,f_u4⟩
 rcases k with _ | k
 cases (show none=some _ from c)
 rw [zAo] at c
 refine zQT<|zQT ?_
 obtain ⟨x18,q19,c⟩:=zAU c
 refine HT.u d j (eI y16::eR u12::eI (((gtD x2 y8).2).length:Int)::eB (decide (y16<(((gtD x2 y8).2).length:Int)))::eB (decide (y16<(((gtD x2 y8).2).length:Int)))::gR (true&&((decide (y16<(((gtD x2 y8).2).length:Int)))==true)) u12::gI (true&&((decide (y16<(((gtD x2 y8).2).length:Int)))==true)) (((gtD x2 y8).2).length:Int)::gI (true&&((decide (y16<(((gtD x2 y8).2).length:Int)))==true)) p1::gB (true&&((decide (y16<(((gtD x2 y8).2).length:Int)))==true)) (decide ((((gtD x2 y8).2).length:Int)<=p1))::eB x18::[]) ?_ ?_
 exact om h9<|om h8<|op (fun Q U W H D=>zAK (aT:=#[]) ((f_u12.fr W).eq (D.g 0 Z)) underlying52)<|op (fun Q U W H D=>zAk (D.g 0 Z) (D.g 1 Z))<|ov<|gm 4 true h8<|og 4 true (fun G Q U W H D=>zAK (aT:=#[]) ((f_u12.fr W).eq (D.h 0 G Z)) underlying52)<|gm 4 true h1<|og 4 true (fun G Q U W H D=>zEZ (D.h 0 G Z) (D.h 1 G Z))<|op (fun Q U W H D=>zAX (decide (y16<(((gtD x2 y8).2).length:Int))) (D.g 0 Z) (fun hc=>by have a1:Q 33=.bool (decide ((((gtD x2 y8).2).length:Int)<=p1)):=D 1 _ _ _ Z Z Z Z (zC2 Z (zB2 hc));show _=Value.bool x18;rw [q19,hc];exact a1) (fun hc=>by show _=Value.bool x18;rw [q19,hc];exact Z))<|oz
 intro R w m n p d j
 obtain ⟨h1,h5,h6,h7,h8,h9⟩:=k6 n h1 h5 h6 h7 h8 h9
 have h34:=p.r 9 Z
 replace f_u12:=f_u12.fr m
 replace f_u4:=f_u4.fr m
 replace q:=q.fr m
 refine zQM x18 h34 (fun c20=>?_) (fun c20=>?_)
 have c:=zAN c20 c
 refine HT.skip<|zQT<|HT.block ?_
 obtain ⟨e21,c⟩:=zA7 c
 refine zQU d j (eI y16::eI (y16+1)::eI (y16+1)::[]) ?_ ?_
 exact om h9<|op (fun Q U W H D=>zAS (D.g 0 Z) Z e21)<|oa<|oz
 intro R w m n p d j
 obtain ⟨h1,h5,h6,h7,h8,h9⟩:=k6 n h1 h5 h6 h7 h8 h9
 have h10:=p.r 2 Z
 replace f_u12:=f_u12.fr m
 replace f_u4:=f_u4.fr m
 replace q:=q.fr m
 obtain ⟨rl22,q23,c⟩:=zA6 c
 replace q23:=q23 Z
 refine zQO (fun R w=>∃ A:Av,∃ (s24:(List zA5)) (uo_ul_ul_u1:Value),rl22=s24/\AvOK A w/\Fr w0 w/\(∀ b o,A0 b o->A b o)/\IniOK [ob uo_ul_ul_u1 (.vec w0.heap.size 48 zA3 s24)] A w/\R 1=.int .i64 p1/\R 5=uo_ul_ul_u1/\R 6=u4/\R 7=.int .i64 y8/\R 8=u12/\R 9=.int .i64 y16/\Rep (eSl (eInt .i64)) A w u12 ((gtD x2 y8).2)/\Rep (eSl zA8) A w u4 x2) ?_ ?_
 refine HT.block<|zQS (fun k R w=>∃ A:Av,∃ (y25:Int) (y26:List zA5) (ul_ul_ul_u1:Value),zAz fu x2 y8 y16 k y25 y26=some rl22/\AvOK A w/\Fr w0 w/\(∀ b o,A0 b o->A b o)/\IniOK [ob ul_ul_ul_u1 (.vec w0.heap.size 48 zA3 y26)] A w/\R 1=.int .i64 p1/\R 5=ul_ul_ul_u1/\R 6=u4/\R 7=.int .i64 y8/\R 8=u12/\R 9=.int .i64 y16/\R 10=.int .i64 y25/\Rep (eSl (eInt .i64)) A w u12 ((gtD x2 y8).2)/\Rep (eSl zA8) A w u4 x2) fu ⟨_,_,_,ul_ul_u1,q23,d,j,B,q,h1,h5,h6,h7,h8,h9,h10,f_u12,f_u4⟩ ?_
 have hr0:=c;clear c q23
 rintro k R w ⟨A,y25,y26,ul_ul_ul_u1,c,d,j,B,q,h1,h5,h6,h7,h8,h9,h10,f_u12,f_u4⟩
 rcases k with _ | k
 cases (show none=some _ from c)
 rw [zAz] at c
 refine zQT<|zQU d j (eI y25::eR u12::eI (((gtD x2 y8).2).length:Int)::eB (decide (y25<(((gtD x2 y8).2).length:Int)))::[]) ?_ ?_
 exact om h10<|om h8<|op (fun Q U W H D=>zAK (aT:=#[]) ((f_u12.fr W).eq (D.g 0 Z)) underlying52)<|op (fun Q U W H D=>zAk (D.g 0 Z) (D.g 1 Z))<|oz
 intro R w m n p d j
 obtain ⟨h1,h5,h6,h7,h8,h9⟩:=k6 n h1 h5 h6 h7 h8 h9
 replace h10:=k1 n h10
 have h42:=p.r 3 Z
 replace f_u12:=f_u12.fr m
 replace f_u4:=f_u4.fr m
 replace q:=q.fr m
 refine zQM (decide (y25<(((gtD x2 y8).2).length:Int))) h42 (fun c27=>?_) (fun c27=>?_)
 have c:=zAN c27 c
 refine HT.skip<|zQT<|HT.block ?_
 obtain ⟨e28,e29,c⟩:=ck2 c
 obtain ⟨x30,q31,c⟩:=zA6 c
 refine zQQ [ob ul_ul_ul_u1 (.vec w0.heap.size 48 zA3 y26)] (rR ul_ul_ul_u1::rR u12::rI y16::(rF fun A=>.qtr (eInt .i64) A (gtD ((gtD x2 y8).2) y16))::rI (gtD ((gtD x2 y8).2) y16)::rR u12::rI y25::(rF fun A=>.qtr (eInt .i64) A (gtD ((gtD x2 y8).2) y25))::rI (gtD ((gtD x2 y8).2) y25)::(rF fun A=>.rep zA3 A ((gtD ((gtD x2 y8).2) y16),(gtD ((gtD x2 y8).2) y25)))::⟨_,true,[0],some (.vec w0.heap.size 48 zA3 x30),true,fun A=>.any⟩::⟨_,true,[11],some (.vec w0.heap.size 48 zA3 x30),true,fun A=>.any⟩::[]) (by kernel_rfl) (by kernel_rfl) (by kernel_rfl) (Wf.mk' (by kernel_rfl) (ur (ur (ur (UAll.cons zDl (ur (ur (ur (UAll.cons zDl (ur (up (ua (ua (UAll.nil))))))))))))) (by kernel_rfl) (by kernel_rfl)) q d ?_ ?_
 exact rm h5<|rm h8<|rm h9<|rp (fun V Q U O D=>zAC ((f_u12.stp O.stp).eq (D.g 0 Z)) (D.g 1 Z) underlying52 sizeOf3 e28)<|rp (fun V Q U O D=>OpF.int (zAT (QRep.ptr (D.g 0 Z)) isAgg3 sizeOf3))<|rm h8<|rm h10<|rp (fun V Q U O D=>zAC ((f_u12.stp O.stp).eq (D.g 0 Z)) (D.g 1 Z) underlying52 sizeOf3 e29)<|rp (fun V Q U O D=>OpF.int (zAT (QRep.ptr (D.g 0 Z)) isAgg3 sizeOf3))<|rp (fun V Q U O D=>by have a0:Q 49=.int .i64 (gtD ((gtD x2 y8).2) y16):=D.g 0 Z;have a1:Q 53=.int .i64 (gtD ((gtD x2 y8).2) y25):=D.g 1 Z;exact zGS (v:=.agg #[.int .i64 (gtD ((gtD x2 y8).2) y16),.int .i64 (gtD ((gtD x2 y8).2) y25)]) (by simp [execOp,Instr.build,zAH,a0,a1,underlying,underlying48,zeroValue48,sizeOf3,go_sem,Instr.fill]) ⟨_,Z,zFJ zBk zBk⟩)<|rc (OblR.took 0 _ _ Z Z Z Z Z fun V Q U O D u X Y J L M=>by have a0:Q 45=ul_ul_ul_u1:=D.g 0 Z;have a1:Rep zA3 V U (Q 54) ((gtD ((gtD x2 y8).2) y16),(gtD ((gtD x2 y8).2) y25)):=D.g 1 Z;have hu0:zAH Q (.tmp 45)=u:=a0.trans (J _ Z).symm;exact zD9 call48 Y (by simp only [List.map,hu0];exact zII (q31 Z) (O.av.sub _) (fun b o h=>h.2) (Nat.le_trans j.size O.ch.size) (Vec.flat X (fun _ _ _ _ _ h=>h)) (a1.less fun b o h=>h.1)))<|rc (OblR.took 11 _ _ Z Z Z Z Z fun V Q U O D u X Y J L M=>by exact zAD (L _ _ Z Z Z Z).symm X Y)<|rz
 intro done ρ σ A R w y s
 obtain ⟨h1,h6,h7,h8,h9,h10⟩:=k6 s.rg h1 h6 h7 h8 h9 h10
 obtain ⟨u32,e_u32⟩:∃ u,ρ 12=u:=⟨_,Z⟩
 have h5:=s.ov y 12 11 e_u32
 replace f_u12:=f_u12.stp s.stp
 replace f_u4:=f_u4.stp s.stp
 obtain ⟨B,j,d⟩:=s.s B C j q ⟨Z,N⟩
 replace q:=s.left y [(12,ob u32 (.vec w0.heap.size 48 zA3 x30))] ⟨Z,Z,e_u32,Z,Z,N⟩
 obtain ⟨e33,c⟩:=zA7 c
 refine HT.u d j (eI y25::eI (y25+1)::eI (y25+1)::[]) ?_ ?_
 exact om h10<|op (fun Q U W H D=>zAS (D.g 0 Z) Z e33)<|oa<|oz
 intro R w m n p d j
 obtain ⟨h1,h5,h6,h7,h8,h9⟩:=k6 n h1 h5 h6 h7 h8 h9
 have h10:=p.r 2 Z
 replace f_u12:=f_u12.fr m
 replace f_u4:=f_u4.fr m
 replace q:=q.fr m
 exact ei k (And.intro (Nat.lt_succ_self k) ⟨_,_,_,u32,c,d,j,B,q,h1,h5,h6,h7,h8,h9,h10,f_u12,f_u4⟩)
 have c:=zAM c27 c
 refine zQR ?_
 obtain rfl:=si c
 exact ei _ ⟨_,ul_ul_ul_u1,Z,d,j,B,q,h1,h5,h6,h7,h8,h9,f_u12,f_u4⟩
 rintro R w ⟨A,s24,uo_ul_ul_u1,es,d,j,B,q,h1,h5,h6,h7,h8,h9,f_u12,f_u4⟩
 obtain rfl:=es.symm
 obtain ⟨e34,c⟩:=zA7 c
 refine HT.u d j (eI y16::eI (y16+1)::eI (y16+1)::[]) ?_ ?_
 exact om h9<|op (fun Q U W H D=>zAS (D.g 0 Z) Z e34)<|oa<|oz
 intro R w m n p d j
 obtain ⟨h1,h5,h6,h7,h8⟩:=k5 n h1 h5 h6 h7 h8
 have h9:=p.r 2 Z
 replace f_u12:=f_u12.fr m
 replace f_u4:=f_u4.fr m
 replace q:=q.fr m
 exact ei k (And.intro (Nat.lt_succ_self k) ⟨_,_,_,uo_ul_ul_u1,c,d,j,B,q,h1,h5,h6,h7,h8,h9,f_u12,f_u4⟩)
 have c:=zAM c20 c
 refine zQR ?_
 obtain rfl:=si c
 exact ei _ ⟨_,ul_ul_u1,Z,d,j,B,q,h1,h5,h6,h7,f_u4⟩
 rintro R w ⟨A,s15,uo_ul_u1,es,d,j,B,q,h1,h5,h6,h7,f_u4⟩
 obtain rfl:=es.symm
 obtain ⟨e35,c⟩:=zA7 c
 refine HT.u d j (eI y8::eI (y8+1)::eI (y8+1)::[]) ?_ ?_
 exact om h7<|op (fun Q U W H D=>zAS (D.g 0 Z) Z e35)<|oa<|oz
 intro R w m n p d j
 obtain ⟨h1,h5,h6⟩:=k3 n h1 h5 h6
 have h7:=p.r 2 Z
 replace f_u4:=f_u4.fr m
 replace q:=q.fr m
 exact ei k (And.intro (Nat.lt_succ_self k) ⟨_,_,_,uo_ul_u1,c,d,j,B,q,h1,h5,h6,h7,f_u4⟩)
 have c:=zAM c10 c
 refine zQR ?_
 obtain rfl:=si c
 exact ei _ ⟨_,ul_u1,Z,d,j,B,q,h5⟩
 rintro R w ⟨A,s7,uo_u1,es,d,j,B,q,h5⟩
 obtain rfl:=es.symm
 refine zQU d j (eR uo_u1::eR uo_u1::[]) ?_ ?_
 exact om h5<|oa<|oz
 intro R w m n p d j
 have h4:=p.r 1 Z
 replace q:=q.fr m
 refine HT.ret ?_
 obtain rfl:=si c
 exact ⟨.inr Z,[R 4],⟨Z,N⟩,(zC7 (q.ok 0 _ Z) B h4),j⟩
theorem zGN {fu : Nat} {A0 : Av} {p0 : List zA4} {p1 : Int} {r : List zA5} (c : zCt fu p0 p1 = some r) {w : World} {v0 : Value} {v1 : Value} (d : AvOK A0 w) (h0 : Rep (eSl zA0) A0 w v0 p0) (h1 : v1=.int .i64 p1) :
 Calls prog 24 #[v0,v1] w fun e w'=>∃ v,e=.returned v/\(Rep (eSl zA3) A0 w' v r/\Fr w w'):=by
 refine Calls.mono (zGv c d h0 h1) ?_
 rintro e w' ⟨v,he,hv,hf⟩
 exact ⟨v,he,zCB hv (fun b o h=>.inl h) d,hf⟩
def zAR (fu : Nat) (p0 : List zA4) (p1 : zA4 -> Option Bool) : Nat -> Int -> Option (Ex Int Unit)
 | 0,_=>none
 | k+1,y4=>
 bif (decide (y4<(p0.length:Int))) then (
 ck (inR y4 p0.length) <|
 cl true (p1 (gtD p0 y4)) fun x7=>
 bif x7 then (
 some (Ex.ret y4)
 ) else (
 ck (i64B (y4+1)) <|
 zAR fu p0 p1 k (y4+1)
 )
 ) else (
 some (Ex.go ())
 )
def zB4 (fu:Nat) (p0:List zA4) (p1:zA4->Option Bool):Option Int:=
 cl true (zAR fu p0 p1 fu 0) fun rl1=>
 exM rl1 (fun r=>some r) fun s3=>
 some (-1)
theorem zDT {fu : Nat} {A : Av} {p0 : List zA4} {p1 : zA4 -> Option Bool} {r : Int} (c : zB4 fu p0 p1 = some r) {w : World} {v0 : Value} {v1 : Value} (d : AvOK A w) (h0 : Rep (eSl zA0) A w v0 p0) (h1 : FnB1 prog zA0 (fun r => .raw (.bool r)) A w v1 p1) :
 Calls prog 99 #[v0,v1] w fun e w'=>∃ v,e=.returned v/\(v=.int .i64 r/\Fr w w'):=by
 unfold zB4 at c
 obtain ⟨w0,hw0,j⟩:=pf w
 rw [fw hw0]
 have f_v1:FnB1 prog zA0 (fun r=>.raw (.bool r)) A w0 v1 p1:=hw0 ▸ h1
 refine zA9 [.tmp 4] func99 ntmps99 (by decide) Z Z (nb Z) ?_
 intro R hR
 have f_v0:=h0
 replace h0:R 0=v0:=hR 0 _ Z
 replace h1:R 1=v1:=hR 1 _ Z
 refine zQU d j (eI 0::[]) ?_ ?_
 exact op (fun Q U W H D=>zA2 Z)<|oz
 intro R w m n p d j
 obtain ⟨h0,h1⟩:=k2 n h0 h1
 replace f_v0:=f_v0.fr m
 refine zQT<|zQU d j (eR v0::eI (p0.length:Int)::eI 0::[]) ?_ ?_
 exact om h0<|op (fun Q U W H D=>zAK (aT:=#[]) ((f_v0.fr W).eq (D.g 0 Z)) underlying26)<|op (fun Q U W H D=>zBj Z)<|oz
 intro R w m n p d j
 obtain ⟨h0,h1⟩:=k2 n h0 h1
 have h7:=p.r 1 Z
 have h8:=p.r 2 Z
 replace f_v0:=f_v0.fr m
 obtain ⟨rl1,q2,c⟩:=zA6 c
 replace q2:=q2 Z
 refine zQO (fun R w=>∃ (s3:Unit),rl1=Ex.go s3/\AvOK A w/\Fr w0 w) ?_ ?_
 refine HT.block<|zQS (fun k R w=>∃ (y4:Int),zAR fu p0 p1 k y4=some rl1/\AvOK A w/\Fr w0 w/\R 0=v0/\R 1=v1/\R 7=.int .i64 (p0.length:Int)/\R 8=.int .i64 y4/\Rep (eSl zA0) A w v0 p0) fu ⟨_,q2,d,j,h0,h1,h7,h8,f_v0⟩ ?_
 have hr0:=c;clear c q2
 rintro k R w ⟨y4,c,d,j,h0,h1,h7,h8,f_v0⟩
 rcases k with _ | k
 cases (show none=some _ from c)
 rw [zAR] at c
 refine zQU d j (eB (decide (y4<(p0.length:Int)))::[]) ?_ ?_
 exact op (fun Q U W H D=>zAk ((H 8 Z).trans h8) ((H 7 Z).trans h7))<|oz
 intro R w m n p d j
 obtain ⟨h0,h1,h7,h8⟩:=k4 n h0 h1 h7 h8
 have h9:=p.r 0 Z
 replace f_v0:=f_v0.fr m
 refine zQT<|zQM (decide (y4<(p0.length:Int))) h9 (fun c5=>?_) (fun c5=>?_)
 have c:=zAN c5 c
 refine HT.skip<|zQT<|HT.block<|zQU d j (eI y4::eI y4::[]) ?_ ?_
 exact om h8<|oa<|oz
 intro R w m n p d j
 obtain ⟨h0,h1,h7,h8⟩:=k4 n h0 h1 h7 h8
 have h5:=p.r 1 Z
 replace f_v0:=f_v0.fr m
 obtain ⟨e6,c⟩:=zA7 c
 obtain ⟨x7,q8,c⟩:=zA6 c
 refine zQU d j (eR v1::eR v0::eI y4::eF (.qtr zA0 A (gtD p0 y4))::eF (.rep zA0 A (gtD p0 y4))::eB x7::[]) ?_ ?_
 exact om h1<|om h0<|om h5<|op (fun Q U W H D=>zAC ((f_v0.fr W).eq (D.g 0 Z)) (D.g 1 Z) underlying26 sizeOf51 e6)<|op (fun Q U W H D=>(zAT (QRep.ptr (D.g 0 Z)) isAgg51 sizeOf51))<|op (fun Q U W H D=>zIP (D.g 0 Z) (f_v1 _ _ (q8 Z) _ _ ((j.trans W).ch _) (d.fr W.size) (D.g 1 Z)))<|oz
 intro R w m n p d j
 obtain ⟨h0,h1,h5,h7,h8⟩:=k5 n h0 h1 h5 h7 h8
 have h16:=p.r 5 Z
 replace f_v0:=f_v0.fr m
 refine zQM x7 h16 (fun c9=>?_) (fun c9=>?_)
 have c:=zAN c9 c
 refine zQU d j (eI y4::eI y4::[]) ?_ ?_
 exact om h5<|oa<|oz
 intro R w m n p d j
 have h4:=p.r 1 Z
 refine HT.ret ?_
 obtain rfl:=si c
 have c:=hr0
 replace c:some _=some _:=c
 obtain rfl:=si c
 exact ⟨.inr Z,[R 4],⟨Z,N⟩,h4,j⟩
 have c:=zAM c9 c
 refine HT.skip ?_
 obtain ⟨e10,c⟩:=zA7 c
 refine HT.u d j (eI (y4+1)::eI (y4+1)::[]) ?_ ?_
 exact op (fun Q U W H D=>zAS ((H 8 Z).trans h8) Z e10)<|ov<|oz
 intro R w m n p d j
 obtain ⟨h0,h1,h7⟩:=k3 n h0 h1 h7
 have h8:=p.r 1 Z
 replace f_v0:=f_v0.fr m
 exact ei k (And.intro (Nat.lt_succ_self k) ⟨_,c,d,j,h0,h1,h7,h8,f_v0⟩)
 have c:=zAM c5 c
 refine zQR ?_
 obtain rfl:=si c
 exact ei _ ⟨Z,d,j⟩
 rintro R w ⟨s3,rfl,d,j⟩
 have c:=zF3 c
 refine zQU d j (eI (-1)::[]) ?_ ?_
 exact op (fun Q U W H D=>zA2 Z)<|oz
 intro R w m n p d j
 have h4:=p.r 0 Z
 refine HT.ret ?_
 obtain rfl:=si c
 exact ⟨.inr Z,[R 4],⟨Z,N⟩,h4,j⟩
def zAd (fu:Nat) (p0:List zA4) (p1:zA4->Option Bool):Option Bool:=
 cl true (zB4 fu p0 p1) fun x1=>
 some (decide (0<=x1))
theorem zDD {fu : Nat} {A : Av} {p0 : List zA4} {p1 : zA4 -> Option Bool} {r : Bool} (c : zAd fu p0 p1 = some r) {w : World} {v0 : Value} {v1 : Value} (d : AvOK A w) (h0 : Rep (eSl zA0) A w v0 p0) (h1 : FnB1 prog zA0 (fun r => .raw (.bool r)) A w v1 p1) :
 Calls prog 67 #[v0,v1] w fun e w'=>∃ v,e=.returned v/\(v=.bool r/\Fr w w'):=by
 unfold zAd at c
 obtain ⟨w0,hw0,j⟩:=pf w
 rw [fw hw0]
 have f_v1:FnB1 prog zA0 (fun r=>.raw (.bool r)) A w0 v1 p1:=hw0 ▸ h1
 refine zA9 [.tmp 4] func67 ntmps67 (by decide) Z Z (nb Z) ?_
 intro R hR
 have f_v0:=h0
 replace h0:R 0=v0:=hR 0 _ Z
 replace h1:R 1=v1:=hR 1 _ Z
 refine zQU d j (eB false::[]) ?_ ?_
 exact op (fun Q U W H D=>zA2 Z)<|oz
 intro R w m n p d j
 obtain ⟨h0,h1⟩:=k2 n h0 h1
 replace f_v0:=f_v0.fr m
 obtain ⟨x1,q2,c⟩:=zA6 c
 refine zQU d j (eR v0::eR v1::eI x1::eB (decide (0<=x1))::eB (decide (0<=x1))::[]) ?_ ?_
 exact om h0<|om h1<|op (fun Q U W H D=>zAI call99 (zDT (q2 Z) (d.fr W.size) ((f_v0.fr W).eq (D.g 0 Z)) ((f_v1.on (j.trans W) (fun _ _ h=>h)).eq (D.g 1 Z))))<|op (fun Q U W H D=>zE8 (D.g 0 Z) Z)<|oa<|oz
 intro R w m n p d j
 have h4:=p.r 4 Z
 refine HT.ret ?_
 obtain rfl:=si c
 exact ⟨.inr Z,[R 4],⟨Z,N⟩,h4,j⟩
def zCC (fu:Nat) (p0:Int) (p1:Int) (p2:Int):Option Bool:=
 bd ((decide (p1<=p0))&&(decide (p0<=p2))) fun x1=>
 some x1
theorem zDC {fu : Nat} {A : Av} {p0 : Int} {p1 : Int} {p2 : Int} {r : Bool} (c : zCC fu p0 p1 p2 = some r) {w : World} {v0 : Value} {v1 : Value} {v2 : Value} (d : AvOK A w) (h0 : v0=.int .i64 p0) (h1 : v1=.int .i64 p1) (h2 : v2=.int .i64 p2) :
 Calls prog 89 #[v0,v1,v2] w fun e w'=>∃ v,e=.returned v/\(v=.bool r/\Fr w w'):=by
 unfold zCC at c
 obtain ⟨w0,hw0,j⟩:=pf w
 rw [fw hw0]
 refine zA9 [.tmp 6] func89 ntmps89 (by decide) Z Z (nb Z) ?_
 intro R hR
 replace h0:R 0=.int .i64 p0:=(hR 0 _ Z).trans h0
 replace h1:R 1=.int .i64 p1:=(hR 1 _ Z).trans h1
 replace h2:R 2=.int .i64 p2:=(hR 2 _ Z).trans h2
 refine zQU d j (eB false::[]) ?_ ?_
 exact op (fun Q U W H D=>zA2 Z)<|oz
 intro R w m n p d j
 obtain ⟨h0,h1,h2⟩:=k3 n h0 h1 h2
 refine zQT ?_
 obtain ⟨x1,q2,c⟩:=zAU c
 refine HT.u d j (eI p0::eI p1::eB (decide (p1<=p0))::eB (decide (p1<=p0))::gI (true&&((decide (p1<=p0))==true)) p0::gI (true&&((decide (p1<=p0))==true)) p2::gB (true&&((decide (p1<=p0))==true)) (decide (p0<=p2))::eB x1::eB x1::[]) ?_ ?_
 exact om h0<|om h1<|op (fun Q U W H D=>zE8 (D.g 0 Z) (D.g 1 Z))<|ov<|gm 3 true h0<|gm 3 true h2<|og 3 true (fun G Q U W H D=>zEZ (D.h 0 G Z) (D.h 1 G Z))<|op (fun Q U W H D=>zAX (decide (p1<=p0)) (D.g 0 Z) (fun hc=>by have a1:Q 13=.bool (decide (p0<=p2)):=D 1 _ _ _ Z Z Z Z (zC2 Z (zB2 hc));show _=Value.bool x1;rw [q2,hc];exact a1) (fun hc=>by show _=Value.bool x1;rw [q2,hc];exact Z))<|oa<|oz
 intro R w m n p d j
 have h6:=p.r 8 Z
 refine HT.ret ?_
 obtain rfl:=si c
 exact ⟨.inr Z,[R 6],⟨Z,N⟩,h6,j⟩
def zAP (fu : Nat) (p0 : List (List UInt8)) (p1 : (List UInt8) -> Option Bool) : Nat -> Int -> Option (Ex Int Unit)
 | 0,_=>none
 | k+1,y4=>
 bif (decide (y4<(p0.length:Int))) then (
 ck (inR y4 p0.length) <|
 cl true (p1 (gtD p0 y4)) fun x7=>
 bif x7 then (
 some (Ex.ret y4)
 ) else (
 ck (i64B (y4+1)) <|
 zAP fu p0 p1 k (y4+1)
 )
 ) else (
 some (Ex.go ())
 )
def zB1 (fu:Nat) (p0:List (List UInt8)) (p1:(List UInt8)->Option Bool):Option Int:=
 cl true (zAP fu p0 p1 fu 0) fun rl1=>
 exM rl1 (fun r=>some r) fun s3=>
 some (-1)
theorem zD3 {fu : Nat} {A : Av} {p0 : List (List UInt8)} {p1 : (List UInt8) -> Option Bool} {r : Int} (c : zB1 fu p0 p1 = some r) {w : World} {v0 : Value} {v1 : Value} (d : AvOK A w) (h0 : Rep (eSl eStr) A w v0 p0) (h1 : FnB1 prog eStr (fun r => .raw (.bool r)) A w v1 p1) :
 Calls prog 121 #[v0,v1] w fun e w'=>∃ v,e=.returned v/\(v=.int .i64 r/\Fr w w'):=by
 unfold zB1 at c
 obtain ⟨w0,hw0,j⟩:=pf w
 rw [fw hw0]
 have f_v1:FnB1 prog eStr (fun r=>.raw (.bool r)) A w0 v1 p1:=hw0 ▸ h1
 refine zA9 [.tmp 4] func121 ntmps121 (by decide) Z Z (nb Z) ?_
 intro R hR
 have f_v0:=h0
 replace h0:R 0=v0:=hR 0 _ Z
 replace h1:R 1=v1:=hR 1 _ Z
 refine zQU d j (eI 0::[]) ?_ ?_
 exact op (fun Q U W H D=>zA2 Z)<|oz
 intro R w m n p d j
 obtain ⟨h0,h1⟩:=k2 n h0 h1
 replace f_v0:=f_v0.fr m
 refine zQT<|zQU d j (eR v0::eI (p0.length:Int)::eI 0::[]) ?_ ?_
 exact om h0<|op (fun Q U W H D=>zAK (aT:=#[]) ((f_v0.fr W).eq (D.g 0 Z)) underlying34)<|op (fun Q U W H D=>zBj Z)<|oz
 intro R w m n p d j
 obtain ⟨h0,h1⟩:=k2 n h0 h1
 have h7:=p.r 1 Z
 have h8:=p.r 2 Z
 replace f_v0:=f_v0.fr m
 obtain ⟨rl1,q2,c⟩:=zA6 c
 replace q2:=q2 Z
 refine zQO (fun R w=>∃ (s3:Unit),rl1=Ex.go s3/\AvOK A w/\Fr w0 w) ?_ ?_
 refine HT.block<|zQS (fun k R w=>∃ (y4:Int),zAP fu p0 p1 k y4=some rl1/\AvOK A w/\Fr w0 w/\R 0=v0/\R 1=v1/\R 7=.int .i64 (p0.length:Int)/\R 8=.int .i64 y4/\Rep (eSl eStr) A w v0 p0) fu ⟨_,q2,d,j,h0,h1,h7,h8,f_v0⟩ ?_
 have hr0:=c;clear c q2
 rintro k R w ⟨y4,c,d,j,h0,h1,h7,h8,f_v0⟩
 rcases k with _ | k
 cases (show none=some _ from c)
 rw [zAP] at c
 refine zQU d j (eB (decide (y4<(p0.length:Int)))::[]) ?_ ?_
 exact op (fun Q U W H D=>zAk ((H 8 Z).trans h8) ((H 7 Z).trans h7))<|oz
 intro R w m n p d j
 obtain ⟨h0,h1,h7,h8⟩:=k4 n h0 h1 h7 h8
 have h9:=p.r 0 Z
 replace f_v0:=f_v0.fr m
 refine zQT<|zQM (decide (y4<(p0.length:Int))) h9 (fun c5=>?_) (fun c5=>?_)
 have c:=zAN c5 c
 refine HT.skip<|zQT<|HT.block<|zQU d j (eI y4::eI y4::[]) ?_ ?_
 exact om h8<|oa<|oz
 intro R w m n p d j
 obtain ⟨h0,h1,h7,h8⟩:=k4 n h0 h1 h7 h8
 have h5:=p.r 1 Z
 replace f_v0:=f_v0.fr m
 obtain ⟨e6,c⟩:=zA7 c
 obtain ⟨x7,q8,c⟩:=zA6 c
 refine zQU d j (eR v1::eR v0::eI y4::eF (.qtr eStr A (gtD p0 y4))::eF (.rep eStr A (gtD p0 y4))::eB x7::[]) ?_ ?_
 exact om h1<|om h0<|om h5<|op (fun Q U W H D=>zAC ((f_v0.fr W).eq (D.g 0 Z)) (D.g 1 Z) underlying34 sizeOf9 e6)<|op (fun Q U W H D=>(zAT (QRep.ptr (D.g 0 Z)) isAgg9 sizeOf9))<|op (fun Q U W H D=>zIP (D.g 0 Z) (f_v1 _ _ (q8 Z) _ _ ((j.trans W).ch _) (d.fr W.size) (D.g 1 Z)))<|oz
 intro R w m n p d j
 obtain ⟨h0,h1,h5,h7,h8⟩:=k5 n h0 h1 h5 h7 h8
 have h16:=p.r 5 Z
 replace f_v0:=f_v0.fr m
 refine zQM x7 h16 (fun c9=>?_) (fun c9=>?_)
 have c:=zAN c9 c
 refine zQU d j (eI y4::eI y4::[]) ?_ ?_
 exact om h5<|oa<|oz
 intro R w m n p d j
 have h4:=p.r 1 Z
 refine HT.ret ?_
 obtain rfl:=si c
 have c:=hr0
 replace c:some _=some _:=c
 obtain rfl:=si c
 exact ⟨.inr Z,[R 4],⟨Z,N⟩,h4,j⟩
 have c:=zAM c9 c
 refine HT.skip ?_
 obtain ⟨e10,c⟩:=zA7 c
 refine HT.u d j (eI (y4+1)::eI (y4+1)::[]) ?_ ?_
 exact op (fun Q U W H D=>zAS ((H 8 Z).trans h8) Z e10)<|ov<|oz
 intro R w m n p d j
 obtain ⟨h0,h1,h7⟩:=k3 n h0 h1 h7
 have h8:=p.r 1 Z
 replace f_v0:=f_v0.fr m
 exact ei k (And.intro (Nat.lt_succ_self k) ⟨_,c,d,j,h0,h1,h7,h8,f_v0⟩)
 have c:=zAM c5 c
 refine zQR ?_
 obtain rfl:=si c
 exact ei _ ⟨Z,d,j⟩
 rintro R w ⟨s3,rfl,d,j⟩
 have c:=zF3 c
 refine zQU d j (eI (-1)::[]) ?_ ?_
 exact op (fun Q U W H D=>zA2 Z)<|oz
 intro R w m n p d j
 have h4:=p.r 0 Z
 refine HT.ret ?_
 obtain rfl:=si c
 exact ⟨.inr Z,[R 4],⟨Z,N⟩,h4,j⟩
def zB7 (fu:Nat) (p0:List (List UInt8)) (p1:(List UInt8)->Option Bool):Option Bool:=
 cl true (zB1 fu p0 p1) fun x1=>
 some (decide (0<=x1))
theorem zE1 {fu : Nat} {A : Av} {p0 : List (List UInt8)} {p1 : (List UInt8) -> Option Bool} {r : Bool} (c : zB7 fu p0 p1 = some r) {w : World} {v0 : Value} {v1 : Value} (d : AvOK A w) (h0 : Rep (eSl eStr) A w v0 p0) (h1 : FnB1 prog eStr (fun r => .raw (.bool r)) A w v1 p1) :
 Calls prog 90 #[v0,v1] w fun e w'=>∃ v,e=.returned v/\(v=.bool r/\Fr w w'):=by
 unfold zB7 at c
 obtain ⟨w0,hw0,j⟩:=pf w
 rw [fw hw0]
 have f_v1:FnB1 prog eStr (fun r=>.raw (.bool r)) A w0 v1 p1:=hw0 ▸ h1
 refine zA9 [.tmp 4] func90 ntmps90 (by decide) Z Z (nb Z) ?_
 intro R hR
 have f_v0:=h0
 replace h0:R 0=v0:=hR 0 _ Z
 replace h1:R 1=v1:=hR 1 _ Z
 refine zQU d j (eB false::[]) ?_ ?_
 exact op (fun Q U W H D=>zA2 Z)<|oz
 intro R w m n p d j
 obtain ⟨h0,h1⟩:=k2 n h0 h1
 replace f_v0:=f_v0.fr m
 obtain ⟨x1,q2,c⟩:=zA6 c
 refine zQU d j (eR v0::eR v1::eI x1::eB (decide (0<=x1))::eB (decide (0<=x1))::[]) ?_ ?_
 exact om h0<|om h1<|op (fun Q U W H D=>zAI call121 (zD3 (q2 Z) (d.fr W.size) ((f_v0.fr W).eq (D.g 0 Z)) ((f_v1.on (j.trans W) (fun _ _ h=>h)).eq (D.g 1 Z))))<|op (fun Q U W H D=>zE8 (D.g 0 Z) Z)<|oa<|oz
 intro R w m n p d j
 have h4:=p.r 4 Z
 refine HT.ret ?_
 obtain rfl:=si c
 exact ⟨.inr Z,[R 4],⟨Z,N⟩,h4,j⟩
def zCk (fu : Nat) (p0 : List UInt8) : Nat -> Int -> Option (Ex Bool Unit)
 | 0,_=>none
 | k+1,y4=>
 bif (decide (y4<(p0.length:Int))) then (
 ck (inR y4 p0.length) <|
 cl true (zCC fu (IntKind.i64.wrap (bAt p0 y4)) 32 126) fun x7=>
 bif (!x7) then (
 some (Ex.ret false)
 ) else (
 ck (i64B (y4+1)) <|
 zCk fu p0 k (y4+1)
 )
 ) else (
 some (Ex.go ())
 )
def zEW (fu:Nat) (p0:List UInt8):Option Bool:=
 cl true (zCk fu p0 fu 0) fun rl1=>
 exM rl1 (fun r=>some r) fun s3=>
 some (decide ((p0.length:Int)<=40))
theorem zIE {fu : Nat} {A : Av} {p0 : List UInt8} {r : Bool} (c : zEW fu p0 = some r) {w : World} {v0 : Value} (d : AvOK A w) (h0 : Rep eStr A w v0 p0) :
 Calls prog 123 #[v0] w fun e w'=>∃ v,e=.returned v/\(v=.bool r/\Fr w w'):=by
 unfold zEW at c
 obtain ⟨w0,hw0,j⟩:=pf w
 rw [fw hw0]
 refine zA9 [.tmp 2] func123 ntmps123 (by decide) Z Z (nb Z) ?_
 intro R hR
 have f_v0:=h0
 replace h0:R 0=v0:=hR 0 _ Z
 refine zQU d j (eB false::[]) ?_ ?_
 exact op (fun Q U W H D=>zA2 Z)<|oz
 intro R w m n p d j
 replace h0:=k1 n h0
 replace f_v0:=f_v0.fr m
 refine zQT<|zQU d j (eR v0::eI (p0.length:Int)::eI 0::[]) ?_ ?_
 exact om h0<|op (fun Q U W H D=>zB0 ((f_v0.fr W).eq (D.g 0 Z)) underlying9)<|op (fun Q U W H D=>zBj Z)<|oz
 intro R w m n p d j
 replace h0:=k1 n h0
 have h5:=p.r 1 Z
 have h6:=p.r 2 Z
 replace f_v0:=f_v0.fr m
 obtain ⟨rl1,q2,c⟩:=zA6 c
 replace q2:=q2 Z
 refine zQO (fun R w=>∃ (s3:Unit),rl1=Ex.go s3/\AvOK A w/\Fr w0 w/\R 0=v0/\Rep eStr A w v0 p0) ?_ ?_
 refine HT.block<|zQS (fun k R w=>∃ (y4:Int),zCk fu p0 k y4=some rl1/\AvOK A w/\Fr w0 w/\R 0=v0/\R 5=.int .i64 (p0.length:Int)/\R 6=.int .i64 y4/\Rep eStr A w v0 p0) fu ⟨_,q2,d,j,h0,h5,h6,f_v0⟩ ?_
 have hr0:=c;clear c q2
 rintro k R w ⟨y4,c,d,j,h0,h5,h6,f_v0⟩
 rcases k with _ | k
 cases (show none=some _ from c)
 rw [zCk] at c
 refine zQU d j (eB (decide (y4<(p0.length:Int)))::[]) ?_ ?_
 exact op (fun Q U W H D=>zAk ((H 6 Z).trans h6) ((H 5 Z).trans h5))<|oz
 intro R w m n p d j
 obtain ⟨h0,h5,h6⟩:=k3 n h0 h5 h6
 have h7:=p.r 0 Z
 replace f_v0:=f_v0.fr m
 refine zQT<|zQM (decide (y4<(p0.length:Int))) h7 (fun c5=>?_) (fun c5=>?_)
 have c:=zAN c5 c
 refine HT.skip<|zQT<|HT.block<|zQU d j (eI y4::eI y4::[]) ?_ ?_
 exact om h6<|oa<|oz
 intro R w m n p d j
 obtain ⟨h0,h5,h6⟩:=k3 n h0 h5 h6
 have h3:=p.r 1 Z
 replace f_v0:=f_v0.fr m
 obtain ⟨e6,c⟩:=zA7 c
 obtain ⟨x7,q8,c⟩:=zA6 c
 refine zQU d j (eR v0::eI y4::eU (bAt p0 y4)::eI (IntKind.i64.wrap (bAt p0 y4))::eB x7::eB (!x7)::[]) ?_ ?_
 exact om h0<|om h3<|op (fun Q U W H D=>zAf ((f_v0.fr W).eq (D.g 0 Z)) (D.g 1 Z) underlying9 e6)<|op (fun Q U W H D=>zDr (D.g 0 Z) underlying5 underlying3)<|op (fun Q U W H D=>zAI call89 (zDC (q8 Z) (d.fr W.size) (D.g 0 Z) Z Z))<|op (fun Q U W H D=>zDU (D.g 0 Z))<|oz
 intro R w m n p d j
 obtain ⟨h0,h5,h6⟩:=k3 n h0 h5 h6
 have h14:=p.r 5 Z
 replace f_v0:=f_v0.fr m
 refine zQM (!x7) h14 (fun c9=>?_) (fun c9=>?_)
 have c:=zAN c9 c
 refine zQU d j (eB false::[]) ?_ ?_
 exact op (fun Q U W H D=>zA2 Z)<|oz
 intro R w m n p d j
 have h2:=p.r 0 Z
 refine HT.ret ?_
 obtain rfl:=si c
 have c:=hr0
 replace c:some _=some _:=c
 obtain rfl:=si c
 exact ⟨.inr Z,[R 2],⟨Z,N⟩,h2,j⟩
 have c:=zAM c9 c
 refine HT.skip ?_
 obtain ⟨e10,c⟩:=zA7 c
 refine HT.u d j (eI (y4+1)::eI (y4+1)::[]) ?_ ?_
 exact op (fun Q U W H D=>zAS ((H 6 Z).trans h6) Z e10)<|ov<|oz
 intro R w m n p d j
 obtain ⟨h0,h5⟩:=k2 n h0 h5
 have h6:=p.r 1 Z
 replace f_v0:=f_v0.fr m
 exact ei k (And.intro (Nat.lt_succ_self k) ⟨_,c,d,j,h0,h5,h6,f_v0⟩)
 have c:=zAM c5 c
 refine zQR ?_
 obtain rfl:=si c
 exact ei _ ⟨Z,d,j,h0,f_v0⟩
 rintro R w ⟨s3,rfl,d,j,h0,f_v0⟩
 have c:=zF3 c
 refine zQU d j (eR v0::eI (p0.length:Int)::eB (decide ((p0.length:Int)<=40))::eB (decide ((p0.length:Int)<=40))::[]) ?_ ?_
 exact om h0<|op (fun Q U W H D=>zB0 ((f_v0.fr W).eq (D.g 0 Z)) underlying9)<|op (fun Q U W H D=>zEZ (D.g 0 Z) Z)<|oa<|oz
 intro R w m n p d j
 have h2:=p.r 3 Z
 refine HT.ret ?_
 obtain rfl:=si c
 exact ⟨.inr Z,[R 2],⟨Z,N⟩,h2,j⟩
def zE7 (fu:Nat) (p0:List UInt8):Option Bool:=
 cl true (zEW fu p0) fun x1=>
 cl (true&&(x1==true)) (zG1 fu p0 ([124,59]:List UInt8)) fun x3=>
 bd (x1&&(!x3)) fun x5=>
 some x5
theorem zI2 {fu : Nat} {A : Av} {p0 : List UInt8} {r : Bool} (c : zE7 fu p0 = some r) {w : World} {v0 : Value} (d : AvOK A w) (h0 : Rep eStr A w v0 p0) :
 Calls prog 92 #[v0] w fun e w'=>∃ v,e=.returned v/\(v=.bool r/\Fr w w'):=by
 unfold zE7 at c
 obtain ⟨w0,hw0,j⟩:=pf w
 rw [fw hw0]
 refine zA9 [.tmp 2] func92 ntmps92 (by decide) Z Z (nb Z) ?_
 intro R hR
 have f_v0:=h0
 replace h0:R 0=v0:=hR 0 _ Z
 refine zQU d j (eB false::[]) ?_ ?_
 exact op (fun Q U W H D=>zA2 Z)<|oz
 intro R w m n p d j
 replace h0:=k1 n h0
 replace f_v0:=f_v0.fr m
 refine zQT ?_
 obtain ⟨x1,q2,c⟩:=zA6 c
 obtain ⟨x3,q4,c⟩:=zA6 c
 obtain ⟨x5,q6,c⟩:=zAU c
 refine HT.u d j (eR v0::eB x1::eB x1::gR (true&&(x1==true)) v0::gB (true&&(x1==true)) x3::gB (true&&(x1==true)) (!x3)::eB x5::eB x5::[]) ?_ ?_
 exact om h0<|op (fun Q U W H D=>zAI call123 (zIE (q2 Z) (d.fr W.size) ((f_v0.fr W).eq (D.g 0 Z))))<|ov<|gm 2 true h0<|og 2 true (fun G Q U W H D=>zAI call124 (zIB (q4 G) (d.fr W.size) ((f_v0.fr W).eq (D.h 0 G Z)) ⟨_,Z,⟨_,Z,Z,by decide⟩⟩))<|og 2 true (fun G Q U W H D=>zDU (D.h 0 G Z))<|op (fun Q U W H D=>zAX x1 (D.g 0 Z) (fun hc=>by have a1:Q 8=.bool (!x3):=D 1 _ _ _ Z Z Z Z (zC2 Z (zB2 hc));show _=Value.bool x5;rw [q6,hc];exact a1) (fun hc=>by show _=Value.bool x5;rw [q6,hc];exact Z))<|oa<|oz
 intro R w m n p d j
 have h2:=p.r 7 Z
 refine HT.ret ?_
 obtain rfl:=si c
 exact ⟨.inr Z,[R 2],⟨Z,N⟩,h2,j⟩
def zD6 (fu:Nat) (p0:List UInt8):Option Bool:=
 cl true (zE7 fu p0) fun x1=>
 some (!x1)
theorem zFd {fu : Nat} {A : Av} {p0 : List UInt8} {r : Bool} (c : zD6 fu p0 = some r) {w : World} {v0 : Value} (d : AvOK A w) (h0 : Rep eStr A w v0 p0) :
 Calls prog 91 #[v0] w fun e w'=>∃ v,e=.returned v/\(v=.bool r/\Fr w w'):=by
 unfold zD6 at c
 obtain ⟨w0,hw0,j⟩:=pf w
 rw [fw hw0]
 refine zA9 [.tmp 2] func91 ntmps91 (by decide) Z Z (nb Z) ?_
 intro R hR
 have f_v0:=h0
 replace h0:R 0=v0:=hR 0 _ Z
 refine zQU d j (eB false::[]) ?_ ?_
 exact op (fun Q U W H D=>zA2 Z)<|oz
 intro R w m n p d j
 replace h0:=k1 n h0
 replace f_v0:=f_v0.fr m
 obtain ⟨x1,q2,c⟩:=zA6 c
 refine zQU d j (eR v0::eB x1::eB (!x1)::eB (!x1)::[]) ?_ ?_
 exact om h0<|op (fun Q U W H D=>zAI call92 (zI2 (q2 Z) (d.fr W.size) ((f_v0.fr W).eq (D.g 0 Z))))<|op (fun Q U W H D=>zDU (D.g 0 Z))<|oa<|oz
 intro R w m n p d j
 have h2:=p.r 3 Z
 refine HT.ret ?_
 obtain rfl:=si c
 exact ⟨.inr Z,[R 2],⟨Z,N⟩,h2,j⟩
def zCE (fu:Nat) (p0:zA4):Option Bool:=
 cl true (zCC fu p0.1 0 3) fun x2=>
 cl (true&&((!x2)==false)) (zCC fu p0.2.1 1 99) fun x4=>
 bd ((!x2) || (!x4)) fun x6=>
 cl (true&&(x6==false)) (zCC fu p0.2.2.1 1 999) fun x8=>
 bd (x6 || (!x8)) fun x10=>
 bif x10 then (
 some false
 ) else (
 cl (true&&(((p0.2.2.2.length:Int)==4)==true)) (zB7 fu p0.2.2.2 (fun x=>zD6 fu x)) fun x13=>
 bd (((p0.2.2.2.length:Int)==4)&&(!x13)) fun x15=>
 some x15
 )
theorem zEd {fu : Nat} {A0 : Av} {p0 : zA4} {r : Bool} (c : zCE fu p0 = some r) {w : World} {v0 : Value} (d : AvOK A0 w) (h0 : Rep zA0 A0 w v0 p0) :
 Calls prog 57 #[v0] w fun e w'=>∃ v,e=.returned v/\(v=.bool r/\Fr w w'):=by
 unfold zCE at c
 obtain ⟨w0,hw0,j,C⟩:=pw d
 have hA00:AvOK A0 w0:=C
 rw [fw hw0]
 obtain ⟨A,hAe,B,d,q⟩:=pa d
 refine zA9 [.tmp 2] func57 ntmps57 (by decide) Z Z (nb Z) ?_
 intro R hR
 have f_v0:Rep zA0 A w v0 p0:=hAe ▸ h0
 replace h0:R 0=v0:=hR 0 _ Z
 refine zQV [] (⟨_,true,[],some (.box w0.heap.size 51 zA0 p0),true,fun A=>.any⟩::rB false::[]) (ua (ur (UAll.nil))) q d ?_ ?_
 exact rc (OblR.made _ Z Z Z Z fun V Q U O D=>by have a0:Q 0=v0:=(O.old 0 Z).trans h0;have ra0:=(f_v0.stp O.stp).eq a0;exact zEe ra0 (Nat.le_trans j.size O.ch.size))<|rp (fun V Q U O D=>zA2 Z)<|rz
 intro done ρ σ A R w y s
 obtain ⟨b1_0,e_b1_0⟩:=s.boxv y 0 Z Z
 have h1:=s.ov y 0 0 e_b1_0
 obtain ⟨B,j,d⟩:=s.s B C j q N
 replace q:=s.left y [(0,ob (.pointer (some ⟨b1_0,0,none⟩)) (.box w0.heap.size 51 zA0 p0))] ⟨Z,Z,e_b1_0,Z,Z,N⟩
 refine zQT<|zQT ?_
 obtain ⟨x2,q3,c⟩:=zA6 c
 obtain ⟨x4,q5,c⟩:=zA6 c
 obtain ⟨x6,q7,c⟩:=zAU c
 obtain ⟨x8,q9,c⟩:=zA6 c
 obtain ⟨x10,q11,c⟩:=zAU c
 refine HT.u d j (eR (.pointer (some ⟨b1_0,0,none⟩))::eI p0.1::eB x2::eB (!x2)::eB (!x2)::gR (true&&((!x2)==false)) (.pointer (some ⟨b1_0,1,none⟩))::gI (true&&((!x2)==false)) p0.2.1::gB (true&&((!x2)==false)) x4::gB (true&&((!x2)==false)) (!x4)::eB x6::eB x6::gR (true&&(x6==false)) (.pointer (some ⟨b1_0,2,none⟩))::gI (true&&(x6==false)) p0.2.2.1::gB (true&&(x6==false)) x8::gB (true&&(x6==false)) (!x8)::eB x10::[]) ?_ ?_
 exact op (fun Q U W H D=>zAE ((H 1 Z).trans h1) zLK sizeOf3 (by decide) Z)<|op (fun Q U W H D=>OpF.int (zAJ ((q.fr W).ok 0 _ Z).1 (D.g 0 Z) zG9 Z isAgg3 sizeOf3))<|op (fun Q U W H D=>zAI call89 (zDC (q3 Z) (d.fr W.size) (D.g 0 Z) Z Z))<|op (fun Q U W H D=>zDU (D.g 0 Z))<|ov<|og 4 false (fun G Q U W H D=>zAE ((H 1 Z).trans h1) zLC sizeOf3 (by decide) Z)<|og 4 false (fun G Q U W H D=>OpF.int (zAJ ((q.fr W).ok 0 _ Z).1 (D.h 0 G Z) zGA Z isAgg3 sizeOf3))<|og 4 false (fun G Q U W H D=>zAI call89 (zDC (q5 G) (d.fr W.size) (D.h 0 G Z) Z Z))<|og 4 false (fun G Q U W H D=>zDU (D.h 0 G Z))<|op (fun Q U W H D=>zAX (!x2) (D.g 0 Z) (fun hc=>by show _=Value.bool x6;rw [q7,hc];exact Z) (fun hc=>by have a2:Q 11=.bool (!x4):=D 1 _ _ _ Z Z Z Z (zC2 Z (zB2 hc));show _=Value.bool x6;rw [q7,hc];exact a2))<|ov<|og 10 false (fun G Q U W H D=>zAE ((H 1 Z).trans h1) zKy sizeOf3 (by decide) Z)<|og 10 false (fun G Q U W H D=>OpF.int (zAJ ((q.fr W).ok 0 _ Z).1 (D.h 0 G Z) zG8 Z isAgg3 sizeOf3))<|og 10 false (fun G Q U W H D=>zAI call89 (zDC (q9 G) (d.fr W.size) (D.h 0 G Z) Z Z))<|og 10 false (fun G Q U W H D=>zDU (D.h 0 G Z))<|op (fun Q U W H D=>zAX x6 (D.g 0 Z) (fun hc=>by show _=Value.bool x10;rw [q11,hc];exact Z) (fun hc=>by have a2:Q 17=.bool (!x8):=D 1 _ _ _ Z Z Z Z (zC2 Z (zB2 hc));show _=Value.bool x10;rw [q11,hc];exact a2))<|oz
 intro R w m n p d j
 replace h1:=k1 n h1
 have h18:=p.r 15 Z
 replace q:=q.fr m
 refine zQM x10 h18 (fun c12=>?_) (fun c12=>?_)
 have c:=zAN c12 c
 refine zQU d j (eB false::[]) ?_ ?_
 exact op (fun Q U W H D=>zA2 Z)<|oz
 intro R w m n p d j
 have h2:=p.r 0 Z
 replace q:=q.fr m
 replace q:IniOK [] A w:=q.sub [] N
 refine HT.ret ?_
 obtain rfl:=si c
 exact ⟨.inr Z,[R 2],⟨Z,N⟩,h2,j⟩
 have c:=zAM c12 c
 refine HT.skip<|zQT ?_
 obtain ⟨x13,q14,c⟩:=zA6 c
 obtain ⟨x15,q16,c⟩:=zAU c
 refine HT.u d j (eR (.pointer (some ⟨b1_0,3,none⟩))::eF (.rep (eSl eStr) A p0.2.2.2)::eI (p0.2.2.2.length:Int)::eB ((p0.2.2.2.length:Int)==4)::eB ((p0.2.2.2.length:Int)==4)::gR (true&&(((p0.2.2.2.length:Int)==4)==true)) (.pointer (some ⟨b1_0,3,none⟩))::gF (true&&(((p0.2.2.2.length:Int)==4)==true)) (.rep (eSl eStr) A p0.2.2.2)::gB (true&&(((p0.2.2.2.length:Int)==4)==true)) x13::gB (true&&(((p0.2.2.2.length:Int)==4)==true)) (!x13)::eB x15::eB x15::[]) ?_ ?_
 exact op (fun Q U W H D=>zAE ((H 1 Z).trans h1) zD7 sizeOf34 (by decide) Z)<|op (fun Q U W H D=>(zAJ ((q.fr W).ok 0 _ Z).1 (D.g 0 Z) zAc Z isAgg34 sizeOf34))<|op (fun Q U W H D=>zAK (aT:=#[]) (D.g 0 Z) underlying34)<|op (fun Q U W H D=>zDM (D.g 0 Z) Z)<|ov<|og 4 true (fun G Q U W H D=>zAE ((H 1 Z).trans h1) zD7 sizeOf34 (by decide) Z)<|og 4 true (fun G Q U W H D=>(zAJ ((q.fr W).ok 0 _ Z).1 (D.h 0 G Z) zAc Z isAgg34 sizeOf34))<|og 4 true (fun G Q U W H D=>zAI call90 (zE1 (q14 G) (d.fr W.size) (D.h 0 G Z) (zIh [] Z call91 (fun x r hr' w'' a p hA' ha=>zFd hr' hA' ha))))<|og 4 true (fun G Q U W H D=>zDU (D.h 0 G Z))<|op (fun Q U W H D=>zAX ((p0.2.2.2.length:Int)==4) (D.g 0 Z) (fun hc=>by have a1:Q 27=.bool (!x13):=D 1 _ _ _ Z Z Z Z (zC2 Z (zB2 hc));show _=Value.bool x15;rw [q16,hc];exact a1) (fun hc=>by show _=Value.bool x15;rw [q16,hc];exact Z))<|oa<|oz
 intro R w m n p d j
 have h2:=p.r 10 Z
 replace q:=q.fr m
 replace q:IniOK [] A w:=q.sub [] N
 refine HT.ret ?_
 obtain rfl:=si c
 exact ⟨.inr Z,[R 2],⟨Z,N⟩,h2,j⟩
def zDc (fu:Nat) (p0:zA4):Option Bool:=
 cl true (zCE fu p0) fun x2=>
 some (!x2)
theorem zGH {fu : Nat} {A0 : Av} {p0 : zA4} {r : Bool} (c : zDc fu p0 = some r) {w : World} {v0 : Value} (d : AvOK A0 w) (h0 : Rep zA0 A0 w v0 p0) :
 Calls prog 68 #[v0] w fun e w'=>∃ v,e=.returned v/\(v=.bool r/\Fr w w'):=by
 unfold zDc at c
 obtain ⟨w0,hw0,j,C⟩:=pw d
 have hA00:AvOK A0 w0:=C
 rw [fw hw0]
 obtain ⟨A,hAe,B,d,q⟩:=pa d
 refine zA9 [.tmp 2] func68 ntmps68 (by decide) Z Z (nb Z) ?_
 intro R hR
 have f_v0:Rep zA0 A w v0 p0:=hAe ▸ h0
 replace h0:R 0=v0:=hR 0 _ Z
 refine zQV [] (⟨_,true,[],some (.box w0.heap.size 51 zA0 p0),true,fun A=>.any⟩::rB false::[]) (ua (ur (UAll.nil))) q d ?_ ?_
 exact rc (OblR.made _ Z Z Z Z fun V Q U O D=>by have a0:Q 0=v0:=(O.old 0 Z).trans h0;have ra0:=(f_v0.stp O.stp).eq a0;exact zEe ra0 (Nat.le_trans j.size O.ch.size))<|rp (fun V Q U O D=>zA2 Z)<|rz
 intro done ρ σ A R w y s
 obtain ⟨b1_0,e_b1_0⟩:=s.boxv y 0 Z Z
 have h1:=s.ov y 0 0 e_b1_0
 obtain ⟨B,j,d⟩:=s.s B C j q N
 replace q:=s.left y [(0,ob (.pointer (some ⟨b1_0,0,none⟩)) (.box w0.heap.size 51 zA0 p0))] ⟨Z,Z,e_b1_0,Z,Z,N⟩
 obtain ⟨x2,q3,c⟩:=zA6 c
 refine zQU d j (eF (.rep zA0 A p0)::eB x2::eB (!x2)::eB (!x2)::[]) ?_ ?_
 exact op (fun Q U W H D=>(zAJ ((q.fr W).ok 0 _ Z).1 ((H 1 Z).trans h1) (Fld.id _) Z isAgg51 sizeOf51))<|op (fun Q U W H D=>zAI call57 (zEd (q3 Z) (d.fr W.size) (D.g 0 Z)))<|op (fun Q U W H D=>zDU (D.g 0 Z))<|oa<|oz
 intro R w m n p d j
 have h2:=p.r 3 Z
 replace q:=q.fr m
 replace q:IniOK [] A w:=q.sub [] N
 refine HT.ret ?_
 obtain rfl:=si c
 exact ⟨.inr Z,[R 2],⟨Z,N⟩,h2,j⟩
def zDN (fu:Nat) (p0:List zA4):Option Bool:=
 cl true (zAd fu p0 (fun x=>zDc fu x)) fun x1=>
 some (!x1)
theorem zGu {fu : Nat} {A : Av} {p0 : List zA4} {r : Bool} (c : zDN fu p0 = some r) {w : World} {v0 : Value} (d : AvOK A w) (h0 : Rep (eSl zA0) A w v0 p0) :
 Calls prog 40 #[v0] w fun e w'=>∃ v,e=.returned v/\(v=.bool r/\Fr w w'):=by
 unfold zDN at c
 obtain ⟨w0,hw0,j⟩:=pf w
 rw [fw hw0]
 refine zA9 [.tmp 2] func40 ntmps40 (by decide) Z Z (nb Z) ?_
 intro R hR
 have f_v0:=h0
 replace h0:R 0=v0:=hR 0 _ Z
 refine zQU d j (eB false::[]) ?_ ?_
 exact op (fun Q U W H D=>zA2 Z)<|oz
 intro R w m n p d j
 replace h0:=k1 n h0
 replace f_v0:=f_v0.fr m
 obtain ⟨x1,q2,c⟩:=zA6 c
 refine zQU d j (eR v0::eB x1::eB (!x1)::eB (!x1)::[]) ?_ ?_
 exact om h0<|op (fun Q U W H D=>zAI call67 (zDD (q2 Z) (d.fr W.size) ((f_v0.fr W).eq (D.g 0 Z)) (zIh [] Z call68 (fun x r hr' w'' a p hA' ha=>zGH hr' hA' ha))))<|op (fun Q U W H D=>zDU (D.g 0 Z))<|oa<|oz
 intro R w m n p d j
 have h2:=p.r 3 Z
 refine HT.ret ?_
 obtain rfl:=si c
 exact ⟨.inr Z,[R 2],⟨Z,N⟩,h2,j⟩
def zCi (fu : Nat) (p0 : List UInt8) (p1 : Int -> Option Int) : Nat -> Int -> (List Int) -> Option (List Int)
 | 0,_,_=>none
 | k+1,y6,y7=>
 bif (decide (y6<((bytL p0).length:Int))) then (
 ck (inR y6 y7.length) <|
 cl true (p1 (gtD y7 y6)) fun x10=>
 ck (inR y6 y7.length) <|
 ck (i64B (y6+1)) <|
 zCi fu p0 p1 k (y6+1) (y7.set y6.toNat x10)
 ) else (
 some y7
 )
def zE0 (fu:Nat) (p0:List UInt8) (p1:Int->Option Int):Option (List UInt8):=
 ck (zBJ p0.length) <|
 cl true (zCi fu p0 p1 fu 0 (bytL p0)) fun s5=>
 some (strB s5)
theorem zGD {fu : Nat} {A0 : Av} {p0 : List UInt8} {p1 : Int -> Option Int} {r : List UInt8} (c : zE0 fu p0 p1 = some r) {w : World} {v0 : Value} {v1 : Value} (d : AvOK A0 w) (h0 : Rep eStr A0 w v0 p0) (h1 : FnB1 prog (eInt .u8) (fun r => .raw (.int .u8 r)) A0 w v1 p1) :
 Calls prog 156 #[v0,v1] w fun e w'=>∃ v,e=.returned v/\(Rep eStr A0 w' v r/\Fr w w'):=by
 unfold zE0 at c
 obtain ⟨w0,hw0,j,C⟩:=pw d
 have hA00:AvOK A0 w0:=C
 rw [fw hw0]
 have f_v1:FnB1 prog (eInt .u8) (fun r=>.raw (.int .u8 r)) A0 w0 v1 p1:=hw0 ▸ h1
 obtain ⟨A,hAe,B,d,q⟩:=pa d
 refine zA9 [.tmp 4] func156 ntmps156 (by decide) Z Z (nb Z) ?_
 intro R hR
 have f_v0:Rep eStr A w v0 p0:=hAe ▸ h0
 replace h0:R 0=v0:=hR 0 _ Z
 replace h1:R 1=v1:=hR 1 _ Z
 refine zQU d j (eF (.rep eStr A ([]:List UInt8))::[]) ?_ ?_
 exact op (fun Q U W H D=>zA2 ⟨_,Z,⟨_,Z,Z,by decide⟩⟩)<|oz
 intro R w m n p d j
 obtain ⟨h0,h1⟩:=k2 n h0 h1
 replace f_v0:=f_v0.fr m
 replace q:=q.fr m
 obtain ⟨e1,c⟩:=zA7 c
 refine zQV [] (rR v0::⟨_,true,[],some (.vec w0.heap.size 5 (eInt .u8) (bytL p0)),true,fun A=>.any⟩::⟨_,true,[1],some (.vec w0.heap.size 5 (eInt .u8) (bytL p0)),true,fun A=>.any⟩::[]) (ur (ua (ua (UAll.nil)))) q d ?_ ?_
 exact rm h0<|rc (OblR.made _ Z Z Z Z fun V Q U O D=>by have a0:Q 8=v0:=D.g 0 Z;have ra0:=(f_v0.stp O.stp).eq a0;exact zJA ra0 underlying9 underlying43 underlying5 Z e1 (Nat.le_trans j.size O.ch.size))<|rc (OblR.took 1 _ _ Z Z Z Z Z fun V Q U O D u X Y J L M=>by exact zAD (L _ _ Z Z Z Z).symm X Y)<|rz
 intro done ρ σ A R w y s
 replace h1:=k1 s.rg h1
 obtain ⟨u2,e_u2⟩:∃ u,ρ 2=u:=⟨_,Z⟩
 have h5:=s.ov y 2 2 e_u2
 obtain ⟨B,j,d⟩:=s.s B C j q N
 replace q:=s.left y [(2,ob u2 (.vec w0.heap.size 5 (eInt .u8) (bytL p0)))] ⟨Z,Z,e_u2,Z,Z,N⟩
 refine zQT<|zQU d j (eR u2::eI ((bytL p0).length:Int)::eI 0::[]) ?_ ?_
 exact om h5<|op (fun Q U W H D=>zBu (q.ok 0 _ Z).1 (D.g 0 Z) underlying43)<|op (fun Q U W H D=>zBj Z)<|oz
 intro R w m n p d j
 obtain ⟨h1,h5⟩:=k2 n h1 h5
 have h10:=p.r 0 Z
 have h11:=p.r 1 Z
 have h12:=p.r 2 Z
 replace q:=q.fr m
 obtain ⟨rl3,q4,c⟩:=zA6 c
 replace q4:=q4 Z
 refine zQO (fun R w=>∃ A:Av,∃ (s5:(List Int)),rl3=s5/\AvOK A w/\Fr w0 w/\(∀ b o,A0 b o->A b o)/\IniOK [ob u2 (.vec w0.heap.size 5 (eInt .u8) s5)] A w/\R 5=u2) ?_ ?_
 refine HT.block<|zQS (fun k R w=>∃ A:Av,∃ (y6:Int) (y7:List Int),zCi fu p0 p1 k y6 y7=some rl3/\AvOK A w/\Fr w0 w/\(∀ b o,A0 b o->A b o)/\IniOK [ob u2 (.vec w0.heap.size 5 (eInt .u8) y7)] A w/\R 1=v1/\R 5=u2/\R 10=u2/\R 11=.int .i64 ((bytL p0).length:Int)/\R 12=.int .i64 y6) fu ⟨_,_,_,q4,d,j,B,q,h1,h5,h10,h11,h12⟩ ?_
 have hr0:=c;clear c q4
 rintro k R w ⟨A,y6,y7,c,d,j,B,q,h1,h5,h10,h11,h12⟩
 rcases k with _ | k
 cases (show none=some _ from c)
 rw [zCi] at c
 refine zQU d j (eB (decide (y6<((bytL p0).length:Int)))::[]) ?_ ?_
 exact op (fun Q U W H D=>zAk ((H 12 Z).trans h12) ((H 11 Z).trans h11))<|oz
 intro R w m n p d j
 obtain ⟨h1,h5,h10,h11,h12⟩:=k5 n h1 h5 h10 h11 h12
 have h13:=p.r 0 Z
 replace q:=q.fr m
 refine zQT<|zQM (decide (y6<((bytL p0).length:Int))) h13 (fun c8=>?_) (fun c8=>?_)
 have c:=zAN c8 c
 refine HT.skip<|zQT<|HT.block ?_
 obtain ⟨e9,c⟩:=zA7 c
 refine zQU d j (eI y6::eR (vptr u2 (y6.toNat*1))::eU (gtD y7 y6)::eI y6::eU (gtD y7 y6)::[]) ?_ ?_
 exact om h12<|op (fun Q U W H D=>zAb (q.ok 0 _ Z).1 ((H 10 Z).trans h10) ((H 12 Z).trans h12) underlying43 sizeOf5 e9 Z)<|op (fun Q U W H D=>OpF.int (zBK ((q.fr W).ok 0 _ Z).1 (D.g 0 Z) e9 Z (Fld.id _) Z isAgg5 sizeOf5))<|oa<|oa<|oz
 intro R w m n p d j
 obtain ⟨h1,h5,h10,h11,h12⟩:=k5 n h1 h5 h10 h11 h12
 have h6:=p.r 3 Z
 have h7:=p.r 4 Z
 replace q:=q.fr m
 obtain ⟨x10,q11,c⟩:=zA6 c
 obtain ⟨e12,c⟩:=zA7 c
 refine zQY [ob u2 (.vec w0.heap.size 5 (eInt .u8) y7)] (rR u2::rI y6::rR v1::rU (gtD y7 y6)::rU x10::rR (vptr u2 (y6.toNat*1))::⟨_,true,[0],some (.vec w0.heap.size 5 (eInt .u8) (y7.set y6.toNat x10)),false,fun A=>.any⟩::[]) (ur (ur (ur (ur (ur (ur (ua (UAll.nil)))))))) q d ?_ ?_
 exact rm h5<|rm h6<|rm h1<|rm h7<|rp (fun V Q U O D=>zIP (D.g 0 Z) (f_v1 _ _ (q11 Z) _ _ ((j.tr O.ch (q.ge (⟨Z,N⟩))).ch _) (hA00.fr (Nat.le_trans j.size O.ch.size)) ((zBT.eq (D.g 1 Z)).less (O.low' B C (q.ge (⟨Z,N⟩))))))<|rp (fun V Q U O D=>zAb (q.ok 0 _ Z).1 (D.g 0 Z) (D.g 1 Z) underlying43 sizeOf5 e12 Z)<|rc (OblR.took 0 _ _ Z Z Z Z Z fun V Q U O D u X Y J L M=>by have a0:Q 22=(vptr u2 (y6.toNat*1)):=D.g 0 Z;have a1:Q 21=.int .u8 x10:=D.g 1 Z;obtain rfl:=J _ Z;exact zFu (zBT.eq a1) X Y a0 e12 Z (FldS.id _) sizeOf5 Z)<|rz
 intro done ρ σ A R w y s
 obtain ⟨h1,h5,h10,h11,h12⟩:=k5 s.rg h1 h5 h10 h11 h12
 have z13:=s.inivR 0 Z
 have z14:=s.on y 7 6 Z Z Z Z Z z13
 obtain ⟨B,j,d⟩:=s.s B C j q ⟨Z,N⟩
 replace q:=s.left y [(7,ob u2 (.vec w0.heap.size 5 (eInt .u8) (y7.set y6.toNat x10)))] ⟨Z,Z,z14,Z,Z,N⟩
 obtain ⟨e15,c⟩:=zA7 c
 refine HT.u d j (eI (y6+1)::eI (y6+1)::[]) ?_ ?_
 exact op (fun Q U W H D=>zAS ((H 12 Z).trans h12) Z e15)<|ov<|oz
 intro R w m n p d j
 obtain ⟨h1,h5,h10,h11⟩:=k4 n h1 h5 h10 h11
 have h12:=p.r 1 Z
 replace q:=q.fr m
 exact ei k (And.intro (Nat.lt_succ_self k) ⟨_,_,_,c,d,j,B,q,h1,h5,h10,h11,h12⟩)
 have c:=zAM c8 c
 refine zQR ?_
 obtain rfl:=si c
 exact ei _ ⟨_,Z,d,j,B,q,h5⟩
 rintro R w ⟨A,s5,es,d,j,B,q,h5⟩
 obtain rfl:=es.symm
 refine zQU d j (eR u2::eF (.rep eStr A (strB s5))::eF (.rep eStr A (strB s5))::[]) ?_ ?_
 exact om h5<|op (fun Q U W H D=>zC4 ((zCB ((q.fr W).ok 0 _ Z).1 B C).eq (D.g 0 Z)) underlying43 underlying5 underlying9)<|op (fun Q U W H D=>zA2 (D.g 0 Z))<|oz
 intro R w m n p d j
 obtain ⟨u16,h4,f_u16⟩:∃ u,R 4=u/\Rep eStr A w u (strB s5):=⟨_,Z,p 2 _ _ Z Z Z⟩
 replace q:=q.fr m
 replace q:IniOK [] A w:=q.sub [] N
 refine HT.ret ?_
 obtain rfl:=si c
 exact ⟨.inr Z,[R 4],⟨Z,N⟩,(f_u16.eq h4).down B,j⟩
def zDw (fu:Nat) (p0:Int):Option Int:=
 bd ((decide (65<=p0))&&(decide (p0<=90))) fun x1=>
 bif x1 then (
 some (IntKind.u8.wrap (p0+32))
 ) else (
 some p0
 )
theorem zGp {fu : Nat} {A : Av} {p0 : Int} {r : Int} (c : zDw fu p0 = some r) {w : World} {v0 : Value} (d : AvOK A w) (h0 : v0=.int .u8 p0) :
 Calls prog 157 #[v0] w fun e w'=>∃ v,e=.returned v/\(v=.int .u8 r/\Fr w w'):=by
 unfold zDw at c
 obtain ⟨w0,hw0,j⟩:=pf w
 rw [fw hw0]
 refine zA9 [.tmp 2] func157 ntmps157 (by decide) Z Z (nb Z) ?_
 intro R hR
 replace h0:R 0=.int .u8 p0:=(hR 0 _ Z).trans h0
 refine zQU d j (eU 0::[]) ?_ ?_
 exact op (fun Q U W H D=>zA2 Z)<|oz
 intro R w m n p d j
 replace h0:=k1 n h0
 refine zQT<|zQT ?_
 obtain ⟨x1,q2,c⟩:=zAU c
 refine HT.u d j (eU p0::eB (decide (65<=p0))::eB (decide (65<=p0))::gU (true&&((decide (65<=p0))==true)) p0::gB (true&&((decide (65<=p0))==true)) (decide (p0<=90))::eB x1::[]) ?_ ?_
 exact om h0<|op (fun Q U W H D=>zE8 (D.g 0 Z) Z)<|ov<|gm 2 true h0<|og 2 true (fun G Q U W H D=>zEZ (D.h 0 G Z) Z)<|op (fun Q U W H D=>zAX (decide (65<=p0)) (D.g 0 Z) (fun hc=>by have a1:Q 7=.bool (decide (p0<=90)):=D 1 _ _ _ Z Z Z Z (zC2 Z (zB2 hc));show _=Value.bool x1;rw [q2,hc];exact a1) (fun hc=>by show _=Value.bool x1;rw [q2,hc];exact Z))<|oz
 intro R w m n p d j
 replace h0:=k1 n h0
 have h8:=p.r 5 Z
 refine zQM x1 h8 (fun c3=>?_) (fun c3=>?_)
 have c:=zAN c3 c
 refine zQU d j (eU p0::eU (IntKind.u8.wrap (p0+32))::eU (IntKind.u8.wrap (p0+32))::[]) ?_ ?_
 exact om h0<|op (fun Q U W H D=>zGf (D.g 0 Z) Z)<|oa<|oz
 intro R w m n p d j
 have h2:=p.r 2 Z
 refine HT.ret ?_
 obtain rfl:=si c
 exact ⟨.inr Z,[R 2],⟨Z,N⟩,h2,j⟩
 have c:=zAM c3 c
 refine HT.skip<|zQU d j (eU p0::eU p0::[]) ?_ ?_
 exact om h0<|oa<|oz
 intro R w m n p d j
 have h2:=p.r 1 Z
 refine HT.ret ?_
 obtain rfl:=si c
 exact ⟨.inr Z,[R 2],⟨Z,N⟩,h2,j⟩
def zDX (fu:Nat) (p0:List UInt8):Option (List UInt8):=
 cl true (zE0 fu p0 (fun x=>zDw fu x)) fun x1=>
 some x1
theorem zFY {fu : Nat} {A : Av} {p0 : List UInt8} {r : List UInt8} (c : zDX fu p0 = some r) {w : World} {v0 : Value} (d : AvOK A w) (h0 : Rep eStr A w v0 p0) :
 Calls prog 130 #[v0] w fun e w'=>∃ v,e=.returned v/\(Rep eStr A w' v r/\Fr w w'):=by
 unfold zDX at c
 obtain ⟨w0,hw0,j⟩:=pf w
 rw [fw hw0]
 refine zA9 [.tmp 2] func130 ntmps130 (by decide) Z Z (nb Z) ?_
 intro R hR
 have f_v0:=h0
 replace h0:R 0=v0:=hR 0 _ Z
 refine zQU d j (eF (.rep eStr A ([]:List UInt8))::[]) ?_ ?_
 exact op (fun Q U W H D=>zA2 ⟨_,Z,⟨_,Z,Z,by decide⟩⟩)<|oz
 intro R w m n p d j
 replace h0:=k1 n h0
 replace f_v0:=f_v0.fr m
 obtain ⟨x1,q2,c⟩:=zA6 c
 refine zQU d j (eR v0::eF (.rep eStr A x1)::eF (.rep eStr A x1)::[]) ?_ ?_
 exact om h0<|op (fun Q U W H D=>zAI call156 (zGD (q2 Z) (d.fr W.size) ((f_v0.fr W).eq (D.g 0 Z)) (zIh [] Z call157 (fun x r hr' w'' a p hA' ha=>zGp hr' hA' (zHk ha)))))<|op (fun Q U W H D=>zA2 (D.g 0 Z))<|oz
 intro R w m n p d j
 obtain ⟨u3,h2,f_u3⟩:∃ u,R 2=u/\Rep eStr A w u x1:=⟨_,Z,p 2 _ _ Z Z Z⟩
 refine HT.ret ?_
 obtain rfl:=si c
 exact ⟨.inr Z,[R 2],⟨Z,N⟩,(f_u3.eq h2),j⟩
def zDJ (fu:Nat) (p0:Int):Option Bool:=
 bd ((decide (97<=p0))&&(decide (p0<=122))) fun x1=>
 some x1
theorem zEr {fu : Nat} {A : Av} {p0 : Int} {r : Bool} (c : zDJ fu p0 = some r) {w : World} {v0 : Value} (d : AvOK A w) (h0 : v0=.int .u8 p0) :
 Calls prog 158 #[v0] w fun e w'=>∃ v,e=.returned v/\(v=.bool r/\Fr w w'):=by
 unfold zDJ at c
 obtain ⟨w0,hw0,j⟩:=pf w
 rw [fw hw0]
 refine zA9 [.tmp 2] func158 ntmps158 (by decide) Z Z (nb Z) ?_
 intro R hR
 replace h0:R 0=.int .u8 p0:=(hR 0 _ Z).trans h0
 refine zQU d j (eB false::[]) ?_ ?_
 exact op (fun Q U W H D=>zA2 Z)<|oz
 intro R w m n p d j
 replace h0:=k1 n h0
 refine zQT ?_
 obtain ⟨x1,q2,c⟩:=zAU c
 refine HT.u d j (eU p0::eB (decide (97<=p0))::eB (decide (97<=p0))::gU (true&&((decide (97<=p0))==true)) p0::gB (true&&((decide (97<=p0))==true)) (decide (p0<=122))::eB x1::eB x1::[]) ?_ ?_
 exact om h0<|op (fun Q U W H D=>zE8 (D.g 0 Z) Z)<|ov<|gm 2 true h0<|og 2 true (fun G Q U W H D=>zEZ (D.h 0 G Z) Z)<|op (fun Q U W H D=>zAX (decide (97<=p0)) (D.g 0 Z) (fun hc=>by have a1:Q 7=.bool (decide (p0<=122)):=D 1 _ _ _ Z Z Z Z (zC2 Z (zB2 hc));show _=Value.bool x1;rw [q2,hc];exact a1) (fun hc=>by show _=Value.bool x1;rw [q2,hc];exact Z))<|oa<|oz
 intro R w m n p d j
 have h2:=p.r 6 Z
 refine HT.ret ?_
 obtain rfl:=si c
 exact ⟨.inr Z,[R 2],⟨Z,N⟩,h2,j⟩
def zDk (fu:Nat) (p0:Int):Option Bool:=
 bd ((decide (48<=p0))&&(decide (p0<=57))) fun x1=>
 some x1
theorem zFm {fu : Nat} {A : Av} {p0 : Int} {r : Bool} (c : zDk fu p0 = some r) {w : World} {v0 : Value} (d : AvOK A w) (h0 : v0=.int .u8 p0) :
 Calls prog 101 #[v0] w fun e w'=>∃ v,e=.returned v/\(v=.bool r/\Fr w w'):=by
 unfold zDk at c
 obtain ⟨w0,hw0,j⟩:=pf w
 rw [fw hw0]
 refine zA9 [.tmp 2] func101 ntmps101 (by decide) Z Z (nb Z) ?_
 intro R hR
 replace h0:R 0=.int .u8 p0:=(hR 0 _ Z).trans h0
 refine zQU d j (eB false::[]) ?_ ?_
 exact op (fun Q U W H D=>zA2 Z)<|oz
 intro R w m n p d j
 replace h0:=k1 n h0
 refine zQT ?_
 obtain ⟨x1,q2,c⟩:=zAU c
 refine HT.u d j (eU p0::eB (decide (48<=p0))::eB (decide (48<=p0))::gU (true&&((decide (48<=p0))==true)) p0::gB (true&&((decide (48<=p0))==true)) (decide (p0<=57))::eB x1::eB x1::[]) ?_ ?_
 exact om h0<|op (fun Q U W H D=>zE8 (D.g 0 Z) Z)<|ov<|gm 2 true h0<|og 2 true (fun G Q U W H D=>zEZ (D.h 0 G Z) Z)<|op (fun Q U W H D=>zAX (decide (48<=p0)) (D.g 0 Z) (fun hc=>by have a1:Q 7=.bool (decide (p0<=57)):=D 1 _ _ _ Z Z Z Z (zC2 Z (zB2 hc));show _=Value.bool x1;rw [q2,hc];exact a1) (fun hc=>by show _=Value.bool x1;rw [q2,hc];exact Z))<|oa<|oz
 intro R w m n p d j
 have h2:=p.r 6 Z
 refine HT.ret ?_
 obtain rfl:=si c
 exact ⟨.inr Z,[R 2],⟨Z,N⟩,h2,j⟩
def zDS (fu:Nat) (p0:Int):Option Bool:=
 cl true (zDJ fu p0) fun x1=>
 bd ((decide (65<=p0))&&(decide (p0<=90))) fun x3=>
 bd (x1 || x3) fun x5=>
 cl (true&&(x5==false)) (zDk fu p0) fun x7=>
 bd (x5 || x7) fun x9=>
 some x9
theorem zGt {fu : Nat} {A : Av} {p0 : Int} {r : Bool} (c : zDS fu p0 = some r) {w : World} {v0 : Value} (d : AvOK A w) (h0 : v0=.int .u8 p0) :
 Calls prog 164 #[v0] w fun e w'=>∃ v,e=.returned v/\(v=.bool r/\Fr w w'):=by
 unfold zDS at c
 obtain ⟨w0,hw0,j⟩:=pf w
 rw [fw hw0]
 refine zA9 [.tmp 2] func164 ntmps164 (by decide) Z Z (nb Z) ?_
 intro R hR
 replace h0:R 0=.int .u8 p0:=(hR 0 _ Z).trans h0
 refine zQU d j (eB false::[]) ?_ ?_
 exact op (fun Q U W H D=>zA2 Z)<|oz
 intro R w m n p d j
 replace h0:=k1 n h0
 refine zQT ?_
 obtain ⟨x1,q2,c⟩:=zA6 c
 obtain ⟨x3,q4,c⟩:=zAU c
 obtain ⟨x5,q6,c⟩:=zAU c
 obtain ⟨x7,q8,c⟩:=zA6 c
 obtain ⟨x9,q10,c⟩:=zAU c
 refine HT.u d j (eU p0::eB x1::eB x1::gU (true&&(x1==false)) p0::gB (true&&(x1==false)) (decide (65<=p0))::gB (true&&(x1==false)) (decide (65<=p0))::gU ((true&&(x1==false))&&((decide (65<=p0))==true)) p0::gB ((true&&(x1==false))&&((decide (65<=p0))==true)) (decide (p0<=90))::gB (true&&(x1==false)) x3::eB x5::eB x5::gU (true&&(x5==false)) p0::gB (true&&(x5==false)) x7::eB x9::eB x9::[]) ?_ ?_
 exact om h0<|op (fun Q U W H D=>zAI call158 (zEr (q2 Z) (d.fr W.size) (D.g 0 Z)))<|ov<|gm 2 false h0<|og 2 false (fun G Q U W H D=>zE8 (D.h 0 G Z) Z)<|og 2 false (fun G Q U W H D=>zBj (D.h 0 G Z))<|gm 5 true h0<|og 5 true (fun G Q U W H D=>zEZ (D.h 0 G Z) Z)<|og 2 false (fun G Q U W H D=>zAX (decide (65<=p0)) (D.h 0 G Z) (fun hc=>by have a1:Q 10=.bool (decide (p0<=90)):=D 1 _ _ _ Z Z Z Z (zC2 G (zB2 hc));show _=Value.bool x3;rw [q4,hc];exact a1) (fun hc=>by show _=Value.bool x3;rw [q4,hc];exact Z))<|op (fun Q U W H D=>zAX x1 (D.g 0 Z) (fun hc=>by show _=Value.bool x5;rw [q6,hc];exact Z) (fun hc=>by have a2:Q 11=.bool x3:=D 1 _ _ _ Z Z Z Z (zC2 Z (zB2 hc));show _=Value.bool x5;rw [q6,hc];exact a2))<|ov<|gm 10 false h0<|og 10 false (fun G Q U W H D=>zAI call101 (zFm (q8 G) (d.fr W.size) (D.h 0 G Z)))<|op (fun Q U W H D=>zAX x5 (D.g 0 Z) (fun hc=>by show _=Value.bool x9;rw [q10,hc];exact Z) (fun hc=>by have a2:Q 15=.bool x7:=D 1 _ _ _ Z Z Z Z (zC2 Z (zB2 hc));show _=Value.bool x9;rw [q10,hc];exact a2))<|oa<|oz
 intro R w m n p d j
 have h2:=p.r 14 Z
 refine HT.ret ?_
 obtain rfl:=si c
 exact ⟨.inr Z,[R 2],⟨Z,N⟩,h2,j⟩
def zDZ (fu:Nat) (p0:Int):Option Int:=
 cl true (zDS fu p0) fun x1=>
 bif x1 then (
 some p0
 ) else (
 some 32
 )
theorem zGF {fu : Nat} {A : Av} {p0 : Int} {r : Int} (c : zDZ fu p0 = some r) {w : World} {v0 : Value} (d : AvOK A w) (h0 : v0=.int .u8 p0) :
 Calls prog 163 #[v0] w fun e w'=>∃ v,e=.returned v/\(v=.int .u8 r/\Fr w w'):=by
 unfold zDZ at c
 obtain ⟨w0,hw0,j⟩:=pf w
 rw [fw hw0]
 refine zA9 [.tmp 2] func163 ntmps163 (by decide) Z Z (nb Z) ?_
 intro R hR
 replace h0:R 0=.int .u8 p0:=(hR 0 _ Z).trans h0
 refine zQU d j (eU 0::[]) ?_ ?_
 exact op (fun Q U W H D=>zA2 Z)<|oz
 intro R w m n p d j
 replace h0:=k1 n h0
 refine zQT ?_
 obtain ⟨x1,q2,c⟩:=zA6 c
 refine zQU d j (eU p0::eB x1::[]) ?_ ?_
 exact om h0<|op (fun Q U W H D=>zAI call164 (zGt (q2 Z) (d.fr W.size) (D.g 0 Z)))<|oz
 intro R w m n p d j
 replace h0:=k1 n h0
 have h4:=p.r 1 Z
 refine zQM x1 h4 (fun c3=>?_) (fun c3=>?_)
 have c:=zAN c3 c
 refine zQU d j (eU p0::eU p0::[]) ?_ ?_
 exact om h0<|oa<|oz
 intro R w m n p d j
 have h2:=p.r 1 Z
 refine HT.ret ?_
 obtain rfl:=si c
 exact ⟨.inr Z,[R 2],⟨Z,N⟩,h2,j⟩
 have c:=zAM c3 c
 refine HT.skip<|zQU d j (eU 32::[]) ?_ ?_
 exact op (fun Q U W H D=>zA2 Z)<|oz
 intro R w m n p d j
 have h2:=p.r 0 Z
 refine HT.ret ?_
 obtain rfl:=si c
 exact ⟨.inr Z,[R 2],⟨Z,N⟩,h2,j⟩
def zDV (fu:Nat) (p0:List UInt8):Option (List UInt8):=
 cl true (zGO fu p0 ([39]:List UInt8) ([]:List UInt8)) fun x1=>
 cl true (zE0 fu x1 (fun x=>zDZ fu x)) fun x3=>
 some x3
theorem zGw {fu : Nat} {A : Av} {p0 : List UInt8} {r : List UInt8} (c : zDV fu p0 = some r) {w : World} {v0 : Value} (d : AvOK A w) (hG : GTab w) (h0 : Rep eStr A w v0 p0) :
 Calls prog 136 #[v0] w fun e w'=>∃ v,e=.returned v/\(Rep eStr A w' v r/\Fr w w'):=by
 unfold zDV at c
 obtain ⟨w0,hw0,j⟩:=pf w
 rw [fw hw0]
 have hG0:GTab w0:=hw0 ▸ hG
 refine zA9 [.tmp 2] func136 ntmps136 (by decide) Z Z (nb Z) ?_
 intro R hR
 have f_v0:=h0
 replace h0:R 0=v0:=hR 0 _ Z
 refine zQU d j (eF (.rep eStr A ([]:List UInt8))::[]) ?_ ?_
 exact op (fun Q U W H D=>zA2 ⟨_,Z,⟨_,Z,Z,by decide⟩⟩)<|oz
 intro R w m n p d j
 replace h0:=k1 n h0
 replace f_v0:=f_v0.fr m
 obtain ⟨x1,q2,c⟩:=zA6 c
 obtain ⟨x3,q4,c⟩:=zA6 c
 refine zQU d j (eR v0::eF (.rep eStr A x1)::eF (.rep eStr A x3)::eF (.rep eStr A x3)::[]) ?_ ?_
 exact om h0<|op (fun Q U W H D=>zAI call162 (zIt (q2 Z) (d.fr W.size) (hG0.fr (j.trans W)) ((f_v0.fr W).eq (D.g 0 Z)) ⟨_,Z,⟨_,Z,Z,by decide⟩⟩ ⟨_,Z,⟨_,Z,Z,by decide⟩⟩))<|op (fun Q U W H D=>zAI call156 (zGD (q4 Z) (d.fr W.size) (D.g 0 Z) (zIh [] Z call163 (fun x r hr' w'' a p hA' ha=>zGF hr' hA' (zHk ha)))))<|op (fun Q U W H D=>zA2 (D.g 0 Z))<|oz
 intro R w m n p d j
 obtain ⟨u5,h2,f_u5⟩:∃ u,R 2=u/\Rep eStr A w u x3:=⟨_,Z,p 3 _ _ Z Z Z⟩
 refine HT.ret ?_
 obtain rfl:=si c
 exact ⟨.inr Z,[R 2],⟨Z,N⟩,(f_u5.eq h2),j⟩
end Go.Proofs.YtldppodfhabkjaaGreatDoor
