/- Own texts laid together. No statement of the seat is proved here. -/
import Derived.Test.YtldppodfhabkjaaGreatDoorZc3
namespace Go.Proofs.YtldppodfhabkjaaGreatDoor
open Go.RowKit
set_option linter.unusedVariables false
open _root_.Go.Proofs.Tryz
set_option maxRecDepth 100000
set_option maxHeartbeats 4000000
def zAx (fu : Nat) (p0 : List UInt8) : Nat → Int → (List Int) → Option (List Int)
 | 0,_,_=>none
 | k+1,y5,y6=>
 bif (decide (y5<(p0.length:Int))) then (
 ck (inR y5 p0.length) <|
 ck (!(true&&((decide (48≤(bAt p0 y5)))==true)) || inR y5 p0.length) <|
 bd ((decide (48≤(bAt p0 y5)))&&(decide ((bAt p0 y5)≤57))) fun x10=>
 bif x10 then (
 ck (inR y5 p0.length) <|
 ck (zBE (y6.length+([(bAt p0 y5)]:List Int).length)) <|
 ck (i64B (y5+1)) <|
 zAx fu p0 k (y5+1) (y6++([(bAt p0 y5)]:List Int))
 ) else (
 ck (i64B (y5+1)) <|
 zAx fu p0 k (y5+1) y6
 )
 ) else (
 some y6
 )
def zD6 (fu:Nat) (p0:List UInt8):Option (List UInt8):=
 cl true (zAx fu p0 fu 0 ([]:List Int)) fun s4=>
 some (strB s4)
theorem zGW {fu : Nat} {A0 : Av} {p0 : List UInt8} {r : List UInt8} (c : zD6 fu p0 = some r) {w : World} {v0 : Value} (d : AvOK A0 w) (h0 : Rep eStr A0 w v0 p0) :
 Calls prog 62 #[v0] w fun e w'=>∃ v,e = .returned v∧(Rep eStr A0 w' v r∧Fr w w'):=by
 unfold zD6 at c
 obtain ⟨w0,hw0,j,C⟩:=pw d
 have hA00:AvOK A0 w0:=C
 rw [fw hw0]
 obtain ⟨A,hAe,B,d,q⟩:=pa d
 refine zA5 [.tmp 2] func62 ntmps62 (by decide) Z Z (nb Z) ?_
 intro R hR
 have f_v0:Rep eStr A w v0 p0:=hAe ▸ h0
 replace h0:R 0=v0:=hR 0 _ Z
 refine HT.su d j (eF (.rep eStr A ([]:List UInt8))::[]) ?_ ?_
 exact op (fun Q U W H D=>zA0 ⟨_,Z,⟨_,Z,Z,by decide⟩⟩)<|oz
 intro R w m n p d j
 replace h0:=k1 n h0
 replace f_v0:=f_v0.fr m
 replace q:=q.fr m
 refine HT.sx [] (⟨_,true,[],some (.vec w0.heap.size 5 (eInt .u8) ([]:List Int)),true,fun A=>.any⟩::⟨_,true,[0],some (.vec w0.heap.size 5 (eInt .u8) ([]:List Int)),true,fun A=>.any⟩::[]) (ua (ua (UAll.nil))) q d ?_ ?_
 exact rc (OblR.made _ Z Z Z Z fun V Q U O D=>by exact zCA [] (E:=eInt .u8) N underlying43 sizeOf5 zeroValue5 Z Z Z (Nat.le_trans j.size O.ch.size))<|rc (OblR.took 0 _ _ Z Z Z Z Z fun V Q U O D u X Y J L M=>by exact zA8 (L _ _ Z Z Z Z).symm X Y)<|rz
 intro done ρ σ A R w y s
 replace h0:=k1 s.rg h0
 obtain ⟨u1,e_u1⟩:∃ u,ρ 1=u:=⟨_,Z⟩
 have h3:=s.ov y 1 1 e_u1
 replace f_v0:=f_v0.stp s.stp
 obtain ⟨B,j,d⟩:=s.s B C j q N
 replace q:=s.left y [(1,ob u1 (.vec w0.heap.size 5 (eInt .u8) ([]:List Int)))] ⟨Z,Z,e_u1,Z,Z,N⟩
 refine HT.seq ?_
 refine HT.su d j (eI 0::[]) ?_ ?_
 exact op (fun Q U W H D=>zA0 Z)<|oz
 intro R w m n p d j
 obtain ⟨h0,h3⟩:=k2 n h0 h3
 have h4:=p.r 0 Z
 replace f_v0:=f_v0.fr m
 replace q:=q.fr m
 obtain ⟨rl2,q3,c⟩:=zA4 c
 replace q3:=q3 Z
 refine HT.cut0 (fun R w=>∃ A:Av,∃ (s4:(List Int)) (uo_u1:Value),rl2=s4∧AvOK A w∧Fr w0 w∧(∀ b o,A0 b o→A b o)∧IniOK [ob uo_u1 (.vec w0.heap.size 5 (eInt .u8) s4)] A w∧R 3=uo_u1) ?_ ?_
 refine HT.block ?_
 refine HT.loop (fun k R w=>∃ A:Av,∃ (y5:Int) (y6:List Int) (ul_u1:Value),zAx fu p0 k y5 y6=some rl2∧AvOK A w∧Fr w0 w∧(∀ b o,A0 b o→A b o)∧IniOK [ob ul_u1 (.vec w0.heap.size 5 (eInt .u8) y6)] A w∧R 0=v0∧R 3=ul_u1∧R 4 = .int .i64 y5∧Rep eStr A w v0 p0) fu ⟨_,_,_,u1,q3,d,j,B,q,h0,h3,h4,f_v0⟩ ?_
 have hr0:=c;clear c q3
 rintro k R w ⟨A,y5,y6,ul_u1,c,d,j,B,q,h0,h3,h4,f_v0⟩
 rcases k with _ | k
 cases (show none=some _ from c)
 rw [zAx] at c
 refine HT.seq ?_
 refine HT.su d j (eI y5::eR v0::eI (p0.length:Int)::eB (decide (y5<(p0.length:Int)))::[]) ?_ ?_
 exact om h4<|om h0<|op (fun Q U W H D=>zAd ((f_v0.fr W).eq (D.g 0 Z)) underlying9)<|op (fun Q U W H D=>zAg (D.g 0 Z) (D.g 1 Z))<|oz
 intro R w m n p d j
 obtain ⟨h0,h3,h4⟩:=k3 n h0 h3 h4
 have h9:=p.r 3 Z
 replace f_v0:=f_v0.fr m
 replace q:=q.fr m
 refine HT.cond (decide (y5<(p0.length:Int))) h9 (fun c7=>?_) (fun c7=>?_)
 have c:=zAH c7 c
 refine HT.skip ?_
 refine HT.seq ?_
 refine HT.block ?_
 refine HT.seq ?_
 obtain ⟨e8,e9,c⟩:=ck2 c
 obtain ⟨x10,q11,c⟩:=zAW c
 refine HT.u d j (eR v0::eI y5::eU (bAt p0 y5)::eB (decide (48≤(bAt p0 y5)))::eB (decide (48≤(bAt p0 y5)))::gR (true&&((decide (48≤(bAt p0 y5)))==true)) v0::gI (true&&((decide (48≤(bAt p0 y5)))==true)) y5::gU (true&&((decide (48≤(bAt p0 y5)))==true)) (bAt p0 y5)::gB (true&&((decide (48≤(bAt p0 y5)))==true)) (decide ((bAt p0 y5)≤57))::eB x10::[]) ?_ ?_
 exact om h0<|om h4<|op (fun Q U W H D=>zAR ((f_v0.fr W).eq (D.g 0 Z)) (D.g 1 Z) underlying9 e8)<|op (fun Q U W H D=>zDj (D.g 0 Z) Z)<|ov<|gm 4 true h0<|gm 4 true h4<|og 4 true (fun G Q U W H D=>zAR ((f_v0.fr W).eq (D.h 0 G Z)) (D.h 1 G Z) underlying9 (gd e9 G))<|og 4 true (fun G Q U W H D=>zEF (D.h 0 G Z) Z)<|op (fun Q U W H D=>zAc (decide (48≤(bAt p0 y5))) (D.g 0 Z) (fun hc=>by have a1:Q 20 = .bool (decide ((bAt p0 y5)≤57)):=D 1 _ _ _ Z Z Z Z (zC5 Z (zB5 hc));show _=Value.bool x10;rw [q11,hc];exact a1) (fun hc=>by show _=Value.bool x10;rw [q11,hc];exact Z))<|oz
 intro R w m n p d j
 obtain ⟨h0,h3,h4⟩:=k3 n h0 h3 h4
 have h21:=p.r 9 Z
 replace f_v0:=f_v0.fr m
 replace q:=q.fr m
 refine HT.cond x10 h21 (fun c12=>?_) (fun c12=>?_)
 have c:=zAH c12 c
 obtain ⟨e13,e14,c⟩:=ck2 c
 refine HT.x [ob ul_u1 (.vec w0.heap.size 5 (eInt .u8) y6)] (rR ul_u1::rR v0::rI y5::rU (bAt p0 y5)::(rF fun A=>.rep (eSl (eInt .u8)) A ([(bAt p0 y5)]:List Int))::⟨_,true,[0],some (.vec w0.heap.size 5 (eInt .u8) (y6++([(bAt p0 y5)]:List Int))),true,fun A=>.any⟩::⟨_,true,[6],some (.vec w0.heap.size 5 (eInt .u8) (y6++([(bAt p0 y5)]:List Int))),true,fun A=>.any⟩::[]) (ur (ur (ur (ur (up (ua (ua (UAll.nil)))))))) q d ?_ ?_
 exact rm h3<|rm h0<|rm h4<|rp (fun V Q U O D=>zAR ((f_v0.stp O.stp).eq (D.g 0 Z)) (D.g 1 Z) underlying9 e13)<|rp (fun V Q U O D=>zAu [_] (E:=eInt .u8) ⟨(zBp.eq (D.g 0 Z)),N⟩ underlying43 sizeOf5 zeroValue5 Z Z Z O.av)<|rc (OblR.took 0 _ _ Z Z Z Z Z fun V Q U O D u X Y J L M=>by have a0:Q 22=ul_u1:=D.g 0 Z;have a1:Rep (eSl (eInt .u8)) V U (Q 26) ([(bAt p0 y5)]:List Int):=D.g 1 Z;exact zAS (a0.trans (J _ Z).symm) X Y (Nat.le_trans j.size O.ch.size) a1 underlying43 el_5 e14)<|rc (OblR.took 6 _ _ Z Z Z Z Z fun V Q U O D u X Y J L M=>by exact zA8 (L _ _ Z Z Z Z).symm X Y)<|rz
 intro done ρ σ A R w y s
 obtain ⟨h0,h4⟩:=k2 s.rg h0 h4
 obtain ⟨u15,e_u15⟩:∃ u,ρ 7=u:=⟨_,Z⟩
 have h3:=s.ov y 7 6 e_u15
 replace f_v0:=f_v0.stp s.stp
 obtain ⟨B,j,d⟩:=s.s B C j q ⟨Z,N⟩
 replace q:=s.left y [(7,ob u15 (.vec w0.heap.size 5 (eInt .u8) (y6++([(bAt p0 y5)]:List Int))))] ⟨Z,Z,e_u15,Z,Z,N⟩
 obtain ⟨e16,c⟩:=zA3 c
 refine HT.u d j (eI y5::eI (y5+1)::eI (y5+1)::[]) ?_ ?_
 exact om h4<|op (fun Q U W H D=>zAO (D.g 0 Z) Z e16)<|oa<|oz
 intro R w m n p d j
 obtain ⟨h0,h3⟩:=k2 n h0 h3
 have h4:=p.r 2 Z
 replace f_v0:=f_v0.fr m
 replace q:=q.fr m
 exact ei k (And.intro (Nat.lt_succ_self k) ⟨_,_,_,u15,c,d,j,B,q,h0,h3,h4,f_v0⟩)
 have c:=zAG c12 c
 refine HT.skip ?_
 obtain ⟨e17,c⟩:=zA3 c
 refine HT.u d j (eI y5::eI (y5+1)::eI (y5+1)::[]) ?_ ?_
 exact om h4<|op (fun Q U W H D=>zAO (D.g 0 Z) Z e17)<|oa<|oz
 intro R w m n p d j
 obtain ⟨h0,h3⟩:=k2 n h0 h3
 have h4:=p.r 2 Z
 replace f_v0:=f_v0.fr m
 replace q:=q.fr m
 exact ei k (And.intro (Nat.lt_succ_self k) ⟨_,_,_,ul_u1,c,d,j,B,q,h0,h3,h4,f_v0⟩)
 have c:=zAG c7 c
 refine HT.exit ?_
 obtain rfl:=si c
 exact ei _ ⟨_,ul_u1,Z,d,j,B,q,h3⟩
 rintro R w ⟨A,s4,uo_u1,es,d,j,B,q,h3⟩
 obtain rfl:=es.symm
 refine HT.su d j (eR uo_u1::eF (.rep eStr A (strB s4))::eF (.rep eStr A (strB s4))::[]) ?_ ?_
 exact om h3<|op (fun Q U W H D=>zBK ((zBf ((q.fr W).ok 0 _ Z).1 B C).eq (D.g 0 Z)) underlying43 underlying5 underlying9)<|op (fun Q U W H D=>zA0 (D.g 0 Z))<|oz
 intro R w m n p d j
 obtain ⟨u18,h2,f_u18⟩:∃ u,R 2=u∧Rep eStr A w u (strB s4):=⟨_,Z,p 2 _ _ Z Z Z⟩
 replace q:=q.fr m
 replace q:IniOK [] A w:=q.sub [] N
 refine HT.ret ?_
 obtain rfl:=si c
 exact ⟨.inr Z,[R 2],⟨Z,N⟩,(f_u18.eq h2).down B,j⟩
def zB3 (fu : Nat) : Nat → Int → (List UInt8) → Option (List UInt8)
 | 0,_,_=>none
 | k+1,y7,y8=>
 bif (y7 != 0) then (
 ck ((10:Int) != 0) <|
 bif (decide ((y7.tmod 10)<0)) then (
 ck (i64B (0-(y7.tmod 10))) <|
 ck (i64B (48+(0-(y7.tmod 10)))) <|
 ck (zBE ((strB ([(IntKind.u8.wrap (48+(0-(y7.tmod 10))))]:List Int))++y8).length) <|
 ck ((10:Int) != 0) <|
 ck (i64B (y7.tdiv 10)) <|
 zB3 fu k (y7.tdiv 10) ((strB ([(IntKind.u8.wrap (48+(0-(y7.tmod 10))))]:List Int))++y8)
 ) else (
 ck (i64B (48+(y7.tmod 10))) <|
 ck (zBE ((strB ([(IntKind.u8.wrap (48+(y7.tmod 10)))]:List Int))++y8).length) <|
 ck ((10:Int) != 0) <|
 ck (i64B (y7.tdiv 10)) <|
 zB3 fu k (y7.tdiv 10) ((strB ([(IntKind.u8.wrap (48+(y7.tmod 10)))]:List Int))++y8)
 )
 ) else (
 some y8
 )
def zBT (fu:Nat) (p0:Int):Option (List UInt8):=
 bif (p0==0) then (
 some ([48]:List UInt8)
 ) else (
 cl true (zB3 fu fu p0 ([]:List UInt8)) fun s6=>
 bif (decide (p0<0)) then (
 ck (zBE (([45]:List UInt8)++s6).length) <|
 some (([45]:List UInt8)++s6)
 ) else (
 some s6
 )
 )
theorem zCp {fu : Nat} {A : Av} {p0 : Int} {r : List UInt8} (c : zBT fu p0 = some r) {w : World} {v0 : Value} (d : AvOK A w) (h0 : v0 = .int .i64 p0) :
 Calls prog 65 #[v0] w fun e w'=>∃ v,e = .returned v∧(Rep eStr A w' v r∧Fr w w'):=by
 unfold zBT at c
 obtain ⟨w0,hw0,j⟩:=pf w
 rw [fw hw0]
 refine zA5 [.tmp 2] func65 ntmps65 (by decide) Z Z (nb Z) ?_
 intro R hR
 replace h0:R 0 = .int .i64 p0:=(hR 0 _ Z).trans h0
 refine HT.su d j (eF (.rep eStr A ([]:List UInt8))::[]) ?_ ?_
 exact op (fun Q U W H D=>zA0 ⟨_,Z,⟨_,Z,Z,by decide⟩⟩)<|oz
 intro R w m n p d j
 replace h0:=k1 n h0
 refine HT.seq ?_
 refine HT.su d j (eI p0::eB (p0==0)::[]) ?_ ?_
 exact om h0<|op (fun Q U W H D=>zEV (D.g 0 Z) Z)<|oz
 intro R w m n p d j
 replace h0:=k1 n h0
 have h7:=p.r 1 Z
 refine HT.cond (p0==0) h7 (fun c1=>?_) (fun c1=>?_)
 have c:=zAH c1 c
 refine HT.su d j (eF (.rep eStr A ([48]:List UInt8))::[]) ?_ ?_
 exact op (fun Q U W H D=>zA0 ⟨_,Z,⟨_,Z,Z,by decide⟩⟩)<|oz
 intro R w m n p d j
 obtain ⟨u2,h2,f_u2⟩:∃ u,R 2=u∧Rep eStr A w u ([48]:List UInt8):=⟨_,Z,p 0 _ _ Z Z Z⟩
 refine HT.ret ?_
 obtain rfl:=si c
 exact ⟨.inr Z,[R 2],⟨Z,N⟩,(f_u2.eq h2),j⟩
 have c:=zAG c1 c
 refine HT.skip ?_
 refine HT.su d j (eF (.rep eStr A ([]:List UInt8))::[]) ?_ ?_
 exact op (fun Q U W H D=>zA0 ⟨_,Z,⟨_,Z,Z,by decide⟩⟩)<|oz
 intro R w m n p d j
 replace h0:=k1 n h0
 obtain ⟨u3,h3,f_u3⟩:∃ u,R 3=u∧Rep eStr A w u ([]:List UInt8):=⟨_,Z,p 0 _ _ Z Z Z⟩
 refine HT.su d j (eI p0::eB (decide (p0<0))::eB (decide (p0<0))::[]) ?_ ?_
 exact om h0<|op (fun Q U W H D=>zAg (D.g 0 Z) Z)<|oa<|oz
 intro R w m n p d j
 obtain ⟨h0,h3⟩:=k2 n h0 h3
 have h4:=p.r 2 Z
 replace f_u3:=f_u3.fr m
 obtain ⟨rl4,q5,c⟩:=zA4 c
 replace q5:=q5 Z
 refine HT.cut (fun R w=>∃ (s6:(List UInt8)) (wo_3:Value),rl4=s6∧AvOK A w∧Fr w0 w∧R 3=wo_3∧R 4 = .bool (decide (p0<0))∧Rep eStr A w wo_3 s6) ?_ ?_
 refine HT.block ?_
 refine HT.loop (fun k R w=>∃ (y7:Int) (y8:List UInt8) (wl_3:Value),zB3 fu k y7 y8=some rl4∧AvOK A w∧Fr w0 w∧R 0 = .int .i64 y7∧R 3=wl_3∧R 4 = .bool (decide (p0<0))∧Rep eStr A w wl_3 y8) fu ⟨_,_,u3,q5,d,j,h0,h3,h4,f_u3⟩ ?_
 have hr0:=c;clear c q5
 rintro k R w ⟨y7,y8,wl_3,c,d,j,h0,h3,h4,f_wl_3⟩
 rcases k with _ | k
 cases (show none=some _ from c)
 rw [zB3] at c
 refine HT.seq ?_
 refine HT.su d j (eI y7::eB (y7 != 0)::[]) ?_ ?_
 exact om h0<|op (fun Q U W H D=>zEg (D.g 0 Z) Z)<|oz
 intro R w m n p d j
 obtain ⟨h0,h3,h4⟩:=k3 n h0 h3 h4
 have h11:=p.r 1 Z
 replace f_wl_3:=f_wl_3.fr m
 refine HT.cond (y7 != 0) h11 (fun c9=>?_) (fun c9=>?_)
 have c:=zAH c9 c
 refine HT.skip ?_
 refine HT.block ?_
 obtain ⟨e10,c⟩:=zA3 c
 refine HT.su d j (eI y7::eI (y7.tmod 10)::eI (y7.tmod 10)::[]) ?_ ?_
 exact om h0<|op (fun Q U W H D=>zNC (D.g 0 Z) Z e10)<|oa<|oz
 intro R w m n p d j
 obtain ⟨h0,h3,h4⟩:=k3 n h0 h3 h4
 have h5:=p.r 2 Z
 replace f_wl_3:=f_wl_3.fr m
 refine HT.seq ?_
 refine HT.su d j (eI (y7.tmod 10)::eB (decide ((y7.tmod 10)<0))::[]) ?_ ?_
 exact om h5<|op (fun Q U W H D=>zAg (D.g 0 Z) Z)<|oz
 intro R w m n p d j
 obtain ⟨h0,h3,h4,h5⟩:=k4 n h0 h3 h4 h5
 have h15:=p.r 1 Z
 replace f_wl_3:=f_wl_3.fr m
 refine HT.cond (decide ((y7.tmod 10)<0)) h15 (fun c11=>?_) (fun c11=>?_)
 have c:=zAH c11 c
 obtain ⟨e12,c⟩:=zA3 c
 refine HT.u d j (eI (y7.tmod 10)::eI (0-(y7.tmod 10))::eI (0-(y7.tmod 10))::[]) ?_ ?_
 exact om h5<|op (fun Q U W H D=>zNB (D.g 0 Z) e12)<|oa<|oz
 intro R w m n p d j
 obtain ⟨h0,h3,h4⟩:=k3 n h0 h3 h4
 have h5:=p.r 2 Z
 replace f_wl_3:=f_wl_3.fr m
 obtain ⟨e13,e14,c⟩:=ck2 c
 refine HT.su d j (eI (0-(y7.tmod 10))::eI (48+(0-(y7.tmod 10)))::eU (IntKind.u8.wrap (48+(0-(y7.tmod 10))))::eF (.rep (eSl (eInt .u8)) A ([(IntKind.u8.wrap (48+(0-(y7.tmod 10))))]:List Int))::eF (.rep eStr A (strB ([(IntKind.u8.wrap (48+(0-(y7.tmod 10))))]:List Int)))::eR wl_3::eF (.rep eStr A ((strB ([(IntKind.u8.wrap (48+(0-(y7.tmod 10))))]:List Int))++y8))::eF (.rep eStr A ((strB ([(IntKind.u8.wrap (48+(0-(y7.tmod 10))))]:List Int))++y8))::[]) ?_ ?_
 exact om h5<|op (fun Q U W H D=>zAO Z (D.g 0 Z) e13)<|op (fun Q U W H D=>zDg (D.g 0 Z) underlying3 underlying5)<|op (fun Q U W H D=>zAu [_] (E:=eInt .u8) ⟨(zBp.eq (D.g 0 Z)),N⟩ underlying43 sizeOf5 zeroValue5 Z Z Z (d.fr W.size))<|op (fun Q U W H D=>zBK (D.g 0 Z) underlying43 underlying5 underlying9)<|om h3<|op (fun Q U W H D=>zDy (D.g 0 Z) ((f_wl_3.fr W).eq (D.g 1 Z)) e14)<|op (fun Q U W H D=>zA0 (D.g 0 Z))<|oz
 intro R w m n p d j
 obtain ⟨h0,h4⟩:=k2 n h0 h4
 obtain ⟨u15,h3,f_u15⟩:∃ u,R 3=u∧Rep eStr A w u ((strB ([(IntKind.u8.wrap (48+(0-(y7.tmod 10))))]:List Int))++y8):=⟨_,Z,p 7 _ _ Z Z Z⟩
 obtain ⟨e16,e17,c⟩:=ck2 c
 refine HT.u d j (eI y7::eI (y7.tdiv 10)::eI (y7.tdiv 10)::[]) ?_ ?_
 exact om h0<|op (fun Q U W H D=>zM2 (D.g 0 Z) Z e16 e17)<|oa<|oz
 intro R w m n p d j
 obtain ⟨h3,h4⟩:=k2 n h3 h4
 have h0:=p.r 2 Z
 replace f_u15:=f_u15.fr m
 exact ei k (And.intro (Nat.lt_succ_self k) ⟨_,_,u15,c,d,j,h0,h3,h4,f_u15⟩)
 have c:=zAG c11 c
 refine HT.skip ?_
 obtain ⟨e18,e19,c⟩:=ck2 c
 refine HT.su d j (eI (y7.tmod 10)::eI (48+(y7.tmod 10))::eU (IntKind.u8.wrap (48+(y7.tmod 10)))::eF (.rep (eSl (eInt .u8)) A ([(IntKind.u8.wrap (48+(y7.tmod 10)))]:List Int))::eF (.rep eStr A (strB ([(IntKind.u8.wrap (48+(y7.tmod 10)))]:List Int)))::eR wl_3::eF (.rep eStr A ((strB ([(IntKind.u8.wrap (48+(y7.tmod 10)))]:List Int))++y8))::eF (.rep eStr A ((strB ([(IntKind.u8.wrap (48+(y7.tmod 10)))]:List Int))++y8))::[]) ?_ ?_
 exact om h5<|op (fun Q U W H D=>zAO Z (D.g 0 Z) e18)<|op (fun Q U W H D=>zDg (D.g 0 Z) underlying3 underlying5)<|op (fun Q U W H D=>zAu [_] (E:=eInt .u8) ⟨(zBp.eq (D.g 0 Z)),N⟩ underlying43 sizeOf5 zeroValue5 Z Z Z (d.fr W.size))<|op (fun Q U W H D=>zBK (D.g 0 Z) underlying43 underlying5 underlying9)<|om h3<|op (fun Q U W H D=>zDy (D.g 0 Z) ((f_wl_3.fr W).eq (D.g 1 Z)) e19)<|op (fun Q U W H D=>zA0 (D.g 0 Z))<|oz
 intro R w m n p d j
 obtain ⟨h0,h4⟩:=k2 n h0 h4
 obtain ⟨u20,h3,f_u20⟩:∃ u,R 3=u∧Rep eStr A w u ((strB ([(IntKind.u8.wrap (48+(y7.tmod 10)))]:List Int))++y8):=⟨_,Z,p 7 _ _ Z Z Z⟩
 obtain ⟨e21,e22,c⟩:=ck2 c
 refine HT.u d j (eI y7::eI (y7.tdiv 10)::eI (y7.tdiv 10)::[]) ?_ ?_
 exact om h0<|op (fun Q U W H D=>zM2 (D.g 0 Z) Z e21 e22)<|oa<|oz
 intro R w m n p d j
 obtain ⟨h3,h4⟩:=k2 n h3 h4
 have h0:=p.r 2 Z
 replace f_u20:=f_u20.fr m
 exact ei k (And.intro (Nat.lt_succ_self k) ⟨_,_,u20,c,d,j,h0,h3,h4,f_u20⟩)
 have c:=zAG c9 c
 refine HT.exit ?_
 obtain rfl:=si c
 exact ei _ ⟨wl_3,Z,d,j,h3,h4,f_wl_3⟩
 rintro R w ⟨s6,wo_3,es,d,j,h3,h4,f_wo_3⟩
 obtain rfl:=es.symm
 refine HT.seq ?_
 refine HT.su d j (eB (decide (p0<0))::[]) ?_ ?_
 exact om h4<|oz
 intro R w m n p d j
 replace h3:=k1 n h3
 have h27:=p.r 0 Z
 replace f_wo_3:=f_wo_3.fr m
 refine HT.cond (decide (p0<0)) h27 (fun c23=>?_) (fun c23=>?_)
 have c:=zAH c23 c
 obtain ⟨e24,c⟩:=zA3 c
 refine HT.su d j (eR wo_3::eF (.rep eStr A (([45]:List UInt8)++s6))::eF (.rep eStr A (([45]:List UInt8)++s6))::[]) ?_ ?_
 exact om h3<|op (fun Q U W H D=>zDy ⟨_,Z,⟨_,Z,Z,by decide⟩⟩ ((f_wo_3.fr W).eq (D.g 0 Z)) e24)<|op (fun Q U W H D=>zA0 (D.g 0 Z))<|oz
 intro R w m n p d j
 obtain ⟨u25,h2,f_u25⟩:∃ u,R 2=u∧Rep eStr A w u (([45]:List UInt8)++s6):=⟨_,Z,p 2 _ _ Z Z Z⟩
 refine HT.ret ?_
 obtain rfl:=si c
 exact ⟨.inr Z,[R 2],⟨Z,N⟩,(f_u25.eq h2),j⟩
 have c:=zAG c23 c
 refine HT.skip ?_
 refine HT.su d j (eR wo_3::eR wo_3::[]) ?_ ?_
 exact om h3<|oa<|oz
 intro R w m n p d j
 have h2:=p.r 1 Z
 replace f_wo_3:=f_wo_3.fr m
 refine HT.ret ?_
 obtain rfl:=si c
 exact ⟨.inr Z,[R 2],⟨Z,N⟩,(f_wo_3.eq h2),j⟩
def zAm (fu : Nat) (p0 : List UInt8) : Nat → Int → Int → Int → Option (Int × Int)
 | 0,_,_,_=>none
 | k+1,y4,y5,y6=>
 bd ((decide (y6<(p0.length:Int)))&&(decide (y6<11))) fun x7=>
 bif x7 then (
 ck (inR y6 p0.length) <|
 ck (!(true&&((decide (48≤(bAt p0 y6)))==true)) || inR y6 p0.length) <|
 bd ((decide (48≤(bAt p0 y6)))&&(decide ((bAt p0 y6)≤57))) fun x12=>
 bif x12 then (
 ck (i64B (y4*10)) <|
 ck (inR y6 p0.length) <|
 ck (i64B ((y4*10)+(IntKind.i64.wrap (IntKind.u8.wrap ((bAt p0 y6)-48))))) <|
 ck (i64B (y5+1)) <|
 ck (i64B (y6+1)) <|
 zAm fu p0 k ((y4*10)+(IntKind.i64.wrap (IntKind.u8.wrap ((bAt p0 y6)-48)))) (y5+1) (y6+1)
 ) else (
 ck (i64B (y6+1)) <|
 zAm fu p0 k y4 y5 (y6+1)
 )
 ) else (
 some (y4,y5)
 )
def zD9 (fu:Nat) (p0:List UInt8):Option (Int × Bool):=
 cl true (zAm fu p0 fu 0 0 0) fun s3=>
 ck (!(true&&((decide (0<(p0.length:Int)))==true)) || inR 0 p0.length) <|
 bd ((decide (0<(p0.length:Int)))&&((bAt p0 0)==45)) fun x22=>
 bif x22 then (
 ck (i64B (0-s3.1)) <|
 bd ((decide (9<s3.2)) || (decide (10<(p0.length:Int)))) fun x26=>
 cl (true&&(x26==false)) (zBT fu (0-s3.1)) fun x28=>
 bd (x26 || (!(x28==p0))) fun x30=>
 bif x30 then (
 some (0,false)
 ) else (
 some ((0-s3.1),true)
 )
 ) else (
 bd ((decide (9<s3.2)) || (decide (10<(p0.length:Int)))) fun x33=>
 cl (true&&(x33==false)) (zBT fu s3.1) fun x35=>
 bd (x33 || (!(x35==p0))) fun x37=>
 bif x37 then (
 some (0,false)
 ) else (
 some (s3.1,true)
 )
 )
theorem zGa {fu : Nat} {A : Av} {p0 : List UInt8} {r : Int × Bool} (c : zD9 fu p0 = some r) {w : World} {v0 : Value} (d : AvOK A w) (h0 : Rep eStr A w v0 p0) :
 Calls prog 98 #[v0] w fun e w'=>∃ v,e = .returned v∧((∃ a b,v = .tuple #[a,b]∧a = .int .i64 r.1∧b = .bool r.2)∧Fr w w'):=by
 unfold zD9 at c
 obtain ⟨w0,hw0,j⟩:=pf w
 rw [fw hw0]
 refine zA5 [.tmp 2,.tmp 3] func98 ntmps98 (by decide) Z Z (nb Z) ?_
 intro R hR
 have f_v0:=h0
 replace h0:R 0=v0:=hR 0 _ Z
 refine HT.su d j (eI 0::eB false::[]) ?_ ?_
 exact op (fun Q U W H D=>zA0 Z)<|op (fun Q U W H D=>zA0 Z)<|oz
 intro R w m n p d j
 replace h0:=k1 n h0
 replace f_v0:=f_v0.fr m
 refine HT.su d j (eI 0::[]) ?_ ?_
 exact op (fun Q U W H D=>zA0 Z)<|oz
 intro R w m n p d j
 replace h0:=k1 n h0
 have h4:=p.r 0 Z
 replace f_v0:=f_v0.fr m
 refine HT.su d j (eI 0::[]) ?_ ?_
 exact op (fun Q U W H D=>zA0 Z)<|oz
 intro R w m n p d j
 obtain ⟨h0,h4⟩:=k2 n h0 h4
 have h5:=p.r 0 Z
 replace f_v0:=f_v0.fr m
 refine HT.seq ?_
 refine HT.su d j (eI 0::[]) ?_ ?_
 exact op (fun Q U W H D=>zA0 Z)<|oz
 intro R w m n p d j
 obtain ⟨h0,h4,h5⟩:=k3 n h0 h4 h5
 have h6:=p.r 0 Z
 replace f_v0:=f_v0.fr m
 obtain ⟨rl1,q2,c⟩:=zA4 c
 replace q2:=q2 Z
 refine HT.cut0 (fun R w=>∃ (s3:Int × Int),rl1=s3∧AvOK A w∧Fr w0 w∧R 0=v0∧R 4 = .int .i64 s3.1∧R 5 = .int .i64 s3.2∧Rep eStr A w v0 p0) ?_ ?_
 refine HT.block ?_
 refine HT.loop (fun k R w=>∃ (y4:Int) (y5:Int) (y6:Int),zAm fu p0 k y4 y5 y6=some rl1∧AvOK A w∧Fr w0 w∧R 0=v0∧R 4 = .int .i64 y4∧R 5 = .int .i64 y5∧R 6 = .int .i64 y6∧Rep eStr A w v0 p0) fu ⟨_,_,_,q2,d,j,h0,h4,h5,h6,f_v0⟩ ?_
 have hr0:=c;clear c q2
 rintro k R w ⟨y4,y5,y6,c,d,j,h0,h4,h5,h6,f_v0⟩
 rcases k with _ | k
 cases (show none=some _ from c)
 rw [zAm] at c
 refine HT.seq ?_
 refine HT.seq ?_
 obtain ⟨x7,q8,c⟩:=zAW c
 refine HT.u d j (eI y6::eR v0::eI (p0.length:Int)::eB (decide (y6<(p0.length:Int)))::eB (decide (y6<(p0.length:Int)))::gI (true&&((decide (y6<(p0.length:Int)))==true)) y6::gB (true&&((decide (y6<(p0.length:Int)))==true)) (decide (y6<11))::eB x7::[]) ?_ ?_
 exact om h6<|om h0<|op (fun Q U W H D=>zAd ((f_v0.fr W).eq (D.g 0 Z)) underlying9)<|op (fun Q U W H D=>zAg (D.g 0 Z) (D.g 1 Z))<|ov<|gm 4 true h6<|og 4 true (fun G Q U W H D=>zAg (D.h 0 G Z) Z)<|op (fun Q U W H D=>zAc (decide (y6<(p0.length:Int))) (D.g 0 Z) (fun hc=>by have a1:Q 13 = .bool (decide (y6<11)):=D 1 _ _ _ Z Z Z Z (zC5 Z (zB5 hc));show _=Value.bool x7;rw [q8,hc];exact a1) (fun hc=>by show _=Value.bool x7;rw [q8,hc];exact Z))<|oz
 intro R w m n p d j
 obtain ⟨h0,h4,h5,h6⟩:=k4 n h0 h4 h5 h6
 have h14:=p.r 7 Z
 replace f_v0:=f_v0.fr m
 refine HT.cond x7 h14 (fun c9=>?_) (fun c9=>?_)
 have c:=zAH c9 c
 refine HT.skip ?_
 refine HT.seq ?_
 refine HT.block ?_
 refine HT.seq ?_
 obtain ⟨e10,e11,c⟩:=ck2 c
 obtain ⟨x12,q13,c⟩:=zAW c
 refine HT.u d j (eR v0::eI y6::eU (bAt p0 y6)::eB (decide (48≤(bAt p0 y6)))::eB (decide (48≤(bAt p0 y6)))::gR (true&&((decide (48≤(bAt p0 y6)))==true)) v0::gI (true&&((decide (48≤(bAt p0 y6)))==true)) y6::gU (true&&((decide (48≤(bAt p0 y6)))==true)) (bAt p0 y6)::gB (true&&((decide (48≤(bAt p0 y6)))==true)) (decide ((bAt p0 y6)≤57))::eB x12::[]) ?_ ?_
 exact om h0<|om h6<|op (fun Q U W H D=>zAR ((f_v0.fr W).eq (D.g 0 Z)) (D.g 1 Z) underlying9 e10)<|op (fun Q U W H D=>zDj (D.g 0 Z) Z)<|ov<|gm 4 true h0<|gm 4 true h6<|og 4 true (fun G Q U W H D=>zAR ((f_v0.fr W).eq (D.h 0 G Z)) (D.h 1 G Z) underlying9 (gd e11 G))<|og 4 true (fun G Q U W H D=>zEF (D.h 0 G Z) Z)<|op (fun Q U W H D=>zAc (decide (48≤(bAt p0 y6))) (D.g 0 Z) (fun hc=>by have a1:Q 25 = .bool (decide ((bAt p0 y6)≤57)):=D 1 _ _ _ Z Z Z Z (zC5 Z (zB5 hc));show _=Value.bool x12;rw [q13,hc];exact a1) (fun hc=>by show _=Value.bool x12;rw [q13,hc];exact Z))<|oz
 intro R w m n p d j
 obtain ⟨h0,h4,h5,h6⟩:=k4 n h0 h4 h5 h6
 have h26:=p.r 9 Z
 replace f_v0:=f_v0.fr m
 refine HT.cond x12 h26 (fun c14=>?_) (fun c14=>?_)
 have c:=zAH c14 c
 obtain ⟨e15,e16,e17,c⟩:=ck3 c
 refine HT.su d j (eI y4::eI (y4*10)::eR v0::eI y6::eU (bAt p0 y6)::eU (IntKind.u8.wrap ((bAt p0 y6)-48))::eI (IntKind.i64.wrap (IntKind.u8.wrap ((bAt p0 y6)-48)))::eI ((y4*10)+(IntKind.i64.wrap (IntKind.u8.wrap ((bAt p0 y6)-48))))::eI ((y4*10)+(IntKind.i64.wrap (IntKind.u8.wrap ((bAt p0 y6)-48))))::[]) ?_ ?_
 exact om h4<|op (fun Q U W H D=>zO2 (D.g 0 Z) Z e15)<|om h0<|om h6<|op (fun Q U W H D=>zAR ((f_v0.fr W).eq (D.g 0 Z)) (D.g 1 Z) underlying9 e16)<|op (fun Q U W H D=>zIh (D.g 0 Z) Z)<|op (fun Q U W H D=>zDg (D.g 0 Z) underlying5 underlying3)<|op (fun Q U W H D=>zAO (D.g 0 Z) (D.g 1 Z) e17)<|oa<|oz
 intro R w m n p d j
 obtain ⟨h0,h5,h6⟩:=k3 n h0 h5 h6
 have h4:=p.r 8 Z
 replace f_v0:=f_v0.fr m
 obtain ⟨e18,c⟩:=zA3 c
 refine HT.u d j (eI y5::eI (y5+1)::eI (y5+1)::[]) ?_ ?_
 exact om h5<|op (fun Q U W H D=>zAO (D.g 0 Z) Z e18)<|oa<|oz
 intro R w m n p d j
 obtain ⟨h0,h4,h6⟩:=k3 n h0 h4 h6
 have h5:=p.r 2 Z
 replace f_v0:=f_v0.fr m
 obtain ⟨e19,c⟩:=zA3 c
 refine HT.u d j (eI y6::eI (y6+1)::eI (y6+1)::[]) ?_ ?_
 exact om h6<|op (fun Q U W H D=>zAO (D.g 0 Z) Z e19)<|oa<|oz
 intro R w m n p d j
 obtain ⟨h0,h4,h5⟩:=k3 n h0 h4 h5
 have h6:=p.r 2 Z
 replace f_v0:=f_v0.fr m
 exact ei k (And.intro (Nat.lt_succ_self k) ⟨_,_,_,c,d,j,h0,h4,h5,h6,f_v0⟩)
 have c:=zAG c14 c
 refine HT.skip ?_
 obtain ⟨e20,c⟩:=zA3 c
 refine HT.u d j (eI y6::eI (y6+1)::eI (y6+1)::[]) ?_ ?_
 exact om h6<|op (fun Q U W H D=>zAO (D.g 0 Z) Z e20)<|oa<|oz
 intro R w m n p d j
 obtain ⟨h0,h4,h5⟩:=k3 n h0 h4 h5
 have h6:=p.r 2 Z
 replace f_v0:=f_v0.fr m
 exact ei k (And.intro (Nat.lt_succ_self k) ⟨_,_,_,c,d,j,h0,h4,h5,h6,f_v0⟩)
 have c:=zAG c9 c
 refine HT.exit ?_
 obtain rfl:=si c
 exact ei _ ⟨Z,d,j,h0,h4,h5,f_v0⟩
 rintro R w ⟨s3,es,d,j,h0,h4,h5,f_v0⟩
 obtain rfl:=es.symm
 refine HT.seq ?_
 refine HT.seq ?_
 obtain ⟨e21,c⟩:=zA3 c
 obtain ⟨x22,q23,c⟩:=zAW c
 refine HT.u d j (eR v0::eI (p0.length:Int)::eB (decide (0<(p0.length:Int)))::eB (decide (0<(p0.length:Int)))::gR (true&&((decide (0<(p0.length:Int)))==true)) v0::gU (true&&((decide (0<(p0.length:Int)))==true)) (bAt p0 0)::gB (true&&((decide (0<(p0.length:Int)))==true)) ((bAt p0 0)==45)::eB x22::[]) ?_ ?_
 exact om h0<|op (fun Q U W H D=>zAd ((f_v0.fr W).eq (D.g 0 Z)) underlying9)<|op (fun Q U W H D=>zDz (D.g 0 Z) Z)<|ov<|gm 3 true h0<|og 3 true (fun G Q U W H D=>zAR ((f_v0.fr W).eq (D.h 0 G Z)) Z underlying9 (gd e21 G))<|og 3 true (fun G Q U W H D=>zEV (D.h 0 G Z) Z)<|op (fun Q U W H D=>zAc (decide (0<(p0.length:Int))) (D.g 0 Z) (fun hc=>by have a1:Q 43 = .bool ((bAt p0 0)==45):=D 1 _ _ _ Z Z Z Z (zC5 Z (zB5 hc));show _=Value.bool x22;rw [q23,hc];exact a1) (fun hc=>by show _=Value.bool x22;rw [q23,hc];exact Z))<|oz
 intro R w m n p d j
 obtain ⟨h0,h4,h5⟩:=k3 n h0 h4 h5
 have h44:=p.r 7 Z
 replace f_v0:=f_v0.fr m
 refine HT.cond x22 h44 (fun c24=>?_) (fun c24=>?_)
 have c:=zAH c24 c
 obtain ⟨e25,c⟩:=zA3 c
 refine HT.u d j (eI s3.1::eI (0-s3.1)::eI (0-s3.1)::[]) ?_ ?_
 exact om h4<|op (fun Q U W H D=>zNB (D.g 0 Z) e25)<|oa<|oz
 intro R w m n p d j
 obtain ⟨h0,h5⟩:=k2 n h0 h5
 have h4:=p.r 2 Z
 replace f_v0:=f_v0.fr m
 refine HT.seq ?_
 refine HT.seq ?_
 obtain ⟨x26,q27,c⟩:=zAW c
 obtain ⟨x28,q29,c⟩:=zA4 c
 obtain ⟨x30,q31,c⟩:=zAW c
 refine HT.u d j (eI s3.2::eB (decide (9<s3.2))::eB (decide (9<s3.2))::gR (true&&((decide (9<s3.2))==false)) v0::gI (true&&((decide (9<s3.2))==false)) (p0.length:Int)::gB (true&&((decide (9<s3.2))==false)) (decide (10<(p0.length:Int)))::eB x26::eB x26::gI (true&&(x26==false)) (0-s3.1)::gF (true&&(x26==false)) (.rep eStr A x28)::gR (true&&(x26==false)) v0::gB (true&&(x26==false)) (!(x28==p0))::eB x30::[]) ?_ ?_
 exact om h5<|op (fun Q U W H D=>zDz (D.g 0 Z) Z)<|ov<|gm 2 false h0<|og 2 false (fun G Q U W H D=>zAd ((f_v0.fr W).eq (D.h 0 G Z)) underlying9)<|og 2 false (fun G Q U W H D=>zDz (D.h 0 G Z) Z)<|op (fun Q U W H D=>zAc (decide (9<s3.2)) (D.g 0 Z) (fun hc=>by show _=Value.bool x26;rw [q27,hc];exact Z) (fun hc=>by have a2:Q 52 = .bool (decide (10<(p0.length:Int))):=D 1 _ _ _ Z Z Z Z (zC5 Z (zB5 hc));show _=Value.bool x26;rw [q27,hc];exact a2))<|ov<|gm 7 false h4<|og 7 false (fun G Q U W H D=>zAC call65 (zCp (q29 G) (d.fr W.size) (D.h 0 G Z)))<|gm 7 false h0<|og 7 false (fun G Q U W H D=>zF2 (D.h 0 G Z) ((f_v0.fr W).eq (D.h 1 G Z)))<|op (fun Q U W H D=>zAc x26 (D.g 0 Z) (fun hc=>by show _=Value.bool x30;rw [q31,hc];exact Z) (fun hc=>by have a2:Q 58 = .bool (!(x28==p0)):=D 1 _ _ _ Z Z Z Z (zC5 Z (zB5 hc));show _=Value.bool x30;rw [q31,hc];exact a2))<|oz
 intro R w m n p d j
 replace h4:=k1 n h4
 have h59:=p.r 12 Z
 refine HT.cond x30 h59 (fun c32=>?_) (fun c32=>?_)
 have c:=zAH c32 c
 refine HT.su d j (eI 0::eB false::[]) ?_ ?_
 exact op (fun Q U W H D=>zA0 Z)<|op (fun Q U W H D=>zA0 Z)<|oz
 intro R w m n p d j
 have h2:=p.r 0 Z
 have h3:=p.r 1 Z
 refine HT.ret ?_
 obtain rfl:=si c
 exact ⟨.inr Z,[R 2,R 3],⟨Z,⟨Z,N⟩⟩,⟨_,_,Z,h2,h3⟩,j⟩
 have c:=zAG c32 c
 refine HT.skip ?_
 refine HT.su d j (eI (0-s3.1)::eI (0-s3.1)::eB true::[]) ?_ ?_
 exact om h4<|oa<|op (fun Q U W H D=>zA0 Z)<|oz
 intro R w m n p d j
 have h2:=p.r 1 Z
 have h3:=p.r 2 Z
 refine HT.ret ?_
 obtain rfl:=si c
 exact ⟨.inr Z,[R 2,R 3],⟨Z,⟨Z,N⟩⟩,⟨_,_,Z,h2,h3⟩,j⟩
 have c:=zAG c24 c
 refine HT.skip ?_
 refine HT.seq ?_
 refine HT.seq ?_
 obtain ⟨x33,q34,c⟩:=zAW c
 obtain ⟨x35,q36,c⟩:=zA4 c
 obtain ⟨x37,q38,c⟩:=zAW c
 refine HT.u d j (eI s3.2::eB (decide (9<s3.2))::eB (decide (9<s3.2))::gR (true&&((decide (9<s3.2))==false)) v0::gI (true&&((decide (9<s3.2))==false)) (p0.length:Int)::gB (true&&((decide (9<s3.2))==false)) (decide (10<(p0.length:Int)))::eB x33::eB x33::gI (true&&(x33==false)) s3.1::gF (true&&(x33==false)) (.rep eStr A x35)::gR (true&&(x33==false)) v0::gB (true&&(x33==false)) (!(x35==p0))::eB x37::[]) ?_ ?_
 exact om h5<|op (fun Q U W H D=>zDz (D.g 0 Z) Z)<|ov<|gm 2 false h0<|og 2 false (fun G Q U W H D=>zAd ((f_v0.fr W).eq (D.h 0 G Z)) underlying9)<|og 2 false (fun G Q U W H D=>zDz (D.h 0 G Z) Z)<|op (fun Q U W H D=>zAc (decide (9<s3.2)) (D.g 0 Z) (fun hc=>by show _=Value.bool x33;rw [q34,hc];exact Z) (fun hc=>by have a2:Q 52 = .bool (decide (10<(p0.length:Int))):=D 1 _ _ _ Z Z Z Z (zC5 Z (zB5 hc));show _=Value.bool x33;rw [q34,hc];exact a2))<|ov<|gm 7 false h4<|og 7 false (fun G Q U W H D=>zAC call65 (zCp (q36 G) (d.fr W.size) (D.h 0 G Z)))<|gm 7 false h0<|og 7 false (fun G Q U W H D=>zF2 (D.h 0 G Z) ((f_v0.fr W).eq (D.h 1 G Z)))<|op (fun Q U W H D=>zAc x33 (D.g 0 Z) (fun hc=>by show _=Value.bool x37;rw [q38,hc];exact Z) (fun hc=>by have a2:Q 58 = .bool (!(x35==p0)):=D 1 _ _ _ Z Z Z Z (zC5 Z (zB5 hc));show _=Value.bool x37;rw [q38,hc];exact a2))<|oz
 intro R w m n p d j
 replace h4:=k1 n h4
 have h59:=p.r 12 Z
 refine HT.cond x37 h59 (fun c39=>?_) (fun c39=>?_)
 have c:=zAH c39 c
 refine HT.su d j (eI 0::eB false::[]) ?_ ?_
 exact op (fun Q U W H D=>zA0 Z)<|op (fun Q U W H D=>zA0 Z)<|oz
 intro R w m n p d j
 have h2:=p.r 0 Z
 have h3:=p.r 1 Z
 refine HT.ret ?_
 obtain rfl:=si c
 exact ⟨.inr Z,[R 2,R 3],⟨Z,⟨Z,N⟩⟩,⟨_,_,Z,h2,h3⟩,j⟩
 have c:=zAG c39 c
 refine HT.skip ?_
 refine HT.su d j (eI s3.1::eI s3.1::eB true::[]) ?_ ?_
 exact om h4<|oa<|op (fun Q U W H D=>zA0 Z)<|oz
 intro R w m n p d j
 have h2:=p.r 1 Z
 have h3:=p.r 2 Z
 refine HT.ret ?_
 obtain rfl:=si c
 exact ⟨.inr Z,[R 2,R 3],⟨Z,⟨Z,N⟩⟩,⟨_,_,Z,h2,h3⟩,j⟩
def zBm (fu:Nat) (p0:List UInt8):Option Int:=
 cl true (zD9 fu p0) fun x1=>
 cl (true&&((!x1.2)==false)) (zDh fu x1.1 1000 9999) fun x3=>
 bd ((!x1.2) || (!x3)) fun x5=>
 bif x5 then (
 some 0
 ) else (
 some x1.1
 )
theorem zEa {fu : Nat} {A : Av} {p0 : List UInt8} {r : Int} (c : zBm fu p0 = some r) {w : World} {v0 : Value} (d : AvOK A w) (h0 : Rep eStr A w v0 p0) :
 Calls prog 64 #[v0] w fun e w'=>∃ v,e = .returned v∧(v = .int .i64 r∧Fr w w'):=by
 unfold zBm at c
 obtain ⟨w0,hw0,j⟩:=pf w
 rw [fw hw0]
 refine zA5 [.tmp 2] func64 ntmps64 (by decide) Z Z (nb Z) ?_
 intro R hR
 have f_v0:=h0
 replace h0:R 0=v0:=hR 0 _ Z
 refine HT.su d j (eI 0::[]) ?_ ?_
 exact op (fun Q U W H D=>zA0 Z)<|oz
 intro R w m n p d j
 replace h0:=k1 n h0
 replace f_v0:=f_v0.fr m
 obtain ⟨x1,q2,c⟩:=zA4 c
 refine HT.su d j (eR v0::eF (.tup2 (.raw (.int .i64 x1.1)) (.raw (.bool x1.2)))::eF (.tup2 (.raw (.int .i64 x1.1)) (.raw (.bool x1.2)))::eI x1.1::eB x1.2::eI x1.1::eB x1.2::[]) ?_ ?_
 exact om h0<|op (fun Q U W H D=>zAC call98 (zGa (q2 Z) (d.fr W.size) ((f_v0.fr W).eq (D.g 0 Z))))<|op (fun Q U W H D=>zC1 (D.g 0 Z))<|op (fun Q U W H D=>zF1 (D.g 0 Z))<|op (fun Q U W H D=>zEz (D.g 0 Z))<|oa<|oa<|oz
 intro R w m n p d j
 have h3:=p.r 5 Z
 have h4:=p.r 6 Z
 refine HT.seq ?_
 refine HT.seq ?_
 obtain ⟨x3,q4,c⟩:=zA4 c
 obtain ⟨x5,q6,c⟩:=zAW c
 refine HT.u d j (eB x1.2::eB (!x1.2)::eB (!x1.2)::gI (true&&((!x1.2)==false)) x1.1::gB (true&&((!x1.2)==false)) x3::gB (true&&((!x1.2)==false)) (!x3)::eB x5::[]) ?_ ?_
 exact om h4<|op (fun Q U W H D=>zCk (D.g 0 Z))<|ov<|gm 2 false h3<|og 2 false (fun G Q U W H D=>zAC call94 (zEB (q4 G) (d.fr W.size) (D.h 0 G Z) Z Z))<|og 2 false (fun G Q U W H D=>zCk (D.h 0 G Z))<|op (fun Q U W H D=>zAc (!x1.2) (D.g 0 Z) (fun hc=>by show _=Value.bool x5;rw [q6,hc];exact Z) (fun hc=>by have a2:Q 15 = .bool (!x3):=D 1 _ _ _ Z Z Z Z (zC5 Z (zB5 hc));show _=Value.bool x5;rw [q6,hc];exact a2))<|oz
 intro R w m n p d j
 replace h3:=k1 n h3
 have h16:=p.r 6 Z
 refine HT.cond x5 h16 (fun c7=>?_) (fun c7=>?_)
 have c:=zAH c7 c
 refine HT.su d j (eI 0::[]) ?_ ?_
 exact op (fun Q U W H D=>zA0 Z)<|oz
 intro R w m n p d j
 have h2:=p.r 0 Z
 refine HT.ret ?_
 obtain rfl:=si c
 exact ⟨.inr Z,[R 2],⟨Z,N⟩,h2,j⟩
 have c:=zAG c7 c
 refine HT.skip ?_
 refine HT.su d j (eI x1.1::eI x1.1::[]) ?_ ?_
 exact om h3<|oa<|oz
 intro R w m n p d j
 have h2:=p.r 1 Z
 refine HT.ret ?_
 obtain rfl:=si c
 exact ⟨.inr Z,[R 2],⟨Z,N⟩,h2,j⟩
def zBY (fu : Nat) (x8 : List (List UInt8)) : Nat → Int → (List (List UInt8)) → Option (List (List UInt8))
 | 0,_,_=>none
 | k+1,y14,y15=>
 bif (decide (y14<(x8.length:Int))) then (
 ck (inR y14 x8.length) <|
 ck (zBE (([115]:List UInt8)++(gtD x8 y14)).length) <|
 cl true (zBk fu y15 (([115]:List UInt8)++(gtD x8 y14)) false) fun x19=>
 ck (i64B (y14+1)) <|
 zBY fu x8 k (y14+1) x19
 ) else (
 some y15
 )
def zB4 (fu : Nat) (x37 : List (List UInt8)) (x41 : Int) : Nat → Int → (List (List UInt8)) → Option (List (List UInt8))
 | 0,_,_=>none
 | k+1,y46,y47=>
 bd ((decide (y46<(x37.length:Int)))&&(decide (0<x41))) fun x48=>
 bif x48 then (
 cl true (zBT fu x41) fun x51=>
 ck (zBE (([121]:List UInt8)++x51).length) <|
 ck (inR y46 x37.length) <|
 ck (subR 0 1 (gtD x37 y46).length) <|
 ck (zBE ((([121]:List UInt8)++x51)++(subL (gtD x37 y46) 0 1)).length) <|
 cl true (zBk fu y47 ((([121]:List UInt8)++x51)++(subL (gtD x37 y46) 0 1)) false) fun x57=>
 ck (i64B (y46+1)) <|
 zB4 fu x37 x41 k (y46+1) x57
 ) else (
 some y47
 )
def zB1 (fu : Nat) (x62 : List (List UInt8)) (x66 : Int) : Nat → Int → (List (List UInt8)) → Option (List (List UInt8))
 | 0,_,_=>none
 | k+1,y71,y72=>
 bd ((decide (y71<(x62.length:Int)))&&(decide (0<x66))) fun x73=>
 bif x73 then (
 cl true (zBT fu x66) fun x76=>
 ck (zBE (([121]:List UInt8)++x76).length) <|
 ck (inR y71 x62.length) <|
 ck (subR 0 1 (gtD x62 y71).length) <|
 ck (zBE ((([121]:List UInt8)++x76)++(subL (gtD x62 y71) 0 1)).length) <|
 cl true (zBk fu y72 ((([121]:List UInt8)++x76)++(subL (gtD x62 y71) 0 1)) false) fun x82=>
 ck (i64B (y71+1)) <|
 zB1 fu x62 x66 k (y71+1) x82
 ) else (
 some y72
 )
def zBU (fu:Nat) (p0:zA2):Option (List (List UInt8)):=
 cl true (zBj fu p0) fun x4=>
 bif (!x4) then (
 some ([]:List (List UInt8))
 ) else (
 ck (inR 0 p0.2.2.2.length) <|
 cl true (zCT fu (gtD p0.2.2.2 0)) fun x8=>
 cl true (zBY fu x8 fu 0 ([]:List (List UInt8))) fun s13=>
 ck (inR 3 p0.2.2.2.length) <|
 cl true (zD6 fu (gtD p0.2.2.2 3)) fun x25=>
 bif (decide (4≤(x25.length:Int))) then (
 ck (i64B ((x25.length:Int)-4)) <|
 ck (subR ((x25.length:Int)-4) (x25.length:Int) x25.length) <|
 ck (zBE (([112]:List UInt8)++(subL x25 ((x25.length:Int)-4) (x25.length:Int))).length) <|
 cl true (zBk fu s13 (([112]:List UInt8)++(subL x25 ((x25.length:Int)-4) (x25.length:Int))) false) fun x32=>
 ck (inR 0 p0.2.2.2.length) <|
 cl true (zCY fu (gtD p0.2.2.2 0)) fun x37=>
 ck (inR 2 p0.2.2.2.length) <|
 cl true (zBm fu (gtD p0.2.2.2 2)) fun x41=>
 cl true (zB4 fu x37 x41 fu 0 x32) fun s45=>
 some s45
 ) else (
 ck (inR 0 p0.2.2.2.length) <|
 cl true (zCY fu (gtD p0.2.2.2 0)) fun x62=>
 ck (inR 2 p0.2.2.2.length) <|
 cl true (zBm fu (gtD p0.2.2.2 2)) fun x66=>
 cl true (zB1 fu x62 x66 fu 0 s13) fun s70=>
 some s70
 )
 )
theorem zGA {fu : Nat} {A0 : Av} {p0 : zA2} {r : List (List UInt8)} (c : zBU fu p0 = some r) {w : World} {v0 : Value} (d : AvOK A0 w) (h0 : Rep zA1 A0 w v0 p0) :
 Calls prog 37 #[v0] w fun e w'=>∃ v,e = .returned v∧((Res.vec w.heap.size 9 eStr r).ok (addA A0 v) v w'∧Fr w w'):=by
 unfold zBU at c
 obtain ⟨w0,hw0,j,C⟩:=pw d
 have hA00:AvOK A0 w0:=C
 rw [fh hw0]
 rw [fw hw0]
 obtain ⟨A,hAe,B,d,q⟩:=pa d
 refine zA5 [.tmp 2] func37 ntmps37 (by decide) Z Z (nb Z) ?_
 intro R hR
 have f_v0:Rep zA1 A w v0 p0:=hAe ▸ h0
 replace h0:R 0=v0:=hR 0 _ Z
 refine HT.sx [] (⟨_,true,[],some (.box w0.heap.size 51 zA1 p0),true,fun A=>.any⟩::rA::[]) (ua (ua (UAll.nil))) q d ?_ ?_
 exact rc (OblR.made _ Z Z Z Z fun V Q U O D=>by have a0:Q 0=v0:=(O.old 0 Z).trans h0;have ra0:=(f_v0.stp O.stp).eq a0;exact zEO ra0 (Nat.le_trans j.size O.ch.size))<|rp (fun V Q U O D=>zA0 N)<|rz
 intro done ρ σ A R w y s
 obtain ⟨b1_0,e_b1_0⟩:=s.boxv y 0 Z Z
 have h1:=s.ov y 0 0 e_b1_0
 obtain ⟨B,j,d⟩:=s.s B C j q N
 replace q:=s.left y [(0,ob (.pointer (some ⟨b1_0,0,none⟩)) (.box w0.heap.size 51 zA1 p0))] ⟨Z,Z,e_b1_0,Z,Z,N⟩
 refine HT.sx [ob (.pointer (some ⟨b1_0,0,none⟩)) (.box w0.heap.size 51 zA1 p0)] (⟨_,true,[],some (.vec w0.heap.size 9 eStr ([]:List (List UInt8))),true,fun A=>.any⟩::⟨_,true,[1],some (.vec w0.heap.size 9 eStr ([]:List (List UInt8))),true,fun A=>.any⟩::[]) (ua (ua (UAll.nil))) q d ?_ ?_
 exact rc (OblR.made _ Z Z Z Z fun V Q U O D=>by exact zCA [] (E:=eStr) N underlying34 sizeOf9 zeroValue9 Z Z Z (Nat.le_trans j.size O.ch.size))<|rc (OblR.took 1 _ _ Z Z Z Z Z fun V Q U O D u X Y J L M=>by exact zA8 (L _ _ Z Z Z Z).symm X Y)<|rz
 intro done ρ σ A R w y s
 replace h1:=k1 s.rg h1
 have z2:=s.inivR 0 Z
 obtain ⟨u3,e_u3⟩:∃ u,ρ 2=u:=⟨_,Z⟩
 have h3:=s.ov y 2 1 e_u3
 obtain ⟨B,j,d⟩:=s.s B C j q ⟨Z,N⟩
 replace q:=s.left y [(0,ob (.pointer (some ⟨b1_0,0,none⟩)) (.box w0.heap.size 51 zA1 p0)),(2,ob u3 (.vec w0.heap.size 9 eStr ([]:List (List UInt8))))] ⟨Z,Z,z2,Z,Z,⟨Z,Z,e_u3,Z,Z,N⟩⟩
 refine HT.seq ?_
 obtain ⟨x4,q5,c⟩:=zA4 c
 refine HT.su d j (eF (.rep zA1 A p0)::eB x4::eB (!x4)::[]) ?_ ?_
 exact op (fun Q U W H D=>(zAE ((q.fr W).ok 0 _ Z).1 ((H 1 Z).trans h1) (Fld.id _) Z isAgg51 sizeOf51))<|op (fun Q U W H D=>zAC call59 (zDs (q5 Z) (d.fr W.size) (D.g 0 Z)))<|op (fun Q U W H D=>zCk (D.g 0 Z))<|oz
 intro R w m n p d j
 obtain ⟨h1,h3⟩:=k2 n h1 h3
 have h13:=p.r 2 Z
 replace q:=q.fr m
 refine HT.cond (!x4) h13 (fun c6=>?_) (fun c6=>?_)
 have c:=zAH c6 c
 refine HT.su d j (eR u3::eR u3::[]) ?_ ?_
 exact om h3<|oa<|oz
 intro R w m n p d j
 have h2:=p.r 1 Z
 replace q:=q.fr m
 replace q:IniOK [ob u3 (.vec w0.heap.size 9 eStr ([]:List (List UInt8)))] A w:=q.sub [(1,ob u3 (.vec w0.heap.size 9 eStr ([]:List (List UInt8))))] ⟨Z,Z,N⟩
 refine HT.ret ?_
 obtain rfl:=si c
 exact ⟨.inr Z,[R 2],⟨Z,N⟩,(zBu (q.ok 0 _ Z) B h2),j⟩
 have c:=zAG c6 c
 refine HT.skip ?_
 obtain ⟨e7,c⟩:=zA3 c
 obtain ⟨x8,q9,c⟩:=zA4 c
 refine HT.su d j (eR (.pointer (some ⟨b1_0,3,none⟩))::eF (.rep (eSl eStr) A p0.2.2.2)::eF (.qtr eStr A (gtD p0.2.2.2 0))::eF (.rep eStr A (gtD p0.2.2.2 0))::eF (.rep (eSl eStr) A x8)::eF (.rep (eSl eStr) A x8)::[]) ?_ ?_
 exact op (fun Q U W H D=>zA7 ((H 1 Z).trans h1) zCb sizeOf34 (by decide) Z)<|op (fun Q U W H D=>(zAE ((q.fr W).ok 0 _ Z).1 (D.g 0 Z) zAK Z isAgg34 sizeOf34))<|op (fun Q U W H D=>zAB (D.g 0 Z) Z underlying34 sizeOf9 e7)<|op (fun Q U W H D=>(zAf (QRep.ptr (D.g 0 Z)) isAgg9 sizeOf9))<|op (fun Q U W H D=>zAC call61 (zFq (q9 Z) (d.fr W.size) (D.g 0 Z)))<|op (fun Q U W H D=>zA0 (D.g 0 Z))<|oz
 intro R w m n p d j
 obtain ⟨h1,h3⟩:=k2 n h1 h3
 obtain ⟨u10,h4,f_u10⟩:∃ u,R 4=u∧Rep (eSl eStr) A w u x8:=⟨_,Z,p 5 _ _ Z Z Z⟩
 replace q:=q.fr m
 refine HT.seq ?_
 refine HT.su d j (eI 0::[]) ?_ ?_
 exact op (fun Q U W H D=>zA0 Z)<|oz
 intro R w m n p d j
 obtain ⟨h1,h3,h4⟩:=k3 n h1 h3 h4
 have h5:=p.r 0 Z
 replace f_u10:=f_u10.fr m
 replace q:=q.fr m
 obtain ⟨rl11,q12,c⟩:=zA4 c
 replace q12:=q12 Z
 refine HT.cut0 (fun R w=>∃ A:Av,∃ (s13:(List (List UInt8))) (uo_u3:Value),rl11=s13∧AvOK A w∧Fr w0 w∧(∀ b o,A0 b o→A b o)∧IniOK [ob (.pointer (some ⟨b1_0,0,none⟩)) (.box w0.heap.size 51 zA1 p0),ob uo_u3 (.vec w0.heap.size 9 eStr s13)] A w∧R 1=(.pointer (some ⟨b1_0,0,none⟩))∧R 3=uo_u3) ?_ ?_
 refine HT.block ?_
 refine HT.loop (fun k R w=>∃ A:Av,∃ (y14:Int) (y15:List (List UInt8)) (ul_u3:Value),zBY fu x8 k y14 y15=some rl11∧AvOK A w∧Fr w0 w∧(∀ b o,A0 b o→A b o)∧IniOK [ob (.pointer (some ⟨b1_0,0,none⟩)) (.box w0.heap.size 51 zA1 p0),ob ul_u3 (.vec w0.heap.size 9 eStr y15)] A w∧R 1=(.pointer (some ⟨b1_0,0,none⟩))∧R 3=ul_u3∧R 4=u10∧R 5 = .int .i64 y14∧Rep (eSl eStr) A w u10 x8) fu ⟨_,_,_,u3,q12,d,j,B,q,h1,h3,h4,h5,f_u10⟩ ?_
 have hr0:=c;clear c q12
 rintro k R w ⟨A,y14,y15,ul_u3,c,d,j,B,q,h1,h3,h4,h5,f_u10⟩
 rcases k with _ | k
 cases (show none=some _ from c)
 rw [zBY] at c
 refine HT.seq ?_
 refine HT.su d j (eI y14::eR u10::eI (x8.length:Int)::eB (decide (y14<(x8.length:Int)))::[]) ?_ ?_
 exact om h5<|om h4<|op (fun Q U W H D=>zAL (aT:=#[]) ((f_u10.fr W).eq (D.g 0 Z)) underlying34)<|op (fun Q U W H D=>zAg (D.g 0 Z) (D.g 1 Z))<|oz
 intro R w m n p d j
 obtain ⟨h1,h3,h4,h5⟩:=k4 n h1 h3 h4 h5
 have h23:=p.r 3 Z
 replace f_u10:=f_u10.fr m
 replace q:=q.fr m
 refine HT.cond (decide (y14<(x8.length:Int))) h23 (fun c16=>?_) (fun c16=>?_)
 have c:=zAH c16 c
 refine HT.skip ?_
 refine HT.seq ?_
 refine HT.block ?_
 obtain ⟨e17,e18,c⟩:=ck2 c
 obtain ⟨x19,q20,c⟩:=zA4 c
 refine HT.x [ob (.pointer (some ⟨b1_0,0,none⟩)) (.box w0.heap.size 51 zA1 p0),ob ul_u3 (.vec w0.heap.size 9 eStr y15)] (rR ul_u3::rR u10::rI y14::(rF fun A=>.qtr eStr A (gtD x8 y14))::(rF fun A=>.rep eStr A (gtD x8 y14))::(rF fun A=>.rep eStr A (([115]:List UInt8)++(gtD x8 y14)))::⟨_,true,[1],some (.vec w0.heap.size 9 eStr x19),true,fun A=>.any⟩::⟨_,true,[8],some (.vec w0.heap.size 9 eStr x19),true,fun A=>.any⟩::[]) (ur (ur (ur (UAll.cons zEA (up (up (ua (ua (UAll.nil))))))))) q d ?_ ?_
 exact rm h3<|rm h4<|rm h5<|rp (fun V Q U O D=>zAB ((f_u10.stp O.stp).eq (D.g 0 Z)) (D.g 1 Z) underlying34 sizeOf9 e17)<|rp (fun V Q U O D=>(zAf (QRep.ptr (D.g 0 Z)) isAgg9 sizeOf9))<|rp (fun V Q U O D=>zDy ⟨_,Z,⟨_,Z,Z,by decide⟩⟩ (D.g 0 Z) e18)<|rc (OblR.took 1 _ _ Z Z Z Z Z fun V Q U O D u X Y J L M=>by have a0:Q 26=ul_u3:=D.g 0 Z;have a1:Rep eStr V U (Q 31) (([115]:List UInt8)++(gtD x8 y14)):=D.g 1 Z;have hu0:zA9 Q (.tmp 26)=u:=a0.trans (J _ Z).symm;exact zDJ call60 Y (by simp only [List.map,hu0];exact zBz (q20 Z) (O.av.sub _) (fun b o h=>h.2) (Nat.le_trans j.size O.ch.size) (Vec.flat X (fun _ _ _ _ _ h=>h)) (a1.less fun b o h=>h.1) Z))<|rc (OblR.took 8 _ _ Z Z Z Z Z fun V Q U O D u X Y J L M=>by exact zA8 (L _ _ Z Z Z Z).symm X Y)<|rz
 intro done ρ σ A R w y s
 obtain ⟨h1,h4,h5⟩:=k3 s.rg h1 h4 h5
 have z21:=s.inivR 0 Z
 obtain ⟨u22,e_u22⟩:∃ u,ρ 9=u:=⟨_,Z⟩
 have h3:=s.ov y 9 7 e_u22
 replace f_u10:=f_u10.stp s.stp
 obtain ⟨B,j,d⟩:=s.s B C j q ⟨Z,⟨Z,N⟩⟩
 replace q:=s.left y [(0,ob (.pointer (some ⟨b1_0,0,none⟩)) (.box w0.heap.size 51 zA1 p0)),(9,ob u22 (.vec w0.heap.size 9 eStr x19))] ⟨Z,Z,z21,Z,Z,⟨Z,Z,e_u22,Z,Z,N⟩⟩
 obtain ⟨e23,c⟩:=zA3 c
 refine HT.u d j (eI y14::eI (y14+1)::eI (y14+1)::[]) ?_ ?_
 exact om h5<|op (fun Q U W H D=>zAO (D.g 0 Z) Z e23)<|oa<|oz
 intro R w m n p d j
 obtain ⟨h1,h3,h4⟩:=k3 n h1 h3 h4
 have h5:=p.r 2 Z
 replace f_u10:=f_u10.fr m
 replace q:=q.fr m
 exact ei k (And.intro (Nat.lt_succ_self k) ⟨_,_,_,u22,c,d,j,B,q,h1,h3,h4,h5,f_u10⟩)
 have c:=zAG c16 c
 refine HT.exit ?_
 obtain rfl:=si c
 exact ei _ ⟨_,ul_u3,Z,d,j,B,q,h1,h3⟩
 rintro R w ⟨A,s13,uo_u3,es,d,j,B,q,h1,h3⟩
 obtain rfl:=es.symm
 obtain ⟨e24,c⟩:=zA3 c
 obtain ⟨x25,q26,c⟩:=zA4 c
 refine HT.su d j (eR (.pointer (some ⟨b1_0,3,none⟩))::eF (.rep (eSl eStr) A p0.2.2.2)::eF (.qtr eStr A (gtD p0.2.2.2 3))::eF (.rep eStr A (gtD p0.2.2.2 3))::eF (.rep eStr A x25)::eF (.rep eStr A x25)::[]) ?_ ?_
 exact op (fun Q U W H D=>zA7 ((H 1 Z).trans h1) zCb sizeOf34 (by decide) Z)<|op (fun Q U W H D=>(zAE ((q.fr W).ok 0 _ Z).1 (D.g 0 Z) zAK Z isAgg34 sizeOf34))<|op (fun Q U W H D=>zAB (D.g 0 Z) Z underlying34 sizeOf9 e24)<|op (fun Q U W H D=>(zAf (QRep.ptr (D.g 0 Z)) isAgg9 sizeOf9))<|op (fun Q U W H D=>zAC call62 (zGW (q26 Z) (d.fr W.size) (D.g 0 Z)))<|op (fun Q U W H D=>zA0 (D.g 0 Z))<|oz
 intro R w m n p d j
 obtain ⟨h1,h3⟩:=k2 n h1 h3
 obtain ⟨u27,h6,f_u27⟩:∃ u,R 6=u∧Rep eStr A w u x25:=⟨_,Z,p 5 _ _ Z Z Z⟩
 replace q:=q.fr m
 refine HT.seq ?_
 refine HT.su d j (eR u27::eI (x25.length:Int)::eB (decide (4≤(x25.length:Int)))::[]) ?_ ?_
 exact om h6<|op (fun Q U W H D=>zAd ((f_u27.fr W).eq (D.g 0 Z)) underlying9)<|op (fun Q U W H D=>zDj (D.g 0 Z) Z)<|oz
 intro R w m n p d j
 obtain ⟨h1,h3,h6⟩:=k3 n h1 h3 h6
 have h40:=p.r 2 Z
 replace f_u27:=f_u27.fr m
 replace q:=q.fr m
 refine HT.cond (decide (4≤(x25.length:Int))) h40 (fun c28=>?_) (fun c28=>?_)
 have c:=zAH c28 c
 obtain ⟨e29,e30,e31,c⟩:=ck3 c
 obtain ⟨x32,q33,c⟩:=zA4 c
 refine HT.x [ob (.pointer (some ⟨b1_0,0,none⟩)) (.box w0.heap.size 51 zA1 p0),ob uo_u3 (.vec w0.heap.size 9 eStr s13)] (rR uo_u3::rR u27::rR u27::rI (x25.length:Int)::rI ((x25.length:Int)-4)::(rF fun A=>.rep eStr A (subL x25 ((x25.length:Int)-4) (x25.length:Int)))::(rF fun A=>.rep eStr A (([112]:List UInt8)++(subL x25 ((x25.length:Int)-4) (x25.length:Int))))::⟨_,true,[1],some (.vec w0.heap.size 9 eStr x32),true,fun A=>.any⟩::⟨_,true,[9],some (.vec w0.heap.size 9 eStr x32),true,fun A=>.any⟩::[]) (ur (ur (ur (ur (ur (up (up (ua (ua (UAll.nil)))))))))) q d ?_ ?_
 exact rm h3<|rm h6<|rm h6<|rp (fun V Q U O D=>zAd ((f_u27.stp O.stp).eq (D.g 0 Z)) underlying9)<|rp (fun V Q U O D=>zFR (D.g 0 Z) Z e29)<|rp (fun V Q U O D=>zDn ((f_u27.stp O.stp).eq (D.g 0 Z)) (D.g 1 Z) underlying9  e30)<|rp (fun V Q U O D=>zDy ⟨_,Z,⟨_,Z,Z,by decide⟩⟩ (D.g 0 Z) e31)<|rc (OblR.took 1 _ _ Z Z Z Z Z fun V Q U O D u X Y J L M=>by have a0:Q 41=uo_u3:=D.g 0 Z;have a1:Rep eStr V U (Q 47) (([112]:List UInt8)++(subL x25 ((x25.length:Int)-4) (x25.length:Int))):=D.g 1 Z;have hu0:zA9 Q (.tmp 41)=u:=a0.trans (J _ Z).symm;exact zDJ call60 Y (by simp only [List.map,hu0];exact zBz (q33 Z) (O.av.sub _) (fun b o h=>h.2) (Nat.le_trans j.size O.ch.size) (Vec.flat X (fun _ _ _ _ _ h=>h)) (a1.less fun b o h=>h.1) Z))<|rc (OblR.took 9 _ _ Z Z Z Z Z fun V Q U O D u X Y J L M=>by exact zA8 (L _ _ Z Z Z Z).symm X Y)<|rz
 intro done ρ σ A R w y s
 replace h1:=k1 s.rg h1
 have z34:=s.inivR 0 Z
 obtain ⟨u35,e_u35⟩:∃ u,ρ 10=u:=⟨_,Z⟩
 have h3:=s.ov y 10 8 e_u35
 obtain ⟨B,j,d⟩:=s.s B C j q ⟨Z,⟨Z,N⟩⟩
 replace q:=s.left y [(0,ob (.pointer (some ⟨b1_0,0,none⟩)) (.box w0.heap.size 51 zA1 p0)),(10,ob u35 (.vec w0.heap.size 9 eStr x32))] ⟨Z,Z,z34,Z,Z,⟨Z,Z,e_u35,Z,Z,N⟩⟩
 obtain ⟨e36,c⟩:=zA3 c
 obtain ⟨x37,q38,c⟩:=zA4 c
 refine HT.su d j (eR (.pointer (some ⟨b1_0,3,none⟩))::eF (.rep (eSl eStr) A p0.2.2.2)::eF (.qtr eStr A (gtD p0.2.2.2 0))::eF (.rep eStr A (gtD p0.2.2.2 0))::eF (.rep (eSl eStr) A x37)::eF (.rep (eSl eStr) A x37)::[]) ?_ ?_
 exact op (fun Q U W H D=>zA7 ((H 1 Z).trans h1) zCb sizeOf34 (by decide) Z)<|op (fun Q U W H D=>(zAE ((q.fr W).ok 0 _ Z).1 (D.g 0 Z) zAK Z isAgg34 sizeOf34))<|op (fun Q U W H D=>zAB (D.g 0 Z) Z underlying34 sizeOf9 e36)<|op (fun Q U W H D=>(zAf (QRep.ptr (D.g 0 Z)) isAgg9 sizeOf9))<|op (fun Q U W H D=>zAC call63 (zE2 (q38 Z) (d.fr W.size) (D.g 0 Z)))<|op (fun Q U W H D=>zA0 (D.g 0 Z))<|oz
 intro R w m n p d j
 obtain ⟨h1,h3⟩:=k2 n h1 h3
 obtain ⟨u39,h7,f_u39⟩:∃ u,R 7=u∧Rep (eSl eStr) A w u x37:=⟨_,Z,p 5 _ _ Z Z Z⟩
 replace q:=q.fr m
 obtain ⟨e40,c⟩:=zA3 c
 obtain ⟨x41,q42,c⟩:=zA4 c
 refine HT.su d j (eR (.pointer (some ⟨b1_0,3,none⟩))::eF (.rep (eSl eStr) A p0.2.2.2)::eF (.qtr eStr A (gtD p0.2.2.2 2))::eF (.rep eStr A (gtD p0.2.2.2 2))::eI x41::eI x41::[]) ?_ ?_
 exact op (fun Q U W H D=>zA7 ((H 1 Z).trans h1) zCb sizeOf34 (by decide) Z)<|op (fun Q U W H D=>(zAE ((q.fr W).ok 0 _ Z).1 (D.g 0 Z) zAK Z isAgg34 sizeOf34))<|op (fun Q U W H D=>zAB (D.g 0 Z) Z underlying34 sizeOf9 e40)<|op (fun Q U W H D=>(zAf (QRep.ptr (D.g 0 Z)) isAgg9 sizeOf9))<|op (fun Q U W H D=>zAC call64 (zEa (q42 Z) (d.fr W.size) (D.g 0 Z)))<|oa<|oz
 intro R w m n p d j
 obtain ⟨h3,h7⟩:=k2 n h3 h7
 have h8:=p.r 5 Z
 replace f_u39:=f_u39.fr m
 replace q:=q.fr m
 replace q:IniOK [ob u35 (.vec w0.heap.size 9 eStr x32)] A w:=q.sub [(1,ob u35 (.vec w0.heap.size 9 eStr x32))] ⟨Z,Z,N⟩
 refine HT.seq ?_
 refine HT.su d j (eI 0::[]) ?_ ?_
 exact op (fun Q U W H D=>zA0 Z)<|oz
 intro R w m n p d j
 obtain ⟨h3,h7,h8⟩:=k3 n h3 h7 h8
 have h9:=p.r 0 Z
 replace f_u39:=f_u39.fr m
 replace q:=q.fr m
 obtain ⟨rl43,q44,c⟩:=zA4 c
 replace q44:=q44 Z
 refine HT.cut0 (fun R w=>∃ A:Av,∃ (s45:(List (List UInt8))) (uo_u35:Value),rl43=s45∧AvOK A w∧Fr w0 w∧(∀ b o,A0 b o→A b o)∧IniOK [ob uo_u35 (.vec w0.heap.size 9 eStr s45)] A w∧R 3=uo_u35) ?_ ?_
 refine HT.block ?_
 refine HT.loop (fun k R w=>∃ A:Av,∃ (y46:Int) (y47:List (List UInt8)) (ul_u35:Value),zB4 fu x37 x41 k y46 y47=some rl43∧AvOK A w∧Fr w0 w∧(∀ b o,A0 b o→A b o)∧IniOK [ob ul_u35 (.vec w0.heap.size 9 eStr y47)] A w∧R 3=ul_u35∧R 7=u39∧R 8 = .int .i64 x41∧R 9 = .int .i64 y46∧Rep (eSl eStr) A w u39 x37) fu ⟨_,_,_,u35,q44,d,j,B,q,h3,h7,h8,h9,f_u39⟩ ?_
 have hr0:=c;clear c q44
 rintro k R w ⟨A,y46,y47,ul_u35,c,d,j,B,q,h3,h7,h8,h9,f_u39⟩
 rcases k with _ | k
 cases (show none=some _ from c)
 rw [zB4] at c
 refine HT.seq ?_
 refine HT.seq ?_
 obtain ⟨x48,q49,c⟩:=zAW c
 refine HT.u d j (eI y46::eR u39::eI (x37.length:Int)::eB (decide (y46<(x37.length:Int)))::eB (decide (y46<(x37.length:Int)))::gI (true&&((decide (y46<(x37.length:Int)))==true)) x41::gB (true&&((decide (y46<(x37.length:Int)))==true)) (decide (0<x41))::eB x48::[]) ?_ ?_
 exact om h9<|om h7<|op (fun Q U W H D=>zAL (aT:=#[]) ((f_u39.fr W).eq (D.g 0 Z)) underlying34)<|op (fun Q U W H D=>zAg (D.g 0 Z) (D.g 1 Z))<|ov<|gm 4 true h8<|og 4 true (fun G Q U W H D=>zDz (D.h 0 G Z) Z)<|op (fun Q U W H D=>zAc (decide (y46<(x37.length:Int))) (D.g 0 Z) (fun hc=>by have a1:Q 65 = .bool (decide (0<x41)):=D 1 _ _ _ Z Z Z Z (zC5 Z (zB5 hc));show _=Value.bool x48;rw [q49,hc];exact a1) (fun hc=>by show _=Value.bool x48;rw [q49,hc];exact Z))<|oz
 intro R w m n p d j
 obtain ⟨h3,h7,h8,h9⟩:=k4 n h3 h7 h8 h9
 have h66:=p.r 7 Z
 replace f_u39:=f_u39.fr m
 replace q:=q.fr m
 refine HT.cond x48 h66 (fun c50=>?_) (fun c50=>?_)
 have c:=zAH c50 c
 refine HT.skip ?_
 refine HT.seq ?_
 refine HT.block ?_
 obtain ⟨x51,q52,c⟩:=zA4 c
 obtain ⟨e53,e54,e55,e56,c⟩:=ck4 c
 obtain ⟨x57,q58,c⟩:=zA4 c
 refine HT.drawR [ob ul_u35 (.vec w0.heap.size 9 eStr y47)] (rR ul_u35::rI x41::(rF fun A=>.rep eStr A x51)::(rF fun A=>.rep eStr A (([121]:List UInt8)++x51))::rR u39::rI y46::(rF fun A=>.qtr eStr A (gtD x37 y46))::(rF fun A=>.rep eStr A (gtD x37 y46))::(rF fun A=>.rep eStr A (subL (gtD x37 y46) 0 1))::(rF fun A=>.rep eStr A ((([121]:List UInt8)++x51)++(subL (gtD x37 y46) 0 1)))::⟨_,true,[0],some (.vec w0.heap.size 9 eStr x57),true,fun A=>.any⟩::⟨_,true,[11],some (.vec w0.heap.size 9 eStr x57),true,fun A=>.any⟩::[]) (by kernel_rfl) (by kernel_rfl) (by kernel_rfl) (Wf.mk' (by kernel_rfl) (ur (ur (up (up (ur (ur (UAll.cons zEA (up (up (up (ua (ua (UAll.nil))))))))))))) (by kernel_rfl) (by kernel_rfl)) q d ?_ ?_
 exact rm h3<|rm h8<|rp (fun V Q U O D=>zAC call65 (zCp (q52 Z) O.av (D.g 0 Z)))<|rp (fun V Q U O D=>zDy ⟨_,Z,⟨_,Z,Z,by decide⟩⟩ (D.g 0 Z) e53)<|rm h7<|rm h9<|rp (fun V Q U O D=>zAB ((f_u39.stp O.stp).eq (D.g 0 Z)) (D.g 1 Z) underlying34 sizeOf9 e54)<|rp (fun V Q U O D=>(zAf (QRep.ptr (D.g 0 Z)) isAgg9 sizeOf9))<|rp (fun V Q U O D=>zC2 (D.g 0 Z) Z underlying9  e55)<|rp (fun V Q U O D=>zDy (D.g 0 Z) (D.g 1 Z) e56)<|rc (OblR.took 0 _ _ Z Z Z Z Z fun V Q U O D u X Y J L M=>by have a0:Q 69=ul_u35:=D.g 0 Z;have a1:Rep eStr V U (Q 78) ((([121]:List UInt8)++x51)++(subL (gtD x37 y46) 0 1)):=D.g 1 Z;have hu0:zA9 Q (.tmp 69)=u:=a0.trans (J _ Z).symm;exact zDJ call60 Y (by simp only [List.map,hu0];exact zBz (q58 Z) (O.av.sub _) (fun b o h=>h.2) (Nat.le_trans j.size O.ch.size) (Vec.flat X (fun _ _ _ _ _ h=>h)) (a1.less fun b o h=>h.1) Z))<|rc (OblR.took 11 _ _ Z Z Z Z Z fun V Q U O D u X Y J L M=>by exact zA8 (L _ _ Z Z Z Z).symm X Y)<|rz
 intro done ρ σ A R w y s
 obtain ⟨h7,h8,h9⟩:=k3 s.rg h7 h8 h9
 obtain ⟨u59,e_u59⟩:∃ u,ρ 12=u:=⟨_,Z⟩
 have h3:=s.ov y 12 11 e_u59
 replace f_u39:=f_u39.stp s.stp
 obtain ⟨B,j,d⟩:=s.s B C j q ⟨Z,N⟩
 replace q:=s.left y [(12,ob u59 (.vec w0.heap.size 9 eStr x57))] ⟨Z,Z,e_u59,Z,Z,N⟩
 obtain ⟨e60,c⟩:=zA3 c
 refine HT.u d j (eI y46::eI (y46+1)::eI (y46+1)::[]) ?_ ?_
 exact om h9<|op (fun Q U W H D=>zAO (D.g 0 Z) Z e60)<|oa<|oz
 intro R w m n p d j
 obtain ⟨h3,h7,h8⟩:=k3 n h3 h7 h8
 have h9:=p.r 2 Z
 replace f_u39:=f_u39.fr m
 replace q:=q.fr m
 exact ei k (And.intro (Nat.lt_succ_self k) ⟨_,_,_,u59,c,d,j,B,q,h3,h7,h8,h9,f_u39⟩)
 have c:=zAG c50 c
 refine HT.exit ?_
 obtain rfl:=si c
 exact ei _ ⟨_,ul_u35,Z,d,j,B,q,h3⟩
 rintro R w ⟨A,s45,uo_u35,es,d,j,B,q,h3⟩
 obtain rfl:=es.symm
 refine HT.su d j (eR uo_u35::eR uo_u35::[]) ?_ ?_
 exact om h3<|oa<|oz
 intro R w m n p d j
 have h2:=p.r 1 Z
 replace q:=q.fr m
 refine HT.ret ?_
 obtain rfl:=si c
 exact ⟨.inr Z,[R 2],⟨Z,N⟩,(zBu (q.ok 0 _ Z) B h2),j⟩
 have c:=zAG c28 c
 refine HT.skip ?_
 obtain ⟨e61,c⟩:=zA3 c
 obtain ⟨x62,q63,c⟩:=zA4 c
 refine HT.su d j (eR (.pointer (some ⟨b1_0,3,none⟩))::eF (.rep (eSl eStr) A p0.2.2.2)::eF (.qtr eStr A (gtD p0.2.2.2 0))::eF (.rep eStr A (gtD p0.2.2.2 0))::eF (.rep (eSl eStr) A x62)::eF (.rep (eSl eStr) A x62)::[]) ?_ ?_
 exact op (fun Q U W H D=>zA7 ((H 1 Z).trans h1) zCb sizeOf34 (by decide) Z)<|op (fun Q U W H D=>(zAE ((q.fr W).ok 0 _ Z).1 (D.g 0 Z) zAK Z isAgg34 sizeOf34))<|op (fun Q U W H D=>zAB (D.g 0 Z) Z underlying34 sizeOf9 e61)<|op (fun Q U W H D=>(zAf (QRep.ptr (D.g 0 Z)) isAgg9 sizeOf9))<|op (fun Q U W H D=>zAC call63 (zE2 (q63 Z) (d.fr W.size) (D.g 0 Z)))<|op (fun Q U W H D=>zA0 (D.g 0 Z))<|oz
 intro R w m n p d j
 obtain ⟨h1,h3⟩:=k2 n h1 h3
 obtain ⟨u64,h7,f_u64⟩:∃ u,R 7=u∧Rep (eSl eStr) A w u x62:=⟨_,Z,p 5 _ _ Z Z Z⟩
 replace q:=q.fr m
 obtain ⟨e65,c⟩:=zA3 c
 obtain ⟨x66,q67,c⟩:=zA4 c
 refine HT.su d j (eR (.pointer (some ⟨b1_0,3,none⟩))::eF (.rep (eSl eStr) A p0.2.2.2)::eF (.qtr eStr A (gtD p0.2.2.2 2))::eF (.rep eStr A (gtD p0.2.2.2 2))::eI x66::eI x66::[]) ?_ ?_
 exact op (fun Q U W H D=>zA7 ((H 1 Z).trans h1) zCb sizeOf34 (by decide) Z)<|op (fun Q U W H D=>(zAE ((q.fr W).ok 0 _ Z).1 (D.g 0 Z) zAK Z isAgg34 sizeOf34))<|op (fun Q U W H D=>zAB (D.g 0 Z) Z underlying34 sizeOf9 e65)<|op (fun Q U W H D=>(zAf (QRep.ptr (D.g 0 Z)) isAgg9 sizeOf9))<|op (fun Q U W H D=>zAC call64 (zEa (q67 Z) (d.fr W.size) (D.g 0 Z)))<|oa<|oz
 intro R w m n p d j
 obtain ⟨h3,h7⟩:=k2 n h3 h7
 have h8:=p.r 5 Z
 replace f_u64:=f_u64.fr m
 replace q:=q.fr m
 replace q:IniOK [ob uo_u3 (.vec w0.heap.size 9 eStr s13)] A w:=q.sub [(1,ob uo_u3 (.vec w0.heap.size 9 eStr s13))] ⟨Z,Z,N⟩
 refine HT.seq ?_
 refine HT.su d j (eI 0::[]) ?_ ?_
 exact op (fun Q U W H D=>zA0 Z)<|oz
 intro R w m n p d j
 obtain ⟨h3,h7,h8⟩:=k3 n h3 h7 h8
 have h9:=p.r 0 Z
 replace f_u64:=f_u64.fr m
 replace q:=q.fr m
 obtain ⟨rl68,q69,c⟩:=zA4 c
 replace q69:=q69 Z
 refine HT.cut0 (fun R w=>∃ A:Av,∃ (s70:(List (List UInt8))) (uo_uo_u3:Value),rl68=s70∧AvOK A w∧Fr w0 w∧(∀ b o,A0 b o→A b o)∧IniOK [ob uo_uo_u3 (.vec w0.heap.size 9 eStr s70)] A w∧R 3=uo_uo_u3) ?_ ?_
 refine HT.block ?_
 refine HT.loop (fun k R w=>∃ A:Av,∃ (y71:Int) (y72:List (List UInt8)) (ul_uo_u3:Value),zB1 fu x62 x66 k y71 y72=some rl68∧AvOK A w∧Fr w0 w∧(∀ b o,A0 b o→A b o)∧IniOK [ob ul_uo_u3 (.vec w0.heap.size 9 eStr y72)] A w∧R 3=ul_uo_u3∧R 7=u64∧R 8 = .int .i64 x66∧R 9 = .int .i64 y71∧Rep (eSl eStr) A w u64 x62) fu ⟨_,_,_,uo_u3,q69,d,j,B,q,h3,h7,h8,h9,f_u64⟩ ?_
 have hr0:=c;clear c q69
 rintro k R w ⟨A,y71,y72,ul_uo_u3,c,d,j,B,q,h3,h7,h8,h9,f_u64⟩
 rcases k with _ | k
 cases (show none=some _ from c)
 rw [zB1] at c
 refine HT.seq ?_
 refine HT.seq ?_
 obtain ⟨x73,q74,c⟩:=zAW c
 refine HT.u d j (eI y71::eR u64::eI (x62.length:Int)::eB (decide (y71<(x62.length:Int)))::eB (decide (y71<(x62.length:Int)))::gI (true&&((decide (y71<(x62.length:Int)))==true)) x66::gB (true&&((decide (y71<(x62.length:Int)))==true)) (decide (0<x66))::eB x73::[]) ?_ ?_
 exact om h9<|om h7<|op (fun Q U W H D=>zAL (aT:=#[]) ((f_u64.fr W).eq (D.g 0 Z)) underlying34)<|op (fun Q U W H D=>zAg (D.g 0 Z) (D.g 1 Z))<|ov<|gm 4 true h8<|og 4 true (fun G Q U W H D=>zDz (D.h 0 G Z) Z)<|op (fun Q U W H D=>zAc (decide (y71<(x62.length:Int))) (D.g 0 Z) (fun hc=>by have a1:Q 65 = .bool (decide (0<x66)):=D 1 _ _ _ Z Z Z Z (zC5 Z (zB5 hc));show _=Value.bool x73;rw [q74,hc];exact a1) (fun hc=>by show _=Value.bool x73;rw [q74,hc];exact Z))<|oz
 intro R w m n p d j
 obtain ⟨h3,h7,h8,h9⟩:=k4 n h3 h7 h8 h9
 have h66:=p.r 7 Z
 replace f_u64:=f_u64.fr m
 replace q:=q.fr m
 refine HT.cond x73 h66 (fun c75=>?_) (fun c75=>?_)
 have c:=zAH c75 c
 refine HT.skip ?_
 refine HT.seq ?_
 refine HT.block ?_
 obtain ⟨x76,q77,c⟩:=zA4 c
 obtain ⟨e78,e79,e80,e81,c⟩:=ck4 c
 obtain ⟨x82,q83,c⟩:=zA4 c
 refine HT.drawR [ob ul_uo_u3 (.vec w0.heap.size 9 eStr y72)] (rR ul_uo_u3::rI x66::(rF fun A=>.rep eStr A x76)::(rF fun A=>.rep eStr A (([121]:List UInt8)++x76))::rR u64::rI y71::(rF fun A=>.qtr eStr A (gtD x62 y71))::(rF fun A=>.rep eStr A (gtD x62 y71))::(rF fun A=>.rep eStr A (subL (gtD x62 y71) 0 1))::(rF fun A=>.rep eStr A ((([121]:List UInt8)++x76)++(subL (gtD x62 y71) 0 1)))::⟨_,true,[0],some (.vec w0.heap.size 9 eStr x82),true,fun A=>.any⟩::⟨_,true,[11],some (.vec w0.heap.size 9 eStr x82),true,fun A=>.any⟩::[]) (by kernel_rfl) (by kernel_rfl) (by kernel_rfl) (Wf.mk' (by kernel_rfl) (ur (ur (up (up (ur (ur (UAll.cons zEA (up (up (up (ua (ua (UAll.nil))))))))))))) (by kernel_rfl) (by kernel_rfl)) q d ?_ ?_
 exact rm h3<|rm h8<|rp (fun V Q U O D=>zAC call65 (zCp (q77 Z) O.av (D.g 0 Z)))<|rp (fun V Q U O D=>zDy ⟨_,Z,⟨_,Z,Z,by decide⟩⟩ (D.g 0 Z) e78)<|rm h7<|rm h9<|rp (fun V Q U O D=>zAB ((f_u64.stp O.stp).eq (D.g 0 Z)) (D.g 1 Z) underlying34 sizeOf9 e79)<|rp (fun V Q U O D=>(zAf (QRep.ptr (D.g 0 Z)) isAgg9 sizeOf9))<|rp (fun V Q U O D=>zC2 (D.g 0 Z) Z underlying9  e80)<|rp (fun V Q U O D=>zDy (D.g 0 Z) (D.g 1 Z) e81)<|rc (OblR.took 0 _ _ Z Z Z Z Z fun V Q U O D u X Y J L M=>by have a0:Q 69=ul_uo_u3:=D.g 0 Z;have a1:Rep eStr V U (Q 78) ((([121]:List UInt8)++x76)++(subL (gtD x62 y71) 0 1)):=D.g 1 Z;have hu0:zA9 Q (.tmp 69)=u:=a0.trans (J _ Z).symm;exact zDJ call60 Y (by simp only [List.map,hu0];exact zBz (q83 Z) (O.av.sub _) (fun b o h=>h.2) (Nat.le_trans j.size O.ch.size) (Vec.flat X (fun _ _ _ _ _ h=>h)) (a1.less fun b o h=>h.1) Z))<|rc (OblR.took 11 _ _ Z Z Z Z Z fun V Q U O D u X Y J L M=>by exact zA8 (L _ _ Z Z Z Z).symm X Y)<|rz
 intro done ρ σ A R w y s
 obtain ⟨h7,h8,h9⟩:=k3 s.rg h7 h8 h9
 obtain ⟨u84,e_u84⟩:∃ u,ρ 12=u:=⟨_,Z⟩
 have h3:=s.ov y 12 11 e_u84
 replace f_u64:=f_u64.stp s.stp
 obtain ⟨B,j,d⟩:=s.s B C j q ⟨Z,N⟩
 replace q:=s.left y [(12,ob u84 (.vec w0.heap.size 9 eStr x82))] ⟨Z,Z,e_u84,Z,Z,N⟩
 obtain ⟨e85,c⟩:=zA3 c
 refine HT.u d j (eI y71::eI (y71+1)::eI (y71+1)::[]) ?_ ?_
 exact om h9<|op (fun Q U W H D=>zAO (D.g 0 Z) Z e85)<|oa<|oz
 intro R w m n p d j
 obtain ⟨h3,h7,h8⟩:=k3 n h3 h7 h8
 have h9:=p.r 2 Z
 replace f_u64:=f_u64.fr m
 replace q:=q.fr m
 exact ei k (And.intro (Nat.lt_succ_self k) ⟨_,_,_,u84,c,d,j,B,q,h3,h7,h8,h9,f_u64⟩)
 have c:=zAG c75 c
 refine HT.exit ?_
 obtain rfl:=si c
 exact ei _ ⟨_,ul_uo_u3,Z,d,j,B,q,h3⟩
 rintro R w ⟨A,s70,uo_uo_u3,es,d,j,B,q,h3⟩
 obtain rfl:=es.symm
 refine HT.su d j (eR uo_uo_u3::eR uo_uo_u3::[]) ?_ ?_
 exact om h3<|oa<|oz
 intro R w m n p d j
 have h2:=p.r 1 Z
 replace q:=q.fr m
 refine HT.ret ?_
 obtain rfl:=si c
 exact ⟨.inr Z,[R 2],⟨Z,N⟩,(zBu (q.ok 0 _ Z) B h2),j⟩
theorem zEM {fu : Nat} {A0 : Av} {p0 : zA2} {r : List (List UInt8)} (c : zBU fu p0 = some r) {w : World} {v0 : Value} (d : AvOK A0 w) (h0 : Rep zA1 A0 w v0 p0) :
 Calls prog 37 #[v0] w fun e w'=>∃ v,e = .returned v∧(Rep (eSl eStr) A0 w' v r∧Fr w w'):=by
 refine Calls.mono (zGA c d h0) ?_
 rintro e w' ⟨v,he,hv,hf⟩
 exact ⟨v,he,zBf hv (fun b o h=>.inl h) d,hf⟩
def zAo (fu : Nat) (p0 : List (List UInt8)) : Nat → Int → (List (List UInt8)) → Option (List (List UInt8))
 | 0,_,_=>none
 | k+1,y5,y6=>
 bif (decide (y5<(p0.length:Int))) then (
 ck (inR y5 p0.length) <|
 cl true (zBk fu y6 (gtD p0 y5) false) fun x9=>
 ck (i64B (y5+1)) <|
 zAo fu p0 k (y5+1) x9
 ) else (
 some y6
 )
def zAp (fu : Nat) (p1 : List (List UInt8)) : Nat → Int → (List (List UInt8)) → Option (List (List UInt8))
 | 0,_,_=>none
 | k+1,y16,y17=>
 bif (decide (y16<(p1.length:Int))) then (
 ck (inR y16 p1.length) <|
 cl true (zBk fu y17 (gtD p1 y16) false) fun x20=>
 ck (i64B (y16+1)) <|
 zAp fu p1 k (y16+1) x20
 ) else (
 some y17
 )
def zC6 (fu:Nat) (p0:List (List UInt8)) (p1:List (List UInt8)):Option (List (List UInt8)):=
 cl true (zAo fu p0 fu 0 ([]:List (List UInt8))) fun s4=>
 cl true (zAp fu p1 fu 0 s4) fun s15=>
 some s15
theorem zFS {fu : Nat} {A0 : Av} {p0 : List (List UInt8)} {p1 : List (List UInt8)} {r : List (List UInt8)} (c : zC6 fu p0 p1 = some r) {w : World} {v0 : Value} {v1 : Value} (d : AvOK A0 w) (h0 : Rep (eSl eStr) A0 w v0 p0) (h1 : Rep (eSl eStr) A0 w v1 p1) :
 Calls prog 36 #[v0,v1] w fun e w'=>∃ v,e = .returned v∧((Res.vec w.heap.size 9 eStr r).ok (addA A0 v) v w'∧Fr w w'):=by
 unfold zC6 at c
 obtain ⟨w0,hw0,j,C⟩:=pw d
 have hA00:AvOK A0 w0:=C
 rw [fh hw0]
 rw [fw hw0]
 obtain ⟨A,hAe,B,d,q⟩:=pa d
 refine zA5 [.tmp 4] func36 ntmps36 (by decide) Z Z (nb Z) ?_
 intro R hR
 have f_v0:Rep (eSl eStr) A w v0 p0:=hAe ▸ h0
 replace h0:R 0=v0:=hR 0 _ Z
 have f_v1:Rep (eSl eStr) A w v1 p1:=hAe ▸ h1
 replace h1:R 1=v1:=hR 1 _ Z
 refine HT.su d j (eA::[]) ?_ ?_
 exact op (fun Q U W H D=>zA0 N)<|oz
 intro R w m n p d j
 obtain ⟨h0,h1⟩:=k2 n h0 h1
 replace f_v0:=f_v0.fr m
 replace f_v1:=f_v1.fr m
 replace q:=q.fr m
 refine HT.sx [] (⟨_,true,[],some (.vec w0.heap.size 9 eStr ([]:List (List UInt8))),true,fun A=>.any⟩::⟨_,true,[0],some (.vec w0.heap.size 9 eStr ([]:List (List UInt8))),true,fun A=>.any⟩::[]) (ua (ua (UAll.nil))) q d ?_ ?_
 exact rc (OblR.made _ Z Z Z Z fun V Q U O D=>by exact zCA [] (E:=eStr) N underlying34 sizeOf9 zeroValue9 Z Z Z (Nat.le_trans j.size O.ch.size))<|rc (OblR.took 0 _ _ Z Z Z Z Z fun V Q U O D u X Y J L M=>by exact zA8 (L _ _ Z Z Z Z).symm X Y)<|rz
 intro done ρ σ A R w y s
 obtain ⟨h0,h1⟩:=k2 s.rg h0 h1
 obtain ⟨u1,e_u1⟩:∃ u,ρ 1=u:=⟨_,Z⟩
 have h5:=s.ov y 1 1 e_u1
 replace f_v0:=f_v0.stp s.stp
 replace f_v1:=f_v1.stp s.stp
 obtain ⟨B,j,d⟩:=s.s B C j q N
 replace q:=s.left y [(1,ob u1 (.vec w0.heap.size 9 eStr ([]:List (List UInt8))))] ⟨Z,Z,e_u1,Z,Z,N⟩
 refine HT.seq ?_
 refine HT.su d j (eI 0::[]) ?_ ?_
 exact op (fun Q U W H D=>zA0 Z)<|oz
 intro R w m n p d j
 obtain ⟨h0,h1,h5⟩:=k3 n h0 h1 h5
 have h6:=p.r 0 Z
 replace f_v0:=f_v0.fr m
 replace f_v1:=f_v1.fr m
 replace q:=q.fr m
 obtain ⟨rl2,q3,c⟩:=zA4 c
 replace q3:=q3 Z
 refine HT.cut0 (fun R w=>∃ A:Av,∃ (s4:(List (List UInt8))) (uo_u1:Value),rl2=s4∧AvOK A w∧Fr w0 w∧(∀ b o,A0 b o→A b o)∧IniOK [ob uo_u1 (.vec w0.heap.size 9 eStr s4)] A w∧R 1=v1∧R 5=uo_u1∧Rep (eSl eStr) A w v1 p1) ?_ ?_
 refine HT.block ?_
 refine HT.loop (fun k R w=>∃ A:Av,∃ (y5:Int) (y6:List (List UInt8)) (ul_u1:Value),zAo fu p0 k y5 y6=some rl2∧AvOK A w∧Fr w0 w∧(∀ b o,A0 b o→A b o)∧IniOK [ob ul_u1 (.vec w0.heap.size 9 eStr y6)] A w∧R 0=v0∧R 1=v1∧R 5=ul_u1∧R 6 = .int .i64 y5∧Rep (eSl eStr) A w v0 p0∧Rep (eSl eStr) A w v1 p1) fu ⟨_,_,_,u1,q3,d,j,B,q,h0,h1,h5,h6,f_v0,f_v1⟩ ?_
 have hr0:=c;clear c q3
 rintro k R w ⟨A,y5,y6,ul_u1,c,d,j,B,q,h0,h1,h5,h6,f_v0,f_v1⟩
 rcases k with _ | k
 cases (show none=some _ from c)
 rw [zAo] at c
 refine HT.seq ?_
 refine HT.su d j (eI y5::eR v0::eI (p0.length:Int)::eB (decide (y5<(p0.length:Int)))::[]) ?_ ?_
 exact om h6<|om h0<|op (fun Q U W H D=>zAL (aT:=#[]) ((f_v0.fr W).eq (D.g 0 Z)) underlying34)<|op (fun Q U W H D=>zAg (D.g 0 Z) (D.g 1 Z))<|oz
 intro R w m n p d j
 obtain ⟨h0,h1,h5,h6⟩:=k4 n h0 h1 h5 h6
 have h12:=p.r 3 Z
 replace f_v0:=f_v0.fr m
 replace f_v1:=f_v1.fr m
 replace q:=q.fr m
 refine HT.cond (decide (y5<(p0.length:Int))) h12 (fun c7=>?_) (fun c7=>?_)
 have c:=zAH c7 c
 refine HT.skip ?_
 refine HT.seq ?_
 refine HT.block ?_
 obtain ⟨e8,c⟩:=zA3 c
 obtain ⟨x9,q10,c⟩:=zA4 c
 refine HT.x [ob ul_u1 (.vec w0.heap.size 9 eStr y6)] (rR ul_u1::rR v0::rI y5::(rF fun A=>.qtr eStr A (gtD p0 y5))::(rF fun A=>.rep eStr A (gtD p0 y5))::⟨_,true,[0],some (.vec w0.heap.size 9 eStr x9),true,fun A=>.any⟩::⟨_,true,[6],some (.vec w0.heap.size 9 eStr x9),true,fun A=>.any⟩::[]) (ur (ur (ur (UAll.cons zEA (up (ua (ua (UAll.nil)))))))) q d ?_ ?_
 exact rm h5<|rm h0<|rm h6<|rp (fun V Q U O D=>zAB ((f_v0.stp O.stp).eq (D.g 0 Z)) (D.g 1 Z) underlying34 sizeOf9 e8)<|rp (fun V Q U O D=>(zAf (QRep.ptr (D.g 0 Z)) isAgg9 sizeOf9))<|rc (OblR.took 0 _ _ Z Z Z Z Z fun V Q U O D u X Y J L M=>by have a0:Q 15=ul_u1:=D.g 0 Z;have a1:Rep eStr V U (Q 19) (gtD p0 y5):=D.g 1 Z;have hu0:zA9 Q (.tmp 15)=u:=a0.trans (J _ Z).symm;exact zDJ call60 Y (by simp only [List.map,hu0];exact zBz (q10 Z) (O.av.sub _) (fun b o h=>h.2) (Nat.le_trans j.size O.ch.size) (Vec.flat X (fun _ _ _ _ _ h=>h)) (a1.less fun b o h=>h.1) Z))<|rc (OblR.took 6 _ _ Z Z Z Z Z fun V Q U O D u X Y J L M=>by exact zA8 (L _ _ Z Z Z Z).symm X Y)<|rz
 intro done ρ σ A R w y s
 obtain ⟨h0,h1,h6⟩:=k3 s.rg h0 h1 h6
 obtain ⟨u11,e_u11⟩:∃ u,ρ 7=u:=⟨_,Z⟩
 have h5:=s.ov y 7 6 e_u11
 replace f_v0:=f_v0.stp s.stp
 replace f_v1:=f_v1.stp s.stp
 obtain ⟨B,j,d⟩:=s.s B C j q ⟨Z,N⟩
 replace q:=s.left y [(7,ob u11 (.vec w0.heap.size 9 eStr x9))] ⟨Z,Z,e_u11,Z,Z,N⟩
 obtain ⟨e12,c⟩:=zA3 c
 refine HT.u d j (eI y5::eI (y5+1)::eI (y5+1)::[]) ?_ ?_
 exact om h6<|op (fun Q U W H D=>zAO (D.g 0 Z) Z e12)<|oa<|oz
 intro R w m n p d j
 obtain ⟨h0,h1,h5⟩:=k3 n h0 h1 h5
 have h6:=p.r 2 Z
 replace f_v0:=f_v0.fr m
 replace f_v1:=f_v1.fr m
 replace q:=q.fr m
 exact ei k (And.intro (Nat.lt_succ_self k) ⟨_,_,_,u11,c,d,j,B,q,h0,h1,h5,h6,f_v0,f_v1⟩)
 have c:=zAG c7 c
 refine HT.exit ?_
 obtain rfl:=si c
 exact ei _ ⟨_,ul_u1,Z,d,j,B,q,h1,h5,f_v1⟩
 rintro R w ⟨A,s4,uo_u1,es,d,j,B,q,h1,h5,f_v1⟩
 obtain rfl:=es.symm
 refine HT.seq ?_
 refine HT.su d j (eI 0::[]) ?_ ?_
 exact op (fun Q U W H D=>zA0 Z)<|oz
 intro R w m n p d j
 obtain ⟨h1,h5⟩:=k2 n h1 h5
 have h7:=p.r 0 Z
 replace f_v1:=f_v1.fr m
 replace q:=q.fr m
 obtain ⟨rl13,q14,c⟩:=zA4 c
 replace q14:=q14 Z
 refine HT.cut0 (fun R w=>∃ A:Av,∃ (s15:(List (List UInt8))) (uo_uo_u1:Value),rl13=s15∧AvOK A w∧Fr w0 w∧(∀ b o,A0 b o→A b o)∧IniOK [ob uo_uo_u1 (.vec w0.heap.size 9 eStr s15)] A w∧R 5=uo_uo_u1) ?_ ?_
 refine HT.block ?_
 refine HT.loop (fun k R w=>∃ A:Av,∃ (y16:Int) (y17:List (List UInt8)) (ul_uo_u1:Value),zAp fu p1 k y16 y17=some rl13∧AvOK A w∧Fr w0 w∧(∀ b o,A0 b o→A b o)∧IniOK [ob ul_uo_u1 (.vec w0.heap.size 9 eStr y17)] A w∧R 1=v1∧R 5=ul_uo_u1∧R 7 = .int .i64 y16∧Rep (eSl eStr) A w v1 p1) fu ⟨_,_,_,uo_u1,q14,d,j,B,q,h1,h5,h7,f_v1⟩ ?_
 have hr0:=c;clear c q14
 rintro k R w ⟨A,y16,y17,ul_uo_u1,c,d,j,B,q,h1,h5,h7,f_v1⟩
 rcases k with _ | k
 cases (show none=some _ from c)
 rw [zAp] at c
 refine HT.seq ?_
 refine HT.su d j (eI y16::eR v1::eI (p1.length:Int)::eB (decide (y16<(p1.length:Int)))::[]) ?_ ?_
 exact om h7<|om h1<|op (fun Q U W H D=>zAL (aT:=#[]) ((f_v1.fr W).eq (D.g 0 Z)) underlying34)<|op (fun Q U W H D=>zAg (D.g 0 Z) (D.g 1 Z))<|oz
 intro R w m n p d j
 obtain ⟨h1,h5,h7⟩:=k3 n h1 h5 h7
 have h24:=p.r 3 Z
 replace f_v1:=f_v1.fr m
 replace q:=q.fr m
 refine HT.cond (decide (y16<(p1.length:Int))) h24 (fun c18=>?_) (fun c18=>?_)
 have c:=zAH c18 c
 refine HT.skip ?_
 refine HT.seq ?_
 refine HT.block ?_
 obtain ⟨e19,c⟩:=zA3 c
 obtain ⟨x20,q21,c⟩:=zA4 c
 refine HT.x [ob ul_uo_u1 (.vec w0.heap.size 9 eStr y17)] (rR ul_uo_u1::rR v1::rI y16::(rF fun A=>.qtr eStr A (gtD p1 y16))::(rF fun A=>.rep eStr A (gtD p1 y16))::⟨_,true,[0],some (.vec w0.heap.size 9 eStr x20),true,fun A=>.any⟩::⟨_,true,[6],some (.vec w0.heap.size 9 eStr x20),true,fun A=>.any⟩::[]) (ur (ur (ur (UAll.cons zEA (up (ua (ua (UAll.nil)))))))) q d ?_ ?_
 exact rm h5<|rm h1<|rm h7<|rp (fun V Q U O D=>zAB ((f_v1.stp O.stp).eq (D.g 0 Z)) (D.g 1 Z) underlying34 sizeOf9 e19)<|rp (fun V Q U O D=>(zAf (QRep.ptr (D.g 0 Z)) isAgg9 sizeOf9))<|rc (OblR.took 0 _ _ Z Z Z Z Z fun V Q U O D u X Y J L M=>by have a0:Q 27=ul_uo_u1:=D.g 0 Z;have a1:Rep eStr V U (Q 31) (gtD p1 y16):=D.g 1 Z;have hu0:zA9 Q (.tmp 27)=u:=a0.trans (J _ Z).symm;exact zDJ call60 Y (by simp only [List.map,hu0];exact zBz (q21 Z) (O.av.sub _) (fun b o h=>h.2) (Nat.le_trans j.size O.ch.size) (Vec.flat X (fun _ _ _ _ _ h=>h)) (a1.less fun b o h=>h.1) Z))<|rc (OblR.took 6 _ _ Z Z Z Z Z fun V Q U O D u X Y J L M=>by exact zA8 (L _ _ Z Z Z Z).symm X Y)<|rz
 intro done ρ σ A R w y s
 obtain ⟨h1,h7⟩:=k2 s.rg h1 h7
 obtain ⟨u22,e_u22⟩:∃ u,ρ 7=u:=⟨_,Z⟩
 have h5:=s.ov y 7 6 e_u22
 replace f_v1:=f_v1.stp s.stp
 obtain ⟨B,j,d⟩:=s.s B C j q ⟨Z,N⟩
 replace q:=s.left y [(7,ob u22 (.vec w0.heap.size 9 eStr x20))] ⟨Z,Z,e_u22,Z,Z,N⟩
 obtain ⟨e23,c⟩:=zA3 c
 refine HT.u d j (eI y16::eI (y16+1)::eI (y16+1)::[]) ?_ ?_
 exact om h7<|op (fun Q U W H D=>zAO (D.g 0 Z) Z e23)<|oa<|oz
 intro R w m n p d j
 obtain ⟨h1,h5⟩:=k2 n h1 h5
 have h7:=p.r 2 Z
 replace f_v1:=f_v1.fr m
 replace q:=q.fr m
 exact ei k (And.intro (Nat.lt_succ_self k) ⟨_,_,_,u22,c,d,j,B,q,h1,h5,h7,f_v1⟩)
 have c:=zAG c18 c
 refine HT.exit ?_
 obtain rfl:=si c
 exact ei _ ⟨_,ul_uo_u1,Z,d,j,B,q,h5⟩
 rintro R w ⟨A,s15,uo_uo_u1,es,d,j,B,q,h5⟩
 obtain rfl:=es.symm
 refine HT.su d j (eR uo_uo_u1::eR uo_uo_u1::[]) ?_ ?_
 exact om h5<|oa<|oz
 intro R w m n p d j
 have h4:=p.r 1 Z
 replace q:=q.fr m
 refine HT.ret ?_
 obtain rfl:=si c
 exact ⟨.inr Z,[R 4],⟨Z,N⟩,(zBu (q.ok 0 _ Z) B h4),j⟩
theorem zFH {fu : Nat} {A0 : Av} {p0 : List (List UInt8)} {p1 : List (List UInt8)} {r : List (List UInt8)} (c : zC6 fu p0 p1 = some r) {w : World} {v0 : Value} {v1 : Value} (d : AvOK A0 w) (h0 : Rep (eSl eStr) A0 w v0 p0) (h1 : Rep (eSl eStr) A0 w v1 p1) :
 Calls prog 36 #[v0,v1] w fun e w'=>∃ v,e = .returned v∧(Rep (eSl eStr) A0 w' v r∧Fr w w'):=by
 refine Calls.mono (zFS c d h0 h1) ?_
 rintro e w' ⟨v,he,hv,hf⟩
 exact ⟨v,he,zBf hv (fun b o h=>.inl h) d,hf⟩
def zCK (fu : Nat) (p0 : List (List UInt8)) (p1 : List UInt8) : Nat → Int → Option (Ex Bool Unit)
 | 0,_=>none
 | k+1,y4=>
 bif (decide (y4<(p0.length:Int))) then (
 ck (inR y4 p0.length) <|
 bif ((gtD p0 y4)==p1) then (
 some (Ex.ret true)
 ) else (
 ck (i64B (y4+1)) <|
 zCK fu p0 p1 k (y4+1)
 )
 ) else (
 some (Ex.go ())
 )
def zEH (fu:Nat) (p0:List (List UInt8)) (p1:List UInt8):Option Bool:=
 cl true (zCK fu p0 p1 fu 0) fun rl1=>
 exM rl1 (fun r=>some r) fun s3=>
 some false
theorem zHi {fu : Nat} {A : Av} {p0 : List (List UInt8)} {p1 : List UInt8} {r : Bool} (c : zEH fu p0 p1 = some r) {w : World} {v0 : Value} {v1 : Value} (d : AvOK A w) (h0 : Rep (eSl eStr) A w v0 p0) (h1 : Rep eStr A w v1 p1) :
 Calls prog 38 #[v0,v1] w fun e w'=>∃ v,e = .returned v∧(v = .bool r∧Fr w w'):=by
 unfold zEH at c
 obtain ⟨w0,hw0,j⟩:=pf w
 rw [fw hw0]
 refine zA5 [.tmp 4] func38 ntmps38 (by decide) Z Z (nb Z) ?_
 intro R hR
 have f_v0:=h0
 replace h0:R 0=v0:=hR 0 _ Z
 have f_v1:=h1
 replace h1:R 1=v1:=hR 1 _ Z
 refine HT.su d j (eB false::[]) ?_ ?_
 exact op (fun Q U W H D=>zA0 Z)<|oz
 intro R w m n p d j
 obtain ⟨h0,h1⟩:=k2 n h0 h1
 replace f_v0:=f_v0.fr m
 replace f_v1:=f_v1.fr m
 refine HT.seq ?_
 refine HT.su d j (eI 0::[]) ?_ ?_
 exact op (fun Q U W H D=>zA0 Z)<|oz
 intro R w m n p d j
 obtain ⟨h0,h1⟩:=k2 n h0 h1
 have h5:=p.r 0 Z
 replace f_v0:=f_v0.fr m
 replace f_v1:=f_v1.fr m
 obtain ⟨rl1,q2,c⟩:=zA4 c
 replace q2:=q2 Z
 refine HT.cut0 (fun R w=>∃ (s3:Unit),rl1=Ex.go s3∧AvOK A w∧Fr w0 w) ?_ ?_
 refine HT.block ?_
 refine HT.loop (fun k R w=>∃ (y4:Int),zCK fu p0 p1 k y4=some rl1∧AvOK A w∧Fr w0 w∧R 0=v0∧R 1=v1∧R 5 = .int .i64 y4∧Rep (eSl eStr) A w v0 p0∧Rep eStr A w v1 p1) fu ⟨_,q2,d,j,h0,h1,h5,f_v0,f_v1⟩ ?_
 have hr0:=c;clear c q2
 rintro k R w ⟨y4,c,d,j,h0,h1,h5,f_v0,f_v1⟩
 rcases k with _ | k
 cases (show none=some _ from c)
 rw [zCK] at c
 refine HT.seq ?_
 refine HT.su d j (eI y4::eR v0::eI (p0.length:Int)::eB (decide (y4<(p0.length:Int)))::[]) ?_ ?_
 exact om h5<|om h0<|op (fun Q U W H D=>zAL (aT:=#[]) ((f_v0.fr W).eq (D.g 0 Z)) underlying34)<|op (fun Q U W H D=>zAg (D.g 0 Z) (D.g 1 Z))<|oz
 intro R w m n p d j
 obtain ⟨h0,h1,h5⟩:=k3 n h0 h1 h5
 have h9:=p.r 3 Z
 replace f_v0:=f_v0.fr m
 replace f_v1:=f_v1.fr m
 refine HT.cond (decide (y4<(p0.length:Int))) h9 (fun c5=>?_) (fun c5=>?_)
 have c:=zAH c5 c
 refine HT.skip ?_
 refine HT.seq ?_
 refine HT.block ?_
 obtain ⟨e6,c⟩:=zA3 c
 refine HT.su d j (eR v0::eI y4::eF (.qtr eStr A (gtD p0 y4))::eF (.rep eStr A (gtD p0 y4))::eR v1::eB ((gtD p0 y4)==p1)::[]) ?_ ?_
 exact om h0<|om h5<|op (fun Q U W H D=>zAB ((f_v0.fr W).eq (D.g 0 Z)) (D.g 1 Z) underlying34 sizeOf9 e6)<|op (fun Q U W H D=>(zAf (QRep.ptr (D.g 0 Z)) isAgg9 sizeOf9))<|om h1<|op (fun Q U W H D=>zBV (D.g 0 Z) ((f_v1.fr W).eq (D.g 1 Z)))<|oz
 intro R w m n p d j
 obtain ⟨h0,h1,h5⟩:=k3 n h0 h1 h5
 have h17:=p.r 5 Z
 replace f_v0:=f_v0.fr m
 replace f_v1:=f_v1.fr m
 refine HT.cond ((gtD p0 y4)==p1) h17 (fun c7=>?_) (fun c7=>?_)
 have c:=zAH c7 c
 refine HT.su d j (eB true::[]) ?_ ?_
 exact op (fun Q U W H D=>zA0 Z)<|oz
 intro R w m n p d j
 have h4:=p.r 0 Z
 refine HT.ret ?_
 obtain rfl:=si c
 have c:=hr0
 replace c:some _=some _:=c
 obtain rfl:=si c
 exact ⟨.inr Z,[R 4],⟨Z,N⟩,h4,j⟩
 have c:=zAG c7 c
 refine HT.skip ?_
 obtain ⟨e8,c⟩:=zA3 c
 refine HT.u d j (eI y4::eI (y4+1)::eI (y4+1)::[]) ?_ ?_
 exact om h5<|op (fun Q U W H D=>zAO (D.g 0 Z) Z e8)<|oa<|oz
 intro R w m n p d j
 obtain ⟨h0,h1⟩:=k2 n h0 h1
 have h5:=p.r 2 Z
 replace f_v0:=f_v0.fr m
 replace f_v1:=f_v1.fr m
 exact ei k (And.intro (Nat.lt_succ_self k) ⟨_,c,d,j,h0,h1,h5,f_v0,f_v1⟩)
 have c:=zAG c5 c
 refine HT.exit ?_
 obtain rfl:=si c
 exact ei _ ⟨Z,d,j⟩
 rintro R w ⟨s3,rfl,d,j⟩
 have c:=zEN c
 refine HT.su d j (eB false::[]) ?_ ?_
 exact op (fun Q U W H D=>zA0 Z)<|oz
 intro R w m n p d j
 have h4:=p.r 0 Z
 refine HT.ret ?_
 obtain rfl:=si c
 exact ⟨.inr Z,[R 4],⟨Z,N⟩,h4,j⟩
def zAZ (fu : Nat) (p0 : List zA2) : Nat → (List (List UInt8)) → Int → Option (List (List UInt8))
 | 0,_,_=>none
 | k+1,y9,y10=>
 bif (decide (y10<(p0.length:Int))) then (
 ck (inR y10 p0.length) <|
 cl true (zBU fu (gtD p0 y10)) fun x13=>
 cl true (zC6 fu y9 x13) fun x15=>
 ck (i64B (y10+1)) <|
 zAZ fu p0 k x15 (y10+1)
 ) else (
 some y9
 )
def zAV (fu : Nat) (p0 : List zA2) (s8 : (List (List UInt8))) (y22 : Int) : Nat → Int → zAA → Option zAA
 | 0,_,_=>none
 | k+1,y34,y35=>
 bif (decide (y34<(p0.length:Int))) then (
 ck (inR y34 p0.length) <|
 cl true (zBU fu (gtD p0 y34)) fun x38=>
 ck (inR y22 s8.length) <|
 cl true (zEH fu x38 (gtD s8 y22)) fun x41=>
 bif x41 then (
 ck (zBE (y35.2.length+([y34]:List Int).length)) <|
 ck (i64B (y34+1)) <|
 zAV fu p0 s8 y22 k (y34+1) (y35.1,(y35.2++([y34]:List Int)))
 ) else (
 ck (i64B (y34+1)) <|
 zAV fu p0 s8 y22 k (y34+1) y35
 )
 ) else (
 some y35
 )
def zB0 (fu : Nat) (p0 : List zA2) (s8 : (List (List UInt8))) : Nat → Int → (List zAA) → Option (List zAA)
 | 0,_,_=>none
 | k+1,y22,y23=>
 bif (decide (y22<(s8.length:Int))) then (
 ck (inR y22 s8.length) <|
 cl true (zAV fu p0 s8 y22 fu 0 ((gtD s8 y22),([]:List Int))) fun s33=>
 ck (zBE (y23.length+([s33]:List zAA).length)) <|
 ck (i64B (y22+1)) <|
 zB0 fu p0 s8 k (y22+1) (y23++([s33]:List zAA))
 ) else (
 some y23
 )
def zC8 (fu:Nat) (p0:List zA2):Option (List zAA):=
 cl true (zDS fu p0) fun x2=>
 bif (!x2) then (
 some ([]:List zAA)
 ) else (
 cl true (zAZ fu p0 fu ([]:List (List UInt8)) 0) fun s8=>
 cl true (zB0 fu p0 s8 fu 0 ([]:List zAA)) fun s21=>
 some s21
 )
set_option linter.unusedSimpArgs false in
theorem zFL {fu : Nat} {A0 : Av} {p0 : List zA2} {r : List zAA} (c : zC8 fu p0 = some r) {w : World} {v0 : Value} (d : AvOK A0 w) (h0 : Rep (eSl zA1) A0 w v0 p0) :
 Calls prog 9 #[v0] w fun e w'=>∃ v,e = .returned v∧((Res.vec w.heap.size 54 zAD r).ok (addA A0 v) v w'∧Fr w w'):=by
 unfold zC8 at c
 obtain ⟨w0,hw0,j,C⟩:=pw d
 have hA00:AvOK A0 w0:=C
 rw [fh hw0]
 rw [fw hw0]
 obtain ⟨A,hAe,B,d,q⟩:=pa d
 refine zA5 [.tmp 2] func9 ntmps9 (by decide) Z Z (nb Z) ?_
 intro R hR
 have f_v0:Rep (eSl zA1) A w v0 p0:=hAe ▸ h0
 replace h0:R 0=v0:=hR 0 _ Z
 refine HT.su d j (eA::[]) ?_ ?_
 exact op (fun Q U W H D=>zA0 N)<|oz
 intro R w m n p d j
 replace h0:=k1 n h0
 replace f_v0:=f_v0.fr m
 replace q:=q.fr m
 refine HT.sx [] (⟨_,true,[],some (.vec w0.heap.size 54 zAD ([]:List zAA)),true,fun A=>.any⟩::⟨_,true,[0],some (.vec w0.heap.size 54 zAD ([]:List zAA)),true,fun A=>.any⟩::[]) (ua (ua (UAll.nil))) q d ?_ ?_
 exact rc (OblR.made _ Z Z Z Z fun V Q U O D=>by exact zCA [] (E:=zAD) N underlying24 sizeOf54 zeroValue54 Z Z Z (Nat.le_trans j.size O.ch.size))<|rc (OblR.took 0 _ _ Z Z Z Z Z fun V Q U O D u X Y J L M=>by exact zA8 (L _ _ Z Z Z Z).symm X Y)<|rz
 intro done ρ σ A R w y s
 replace h0:=k1 s.rg h0
 obtain ⟨u1,e_u1⟩:∃ u,ρ 1=u:=⟨_,Z⟩
 have h3:=s.ov y 1 1 e_u1
 replace f_v0:=f_v0.stp s.stp
 obtain ⟨B,j,d⟩:=s.s B C j q N
 replace q:=s.left y [(1,ob u1 (.vec w0.heap.size 54 zAD ([]:List zAA)))] ⟨Z,Z,e_u1,Z,Z,N⟩
 refine HT.seq ?_
 obtain ⟨x2,q3,c⟩:=zA4 c
 refine HT.su d j (eR v0::eB x2::eB (!x2)::[]) ?_ ?_
 exact om h0<|op (fun Q U W H D=>zAC call35 (zGl (q3 Z) (d.fr W.size) ((f_v0.fr W).eq (D.g 0 Z))))<|op (fun Q U W H D=>zCk (D.g 0 Z))<|oz
 intro R w m n p d j
 obtain ⟨h0,h3⟩:=k2 n h0 h3
 have h12:=p.r 2 Z
 replace f_v0:=f_v0.fr m
 replace q:=q.fr m
 refine HT.cond (!x2) h12 (fun c4=>?_) (fun c4=>?_)
 have c:=zAH c4 c
 refine HT.su d j (eR u1::eR u1::[]) ?_ ?_
 exact om h3<|oa<|oz
 intro R w m n p d j
 have h2:=p.r 1 Z
 replace q:=q.fr m
 refine HT.ret ?_
 obtain rfl:=si c
 exact ⟨.inr Z,[R 2],⟨Z,N⟩,(zBu (q.ok 0 _ Z) B h2),j⟩
 have c:=zAG c4 c
 refine HT.skip ?_
 refine HT.su d j (eF (.rep (eSl eStr) A ([]:List (List UInt8)))::eF (.rep (eSl eStr) A ([]:List (List UInt8)))::[]) ?_ ?_
 exact op (fun Q U W H D=>zAu [] (E:=eStr) N underlying34 sizeOf9 zeroValue9 Z Z Z (d.fr W.size))<|op (fun Q U W H D=>zA0 (D.g 0 Z))<|oz
 intro R w m n p d j
 obtain ⟨h0,h3⟩:=k2 n h0 h3
 obtain ⟨u5,h4,f_u5⟩:∃ u,R 4=u∧Rep (eSl eStr) A w u ([]:List (List UInt8)):=⟨_,Z,p 1 _ _ Z Z Z⟩
 replace f_v0:=f_v0.fr m
 replace q:=q.fr m
 refine HT.seq ?_
 refine HT.su d j (eI 0::[]) ?_ ?_
 exact op (fun Q U W H D=>zA0 Z)<|oz
 intro R w m n p d j
 obtain ⟨h0,h3,h4⟩:=k3 n h0 h3 h4
 have h5:=p.r 0 Z
 replace f_u5:=f_u5.fr m
 replace f_v0:=f_v0.fr m
 replace q:=q.fr m
 obtain ⟨rl6,q7,c⟩:=zA4 c
 replace q7:=q7 Z
 refine HT.cut0 (fun R w=>∃ A:Av,∃ (s8:(List (List UInt8))) (wo_4:Value),rl6=s8∧AvOK A w∧Fr w0 w∧(∀ b o,A0 b o→A b o)∧IniOK [ob u1 (.vec w0.heap.size 54 zAD ([]:List zAA))] A w∧R 0=v0∧R 3=u1∧R 4=wo_4∧Rep (eSl zA1) A w v0 p0∧Rep (eSl eStr) A w wo_4 s8) ?_ ?_
 refine HT.block ?_
 refine HT.loop (fun k R w=>∃ A:Av,∃ (y9:List (List UInt8)) (y10:Int) (wl_4:Value),zAZ fu p0 k y9 y10=some rl6∧AvOK A w∧Fr w0 w∧(∀ b o,A0 b o→A b o)∧IniOK [ob u1 (.vec w0.heap.size 54 zAD ([]:List zAA))] A w∧R 0=v0∧R 3=u1∧R 4=wl_4∧R 5 = .int .i64 y10∧Rep (eSl zA1) A w v0 p0∧Rep (eSl eStr) A w wl_4 y9) fu ⟨_,_,_,u5,q7,d,j,B,q,h0,h3,h4,h5,f_v0,f_u5⟩ ?_
 have hr0:=c;clear c q7
 rintro k R w ⟨A,y9,y10,wl_4,c,d,j,B,q,h0,h3,h4,h5,f_v0,f_wl_4⟩
 rcases k with _ | k
 cases (show none=some _ from c)
 rw [zAZ] at c
 refine HT.seq ?_
 refine HT.su d j (eI y10::eR v0::eI (p0.length:Int)::eB (decide (y10<(p0.length:Int)))::[]) ?_ ?_
 exact om h5<|om h0<|op (fun Q U W H D=>zAL (aT:=#[]) ((f_v0.fr W).eq (D.g 0 Z)) underlying26)<|op (fun Q U W H D=>zAg (D.g 0 Z) (D.g 1 Z))<|oz
 intro R w m n p d j
 obtain ⟨h0,h3,h4,h5⟩:=k4 n h0 h3 h4 h5
 have h18:=p.r 3 Z
 replace f_v0:=f_v0.fr m
 replace f_wl_4:=f_wl_4.fr m
 replace q:=q.fr m
 refine HT.cond (decide (y10<(p0.length:Int))) h18 (fun c11=>?_) (fun c11=>?_)
 have c:=zAH c11 c
 refine HT.skip ?_
 refine HT.seq ?_
 refine HT.block ?_
 obtain ⟨e12,c⟩:=zA3 c
 obtain ⟨x13,q14,c⟩:=zA4 c
 obtain ⟨x15,q16,c⟩:=zA4 c
 refine HT.u d j (eR wl_4::eR v0::eI y10::eF (.qtr zA1 A (gtD p0 y10))::eF (.rep zA1 A (gtD p0 y10))::eF (.rep (eSl eStr) A x13)::eF (.rep (eSl eStr) A x15)::eF (.rep (eSl eStr) A x15)::[]) ?_ ?_
 exact om h4<|om h0<|om h5<|op (fun Q U W H D=>zAB ((f_v0.fr W).eq (D.g 0 Z)) (D.g 1 Z) underlying26 sizeOf51 e12)<|op (fun Q U W H D=>(zAf (QRep.ptr (D.g 0 Z)) isAgg51 sizeOf51))<|op (fun Q U W H D=>zAC call37 (zEM (q14 Z) (d.fr W.size) (D.g 0 Z)))<|op (fun Q U W H D=>zAC call36 (zFH (q16 Z) (d.fr W.size) ((f_wl_4.fr W).eq (D.g 0 Z)) (D.g 1 Z)))<|op (fun Q U W H D=>zA0 (D.g 0 Z))<|oz
 intro R w m n p d j
 obtain ⟨h0,h3,h5⟩:=k3 n h0 h3 h5
 obtain ⟨u17,h4,f_u17⟩:∃ u,R 4=u∧Rep (eSl eStr) A w u x15:=⟨_,Z,p 7 _ _ Z Z Z⟩
 replace f_v0:=f_v0.fr m
 replace q:=q.fr m
 obtain ⟨e18,c⟩:=zA3 c
 refine HT.u d j (eI y10::eI (y10+1)::eI (y10+1)::[]) ?_ ?_
 exact om h5<|op (fun Q U W H D=>zAO (D.g 0 Z) Z e18)<|oa<|oz
 intro R w m n p d j
 obtain ⟨h0,h3,h4⟩:=k3 n h0 h3 h4
 have h5:=p.r 2 Z
 replace f_u17:=f_u17.fr m
 replace f_v0:=f_v0.fr m
 replace q:=q.fr m
 exact ei k (And.intro (Nat.lt_succ_self k) ⟨_,_,_,u17,c,d,j,B,q,h0,h3,h4,h5,f_v0,f_u17⟩)
 have c:=zAG c11 c
 refine HT.exit ?_
 obtain rfl:=si c
 exact ei _ ⟨_,wl_4,Z,d,j,B,q,h0,h3,h4,f_v0,f_wl_4⟩
 rintro R w ⟨A,s8,wo_4,es,d,j,B,q,h0,h3,h4,f_v0,f_wo_4⟩
 obtain rfl:=es.symm
 refine HT.seq ?_
 refine HT.su d j (eI 0::[]) ?_ ?_
 exact op (fun Q U W H D=>zA0 Z)<|oz
 intro R w m n p d j
 obtain ⟨h0,h3,h4⟩:=k3 n h0 h3 h4
 have h6:=p.r 0 Z
 replace f_v0:=f_v0.fr m
 replace f_wo_4:=f_wo_4.fr m
 replace q:=q.fr m
 obtain ⟨rl19,q20,c⟩:=zA4 c
 replace q20:=q20 Z
 refine HT.cut0 (fun R w=>∃ A:Av,∃ (s21:(List zAA)) (uo_u1:Value),rl19=s21∧AvOK A w∧Fr w0 w∧(∀ b o,A0 b o→A b o)∧IniOK [ob uo_u1 (.vec w0.heap.size 54 zAD s21)] A w∧R 3=uo_u1) ?_ ?_
 refine HT.block ?_
 refine HT.loop (fun k R w=>∃ A:Av,∃ (y22:Int) (y23:List zAA) (ul_u1:Value),zB0 fu p0 s8 k y22 y23=some rl19∧AvOK A w∧Fr w0 w∧(∀ b o,A0 b o→A b o)∧IniOK [ob ul_u1 (.vec w0.heap.size 54 zAD y23)] A w∧R 0=v0∧R 3=ul_u1∧R 4=wo_4∧R 6 = .int .i64 y22∧Rep (eSl zA1) A w v0 p0∧Rep (eSl eStr) A w wo_4 s8) fu ⟨_,_,_,u1,q20,d,j,B,q,h0,h3,h4,h6,f_v0,f_wo_4⟩ ?_
 have hr0:=c;clear c q20
 rintro k R w ⟨A,y22,y23,ul_u1,c,d,j,B,q,h0,h3,h4,h6,f_v0,f_wo_4⟩
 rcases k with _ | k
 cases (show none=some _ from c)
 rw [zB0] at c
 refine HT.seq ?_
 refine HT.su d j (eI y22::eR wo_4::eI (s8.length:Int)::eB (decide (y22<(s8.length:Int)))::[]) ?_ ?_
 exact om h6<|om h4<|op (fun Q U W H D=>zAL (aT:=#[]) ((f_wo_4.fr W).eq (D.g 0 Z)) underlying34)<|op (fun Q U W H D=>zAg (D.g 0 Z) (D.g 1 Z))<|oz
 intro R w m n p d j
 obtain ⟨h0,h3,h4,h6⟩:=k4 n h0 h3 h4 h6
 have h31:=p.r 3 Z
 replace f_v0:=f_v0.fr m
 replace f_wo_4:=f_wo_4.fr m
 replace q:=q.fr m
 refine HT.cond (decide (y22<(s8.length:Int))) h31 (fun c24=>?_) (fun c24=>?_)
 have c:=zAH c24 c
 refine HT.skip ?_
 refine HT.seq ?_
 refine HT.block ?_
 obtain ⟨e25,c⟩:=zA3 c
 refine HT.sx [ob ul_u1 (.vec w0.heap.size 54 zAD y23)] (rR wo_4::rI y22::(rF fun A=>.qtr eStr A (gtD s8 y22))::(rF fun A=>.rep eStr A (gtD s8 y22))::⟨_,true,[],some (trR (geB w0.heap.size) (oPr (oRd eStr) (oSl 3 (oRd (eInt .i64)))) ((gtD s8 y22),([]:List Int)) []),true,fun A=>.any⟩::⟨_,true,[],some (trR (geB w0.heap.size) (oPt 54 (oPr (oRd eStr) (oSl 3 (oRd (eInt .i64))))) (([]:List UInt8),([]:List Int)) []),true,fun A=>.any⟩::⟨_,true,[6,5],some (trR (geB w0.heap.size) (oPt 54 (oPr (oRd eStr) (oSl 3 (oRd (eInt .i64))))) ((gtD s8 y22),([]:List Int)) []),false,fun A=>.any⟩::[]) (ur (ur (UAll.cons zEA (up (ua (ua (ua (UAll.nil)))))))) q d ?_ ?_
 exact rm h4<|rm h6<|rp (fun V Q U O D=>zAB ((f_wo_4.stp O.stp).eq (D.g 0 Z)) (D.g 1 Z) underlying34 sizeOf9 e25)<|rp (fun V Q U O D=>(zAf (QRep.ptr (D.g 0 Z)) isAgg9 sizeOf9))<|rc (OblR.madeS _ Z Z Z Z fun V Q U O D=>by have a0:Rep eStr V U (Q 37) (gtD s8 y22):=D.g 0 Z;obtain ⟨c26s,c26,c26r⟩:=zHQ a0;exact zLs (v:=.agg #[.string c26s,.slice none 0 0]) (by simp [execOp,Instr.build,zA9,c26,underlying,underlying54,zeroValue54,sizeOf52,sizeOf9,go_sem,Instr.fill]) ⟨⟨_,Z,zFU (zFC c26r) zGi⟩,fun q hq=>by cases hq⟩ (fun k hk=>Nat.le_trans (Nat.le_trans j.size O.ch.size) hk))<|rc (OblR.madeS _ Z Z Z Z fun V Q U O D=>by exact zGD zeroValue54 (fun A w=>zFU (zFC (zHC Z (by decide))) zGi) (fun k hk=>Nat.le_trans (Nat.le_trans j.size O.ch.size) hk))<|rc (OblR.tookM 6 [5] _ Z Z Z Z fun V Q U O D ρ σ X Y J L M hdd=>by have k1:=X 6 (.head _) _ Z;exact zGT Z (zBL k1.2.2).ptr (X 5 (.tail _ (.head _)) _ Z).2.2.1 (L 5 (.tail _ (.head _)) _ _ Z Z Z Z).symm (L 6 (.head _) _ _ Z Z Z Z).symm Y hdd k1.2.1 (X 5 (.tail _ (.head _)) _ Z).2.1 sizeOf54 (fun _ _ _ h=>h))<|rz
 intro done ρ σ A R w y s
 obtain ⟨h0,h3,h4,h6⟩:=k4 s.rg h0 h3 h4 h6
 have z27:=s.inivR 0 Z
 obtain ⟨u28,e_u28⟩:∃ u,ρ 7=u:=⟨_,Z⟩
 have z29:=(s.opnR y 7 6 Z Z Z Z Z).symm.trans e_u28
 have h7:=s.ov y 6 5 z29
 obtain ⟨S30,eS_u28⟩:∃ S,σ 7=S:=⟨_,Z⟩
 replace f_v0:=f_v0.stp s.stp
 replace f_wo_4:=f_wo_4.stp s.stp
 obtain ⟨B,j,d⟩:=s.s B C j q ⟨Z,N⟩
 replace q:=s.left y [(0,ob ul_u1 (.vec w0.heap.size 54 zAD y23)),(7,⟨u28,S30,trR (geB w0.heap.size) (oPt 54 (oPr (oRd eStr) (oSl 3 (oRd (eInt .i64))))) ((gtD s8 y22),([]:List Int)) []⟩)] ⟨Z,Z,z27,Z,Z,⟨Z,Z,e_u28,eS_u28,Z,N⟩⟩
 refine HT.seq ?_
 refine HT.su d j (eI 0::[]) ?_ ?_
 exact op (fun Q U W H D=>zA0 Z)<|oz
 intro R w m n p d j
 obtain ⟨h0,h3,h4,h6,h7⟩:=k5 n h0 h3 h4 h6 h7
 have h8:=p.r 0 Z
 replace f_v0:=f_v0.fr m
 replace f_wo_4:=f_wo_4.fr m
 replace q:=q.fr m
 obtain ⟨rl31,q32,c⟩:=zA4 c
 replace q32:=q32 Z
 refine HT.cut0 (fun R w=>∃ A:Av,∃ (s33:zAA) (So_u28:Nat→Prop),rl31=s33∧AvOK A w∧Fr w0 w∧(∀ b o,A0 b o→A b o)∧IniOK [ob ul_u1 (.vec w0.heap.size 54 zAD y23),⟨u28,So_u28,trR (geB w0.heap.size) (oPt 54 (oPr (oRd eStr) (oSl 3 (oRd (eInt .i64))))) s33 []⟩] A w∧R 0=v0∧R 3=ul_u1∧R 4=wo_4∧R 6 = .int .i64 y22∧R 7=u28∧Rep (eSl zA1) A w v0 p0∧Rep (eSl eStr) A w wo_4 s8) ?_ ?_
 refine HT.block ?_
 refine HT.loop (fun k R w=>∃ A:Av,∃ (y34:Int) (y35:zAA) (Sl_u28:Nat→Prop),zAV fu p0 s8 y22 k y34 y35=some rl31∧AvOK A w∧Fr w0 w∧(∀ b o,A0 b o→A b o)∧IniOK [ob ul_u1 (.vec w0.heap.size 54 zAD y23),⟨u28,Sl_u28,trR (geB w0.heap.size) (oPt 54 (oPr (oRd eStr) (oSl 3 (oRd (eInt .i64))))) y35 []⟩] A w∧R 0=v0∧R 3=ul_u1∧R 4=wo_4∧R 6 = .int .i64 y22∧R 7=u28∧R 8 = .int .i64 y34∧Rep (eSl zA1) A w v0 p0∧Rep (eSl eStr) A w wo_4 s8) fu ⟨_,_,_,S30,q32,d,j,B,q,h0,h3,h4,h6,h7,h8,f_v0,f_wo_4⟩ ?_
 have hr0:=c;clear c q32
 rintro k R w ⟨A,y34,y35,Sl_u28,c,d,j,B,q,h0,h3,h4,h6,h7,h8,f_v0,f_wo_4⟩
 rcases k with _ | k
 cases (show none=some _ from c)
 rw [zAV] at c
 refine HT.seq ?_
 refine HT.su d j (eI y34::eR v0::eI (p0.length:Int)::eB (decide (y34<(p0.length:Int)))::[]) ?_ ?_
 exact om h8<|om h0<|op (fun Q U W H D=>zAL (aT:=#[]) ((f_v0.fr W).eq (D.g 0 Z)) underlying26)<|op (fun Q U W H D=>zAg (D.g 0 Z) (D.g 1 Z))<|oz
 intro R w m n p d j
 obtain ⟨h0,h3,h4,h6,h7,h8⟩:=k6 n h0 h3 h4 h6 h7 h8
 have h42:=p.r 3 Z
 replace f_v0:=f_v0.fr m
 replace f_wo_4:=f_wo_4.fr m
 replace q:=q.fr m
 refine HT.cond (decide (y34<(p0.length:Int))) h42 (fun c36=>?_) (fun c36=>?_)
 have c:=zAH c36 c
 refine HT.skip ?_
 refine HT.seq ?_
 refine HT.block ?_
 refine HT.seq ?_
 obtain ⟨e37,c⟩:=zA3 c
 obtain ⟨x38,q39,c⟩:=zA4 c
 obtain ⟨e40,c⟩:=zA3 c
 obtain ⟨x41,q42,c⟩:=zA4 c
 refine HT.draw (by kernel_rfl) (l:=eR v0::eI y34::eF (.qtr zA1 A (gtD p0 y34))::eF (.rep zA1 A (gtD p0 y34))::eF (.rep (eSl eStr) A x38)::eR wo_4::eI y22::eF (.qtr eStr A (gtD s8 y22))::eF (.rep eStr A (gtD s8 y22))::eB x41::[]) (tl:=[]) (by kernel_rfl) (by kernel_rfl) (by kernel_rfl) (by kernel_rfl) ?_ ?_
 exact om h0<|om h8<|op (fun Q U W H D=>zAB ((f_v0.fr W).eq (D.g 0 Z)) (D.g 1 Z) underlying26 sizeOf51 e37)<|op (fun Q U W H D=>(zAf (QRep.ptr (D.g 0 Z)) isAgg51 sizeOf51))<|op (fun Q U W H D=>zAC call37 (zEM (q39 Z) (d.fr W.size) (D.g 0 Z)))<|om h4<|om h6<|op (fun Q U W H D=>zAB ((f_wo_4.fr W).eq (D.g 0 Z)) (D.g 1 Z) underlying34 sizeOf9 e40)<|op (fun Q U W H D=>(zAf (QRep.ptr (D.g 0 Z)) isAgg9 sizeOf9))<|op (fun Q U W H D=>zAC call38 (zHi (q42 Z) (d.fr W.size) (D.g 0 Z) (D.g 1 Z)))<|oz
 intro R w m n p
 obtain ⟨h0,h3,h4,h6,h7,h8⟩:=k6 n h0 h3 h4 h6 h7 h8
 have h54:=p.r 9 Z
 replace f_v0:=f_v0.fr m
 replace f_wo_4:=f_wo_4.fr m
 replace q:=q.fr m
 replace d:=d.fr m.size
 replace j:=j.trans m
 refine HT.cond x41 h54 (fun c43=>?_) (fun c43=>?_)
 have c:=zAH c43 c
 obtain ⟨h44,p_h44⟩:=((((zBL (q.own 1 _ Z).2).ptr).snd Z)).open1 Z
 replace q:IniOK [ob ul_u1 (.vec w0.heap.size 54 zAD y23),⟨u28,Sl_u28,trR (geB w0.heap.size) (oPt 54 (oPr (oRd eStr) (oSl 3 (oRd (eInt .i64))))) y35 [((padd u28 1),[h44])]⟩] A w:=q.repin 1 Z (trP.pin p_h44)
 obtain ⟨e46,c⟩:=zA3 c
 refine HT.x [ob ul_u1 (.vec w0.heap.size 54 zAD y23),⟨u28,Sl_u28,trR (geB w0.heap.size) (oPt 54 (oPr (oRd eStr) (oSl 3 (oRd (eInt .i64))))) y35 [((padd u28 1),[h44])]⟩] (rR (padd u28 1)::rR h44::rI y34::(rF fun A=>.rep (eSl (eInt .i64)) A ([y34]:List Int))::⟨_,true,[1],some (.gen (geB w0.heap.size) (pdP (oSl 3 (oRd (eInt .i64))) (padd u28 1) (fun z A w S=>(trP (oPt 54 (oPr (oRd eStr) (oSl 3 (oRd (eInt .i64))))) (y35.1,z) []).P A w S u28) (y35.2++([y34]:List Int)))),true,fun A=>.any⟩::rR (padd u28 1)::⟨_,true,[6],some (.gen (geB w0.heap.size) (fixP u28 (trP (oPt 54 (oPr (oRd eStr) (oSl 3 (oRd (eInt .i64))))) (y35.1,(y35.2++([y34]:List Int))) []))),false,fun A=>.any⟩::[]) (ur (ur (ur (up (ua (ur (ua (UAll.nil)))))))) q d ?_ ?_
 exact rp (fun V Q U O D=>zBQ ((zBL (q.own 1 _ Z).2).ptr).ad ((O.old 7 Z).trans h7) zIZ sizeOf52 (by decide) Z)<|rp (fun V Q U O D=>zHJ ((O.rdo 1 _ Z Z).2.2 _ (.head _)) (D.g 0 Z) isAgg52 sizeOf52)<|rm h8<|rp (fun V Q U O D=>zAu [_] (E:=eInt .i64) ⟨(zBp.eq (D.g 0 Z)),N⟩ underlying52 sizeOf3 zeroValue3 Z Z Z O.av)<|rc (OblR.tookS 1 _ _ Z Z Z Z Z fun V Q U O D u S X I Y J L M=>by have a0:Q 56=h44:=D.g 0 Z;have a1:Rep (eSl (eInt .i64)) V U (Q 58) ([y34]:List Int):=D.g 1 Z;have e0:=(J _ Z).1;rw [e0] at I ⊢;exact zJS (((zBL I.2).ptr).snd Z) (I.2.2 _ (.head _)) a0 Y I.1 (fun k hk=>Nat.le_trans (Nat.le_trans j.size O.ch.size) hk) (fun k hk=>SP.lt _ I.2 hk) a1 underlying52 el_3 e46)<|rp (fun V Q U O D=>zBQ ((zBL (q.own 1 _ Z).2).ptr).ad ((O.old 7 Z).trans h7) zIZ sizeOf52 (by decide) Z)<|rc (OblR.tookS 6 _ _ Z Z Z Z Z fun V Q U O D u S X I Y J L M=>by have a0:Q 60=(padd u28 1):=D.g 0 Z;exact zLK I.2 (L _ _ Z Z Z Z).symm a0 Y I.1 sizeOf52 (fun _ _ _ h=>h))<|rz
 intro done ρ σ A R w y s
 obtain ⟨h0,h3,h4,h6,h7,h8⟩:=k6 s.rg h0 h3 h4 h6 h7 h8
 have z47:=s.inivR 0 Z
 obtain ⟨u48,e_u48⟩:∃ u,ρ 8=u:=⟨_,Z⟩
 obtain ⟨S49,eS_u28⟩:∃ S,σ 8=S:=⟨_,Z⟩
 replace f_v0:=f_v0.stp s.stp
 replace f_wo_4:=f_wo_4.stp s.stp
 obtain ⟨B,j,d⟩:=s.s B C j q ⟨Z,⟨fun _ h=>h,N⟩⟩
 replace q:=s.left y [(0,ob ul_u1 (.vec w0.heap.size 54 zAD y23)),(8,⟨u48,S49,.gen (geB w0.heap.size) (fixP u28 (trP (oPt 54 (oPr (oRd eStr) (oSl 3 (oRd (eInt .i64))))) (y35.1,(y35.2++([y34]:List Int))) []))⟩)] ⟨Z,Z,z47,Z,Z,⟨Z,Z,e_u48,eS_u28,Z,N⟩⟩
 replace q:IniOK [ob ul_u1 (.vec w0.heap.size 54 zAD y23),⟨u28,S49,trR (geB w0.heap.size) (oPt 54 (oPr (oRd eStr) (oSl 3 (oRd (eInt .i64))))) (y35.1,(y35.2++([y34]:List Int))) []⟩] A w:=q.refix 1 Z
 obtain ⟨e50,c⟩:=zA3 c
 refine HT.u d j (eI y34::eI (y34+1)::eI (y34+1)::[]) ?_ ?_
 exact om h8<|op (fun Q U W H D=>zAO (D.g 0 Z) Z e50)<|oa<|oz
 intro R w m n p d j
 obtain ⟨h0,h3,h4,h6,h7⟩:=k5 n h0 h3 h4 h6 h7
 have h8:=p.r 2 Z
 replace f_v0:=f_v0.fr m
 replace f_wo_4:=f_wo_4.fr m
 replace q:=q.fr m
 exact ei k (And.intro (Nat.lt_succ_self k) ⟨_,_,_,S49,c,d,j,B,q,h0,h3,h4,h6,h7,h8,f_v0,f_wo_4⟩)
 have c:=zAG c43 c
 refine HT.skip ?_
 obtain ⟨e51,c⟩:=zA3 c
 refine HT.u d j (eI y34::eI (y34+1)::eI (y34+1)::[]) ?_ ?_
 exact om h8<|op (fun Q U W H D=>zAO (D.g 0 Z) Z e51)<|oa<|oz
 intro R w m n p d j
 obtain ⟨h0,h3,h4,h6,h7⟩:=k5 n h0 h3 h4 h6 h7
 have h8:=p.r 2 Z
 replace f_v0:=f_v0.fr m
 replace f_wo_4:=f_wo_4.fr m
 replace q:=q.fr m
 exact ei k (And.intro (Nat.lt_succ_self k) ⟨_,_,_,Sl_u28,c,d,j,B,q,h0,h3,h4,h6,h7,h8,f_v0,f_wo_4⟩)
 have c:=zAG c36 c
 refine HT.exit ?_
 obtain rfl:=si c
 exact ei _ ⟨_,Sl_u28,Z,d,j,B,q,h0,h3,h4,h6,h7,f_v0,f_wo_4⟩
 rintro R w ⟨A,s33,So_u28,es,d,j,B,q,h0,h3,h4,h6,h7,f_v0,f_wo_4⟩
 obtain rfl:=es.symm
 obtain ⟨e52,c⟩:=zA3 c
 refine HT.x [ob ul_u1 (.vec w0.heap.size 54 zAD y23),⟨u28,So_u28,trR (geB w0.heap.size) (oPt 54 (oPr (oRd eStr) (oSl 3 (oRd (eInt .i64))))) s33 []⟩] (rR ul_u1::⟨_,true,[1],some (.nul),false,fun A=>.rep zAD A s33⟩::(rF fun A=>.rep (eSl zAD) A ([s33]:List zAA))::⟨_,true,[0],some (.vec w0.heap.size 54 zAD (y23++([s33]:List zAA))),true,fun A=>.any⟩::⟨_,true,[5],some (.vec w0.heap.size 54 zAD (y23++([s33]:List zAA))),true,fun A=>.any⟩::[]) (ur (up (up (ua (ua (UAll.nil)))))) q d ?_ ?_
 exact rm h3<|rc (OblR.tookS 1 .nul _ Z Z Z Z Z fun V Q U O D u S X I Y J L M=>by have a0:Q 7=u28:=(O.old 7 Z).trans h7;exact zLQ I.2 (a0.trans (J _ Z).1.symm) Y isAgg54 sizeOf54)<|rp (fun V Q U O D=>zAu [_] (E:=zAD) ⟨(D.g 0 Z),N⟩ underlying24 sizeOf54 zeroValue54 Z Z Z O.av)<|rc (OblR.took 0 _ _ Z Z Z Z Z fun V Q U O D u X Y J L M=>by have a0:Q 61=ul_u1:=D.g 0 Z;have a1:Rep (eSl zAD) V U (Q 63) ([s33]:List zAA):=D.g 1 Z;exact zAS (a0.trans (J _ Z).symm) X Y (Nat.le_trans j.size O.ch.size) a1 underlying24 zO9 e52)<|rc (OblR.took 5 _ _ Z Z Z Z Z fun V Q U O D u X Y J L M=>by exact zA8 (L _ _ Z Z Z Z).symm X Y)<|rz
 intro done ρ σ A R w y s
 obtain ⟨h0,h4,h6⟩:=k3 s.rg h0 h4 h6
 obtain ⟨u53,e_u53⟩:∃ u,ρ 6=u:=⟨_,Z⟩
 have h3:=s.ov y 6 4 e_u53
 replace f_v0:=f_v0.stp s.stp
 replace f_wo_4:=f_wo_4.stp s.stp
 obtain ⟨B,j,d⟩:=s.s B C j q ⟨Z,⟨fun _ h=>h,N⟩⟩
 replace q:=s.left y [(6,ob u53 (.vec w0.heap.size 54 zAD (y23++([s33]:List zAA))))] ⟨Z,Z,e_u53,Z,Z,N⟩
 obtain ⟨e54,c⟩:=zA3 c
 refine HT.u d j (eI y22::eI (y22+1)::eI (y22+1)::[]) ?_ ?_
 exact om h6<|op (fun Q U W H D=>zAO (D.g 0 Z) Z e54)<|oa<|oz
 intro R w m n p d j
 obtain ⟨h0,h3,h4⟩:=k3 n h0 h3 h4
 have h6:=p.r 2 Z
 replace f_v0:=f_v0.fr m
 replace f_wo_4:=f_wo_4.fr m
 replace q:=q.fr m
 exact ei k (And.intro (Nat.lt_succ_self k) ⟨_,_,_,u53,c,d,j,B,q,h0,h3,h4,h6,f_v0,f_wo_4⟩)
 have c:=zAG c24 c
 refine HT.exit ?_
 obtain rfl:=si c
 exact ei _ ⟨_,ul_u1,Z,d,j,B,q,h3⟩
 rintro R w ⟨A,s21,uo_u1,es,d,j,B,q,h3⟩
 obtain rfl:=es.symm
 refine HT.su d j (eR uo_u1::eR uo_u1::[]) ?_ ?_
 exact om h3<|oa<|oz
 intro R w m n p d j
 have h2:=p.r 1 Z
 replace q:=q.fr m
 refine HT.ret ?_
 obtain rfl:=si c
 exact ⟨.inr Z,[R 2],⟨Z,N⟩,(zBu (q.ok 0 _ Z) B h2),j⟩
theorem zFI {fu : Nat} {A0 : Av} {p0 : List zA2} {r : List zAA} (c : zC8 fu p0 = some r) {w : World} {v0 : Value} (d : AvOK A0 w) (h0 : Rep (eSl zA1) A0 w v0 p0) :
 Calls prog 9 #[v0] w fun e w'=>∃ v,e = .returned v∧(Rep (eSl zAD) A0 w' v r∧Fr w w'):=by
 refine Calls.mono (zFL c d h0) ?_
 rintro e w' ⟨v,he,hv,hf⟩
 exact ⟨v,he,zBf hv (fun b o h=>.inl h) d,hf⟩
def zAF (fu : Nat) (p0 : List zA2) (p1 : zA2 → Option Bool) : Nat → Int → Option (Ex Int Unit)
 | 0,_=>none
 | k+1,y4=>
 bif (decide (y4<(p0.length:Int))) then (
 ck (inR y4 p0.length) <|
 cl true (p1 (gtD p0 y4)) fun x7=>
 bif x7 then (
 some (Ex.ret y4)
 ) else (
 ck (i64B (y4+1)) <|
 zAF fu p0 p1 k (y4+1)
 )
 ) else (
 some (Ex.go ())
 )
def zAi (fu:Nat) (p0:List zA2) (p1:zA2→Option Bool):Option Int:=
 cl true (zAF fu p0 p1 fu 0) fun rl1=>
 exM rl1 (fun r=>some r) fun s3=>
 some (-1)
theorem zCe {fu : Nat} {A : Av} {p0 : List zA2} {p1 : zA2 → Option Bool} {r : Int} (c : zAi fu p0 p1 = some r) {w : World} {v0 : Value} {v1 : Value} (d : AvOK A w) (h0 : Rep (eSl zA1) A w v0 p0) (h1 : FnB1 prog zA1 (fun r => .raw (.bool r)) A w v1 p1) :
 Calls prog 99 #[v0,v1] w fun e w'=>∃ v,e = .returned v∧(v = .int .i64 r∧Fr w w'):=by
 unfold zAi at c
 obtain ⟨w0,hw0,j⟩:=pf w
 rw [fw hw0]
 have f_v1:FnB1 prog zA1 (fun r=>.raw (.bool r)) A w0 v1 p1:=hw0 ▸ h1
 refine zA5 [.tmp 4] func99 ntmps99 (by decide) Z Z (nb Z) ?_
 intro R hR
 have f_v0:=h0
 replace h0:R 0=v0:=hR 0 _ Z
 replace h1:R 1=v1:=hR 1 _ Z
 refine HT.su d j (eI 0::[]) ?_ ?_
 exact op (fun Q U W H D=>zA0 Z)<|oz
 intro R w m n p d j
 obtain ⟨h0,h1⟩:=k2 n h0 h1
 replace f_v0:=f_v0.fr m
 refine HT.seq ?_
 refine HT.su d j (eR v0::eI (p0.length:Int)::eI 0::[]) ?_ ?_
 exact om h0<|op (fun Q U W H D=>zAL (aT:=#[]) ((f_v0.fr W).eq (D.g 0 Z)) underlying26)<|op (fun Q U W H D=>zC1 Z)<|oz
 intro R w m n p d j
 obtain ⟨h0,h1⟩:=k2 n h0 h1
 have h7:=p.r 1 Z
 have h8:=p.r 2 Z
 replace f_v0:=f_v0.fr m
 obtain ⟨rl1,q2,c⟩:=zA4 c
 replace q2:=q2 Z
 refine HT.cut0 (fun R w=>∃ (s3:Unit),rl1=Ex.go s3∧AvOK A w∧Fr w0 w) ?_ ?_
 refine HT.block ?_
 refine HT.loop (fun k R w=>∃ (y4:Int),zAF fu p0 p1 k y4=some rl1∧AvOK A w∧Fr w0 w∧R 0=v0∧R 1=v1∧R 7 = .int .i64 (p0.length:Int)∧R 8 = .int .i64 y4∧Rep (eSl zA1) A w v0 p0) fu ⟨_,q2,d,j,h0,h1,h7,h8,f_v0⟩ ?_
 have hr0:=c;clear c q2
 rintro k R w ⟨y4,c,d,j,h0,h1,h7,h8,f_v0⟩
 rcases k with _ | k
 cases (show none=some _ from c)
 rw [zAF] at c
 refine HT.su d j (eB (decide (y4<(p0.length:Int)))::[]) ?_ ?_
 exact op (fun Q U W H D=>zAg ((H 8 Z).trans h8) ((H 7 Z).trans h7))<|oz
 intro R w m n p d j
 obtain ⟨h0,h1,h7,h8⟩:=k4 n h0 h1 h7 h8
 have h9:=p.r 0 Z
 replace f_v0:=f_v0.fr m
 refine HT.seq ?_
 refine HT.cond (decide (y4<(p0.length:Int))) h9 (fun c5=>?_) (fun c5=>?_)
 have c:=zAH c5 c
 refine HT.skip ?_
 refine HT.seq ?_
 refine HT.block ?_
 refine HT.su d j (eI y4::eI y4::[]) ?_ ?_
 exact om h8<|oa<|oz
 intro R w m n p d j
 obtain ⟨h0,h1,h7,h8⟩:=k4 n h0 h1 h7 h8
 have h5:=p.r 1 Z
 replace f_v0:=f_v0.fr m
 obtain ⟨e6,c⟩:=zA3 c
 obtain ⟨x7,q8,c⟩:=zA4 c
 refine HT.su d j (eR v1::eR v0::eI y4::eF (.qtr zA1 A (gtD p0 y4))::eF (.rep zA1 A (gtD p0 y4))::eB x7::[]) ?_ ?_
 exact om h1<|om h0<|om h5<|op (fun Q U W H D=>zAB ((f_v0.fr W).eq (D.g 0 Z)) (D.g 1 Z) underlying26 sizeOf51 e6)<|op (fun Q U W H D=>(zAf (QRep.ptr (D.g 0 Z)) isAgg51 sizeOf51))<|op (fun Q U W H D=>zIg (D.g 0 Z) (f_v1 _ _ (q8 Z) _ _ ((j.trans W).ch _) (d.fr W.size) (D.g 1 Z)))<|oz
 intro R w m n p d j
 obtain ⟨h0,h1,h5,h7,h8⟩:=k5 n h0 h1 h5 h7 h8
 have h16:=p.r 5 Z
 replace f_v0:=f_v0.fr m
 refine HT.cond x7 h16 (fun c9=>?_) (fun c9=>?_)
 have c:=zAH c9 c
 refine HT.su d j (eI y4::eI y4::[]) ?_ ?_
 exact om h5<|oa<|oz
 intro R w m n p d j
 have h4:=p.r 1 Z
 refine HT.ret ?_
 obtain rfl:=si c
 have c:=hr0
 replace c:some _=some _:=c
 obtain rfl:=si c
 exact ⟨.inr Z,[R 4],⟨Z,N⟩,h4,j⟩
 have c:=zAG c9 c
 refine HT.skip ?_
 obtain ⟨e10,c⟩:=zA3 c
 refine HT.u d j (eI (y4+1)::eI (y4+1)::[]) ?_ ?_
 exact op (fun Q U W H D=>zAO ((H 8 Z).trans h8) Z e10)<|ov<|oz
 intro R w m n p d j
 obtain ⟨h0,h1,h7⟩:=k3 n h0 h1 h7
 have h8:=p.r 1 Z
 replace f_v0:=f_v0.fr m
 exact ei k (And.intro (Nat.lt_succ_self k) ⟨_,c,d,j,h0,h1,h7,h8,f_v0⟩)
 have c:=zAG c5 c
 refine HT.exit ?_
 obtain rfl:=si c
 exact ei _ ⟨Z,d,j⟩
 rintro R w ⟨s3,rfl,d,j⟩
 have c:=zEN c
 refine HT.su d j (eI (-1)::[]) ?_ ?_
 exact op (fun Q U W H D=>zA0 Z)<|oz
 intro R w m n p d j
 have h4:=p.r 0 Z
 refine HT.ret ?_
 obtain rfl:=si c
 exact ⟨.inr Z,[R 4],⟨Z,N⟩,h4,j⟩
def zAQ (fu:Nat) (p0:List zA2) (p1:zA2→Option Bool):Option Bool:=
 cl true (zAi fu p0 p1) fun x1=>
 some (decide (0≤x1))
theorem zCV {fu : Nat} {A : Av} {p0 : List zA2} {p1 : zA2 → Option Bool} {r : Bool} (c : zAQ fu p0 p1 = some r) {w : World} {v0 : Value} {v1 : Value} (d : AvOK A w) (h0 : Rep (eSl zA1) A w v0 p0) (h1 : FnB1 prog zA1 (fun r => .raw (.bool r)) A w v1 p1) :
 Calls prog 67 #[v0,v1] w fun e w'=>∃ v,e = .returned v∧(v = .bool r∧Fr w w'):=by
 unfold zAQ at c
 obtain ⟨w0,hw0,j⟩:=pf w
 rw [fw hw0]
 have f_v1:FnB1 prog zA1 (fun r=>.raw (.bool r)) A w0 v1 p1:=hw0 ▸ h1
 refine zA5 [.tmp 4] func67 ntmps67 (by decide) Z Z (nb Z) ?_
 intro R hR
 have f_v0:=h0
 replace h0:R 0=v0:=hR 0 _ Z
 replace h1:R 1=v1:=hR 1 _ Z
 refine HT.su d j (eB false::[]) ?_ ?_
 exact op (fun Q U W H D=>zA0 Z)<|oz
 intro R w m n p d j
 obtain ⟨h0,h1⟩:=k2 n h0 h1
 replace f_v0:=f_v0.fr m
 obtain ⟨x1,q2,c⟩:=zA4 c
 refine HT.su d j (eR v0::eR v1::eI x1::eB (decide (0≤x1))::eB (decide (0≤x1))::[]) ?_ ?_
 exact om h0<|om h1<|op (fun Q U W H D=>zAC call99 (zCe (q2 Z) (d.fr W.size) ((f_v0.fr W).eq (D.g 0 Z)) ((f_v1.on (j.trans W) (fun _ _ h=>h)).eq (D.g 1 Z))))<|op (fun Q U W H D=>zDj (D.g 0 Z) Z)<|oa<|oz
 intro R w m n p d j
 have h4:=p.r 4 Z
 refine HT.ret ?_
 obtain rfl:=si c
 exact ⟨.inr Z,[R 4],⟨Z,N⟩,h4,j⟩
def zBh (fu:Nat) (p0:Int) (p1:Int) (p2:Int):Option Bool:=
 bd ((decide (p1≤p0))&&(decide (p0≤p2))) fun x1=>
 some x1
theorem zCS {fu : Nat} {A : Av} {p0 : Int} {p1 : Int} {p2 : Int} {r : Bool} (c : zBh fu p0 p1 p2 = some r) {w : World} {v0 : Value} {v1 : Value} {v2 : Value} (d : AvOK A w) (h0 : v0 = .int .i64 p0) (h1 : v1 = .int .i64 p1) (h2 : v2 = .int .i64 p2) :
 Calls prog 89 #[v0,v1,v2] w fun e w'=>∃ v,e = .returned v∧(v = .bool r∧Fr w w'):=by
 unfold zBh at c
 obtain ⟨w0,hw0,j⟩:=pf w
 rw [fw hw0]
 refine zA5 [.tmp 6] func89 ntmps89 (by decide) Z Z (nb Z) ?_
 intro R hR
 replace h0:R 0 = .int .i64 p0:=(hR 0 _ Z).trans h0
 replace h1:R 1 = .int .i64 p1:=(hR 1 _ Z).trans h1
 replace h2:R 2 = .int .i64 p2:=(hR 2 _ Z).trans h2
 refine HT.su d j (eB false::[]) ?_ ?_
 exact op (fun Q U W H D=>zA0 Z)<|oz
 intro R w m n p d j
 obtain ⟨h0,h1,h2⟩:=k3 n h0 h1 h2
 refine HT.seq ?_
 obtain ⟨x1,q2,c⟩:=zAW c
 refine HT.u d j (eI p0::eI p1::eB (decide (p1≤p0))::eB (decide (p1≤p0))::gI (true&&((decide (p1≤p0))==true)) p0::gI (true&&((decide (p1≤p0))==true)) p2::gB (true&&((decide (p1≤p0))==true)) (decide (p0≤p2))::eB x1::eB x1::[]) ?_ ?_
 exact om h0<|om h1<|op (fun Q U W H D=>zDj (D.g 0 Z) (D.g 1 Z))<|ov<|gm 3 true h0<|gm 3 true h2<|og 3 true (fun G Q U W H D=>zEF (D.h 0 G Z) (D.h 1 G Z))<|op (fun Q U W H D=>zAc (decide (p1≤p0)) (D.g 0 Z) (fun hc=>by have a1:Q 13 = .bool (decide (p0≤p2)):=D 1 _ _ _ Z Z Z Z (zC5 Z (zB5 hc));show _=Value.bool x1;rw [q2,hc];exact a1) (fun hc=>by show _=Value.bool x1;rw [q2,hc];exact Z))<|oa<|oz
 intro R w m n p d j
 have h6:=p.r 8 Z
 refine HT.ret ?_
 obtain rfl:=si c
 exact ⟨.inr Z,[R 6],⟨Z,N⟩,h6,j⟩
def zAP (fu : Nat) (p0 : List (List UInt8)) (p1 : (List UInt8) → Option Bool) : Nat → Int → Option (Ex Int Unit)
 | 0,_=>none
 | k+1,y4=>
 bif (decide (y4<(p0.length:Int))) then (
 ck (inR y4 p0.length) <|
 cl true (p1 (gtD p0 y4)) fun x7=>
 bif x7 then (
 some (Ex.ret y4)
 ) else (
 ck (i64B (y4+1)) <|
 zAP fu p0 p1 k (y4+1)
 )
 ) else (
 some (Ex.go ())
 )
def zBA (fu:Nat) (p0:List (List UInt8)) (p1:(List UInt8)→Option Bool):Option Int:=
 cl true (zAP fu p0 p1 fu 0) fun rl1=>
 exM rl1 (fun r=>some r) fun s3=>
 some (-1)
theorem zDa {fu : Nat} {A : Av} {p0 : List (List UInt8)} {p1 : (List UInt8) → Option Bool} {r : Int} (c : zBA fu p0 p1 = some r) {w : World} {v0 : Value} {v1 : Value} (d : AvOK A w) (h0 : Rep (eSl eStr) A w v0 p0) (h1 : FnB1 prog eStr (fun r => .raw (.bool r)) A w v1 p1) :
 Calls prog 121 #[v0,v1] w fun e w'=>∃ v,e = .returned v∧(v = .int .i64 r∧Fr w w'):=by
 unfold zBA at c
 obtain ⟨w0,hw0,j⟩:=pf w
 rw [fw hw0]
 have f_v1:FnB1 prog eStr (fun r=>.raw (.bool r)) A w0 v1 p1:=hw0 ▸ h1
 refine zA5 [.tmp 4] func121 ntmps121 (by decide) Z Z (nb Z) ?_
 intro R hR
 have f_v0:=h0
 replace h0:R 0=v0:=hR 0 _ Z
 replace h1:R 1=v1:=hR 1 _ Z
 refine HT.su d j (eI 0::[]) ?_ ?_
 exact op (fun Q U W H D=>zA0 Z)<|oz
 intro R w m n p d j
 obtain ⟨h0,h1⟩:=k2 n h0 h1
 replace f_v0:=f_v0.fr m
 refine HT.seq ?_
 refine HT.su d j (eR v0::eI (p0.length:Int)::eI 0::[]) ?_ ?_
 exact om h0<|op (fun Q U W H D=>zAL (aT:=#[]) ((f_v0.fr W).eq (D.g 0 Z)) underlying34)<|op (fun Q U W H D=>zC1 Z)<|oz
 intro R w m n p d j
 obtain ⟨h0,h1⟩:=k2 n h0 h1
 have h7:=p.r 1 Z
 have h8:=p.r 2 Z
 replace f_v0:=f_v0.fr m
 obtain ⟨rl1,q2,c⟩:=zA4 c
 replace q2:=q2 Z
 refine HT.cut0 (fun R w=>∃ (s3:Unit),rl1=Ex.go s3∧AvOK A w∧Fr w0 w) ?_ ?_
 refine HT.block ?_
 refine HT.loop (fun k R w=>∃ (y4:Int),zAP fu p0 p1 k y4=some rl1∧AvOK A w∧Fr w0 w∧R 0=v0∧R 1=v1∧R 7 = .int .i64 (p0.length:Int)∧R 8 = .int .i64 y4∧Rep (eSl eStr) A w v0 p0) fu ⟨_,q2,d,j,h0,h1,h7,h8,f_v0⟩ ?_
 have hr0:=c;clear c q2
 rintro k R w ⟨y4,c,d,j,h0,h1,h7,h8,f_v0⟩
 rcases k with _ | k
 cases (show none=some _ from c)
 rw [zAP] at c
 refine HT.su d j (eB (decide (y4<(p0.length:Int)))::[]) ?_ ?_
 exact op (fun Q U W H D=>zAg ((H 8 Z).trans h8) ((H 7 Z).trans h7))<|oz
 intro R w m n p d j
 obtain ⟨h0,h1,h7,h8⟩:=k4 n h0 h1 h7 h8
 have h9:=p.r 0 Z
 replace f_v0:=f_v0.fr m
 refine HT.seq ?_
 refine HT.cond (decide (y4<(p0.length:Int))) h9 (fun c5=>?_) (fun c5=>?_)
 have c:=zAH c5 c
 refine HT.skip ?_
 refine HT.seq ?_
 refine HT.block ?_
 refine HT.su d j (eI y4::eI y4::[]) ?_ ?_
 exact om h8<|oa<|oz
 intro R w m n p d j
 obtain ⟨h0,h1,h7,h8⟩:=k4 n h0 h1 h7 h8
 have h5:=p.r 1 Z
 replace f_v0:=f_v0.fr m
 obtain ⟨e6,c⟩:=zA3 c
 obtain ⟨x7,q8,c⟩:=zA4 c
 refine HT.su d j (eR v1::eR v0::eI y4::eF (.qtr eStr A (gtD p0 y4))::eF (.rep eStr A (gtD p0 y4))::eB x7::[]) ?_ ?_
 exact om h1<|om h0<|om h5<|op (fun Q U W H D=>zAB ((f_v0.fr W).eq (D.g 0 Z)) (D.g 1 Z) underlying34 sizeOf9 e6)<|op (fun Q U W H D=>(zAf (QRep.ptr (D.g 0 Z)) isAgg9 sizeOf9))<|op (fun Q U W H D=>zIg (D.g 0 Z) (f_v1 _ _ (q8 Z) _ _ ((j.trans W).ch _) (d.fr W.size) (D.g 1 Z)))<|oz
 intro R w m n p d j
 obtain ⟨h0,h1,h5,h7,h8⟩:=k5 n h0 h1 h5 h7 h8
 have h16:=p.r 5 Z
 replace f_v0:=f_v0.fr m
 refine HT.cond x7 h16 (fun c9=>?_) (fun c9=>?_)
 have c:=zAH c9 c
 refine HT.su d j (eI y4::eI y4::[]) ?_ ?_
 exact om h5<|oa<|oz
 intro R w m n p d j
 have h4:=p.r 1 Z
 refine HT.ret ?_
 obtain rfl:=si c
 have c:=hr0
 replace c:some _=some _:=c
 obtain rfl:=si c
 exact ⟨.inr Z,[R 4],⟨Z,N⟩,h4,j⟩
 have c:=zAG c9 c
 refine HT.skip ?_
 obtain ⟨e10,c⟩:=zA3 c
 refine HT.u d j (eI (y4+1)::eI (y4+1)::[]) ?_ ?_
 exact op (fun Q U W H D=>zAO ((H 8 Z).trans h8) Z e10)<|ov<|oz
 intro R w m n p d j
 obtain ⟨h0,h1,h7⟩:=k3 n h0 h1 h7
 have h8:=p.r 1 Z
 replace f_v0:=f_v0.fr m
 exact ei k (And.intro (Nat.lt_succ_self k) ⟨_,c,d,j,h0,h1,h7,h8,f_v0⟩)
 have c:=zAG c5 c
 refine HT.exit ?_
 obtain rfl:=si c
 exact ei _ ⟨Z,d,j⟩
 rintro R w ⟨s3,rfl,d,j⟩
 have c:=zEN c
 refine HT.su d j (eI (-1)::[]) ?_ ?_
 exact op (fun Q U W H D=>zA0 Z)<|oz
 intro R w m n p d j
 have h4:=p.r 0 Z
 refine HT.ret ?_
 obtain rfl:=si c
 exact ⟨.inr Z,[R 4],⟨Z,N⟩,h4,j⟩
def zAj (fu:Nat) (p0:List (List UInt8)) (p1:(List UInt8)→Option Bool):Option Bool:=
 cl true (zBA fu p0 p1) fun x1=>
 some (decide (0≤x1))
theorem zDI {fu : Nat} {A : Av} {p0 : List (List UInt8)} {p1 : (List UInt8) → Option Bool} {r : Bool} (c : zAj fu p0 p1 = some r) {w : World} {v0 : Value} {v1 : Value} (d : AvOK A w) (h0 : Rep (eSl eStr) A w v0 p0) (h1 : FnB1 prog eStr (fun r => .raw (.bool r)) A w v1 p1) :
 Calls prog 90 #[v0,v1] w fun e w'=>∃ v,e = .returned v∧(v = .bool r∧Fr w w'):=by
 unfold zAj at c
 obtain ⟨w0,hw0,j⟩:=pf w
 rw [fw hw0]
 have f_v1:FnB1 prog eStr (fun r=>.raw (.bool r)) A w0 v1 p1:=hw0 ▸ h1
 refine zA5 [.tmp 4] func90 ntmps90 (by decide) Z Z (nb Z) ?_
 intro R hR
 have f_v0:=h0
 replace h0:R 0=v0:=hR 0 _ Z
 replace h1:R 1=v1:=hR 1 _ Z
 refine HT.su d j (eB false::[]) ?_ ?_
 exact op (fun Q U W H D=>zA0 Z)<|oz
 intro R w m n p d j
 obtain ⟨h0,h1⟩:=k2 n h0 h1
 replace f_v0:=f_v0.fr m
 obtain ⟨x1,q2,c⟩:=zA4 c
 refine HT.su d j (eR v0::eR v1::eI x1::eB (decide (0≤x1))::eB (decide (0≤x1))::[]) ?_ ?_
 exact om h0<|om h1<|op (fun Q U W H D=>zAC call121 (zDa (q2 Z) (d.fr W.size) ((f_v0.fr W).eq (D.g 0 Z)) ((f_v1.on (j.trans W) (fun _ _ h=>h)).eq (D.g 1 Z))))<|op (fun Q U W H D=>zDj (D.g 0 Z) Z)<|oa<|oz
 intro R w m n p d j
 have h4:=p.r 4 Z
 refine HT.ret ?_
 obtain rfl:=si c
 exact ⟨.inr Z,[R 4],⟨Z,N⟩,h4,j⟩
def zCB (fu : Nat) (p0 : List UInt8) : Nat → Int → Option (Ex Bool Unit)
 | 0,_=>none
 | k+1,y4=>
 bif (decide (y4<(p0.length:Int))) then (
 ck (inR y4 p0.length) <|
 cl true (zBh fu (IntKind.i64.wrap (bAt p0 y4)) 32 126) fun x7=>
 bif (!x7) then (
 some (Ex.ret false)
 ) else (
 ck (i64B (y4+1)) <|
 zCB fu p0 k (y4+1)
 )
 ) else (
 some (Ex.go ())
 )
def zDp (fu:Nat) (p0:List UInt8):Option Bool:=
 cl true (zCB fu p0 fu 0) fun rl1=>
 exM rl1 (fun r=>some r) fun s3=>
 some (decide ((p0.length:Int)≤40))
theorem zH5 {fu : Nat} {A : Av} {p0 : List UInt8} {r : Bool} (c : zDp fu p0 = some r) {w : World} {v0 : Value} (d : AvOK A w) (h0 : Rep eStr A w v0 p0) :
 Calls prog 123 #[v0] w fun e w'=>∃ v,e = .returned v∧(v = .bool r∧Fr w w'):=by
 unfold zDp at c
 obtain ⟨w0,hw0,j⟩:=pf w
 rw [fw hw0]
 refine zA5 [.tmp 2] func123 ntmps123 (by decide) Z Z (nb Z) ?_
 intro R hR
 have f_v0:=h0
 replace h0:R 0=v0:=hR 0 _ Z
 refine HT.su d j (eB false::[]) ?_ ?_
 exact op (fun Q U W H D=>zA0 Z)<|oz
 intro R w m n p d j
 replace h0:=k1 n h0
 replace f_v0:=f_v0.fr m
 refine HT.seq ?_
 refine HT.su d j (eR v0::eI (p0.length:Int)::eI 0::[]) ?_ ?_
 exact om h0<|op (fun Q U W H D=>zAd ((f_v0.fr W).eq (D.g 0 Z)) underlying9)<|op (fun Q U W H D=>zC1 Z)<|oz
 intro R w m n p d j
 replace h0:=k1 n h0
 have h5:=p.r 1 Z
 have h6:=p.r 2 Z
 replace f_v0:=f_v0.fr m
 obtain ⟨rl1,q2,c⟩:=zA4 c
 replace q2:=q2 Z
 refine HT.cut0 (fun R w=>∃ (s3:Unit),rl1=Ex.go s3∧AvOK A w∧Fr w0 w∧R 0=v0∧Rep eStr A w v0 p0) ?_ ?_
 refine HT.block ?_
 refine HT.loop (fun k R w=>∃ (y4:Int),zCB fu p0 k y4=some rl1∧AvOK A w∧Fr w0 w∧R 0=v0∧R 5 = .int .i64 (p0.length:Int)∧R 6 = .int .i64 y4∧Rep eStr A w v0 p0) fu ⟨_,q2,d,j,h0,h5,h6,f_v0⟩ ?_
 have hr0:=c;clear c q2
 rintro k R w ⟨y4,c,d,j,h0,h5,h6,f_v0⟩
 rcases k with _ | k
 cases (show none=some _ from c)
 rw [zCB] at c
 refine HT.su d j (eB (decide (y4<(p0.length:Int)))::[]) ?_ ?_
 exact op (fun Q U W H D=>zAg ((H 6 Z).trans h6) ((H 5 Z).trans h5))<|oz
 intro R w m n p d j
 obtain ⟨h0,h5,h6⟩:=k3 n h0 h5 h6
 have h7:=p.r 0 Z
 replace f_v0:=f_v0.fr m
 refine HT.seq ?_
 refine HT.cond (decide (y4<(p0.length:Int))) h7 (fun c5=>?_) (fun c5=>?_)
 have c:=zAH c5 c
 refine HT.skip ?_
 refine HT.seq ?_
 refine HT.block ?_
 refine HT.su d j (eI y4::eI y4::[]) ?_ ?_
 exact om h6<|oa<|oz
 intro R w m n p d j
 obtain ⟨h0,h5,h6⟩:=k3 n h0 h5 h6
 have h3:=p.r 1 Z
 replace f_v0:=f_v0.fr m
 obtain ⟨e6,c⟩:=zA3 c
 obtain ⟨x7,q8,c⟩:=zA4 c
 refine HT.su d j (eR v0::eI y4::eU (bAt p0 y4)::eI (IntKind.i64.wrap (bAt p0 y4))::eB x7::eB (!x7)::[]) ?_ ?_
 exact om h0<|om h3<|op (fun Q U W H D=>zAR ((f_v0.fr W).eq (D.g 0 Z)) (D.g 1 Z) underlying9 e6)<|op (fun Q U W H D=>zDg (D.g 0 Z) underlying5 underlying3)<|op (fun Q U W H D=>zAC call89 (zCS (q8 Z) (d.fr W.size) (D.g 0 Z) Z Z))<|op (fun Q U W H D=>zCk (D.g 0 Z))<|oz
 intro R w m n p d j
 obtain ⟨h0,h5,h6⟩:=k3 n h0 h5 h6
 have h14:=p.r 5 Z
 replace f_v0:=f_v0.fr m
 refine HT.cond (!x7) h14 (fun c9=>?_) (fun c9=>?_)
 have c:=zAH c9 c
 refine HT.su d j (eB false::[]) ?_ ?_
 exact op (fun Q U W H D=>zA0 Z)<|oz
 intro R w m n p d j
 have h2:=p.r 0 Z
 refine HT.ret ?_
 obtain rfl:=si c
 have c:=hr0
 replace c:some _=some _:=c
 obtain rfl:=si c
 exact ⟨.inr Z,[R 2],⟨Z,N⟩,h2,j⟩
 have c:=zAG c9 c
 refine HT.skip ?_
 obtain ⟨e10,c⟩:=zA3 c
 refine HT.u d j (eI (y4+1)::eI (y4+1)::[]) ?_ ?_
 exact op (fun Q U W H D=>zAO ((H 6 Z).trans h6) Z e10)<|ov<|oz
 intro R w m n p d j
 obtain ⟨h0,h5⟩:=k2 n h0 h5
 have h6:=p.r 1 Z
 replace f_v0:=f_v0.fr m
 exact ei k (And.intro (Nat.lt_succ_self k) ⟨_,c,d,j,h0,h5,h6,f_v0⟩)
 have c:=zAG c5 c
 refine HT.exit ?_
 obtain rfl:=si c
 exact ei _ ⟨Z,d,j,h0,f_v0⟩
 rintro R w ⟨s3,rfl,d,j,h0,f_v0⟩
 have c:=zEN c
 refine HT.su d j (eR v0::eI (p0.length:Int)::eB (decide ((p0.length:Int)≤40))::eB (decide ((p0.length:Int)≤40))::[]) ?_ ?_
 exact om h0<|op (fun Q U W H D=>zAd ((f_v0.fr W).eq (D.g 0 Z)) underlying9)<|op (fun Q U W H D=>zEF (D.g 0 Z) Z)<|oa<|oz
 intro R w m n p d j
 have h2:=p.r 3 Z
 refine HT.ret ?_
 obtain rfl:=si c
 exact ⟨.inr Z,[R 2],⟨Z,N⟩,h2,j⟩
def zDP (fu:Nat) (p0:List UInt8):Option Bool:=
 cl true (zDp fu p0) fun x1=>
 cl (true&&(x1==true)) (zF4 fu p0 ([124,59]:List UInt8)) fun x3=>
 bd (x1&&(!x3)) fun x5=>
 some x5
theorem zGq {fu : Nat} {A : Av} {p0 : List UInt8} {r : Bool} (c : zDP fu p0 = some r) {w : World} {v0 : Value} (d : AvOK A w) (h0 : Rep eStr A w v0 p0) :
 Calls prog 92 #[v0] w fun e w'=>∃ v,e = .returned v∧(v = .bool r∧Fr w w'):=by
 unfold zDP at c
 obtain ⟨w0,hw0,j⟩:=pf w
 rw [fw hw0]
 refine zA5 [.tmp 2] func92 ntmps92 (by decide) Z Z (nb Z) ?_
 intro R hR
 have f_v0:=h0
 replace h0:R 0=v0:=hR 0 _ Z
 refine HT.su d j (eB false::[]) ?_ ?_
 exact op (fun Q U W H D=>zA0 Z)<|oz
 intro R w m n p d j
 replace h0:=k1 n h0
 replace f_v0:=f_v0.fr m
 refine HT.seq ?_
 obtain ⟨x1,q2,c⟩:=zA4 c
 obtain ⟨x3,q4,c⟩:=zA4 c
 obtain ⟨x5,q6,c⟩:=zAW c
 refine HT.u d j (eR v0::eB x1::eB x1::gR (true&&(x1==true)) v0::gB (true&&(x1==true)) x3::gB (true&&(x1==true)) (!x3)::eB x5::eB x5::[]) ?_ ?_
 exact om h0<|op (fun Q U W H D=>zAC call123 (zH5 (q2 Z) (d.fr W.size) ((f_v0.fr W).eq (D.g 0 Z))))<|ov<|gm 2 true h0<|og 2 true (fun G Q U W H D=>zAC call124 (zH4 (q4 G) (d.fr W.size) ((f_v0.fr W).eq (D.h 0 G Z)) ⟨_,Z,⟨_,Z,Z,by decide⟩⟩))<|og 2 true (fun G Q U W H D=>zCk (D.h 0 G Z))<|op (fun Q U W H D=>zAc x1 (D.g 0 Z) (fun hc=>by have a1:Q 8 = .bool (!x3):=D 1 _ _ _ Z Z Z Z (zC5 Z (zB5 hc));show _=Value.bool x5;rw [q6,hc];exact a1) (fun hc=>by show _=Value.bool x5;rw [q6,hc];exact Z))<|oa<|oz
 intro R w m n p d j
 have h2:=p.r 7 Z
 refine HT.ret ?_
 obtain rfl:=si c
 exact ⟨.inr Z,[R 2],⟨Z,N⟩,h2,j⟩
def zCO (fu:Nat) (p0:List UInt8):Option Bool:=
 cl true (zDP fu p0) fun x1=>
 some (!x1)
theorem zEp {fu : Nat} {A : Av} {p0 : List UInt8} {r : Bool} (c : zCO fu p0 = some r) {w : World} {v0 : Value} (d : AvOK A w) (h0 : Rep eStr A w v0 p0) :
 Calls prog 91 #[v0] w fun e w'=>∃ v,e = .returned v∧(v = .bool r∧Fr w w'):=by
 unfold zCO at c
 obtain ⟨w0,hw0,j⟩:=pf w
 rw [fw hw0]
 refine zA5 [.tmp 2] func91 ntmps91 (by decide) Z Z (nb Z) ?_
 intro R hR
 have f_v0:=h0
 replace h0:R 0=v0:=hR 0 _ Z
 refine HT.su d j (eB false::[]) ?_ ?_
 exact op (fun Q U W H D=>zA0 Z)<|oz
 intro R w m n p d j
 replace h0:=k1 n h0
 replace f_v0:=f_v0.fr m
 obtain ⟨x1,q2,c⟩:=zA4 c
 refine HT.su d j (eR v0::eB x1::eB (!x1)::eB (!x1)::[]) ?_ ?_
 exact om h0<|op (fun Q U W H D=>zAC call92 (zGq (q2 Z) (d.fr W.size) ((f_v0.fr W).eq (D.g 0 Z))))<|op (fun Q U W H D=>zCk (D.g 0 Z))<|oa<|oz
 intro R w m n p d j
 have h2:=p.r 3 Z
 refine HT.ret ?_
 obtain rfl:=si c
 exact ⟨.inr Z,[R 2],⟨Z,N⟩,h2,j⟩
def zCG (fu:Nat) (p0:zA2):Option Bool:=
 cl true (zBh fu p0.1 0 3) fun x2=>
 cl (true&&((!x2)==false)) (zBh fu p0.2.1 1 99) fun x4=>
 bd ((!x2) || (!x4)) fun x6=>
 cl (true&&(x6==false)) (zBh fu p0.2.2.1 1 999) fun x8=>
 bd (x6 || (!x8)) fun x10=>
 bif x10 then (
 some false
 ) else (
 cl (true&&(((p0.2.2.2.length:Int)==4)==true)) (zAj fu p0.2.2.2 (fun x=>zCO fu x)) fun x13=>
 bd (((p0.2.2.2.length:Int)==4)&&(!x13)) fun x15=>
 some x15
 )
theorem zEy {fu : Nat} {A0 : Av} {p0 : zA2} {r : Bool} (c : zCG fu p0 = some r) {w : World} {v0 : Value} (d : AvOK A0 w) (h0 : Rep zA1 A0 w v0 p0) :
 Calls prog 57 #[v0] w fun e w'=>∃ v,e = .returned v∧(v = .bool r∧Fr w w'):=by
 unfold zCG at c
 obtain ⟨w0,hw0,j,C⟩:=pw d
 have hA00:AvOK A0 w0:=C
 rw [fw hw0]
 obtain ⟨A,hAe,B,d,q⟩:=pa d
 refine zA5 [.tmp 2] func57 ntmps57 (by decide) Z Z (nb Z) ?_
 intro R hR
 have f_v0:Rep zA1 A w v0 p0:=hAe ▸ h0
 replace h0:R 0=v0:=hR 0 _ Z
 refine HT.sx [] (⟨_,true,[],some (.box w0.heap.size 51 zA1 p0),true,fun A=>.any⟩::rB false::[]) (ua (ur (UAll.nil))) q d ?_ ?_
 exact rc (OblR.made _ Z Z Z Z fun V Q U O D=>by have a0:Q 0=v0:=(O.old 0 Z).trans h0;have ra0:=(f_v0.stp O.stp).eq a0;exact zEO ra0 (Nat.le_trans j.size O.ch.size))<|rp (fun V Q U O D=>zA0 Z)<|rz
 intro done ρ σ A R w y s
 obtain ⟨b1_0,e_b1_0⟩:=s.boxv y 0 Z Z
 have h1:=s.ov y 0 0 e_b1_0
 obtain ⟨B,j,d⟩:=s.s B C j q N
 replace q:=s.left y [(0,ob (.pointer (some ⟨b1_0,0,none⟩)) (.box w0.heap.size 51 zA1 p0))] ⟨Z,Z,e_b1_0,Z,Z,N⟩
 refine HT.seq ?_
 refine HT.seq ?_
 obtain ⟨x2,q3,c⟩:=zA4 c
 obtain ⟨x4,q5,c⟩:=zA4 c
 obtain ⟨x6,q7,c⟩:=zAW c
 obtain ⟨x8,q9,c⟩:=zA4 c
 obtain ⟨x10,q11,c⟩:=zAW c
 refine HT.u d j (eR (.pointer (some ⟨b1_0,0,none⟩))::eI p0.1::eB x2::eB (!x2)::eB (!x2)::gR (true&&((!x2)==false)) (.pointer (some ⟨b1_0,1,none⟩))::gI (true&&((!x2)==false)) p0.2.1::gB (true&&((!x2)==false)) x4::gB (true&&((!x2)==false)) (!x4)::eB x6::eB x6::gR (true&&(x6==false)) (.pointer (some ⟨b1_0,2,none⟩))::gI (true&&(x6==false)) p0.2.2.1::gB (true&&(x6==false)) x8::gB (true&&(x6==false)) (!x8)::eB x10::[]) ?_ ?_
 exact op (fun Q U W H D=>zA7 ((H 1 Z).trans h1) zGw sizeOf3 (by decide) Z)<|op (fun Q U W H D=>OpF.int (zAE ((q.fr W).ok 0 _ Z).1 (D.g 0 Z) zCr Z isAgg3 sizeOf3))<|op (fun Q U W H D=>zAC call89 (zCS (q3 Z) (d.fr W.size) (D.g 0 Z) Z Z))<|op (fun Q U W H D=>zCk (D.g 0 Z))<|ov<|og 4 false (fun G Q U W H D=>zA7 ((H 1 Z).trans h1) zGe sizeOf3 (by decide) Z)<|og 4 false (fun G Q U W H D=>OpF.int (zAE ((q.fr W).ok 0 _ Z).1 (D.h 0 G Z) zCv Z isAgg3 sizeOf3))<|og 4 false (fun G Q U W H D=>zAC call89 (zCS (q5 G) (d.fr W.size) (D.h 0 G Z) Z Z))<|og 4 false (fun G Q U W H D=>zCk (D.h 0 G Z))<|op (fun Q U W H D=>zAc (!x2) (D.g 0 Z) (fun hc=>by show _=Value.bool x6;rw [q7,hc];exact Z) (fun hc=>by have a2:Q 11 = .bool (!x4):=D 1 _ _ _ Z Z Z Z (zC5 Z (zB5 hc));show _=Value.bool x6;rw [q7,hc];exact a2))<|ov<|og 10 false (fun G Q U W H D=>zA7 ((H 1 Z).trans h1) zGr sizeOf3 (by decide) Z)<|og 10 false (fun G Q U W H D=>OpF.int (zAE ((q.fr W).ok 0 _ Z).1 (D.h 0 G Z) zCq Z isAgg3 sizeOf3))<|og 10 false (fun G Q U W H D=>zAC call89 (zCS (q9 G) (d.fr W.size) (D.h 0 G Z) Z Z))<|og 10 false (fun G Q U W H D=>zCk (D.h 0 G Z))<|op (fun Q U W H D=>zAc x6 (D.g 0 Z) (fun hc=>by show _=Value.bool x10;rw [q11,hc];exact Z) (fun hc=>by have a2:Q 17 = .bool (!x8):=D 1 _ _ _ Z Z Z Z (zC5 Z (zB5 hc));show _=Value.bool x10;rw [q11,hc];exact a2))<|oz
 intro R w m n p d j
 replace h1:=k1 n h1
 have h18:=p.r 15 Z
 replace q:=q.fr m
 refine HT.cond x10 h18 (fun c12=>?_) (fun c12=>?_)
 have c:=zAH c12 c
 refine HT.su d j (eB false::[]) ?_ ?_
 exact op (fun Q U W H D=>zA0 Z)<|oz
 intro R w m n p d j
 have h2:=p.r 0 Z
 replace q:=q.fr m
 replace q:IniOK [] A w:=q.sub [] N
 refine HT.ret ?_
 obtain rfl:=si c
 exact ⟨.inr Z,[R 2],⟨Z,N⟩,h2,j⟩
 have c:=zAG c12 c
 refine HT.skip ?_
 refine HT.seq ?_
 obtain ⟨x13,q14,c⟩:=zA4 c
 obtain ⟨x15,q16,c⟩:=zAW c
 refine HT.u d j (eR (.pointer (some ⟨b1_0,3,none⟩))::eF (.rep (eSl eStr) A p0.2.2.2)::eI (p0.2.2.2.length:Int)::eB ((p0.2.2.2.length:Int)==4)::eB ((p0.2.2.2.length:Int)==4)::gR (true&&(((p0.2.2.2.length:Int)==4)==true)) (.pointer (some ⟨b1_0,3,none⟩))::gF (true&&(((p0.2.2.2.length:Int)==4)==true)) (.rep (eSl eStr) A p0.2.2.2)::gB (true&&(((p0.2.2.2.length:Int)==4)==true)) x13::gB (true&&(((p0.2.2.2.length:Int)==4)==true)) (!x13)::eB x15::eB x15::[]) ?_ ?_
 exact op (fun Q U W H D=>zA7 ((H 1 Z).trans h1) zCb sizeOf34 (by decide) Z)<|op (fun Q U W H D=>(zAE ((q.fr W).ok 0 _ Z).1 (D.g 0 Z) zAK Z isAgg34 sizeOf34))<|op (fun Q U W H D=>zAL (aT:=#[]) (D.g 0 Z) underlying34)<|op (fun Q U W H D=>zEV (D.g 0 Z) Z)<|ov<|og 4 true (fun G Q U W H D=>zA7 ((H 1 Z).trans h1) zCb sizeOf34 (by decide) Z)<|og 4 true (fun G Q U W H D=>(zAE ((q.fr W).ok 0 _ Z).1 (D.h 0 G Z) zAK Z isAgg34 sizeOf34))<|og 4 true (fun G Q U W H D=>zAC call90 (zDI (q14 G) (d.fr W.size) (D.h 0 G Z) (zHV [] Z call91 (fun x r hr' w'' a p hA' ha=>zEp hr' hA' ha))))<|og 4 true (fun G Q U W H D=>zCk (D.h 0 G Z))<|op (fun Q U W H D=>zAc ((p0.2.2.2.length:Int)==4) (D.g 0 Z) (fun hc=>by have a1:Q 27 = .bool (!x13):=D 1 _ _ _ Z Z Z Z (zC5 Z (zB5 hc));show _=Value.bool x15;rw [q16,hc];exact a1) (fun hc=>by show _=Value.bool x15;rw [q16,hc];exact Z))<|oa<|oz
 intro R w m n p d j
 have h2:=p.r 10 Z
 replace q:=q.fr m
 replace q:IniOK [] A w:=q.sub [] N
 refine HT.ret ?_
 obtain rfl:=si c
 exact ⟨.inr Z,[R 2],⟨Z,N⟩,h2,j⟩
def zCn (fu:Nat) (p0:zA2):Option Bool:=
 cl true (zCG fu p0) fun x2=>
 some (!x2)
theorem zFG {fu : Nat} {A0 : Av} {p0 : zA2} {r : Bool} (c : zCn fu p0 = some r) {w : World} {v0 : Value} (d : AvOK A0 w) (h0 : Rep zA1 A0 w v0 p0) :
 Calls prog 68 #[v0] w fun e w'=>∃ v,e = .returned v∧(v = .bool r∧Fr w w'):=by
 unfold zCn at c
 obtain ⟨w0,hw0,j,C⟩:=pw d
 have hA00:AvOK A0 w0:=C
 rw [fw hw0]
 obtain ⟨A,hAe,B,d,q⟩:=pa d
 refine zA5 [.tmp 2] func68 ntmps68 (by decide) Z Z (nb Z) ?_
 intro R hR
 have f_v0:Rep zA1 A w v0 p0:=hAe ▸ h0
 replace h0:R 0=v0:=hR 0 _ Z
 refine HT.sx [] (⟨_,true,[],some (.box w0.heap.size 51 zA1 p0),true,fun A=>.any⟩::rB false::[]) (ua (ur (UAll.nil))) q d ?_ ?_
 exact rc (OblR.made _ Z Z Z Z fun V Q U O D=>by have a0:Q 0=v0:=(O.old 0 Z).trans h0;have ra0:=(f_v0.stp O.stp).eq a0;exact zEO ra0 (Nat.le_trans j.size O.ch.size))<|rp (fun V Q U O D=>zA0 Z)<|rz
 intro done ρ σ A R w y s
 obtain ⟨b1_0,e_b1_0⟩:=s.boxv y 0 Z Z
 have h1:=s.ov y 0 0 e_b1_0
 obtain ⟨B,j,d⟩:=s.s B C j q N
 replace q:=s.left y [(0,ob (.pointer (some ⟨b1_0,0,none⟩)) (.box w0.heap.size 51 zA1 p0))] ⟨Z,Z,e_b1_0,Z,Z,N⟩
 obtain ⟨x2,q3,c⟩:=zA4 c
 refine HT.su d j (eF (.rep zA1 A p0)::eB x2::eB (!x2)::eB (!x2)::[]) ?_ ?_
 exact op (fun Q U W H D=>(zAE ((q.fr W).ok 0 _ Z).1 ((H 1 Z).trans h1) (Fld.id _) Z isAgg51 sizeOf51))<|op (fun Q U W H D=>zAC call57 (zEy (q3 Z) (d.fr W.size) (D.g 0 Z)))<|op (fun Q U W H D=>zCk (D.g 0 Z))<|oa<|oz
 intro R w m n p d j
 have h2:=p.r 3 Z
 replace q:=q.fr m
 replace q:IniOK [] A w:=q.sub [] N
 refine HT.ret ?_
 obtain rfl:=si c
 exact ⟨.inr Z,[R 2],⟨Z,N⟩,h2,j⟩
def zCg (fu:Nat) (p0:List zA2):Option Bool:=
 cl true (zAQ fu p0 (fun x=>zCn fu x)) fun x1=>
 some (!x1)
theorem zFk {fu : Nat} {A : Av} {p0 : List zA2} {r : Bool} (c : zCg fu p0 = some r) {w : World} {v0 : Value} (d : AvOK A w) (h0 : Rep (eSl zA1) A w v0 p0) :
 Calls prog 40 #[v0] w fun e w'=>∃ v,e = .returned v∧(v = .bool r∧Fr w w'):=by
 unfold zCg at c
 obtain ⟨w0,hw0,j⟩:=pf w
 rw [fw hw0]
 refine zA5 [.tmp 2] func40 ntmps40 (by decide) Z Z (nb Z) ?_
 intro R hR
 have f_v0:=h0
 replace h0:R 0=v0:=hR 0 _ Z
 refine HT.su d j (eB false::[]) ?_ ?_
 exact op (fun Q U W H D=>zA0 Z)<|oz
 intro R w m n p d j
 replace h0:=k1 n h0
 replace f_v0:=f_v0.fr m
 obtain ⟨x1,q2,c⟩:=zA4 c
 refine HT.su d j (eR v0::eB x1::eB (!x1)::eB (!x1)::[]) ?_ ?_
 exact om h0<|op (fun Q U W H D=>zAC call67 (zCV (q2 Z) (d.fr W.size) ((f_v0.fr W).eq (D.g 0 Z)) (zHV [] Z call68 (fun x r hr' w'' a p hA' ha=>zFG hr' hA' ha))))<|op (fun Q U W H D=>zCk (D.g 0 Z))<|oa<|oz
 intro R w m n p d j
 have h2:=p.r 3 Z
 refine HT.ret ?_
 obtain rfl:=si c
 exact ⟨.inr Z,[R 2],⟨Z,N⟩,h2,j⟩
def zCD (fu : Nat) (p0 : List UInt8) (p1 : Int → Option Int) : Nat → Int → (List Int) → Option (List Int)
 | 0,_,_=>none
 | k+1,y6,y7=>
 bif (decide (y6<((bytL p0).length:Int))) then (
 ck (inR y6 y7.length) <|
 cl true (p1 (gtD y7 y6)) fun x10=>
 ck (inR y6 y7.length) <|
 ck (i64B (y6+1)) <|
 zCD fu p0 p1 k (y6+1) (y7.set y6.toNat x10)
 ) else (
 some y7
 )
def zDM (fu:Nat) (p0:List UInt8) (p1:Int→Option Int):Option (List UInt8):=
 ck (zBE p0.length) <|
 cl true (zCD fu p0 p1 fu 0 (bytL p0)) fun s5=>
 some (strB s5)
theorem zFD {fu : Nat} {A0 : Av} {p0 : List UInt8} {p1 : Int → Option Int} {r : List UInt8} (c : zDM fu p0 p1 = some r) {w : World} {v0 : Value} {v1 : Value} (d : AvOK A0 w) (h0 : Rep eStr A0 w v0 p0) (h1 : FnB1 prog (eInt .u8) (fun r => .raw (.int .u8 r)) A0 w v1 p1) :
 Calls prog 156 #[v0,v1] w fun e w'=>∃ v,e = .returned v∧(Rep eStr A0 w' v r∧Fr w w'):=by
 unfold zDM at c
 obtain ⟨w0,hw0,j,C⟩:=pw d
 have hA00:AvOK A0 w0:=C
 rw [fw hw0]
 have f_v1:FnB1 prog (eInt .u8) (fun r=>.raw (.int .u8 r)) A0 w0 v1 p1:=hw0 ▸ h1
 obtain ⟨A,hAe,B,d,q⟩:=pa d
 refine zA5 [.tmp 4] func156 ntmps156 (by decide) Z Z (nb Z) ?_
 intro R hR
 have f_v0:Rep eStr A w v0 p0:=hAe ▸ h0
 replace h0:R 0=v0:=hR 0 _ Z
 replace h1:R 1=v1:=hR 1 _ Z
 refine HT.su d j (eF (.rep eStr A ([]:List UInt8))::[]) ?_ ?_
 exact op (fun Q U W H D=>zA0 ⟨_,Z,⟨_,Z,Z,by decide⟩⟩)<|oz
 intro R w m n p d j
 obtain ⟨h0,h1⟩:=k2 n h0 h1
 replace f_v0:=f_v0.fr m
 replace q:=q.fr m
 obtain ⟨e1,c⟩:=zA3 c
 refine HT.sx [] (rR v0::⟨_,true,[],some (.vec w0.heap.size 5 (eInt .u8) (bytL p0)),true,fun A=>.any⟩::⟨_,true,[1],some (.vec w0.heap.size 5 (eInt .u8) (bytL p0)),true,fun A=>.any⟩::[]) (ur (ua (ua (UAll.nil)))) q d ?_ ?_
 exact rm h0<|rc (OblR.made _ Z Z Z Z fun V Q U O D=>by have a0:Q 8=v0:=D.g 0 Z;have ra0:=(f_v0.stp O.stp).eq a0;exact zI7 ra0 underlying9 underlying43 underlying5 Z e1 (Nat.le_trans j.size O.ch.size))<|rc (OblR.took 1 _ _ Z Z Z Z Z fun V Q U O D u X Y J L M=>by exact zA8 (L _ _ Z Z Z Z).symm X Y)<|rz
 intro done ρ σ A R w y s
 replace h1:=k1 s.rg h1
 obtain ⟨u2,e_u2⟩:∃ u,ρ 2=u:=⟨_,Z⟩
 have h5:=s.ov y 2 2 e_u2
 obtain ⟨B,j,d⟩:=s.s B C j q N
 replace q:=s.left y [(2,ob u2 (.vec w0.heap.size 5 (eInt .u8) (bytL p0)))] ⟨Z,Z,e_u2,Z,Z,N⟩
 refine HT.seq ?_
 refine HT.su d j (eR u2::eI ((bytL p0).length:Int)::eI 0::[]) ?_ ?_
 exact om h5<|op (fun Q U W H D=>zCJ (q.ok 0 _ Z).1 (D.g 0 Z) underlying43)<|op (fun Q U W H D=>zC1 Z)<|oz
 intro R w m n p d j
 obtain ⟨h1,h5⟩:=k2 n h1 h5
 have h10:=p.r 0 Z
 have h11:=p.r 1 Z
 have h12:=p.r 2 Z
 replace q:=q.fr m
 obtain ⟨rl3,q4,c⟩:=zA4 c
 replace q4:=q4 Z
 refine HT.cut0 (fun R w=>∃ A:Av,∃ (s5:(List Int)),rl3=s5∧AvOK A w∧Fr w0 w∧(∀ b o,A0 b o→A b o)∧IniOK [ob u2 (.vec w0.heap.size 5 (eInt .u8) s5)] A w∧R 5=u2) ?_ ?_
 refine HT.block ?_
 refine HT.loop (fun k R w=>∃ A:Av,∃ (y6:Int) (y7:List Int),zCD fu p0 p1 k y6 y7=some rl3∧AvOK A w∧Fr w0 w∧(∀ b o,A0 b o→A b o)∧IniOK [ob u2 (.vec w0.heap.size 5 (eInt .u8) y7)] A w∧R 1=v1∧R 5=u2∧R 10=u2∧R 11 = .int .i64 ((bytL p0).length:Int)∧R 12 = .int .i64 y6) fu ⟨_,_,_,q4,d,j,B,q,h1,h5,h10,h11,h12⟩ ?_
 have hr0:=c;clear c q4
 rintro k R w ⟨A,y6,y7,c,d,j,B,q,h1,h5,h10,h11,h12⟩
 rcases k with _ | k
 cases (show none=some _ from c)
 rw [zCD] at c
 refine HT.su d j (eB (decide (y6<((bytL p0).length:Int)))::[]) ?_ ?_
 exact op (fun Q U W H D=>zAg ((H 12 Z).trans h12) ((H 11 Z).trans h11))<|oz
 intro R w m n p d j
 obtain ⟨h1,h5,h10,h11,h12⟩:=k5 n h1 h5 h10 h11 h12
 have h13:=p.r 0 Z
 replace q:=q.fr m
 refine HT.seq ?_
 refine HT.cond (decide (y6<((bytL p0).length:Int))) h13 (fun c8=>?_) (fun c8=>?_)
 have c:=zAH c8 c
 refine HT.skip ?_
 refine HT.seq ?_
 refine HT.block ?_
 obtain ⟨e9,c⟩:=zA3 c
 refine HT.su d j (eI y6::eR (vptr u2 (y6.toNat*1))::eU (gtD y7 y6)::eI y6::eU (gtD y7 y6)::[]) ?_ ?_
 exact om h12<|op (fun Q U W H D=>zB6 (q.ok 0 _ Z).1 ((H 10 Z).trans h10) ((H 12 Z).trans h12) underlying43 sizeOf5 e9 Z)<|op (fun Q U W H D=>OpF.int (zCc ((q.fr W).ok 0 _ Z).1 (D.g 0 Z) e9 Z (Fld.id _) Z isAgg5 sizeOf5))<|oa<|oa<|oz
 intro R w m n p d j
 obtain ⟨h1,h5,h10,h11,h12⟩:=k5 n h1 h5 h10 h11 h12
 have h6:=p.r 3 Z
 have h7:=p.r 4 Z
 replace q:=q.fr m
 obtain ⟨x10,q11,c⟩:=zA4 c
 obtain ⟨e12,c⟩:=zA3 c
 refine HT.x [ob u2 (.vec w0.heap.size 5 (eInt .u8) y7)] (rR u2::rI y6::rR v1::rU (gtD y7 y6)::rU x10::rR (vptr u2 (y6.toNat*1))::⟨_,true,[0],some (.vec w0.heap.size 5 (eInt .u8) (y7.set y6.toNat x10)),false,fun A=>.any⟩::[]) (ur (ur (ur (ur (ur (ur (ua (UAll.nil)))))))) q d ?_ ?_
 exact rm h5<|rm h6<|rm h1<|rm h7<|rp (fun V Q U O D=>zIg (D.g 0 Z) (f_v1 _ _ (q11 Z) _ _ ((j.tr O.ch (q.ge (⟨Z,N⟩))).ch _) (hA00.fr (Nat.le_trans j.size O.ch.size)) ((zBp.eq (D.g 1 Z)).less (O.low' B C (q.ge (⟨Z,N⟩))))))<|rp (fun V Q U O D=>zB6 (q.ok 0 _ Z).1 (D.g 0 Z) (D.g 1 Z) underlying43 sizeOf5 e12 Z)<|rc (OblR.took 0 _ _ Z Z Z Z Z fun V Q U O D u X Y J L M=>by have a0:Q 22=(vptr u2 (y6.toNat*1)):=D.g 0 Z;have a1:Q 21 = .int .u8 x10:=D.g 1 Z;obtain rfl:=J _ Z;exact zF7 (zBp.eq a1) X Y a0 e12 Z (FldS.id _) sizeOf5 Z)<|rz
 intro done ρ σ A R w y s
 obtain ⟨h1,h5,h10,h11,h12⟩:=k5 s.rg h1 h5 h10 h11 h12
 have z13:=s.inivR 0 Z
 have z14:=s.on y 7 6 Z Z Z Z Z z13
 obtain ⟨B,j,d⟩:=s.s B C j q ⟨Z,N⟩
 replace q:=s.left y [(7,ob u2 (.vec w0.heap.size 5 (eInt .u8) (y7.set y6.toNat x10)))] ⟨Z,Z,z14,Z,Z,N⟩
 obtain ⟨e15,c⟩:=zA3 c
 refine HT.u d j (eI (y6+1)::eI (y6+1)::[]) ?_ ?_
 exact op (fun Q U W H D=>zAO ((H 12 Z).trans h12) Z e15)<|ov<|oz
 intro R w m n p d j
 obtain ⟨h1,h5,h10,h11⟩:=k4 n h1 h5 h10 h11
 have h12:=p.r 1 Z
 replace q:=q.fr m
 exact ei k (And.intro (Nat.lt_succ_self k) ⟨_,_,_,c,d,j,B,q,h1,h5,h10,h11,h12⟩)
 have c:=zAG c8 c
 refine HT.exit ?_
 obtain rfl:=si c
 exact ei _ ⟨_,Z,d,j,B,q,h5⟩
 rintro R w ⟨A,s5,es,d,j,B,q,h5⟩
 obtain rfl:=es.symm
 refine HT.su d j (eR u2::eF (.rep eStr A (strB s5))::eF (.rep eStr A (strB s5))::[]) ?_ ?_
 exact om h5<|op (fun Q U W H D=>zBK ((zBf ((q.fr W).ok 0 _ Z).1 B C).eq (D.g 0 Z)) underlying43 underlying5 underlying9)<|op (fun Q U W H D=>zA0 (D.g 0 Z))<|oz
 intro R w m n p d j
 obtain ⟨u16,h4,f_u16⟩:∃ u,R 4=u∧Rep eStr A w u (strB s5):=⟨_,Z,p 2 _ _ Z Z Z⟩
 replace q:=q.fr m
 replace q:IniOK [] A w:=q.sub [] N
 refine HT.ret ?_
 obtain rfl:=si c
 exact ⟨.inr Z,[R 4],⟨Z,N⟩,(f_u16.eq h4).down B,j⟩
def zDL (fu:Nat) (p0:Int):Option Int:=
 bd ((decide (65≤p0))&&(decide (p0≤90))) fun x1=>
 bif x1 then (
 some (IntKind.u8.wrap (p0+32))
 ) else (
 some p0
 )
theorem zFn {fu : Nat} {A : Av} {p0 : Int} {r : Int} (c : zDL fu p0 = some r) {w : World} {v0 : Value} (d : AvOK A w) (h0 : v0 = .int .u8 p0) :
 Calls prog 157 #[v0] w fun e w'=>∃ v,e = .returned v∧(v = .int .u8 r∧Fr w w'):=by
 unfold zDL at c
 obtain ⟨w0,hw0,j⟩:=pf w
 rw [fw hw0]
 refine zA5 [.tmp 2] func157 ntmps157 (by decide) Z Z (nb Z) ?_
 intro R hR
 replace h0:R 0 = .int .u8 p0:=(hR 0 _ Z).trans h0
 refine HT.su d j (eU 0::[]) ?_ ?_
 exact op (fun Q U W H D=>zA0 Z)<|oz
 intro R w m n p d j
 replace h0:=k1 n h0
 refine HT.seq ?_
 refine HT.seq ?_
 obtain ⟨x1,q2,c⟩:=zAW c
 refine HT.u d j (eU p0::eB (decide (65≤p0))::eB (decide (65≤p0))::gU (true&&((decide (65≤p0))==true)) p0::gB (true&&((decide (65≤p0))==true)) (decide (p0≤90))::eB x1::[]) ?_ ?_
 exact om h0<|op (fun Q U W H D=>zDj (D.g 0 Z) Z)<|ov<|gm 2 true h0<|og 2 true (fun G Q U W H D=>zEF (D.h 0 G Z) Z)<|op (fun Q U W H D=>zAc (decide (65≤p0)) (D.g 0 Z) (fun hc=>by have a1:Q 7 = .bool (decide (p0≤90)):=D 1 _ _ _ Z Z Z Z (zC5 Z (zB5 hc));show _=Value.bool x1;rw [q2,hc];exact a1) (fun hc=>by show _=Value.bool x1;rw [q2,hc];exact Z))<|oz
 intro R w m n p d j
 replace h0:=k1 n h0
 have h8:=p.r 5 Z
 refine HT.cond x1 h8 (fun c3=>?_) (fun c3=>?_)
 have c:=zAH c3 c
 refine HT.su d j (eU p0::eU (IntKind.u8.wrap (p0+32))::eU (IntKind.u8.wrap (p0+32))::[]) ?_ ?_
 exact om h0<|op (fun Q U W H D=>zIS (D.g 0 Z) Z)<|oa<|oz
 intro R w m n p d j
 have h2:=p.r 2 Z
 refine HT.ret ?_
 obtain rfl:=si c
 exact ⟨.inr Z,[R 2],⟨Z,N⟩,h2,j⟩
 have c:=zAG c3 c
 refine HT.skip ?_
 refine HT.su d j (eU p0::eU p0::[]) ?_ ?_
 exact om h0<|oa<|oz
 intro R w m n p d j
 have h2:=p.r 1 Z
 refine HT.ret ?_
 obtain rfl:=si c
 exact ⟨.inr Z,[R 2],⟨Z,N⟩,h2,j⟩
def zCj (fu:Nat) (p0:List UInt8):Option (List UInt8):=
 cl true (zDM fu p0 (fun x=>zDL fu x)) fun x1=>
 some x1
theorem zEl {fu : Nat} {A : Av} {p0 : List UInt8} {r : List UInt8} (c : zCj fu p0 = some r) {w : World} {v0 : Value} (d : AvOK A w) (h0 : Rep eStr A w v0 p0) :
 Calls prog 130 #[v0] w fun e w'=>∃ v,e = .returned v∧(Rep eStr A w' v r∧Fr w w'):=by
 unfold zCj at c
 obtain ⟨w0,hw0,j⟩:=pf w
 rw [fw hw0]
 refine zA5 [.tmp 2] func130 ntmps130 (by decide) Z Z (nb Z) ?_
 intro R hR
 have f_v0:=h0
 replace h0:R 0=v0:=hR 0 _ Z
 refine HT.su d j (eF (.rep eStr A ([]:List UInt8))::[]) ?_ ?_
 exact op (fun Q U W H D=>zA0 ⟨_,Z,⟨_,Z,Z,by decide⟩⟩)<|oz
 intro R w m n p d j
 replace h0:=k1 n h0
 replace f_v0:=f_v0.fr m
 obtain ⟨x1,q2,c⟩:=zA4 c
 refine HT.su d j (eR v0::eF (.rep eStr A x1)::eF (.rep eStr A x1)::[]) ?_ ?_
 exact om h0<|op (fun Q U W H D=>zAC call156 (zFD (q2 Z) (d.fr W.size) ((f_v0.fr W).eq (D.g 0 Z)) (zHV [] Z call157 (fun x r hr' w'' a p hA' ha=>zFn hr' hA' (zGn ha)))))<|op (fun Q U W H D=>zA0 (D.g 0 Z))<|oz
 intro R w m n p d j
 obtain ⟨u3,h2,f_u3⟩:∃ u,R 2=u∧Rep eStr A w u x1:=⟨_,Z,p 2 _ _ Z Z Z⟩
 refine HT.ret ?_
 obtain rfl:=si c
 exact ⟨.inr Z,[R 2],⟨Z,N⟩,(f_u3.eq h2),j⟩
def zCa (fu:Nat) (p0:Int):Option Bool:=
 bd ((decide (97≤p0))&&(decide (p0≤122))) fun x1=>
 some x1
theorem zE4 {fu : Nat} {A : Av} {p0 : Int} {r : Bool} (c : zCa fu p0 = some r) {w : World} {v0 : Value} (d : AvOK A w) (h0 : v0 = .int .u8 p0) :
 Calls prog 158 #[v0] w fun e w'=>∃ v,e = .returned v∧(v = .bool r∧Fr w w'):=by
 unfold zCa at c
 obtain ⟨w0,hw0,j⟩:=pf w
 rw [fw hw0]
 refine zA5 [.tmp 2] func158 ntmps158 (by decide) Z Z (nb Z) ?_
 intro R hR
 replace h0:R 0 = .int .u8 p0:=(hR 0 _ Z).trans h0
 refine HT.su d j (eB false::[]) ?_ ?_
 exact op (fun Q U W H D=>zA0 Z)<|oz
 intro R w m n p d j
 replace h0:=k1 n h0
 refine HT.seq ?_
 obtain ⟨x1,q2,c⟩:=zAW c
 refine HT.u d j (eU p0::eB (decide (97≤p0))::eB (decide (97≤p0))::gU (true&&((decide (97≤p0))==true)) p0::gB (true&&((decide (97≤p0))==true)) (decide (p0≤122))::eB x1::eB x1::[]) ?_ ?_
 exact om h0<|op (fun Q U W H D=>zDj (D.g 0 Z) Z)<|ov<|gm 2 true h0<|og 2 true (fun G Q U W H D=>zEF (D.h 0 G Z) Z)<|op (fun Q U W H D=>zAc (decide (97≤p0)) (D.g 0 Z) (fun hc=>by have a1:Q 7 = .bool (decide (p0≤122)):=D 1 _ _ _ Z Z Z Z (zC5 Z (zB5 hc));show _=Value.bool x1;rw [q2,hc];exact a1) (fun hc=>by show _=Value.bool x1;rw [q2,hc];exact Z))<|oa<|oz
 intro R w m n p d j
 have h2:=p.r 6 Z
 refine HT.ret ?_
 obtain rfl:=si c
 exact ⟨.inr Z,[R 2],⟨Z,N⟩,h2,j⟩
def zD2 (fu:Nat) (p0:Int):Option Bool:=
 bd ((decide (48≤p0))&&(decide (p0≤57))) fun x1=>
 some x1
theorem zEt {fu : Nat} {A : Av} {p0 : Int} {r : Bool} (c : zD2 fu p0 = some r) {w : World} {v0 : Value} (d : AvOK A w) (h0 : v0 = .int .u8 p0) :
 Calls prog 101 #[v0] w fun e w'=>∃ v,e = .returned v∧(v = .bool r∧Fr w w'):=by
 unfold zD2 at c
 obtain ⟨w0,hw0,j⟩:=pf w
 rw [fw hw0]
 refine zA5 [.tmp 2] func101 ntmps101 (by decide) Z Z (nb Z) ?_
 intro R hR
 replace h0:R 0 = .int .u8 p0:=(hR 0 _ Z).trans h0
 refine HT.su d j (eB false::[]) ?_ ?_
 exact op (fun Q U W H D=>zA0 Z)<|oz
 intro R w m n p d j
 replace h0:=k1 n h0
 refine HT.seq ?_
 obtain ⟨x1,q2,c⟩:=zAW c
 refine HT.u d j (eU p0::eB (decide (48≤p0))::eB (decide (48≤p0))::gU (true&&((decide (48≤p0))==true)) p0::gB (true&&((decide (48≤p0))==true)) (decide (p0≤57))::eB x1::eB x1::[]) ?_ ?_
 exact om h0<|op (fun Q U W H D=>zDj (D.g 0 Z) Z)<|ov<|gm 2 true h0<|og 2 true (fun G Q U W H D=>zEF (D.h 0 G Z) Z)<|op (fun Q U W H D=>zAc (decide (48≤p0)) (D.g 0 Z) (fun hc=>by have a1:Q 7 = .bool (decide (p0≤57)):=D 1 _ _ _ Z Z Z Z (zC5 Z (zB5 hc));show _=Value.bool x1;rw [q2,hc];exact a1) (fun hc=>by show _=Value.bool x1;rw [q2,hc];exact Z))<|oa<|oz
 intro R w m n p d j
 have h2:=p.r 6 Z
 refine HT.ret ?_
 obtain rfl:=si c
 exact ⟨.inr Z,[R 2],⟨Z,N⟩,h2,j⟩
def zCh (fu:Nat) (p0:Int):Option Bool:=
 cl true (zCa fu p0) fun x1=>
 bd ((decide (65≤p0))&&(decide (p0≤90))) fun x3=>
 bd (x1 || x3) fun x5=>
 cl (true&&(x5==false)) (zD2 fu p0) fun x7=>
 bd (x5 || x7) fun x9=>
 some x9
theorem zFm {fu : Nat} {A : Av} {p0 : Int} {r : Bool} (c : zCh fu p0 = some r) {w : World} {v0 : Value} (d : AvOK A w) (h0 : v0 = .int .u8 p0) :
 Calls prog 164 #[v0] w fun e w'=>∃ v,e = .returned v∧(v = .bool r∧Fr w w'):=by
 unfold zCh at c
 obtain ⟨w0,hw0,j⟩:=pf w
 rw [fw hw0]
 refine zA5 [.tmp 2] func164 ntmps164 (by decide) Z Z (nb Z) ?_
 intro R hR
 replace h0:R 0 = .int .u8 p0:=(hR 0 _ Z).trans h0
 refine HT.su d j (eB false::[]) ?_ ?_
 exact op (fun Q U W H D=>zA0 Z)<|oz
 intro R w m n p d j
 replace h0:=k1 n h0
 refine HT.seq ?_
 obtain ⟨x1,q2,c⟩:=zA4 c
 obtain ⟨x3,q4,c⟩:=zAW c
 obtain ⟨x5,q6,c⟩:=zAW c
 obtain ⟨x7,q8,c⟩:=zA4 c
 obtain ⟨x9,q10,c⟩:=zAW c
 refine HT.u d j (eU p0::eB x1::eB x1::gU (true&&(x1==false)) p0::gB (true&&(x1==false)) (decide (65≤p0))::gB (true&&(x1==false)) (decide (65≤p0))::gU ((true&&(x1==false))&&((decide (65≤p0))==true)) p0::gB ((true&&(x1==false))&&((decide (65≤p0))==true)) (decide (p0≤90))::gB (true&&(x1==false)) x3::eB x5::eB x5::gU (true&&(x5==false)) p0::gB (true&&(x5==false)) x7::eB x9::eB x9::[]) ?_ ?_
 exact om h0<|op (fun Q U W H D=>zAC call158 (zE4 (q2 Z) (d.fr W.size) (D.g 0 Z)))<|ov<|gm 2 false h0<|og 2 false (fun G Q U W H D=>zDj (D.h 0 G Z) Z)<|og 2 false (fun G Q U W H D=>zC1 (D.h 0 G Z))<|gm 5 true h0<|og 5 true (fun G Q U W H D=>zEF (D.h 0 G Z) Z)<|og 2 false (fun G Q U W H D=>zAc (decide (65≤p0)) (D.h 0 G Z) (fun hc=>by have a1:Q 10 = .bool (decide (p0≤90)):=D 1 _ _ _ Z Z Z Z (zC5 G (zB5 hc));show _=Value.bool x3;rw [q4,hc];exact a1) (fun hc=>by show _=Value.bool x3;rw [q4,hc];exact Z))<|op (fun Q U W H D=>zAc x1 (D.g 0 Z) (fun hc=>by show _=Value.bool x5;rw [q6,hc];exact Z) (fun hc=>by have a2:Q 11 = .bool x3:=D 1 _ _ _ Z Z Z Z (zC5 Z (zB5 hc));show _=Value.bool x5;rw [q6,hc];exact a2))<|ov<|gm 10 false h0<|og 10 false (fun G Q U W H D=>zAC call101 (zEt (q8 G) (d.fr W.size) (D.h 0 G Z)))<|op (fun Q U W H D=>zAc x5 (D.g 0 Z) (fun hc=>by show _=Value.bool x9;rw [q10,hc];exact Z) (fun hc=>by have a2:Q 15 = .bool x7:=D 1 _ _ _ Z Z Z Z (zC5 Z (zB5 hc));show _=Value.bool x9;rw [q10,hc];exact a2))<|oa<|oz
 intro R w m n p d j
 have h2:=p.r 14 Z
 refine HT.ret ?_
 obtain rfl:=si c
 exact ⟨.inr Z,[R 2],⟨Z,N⟩,h2,j⟩
def zCl (fu:Nat) (p0:Int):Option Int:=
 cl true (zCh fu p0) fun x1=>
 bif x1 then (
 some p0
 ) else (
 some 32
 )
theorem zFJ {fu : Nat} {A : Av} {p0 : Int} {r : Int} (c : zCl fu p0 = some r) {w : World} {v0 : Value} (d : AvOK A w) (h0 : v0 = .int .u8 p0) :
 Calls prog 163 #[v0] w fun e w'=>∃ v,e = .returned v∧(v = .int .u8 r∧Fr w w'):=by
 unfold zCl at c
 obtain ⟨w0,hw0,j⟩:=pf w
 rw [fw hw0]
 refine zA5 [.tmp 2] func163 ntmps163 (by decide) Z Z (nb Z) ?_
 intro R hR
 replace h0:R 0 = .int .u8 p0:=(hR 0 _ Z).trans h0
 refine HT.su d j (eU 0::[]) ?_ ?_
 exact op (fun Q U W H D=>zA0 Z)<|oz
 intro R w m n p d j
 replace h0:=k1 n h0
 refine HT.seq ?_
 obtain ⟨x1,q2,c⟩:=zA4 c
 refine HT.su d j (eU p0::eB x1::[]) ?_ ?_
 exact om h0<|op (fun Q U W H D=>zAC call164 (zFm (q2 Z) (d.fr W.size) (D.g 0 Z)))<|oz
 intro R w m n p d j
 replace h0:=k1 n h0
 have h4:=p.r 1 Z
 refine HT.cond x1 h4 (fun c3=>?_) (fun c3=>?_)
 have c:=zAH c3 c
 refine HT.su d j (eU p0::eU p0::[]) ?_ ?_
 exact om h0<|oa<|oz
 intro R w m n p d j
 have h2:=p.r 1 Z
 refine HT.ret ?_
 obtain rfl:=si c
 exact ⟨.inr Z,[R 2],⟨Z,N⟩,h2,j⟩
 have c:=zAG c3 c
 refine HT.skip ?_
 refine HT.su d j (eU 32::[]) ?_ ?_
 exact op (fun Q U W H D=>zA0 Z)<|oz
 intro R w m n p d j
 have h2:=p.r 0 Z
 refine HT.ret ?_
 obtain rfl:=si c
 exact ⟨.inr Z,[R 2],⟨Z,N⟩,h2,j⟩
def zCf (fu:Nat) (p0:List UInt8):Option (List UInt8):=
 cl true (zFP fu p0 ([39]:List UInt8) ([]:List UInt8)) fun x1=>
 cl true (zDM fu x1 (fun x=>zCl fu x)) fun x3=>
 some x3
theorem zFr {fu : Nat} {A : Av} {p0 : List UInt8} {r : List UInt8} (c : zCf fu p0 = some r) {w : World} {v0 : Value} (d : AvOK A w) (hG : GTab w) (h0 : Rep eStr A w v0 p0) :
 Calls prog 136 #[v0] w fun e w'=>∃ v,e = .returned v∧(Rep eStr A w' v r∧Fr w w'):=by
 unfold zCf at c
 obtain ⟨w0,hw0,j⟩:=pf w
 rw [fw hw0]
 have hG0:GTab w0:=hw0 ▸ hG
 refine zA5 [.tmp 2] func136 ntmps136 (by decide) Z Z (nb Z) ?_
 intro R hR
 have f_v0:=h0
 replace h0:R 0=v0:=hR 0 _ Z
 refine HT.su d j (eF (.rep eStr A ([]:List UInt8))::[]) ?_ ?_
 exact op (fun Q U W H D=>zA0 ⟨_,Z,⟨_,Z,Z,by decide⟩⟩)<|oz
 intro R w m n p d j
 replace h0:=k1 n h0
 replace f_v0:=f_v0.fr m
 obtain ⟨x1,q2,c⟩:=zA4 c
 obtain ⟨x3,q4,c⟩:=zA4 c
 refine HT.su d j (eR v0::eF (.rep eStr A x1)::eF (.rep eStr A x3)::eF (.rep eStr A x3)::[]) ?_ ?_
 exact om h0<|op (fun Q U W H D=>zAC call162 (zHh (q2 Z) (d.fr W.size) (hG0.fr (j.trans W)) ((f_v0.fr W).eq (D.g 0 Z)) ⟨_,Z,⟨_,Z,Z,by decide⟩⟩ ⟨_,Z,⟨_,Z,Z,by decide⟩⟩))<|op (fun Q U W H D=>zAC call156 (zFD (q4 Z) (d.fr W.size) (D.g 0 Z) (zHV [] Z call163 (fun x r hr' w'' a p hA' ha=>zFJ hr' hA' (zGn ha)))))<|op (fun Q U W H D=>zA0 (D.g 0 Z))<|oz
 intro R w m n p d j
 obtain ⟨u5,h2,f_u5⟩:∃ u,R 2=u∧Rep eStr A w u x3:=⟨_,Z,p 3 _ _ Z Z Z⟩
 refine HT.ret ?_
 obtain rfl:=si c
 exact ⟨.inr Z,[R 2],⟨Z,N⟩,(f_u5.eq h2),j⟩
def zAr (fu:Nat) (p0:List UInt8) (p1:List UInt8):Option Bool:=
 ck (!(true&&((decide ((p1.length:Int)≤(p0.length:Int)))==true)) || i64B ((p0.length:Int)-(p1.length:Int))) <|
 ck (!(true&&((decide ((p1.length:Int)≤(p0.length:Int)))==true)) || subR ((p0.length:Int)-(p1.length:Int)) (p0.length:Int) p0.length) <|
 bd ((decide ((p1.length:Int)≤(p0.length:Int)))&&((subL p0 ((p0.length:Int)-(p1.length:Int)) (p0.length:Int))==p1)) fun x3=>
 some x3
theorem zDe {fu : Nat} {A : Av} {p0 : List UInt8} {p1 : List UInt8} {r : Bool} (c : zAr fu p0 p1 = some r) {w : World} {v0 : Value} {v1 : Value} (d : AvOK A w) (h0 : Rep eStr A w v0 p0) (h1 : Rep eStr A w v1 p1) :
 Calls prog 194 #[v0,v1] w fun e w'=>∃ v,e = .returned v∧(v = .bool r∧Fr w w'):=by
 unfold zAr at c
 obtain ⟨w0,hw0,j⟩:=pf w
 rw [fw hw0]
 refine zA5 [.tmp 4] func194 ntmps194 (by decide) Z Z (nb Z) ?_
 intro R hR
 have f_v0:=h0
 replace h0:R 0=v0:=hR 0 _ Z
 have f_v1:=h1
 replace h1:R 1=v1:=hR 1 _ Z
 refine HT.su d j (eB false::[]) ?_ ?_
 exact op (fun Q U W H D=>zA0 Z)<|oz
 intro R w m n p d j
 obtain ⟨h0,h1⟩:=k2 n h0 h1
 replace f_v0:=f_v0.fr m
 replace f_v1:=f_v1.fr m
 refine HT.seq ?_
 obtain ⟨e1,e2,c⟩:=ck2 c
 obtain ⟨x3,q4,c⟩:=zAW c
 refine HT.u d j (eR v0::eI (p0.length:Int)::eR v1::eI (p1.length:Int)::eB (decide ((p1.length:Int)≤(p0.length:Int)))::eB (decide ((p1.length:Int)≤(p0.length:Int)))::gR (true&&((decide ((p1.length:Int)≤(p0.length:Int)))==true)) v0::gR (true&&((decide ((p1.length:Int)≤(p0.length:Int)))==true)) v0::gI (true&&((decide ((p1.length:Int)≤(p0.length:Int)))==true)) (p0.length:Int)::gR (true&&((decide ((p1.length:Int)≤(p0.length:Int)))==true)) v1::gI (true&&((decide ((p1.length:Int)≤(p0.length:Int)))==true)) (p1.length:Int)::gI (true&&((decide ((p1.length:Int)≤(p0.length:Int)))==true)) ((p0.length:Int)-(p1.length:Int))::gF (true&&((decide ((p1.length:Int)≤(p0.length:Int)))==true)) (.rep eStr A (subL p0 ((p0.length:Int)-(p1.length:Int)) (p0.length:Int)))::gR (true&&((decide ((p1.length:Int)≤(p0.length:Int)))==true)) v1::gB (true&&((decide ((p1.length:Int)≤(p0.length:Int)))==true)) ((subL p0 ((p0.length:Int)-(p1.length:Int)) (p0.length:Int))==p1)::eB x3::eB x3::[]) ?_ ?_
 exact om h0<|op (fun Q U W H D=>zAd ((f_v0.fr W).eq (D.g 0 Z)) underlying9)<|om h1<|op (fun Q U W H D=>zAd ((f_v1.fr W).eq (D.g 0 Z)) underlying9)<|op (fun Q U W H D=>zDj (D.g 0 Z) (D.g 1 Z))<|ov<|gm 5 true h0<|gm 5 true h0<|og 5 true (fun G Q U W H D=>zAd ((f_v0.fr W).eq (D.h 0 G Z)) underlying9)<|gm 5 true h1<|og 5 true (fun G Q U W H D=>zAd ((f_v1.fr W).eq (D.h 0 G Z)) underlying9)<|og 5 true (fun G Q U W H D=>zFR (D.h 0 G Z) (D.h 1 G Z) (gd e1 G))<|og 5 true (fun G Q U W H D=>zDn ((f_v0.fr W).eq (D.h 0 G Z)) (D.h 1 G Z) underlying9  (gd e2 G))<|gm 5 true h1<|og 5 true (fun G Q U W H D=>zBV (D.h 0 G Z) ((f_v1.fr W).eq (D.h 1 G Z)))<|op (fun Q U W H D=>zAc (decide ((p1.length:Int)≤(p0.length:Int))) (D.g 0 Z) (fun hc=>by have a1:Q 19 = .bool ((subL p0 ((p0.length:Int)-(p1.length:Int)) (p0.length:Int))==p1):=D 1 _ _ _ Z Z Z Z (zC5 Z (zB5 hc));show _=Value.bool x3;rw [q4,hc];exact a1) (fun hc=>by show _=Value.bool x3;rw [q4,hc];exact Z))<|oa<|oz
 intro R w m n p d j
 have h4:=p.r 16 Z
 refine HT.ret ?_
 obtain rfl:=si c
 exact ⟨.inr Z,[R 4],⟨Z,N⟩,h4,j⟩
def zAn (fu:Nat) (p0:List UInt8) (p1:List UInt8):Option (List UInt8):=
 cl true (zAr fu p0 p1) fun x1=>
 bif x1 then (
 ck (i64B ((p0.length:Int)-(p1.length:Int))) <|
 ck (subR 0 ((p0.length:Int)-(p1.length:Int)) p0.length) <|
 some (subL p0 0 ((p0.length:Int)-(p1.length:Int)))
 ) else (
 some p0
 )
theorem zDU {fu : Nat} {A : Av} {p0 : List UInt8} {p1 : List UInt8} {r : List UInt8} (c : zAn fu p0 p1 = some r) {w : World} {v0 : Value} {v1 : Value} (d : AvOK A w) (h0 : Rep eStr A w v0 p0) (h1 : Rep eStr A w v1 p1) :
 Calls prog 180 #[v0,v1] w fun e w'=>∃ v,e = .returned v∧(Rep eStr A w' v r∧Fr w w'):=by
 unfold zAn at c
 obtain ⟨w0,hw0,j⟩:=pf w
 rw [fw hw0]
 refine zA5 [.tmp 4] func180 ntmps180 (by decide) Z Z (nb Z) ?_
 intro R hR
 have f_v0:=h0
 replace h0:R 0=v0:=hR 0 _ Z
 have f_v1:=h1
 replace h1:R 1=v1:=hR 1 _ Z
 refine HT.su d j (eF (.rep eStr A ([]:List UInt8))::[]) ?_ ?_
 exact op (fun Q U W H D=>zA0 ⟨_,Z,⟨_,Z,Z,by decide⟩⟩)<|oz
 intro R w m n p d j
 obtain ⟨h0,h1⟩:=k2 n h0 h1
 replace f_v0:=f_v0.fr m
 replace f_v1:=f_v1.fr m
 refine HT.seq ?_
 obtain ⟨x1,q2,c⟩:=zA4 c
 refine HT.su d j (eR v0::eR v1::eB x1::[]) ?_ ?_
 exact om h0<|om h1<|op (fun Q U W H D=>zAC call194 (zDe (q2 Z) (d.fr W.size) ((f_v0.fr W).eq (D.g 0 Z)) ((f_v1.fr W).eq (D.g 1 Z))))<|oz
 intro R w m n p d j
 obtain ⟨h0,h1⟩:=k2 n h0 h1
 have h7:=p.r 2 Z
 replace f_v0:=f_v0.fr m
 replace f_v1:=f_v1.fr m
 refine HT.cond x1 h7 (fun c3=>?_) (fun c3=>?_)
 have c:=zAH c3 c
 obtain ⟨e4,e5,c⟩:=ck2 c
 refine HT.su d j (eR v0::eR v0::eI (p0.length:Int)::eR v1::eI (p1.length:Int)::eI ((p0.length:Int)-(p1.length:Int))::eF (.rep eStr A (subL p0 0 ((p0.length:Int)-(p1.length:Int))))::eF (.rep eStr A (subL p0 0 ((p0.length:Int)-(p1.length:Int))))::[]) ?_ ?_
 exact om h0<|om h0<|op (fun Q U W H D=>zAd ((f_v0.fr W).eq (D.g 0 Z)) underlying9)<|om h1<|op (fun Q U W H D=>zAd ((f_v1.fr W).eq (D.g 0 Z)) underlying9)<|op (fun Q U W H D=>zFR (D.g 0 Z) (D.g 1 Z) e4)<|op (fun Q U W H D=>zC2 ((f_v0.fr W).eq (D.g 0 Z)) (D.g 1 Z) underlying9  e5)<|op (fun Q U W H D=>zA0 (D.g 0 Z))<|oz
 intro R w m n p d j
 obtain ⟨u6,h4,f_u6⟩:∃ u,R 4=u∧Rep eStr A w u (subL p0 0 ((p0.length:Int)-(p1.length:Int))):=⟨_,Z,p 7 _ _ Z Z Z⟩
 refine HT.ret ?_
 obtain rfl:=si c
 exact ⟨.inr Z,[R 4],⟨Z,N⟩,(f_u6.eq h4),j⟩
 have c:=zAG c3 c
 refine HT.skip ?_
 refine HT.su d j (eR v0::eR v0::[]) ?_ ?_
 exact om h0<|oa<|oz
 intro R w m n p d j
 have h4:=p.r 1 Z
 replace f_v0:=f_v0.fr m
 refine HT.ret ?_
 obtain rfl:=si c
 exact ⟨.inr Z,[R 4],⟨Z,N⟩,(f_v0.eq h4),j⟩
def zBM (fu:Nat) (p0:List UInt8) (p1:List UInt8):Option (List UInt8):=
 cl true (zAn fu p0 p1) fun x1=>
 some x1
theorem zF8 {fu : Nat} {A : Av} {p0 : List UInt8} {p1 : List UInt8} {r : List UInt8} (c : zBM fu p0 p1 = some r) {w : World} {v0 : Value} {v1 : Value} (d : AvOK A w) (h0 : Rep eStr A w v0 p0) (h1 : Rep eStr A w v1 p1) :
 Calls prog 161 #[v0,v1] w fun e w'=>∃ v,e = .returned v∧(Rep eStr A w' v r∧Fr w w'):=by
 unfold zBM at c
 obtain ⟨w0,hw0,j⟩:=pf w
 rw [fw hw0]
 refine zA5 [.tmp 4] func161 ntmps161 (by decide) Z Z (nb Z) ?_
 intro R hR
 have f_v0:=h0
 replace h0:R 0=v0:=hR 0 _ Z
 have f_v1:=h1
 replace h1:R 1=v1:=hR 1 _ Z
 refine HT.su d j (eF (.rep eStr A ([]:List UInt8))::[]) ?_ ?_
 exact op (fun Q U W H D=>zA0 ⟨_,Z,⟨_,Z,Z,by decide⟩⟩)<|oz
 intro R w m n p d j
 obtain ⟨h0,h1⟩:=k2 n h0 h1
 replace f_v0:=f_v0.fr m
 replace f_v1:=f_v1.fr m
 obtain ⟨x1,q2,c⟩:=zA4 c
 refine HT.su d j (eR v0::eR v1::eF (.rep eStr A x1)::eF (.rep eStr A x1)::[]) ?_ ?_
 exact om h0<|om h1<|op (fun Q U W H D=>zAC call180 (zDU (q2 Z) (d.fr W.size) ((f_v0.fr W).eq (D.g 0 Z)) ((f_v1.fr W).eq (D.g 1 Z))))<|op (fun Q U W H D=>zA0 (D.g 0 Z))<|oz
 intro R w m n p d j
 obtain ⟨u3,h4,f_u3⟩:∃ u,R 4=u∧Rep eStr A w u x1:=⟨_,Z,p 3 _ _ Z Z Z⟩
 refine HT.ret ?_
 obtain rfl:=si c
 exact ⟨.inr Z,[R 4],⟨Z,N⟩,(f_u3.eq h4),j⟩
def zAl (fu : Nat) (p0 : List UInt8) : Nat → Int → (List Int) → Option (List Int)
 | 0,_,_=>none
 | k+1,y5,y6=>
 bif (decide (y5<(p0.length:Int))) then (
 ck (inR y5 p0.length) <|
 ck (!((true&&(((bAt p0 y5) != 32)==false))&&((decide (0<(y6.length:Int)))==true)) || i64B ((y6.length:Int)-1)) <|
 ck (!((true&&(((bAt p0 y5) != 32)==false))&&((decide (0<(y6.length:Int)))==true)) || inR ((y6.length:Int)-1) y6.length) <|
 bd ((decide (0<(y6.length:Int)))&&((gtD y6 ((y6.length:Int)-1)) != 32)) fun x11=>
 bd (((bAt p0 y5) != 32) || x11) fun x13=>
 bif x13 then (
 ck (inR y5 p0.length) <|
 ck (zBE (y6.length+([(bAt p0 y5)]:List Int).length)) <|
 ck (i64B (y5+1)) <|
 zAl fu p0 k (y5+1) (y6++([(bAt p0 y5)]:List Int))
 ) else (
 ck (i64B (y5+1)) <|
 zAl fu p0 k (y5+1) y6
 )
 ) else (
 some y6
 )
def zC0 (fu:Nat) (p0:List UInt8):Option (List UInt8):=
 cl true (zAl fu p0 fu 0 ([]:List Int)) fun s4=>
 cl true (zBM fu (strB s4) ([32]:List UInt8)) fun x21=>
 some x21
theorem zEx {fu : Nat} {A0 : Av} {p0 : List UInt8} {r : List UInt8} (c : zC0 fu p0 = some r) {w : World} {v0 : Value} (d : AvOK A0 w) (h0 : Rep eStr A0 w v0 p0) :
 Calls prog 135 #[v0] w fun e w'=>∃ v,e = .returned v∧(Rep eStr A0 w' v r∧Fr w w'):=by
 unfold zC0 at c
 obtain ⟨w0,hw0,j,C⟩:=pw d
 have hA00:AvOK A0 w0:=C
 rw [fw hw0]
 obtain ⟨A,hAe,B,d,q⟩:=pa d
 refine zA5 [.tmp 2] func135 ntmps135 (by decide) Z Z (nb Z) ?_
 intro R hR
 have f_v0:Rep eStr A w v0 p0:=hAe ▸ h0
 replace h0:R 0=v0:=hR 0 _ Z
 refine HT.su d j (eF (.rep eStr A ([]:List UInt8))::[]) ?_ ?_
 exact op (fun Q U W H D=>zA0 ⟨_,Z,⟨_,Z,Z,by decide⟩⟩)<|oz
 intro R w m n p d j
 replace h0:=k1 n h0
 replace f_v0:=f_v0.fr m
 replace q:=q.fr m
 refine HT.su d j (eR (.slice none 0 0)::[]) ?_ ?_
 exact op (fun Q U W H D=>zA0 Z)<|oz
 intro R w m n p d j
 replace h0:=k1 n h0
 obtain ⟨u1,n_u1⟩:∃ u,u=Value.slice none 0 0:=⟨_,Z⟩
 have h3:R 3=u1:=(p 0 _ _ Z Z Z).trans n_u1.symm
 replace f_v0:=f_v0.fr m
 replace q:=q.fr m
 replace q:=q.nilcons (u:=u1) n_u1 w0.heap.size 5 (eInt .u8)
 refine HT.seq ?_
 refine HT.su d j (eR v0::eI (p0.length:Int)::eI 0::[]) ?_ ?_
 exact om h0<|op (fun Q U W H D=>zAd ((f_v0.fr W).eq (D.g 0 Z)) underlying9)<|op (fun Q U W H D=>zC1 Z)<|oz
 intro R w m n p d j
 obtain ⟨h0,h3⟩:=k2 n h0 h3
 have h6:=p.r 1 Z
 have h7:=p.r 2 Z
 replace f_v0:=f_v0.fr m
 replace q:=q.fr m
 obtain ⟨rl2,q3,c⟩:=zA4 c
 replace q3:=q3 Z
 refine HT.cut0 (fun R w=>∃ A:Av,∃ (s4:(List Int)) (uo_u1:Value),rl2=s4∧AvOK A w∧Fr w0 w∧(∀ b o,A0 b o→A b o)∧IniOK [ob uo_u1 (.vec w0.heap.size 5 (eInt .u8) s4)] A w∧R 3=uo_u1) ?_ ?_
 refine HT.block ?_
 refine HT.loop (fun k R w=>∃ A:Av,∃ (y5:Int) (y6:List Int) (ul_u1:Value),zAl fu p0 k y5 y6=some rl2∧AvOK A w∧Fr w0 w∧(∀ b o,A0 b o→A b o)∧IniOK [ob ul_u1 (.vec w0.heap.size 5 (eInt .u8) y6)] A w∧R 0=v0∧R 3=ul_u1∧R 6 = .int .i64 (p0.length:Int)∧R 7 = .int .i64 y5∧Rep eStr A w v0 p0) fu ⟨_,_,_,u1,q3,d,j,B,q,h0,h3,h6,h7,f_v0⟩ ?_
 have hr0:=c;clear c q3
 rintro k R w ⟨A,y5,y6,ul_u1,c,d,j,B,q,h0,h3,h6,h7,f_v0⟩
 rcases k with _ | k
 cases (show none=some _ from c)
 rw [zAl] at c
 refine HT.su d j (eB (decide (y5<(p0.length:Int)))::[]) ?_ ?_
 exact op (fun Q U W H D=>zAg ((H 7 Z).trans h7) ((H 6 Z).trans h6))<|oz
 intro R w m n p d j
 obtain ⟨h0,h3,h6,h7⟩:=k4 n h0 h3 h6 h7
 have h8:=p.r 0 Z
 replace f_v0:=f_v0.fr m
 replace q:=q.fr m
 refine HT.seq ?_
 refine HT.cond (decide (y5<(p0.length:Int))) h8 (fun c7=>?_) (fun c7=>?_)
 have c:=zAH c7 c
 refine HT.skip ?_
 refine HT.seq ?_
 refine HT.block ?_
 refine HT.su d j (eI y5::eI y5::[]) ?_ ?_
 exact om h7<|oa<|oz
 intro R w m n p d j
 obtain ⟨h0,h3,h6,h7⟩:=k4 n h0 h3 h6 h7
 have h4:=p.r 1 Z
 replace f_v0:=f_v0.fr m
 replace q:=q.fr m
 refine HT.seq ?_
 obtain ⟨e8,e9,e10,c⟩:=ck3 c
 obtain ⟨x11,q12,c⟩:=zAW c
 obtain ⟨x13,q14,c⟩:=zAW c
 refine HT.u d j (eR v0::eI y5::eU (bAt p0 y5)::eB ((bAt p0 y5) != 32)::eB ((bAt p0 y5) != 32)::gR (true&&(((bAt p0 y5) != 32)==false)) ul_u1::gI (true&&(((bAt p0 y5) != 32)==false)) (y6.length:Int)::gB (true&&(((bAt p0 y5) != 32)==false)) (decide (0<(y6.length:Int)))::gB (true&&(((bAt p0 y5) != 32)==false)) (decide (0<(y6.length:Int)))::gR ((true&&(((bAt p0 y5) != 32)==false))&&((decide (0<(y6.length:Int)))==true)) ul_u1::gR ((true&&(((bAt p0 y5) != 32)==false))&&((decide (0<(y6.length:Int)))==true)) ul_u1::gI ((true&&(((bAt p0 y5) != 32)==false))&&((decide (0<(y6.length:Int)))==true)) (y6.length:Int)::gI ((true&&(((bAt p0 y5) != 32)==false))&&((decide (0<(y6.length:Int)))==true)) ((y6.length:Int)-1)::gR ((true&&(((bAt p0 y5) != 32)==false))&&((decide (0<(y6.length:Int)))==true)) (vptr ul_u1 (((y6.length:Int)-1).toNat*1))::gU ((true&&(((bAt p0 y5) != 32)==false))&&((decide (0<(y6.length:Int)))==true)) (gtD y6 ((y6.length:Int)-1))::gB ((true&&(((bAt p0 y5) != 32)==false))&&((decide (0<(y6.length:Int)))==true)) ((gtD y6 ((y6.length:Int)-1)) != 32)::gB (true&&(((bAt p0 y5) != 32)==false)) x11::eB x13::[]) ?_ ?_
 exact om h0<|om h4<|op (fun Q U W H D=>zAR ((f_v0.fr W).eq (D.g 0 Z)) (D.g 1 Z) underlying9 e8)<|op (fun Q U W H D=>zEg (D.g 0 Z) Z)<|ov<|gm 4 false h3<|og 4 false (fun G Q U W H D=>zCJ (q.ok 0 _ Z).1 (D.h 0 G Z) underlying43)<|og 4 false (fun G Q U W H D=>zDz (D.h 0 G Z) Z)<|og 4 false (fun G Q U W H D=>zC1 (D.h 0 G Z))<|gm 8 true h3<|gm 8 true h3<|og 8 true (fun G Q U W H D=>zCJ (q.ok 0 _ Z).1 (D.h 0 G Z) underlying43)<|og 8 true (fun G Q U W H D=>zFR (D.h 0 G Z) Z (gd e9 G))<|og 8 true (fun G Q U W H D=>zB6 (q.ok 0 _ Z).1 (D.h 0 G Z) (D.h 1 G Z) underlying43 sizeOf5 (gd e10 G) Z)<|og 8 true (fun G Q U W H D=>OpF.int (zCc ((q.fr W).ok 0 _ Z).1 (D.h 0 G Z) (gd e10 G) Z (Fld.id _) Z isAgg5 sizeOf5))<|og 8 true (fun G Q U W H D=>zEg (D.h 0 G Z) Z)<|og 4 false (fun G Q U W H D=>zAc (decide (0<(y6.length:Int))) (D.h 0 G Z) (fun hc=>by have a1:Q 25 = .bool ((gtD y6 ((y6.length:Int)-1)) != 32):=D 1 _ _ _ Z Z Z Z (zC5 G (zB5 hc));show _=Value.bool x11;rw [q12,hc];exact a1) (fun hc=>by show _=Value.bool x11;rw [q12,hc];exact Z))<|op (fun Q U W H D=>zAc ((bAt p0 y5) != 32) (D.g 0 Z) (fun hc=>by show _=Value.bool x13;rw [q14,hc];exact Z) (fun hc=>by have a2:Q 26 = .bool x11:=D 1 _ _ _ Z Z Z Z (zC5 Z (zB5 hc));show _=Value.bool x13;rw [q14,hc];exact a2))<|oz
 intro R w m n p d j
 obtain ⟨h0,h3,h4,h6,h7⟩:=k5 n h0 h3 h4 h6 h7
 have h27:=p.r 17 Z
 replace f_v0:=f_v0.fr m
 replace q:=q.fr m
 refine HT.cond x13 h27 (fun c15=>?_) (fun c15=>?_)
 have c:=zAH c15 c
 obtain ⟨e16,e17,c⟩:=ck2 c
 refine HT.x [ob ul_u1 (.vec w0.heap.size 5 (eInt .u8) y6)] (rR ul_u1::rR v0::rI y5::rU (bAt p0 y5)::(rF fun A=>.rep (eSl (eInt .u8)) A ([(bAt p0 y5)]:List Int))::⟨_,true,[0],some (.vec w0.heap.size 5 (eInt .u8) (y6++([(bAt p0 y5)]:List Int))),true,fun A=>.any⟩::⟨_,true,[6],some (.vec w0.heap.size 5 (eInt .u8) (y6++([(bAt p0 y5)]:List Int))),true,fun A=>.any⟩::[]) (ur (ur (ur (ur (up (ua (ua (UAll.nil)))))))) q d ?_ ?_
 exact rm h3<|rm h0<|rm h4<|rp (fun V Q U O D=>zAR ((f_v0.stp O.stp).eq (D.g 0 Z)) (D.g 1 Z) underlying9 e16)<|rp (fun V Q U O D=>zAu [_] (E:=eInt .u8) ⟨(zBp.eq (D.g 0 Z)),N⟩ underlying43 sizeOf5 zeroValue5 Z Z Z O.av)<|rc (OblR.took 0 _ _ Z Z Z Z Z fun V Q U O D u X Y J L M=>by have a0:Q 28=ul_u1:=D.g 0 Z;have a1:Rep (eSl (eInt .u8)) V U (Q 32) ([(bAt p0 y5)]:List Int):=D.g 1 Z;exact zAS (a0.trans (J _ Z).symm) X Y (Nat.le_trans j.size O.ch.size) a1 underlying43 el_5 e17)<|rc (OblR.took 6 _ _ Z Z Z Z Z fun V Q U O D u X Y J L M=>by exact zA8 (L _ _ Z Z Z Z).symm X Y)<|rz
 intro done ρ σ A R w y s
 obtain ⟨h0,h6,h7⟩:=k3 s.rg h0 h6 h7
 obtain ⟨u18,e_u18⟩:∃ u,ρ 7=u:=⟨_,Z⟩
 have h3:=s.ov y 7 6 e_u18
 replace f_v0:=f_v0.stp s.stp
 obtain ⟨B,j,d⟩:=s.s B C j q ⟨Z,N⟩
 replace q:=s.left y [(7,ob u18 (.vec w0.heap.size 5 (eInt .u8) (y6++([(bAt p0 y5)]:List Int))))] ⟨Z,Z,e_u18,Z,Z,N⟩
 obtain ⟨e19,c⟩:=zA3 c
 refine HT.u d j (eI (y5+1)::eI (y5+1)::[]) ?_ ?_
 exact op (fun Q U W H D=>zAO ((H 7 Z).trans h7) Z e19)<|ov<|oz
 intro R w m n p d j
 obtain ⟨h0,h3,h6⟩:=k3 n h0 h3 h6
 have h7:=p.r 1 Z
 replace f_v0:=f_v0.fr m
 replace q:=q.fr m
 exact ei k (And.intro (Nat.lt_succ_self k) ⟨_,_,_,u18,c,d,j,B,q,h0,h3,h6,h7,f_v0⟩)
 have c:=zAG c15 c
 refine HT.skip ?_
 obtain ⟨e20,c⟩:=zA3 c
 refine HT.u d j (eI (y5+1)::eI (y5+1)::[]) ?_ ?_
 exact op (fun Q U W H D=>zAO ((H 7 Z).trans h7) Z e20)<|ov<|oz
 intro R w m n p d j
 obtain ⟨h0,h3,h6⟩:=k3 n h0 h3 h6
 have h7:=p.r 1 Z
 replace f_v0:=f_v0.fr m
 replace q:=q.fr m
 exact ei k (And.intro (Nat.lt_succ_self k) ⟨_,_,_,ul_u1,c,d,j,B,q,h0,h3,h6,h7,f_v0⟩)
 have c:=zAG c7 c
 refine HT.exit ?_
 obtain rfl:=si c
 exact ei _ ⟨_,ul_u1,Z,d,j,B,q,h3⟩
 rintro R w ⟨A,s4,uo_u1,es,d,j,B,q,h3⟩
 obtain rfl:=es.symm
 obtain ⟨x21,q22,c⟩:=zA4 c
 refine HT.su d j (eR uo_u1::eF (.rep eStr A (strB s4))::eF (.rep eStr A x21)::eF (.rep eStr A x21)::[]) ?_ ?_
 exact om h3<|op (fun Q U W H D=>zBK ((zBf ((q.fr W).ok 0 _ Z).1 B C).eq (D.g 0 Z)) underlying43 underlying5 underlying9)<|op (fun Q U W H D=>zAC call161 (zF8 (q22 Z) (d.fr W.size) (D.g 0 Z) ⟨_,Z,⟨_,Z,Z,by decide⟩⟩))<|op (fun Q U W H D=>zA0 (D.g 0 Z))<|oz
 intro R w m n p d j
 obtain ⟨u23,h2,f_u23⟩:∃ u,R 2=u∧Rep eStr A w u x21:=⟨_,Z,p 3 _ _ Z Z Z⟩
 replace q:=q.fr m
 replace q:IniOK [] A w:=q.sub [] N
 refine HT.ret ?_
 obtain rfl:=si c
 exact ⟨.inr Z,[R 2],⟨Z,N⟩,(f_u23.eq h2).down B,j⟩
def zCz (fu:Nat) (p0:List UInt8):Option (List UInt8):=
 cl true (zCj fu p0) fun x1=>
 cl true (zCf fu x1) fun x3=>
 cl true (zC0 fu x3) fun x5=>
 some x5
theorem zG9 {fu : Nat} {A : Av} {p0 : List UInt8} {r : List UInt8} (c : zCz fu p0 = some r) {w : World} {v0 : Value} (d : AvOK A w) (hG : GTab w) (h0 : Rep eStr A w v0 p0) :
 Calls prog 104 #[v0] w fun e w'=>∃ v,e = .returned v∧(Rep eStr A w' v r∧Fr w w'):=by
 unfold zCz at c
 obtain ⟨w0,hw0,j⟩:=pf w
 rw [fw hw0]
 have hG0:GTab w0:=hw0 ▸ hG
 refine zA5 [.tmp 2] func104 ntmps104 (by decide) Z Z (nb Z) ?_
 intro R hR
 have f_v0:=h0
 replace h0:R 0=v0:=hR 0 _ Z
 refine HT.su d j (eF (.rep eStr A ([]:List UInt8))::[]) ?_ ?_
 exact op (fun Q U W H D=>zA0 ⟨_,Z,⟨_,Z,Z,by decide⟩⟩)<|oz
 intro R w m n p d j
 replace h0:=k1 n h0
 replace f_v0:=f_v0.fr m
 obtain ⟨x1,q2,c⟩:=zA4 c
 obtain ⟨x3,q4,c⟩:=zA4 c
 obtain ⟨x5,q6,c⟩:=zA4 c
 refine HT.su d j (eR v0::eF (.rep eStr A x1)::eF (.rep eStr A x3)::eF (.rep eStr A x5)::eF (.rep eStr A x5)::[]) ?_ ?_
 exact om h0<|op (fun Q U W H D=>zAC call130 (zEl (q2 Z) (d.fr W.size) ((f_v0.fr W).eq (D.g 0 Z))))<|op (fun Q U W H D=>zAC call136 (zFr (q4 Z) (d.fr W.size) (hG0.fr (j.trans W)) (D.g 0 Z)))<|op (fun Q U W H D=>zAC call135 (zEx (q6 Z) (d.fr W.size) (D.g 0 Z)))<|op (fun Q U W H D=>zA0 (D.g 0 Z))<|oz
 intro R w m n p d j
 obtain ⟨u7,h2,f_u7⟩:∃ u,R 2=u∧Rep eStr A w u x5:=⟨_,Z,p 4 _ _ Z Z Z⟩
 refine HT.ret ?_
 obtain rfl:=si c
 exact ⟨.inr Z,[R 2],⟨Z,N⟩,(f_u7.eq h2),j⟩
def zDR (fu:Nat) (p0:Int):Option Bool:=
 some (p0==32)
theorem zGx {fu : Nat} {A : Av} {p0 : Int} {r : Bool} (c : zDR fu p0 = some r) {w : World} {v0 : Value} (d : AvOK A w) (h0 : v0 = .int .i32 p0) :
 Calls prog 134 #[v0] w fun e w'=>∃ v,e = .returned v∧(v = .bool r∧Fr w w'):=by
 unfold zDR at c
 obtain ⟨w0,hw0,j⟩:=pf w
 rw [fw hw0]
 refine zA5 [.tmp 2] func134 ntmps134 (by decide) Z Z (nb Z) ?_
 intro R hR
 replace h0:R 0 = .int .i32 p0:=(hR 0 _ Z).trans h0
 refine HT.su d j (eB false::[]) ?_ ?_
 exact op (fun Q U W H D=>zA0 Z)<|oz
 intro R w m n p d j
 replace h0:=k1 n h0
 refine HT.su d j (eR (.int .i32 p0)::eB (p0==32)::eB (p0==32)::[]) ?_ ?_
 exact om h0<|op (fun Q U W H D=>zEV (D.g 0 Z) Z)<|oa<|oz
 intro R w m n p d j
 have h2:=p.r 2 Z
 refine HT.ret ?_
 obtain rfl:=si c
 exact ⟨.inr Z,[R 2],⟨Z,N⟩,h2,j⟩
def zEG (fu:Nat) (p0:List UInt8):Option (List (List UInt8)):=
 cl true (zHB fu p0 (fun x=>zDR fu x)) fun x1=>
 some x1
theorem zHa {fu : Nat} {A : Av} {p0 : List UInt8} {r : List (List UInt8)} (c : zEG fu p0 = some r) {w : World} {v0 : Value} (d : AvOK A w) (h0 : Rep eStr A w v0 p0) :
 Calls prog 103 #[v0] w fun e w'=>∃ v,e = .returned v∧(Rep (eSl eStr) A w' v r∧Fr w w'):=by
 unfold zEG at c
 obtain ⟨w0,hw0,j⟩:=pf w
 rw [fw hw0]
 refine zA5 [.tmp 2] func103 ntmps103 (by decide) Z Z (nb Z) ?_
 intro R hR
 have f_v0:=h0
 replace h0:R 0=v0:=hR 0 _ Z
 refine HT.su d j (eF (.rep (eSl eStr) A ([]:List (List UInt8)))::[]) ?_ ?_
 exact op (fun Q U W H D=>zA0 zII)<|oz
 intro R w m n p d j
 replace h0:=k1 n h0
 replace f_v0:=f_v0.fr m
 obtain ⟨x1,q2,c⟩:=zA4 c
 refine HT.su d j (eR v0::eF (.rep (eSl eStr) A x1)::eF (.rep (eSl eStr) A x1)::[]) ?_ ?_
 exact om h0<|op (fun Q U W H D=>zAC call133 (zJb (q2 Z) (d.fr W.size) ((f_v0.fr W).eq (D.g 0 Z)) (zHV [] Z call134 (fun x r hr' w'' a p hA' ha=>zGx hr' hA' (zGn ha)))))<|op (fun Q U W H D=>zA0 (D.g 0 Z))<|oz
 intro R w m n p d j
 obtain ⟨u3,h2,f_u3⟩:∃ u,R 2=u∧Rep (eSl eStr) A w u x1:=⟨_,Z,p 2 _ _ Z Z Z⟩
 refine HT.ret ?_
 obtain rfl:=si c
 exact ⟨.inr Z,[R 2],⟨Z,N⟩,(f_u3.eq h2),j⟩
def zB8 (fu:Nat) (p0:List (List UInt8)):Option (List (List UInt8)):=
 ck (zBE (([]:List (List UInt8)).length+p0.length)) <|
 some (([]:List (List UInt8))++p0)
theorem zE8 {fu : Nat} {A0 : Av} {p0 : List (List UInt8)} {r : List (List UInt8)} (c : zB8 fu p0 = some r) {w : World} {v0 : Value} (d : AvOK A0 w) (h0 : Rep (eSl eStr) A0 w v0 p0) :
 Calls prog 74 #[v0] w fun e w'=>∃ v,e = .returned v∧((Res.vec w.heap.size 9 eStr r).ok (addA A0 v) v w'∧Fr w w'):=by
 unfold zB8 at c
 obtain ⟨w0,hw0,j,C⟩:=pw d
 have hA00:AvOK A0 w0:=C
 rw [fh hw0]
 rw [fw hw0]
 obtain ⟨A,hAe,B,d,q⟩:=pa d
 refine zA5 [.tmp 2] func74 ntmps74 (by decide) Z Z (nb Z) ?_
 intro R hR
 have f_v0:Rep (eSl eStr) A w v0 p0:=hAe ▸ h0
 replace h0:R 0=v0:=hR 0 _ Z
 refine HT.su d j (eA::[]) ?_ ?_
 exact op (fun Q U W H D=>zA0 N)<|oz
 intro R w m n p d j
 replace h0:=k1 n h0
 replace f_v0:=f_v0.fr m
 replace q:=q.fr m
 refine HT.seq ?_
 refine HT.su d j (eR v0::eB (zKC v0)::[]) ?_ ?_
 exact om h0<|op (fun Q U W H D=>zKm (D.g 0 Z) (f_v0.fr W) Z underlying34)<|oz
 intro R w m n p d j
 replace h0:=k1 n h0
 have h4:=p.r 1 Z
 replace f_v0:=f_v0.fr m
 replace q:=q.fr m
 refine HT.cond (zKC v0) h4 (fun c1=>?_) (fun c1=>?_)
 obtain rfl:=zKo f_v0 c1
 refine HT.su d j (eR (.slice none 0 0)::[]) ?_ ?_
 exact op (fun Q U W H D=>zA0 Z)<|oz
 intro R w m n p d j
 obtain ⟨u2,n_u2⟩:∃ u,u=Value.slice none 0 0:=⟨_,Z⟩
 have h2:R 2=u2:=(p 0 _ _ Z Z Z).trans n_u2.symm
 replace q:=q.fr m
 replace q:=q.nilcons (u:=u2) n_u2 w0.heap.size 9 eStr
 refine HT.ret ?_
 replace c:some ([]:List (List UInt8))=some r:=c
 obtain rfl:=si c
 exact ⟨.inr Z,[R 2],⟨Z,N⟩,(zBu (q.ok 0 _ Z) B h2),j⟩
 refine HT.skip ?_
 obtain ⟨e3,c⟩:=zA3 c
 refine HT.sx [] (⟨_,true,[],some (.vec w0.heap.size 9 eStr ([]:List (List UInt8))),true,fun A=>.any⟩::rR v0::⟨_,true,[0],some (.vec w0.heap.size 9 eStr (([]:List (List UInt8))++p0)),true,fun A=>.any⟩::⟨_,true,[2],some (.vec w0.heap.size 9 eStr (([]:List (List UInt8))++p0)),true,fun A=>.any⟩::[]) (ua (ur (ua (ua (UAll.nil))))) q d ?_ ?_
 exact rc (OblR.made _ Z Z Z Z fun V Q U O D=>by exact zCA [] (E:=eStr) N underlying34 sizeOf9 zeroValue9 Z Z Z (Nat.le_trans j.size O.ch.size))<|rm h0<|rc (OblR.took 0 _ _ Z Z Z Z Z fun V Q U O D u X Y J L M=>by have a1:Q 6=v0:=D.g 1 Z;have ra1:=(f_v0.stp O.stp).eq a1;exact zAS (L _ _ Z Z Z Z).symm X Y (Nat.le_trans j.size O.ch.size) ra1 underlying34 el_9 e3)<|rc (OblR.took 2 _ _ Z Z Z Z Z fun V Q U O D u X Y J L M=>by exact zA8 (L _ _ Z Z Z Z).symm X Y)<|rz
 intro done ρ σ A R w y s
 obtain ⟨u4,e_u4⟩:∃ u,ρ 3=u:=⟨_,Z⟩
 have h2:=s.ov y 3 3 e_u4
 obtain ⟨B,j,d⟩:=s.s B C j q N
 replace q:=s.left y [(3,ob u4 (.vec w0.heap.size 9 eStr (([]:List (List UInt8))++p0)))] ⟨Z,Z,e_u4,Z,Z,N⟩
 refine HT.ret ?_
 obtain rfl:=si c
 exact ⟨.inr Z,[R 2],⟨Z,N⟩,(zBu (q.ok 0 _ Z) B h2),j⟩
end Go.Proofs.YtldppodfhabkjaaGreatDoor
