/- Own texts laid together. No statement of the seat is proved here. -/
import Derived.Test.YtmgiijdejigdhaaGreatZx4
namespace Go.Proofs.YtmgiijdejigdhaaGreat
open Go.RowKit
set_option linter.unusedVariables false
open _root_.Go.Proofs.Tryz
set_option maxRecDepth 100000
set_option maxHeartbeats 4000000
def zCR (fu:Nat) (p0:Int) (p1:Int):Option (Int × Int):=
 cl true (zCV fu p0) fun x1=>
 cl (true&&((!x1)==false)) (zBs fu p1) fun x3=>
 bd ((!x1) || (!x3)) fun x5=>
 bif x5 then (
 some ((-1),(-1))
 ) else (
 ck (i64B (p0*p1)) <|
 cl true (zEr fu (p0*p1) 1000) fun x9=>
 ck (i64B (p0*1000)) <|
 ck (p1 != 0) <|
 ck (i64B ((p0*1000).tdiv p1)) <|
 some (x9,((p0*1000).tdiv p1))
 )
theorem zEd {fu : Nat} {A : Av} {p0 : Int} {p1 : Int} {r : Int × Int} (c : zCR fu p0 p1 = some r) {w : World} {v0 : Value} {v1 : Value} (d : AvOK A w) (h0 : v0=.int .i64 p0) (h1 : v1=.int .i64 p1) :
 Calls prog 24 #[v0,v1] w fun e w'=>∃ v,e=.returned v/\((∃ a b,v=.tuple #[a,b]/\a=.int .i64 r.1/\b=.int .i64 r.2)/\Fr w w'):=by
 unfold zCR at c
 obtain ⟨w0,hw0,j⟩:=pf w
 rw [fw hw0]
 refine zAB [.tmp 4,.tmp 5] func24 ntmps24 (by decide) Z Z (nb Z) ?_
 intro R hR
 replace h0:R 0=.int .i64 p0:=(hR 0 _ Z).trans h0
 replace h1:R 1=.int .i64 p1:=(hR 1 _ Z).trans h1
 refine zPR d j (eI 0::eI 0::[]) ?_ ?_
 exact op (fun Q U W H D=>zA6 Z)<|op (fun Q U W H D=>zA6 Z)<|oz
 intro R w m n p d j
 obtain ⟨h0,h1⟩:=k2 n h0 h1
 refine zPQ ?_
 refine zPQ ?_
 obtain ⟨x1,q2,c⟩:=zA9 c
 obtain ⟨x3,q4,c⟩:=zA9 c
 obtain ⟨x5,q6,c⟩:=zAO c
 refine HT.u d j (eI p0::eB x1::eB (!x1)::eB (!x1)::gI (true&&((!x1)==false)) p1::gB (true&&((!x1)==false)) x3::gB (true&&((!x1)==false)) (!x3)::eB x5::[]) ?_ ?_
 exact om h0<|op (fun Q U W H D=>zAM call23 (zE7 (q2 Z) (d.fr W.size) (D.g 0 Z)))<|op (fun Q U W H D=>zBY (D.g 0 Z))<|ov<|gm 3 false h1<|og 3 false (fun G Q U W H D=>zAM call44 (zDj (q4 G) (d.fr W.size) (D.h 0 G Z)))<|og 3 false (fun G Q U W H D=>zBY (D.h 0 G Z))<|op (fun Q U W H D=>zAR (!x1) (D.g 0 Z) (fun hc=>by show _=Value.bool x5;rw [q6,hc];exact Z) (fun hc=>by have a2:Q 12=.bool (!x3):=D 1 _ _ _ Z Z Z Z (zBJ Z (zAf hc));show _=Value.bool x5;rw [q6,hc];exact a2))<|oz
 intro R w m n p d j
 obtain ⟨h0,h1⟩:=k2 n h0 h1
 have h13:=p.r 7 Z
 refine zPJ x5 h13 (fun c7=>?_) (fun c7=>?_)
 have c:=zAe c7 c
 refine zPR d j (eI (-1)::eI (-1)::[]) ?_ ?_
 exact op (fun Q U W H D=>zA6 Z)<|op (fun Q U W H D=>zA6 Z)<|oz
 intro R w m n p d j
 have h4:=p.r 0 Z
 have h5:=p.r 1 Z
 refine HT.ret ?_
 obtain rfl:=si c
 exact ⟨.inr Z,[R 4,R 5],⟨Z,⟨Z,N⟩⟩,⟨_,_,Z,h4,h5⟩,j⟩
 have c:=zAd c7 c
 refine HT.skip<|zPQ ?_
 obtain ⟨e8,c⟩:=zAG c
 obtain ⟨x9,q10,c⟩:=zA9 c
 obtain ⟨e11,e12,e13,c⟩:=ck3 c
 refine zPM (by kernel_rfl) (l:=eI p0::eI p1::eI (p0*p1)::eI x9::eI p0::eI (p0*1000)::eI p1::eI ((p0*1000).tdiv p1)::eI x9::eI ((p0*1000).tdiv p1)::[]) (tl:=[]) (by kernel_rfl) (by kernel_rfl) (by kernel_rfl) (by kernel_rfl) ?_ ?_
 exact om h0<|om h1<|op (fun Q U W H D=>zFx (D.g 0 Z) (D.g 1 Z) e8)<|op (fun Q U W H D=>zAM call51 (zHd (q10 Z) (d.fr W.size) (D.g 0 Z) Z))<|om h0<|op (fun Q U W H D=>zFx (D.g 0 Z) Z e11)<|om h1<|op (fun Q U W H D=>zLd (D.g 0 Z) (D.g 1 Z) e12 e13)<|oa<|oa<|oz
 intro R w m n p
 have h4:=p.r 8 Z
 have h5:=p.r 9 Z
 replace d:=d.fr m.size
 replace j:=j.trans m
 refine HT.ret ?_
 obtain rfl:=si c
 exact ⟨.inr Z,[R 4,R 5],⟨Z,⟨Z,N⟩⟩,⟨_,_,Z,h4,h5⟩,j⟩
def zCz (fu:Nat) (p0:Int) (p1:Int):Option Int:=
 cl true (zCR fu p0 p1) fun x1=>
 bd ((decide (x1.1<0)) || (p0==0)) fun x3=>
 bif x3 then (
 some (min x1.1 0)
 ) else (
 ck (i64B (p0-x1.1)) <|
 ck (i64B ((p0-x1.1)+1)) <|
 some ((p0-x1.1)+1)
 )
theorem zG1 {fu : Nat} {A : Av} {p0 : Int} {p1 : Int} {r : Int} (c : zCz fu p0 p1 = some r) {w : World} {v0 : Value} {v1 : Value} (d : AvOK A w) (h0 : v0=.int .i64 p0) (h1 : v1=.int .i64 p1) :
 Calls prog 81 #[v0,v1] w fun e w'=>∃ v,e=.returned v/\(v=.int .i64 r/\Fr w w'):=by
 unfold zCz at c
 obtain ⟨w0,hw0,j⟩:=pf w
 rw [fw hw0]
 refine zAB [.tmp 4] func81 ntmps81 (by decide) Z Z (nb Z) ?_
 intro R hR
 replace h0:R 0=.int .i64 p0:=(hR 0 _ Z).trans h0
 replace h1:R 1=.int .i64 p1:=(hR 1 _ Z).trans h1
 refine zPR d j (eI 0::[]) ?_ ?_
 exact op (fun Q U W H D=>zA6 Z)<|oz
 intro R w m n p d j
 obtain ⟨h0,h1⟩:=k2 n h0 h1
 obtain ⟨x1,q2,c⟩:=zA9 c
 refine zPR d j (eI p0::eI p1::eF (.tup2 (.raw (.int .i64 x1.1)) (.raw (.int .i64 x1.2)))::eF (.tup2 (.raw (.int .i64 x1.1)) (.raw (.int .i64 x1.2)))::eI x1.1::eI x1.2::eI x1.1::eI x1.2::[]) ?_ ?_
 exact om h0<|om h1<|op (fun Q U W H D=>zAM call24 (zEd (q2 Z) (d.fr W.size) (D.g 0 Z) (D.g 1 Z)))<|op (fun Q U W H D=>zBI (D.g 0 Z))<|op (fun Q U W H D=>zBv (D.g 0 Z))<|op (fun Q U W H D=>zBj (D.g 0 Z))<|oa<|oa<|oz
 intro R w m n p d j
 replace h0:=k1 n h0
 have h5:=p.r 6 Z
 refine zPQ ?_
 refine zPQ ?_
 obtain ⟨x3,q4,c⟩:=zAO c
 refine HT.u d j (eI x1.1::eB (decide (x1.1<0))::eB (decide (x1.1<0))::gI (true&&((decide (x1.1<0))==false)) p0::gB (true&&((decide (x1.1<0))==false)) (p0==0)::eB x3::[]) ?_ ?_
 exact om h5<|op (fun Q U W H D=>zB8 (D.g 0 Z) Z)<|ov<|gm 2 false h0<|og 2 false (fun G Q U W H D=>zEt (D.h 0 G Z) Z)<|op (fun Q U W H D=>zAR (decide (x1.1<0)) (D.g 0 Z) (fun hc=>by show _=Value.bool x3;rw [q4,hc];exact Z) (fun hc=>by have a2:Q 17=.bool (p0==0):=D 1 _ _ _ Z Z Z Z (zBJ Z (zAf hc));show _=Value.bool x3;rw [q4,hc];exact a2))<|oz
 intro R w m n p d j
 obtain ⟨h0,h5⟩:=k2 n h0 h5
 have h18:=p.r 5 Z
 refine zPJ x3 h18 (fun c5=>?_) (fun c5=>?_)
 have c:=zAe c5 c
 refine zPR d j (eI x1.1::eI (min x1.1 0)::eI (min x1.1 0)::[]) ?_ ?_
 exact om h5<|op (fun Q U W H D=>zOV (D.g 0 Z) Z)<|oa<|oz
 intro R w m n p d j
 have h4:=p.r 2 Z
 refine HT.ret ?_
 obtain rfl:=si c
 exact ⟨.inr Z,[R 4],⟨Z,N⟩,h4,j⟩
 have c:=zAd c5 c
 refine HT.skip ?_
 obtain ⟨e6,e7,c⟩:=ck2 c
 refine zPR d j (eI p0::eI x1.1::eI (p0-x1.1)::eI ((p0-x1.1)+1)::eI ((p0-x1.1)+1)::[]) ?_ ?_
 exact om h0<|om h5<|op (fun Q U W H D=>zDf (D.g 0 Z) (D.g 1 Z) e6)<|op (fun Q U W H D=>zAi (D.g 0 Z) Z e7)<|oa<|oz
 intro R w m n p d j
 have h4:=p.r 4 Z
 refine HT.ret ?_
 obtain rfl:=si c
 exact ⟨.inr Z,[R 4],⟨Z,N⟩,h4,j⟩
def zAQ (fu:Nat) (p0:List (List UInt8)):Option (List (List UInt8)):=
 ck (zD4 (([]:List (List UInt8)).length+p0.length)) <|
 some (([]:List (List UInt8))++p0)
theorem zAj {fu : Nat} {A0 : Av} {p0 : List (List UInt8)} {r : List (List UInt8)} (c : zAQ fu p0 = some r) {w : World} {v0 : Value} (d : AvOK A0 w) (h0 : Rep (eSl eStr) A0 w v0 p0) :
 Calls prog 39 #[v0] w fun e w'=>∃ v,e=.returned v/\((Res.vec w.heap.size 9 eStr r).ok (addA A0 v) v w'/\Fr w w'):=by
 unfold zAQ at c
 obtain ⟨w0,hw0,j,C⟩:=pw d
 have hA00:AvOK A0 w0:=C
 rw [fh hw0]
 rw [fw hw0]
 obtain ⟨A,hAe,B,d,q⟩:=pa d
 refine zAB [.tmp 2] func39 ntmps39 (by decide) Z Z (nb Z) ?_
 intro R hR
 have f_v0:Rep (eSl eStr) A w v0 p0:=hAe ▸ h0
 replace h0:R 0=v0:=hR 0 _ Z
 refine zPR d j (eA::[]) ?_ ?_
 exact op (fun Q U W H D=>zA6 N)<|oz
 intro R w m n p d j
 replace h0:=k1 n h0
 replace f_v0:=f_v0.fr m
 replace q:=q.fr m
 refine zPQ ?_
 refine zPR d j (eR v0::eB (zI5 v0)::[]) ?_ ?_
 exact om h0<|op (fun Q U W H D=>zHf (D.g 0 Z) (f_v0.fr W) Z underlying28)<|oz
 intro R w m n p d j
 replace h0:=k1 n h0
 have h4:=p.r 1 Z
 replace f_v0:=f_v0.fr m
 replace q:=q.fr m
 refine zPJ (zI5 v0) h4 (fun c1=>?_) (fun c1=>?_)
 obtain rfl:=zHs f_v0 c1
 refine zPR d j (eR (.slice none 0 0)::[]) ?_ ?_
 exact op (fun Q U W H D=>zA6 Z)<|oz
 intro R w m n p d j
 obtain ⟨u2,n_u2⟩:∃ u,u=Value.slice none 0 0:=⟨_,Z⟩
 have h2:R 2=u2:=(p 0 _ _ Z Z Z).trans n_u2.symm
 replace q:=q.fr m
 replace q:=q.nilcons (u:=u2) n_u2 w0.heap.size 9 eStr
 refine HT.ret ?_
 replace c:some ([]:List (List UInt8))=some r:=c
 obtain rfl:=si c
 exact ⟨.inr Z,[R 2],⟨Z,N⟩,(zBk (q.ok 0 _ Z) B h2),j⟩
 refine HT.skip ?_
 obtain ⟨e3,c⟩:=zAG c
 refine zPS [] (⟨_,true,[],some (.vec w0.heap.size 9 eStr ([]:List (List UInt8))),true,fun A=>.any⟩::rR v0::⟨_,true,[0],some (.vec w0.heap.size 9 eStr (([]:List (List UInt8))++p0)),true,fun A=>.any⟩::⟨_,true,[2],some (.vec w0.heap.size 9 eStr (([]:List (List UInt8))++p0)),true,fun A=>.any⟩::[]) (ua (ur (ua (ua (UAll.nil))))) q d ?_ ?_
 exact rc (OblR.made _ Z Z Z Z fun V Q U O D=>by exact zBM [] (E:=eStr) N underlying28 sizeOf9 zeroValue9 Z Z Z (Nat.le_trans j.size O.ch.size))<|rm h0<|rc (OblR.took 0 _ _ Z Z Z Z Z fun V Q U O D u X Y J L M=>by have a1:Q 6=v0:=D.g 1 Z;have ra1:=(f_v0.stp O.stp).eq a1;exact zAs (L _ _ Z Z Z Z).symm X Y (Nat.le_trans j.size O.ch.size) ra1 underlying28 el_9 e3)<|rc (OblR.took 2 _ _ Z Z Z Z Z fun V Q U O D u X Y J L M=>by exact zAP (L _ _ Z Z Z Z).symm X Y)<|rz
 intro done ρ σ A R w y s
 obtain ⟨u4,e_u4⟩:∃ u,ρ 3=u:=⟨_,Z⟩
 have h2:=s.ov y 3 3 e_u4
 obtain ⟨B,j,d⟩:=s.s B C j q N
 replace q:=s.left y [(3,ob u4 (.vec w0.heap.size 9 eStr (([]:List (List UInt8))++p0)))] ⟨Z,Z,e_u4,Z,Z,N⟩
 refine HT.ret ?_
 obtain rfl:=si c
 exact ⟨.inr Z,[R 2],⟨Z,N⟩,(zBk (q.ok 0 _ Z) B h2),j⟩
def zBG (fu : Nat) (p0 : List zA3) (p1 : List UInt8) : Nat -> Int -> Option (Ex Int Unit)
 | 0,_=>none
 | k+1,y4=>
 bif (decide (y4<(p0.length:Int))) then (
 ck (inR y4 p0.length) <|
 bif (((gtD p0 y4).1)==p1) then (
 some (Ex.ret ((gtD p0 y4).2))
 ) else (
 ck (i64B (y4+1)) <|
 zBG fu p0 p1 k (y4+1)
 )
 ) else (
 some (Ex.go ())
 )
def zC1 (fu:Nat) (p0:List zA3) (p1:List UInt8):Option Int:=
 cl true (zBG fu p0 p1 fu 0) fun rl1=>
 exM rl1 (fun r=>some r) fun s3=>
 some 0
theorem zEI {fu : Nat} {A0 : Av} {p0 : List zA3} {p1 : List UInt8} {r : Int} (c : zC1 fu p0 p1 = some r) {w : World} {v0 : Value} {v1 : Value} (d : AvOK A0 w) (h0 : Rep (eSl zA0) A0 w v0 p0) (h1 : Rep eStr A0 w v1 p1) :
 Calls prog 96 #[v0,v1] w fun e w'=>∃ v,e=.returned v/\(v=.int .i64 r/\Fr w w'):=by
 unfold zC1 at c
 obtain ⟨w0,hw0,j,C⟩:=pw d
 have hA00:AvOK A0 w0:=C
 rw [fw hw0]
 obtain ⟨A,hAe,B,d,q⟩:=pa d
 refine zAB [.tmp 4] func96 ntmps96 (by decide) Z Z (nb Z) ?_
 intro R hR
 have f_v0:Rep (eSl zA0) A w v0 p0:=hAe ▸ h0
 replace h0:R 0=v0:=hR 0 _ Z
 have f_v1:Rep eStr A w v1 p1:=hAe ▸ h1
 replace h1:R 1=v1:=hR 1 _ Z
 refine zPR d j (eI 0::[]) ?_ ?_
 exact op (fun Q U W H D=>zA6 Z)<|oz
 intro R w m n p d j
 obtain ⟨h0,h1⟩:=k2 n h0 h1
 replace f_v0:=f_v0.fr m
 replace f_v1:=f_v1.fr m
 replace q:=q.fr m
 refine zPQ ?_
 refine zPR d j (eR v0::eI (p0.length:Int)::eI 0::[]) ?_ ?_
 exact om h0<|op (fun Q U W H D=>zAN (aT:=#[]) ((f_v0.fr W).eq (D.g 0 Z)) underlying24)<|op (fun Q U W H D=>zBI Z)<|oz
 intro R w m n p d j
 replace h1:=k1 n h1
 have h7:=p.r 0 Z
 have h8:=p.r 1 Z
 have h9:=p.r 2 Z
 replace f_v0:=f_v0.fr m
 replace f_v1:=f_v1.fr m
 replace q:=q.fr m
 obtain ⟨rl1,q2,c⟩:=zA9 c
 replace q2:=q2 Z
 refine zPL (fun R w=>∃ A:Av,∃ (s3:Unit),rl1=Ex.go s3/\AvOK A w/\Fr w0 w/\(∀ b o,A0 b o->A b o)/\IniOK [] A w) ?_ ?_
 refine HT.block<|zPP (fun k R w=>∃ A:Av,∃ (y4:Int),zBG fu p0 p1 k y4=some rl1/\AvOK A w/\Fr w0 w/\(∀ b o,A0 b o->A b o)/\IniOK [] A w/\R 1=v1/\R 7=v0/\R 8=.int .i64 (p0.length:Int)/\R 9=.int .i64 y4/\Rep (eSl zA0) A w v0 p0/\Rep eStr A w v1 p1) fu ⟨_,_,q2,d,j,B,q,h1,h7,h8,h9,f_v0,f_v1⟩ ?_
 have hr0:=c;clear c q2
 rintro k R w ⟨A,y4,c,d,j,B,q,h1,h7,h8,h9,f_v0,f_v1⟩
 rcases k with _ | k
 cases (show none=some _ from c)
 rw [zBG] at c
 refine zPR d j (eB (decide (y4<(p0.length:Int)))::[]) ?_ ?_
 exact op (fun Q U W H D=>zB8 ((H 9 Z).trans h9) ((H 8 Z).trans h8))<|oz
 intro R w m n p d j
 obtain ⟨h1,h7,h8,h9⟩:=k4 n h1 h7 h8 h9
 have h10:=p.r 0 Z
 replace f_v0:=f_v0.fr m
 replace f_v1:=f_v1.fr m
 replace q:=q.fr m
 refine zPQ ?_
 refine zPJ (decide (y4<(p0.length:Int))) h10 (fun c5=>?_) (fun c5=>?_)
 have c:=zAe c5 c
 refine HT.skip<|zPQ ?_
 refine HT.block ?_
 obtain ⟨e6,c⟩:=zAG c
 refine zPS [] ((rF fun A=>.qtr zA0 A (gtD p0 y4))::(rF fun A=>.rep zA0 A (gtD p0 y4))::⟨_,true,[],some (.box w0.heap.size 83 zA0 (([]:List UInt8),0)),true,fun A=>.any⟩::⟨_,true,[2],some (.box w0.heap.size 83 zA0 (gtD p0 y4)),false,fun A=>.any⟩::[]) (UAll.cons zCM (up (ua (ua (UAll.nil))))) q d ?_ ?_
 exact rp (fun V Q U O D=>zAC ((f_v0.stp O.stp).eq ((O.old 7 Z).trans h7)) ((O.old 9 Z).trans h9) underlying24 sizeOf83 e6)<|rp (fun V Q U O D=>(zAT (QRep.ptr (D.g 0 Z)) isAgg83 sizeOf83))<|rc (OblR.made _ Z Z Z Z fun V Q U O D=>by exact zCI zeroValue83 (fun A w=>zCo (zII Z (by decide)) zAm) (Nat.le_trans j.size O.ch.size))<|rc (OblR.took 2 _ _ Z Z Z Z Z fun V Q U O D u X Y J L M=>by have a1:Rep zA0 V U (Q 12) (gtD p0 y4):=D.g 1 Z;obtain ⟨b,hb,hB',hbx⟩:=X;have hop':=L _ _ Z Z Z Z;exact zBX a1 (hop'.symm.trans hb) hb ⟨b,hb,hB',hbx⟩ Y (FldS.id _) sizeOf83 Z)<|rz
 intro done ρ σ A R w y s
 obtain ⟨h1,h7,h8,h9⟩:=k4 s.rg h1 h7 h8 h9
 obtain ⟨b6_6,e_b6_6⟩:=s.boxv y 3 Z Z
 have z8:=(s.opnR y 3 3 Z Z Z Z Z).symm.trans e_b6_6
 have h6:=s.ov y 2 2 z8
 replace f_v0:=f_v0.stp s.stp
 replace f_v1:=f_v1.stp s.stp
 obtain ⟨B,j,d⟩:=s.s B C j q N
 replace q:=s.left y [(3,ob (.pointer (some ⟨b6_6,0,none⟩)) (.box w0.heap.size 83 zA0 (gtD p0 y4)))] ⟨Z,Z,e_b6_6,Z,Z,N⟩
 refine zPR d j (eR (.pointer (some ⟨b6_6,0,none⟩))::eF (.rep eStr A ((gtD p0 y4).1))::eR v1::eB (((gtD p0 y4).1)==p1)::[]) ?_ ?_
 exact op (fun Q U W H D=>zA8 ((H 6 Z).trans h6) zHt sizeOf9 (by decide) Z)<|op (fun Q U W H D=>(zAA ((q.fr W).ok 0 _ Z).1 (D.g 0 Z) zCE Z isAgg9 sizeOf9))<|om h1<|op (fun Q U W H D=>zFc (D.g 0 Z) ((f_v1.fr W).eq (D.g 1 Z)))<|oz
 intro R w m n p d j
 obtain ⟨h1,h6,h7,h8,h9⟩:=k5 n h1 h6 h7 h8 h9
 have h16:=p.r 3 Z
 replace f_v0:=f_v0.fr m
 replace f_v1:=f_v1.fr m
 replace q:=q.fr m
 refine zPJ (((gtD p0 y4).1)==p1) h16 (fun c9=>?_) (fun c9=>?_)
 have c:=zAe c9 c
 refine zPR d j (eR (.pointer (some ⟨b6_6,1,none⟩))::eI ((gtD p0 y4).2)::eI ((gtD p0 y4).2)::[]) ?_ ?_
 exact op (fun Q U W H D=>zA8 ((H 6 Z).trans h6) zHh sizeOf3 (by decide) Z)<|op (fun Q U W H D=>OpF.int (zAA ((q.fr W).ok 0 _ Z).1 (D.g 0 Z) zCi Z isAgg3 sizeOf3))<|oa<|oz
 intro R w m n p d j
 have h4:=p.r 2 Z
 replace q:=q.fr m
 replace q:IniOK [] A w:=q.sub [] N
 refine HT.ret ?_
 obtain rfl:=si c
 have c:=hr0
 replace c:some _=some _:=c
 obtain rfl:=si c
 exact ⟨.inr Z,[R 4],⟨Z,N⟩,h4,j⟩
 have c:=zAd c9 c
 refine HT.skip ?_
 obtain ⟨e10,c⟩:=zAG c
 refine HT.u d j (eI (y4+1)::eI (y4+1)::[]) ?_ ?_
 exact op (fun Q U W H D=>zAi ((H 9 Z).trans h9) Z e10)<|ov<|oz
 intro R w m n p d j
 obtain ⟨h1,h7,h8⟩:=k3 n h1 h7 h8
 have h9:=p.r 1 Z
 replace f_v0:=f_v0.fr m
 replace f_v1:=f_v1.fr m
 replace q:=q.fr m
 replace q:IniOK [] A w:=q.sub [] N
 exact ei k (And.intro (Nat.lt_succ_self k) ⟨_,_,c,d,j,B,q,h1,h7,h8,h9,f_v0,f_v1⟩)
 have c:=zAd c5 c
 refine zPO ?_
 obtain rfl:=si c
 exact ei _ ⟨_,Z,d,j,B,q⟩
 rintro R w ⟨A,s3,rfl,d,j,B,q⟩
 have c:=zEK c
 refine zPR d j (eI 0::[]) ?_ ?_
 exact op (fun Q U W H D=>zA6 Z)<|oz
 intro R w m n p d j
 have h4:=p.r 0 Z
 replace q:=q.fr m
 refine HT.ret ?_
 obtain rfl:=si c
 exact ⟨.inr Z,[R 4],⟨Z,N⟩,h4,j⟩
def zDm (fu:Nat) (p0:Int):Option Bool:=
 some (p0 != p0)
theorem zFL {fu : Nat} {A : Av} {p0 : Int} {r : Bool} (c : zDm fu p0 = some r) {w : World} {v0 : Value} (d : AvOK A w) (h0 : v0=.int .i64 p0) :
 Calls prog 103 #[v0] w fun e w'=>∃ v,e=.returned v/\(v=.bool r/\Fr w w'):=by
 unfold zDm at c
 obtain ⟨w0,hw0,j⟩:=pf w
 rw [fw hw0]
 refine zAB [.tmp 2] func103 ntmps103 (by decide) Z Z (nb Z) ?_
 intro R hR
 replace h0:R 0=.int .i64 p0:=(hR 0 _ Z).trans h0
 refine zPR d j (eB false::[]) ?_ ?_
 exact op (fun Q U W H D=>zA6 Z)<|oz
 intro R w m n p d j
 replace h0:=k1 n h0
 refine zPR d j (eI p0::eI p0::eB (p0 != p0)::eB (p0 != p0)::[]) ?_ ?_
 exact om h0<|om h0<|op (fun Q U W H D=>zKQ (D.g 0 Z) (D.g 1 Z))<|oa<|oz
 intro R w m n p d j
 have h2:=p.r 3 Z
 refine HT.ret ?_
 obtain rfl:=si c
 exact ⟨.inr Z,[R 2],⟨Z,N⟩,h2,j⟩
def zDP (fu:Nat) (p0:Int) (p1:Int):Option Int:=
 cl true (zDm fu p0) fun x1=>
 cl true (zDm fu p1) fun x3=>
 bif x1 then (
 bif x3 then (
 some 0
 ) else (
 some (-1)
 )
 ) else (
 bif x3 then (
 some 1
 ) else (
 bif (decide (p0<p1)) then (
 some (-1)
 ) else (
 bif (decide (p1<p0)) then (
 some 1
 ) else (
 some 0
 )
 )
 )
 )
theorem zGr {fu : Nat} {A : Av} {p0 : Int} {p1 : Int} {r : Int} (c : zDP fu p0 p1 = some r) {w : World} {v0 : Value} {v1 : Value} (d : AvOK A w) (h0 : v0=.int .i64 p0) (h1 : v1=.int .i64 p1) :
 Calls prog 95 #[v0,v1] w fun e w'=>∃ v,e=.returned v/\(v=.int .i64 r/\Fr w w'):=by
 unfold zDP at c
 obtain ⟨w0,hw0,j⟩:=pf w
 rw [fw hw0]
 refine zAB [.tmp 4] func95 ntmps95 (by decide) Z Z (nb Z) ?_
 intro R hR
 replace h0:R 0=.int .i64 p0:=(hR 0 _ Z).trans h0
 replace h1:R 1=.int .i64 p1:=(hR 1 _ Z).trans h1
 refine zPR d j (eI 0::[]) ?_ ?_
 exact op (fun Q U W H D=>zA6 Z)<|oz
 intro R w m n p d j
 obtain ⟨h0,h1⟩:=k2 n h0 h1
 obtain ⟨x1,q2,c⟩:=zA9 c
 refine zPR d j (eI p0::eB x1::eB x1::[]) ?_ ?_
 exact om h0<|op (fun Q U W H D=>zAM call103 (zFL (q2 Z) (d.fr W.size) (D.g 0 Z)))<|oa<|oz
 intro R w m n p d j
 obtain ⟨h0,h1⟩:=k2 n h0 h1
 have h5:=p.r 2 Z
 obtain ⟨x3,q4,c⟩:=zA9 c
 refine zPR d j (eI p1::eB x3::eB x3::[]) ?_ ?_
 exact om h1<|op (fun Q U W H D=>zAM call103 (zFL (q4 Z) (d.fr W.size) (D.g 0 Z)))<|oa<|oz
 intro R w m n p d j
 obtain ⟨h0,h1,h5⟩:=k3 n h0 h1 h5
 have h6:=p.r 2 Z
 refine zPQ ?_
 refine zPR d j (eB x1::[]) ?_ ?_
 exact om h5<|oz
 intro R w m n p d j
 obtain ⟨h0,h1,h6⟩:=k3 n h0 h1 h6
 have h11:=p.r 0 Z
 refine zPJ x1 h11 (fun c5=>?_) (fun c5=>?_)
 have c:=zAe c5 c
 refine zPQ ?_
 refine zPR d j (eB x3::[]) ?_ ?_
 exact om h6<|oz
 intro R w m n p d j
 have h12:=p.r 0 Z
 refine zPJ x3 h12 (fun c6=>?_) (fun c6=>?_)
 have c:=zAe c6 c
 refine zPR d j (eI 0::[]) ?_ ?_
 exact op (fun Q U W H D=>zA6 Z)<|oz
 intro R w m n p d j
 have h4:=p.r 0 Z
 refine HT.ret ?_
 obtain rfl:=si c
 exact ⟨.inr Z,[R 4],⟨Z,N⟩,h4,j⟩
 have c:=zAd c6 c
 refine HT.skip<|zPR d j (eI (-1)::[]) ?_ ?_
 exact op (fun Q U W H D=>zA6 Z)<|oz
 intro R w m n p d j
 have h4:=p.r 0 Z
 refine HT.ret ?_
 obtain rfl:=si c
 exact ⟨.inr Z,[R 4],⟨Z,N⟩,h4,j⟩
 have c:=zAd c5 c
 refine HT.skip<|zPQ ?_
 refine zPR d j (eB x3::[]) ?_ ?_
 exact om h6<|oz
 intro R w m n p d j
 obtain ⟨h0,h1⟩:=k2 n h0 h1
 have h13:=p.r 0 Z
 refine zPJ x3 h13 (fun c7=>?_) (fun c7=>?_)
 have c:=zAe c7 c
 refine zPR d j (eI 1::[]) ?_ ?_
 exact op (fun Q U W H D=>zA6 Z)<|oz
 intro R w m n p d j
 have h4:=p.r 0 Z
 refine HT.ret ?_
 obtain rfl:=si c
 exact ⟨.inr Z,[R 4],⟨Z,N⟩,h4,j⟩
 have c:=zAd c7 c
 refine HT.skip<|zPQ ?_
 refine zPR d j (eI p0::eI p1::eB (decide (p0<p1))::[]) ?_ ?_
 exact om h0<|om h1<|op (fun Q U W H D=>zB8 (D.g 0 Z) (D.g 1 Z))<|oz
 intro R w m n p d j
 obtain ⟨h0,h1⟩:=k2 n h0 h1
 have h16:=p.r 2 Z
 refine zPJ (decide (p0<p1)) h16 (fun c8=>?_) (fun c8=>?_)
 have c:=zAe c8 c
 refine zPR d j (eI (-1)::[]) ?_ ?_
 exact op (fun Q U W H D=>zA6 Z)<|oz
 intro R w m n p d j
 have h4:=p.r 0 Z
 refine HT.ret ?_
 obtain rfl:=si c
 exact ⟨.inr Z,[R 4],⟨Z,N⟩,h4,j⟩
 have c:=zAd c8 c
 refine HT.skip<|zPQ ?_
 refine zPR d j (eI p0::eI p1::eB (decide (p1<p0))::[]) ?_ ?_
 exact om h0<|om h1<|op (fun Q U W H D=>zEH (D.g 0 Z) (D.g 1 Z))<|oz
 intro R w m n p d j
 have h19:=p.r 2 Z
 refine zPJ (decide (p1<p0)) h19 (fun c9=>?_) (fun c9=>?_)
 have c:=zAe c9 c
 refine zPR d j (eI 1::[]) ?_ ?_
 exact op (fun Q U W H D=>zA6 Z)<|oz
 intro R w m n p d j
 have h4:=p.r 0 Z
 refine HT.ret ?_
 obtain rfl:=si c
 exact ⟨.inr Z,[R 4],⟨Z,N⟩,h4,j⟩
 have c:=zAd c9 c
 refine HT.skip<|zPR d j (eI 0::[]) ?_ ?_
 exact op (fun Q U W H D=>zA6 Z)<|oz
 intro R w m n p d j
 have h4:=p.r 0 Z
 refine HT.ret ?_
 obtain rfl:=si c
 exact ⟨.inr Z,[R 4],⟨Z,N⟩,h4,j⟩
def zCv (fu : Nat) (p0 : List Int) : Nat -> Int -> Option (Ex Int Unit)
 | 0,_=>none
 | k+1,y4=>
 bif (decide (y4<(p0.length:Int))) then (
 ck (inR y4 p0.length) <|
 bif ((gtD p0 y4) != 0) then (
 some (Ex.ret (gtD p0 y4))
 ) else (
 ck (i64B (y4+1)) <|
 zCv fu p0 k (y4+1)
 )
 ) else (
 some (Ex.go ())
 )
def zEx (fu:Nat) (p0:List Int):Option Int:=
 cl true (zCv fu p0 fu 0) fun rl1=>
 exM rl1 (fun r=>some r) fun s3=>
 some 0
theorem zIz {fu : Nat} {A : Av} {p0 : List Int} {r : Int} (c : zEx fu p0 = some r) {w : World} {v0 : Value} (d : AvOK A w) (h0 : Rep (eSl (eInt .i64)) A w v0 p0) :
 Calls prog 94 #[v0] w fun e w'=>∃ v,e=.returned v/\(v=.int .i64 r/\Fr w w'):=by
 unfold zEx at c
 obtain ⟨w0,hw0,j⟩:=pf w
 rw [fw hw0]
 refine zAB [.tmp 2] func94 ntmps94 (by decide) Z Z (nb Z) ?_
 intro R hR
 have f_v0:=h0
 replace h0:R 0=v0:=hR 0 _ Z
 refine zPR d j (eI 0::[]) ?_ ?_
 exact op (fun Q U W H D=>zA6 Z)<|oz
 intro R w m n p d j
 replace h0:=k1 n h0
 replace f_v0:=f_v0.fr m
 refine zPR d j (eI 0::[]) ?_ ?_
 exact op (fun Q U W H D=>zA6 Z)<|oz
 intro R w m n p d j
 replace h0:=k1 n h0
 have h3:=p.r 0 Z
 replace f_v0:=f_v0.fr m
 refine zPQ ?_
 refine zPR d j (eR v0::eI (p0.length:Int)::eI 0::[]) ?_ ?_
 exact om h0<|op (fun Q U W H D=>zAN (aT:=#[]) ((f_v0.fr W).eq (D.g 0 Z)) underlying31)<|op (fun Q U W H D=>zBI Z)<|oz
 intro R w m n p d j
 replace h3:=k1 n h3
 have h6:=p.r 0 Z
 have h7:=p.r 1 Z
 have h8:=p.r 2 Z
 replace f_v0:=f_v0.fr m
 obtain ⟨rl1,q2,c⟩:=zA9 c
 replace q2:=q2 Z
 refine zPL (fun R w=>∃ (s3:Unit),rl1=Ex.go s3/\AvOK A w/\Fr w0 w/\R 3=.int .i64 0) ?_ ?_
 refine HT.block<|zPP (fun k R w=>∃ (y4:Int),zCv fu p0 k y4=some rl1/\AvOK A w/\Fr w0 w/\R 3=.int .i64 0/\R 6=v0/\R 7=.int .i64 (p0.length:Int)/\R 8=.int .i64 y4/\Rep (eSl (eInt .i64)) A w v0 p0) fu ⟨_,q2,d,j,h3,h6,h7,h8,f_v0⟩ ?_
 have hr0:=c;clear c q2
 rintro k R w ⟨y4,c,d,j,h3,h6,h7,h8,f_v0⟩
 rcases k with _ | k
 cases (show none=some _ from c)
 rw [zCv] at c
 refine zPR d j (eB (decide (y4<(p0.length:Int)))::[]) ?_ ?_
 exact op (fun Q U W H D=>zB8 ((H 8 Z).trans h8) ((H 7 Z).trans h7))<|oz
 intro R w m n p d j
 obtain ⟨h3,h6,h7,h8⟩:=k4 n h3 h6 h7 h8
 have h9:=p.r 0 Z
 replace f_v0:=f_v0.fr m
 refine zPQ ?_
 refine zPJ (decide (y4<(p0.length:Int))) h9 (fun c5=>?_) (fun c5=>?_)
 have c:=zAe c5 c
 refine HT.skip<|zPQ ?_
 refine HT.block ?_
 obtain ⟨e6,c⟩:=zAG c
 refine zPR d j (eF (.qtr (eInt .i64) A (gtD p0 y4))::eI (gtD p0 y4)::eI (gtD p0 y4)::[]) ?_ ?_
 exact op (fun Q U W H D=>zAC ((f_v0.fr W).eq ((H 6 Z).trans h6)) ((H 8 Z).trans h8) underlying31 sizeOf3 e6)<|op (fun Q U W H D=>OpF.int (zAT (QRep.ptr (D.g 0 Z)) isAgg3 sizeOf3))<|oa<|oz
 intro R w m n p d j
 obtain ⟨h3,h6,h7,h8⟩:=k4 n h3 h6 h7 h8
 have h5:=p.r 2 Z
 replace f_v0:=f_v0.fr m
 refine zPR d j (eI (gtD p0 y4)::eI 0::eB ((gtD p0 y4) != 0)::[]) ?_ ?_
 exact om h5<|om h3<|op (fun Q U W H D=>zKQ (D.g 0 Z) (D.g 1 Z))<|oz
 intro R w m n p d j
 obtain ⟨h3,h5,h6,h7,h8⟩:=k5 n h3 h5 h6 h7 h8
 have h14:=p.r 2 Z
 replace f_v0:=f_v0.fr m
 refine zPJ ((gtD p0 y4) != 0) h14 (fun c7=>?_) (fun c7=>?_)
 have c:=zAe c7 c
 refine zPR d j (eI (gtD p0 y4)::eI (gtD p0 y4)::[]) ?_ ?_
 exact om h5<|oa<|oz
 intro R w m n p d j
 have h2:=p.r 1 Z
 refine HT.ret ?_
 obtain rfl:=si c
 have c:=hr0
 replace c:some _=some _:=c
 obtain rfl:=si c
 exact ⟨.inr Z,[R 2],⟨Z,N⟩,h2,j⟩
 have c:=zAd c7 c
 refine HT.skip ?_
 obtain ⟨e8,c⟩:=zAG c
 refine HT.u d j (eI (y4+1)::eI (y4+1)::[]) ?_ ?_
 exact op (fun Q U W H D=>zAi ((H 8 Z).trans h8) Z e8)<|ov<|oz
 intro R w m n p d j
 obtain ⟨h3,h6,h7⟩:=k3 n h3 h6 h7
 have h8:=p.r 1 Z
 replace f_v0:=f_v0.fr m
 exact ei k (And.intro (Nat.lt_succ_self k) ⟨_,c,d,j,h3,h6,h7,h8,f_v0⟩)
 have c:=zAd c5 c
 refine zPO ?_
 obtain rfl:=si c
 exact ei _ ⟨Z,d,j,h3⟩
 rintro R w ⟨s3,rfl,d,j,h3⟩
 have c:=zEK c
 refine zPR d j (eI 0::eI 0::[]) ?_ ?_
 exact om h3<|oa<|oz
 intro R w m n p d j
 have h2:=p.r 1 Z
 refine HT.ret ?_
 obtain rfl:=si c
 exact ⟨.inr Z,[R 2],⟨Z,N⟩,h2,j⟩
def zCG (fu:Nat) (p0:List UInt8) (p1:List UInt8) (p2:List zA3):Option Int:=
 cl true (zC1 fu p2 p0) fun x1=>
 cl true (zC1 fu p2 p1) fun x3=>
 cl true (zDP fu x1 x3) fun x5=>
 cl true (zJt fu p0 p1) fun x7=>
 cl true (zEx fu ([x5,x7]:List Int)) fun x9=>
 some x9
theorem zFo {fu : Nat} {A : Av} {p0 : List UInt8} {p1 : List UInt8} {p2 : List zA3} {r : Int} (c : zCG fu p0 p1 p2 = some r) {w : World} {v0 : Value} {v1 : Value} {v2 : Value} (d : AvOK A w) (h0 : Rep eStr A w v0 p0) (h1 : Rep eStr A w v1 p1) (h2 : PRep (eSl zA0) A w v2 p2) :
 Calls prog 93 #[v0,v1,v2] w fun e w'=>∃ v,e=.returned v/\(v=.int .i64 r/\Fr w w'):=by
 unfold zCG at c
 obtain ⟨w0,hw0,j⟩:=pf w
 rw [fw hw0]
 have f_v2:CRep (eSl zA0) A w w0.heap.size v2 p2:=by subst hw0;exact CRep.mk' h2
 refine zAB [.tmp 5] func93 ntmps93 (by decide) Z Z (nb Z) ?_
 intro R hR
 have f_v0:=h0
 replace h0:R 0=v0:=hR 0 _ Z
 have f_v1:=h1
 replace h1:R 1=v1:=hR 1 _ Z
 replace h2:R 2=v2:=hR 2 _ Z
 refine zPR d j (eI 0::[]) ?_ ?_
 exact op (fun Q U W H D=>zA6 Z)<|oz
 intro R w m n p d j
 obtain ⟨h0,h1,h2⟩:=k3 n h0 h1 h2
 replace f_v2:=f_v2.fr m
 replace f_v0:=f_v0.fr m
 replace f_v1:=f_v1.fr m
 refine zPQ ?_
 obtain ⟨x1,q2,c⟩:=zA9 c
 obtain ⟨x3,q4,c⟩:=zA9 c
 obtain ⟨x5,q6,c⟩:=zA9 c
 obtain ⟨x7,q8,c⟩:=zA9 c
 obtain ⟨x9,q10,c⟩:=zA9 c
 refine zPM (by kernel_rfl) (l:=eF (.rep (eSl zA0) A p2)::eR v0::eI x1::eF (.rep (eSl zA0) A p2)::eR v1::eI x3::eI x5::eR v0::eR v1::eI x7::eF (.rep (eSl (eInt .i64)) A ([x5,x7]:List Int))::eI x9::eI x9::[]) (tl:=[]) (by kernel_rfl) (by kernel_rfl) (by kernel_rfl) (by kernel_rfl) ?_ ?_
 exact op (fun Q U W H D=>(zAT ((f_v2.fr W).ptr ((H 2 Z).trans h2)) isAgg24 sizeOf24))<|om h0<|op (fun Q U W H D=>zAM call96 (zEI (q2 Z) (d.fr W.size) (D.g 0 Z) ((f_v0.fr W).eq (D.g 1 Z))))<|op (fun Q U W H D=>(zAT ((f_v2.fr W).ptr ((H 2 Z).trans h2)) isAgg24 sizeOf24))<|om h1<|op (fun Q U W H D=>zAM call96 (zEI (q4 Z) (d.fr W.size) (D.g 0 Z) ((f_v1.fr W).eq (D.g 1 Z))))<|op (fun Q U W H D=>zAM call95 (zGr (q6 Z) (d.fr W.size) (D.g 0 Z) (D.g 1 Z)))<|om h0<|om h1<|op (fun Q U W H D=>zAM call97 (zKr (q8 Z) (d.fr W.size) ((f_v0.fr W).eq (D.g 0 Z)) ((f_v1.fr W).eq (D.g 1 Z))))<|op (fun Q U W H D=>zC7 [_,_] (E:=eInt .i64) ⟨(zBa.eq (D.g 0 Z)),⟨(zBa.eq (D.g 1 Z)),N⟩⟩ underlying31 sizeOf3 zeroValue3 Z Z Z (d.fr W.size))<|op (fun Q U W H D=>zAM call94 (zIz (q10 Z) (d.fr W.size) (D.g 0 Z)))<|oa<|oz
 intro R w m n p
 have h5:=p.r 12 Z
 replace d:=d.fr m.size
 replace j:=j.trans m
 refine HT.ret ?_
 obtain rfl:=si c
 exact ⟨.inr Z,[R 5],⟨Z,N⟩,h5,j⟩
def zCb (fu:Nat) (p0:List zA3) (p1:List (List UInt8)):Option (List (List UInt8)):=
 cl true (zAQ fu p1) fun x2=>
 cl true (zKs fu x2 (fun x y=>zCG fu x y p0)) fun x6=>
 some x6
theorem zGH {fu : Nat} {A0 : Av} {p0 : List zA3} {p1 : List (List UInt8)} {r : List (List UInt8)} (c : zCb fu p0 p1 = some r) {w : World} {v0 : Value} {v1 : Value} (d : AvOK A0 w) (h0 : Rep (eSl zA0) A0 w v0 p0) (h1 : Rep (eSl eStr) A0 w v1 p1) :
 Calls prog 82 #[v0,v1] w fun e w'=>∃ v,e=.returned v/\((Res.vec w.heap.size 9 eStr r).ok (addA A0 v) v w'/\Fr w w'):=by
 unfold zCb at c
 obtain ⟨w0,hw0,j,C⟩:=pw d
 have hA00:AvOK A0 w0:=C
 rw [fh hw0]
 rw [fw hw0]
 obtain ⟨A,hAe,B,d,q⟩:=pa d
 refine zAB [.tmp 4] func82 ntmps82 (by decide) Z Z (nb Z) ?_
 intro R hR
 have f_v0:Rep (eSl zA0) A w v0 p0:=hAe ▸ h0
 replace h0:R 0=v0:=hR 0 _ Z
 have f_v1:Rep (eSl eStr) A w v1 p1:=hAe ▸ h1
 replace h1:R 1=v1:=hR 1 _ Z
 refine zPS [] (⟨_,true,[],some (.box w0.heap.size 24 (eSl zA0) p0),true,fun A=>.any⟩::rA::[]) (ua (ua (UAll.nil))) q d ?_ ?_
 exact rc (OblR.made _ Z Z Z Z fun V Q U O D=>by have a0:Q 0=v0:=(O.old 0 Z).trans h0;have ra0:=(f_v0.stp O.stp).eq a0;exact zD0 ra0 (Nat.le_trans j.size O.ch.size))<|rp (fun V Q U O D=>zA6 N)<|rz
 intro done ρ σ A R w y s
 replace h1:=k1 s.rg h1
 obtain ⟨b2_0,e_b2_0⟩:=s.boxv y 0 Z Z
 have h2:=s.ov y 0 0 e_b2_0
 replace f_v1:=f_v1.stp s.stp
 obtain ⟨B,j,d⟩:=s.s B C j q N
 replace q:=s.left y [(0,ob (.pointer (some ⟨b2_0,0,none⟩)) (.box w0.heap.size 24 (eSl zA0) p0))] ⟨Z,Z,e_b2_0,Z,Z,N⟩
 obtain ⟨x2,q3,c⟩:=zA9 c
 refine zPS [ob (.pointer (some ⟨b2_0,0,none⟩)) (.box w0.heap.size 24 (eSl zA0) p0)] (rR v1::⟨_,true,[],some (.vec w0.heap.size 9 eStr x2),true,fun A=>.any⟩::⟨_,true,[2],some (.vec w0.heap.size 9 eStr x2),true,fun A=>.any⟩::[]) (ur (ua (ua (UAll.nil)))) q d ?_ ?_
 exact rm h1<|rc (OblR.made _ Z Z Z Z fun V Q U O D=>by have a0:Q 6=v1:=D.g 0 Z;have ra0:=(f_v1.stp O.stp).eq a0;exact zEy call39 (zAj (q3 Z) O.av ra0) (Nat.le_trans j.size O.ch.size))<|rc (OblR.took 2 _ _ Z Z Z Z Z fun V Q U O D u X Y J L M=>by exact zAP (L _ _ Z Z Z Z).symm X Y)<|rz
 intro done ρ σ A R w y s
 replace h2:=k1 s.rg h2
 have z4:=s.inivR 0 Z
 obtain ⟨u5,e_u5⟩:∃ u,ρ 3=u:=⟨_,Z⟩
 have h5:=s.ov y 3 2 e_u5
 obtain ⟨B,j,d⟩:=s.s B C j q ⟨Z,N⟩
 replace q:=s.left y [(0,ob (.pointer (some ⟨b2_0,0,none⟩)) (.box w0.heap.size 24 (eSl zA0) p0)),(3,ob u5 (.vec w0.heap.size 9 eStr x2))] ⟨Z,Z,z4,Z,Z,⟨Z,Z,e_u5,Z,Z,N⟩⟩
 obtain ⟨x6,q7,c⟩:=zA9 c
 refine zPS [ob (.pointer (some ⟨b2_0,0,none⟩)) (.box w0.heap.size 24 (eSl zA0) p0),ob u5 (.vec w0.heap.size 9 eStr x2)] (rR u5::rR (.func (.func 93) #[] #[(.pointer (some ⟨b2_0,0,none⟩))])::⟨_,true,[1],some (.vec w0.heap.size 9 eStr x6),false,fun A=>.any⟩::[]) (ur (ur (ua (UAll.nil)))) q d ?_ ?_
 exact rm h5<|rp (fun V Q U O D=>zIP (c:=[(.pointer (some ⟨b2_0,0,none⟩))]) (by simp only [List.map,zAL];rw [((O.old 2 Z).trans h2)]))<|rc (OblR.took 1 _ _ Z Z Z Z Z fun V Q U O D u X Y J L M=>by have a0:Q 8=u5:=D.g 0 Z;have a1:Q 9=(.func (.func 93) #[] #[(.pointer (some ⟨b2_0,0,none⟩))]):=D.g 1 Z;have hu0:zAL Q (.tmp 8)=u:=a0.trans (J _ Z).symm;exact zHT call92 Y (fun _ _ _ _ _ h=>h) (by simp only [List.map,hu0];exact Calls.mono (zKn (q7 Z) (O.av.sub _) (fun b o h=>h.2) (Vec.flat X (fun _ _ _ _ _ h=>h)) (zO2 [(.pointer (some ⟨b2_0,0,none⟩))] a1 call93 (fun x y r hr' w'' a b p hA' ha hb=>zFo hr' hA' ha hb (zKX (O.rd 0 _ Z Z) p Y fun h=>M 0 _ Z (by decide) Z _ h Z)))) (fun _ _ ⟨v,h1,h2,h3,h4⟩=>⟨v,h1,N,h3,h4⟩)))<|rz
 intro done ρ σ A R w y s
 replace h5:=k1 s.rg h5
 have z8:=s.inivR 0 Z
 have z9:=s.inivR 1 Z
 have z10:=s.on y 4 2 Z Z Z Z Z z9
 obtain ⟨B,j,d⟩:=s.s B C j q ⟨Z,⟨Z,N⟩⟩
 replace q:=s.left y [(4,ob u5 (.vec w0.heap.size 9 eStr x6))] ⟨Z,Z,z10,Z,Z,N⟩
 refine zPR d j (eR u5::eR u5::[]) ?_ ?_
 exact om h5<|oa<|oz
 intro R w m n p d j
 have h4:=p.r 1 Z
 replace q:=q.fr m
 refine HT.ret ?_
 obtain rfl:=si c
 exact ⟨.inr Z,[R 4],⟨Z,N⟩,(zBk (q.ok 0 _ Z) B h4),j⟩
theorem zG5 {fu : Nat} {A0 : Av} {p0 : List zA3} {p1 : List (List UInt8)} {r : List (List UInt8)} (c : zCb fu p0 p1 = some r) {w : World} {v0 : Value} {v1 : Value} (d : AvOK A0 w) (h0 : Rep (eSl zA0) A0 w v0 p0) (h1 : Rep (eSl eStr) A0 w v1 p1) :
 Calls prog 82 #[v0,v1] w fun e w'=>∃ v,e=.returned v/\(Rep (eSl eStr) A0 w' v r/\Fr w w'):=by
 refine Calls.mono (zGH c d h0 h1) ?_
 rintro e w' ⟨v,he,hv,hf⟩
 exact ⟨v,he,zDt hv (fun b o h=>.inl h) d,hf⟩
def zBy (fu:Nat) (p0:List zA3) (p1:List (List UInt8)) (p2:Int):Option (List (List UInt8)):=
 cl true (zCz fu (p1.length:Int) p2) fun x1=>
 cl true (zBP fu p1) fun x3=>
 bd ((!x3) || (decide (x1<0))) fun x5=>
 bif x5 then (
 some ([]:List (List UInt8))
 ) else (
 cl true (zCb fu p0 p1) fun x9=>
 ck (subR 0 x1 x9.length) <|
 cl true (zAQ fu (subL x9 0 x1)) fun x12=>
 some x12
 )
theorem zG7 {fu : Nat} {A0 : Av} {p0 : List zA3} {p1 : List (List UInt8)} {p2 : Int} {r : List (List UInt8)} (c : zBy fu p0 p1 p2 = some r) {w : World} {v0 : Value} {v1 : Value} {v2 : Value} (d : AvOK A0 w) (h0 : Rep (eSl zA0) A0 w v0 p0) (h1 : Rep (eSl eStr) A0 w v1 p1) (h2 : v2=.int .i64 p2) :
 Calls prog 53 #[v0,v1,v2] w fun e w'=>∃ v,e=.returned v/\((Res.vec w.heap.size 9 eStr r).ok (addA A0 v) v w'/\Fr w w'):=by
 unfold zBy at c
 obtain ⟨w0,hw0,j,C⟩:=pw d
 have hA00:AvOK A0 w0:=C
 rw [fh hw0]
 rw [fw hw0]
 obtain ⟨A,hAe,B,d,q⟩:=pa d
 refine zAB [.tmp 6] func53 ntmps53 (by decide) Z Z (nb Z) ?_
 intro R hR
 have f_v0:Rep (eSl zA0) A w v0 p0:=hAe ▸ h0
 replace h0:R 0=v0:=hR 0 _ Z
 have f_v1:Rep (eSl eStr) A w v1 p1:=hAe ▸ h1
 replace h1:R 1=v1:=hR 1 _ Z
 replace h2:R 2=.int .i64 p2:=(hR 2 _ Z).trans h2
 refine zPR d j (eA::[]) ?_ ?_
 exact op (fun Q U W H D=>zA6 N)<|oz
 intro R w m n p d j
 obtain ⟨h0,h1,h2⟩:=k3 n h0 h1 h2
 replace f_v0:=f_v0.fr m
 replace f_v1:=f_v1.fr m
 replace q:=q.fr m
 obtain ⟨x1,q2,c⟩:=zA9 c
 refine zPR d j (eR v1::eI (p1.length:Int)::eI p2::eI x1::eI x1::[]) ?_ ?_
 exact om h1<|op (fun Q U W H D=>zAN (aT:=#[]) ((f_v1.fr W).eq (D.g 0 Z)) underlying28)<|om h2<|op (fun Q U W H D=>zAM call81 (zG1 (q2 Z) (d.fr W.size) (D.g 0 Z) (D.g 1 Z)))<|oa<|oz
 intro R w m n p d j
 obtain ⟨h0,h1⟩:=k2 n h0 h1
 have h7:=p.r 4 Z
 replace f_v0:=f_v0.fr m
 replace f_v1:=f_v1.fr m
 replace q:=q.fr m
 refine zPQ ?_
 refine zPQ ?_
 obtain ⟨x3,q4,c⟩:=zA9 c
 obtain ⟨x5,q6,c⟩:=zAO c
 refine HT.u d j (eR v1::eB x3::eB (!x3)::eB (!x3)::gI (true&&((!x3)==false)) x1::gB (true&&((!x3)==false)) (decide (x1<0))::eB x5::[]) ?_ ?_
 exact om h1<|op (fun Q U W H D=>zAM call22 (zCH (q4 Z) (d.fr W.size) ((f_v1.fr W).eq (D.g 0 Z))))<|op (fun Q U W H D=>zBY (D.g 0 Z))<|ov<|gm 3 false h7<|og 3 false (fun G Q U W H D=>zB8 (D.h 0 G Z) Z)<|op (fun Q U W H D=>zAR (!x3) (D.g 0 Z) (fun hc=>by show _=Value.bool x5;rw [q6,hc];exact Z) (fun hc=>by have a2:Q 17=.bool (decide (x1<0)):=D 1 _ _ _ Z Z Z Z (zBJ Z (zAf hc));show _=Value.bool x5;rw [q6,hc];exact a2))<|oz
 intro R w m n p d j
 obtain ⟨h0,h1,h7⟩:=k3 n h0 h1 h7
 have h18:=p.r 6 Z
 replace f_v0:=f_v0.fr m
 replace f_v1:=f_v1.fr m
 replace q:=q.fr m
 refine zPJ x5 h18 (fun c7=>?_) (fun c7=>?_)
 have c:=zAe c7 c
 refine zPR d j (eR (.slice none 0 0)::[]) ?_ ?_
 exact op (fun Q U W H D=>zA6 Z)<|oz
 intro R w m n p d j
 obtain ⟨u8,n_u8⟩:∃ u,u=Value.slice none 0 0:=⟨_,Z⟩
 have h6:R 6=u8:=(p 0 _ _ Z Z Z).trans n_u8.symm
 replace q:=q.fr m
 replace q:=q.nilcons (u:=u8) n_u8 w0.heap.size 9 eStr
 refine HT.ret ?_
 obtain rfl:=si c
 exact ⟨.inr Z,[R 6],⟨Z,N⟩,(zBk (q.ok 0 _ Z) B h6),j⟩
 have c:=zAd c7 c
 refine HT.skip ?_
 obtain ⟨x9,q10,c⟩:=zA9 c
 obtain ⟨e11,c⟩:=zAG c
 obtain ⟨x12,q13,c⟩:=zA9 c
 refine zPS [] (rR v0::rR v1::(rF fun A=>.rep (eSl eStr) A x9)::rI x1::(rF fun A=>.rep (eSl eStr) A (subL x9 0 x1))::⟨_,true,[],some (.vec w0.heap.size 9 eStr x12),true,fun A=>.any⟩::⟨_,true,[5],some (.vec w0.heap.size 9 eStr x12),true,fun A=>.any⟩::[]) (ur (ur (up (ur (up (ua (ua (UAll.nil)))))))) q d ?_ ?_
 exact rm h0<|rm h1<|rp (fun V Q U O D=>zAM call82 (zG5 (q10 Z) O.av ((f_v0.stp O.stp).eq (D.g 0 Z)) ((f_v1.stp O.stp).eq (D.g 1 Z))))<|rm h7<|rp (fun V Q U O D=>zFO (D.g 0 Z) (D.g 1 Z) underlying28 sizeOf9 e11)<|rc (OblR.made _ Z Z Z Z fun V Q U O D=>by have a0:Rep (eSl eStr) V U (Q 23) (subL x9 0 x1):=D.g 0 Z;exact zEy call39 (zAj (q13 Z) O.av a0) (Nat.le_trans j.size O.ch.size))<|rc (OblR.took 5 _ _ Z Z Z Z Z fun V Q U O D u X Y J L M=>by exact zAP (L _ _ Z Z Z Z).symm X Y)<|rz
 intro done ρ σ A R w y s
 obtain ⟨u14,e_u14⟩:∃ u,ρ 6=u:=⟨_,Z⟩
 have h6:=s.ov y 6 6 e_u14
 obtain ⟨B,j,d⟩:=s.s B C j q N
 replace q:=s.left y [(6,ob u14 (.vec w0.heap.size 9 eStr x12))] ⟨Z,Z,e_u14,Z,Z,N⟩
 refine HT.ret ?_
 obtain rfl:=si c
 exact ⟨.inr Z,[R 6],⟨Z,N⟩,(zBk (q.ok 0 _ Z) B h6),j⟩
theorem zEP {fu : Nat} {A0 : Av} {p0 : List zA3} {p1 : List (List UInt8)} {p2 : Int} {r : List (List UInt8)} (c : zBy fu p0 p1 p2 = some r) {w : World} {v0 : Value} {v1 : Value} {v2 : Value} (d : AvOK A0 w) (h0 : Rep (eSl zA0) A0 w v0 p0) (h1 : Rep (eSl eStr) A0 w v1 p1) (h2 : v2=.int .i64 p2) :
 Calls prog 53 #[v0,v1,v2] w fun e w'=>∃ v,e=.returned v/\(Rep (eSl eStr) A0 w' v r/\Fr w w'):=by
 refine Calls.mono (zG7 c d h0 h1 h2) ?_
 rintro e w' ⟨v,he,hv,hf⟩
 exact ⟨v,he,zDt hv (fun b o h=>.inl h) d,hf⟩
def zAZ (fu : Nat) (y5 : Int) (x13 : Nat) : Nat -> Int -> Int -> (List (List UInt8)) -> Option (Int × (List (List UInt8)))
 | 0,_,_,_=>none
 | k+1,y18,y19,y20=>
 bif (decide (y19<(x13:Int))) then (
 ck (inR y19 x13) <|
 ck (decide (0<=y5)) <|
 ck (inR (y5+y19) y20.length) <|
 ck (i64B (y19-1)) <|
 ck (inR (y19-1) x13) <|
 ck (decide (0<=y5)) <|
 ck (inR (y5+(y19-1)) y20.length) <|
 bif (!((gtD y20 (y5+y19))==(gtD y20 (y5+(y19-1))))) then (
 ck (inR y19 x13) <|
 ck (decide (0<=y5)) <|
 ck (inR (y5+y19) y20.length) <|
 ck (inR y18 y20.length) <|
 ck (i64B (y18+1)) <|
 ck (i64B (y19+1)) <|
 zAZ fu y5 x13 k (y18+1) (y19+1) (y20.set y18.toNat (gtD y20 (y5+y19)))
 ) else (
 ck (i64B (y19+1)) <|
 zAZ fu y5 x13 k y18 (y19+1) y20
 )
 ) else (
 some (y18,y20)
 )
def zAY (fu : Nat) : Nat -> Int -> (List (List UInt8)) -> Option (Ex (List (List UInt8)) (List (List UInt8)))
 | 0,_,_=>none
 | k+1,y5,y6=>
 bif (decide (y5<(y6.length:Int))) then (
 ck (inR y5 y6.length) <|
 ck (i64B (y5-1)) <|
 ck (inR (y5-1) y6.length) <|
 bif ((gtD y6 y5)==(gtD y6 (y5-1))) then (
 ck (subR y5 (y6.length:Int) y6.length) <|
 bd ((y6.length:Int).toNat-y5.toNat) fun x13=>
 cl true (zAZ fu y5 x13 fu y5 1 y6) fun s17=>
 ck (subR s17.1 (s17.2.length:Int) s17.2.length) <|
 bd ((s17.2.length:Int).toNat-s17.1.toNat) fun x40=>
 ck (subR s17.1 s17.2.length s17.2.length) <|
 ck (x40==s17.2.length-s17.1.toNat) <|
 ck (subR 0 s17.1 (s17.2.take s17.1.toNat++List.replicate (s17.2.length-s17.1.toNat) ([]:List UInt8)).length) <|
 some (Ex.ret (subL (s17.2.take s17.1.toNat++List.replicate (s17.2.length-s17.1.toNat) ([]:List UInt8)) 0 s17.1))
 ) else (
 ck (i64B (y5+1)) <|
 zAY fu k (y5+1) y6
 )
 ) else (
 some (Ex.go y6)
 )
def zBK (fu:Nat) (p0:List (List UInt8)):Option (List (List UInt8)):=
 bif (decide ((p0.length:Int)<2)) then (
 some p0
 ) else (
 cl true (zAY fu fu 1 p0) fun rl2=>
 exM rl2 (fun r=>some r) fun s4=>
 some s4
 )
theorem zEN {fu : Nat} {A0 : Av} {p0 : List (List UInt8)} {r : List (List UInt8)} (c : zBK fu p0 = some r) {w : World} {v0 : Value} {B0 : Nat} (d : AvOK A0 w) (K : ∀ b o, A0 b o -> ¬ zAE v0 b) (h0 : (Res.vec B0 9 eStr p0).ok A0 v0 w) :
 Calls prog 90 #[v0] w fun e w'=>∃ v,e=.returned v/\Took (addA A0 v0) true v0 (.vec B0 9 eStr r) (fun _=>.any) w v w':=by
 unfold zBK at c
 obtain ⟨w0,hw0,C⟩:=pc d
 have j:Ch (zAE v0) w0 w:=hw0 ▸ Ch.refl _ _
 have hA00:AvOK A0 w0:=C
 rw [show Took (addA A0 v0) true v0 (.vec B0 9 eStr r) (fun _=>.any) w=Took (addA A0 v0) true v0 (.vec B0 9 eStr r) (fun _=>.any) w0 from hw0 ▸ Z]
 obtain ⟨A,hAe⟩:∃ A,A=addA A0 v0:=⟨_,Z⟩
 have B:∀ b o,A0 b o->A b o:=fun b o h=>hAe ▸ .inl h
 replace d:AvOK A w:=hAe ▸ d.one h0
 have q:IniOK [ob v0 (.vec B0 9 eStr p0)] A w:=hAe ▸ IniOK.one h0 (fun _ _ _ _ _ h=>h)
 refine zAB [.tmp 2] func90 ntmps90 (by decide) Z Z (nb Z) ?_
 intro R hR
 replace h0:R 0=v0:=hR 0 _ Z
 refine zPQ ?_
 refine zPT (eA::[]) ?_ ?_
 exact op (fun Q U W H D=>zA6 N)<|oz
 intro R w m n p
 replace h0:=k1 n h0
 replace q:=q.fr m
 replace d:=d.fr m.size
 replace j:=j.tr (m.ch noB) fun _ h=>False.elim h
 refine zPQ ?_
 refine zPQ ?_
 refine zPT (eR v0::eI (p0.length:Int)::eB (decide ((p0.length:Int)<2))::[]) ?_ ?_
 exact om h0<|op (fun Q U W H D=>zDq (q.ok 0 _ Z).1 (D.g 0 Z) underlying28)<|op (fun Q U W H D=>zB8 (D.g 0 Z) Z)<|oz
 intro R w m n p
 replace h0:=k1 n h0
 have h8:=p.r 2 Z
 replace q:=q.fr m
 replace d:=d.fr m.size
 replace j:=j.tr (m.ch noB) fun _ h=>False.elim h
 refine zPJ (decide ((p0.length:Int)<2)) h8 (fun c1=>?_) (fun c1=>?_)
 have c:=zAe c1 c
 refine zPQ ?_
 refine zPT (eR v0::eR v0::[]) ?_ ?_
 exact om h0<|oa<|oz
 intro R w m n p
 have h2:=p.r 1 Z
 replace q:=q.fr m
 replace d:=d.fr m.size
 replace j:=j.tr (m.ch noB) fun _ h=>False.elim h
 refine HT.ret ?_
 obtain rfl:=si c
 exact ⟨.inr Z,[R 2],⟨Z,N⟩,by show Took _ true _ _ _ w0 (R 2) w;rw [h2];exact zFF (fun k h o=>.inr h) j (q.ok 0 _ Z).1 (q.own_ge (⟨.inr (fun k h=>.inr h),N⟩) (i:=0) Z) (fun _ _ _ _ _ h=>h)⟩
 have c:=zAd c1 c
 refine HT.skip<|zPQ ?_
 refine zPQ ?_
 refine zPT (eI 1::[]) ?_ ?_
 exact op (fun Q U W H D=>zA6 Z)<|oz
 intro R w m n p
 replace h0:=k1 n h0
 have h3:=p.r 0 Z
 replace q:=q.fr m
 replace d:=d.fr m.size
 replace j:=j.tr (m.ch noB) fun _ h=>False.elim h
 obtain ⟨rl2,q3,c⟩:=zA9 c
 replace q3:=q3 Z
 refine zPL (fun R w=>∃ A:Av,∃ (s4:(List (List UInt8))),rl2=Ex.go s4/\AvOK A w/\Ch (zAE v0) w0 w/\(∀ b o,A0 b o->A b o)/\IniOK [ob v0 (.vec B0 9 eStr s4)] A w/\R 0=v0) ?_ ?_
 refine HT.block<|zPP (fun k R w=>∃ A:Av,∃ (y5:Int) (y6:List (List UInt8)),zAY fu k y5 y6=some rl2/\AvOK A w/\Ch (zAE v0) w0 w/\(∀ b o,A0 b o->A b o)/\IniOK [ob v0 (.vec B0 9 eStr y6)] A w/\R 0=v0/\R 3=.int .i64 y5) fu ⟨_,_,_,q3,d,j,B,q,h0,h3⟩ ?_
 have hr0:=c;clear c q3
 rintro k R w ⟨A,y5,y6,c,d,j,B,q,h0,h3⟩
 rcases k with _ | k
 cases (show none=some _ from c)
 rw [zAY] at c
 refine zPQ ?_
 refine zPQ ?_
 refine zPT (eI y5::eR v0::eI (y6.length:Int)::eB (decide (y5<(y6.length:Int)))::[]) ?_ ?_
 exact om h3<|om h0<|op (fun Q U W H D=>zDq (q.ok 0 _ Z).1 (D.g 0 Z) underlying28)<|op (fun Q U W H D=>zB8 (D.g 0 Z) (D.g 1 Z))<|oz
 intro R w m n p
 obtain ⟨h0,h3⟩:=k2 n h0 h3
 have h13:=p.r 3 Z
 replace q:=q.fr m
 replace d:=d.fr m.size
 replace j:=j.tr (m.ch noB) fun _ h=>False.elim h
 refine zPJ (decide (y5<(y6.length:Int))) h13 (fun c7=>?_) (fun c7=>?_)
 have c:=zAe c7 c
 refine HT.skip<|zPQ ?_
 refine HT.block<|zPQ ?_
 obtain ⟨e8,e9,e10,c⟩:=ck3 c
 refine zPM (by kernel_rfl) (l:=eR v0::eI y5::eR (vptr v0 (y5.toNat*1))::eF (.rep eStr A (gtD y6 y5))::eR v0::eI y5::eI (y5-1)::eR (vptr v0 ((y5-1).toNat*1))::eF (.rep eStr A (gtD y6 (y5-1)))::eB ((gtD y6 y5)==(gtD y6 (y5-1)))::[]) (tl:=[]) (by kernel_rfl) (by kernel_rfl) (by kernel_rfl) (by kernel_rfl) ?_ ?_
 exact om h0<|om h3<|op (fun Q U W H D=>zAr (q.ok 0 _ Z).1 (D.g 0 Z) (D.g 1 Z) underlying28 sizeOf9 e8 Z)<|op (fun Q U W H D=>(zC0 ((q.fr W).ok 0 _ Z).1 (D.g 0 Z) e8 Z (Fld.id _) Z isAgg9 sizeOf9))<|om h0<|om h3<|op (fun Q U W H D=>zDf (D.g 0 Z) Z e9)<|op (fun Q U W H D=>zAr (q.ok 0 _ Z).1 (D.g 0 Z) (D.g 1 Z) underlying28 sizeOf9 e10 Z)<|op (fun Q U W H D=>(zC0 ((q.fr W).ok 0 _ Z).1 (D.g 0 Z) e10 Z (Fld.id _) Z isAgg9 sizeOf9))<|op (fun Q U W H D=>zFc (D.g 0 Z) (D.g 1 Z))<|oz
 intro R w m n p
 obtain ⟨h0,h3⟩:=k2 n h0 h3
 have h25:=p.r 9 Z
 replace q:=q.fr m
 replace d:=d.fr m.size
 replace j:=j.tr (m.ch noB) fun _ h=>False.elim h
 refine zPJ ((gtD y6 y5)==(gtD y6 (y5-1))) h25 (fun c11=>?_) (fun c11=>?_)
 have c:=zAe c11 c
 refine zPQ ?_
 obtain ⟨e12,c⟩:=zAG c
 obtain ⟨x13,q14,c⟩:=zAO c
 refine zPT (eR v0::eI y5::eR (vsub v0 y5.toNat x13 1)::eR (vsub v0 y5.toNat x13 1)::[]) ?_ ?_
 exact om h0<|om h3<|op (fun Q U W H D=>(q14 ▸ zIe (q.ok 0 _ Z).1 (D.g 0 Z) (D.g 1 Z) underlying28 sizeOf9 e12))<|oa<|oz
 intro R w m n p
 obtain ⟨h0,h3⟩:=k2 n h0 h3
 have h4:=p.r 3 Z
 replace q:=q.fr m
 replace d:=d.fr m.size
 replace j:=j.tr (m.ch noB) fun _ h=>False.elim h
 refine zPQ ?_
 refine zPQ ?_
 refine zPT (eI 1::[]) ?_ ?_
 exact op (fun Q U W H D=>zA6 Z)<|oz
 intro R w m n p
 obtain ⟨h0,h3,h4⟩:=k3 n h0 h3 h4
 have h5:=p.r 0 Z
 replace q:=q.fr m
 replace d:=d.fr m.size
 replace j:=j.tr (m.ch noB) fun _ h=>False.elim h
 obtain ⟨rl15,q16,c⟩:=zA9 c
 replace q16:=q16 Z
 refine zPL (fun R w=>∃ A:Av,∃ (s17:Int × (List (List UInt8))),rl15=s17/\AvOK A w/\Ch (zAE v0) w0 w/\(∀ b o,A0 b o->A b o)/\IniOK [ob v0 (.vec B0 9 eStr s17.2)] A w/\R 0=v0/\R 3=.int .i64 s17.1) ?_ ?_
 refine HT.block<|zPP (fun k R w=>∃ A:Av,∃ (y18:Int) (y19:Int) (y20:List (List UInt8)),zAZ fu y5 x13 k y18 y19 y20=some rl15/\AvOK A w/\Ch (zAE v0) w0 w/\(∀ b o,A0 b o->A b o)/\IniOK [ob v0 (.vec B0 9 eStr y20)] A w/\R 0=v0/\R 3=.int .i64 y18/\R 4=(vsub v0 y5.toNat x13 1)/\R 5=.int .i64 y19) fu ⟨_,_,_,_,q16,d,j,B,q,h0,h3,h4,h5⟩ ?_
 have hr1:=c;clear c q16
 rintro k R w ⟨A,y18,y19,y20,c,d,j,B,q,h0,h3,h4,h5⟩
 rcases k with _ | k
 cases (show none=some _ from c)
 rw [zAZ] at c
 refine zPQ ?_
 refine zPQ ?_
 refine zPT (eI y19::eR (vsub v0 y5.toNat x13 1)::eI (x13:Int)::eB (decide (y19<(x13:Int)))::[]) ?_ ?_
 exact om h5<|om h4<|op (fun Q U W H D=>zLC (q.ok 0 _ Z).1 (D.g 0 Z) underlying28)<|op (fun Q U W H D=>zB8 (D.g 0 Z) (D.g 1 Z))<|oz
 intro R w m n p
 obtain ⟨h0,h3,h4,h5⟩:=k4 n h0 h3 h4 h5
 have h32:=p.r 3 Z
 replace q:=q.fr m
 replace d:=d.fr m.size
 replace j:=j.tr (m.ch noB) fun _ h=>False.elim h
 refine zPJ (decide (y19<(x13:Int))) h32 (fun c21=>?_) (fun c21=>?_)
 have c:=zAe c21 c
 refine HT.skip<|zPQ ?_
 refine HT.block<|zPQ ?_
 obtain ⟨e22,e23,e24,e25,c⟩:=ck4 c
 obtain ⟨e26,e27,e28,c⟩:=ck3 c
 refine zPM (by kernel_rfl) (l:=eR (vsub v0 y5.toNat x13 1)::eI y19::eR (vptr v0 ((y5+y19).toNat*1))::eF (.rep eStr A (gtD y20 (y5+y19)))::eR (vsub v0 y5.toNat x13 1)::eI y19::eI (y19-1)::eR (vptr v0 ((y5+(y19-1)).toNat*1))::eF (.rep eStr A (gtD y20 (y5+(y19-1))))::eB (!((gtD y20 (y5+y19))==(gtD y20 (y5+(y19-1)))))::[]) (tl:=[]) (by kernel_rfl) (by kernel_rfl) (by kernel_rfl) (by kernel_rfl) ?_ ?_
 exact om h4<|om h5<|op (fun Q U W H D=>zEk (q.ok 0 _ Z).1 (D.g 0 Z) (D.g 1 Z) underlying28 sizeOf9 e22 e23 e24 Z)<|op (fun Q U W H D=>(zC0 ((q.fr W).ok 0 _ Z).1 (D.g 0 Z) e24 Z (Fld.id _) Z isAgg9 sizeOf9))<|om h4<|om h5<|op (fun Q U W H D=>zDf (D.g 0 Z) Z e25)<|op (fun Q U W H D=>zEk (q.ok 0 _ Z).1 (D.g 0 Z) (D.g 1 Z) underlying28 sizeOf9 e26 e27 e28 Z)<|op (fun Q U W H D=>(zC0 ((q.fr W).ok 0 _ Z).1 (D.g 0 Z) e28 Z (Fld.id _) Z isAgg9 sizeOf9))<|op (fun Q U W H D=>zMm (D.g 0 Z) (D.g 1 Z))<|oz
 intro R w m n p
 obtain ⟨h0,h3,h4,h5⟩:=k4 n h0 h3 h4 h5
 have h44:=p.r 9 Z
 replace q:=q.fr m
 replace d:=d.fr m.size
 replace j:=j.tr (m.ch noB) fun _ h=>False.elim h
 refine zPJ (!((gtD y20 (y5+y19))==(gtD y20 (y5+(y19-1))))) h44 (fun c29=>?_) (fun c29=>?_)
 have c:=zAe c29 c
 obtain ⟨e30,e31,e32,e33,c⟩:=ck4 c
 refine zPS [ob v0 (.vec B0 9 eStr y20)] (rR v0::rI y18::rR (vsub v0 y5.toNat x13 1)::rI y19::rR (vptr v0 ((y5+y19).toNat*1))::(rF fun A=>.rep eStr A (gtD y20 (y5+y19)))::rR (vptr v0 (y18.toNat*1))::⟨_,true,[0],some (.vec B0 9 eStr (y20.set y18.toNat (gtD y20 (y5+y19)))),false,fun A=>.any⟩::[]) (ur (ur (ur (ur (ur (up (ur (ua (UAll.nil))))))))) q d ?_ ?_
 exact rm h0<|rm h3<|rm h4<|rm h5<|rp (fun V Q U O D=>zEk (q.ok 0 _ Z).1 (D.g 0 Z) (D.g 1 Z) underlying28 sizeOf9 e30 e31 e32 Z)<|rp (fun V Q U O D=>(zC0 (O.rd 0 _ Z Z) (D.g 0 Z) e32 Z (Fld.id _) Z isAgg9 sizeOf9))<|rp (fun V Q U O D=>zAr (q.ok 0 _ Z).1 (D.g 0 Z) (D.g 1 Z) underlying28 sizeOf9 e33 Z)<|rc (OblR.took 0 _ _ Z Z Z Z Z fun V Q U O D u X Y J L M=>by have a0:Q 51=(vptr v0 (y18.toNat*1)):=D.g 0 Z;have a1:Rep eStr V U (Q 50) (gtD y20 (y5+y19)):=D.g 1 Z;obtain rfl:=J _ Z;exact zH8 a1 X Y a0 e33 Z (FldS.id _) sizeOf9 Z)<|rz
 intro done ρ σ A R w y s
 obtain ⟨h0,h3,h4,h5⟩:=k4 s.rg h0 h3 h4 h5
 have z34:=s.inivR 0 Z
 have z35:=s.on y 8 7 Z Z Z Z Z z34
 replace B:=s.lowK B C K (q.geK (⟨.inr (fun k h=>.inr h),N⟩))
 replace j:Ch (zAE v0) w0 w:=j.tr s.ch (q.geK (⟨.inr (fun k h=>.inr h),N⟩))
 replace q:=s.left y [(8,ob v0 (.vec B0 9 eStr (y20.set y18.toNat (gtD y20 (y5+y19)))))] ⟨Z,Z,z35,Z,Z,N⟩
 replace d:=s.avok
 obtain ⟨e36,c⟩:=zAG c
 refine zPT (eI y18::eI (y18+1)::eI (y18+1)::[]) ?_ ?_
 exact om h3<|op (fun Q U W H D=>zAi (D.g 0 Z) Z e36)<|oa<|oz
 intro R w m n p
 obtain ⟨h0,h4,h5⟩:=k3 n h0 h4 h5
 have h3:=p.r 2 Z
 replace q:=q.fr m
 replace d:=d.fr m.size
 replace j:=j.tr (m.ch noB) fun _ h=>False.elim h
 obtain ⟨e37,c⟩:=zAG c
 refine zPT (eI y19::eI (y19+1)::eI (y19+1)::[]) ?_ ?_
 exact om h5<|op (fun Q U W H D=>zAi (D.g 0 Z) Z e37)<|oa<|oz
 intro R w m n p
 obtain ⟨h0,h3,h4⟩:=k3 n h0 h3 h4
 have h5:=p.r 2 Z
 replace q:=q.fr m
 replace d:=d.fr m.size
 replace j:=j.tr (m.ch noB) fun _ h=>False.elim h
 exact ei k (And.intro (Nat.lt_succ_self k) ⟨_,_,_,_,c,d,j,B,q,h0,h3,h4,h5⟩)
 have c:=zAd c29 c
 refine HT.skip ?_
 obtain ⟨e38,c⟩:=zAG c
 refine zPT (eI y19::eI (y19+1)::eI (y19+1)::[]) ?_ ?_
 exact om h5<|op (fun Q U W H D=>zAi (D.g 0 Z) Z e38)<|oa<|oz
 intro R w m n p
 obtain ⟨h0,h3,h4⟩:=k3 n h0 h3 h4
 have h5:=p.r 2 Z
 replace q:=q.fr m
 replace d:=d.fr m.size
 replace j:=j.tr (m.ch noB) fun _ h=>False.elim h
 exact ei k (And.intro (Nat.lt_succ_self k) ⟨_,_,_,_,c,d,j,B,q,h0,h3,h4,h5⟩)
 have c:=zAd c21 c
 refine zPO ?_
 obtain rfl:=si c
 exact ei _ ⟨_,Z,d,j,B,q,h0,h3⟩
 rintro R w ⟨A,s17,es,d,j,B,q,h0,h3⟩
 obtain rfl:=es.symm
 refine zPQ ?_
 obtain ⟨e39,c⟩:=zAG c
 obtain ⟨x40,q41,c⟩:=zAO c
 obtain ⟨e42,e43,c⟩:=ck2 c
 refine zPV [ob v0 (.vec B0 9 eStr s17.2)] (rR v0::rI s17.1::rR (vsub v0 s17.1.toNat x40 1)::⟨_,true,[0],some (.vec B0 9 eStr (s17.2.take s17.1.toNat++List.replicate (s17.2.length-s17.1.toNat) ([]:List UInt8))),false,fun A=>.any⟩::[]) (ur (ur (ur (ua (UAll.nil))))) q d ?_ ?_
 exact rm h0<|rm h3<|rp (fun V Q U O D=>(q41 ▸ zIe (q.ok 0 _ Z).1 (D.g 0 Z) (D.g 1 Z) underlying28 sizeOf9 e39))<|rc (OblR.took 0 _ _ Z Z Z Z Z fun V Q U O D u X Y J L M=>by have a0:Q 56=(vsub v0 s17.1.toNat x40 1):=D.g 0 Z;obtain rfl:=J _ Z;exact zJI a0 X Y underlying28 Z zeroValue9 (fun A w=>(zII Z (by decide))) e42 e43 Z)<|rz
 intro done ρ σ A R w y s
 obtain ⟨h0,h3⟩:=k2 s.rg h0 h3
 have z44:=s.inivR 0 Z
 have z45:=s.on y 4 3 Z Z Z Z Z z44
 replace B:=s.lowK B C K (q.geK (⟨.inr (fun k h=>.inr h),N⟩))
 replace j:Ch (zAE v0) w0 w:=j.tr s.ch (q.geK (⟨.inr (fun k h=>.inr h),N⟩))
 replace q:=s.left y [(4,ob v0 (.vec B0 9 eStr (s17.2.take s17.1.toNat++List.replicate (s17.2.length-s17.1.toNat) ([]:List UInt8))))] ⟨Z,Z,z45,Z,Z,N⟩
 replace d:=s.avok
 obtain ⟨e46,c⟩:=zAG c
 refine zPS [ob v0 (.vec B0 9 eStr (s17.2.take s17.1.toNat++List.replicate (s17.2.length-s17.1.toNat) ([]:List UInt8)))] (rR v0::rI s17.1::⟨_,true,[0],some (.vec B0 9 eStr (subL (s17.2.take s17.1.toNat++List.replicate (s17.2.length-s17.1.toNat) ([]:List UInt8)) 0 s17.1)),true,fun A=>.any⟩::⟨_,true,[3],some (.vec B0 9 eStr (subL (s17.2.take s17.1.toNat++List.replicate (s17.2.length-s17.1.toNat) ([]:List UInt8)) 0 s17.1)),true,fun A=>.any⟩::[]) (ur (ur (ua (ua (UAll.nil))))) q d ?_ ?_
 exact rm h0<|rm h3<|rc (OblR.took 0 _ _ Z Z Z Z Z fun V Q U O D u X Y J L M=>by have a0:Q 57=v0:=D.g 0 Z;have a1:Q 58=.int .i64 s17.1:=D.g 1 Z;exact zH3 (a0.trans (J _ Z).symm) X Y a1 underlying28 sizeOf9 e46 Z)<|rc (OblR.took 3 _ _ Z Z Z Z Z fun V Q U O D u X Y J L M=>by exact zAP (L _ _ Z Z Z Z).symm X Y)<|rz
 intro done ρ σ A R w y s
 obtain ⟨u47,e_u47⟩:∃ u,ρ 4=u:=⟨_,Z⟩
 have h2:=s.ov y 4 3 e_u47
 have hK_u47:∀ k,zAE u47 k->w0.heap.size<=k\/(zAE v0) k:=s.geK y 4 Z Z Z e_u47 (q.geK (⟨.inr (fun k h=>.inr h),N⟩)) j.size
 replace B:=s.lowK B C K (q.geK (⟨.inr (fun k h=>.inr h),N⟩))
 replace j:Ch (zAE v0) w0 w:=j.tr s.ch (q.geK (⟨.inr (fun k h=>.inr h),N⟩))
 replace q:=s.left y [(4,ob u47 (.vec B0 9 eStr (subL (s17.2.take s17.1.toNat++List.replicate (s17.2.length-s17.1.toNat) ([]:List UInt8)) 0 s17.1)))] ⟨Z,Z,e_u47,Z,Z,N⟩
 replace d:=s.avok
 obtain ⟨Yg47,g_Yg47⟩:∃ z:List (List UInt8),z=(subL (s17.2.take s17.1.toNat++List.replicate (s17.2.length-s17.1.toNat) ([]:List UInt8)) 0 s17.1):=⟨_,Z⟩
 rw [<- g_Yg47] at q
 try rw [<- g_Yg47] at c
 refine HT.ret ?_
 obtain rfl:=si c
 have c:=hr0
 replace c:some _=some _:=c
 obtain rfl:=si c
 exact ⟨.inr Z,[R 2],⟨Z,N⟩,by show Took _ true _ _ _ w0 (R 2) w;rw [h2];exact zFF (fun k h o=>.inr h) j (q.ok 0 _ Z).1 (q.own_ge (⟨.inr hK_u47,N⟩) (i:=0) Z) (fun _ _ _ _ _ h=>h)⟩
 have c:=zAd c11 c
 refine HT.skip ?_
 obtain ⟨e49,c⟩:=zAG c
 refine zPT (eI y5::eI (y5+1)::eI (y5+1)::[]) ?_ ?_
 exact om h3<|op (fun Q U W H D=>zAi (D.g 0 Z) Z e49)<|oa<|oz
 intro R w m n p
 replace h0:=k1 n h0
 have h3:=p.r 2 Z
 replace q:=q.fr m
 replace d:=d.fr m.size
 replace j:=j.tr (m.ch noB) fun _ h=>False.elim h
 exact ei k (And.intro (Nat.lt_succ_self k) ⟨_,_,_,c,d,j,B,q,h0,h3⟩)
 have c:=zAd c7 c
 refine zPO ?_
 obtain rfl:=si c
 exact ei _ ⟨_,Z,d,j,B,q,h0⟩
 rintro R w ⟨A,s4,rfl,d,j,B,q,h0⟩
 have c:=zEK c
 refine zPQ ?_
 refine zPT (eR v0::eR v0::[]) ?_ ?_
 exact om h0<|oa<|oz
 intro R w m n p
 have h2:=p.r 1 Z
 replace q:=q.fr m
 replace d:=d.fr m.size
 replace j:=j.tr (m.ch noB) fun _ h=>False.elim h
 refine HT.ret ?_
 obtain rfl:=si c
 exact ⟨.inr Z,[R 2],⟨Z,N⟩,by show Took _ true _ _ _ w0 (R 2) w;rw [h2];exact zFF (fun k h o=>.inr h) j (q.ok 0 _ Z).1 (q.own_ge (⟨.inr (fun k h=>.inr h),N⟩) (i:=0) Z) (fun _ _ _ _ _ h=>h)⟩
def zDX (fu:Nat) (p0:List (List UInt8)):Option (List (List UInt8)):=
 cl true (zAQ fu p0) fun x1=>
 cl true (zHc fu x1) fun x4=>
 cl true (zBK fu x4) fun x8=>
 some x8
theorem zHB {fu : Nat} {A0 : Av} {p0 : List (List UInt8)} {r : List (List UInt8)} (c : zDX fu p0 = some r) {w : World} {v0 : Value} (d : AvOK A0 w) (h0 : Rep (eSl eStr) A0 w v0 p0) :
 Calls prog 78 #[v0] w fun e w'=>∃ v,e=.returned v/\((Res.vec w.heap.size 9 eStr r).ok (addA A0 v) v w'/\Fr w w'):=by
 unfold zDX at c
 obtain ⟨w0,hw0,j,C⟩:=pw d
 have hA00:AvOK A0 w0:=C
 rw [fh hw0]
 rw [fw hw0]
 obtain ⟨A,hAe,B,d,q⟩:=pa d
 refine zAB [.tmp 2] func78 ntmps78 (by decide) Z Z (nb Z) ?_
 intro R hR
 have f_v0:Rep (eSl eStr) A w v0 p0:=hAe ▸ h0
 replace h0:R 0=v0:=hR 0 _ Z
 refine zPR d j (eA::[]) ?_ ?_
 exact op (fun Q U W H D=>zA6 N)<|oz
 intro R w m n p d j
 replace h0:=k1 n h0
 replace f_v0:=f_v0.fr m
 replace q:=q.fr m
 obtain ⟨x1,q2,c⟩:=zA9 c
 refine zPS [] (rR v0::⟨_,true,[],some (.vec w0.heap.size 9 eStr x1),true,fun A=>.any⟩::⟨_,true,[1],some (.vec w0.heap.size 9 eStr x1),true,fun A=>.any⟩::[]) (ur (ua (ua (UAll.nil)))) q d ?_ ?_
 exact rm h0<|rc (OblR.made _ Z Z Z Z fun V Q U O D=>by have a0:Q 4=v0:=D.g 0 Z;have ra0:=(f_v0.stp O.stp).eq a0;exact zEy call39 (zAj (q2 Z) O.av ra0) (Nat.le_trans j.size O.ch.size))<|rc (OblR.took 1 _ _ Z Z Z Z Z fun V Q U O D u X Y J L M=>by exact zAP (L _ _ Z Z Z Z).symm X Y)<|rz
 intro done ρ σ A R w y s
 obtain ⟨u3,e_u3⟩:∃ u,ρ 2=u:=⟨_,Z⟩
 have h3:=s.ov y 2 2 e_u3
 obtain ⟨B,j,d⟩:=s.s B C j q N
 replace q:=s.left y [(2,ob u3 (.vec w0.heap.size 9 eStr x1))] ⟨Z,Z,e_u3,Z,Z,N⟩
 obtain ⟨x4,q5,c⟩:=zA9 c
 refine zPS [ob u3 (.vec w0.heap.size 9 eStr x1)] (rR u3::⟨_,true,[0],some (.vec w0.heap.size 9 eStr x4),false,fun A=>.any⟩::[]) (ur (ua (UAll.nil))) q d ?_ ?_
 exact rm h3<|rc (OblR.took 0 _ _ Z Z Z Z Z fun V Q U O D u X Y J L M=>by have a0:Q 6=u3:=D.g 0 Z;have hu0:zAL Q (.tmp 6)=u:=a0.trans (J _ Z).symm;exact zHT call89 Y (fun _ _ _ _ _ h=>h) (by simp only [List.map,hu0];exact Calls.mono (zHr (q5 Z) (O.av.sub _) (fun b o h=>h.2) (Vec.flat X (fun _ _ _ _ _ h=>h))) (fun _ _ ⟨v,h1,h2,h3,h4⟩=>⟨v,h1,N,h3,h4⟩)))<|rz
 intro done ρ σ A R w y s
 replace h3:=k1 s.rg h3
 have z6:=s.inivR 0 Z
 have z7:=s.on y 2 1 Z Z Z Z Z z6
 obtain ⟨B,j,d⟩:=s.s B C j q ⟨Z,N⟩
 replace q:=s.left y [(2,ob u3 (.vec w0.heap.size 9 eStr x4))] ⟨Z,Z,z7,Z,Z,N⟩
 obtain ⟨x8,q9,c⟩:=zA9 c
 refine zPS [ob u3 (.vec w0.heap.size 9 eStr x4)] (rR u3::⟨_,true,[0],some (.vec w0.heap.size 9 eStr x8),true,fun A=>.any⟩::⟨_,true,[2],some (.vec w0.heap.size 9 eStr x8),true,fun A=>.any⟩::[]) (ur (ua (ua (UAll.nil)))) q d ?_ ?_
 exact rm h3<|rc (OblR.took 0 _ _ Z Z Z Z Z fun V Q U O D u X Y J L M=>by have a0:Q 8=u3:=D.g 0 Z;have hu0:zAL Q (.tmp 8)=u:=a0.trans (J _ Z).symm;exact zEg call90 Y (by simp only [List.map,hu0];exact zEN (q9 Z) (O.av.sub _) (fun b o h=>h.2) (Vec.flat X (fun _ _ _ _ _ h=>h))))<|rc (OblR.took 2 _ _ Z Z Z Z Z fun V Q U O D u X Y J L M=>by exact zAP (L _ _ Z Z Z Z).symm X Y)<|rz
 intro done ρ σ A R w y s
 obtain ⟨u10,e_u10⟩:∃ u,ρ 3=u:=⟨_,Z⟩
 have h2:=s.ov y 3 2 e_u10
 obtain ⟨B,j,d⟩:=s.s B C j q ⟨Z,N⟩
 replace q:=s.left y [(3,ob u10 (.vec w0.heap.size 9 eStr x8))] ⟨Z,Z,e_u10,Z,Z,N⟩
 refine HT.ret ?_
 obtain rfl:=si c
 exact ⟨.inr Z,[R 2],⟨Z,N⟩,(zBk (q.ok 0 _ Z) B h2),j⟩
def zAk (fu : Nat) (p0 : List (List UInt8)) (p1 : List UInt8) : Nat -> Int -> Option (Ex Int Unit)
 | 0,_=>none
 | k+1,y4=>
 bif (decide (y4<(p0.length:Int))) then (
 ck (inR y4 p0.length) <|
 bif (p1==(gtD p0 y4)) then (
 some (Ex.ret y4)
 ) else (
 ck (i64B (y4+1)) <|
 zAk fu p0 p1 k (y4+1)
 )
 ) else (
 some (Ex.go ())
 )
def zC6 (fu:Nat) (p0:List (List UInt8)) (p1:List UInt8):Option Int:=
 cl true (zAk fu p0 p1 fu 0) fun rl1=>
 exM rl1 (fun r=>some r) fun s3=>
 some (-1)
theorem zEf {fu : Nat} {A : Av} {p0 : List (List UInt8)} {p1 : List UInt8} {r : Int} (c : zC6 fu p0 p1 = some r) {w : World} {v0 : Value} {v1 : Value} (d : AvOK A w) (h0 : Rep (eSl eStr) A w v0 p0) (h1 : Rep eStr A w v1 p1) :
 Calls prog 91 #[v0,v1] w fun e w'=>∃ v,e=.returned v/\(v=.int .i64 r/\Fr w w'):=by
 unfold zC6 at c
 obtain ⟨w0,hw0,j⟩:=pf w
 rw [fw hw0]
 refine zAB [.tmp 4] func91 ntmps91 (by decide) Z Z (nb Z) ?_
 intro R hR
 have f_v0:=h0
 replace h0:R 0=v0:=hR 0 _ Z
 have f_v1:=h1
 replace h1:R 1=v1:=hR 1 _ Z
 refine zPR d j (eI 0::[]) ?_ ?_
 exact op (fun Q U W H D=>zA6 Z)<|oz
 intro R w m n p d j
 obtain ⟨h0,h1⟩:=k2 n h0 h1
 replace f_v0:=f_v0.fr m
 replace f_v1:=f_v1.fr m
 refine zPQ ?_
 refine zPR d j (eR v0::eI (p0.length:Int)::eI 0::[]) ?_ ?_
 exact om h0<|op (fun Q U W H D=>zAN (aT:=#[]) ((f_v0.fr W).eq (D.g 0 Z)) underlying28)<|op (fun Q U W H D=>zBI Z)<|oz
 intro R w m n p d j
 obtain ⟨h0,h1⟩:=k2 n h0 h1
 have h7:=p.r 1 Z
 have h8:=p.r 2 Z
 replace f_v0:=f_v0.fr m
 replace f_v1:=f_v1.fr m
 obtain ⟨rl1,q2,c⟩:=zA9 c
 replace q2:=q2 Z
 refine zPL (fun R w=>∃ (s3:Unit),rl1=Ex.go s3/\AvOK A w/\Fr w0 w) ?_ ?_
 refine HT.block<|zPP (fun k R w=>∃ (y4:Int),zAk fu p0 p1 k y4=some rl1/\AvOK A w/\Fr w0 w/\R 0=v0/\R 1=v1/\R 7=.int .i64 (p0.length:Int)/\R 8=.int .i64 y4/\Rep (eSl eStr) A w v0 p0/\Rep eStr A w v1 p1) fu ⟨_,q2,d,j,h0,h1,h7,h8,f_v0,f_v1⟩ ?_
 have hr0:=c;clear c q2
 rintro k R w ⟨y4,c,d,j,h0,h1,h7,h8,f_v0,f_v1⟩
 rcases k with _ | k
 cases (show none=some _ from c)
 rw [zAk] at c
 refine zPR d j (eB (decide (y4<(p0.length:Int)))::[]) ?_ ?_
 exact op (fun Q U W H D=>zB8 ((H 8 Z).trans h8) ((H 7 Z).trans h7))<|oz
 intro R w m n p d j
 obtain ⟨h0,h1,h7,h8⟩:=k4 n h0 h1 h7 h8
 have h9:=p.r 0 Z
 replace f_v0:=f_v0.fr m
 replace f_v1:=f_v1.fr m
 refine zPQ ?_
 refine zPJ (decide (y4<(p0.length:Int))) h9 (fun c5=>?_) (fun c5=>?_)
 have c:=zAe c5 c
 refine HT.skip<|zPQ ?_
 refine HT.block<|zPR d j (eI y4::eI y4::[]) ?_ ?_
 exact om h8<|oa<|oz
 intro R w m n p d j
 obtain ⟨h0,h1,h7,h8⟩:=k4 n h0 h1 h7 h8
 have h5:=p.r 1 Z
 replace f_v0:=f_v0.fr m
 replace f_v1:=f_v1.fr m
 obtain ⟨e6,c⟩:=zAG c
 refine zPR d j (eR v1::eR v0::eI y4::eF (.qtr eStr A (gtD p0 y4))::eF (.rep eStr A (gtD p0 y4))::eB (p1==(gtD p0 y4))::[]) ?_ ?_
 exact om h1<|om h0<|om h5<|op (fun Q U W H D=>zAC ((f_v0.fr W).eq (D.g 0 Z)) (D.g 1 Z) underlying28 sizeOf9 e6)<|op (fun Q U W H D=>(zAT (QRep.ptr (D.g 0 Z)) isAgg9 sizeOf9))<|op (fun Q U W H D=>zFc ((f_v1.fr W).eq (D.g 0 Z)) (D.g 1 Z))<|oz
 intro R w m n p d j
 obtain ⟨h0,h1,h5,h7,h8⟩:=k5 n h0 h1 h5 h7 h8
 have h16:=p.r 5 Z
 replace f_v0:=f_v0.fr m
 replace f_v1:=f_v1.fr m
 refine zPJ (p1==(gtD p0 y4)) h16 (fun c7=>?_) (fun c7=>?_)
 have c:=zAe c7 c
 refine zPR d j (eI y4::eI y4::[]) ?_ ?_
 exact om h5<|oa<|oz
 intro R w m n p d j
 have h4:=p.r 1 Z
 refine HT.ret ?_
 obtain rfl:=si c
 have c:=hr0
 replace c:some _=some _:=c
 obtain rfl:=si c
 exact ⟨.inr Z,[R 4],⟨Z,N⟩,h4,j⟩
 have c:=zAd c7 c
 refine HT.skip ?_
 obtain ⟨e8,c⟩:=zAG c
 refine HT.u d j (eI (y4+1)::eI (y4+1)::[]) ?_ ?_
 exact op (fun Q U W H D=>zAi ((H 8 Z).trans h8) Z e8)<|ov<|oz
 intro R w m n p d j
 obtain ⟨h0,h1,h7⟩:=k3 n h0 h1 h7
 have h8:=p.r 1 Z
 replace f_v0:=f_v0.fr m
 replace f_v1:=f_v1.fr m
 exact ei k (And.intro (Nat.lt_succ_self k) ⟨_,c,d,j,h0,h1,h7,h8,f_v0,f_v1⟩)
 have c:=zAd c5 c
 refine zPO ?_
 obtain rfl:=si c
 exact ei _ ⟨Z,d,j⟩
 rintro R w ⟨s3,rfl,d,j⟩
 have c:=zEK c
 refine zPR d j (eI (-1)::[]) ?_ ?_
 exact op (fun Q U W H D=>zA6 Z)<|oz
 intro R w m n p d j
 have h4:=p.r 0 Z
 refine HT.ret ?_
 obtain rfl:=si c
 exact ⟨.inr Z,[R 4],⟨Z,N⟩,h4,j⟩
def zBF (fu:Nat) (p0:List (List UInt8)) (p1:List UInt8):Option Bool:=
 cl true (zC6 fu p0 p1) fun x1=>
 some (decide (0<=x1))
theorem zEM {fu : Nat} {A : Av} {p0 : List (List UInt8)} {p1 : List UInt8} {r : Bool} (c : zBF fu p0 p1 = some r) {w : World} {v0 : Value} {v1 : Value} (d : AvOK A w) (h0 : Rep (eSl eStr) A w v0 p0) (h1 : Rep eStr A w v1 p1) :
 Calls prog 80 #[v0,v1] w fun e w'=>∃ v,e=.returned v/\(v=.bool r/\Fr w w'):=by
 unfold zBF at c
 obtain ⟨w0,hw0,j⟩:=pf w
 rw [fw hw0]
 refine zAB [.tmp 4] func80 ntmps80 (by decide) Z Z (nb Z) ?_
 intro R hR
 have f_v0:=h0
 replace h0:R 0=v0:=hR 0 _ Z
 have f_v1:=h1
 replace h1:R 1=v1:=hR 1 _ Z
 refine zPR d j (eB false::[]) ?_ ?_
 exact op (fun Q U W H D=>zA6 Z)<|oz
 intro R w m n p d j
 obtain ⟨h0,h1⟩:=k2 n h0 h1
 replace f_v0:=f_v0.fr m
 replace f_v1:=f_v1.fr m
 obtain ⟨x1,q2,c⟩:=zA9 c
 refine zPR d j (eR v0::eR v1::eI x1::eB (decide (0<=x1))::eB (decide (0<=x1))::[]) ?_ ?_
 exact om h0<|om h1<|op (fun Q U W H D=>zAM call91 (zEf (q2 Z) (d.fr W.size) ((f_v0.fr W).eq (D.g 0 Z)) ((f_v1.fr W).eq (D.g 1 Z))))<|op (fun Q U W H D=>zFI (D.g 0 Z) Z)<|oa<|oz
 intro R w m n p d j
 have h4:=p.r 4 Z
 refine HT.ret ?_
 obtain rfl:=si c
 exact ⟨.inr Z,[R 4],⟨Z,N⟩,h4,j⟩
def zDF (fu:Nat) (p0:List UInt8) (p1:List (List UInt8)):Option Bool:=
 cl true (zBF fu p1 p0) fun x1=>
 some (!x1)
theorem zFY {fu : Nat} {A : Av} {p0 : List UInt8} {p1 : List (List UInt8)} {r : Bool} (c : zDF fu p0 p1 = some r) {w : World} {v0 : Value} {v1 : Value} (d : AvOK A w) (h0 : Rep eStr A w v0 p0) (h1 : PRep (eSl eStr) A w v1 p1) :
 Calls prog 79 #[v0,v1] w fun e w'=>∃ v,e=.returned v/\(v=.bool r/\Fr w w'):=by
 unfold zDF at c
 obtain ⟨w0,hw0,j⟩:=pf w
 rw [fw hw0]
 have f_v1:CRep (eSl eStr) A w w0.heap.size v1 p1:=by subst hw0;exact CRep.mk' h1
 refine zAB [.tmp 3] func79 ntmps79 (by decide) Z Z (nb Z) ?_
 intro R hR
 have f_v0:=h0
 replace h0:R 0=v0:=hR 0 _ Z
 replace h1:R 1=v1:=hR 1 _ Z
 refine zPR d j (eB false::[]) ?_ ?_
 exact op (fun Q U W H D=>zA6 Z)<|oz
 intro R w m n p d j
 obtain ⟨h0,h1⟩:=k2 n h0 h1
 replace f_v1:=f_v1.fr m
 replace f_v0:=f_v0.fr m
 obtain ⟨x1,q2,c⟩:=zA9 c
 refine zPR d j (eF (.rep (eSl eStr) A p1)::eR v0::eB x1::eB (!x1)::eB (!x1)::[]) ?_ ?_
 exact op (fun Q U W H D=>(zAT ((f_v1.fr W).ptr ((H 1 Z).trans h1)) isAgg28 sizeOf28))<|om h0<|op (fun Q U W H D=>zAM call80 (zEM (q2 Z) (d.fr W.size) (D.g 0 Z) ((f_v0.fr W).eq (D.g 1 Z))))<|op (fun Q U W H D=>zBY (D.g 0 Z))<|oa<|oz
 intro R w m n p d j
 have h3:=p.r 4 Z
 refine HT.ret ?_
 obtain rfl:=si c
 exact ⟨.inr Z,[R 3],⟨Z,N⟩,h3,j⟩
def zAb (fu : Nat) (p0 : List (List UInt8)) (p1 : (List UInt8) -> Option Bool) : Nat -> Int -> Option (Ex Int Unit)
 | 0,_=>none
 | k+1,y4=>
 bif (decide (y4<(p0.length:Int))) then (
 ck (inR y4 p0.length) <|
 cl true (p1 (gtD p0 y4)) fun x7=>
 bif x7 then (
 some (Ex.ret y4)
 ) else (
 ck (i64B (y4+1)) <|
 zAb fu p0 p1 k (y4+1)
 )
 ) else (
 some (Ex.go ())
 )
def zBZ (fu:Nat) (p0:List (List UInt8)) (p1:(List UInt8)->Option Bool):Option Int:=
 cl true (zAb fu p0 p1 fu 0) fun rl1=>
 exM rl1 (fun r=>some r) fun s3=>
 some (-1)
theorem zEB {fu : Nat} {A : Av} {p0 : List (List UInt8)} {p1 : (List UInt8) -> Option Bool} {r : Int} (c : zBZ fu p0 p1 = some r) {w : World} {v0 : Value} {v1 : Value} (d : AvOK A w) (h0 : Rep (eSl eStr) A w v0 p0) (h1 : FnB1 prog eStr (fun r => .raw (.bool r)) A w v1 p1) :
 Calls prog 88 #[v0,v1] w fun e w'=>∃ v,e=.returned v/\(v=.int .i64 r/\Fr w w'):=by
 unfold zBZ at c
 obtain ⟨w0,hw0,j⟩:=pf w
 rw [fw hw0]
 have f_v1:FnB1 prog eStr (fun r=>.raw (.bool r)) A w0 v1 p1:=hw0 ▸ h1
 refine zAB [.tmp 4] func88 ntmps88 (by decide) Z Z (nb Z) ?_
 intro R hR
 have f_v0:=h0
 replace h0:R 0=v0:=hR 0 _ Z
 replace h1:R 1=v1:=hR 1 _ Z
 refine zPR d j (eI 0::[]) ?_ ?_
 exact op (fun Q U W H D=>zA6 Z)<|oz
 intro R w m n p d j
 obtain ⟨h0,h1⟩:=k2 n h0 h1
 replace f_v0:=f_v0.fr m
 refine zPQ ?_
 refine zPR d j (eR v0::eI (p0.length:Int)::eI 0::[]) ?_ ?_
 exact om h0<|op (fun Q U W H D=>zAN (aT:=#[]) ((f_v0.fr W).eq (D.g 0 Z)) underlying28)<|op (fun Q U W H D=>zBI Z)<|oz
 intro R w m n p d j
 obtain ⟨h0,h1⟩:=k2 n h0 h1
 have h7:=p.r 1 Z
 have h8:=p.r 2 Z
 replace f_v0:=f_v0.fr m
 obtain ⟨rl1,q2,c⟩:=zA9 c
 replace q2:=q2 Z
 refine zPL (fun R w=>∃ (s3:Unit),rl1=Ex.go s3/\AvOK A w/\Fr w0 w) ?_ ?_
 refine HT.block<|zPP (fun k R w=>∃ (y4:Int),zAb fu p0 p1 k y4=some rl1/\AvOK A w/\Fr w0 w/\R 0=v0/\R 1=v1/\R 7=.int .i64 (p0.length:Int)/\R 8=.int .i64 y4/\Rep (eSl eStr) A w v0 p0) fu ⟨_,q2,d,j,h0,h1,h7,h8,f_v0⟩ ?_
 have hr0:=c;clear c q2
 rintro k R w ⟨y4,c,d,j,h0,h1,h7,h8,f_v0⟩
 rcases k with _ | k
 cases (show none=some _ from c)
 rw [zAb] at c
 refine zPR d j (eB (decide (y4<(p0.length:Int)))::[]) ?_ ?_
 exact op (fun Q U W H D=>zB8 ((H 8 Z).trans h8) ((H 7 Z).trans h7))<|oz
 intro R w m n p d j
 obtain ⟨h0,h1,h7,h8⟩:=k4 n h0 h1 h7 h8
 have h9:=p.r 0 Z
 replace f_v0:=f_v0.fr m
 refine zPQ ?_
 refine zPJ (decide (y4<(p0.length:Int))) h9 (fun c5=>?_) (fun c5=>?_)
 have c:=zAe c5 c
 refine HT.skip<|zPQ ?_
 refine HT.block<|zPR d j (eI y4::eI y4::[]) ?_ ?_
 exact om h8<|oa<|oz
 intro R w m n p d j
 obtain ⟨h0,h1,h7,h8⟩:=k4 n h0 h1 h7 h8
 have h5:=p.r 1 Z
 replace f_v0:=f_v0.fr m
 obtain ⟨e6,c⟩:=zAG c
 obtain ⟨x7,q8,c⟩:=zA9 c
 refine zPR d j (eR v1::eR v0::eI y4::eF (.qtr eStr A (gtD p0 y4))::eF (.rep eStr A (gtD p0 y4))::eB x7::[]) ?_ ?_
 exact om h1<|om h0<|om h5<|op (fun Q U W H D=>zAC ((f_v0.fr W).eq (D.g 0 Z)) (D.g 1 Z) underlying28 sizeOf9 e6)<|op (fun Q U W H D=>(zAT (QRep.ptr (D.g 0 Z)) isAgg9 sizeOf9))<|op (fun Q U W H D=>zIF (D.g 0 Z) (f_v1 _ _ (q8 Z) _ _ ((j.trans W).ch _) (d.fr W.size) (D.g 1 Z)))<|oz
 intro R w m n p d j
 obtain ⟨h0,h1,h5,h7,h8⟩:=k5 n h0 h1 h5 h7 h8
 have h16:=p.r 5 Z
 replace f_v0:=f_v0.fr m
 refine zPJ x7 h16 (fun c9=>?_) (fun c9=>?_)
 have c:=zAe c9 c
 refine zPR d j (eI y4::eI y4::[]) ?_ ?_
 exact om h5<|oa<|oz
 intro R w m n p d j
 have h4:=p.r 1 Z
 refine HT.ret ?_
 obtain rfl:=si c
 have c:=hr0
 replace c:some _=some _:=c
 obtain rfl:=si c
 exact ⟨.inr Z,[R 4],⟨Z,N⟩,h4,j⟩
 have c:=zAd c9 c
 refine HT.skip ?_
 obtain ⟨e10,c⟩:=zAG c
 refine HT.u d j (eI (y4+1)::eI (y4+1)::[]) ?_ ?_
 exact op (fun Q U W H D=>zAi ((H 8 Z).trans h8) Z e10)<|ov<|oz
 intro R w m n p d j
 obtain ⟨h0,h1,h7⟩:=k3 n h0 h1 h7
 have h8:=p.r 1 Z
 replace f_v0:=f_v0.fr m
 exact ei k (And.intro (Nat.lt_succ_self k) ⟨_,c,d,j,h0,h1,h7,h8,f_v0⟩)
 have c:=zAd c5 c
 refine zPO ?_
 obtain rfl:=si c
 exact ei _ ⟨Z,d,j⟩
 rintro R w ⟨s3,rfl,d,j⟩
 have c:=zEK c
 refine zPR d j (eI (-1)::[]) ?_ ?_
 exact op (fun Q U W H D=>zA6 Z)<|oz
 intro R w m n p d j
 have h4:=p.r 0 Z
 refine HT.ret ?_
 obtain rfl:=si c
 exact ⟨.inr Z,[R 4],⟨Z,N⟩,h4,j⟩
def zAV (fu : Nat) (p1 : (List UInt8) -> Option Bool) : Nat -> Int -> Int -> (List (List UInt8)) -> Option (Int × (List (List UInt8)))
 | 0,_,_,_=>none
 | k+1,y8,y9,y10=>
 bif (decide (y9<(y10.length:Int))) then (
 ck (inR y9 y10.length) <|
 cl true (p1 (gtD y10 y9)) fun x14=>
 bif (!x14) then (
 ck (inR y8 y10.length) <|
 ck (i64B (y8+1)) <|
 ck (i64B (y9+1)) <|
 zAV fu p1 k (y8+1) (y9+1) (y10.set y8.toNat (gtD y10 y9))
 ) else (
 ck (i64B (y9+1)) <|
 zAV fu p1 k y8 (y9+1) y10
 )
 ) else (
 some (y8,y10)
 )
def zAz (fu:Nat) (p0:List (List UInt8)) (p1:(List UInt8)->Option Bool):Option (List (List UInt8)):=
 cl true (zBZ fu p0 p1) fun x1=>
 bif (x1==(-1)) then (
 some p0
 ) else (
 ck (i64B (x1+1)) <|
 cl true (zAV fu p1 fu x1 (x1+1) p0) fun s7=>
 ck (subR s7.1 (s7.2.length:Int) s7.2.length) <|
 bd ((s7.2.length:Int).toNat-s7.1.toNat) fun x24=>
 ck (subR s7.1 s7.2.length s7.2.length) <|
 ck (x24==s7.2.length-s7.1.toNat) <|
 ck (subR 0 s7.1 (s7.2.take s7.1.toNat++List.replicate (s7.2.length-s7.1.toNat) ([]:List UInt8)).length) <|
 some (subL (s7.2.take s7.1.toNat++List.replicate (s7.2.length-s7.1.toNat) ([]:List UInt8)) 0 s7.1)
 )
theorem zE3 {fu : Nat} {A0 : Av} {p0 : List (List UInt8)} {p1 : (List UInt8) -> Option Bool} {r : List (List UInt8)} (c : zAz fu p0 p1 = some r) {w : World} {v0 : Value} {v1 : Value} {B0 : Nat} (d : AvOK A0 w) (K : ∀ b o, A0 b o -> ¬ zAE v0 b) (h0 : (Res.vec B0 9 eStr p0).ok A0 v0 w) (h1 : FnK1 prog eStr (fun r => .raw (.bool r)) A0 (zAE v0) w v1 p1) :
 Calls prog 77 #[v0,v1] w fun e w'=>∃ v,e=.returned v/\Took (addA A0 v0) true v0 (.vec B0 9 eStr r) (fun _=>.any) w v w':=by
 unfold zAz at c
 obtain ⟨w0,hw0,C⟩:=pc d
 have j:Ch (zAE v0) w0 w:=hw0 ▸ Ch.refl _ _
 have hA00:AvOK A0 w0:=C
 rw [show Took (addA A0 v0) true v0 (.vec B0 9 eStr r) (fun _=>.any) w=Took (addA A0 v0) true v0 (.vec B0 9 eStr r) (fun _=>.any) w0 from hw0 ▸ Z]
 have f_v1:FnK1 prog eStr (fun r=>.raw (.bool r)) A0 (zAE v0) w0 v1 p1:=hw0 ▸ h1
 obtain ⟨A,hAe⟩:∃ A,A=addA A0 v0:=⟨_,Z⟩
 have B:∀ b o,A0 b o->A b o:=fun b o h=>hAe ▸ .inl h
 replace d:AvOK A w:=hAe ▸ d.one h0
 have q:IniOK [ob v0 (.vec B0 9 eStr p0)] A w:=hAe ▸ IniOK.one h0 (fun _ _ _ _ _ h=>h)
 refine zAB [.tmp 4] func77 ntmps77 (by decide) Z Z (nb Z) ?_
 intro R hR
 replace h0:R 0=v0:=hR 0 _ Z
 replace h1:R 1=v1:=hR 1 _ Z
 refine zPQ ?_
 refine zPT (eA::[]) ?_ ?_
 exact op (fun Q U W H D=>zA6 N)<|oz
 intro R w m n p
 obtain ⟨h0,h1⟩:=k2 n h0 h1
 replace q:=q.fr m
 replace d:=d.fr m.size
 replace j:=j.tr (m.ch noB) fun _ h=>False.elim h
 refine zPQ ?_
 obtain ⟨x1,q2,c⟩:=zA9 c
 refine zPT (eR v0::eR v1::eI x1::eI x1::[]) ?_ ?_
 exact om h0<|om h1<|op (fun Q U W H D=>zAM call88 (zEB (q2 Z) (hA00.fr ((Nat.le_trans j.size W.size))) ((zJc ((q.fr W).ok 0 _ Z).1 B C K (fun k h=>.inr h)).eq (D.g 0 Z)) ((f_v1.on (j.tr (W.ch noB) fun _ h=>False.elim h) (fun _ _ h=>False.elim h) (fun _ _ h=>h)).eq (D.g 1 Z))))<|oa<|oz
 intro R w m n p
 obtain ⟨h0,h1⟩:=k2 n h0 h1
 have h5:=p.r 3 Z
 replace q:=q.fr m
 replace d:=d.fr m.size
 replace j:=j.tr (m.ch noB) fun _ h=>False.elim h
 refine zPQ ?_
 refine zPQ ?_
 refine zPT (eI x1::eB (x1==(-1))::[]) ?_ ?_
 exact om h5<|op (fun Q U W H D=>zEt (D.g 0 Z) Z)<|oz
 intro R w m n p
 obtain ⟨h0,h1,h5⟩:=k3 n h0 h1 h5
 have h12:=p.r 1 Z
 replace q:=q.fr m
 replace d:=d.fr m.size
 replace j:=j.tr (m.ch noB) fun _ h=>False.elim h
 refine zPJ (x1==(-1)) h12 (fun c3=>?_) (fun c3=>?_)
 have c:=zAe c3 c
 refine zPQ ?_
 refine zPT (eR v0::eR v0::[]) ?_ ?_
 exact om h0<|oa<|oz
 intro R w m n p
 have h4:=p.r 1 Z
 replace q:=q.fr m
 replace d:=d.fr m.size
 replace j:=j.tr (m.ch noB) fun _ h=>False.elim h
 refine HT.ret ?_
 obtain rfl:=si c
 exact ⟨.inr Z,[R 4],⟨Z,N⟩,by show Took _ true _ _ _ w0 (R 4) w;rw [h4];exact zFF (fun k h o=>.inr h) j (q.ok 0 _ Z).1 (q.own_ge (⟨.inr (fun k h=>.inr h),N⟩) (i:=0) Z) (fun _ _ _ _ _ h=>h)⟩
 have c:=zAd c3 c
 refine HT.skip<|zPQ ?_
 refine zPQ ?_
 obtain ⟨e4,c⟩:=zAG c
 refine zPT (eI x1::eI (x1+1)::eI (x1+1)::[]) ?_ ?_
 exact om h5<|op (fun Q U W H D=>zAi (D.g 0 Z) Z e4)<|oa<|oz
 intro R w m n p
 obtain ⟨h0,h1,h5⟩:=k3 n h0 h1 h5
 have h6:=p.r 2 Z
 replace q:=q.fr m
 replace d:=d.fr m.size
 replace j:=j.tr (m.ch noB) fun _ h=>False.elim h
 obtain ⟨rl5,q6,c⟩:=zA9 c
 replace q6:=q6 Z
 refine zPL (fun R w=>∃ A:Av,∃ (s7:Int × (List (List UInt8))),rl5=s7/\AvOK A w/\Ch (zAE v0) w0 w/\(∀ b o,A0 b o->A b o)/\IniOK [ob v0 (.vec B0 9 eStr s7.2)] A w/\R 0=v0/\R 5=.int .i64 s7.1) ?_ ?_
 refine HT.block<|zPP (fun k R w=>∃ A:Av,∃ (y8:Int) (y9:Int) (y10:List (List UInt8)),zAV fu p1 k y8 y9 y10=some rl5/\AvOK A w/\Ch (zAE v0) w0 w/\(∀ b o,A0 b o->A b o)/\IniOK [ob v0 (.vec B0 9 eStr y10)] A w/\R 0=v0/\R 1=v1/\R 5=.int .i64 y8/\R 6=.int .i64 y9) fu ⟨_,_,_,_,q6,d,j,B,q,h0,h1,h5,h6⟩ ?_
 have hr0:=c;clear c q6
 rintro k R w ⟨A,y8,y9,y10,c,d,j,B,q,h0,h1,h5,h6⟩
 rcases k with _ | k
 cases (show none=some _ from c)
 rw [zAV] at c
 refine zPQ ?_
 refine zPQ ?_
 refine zPT (eI y9::eR v0::eI (y10.length:Int)::eB (decide (y9<(y10.length:Int)))::[]) ?_ ?_
 exact om h6<|om h0<|op (fun Q U W H D=>zDq (q.ok 0 _ Z).1 (D.g 0 Z) underlying28)<|op (fun Q U W H D=>zB8 (D.g 0 Z) (D.g 1 Z))<|oz
 intro R w m n p
 obtain ⟨h0,h1,h5,h6⟩:=k4 n h0 h1 h5 h6
 have h19:=p.r 3 Z
 replace q:=q.fr m
 replace d:=d.fr m.size
 replace j:=j.tr (m.ch noB) fun _ h=>False.elim h
 refine zPJ (decide (y9<(y10.length:Int))) h19 (fun c11=>?_) (fun c11=>?_)
 have c:=zAe c11 c
 refine HT.skip<|zPQ ?_
 refine HT.block<|zPQ ?_
 obtain ⟨e12,c⟩:=zAG c
 refine zPT (eR v0::eI y9::eR (vptr v0 (y9.toNat*1))::eF (.rep eStr A (gtD y10 y9))::eF (.rep eStr A (gtD y10 y9))::[]) ?_ ?_
 exact om h0<|om h6<|op (fun Q U W H D=>zAr (q.ok 0 _ Z).1 (D.g 0 Z) (D.g 1 Z) underlying28 sizeOf9 e12 Z)<|op (fun Q U W H D=>(zC0 ((q.fr W).ok 0 _ Z).1 (D.g 0 Z) e12 Z (Fld.id _) Z isAgg9 sizeOf9))<|op (fun Q U W H D=>zA6 (D.g 0 Z))<|oz
 intro R w m n p
 obtain ⟨h0,h1,h5,h6⟩:=k4 n h0 h1 h5 h6
 obtain ⟨u13,h7,f_u13⟩:∃ u,R 7=u/\Rep eStr A w u (gtD y10 y9):=⟨_,Z,p 4 _ _ Z Z Z⟩
 replace q:=q.fr m
 replace d:=d.fr m.size
 replace j:=j.tr (m.ch noB) fun _ h=>False.elim h
 refine zPQ ?_
 obtain ⟨x14,q15,c⟩:=zA9 c
 refine zPT (eR v1::eR u13::eB x14::eB (!x14)::[]) ?_ ?_
 exact om h1<|om h7<|op (fun Q U W H D=>by have ra1:=(f_u13.fr W).eq (D.g 1 Z);exact zIF (D.g 0 Z) (f_v1 _ _ (q15 Z) _ _ (j.tr (W.ch noB) fun _ h=>False.elim h) (hA00.fr (Nat.le_trans j.size W.size)) (ra1.less B)))<|op (fun Q U W H D=>zBY (D.g 0 Z))<|oz
 intro R w m n p
 obtain ⟨h0,h1,h5,h6,h7⟩:=k5 n h0 h1 h5 h6 h7
 have h29:=p.r 3 Z
 replace f_u13:=f_u13.fr m
 replace q:=q.fr m
 replace d:=d.fr m.size
 replace j:=j.tr (m.ch noB) fun _ h=>False.elim h
 refine zPJ (!x14) h29 (fun c16=>?_) (fun c16=>?_)
 have c:=zAe c16 c
 obtain ⟨e17,c⟩:=zAG c
 refine zPS [ob v0 (.vec B0 9 eStr y10)] (rR v0::rI y8::rR u13::rR (vptr v0 (y8.toNat*1))::⟨_,true,[0],some (.vec B0 9 eStr (y10.set y8.toNat (gtD y10 y9))),false,fun A=>.any⟩::[]) (ur (ur (ur (ur (ua (UAll.nil)))))) q d ?_ ?_
 exact rm h0<|rm h5<|rm h7<|rp (fun V Q U O D=>zAr (q.ok 0 _ Z).1 (D.g 0 Z) (D.g 1 Z) underlying28 sizeOf9 e17 Z)<|rc (OblR.took 0 _ _ Z Z Z Z Z fun V Q U O D u X Y J L M=>by have a0:Q 33=(vptr v0 (y8.toNat*1)):=D.g 0 Z;have a1:Q 32=u13:=D.g 1 Z;have ra1:=(f_u13.stp O.stp).eq a1;obtain rfl:=J _ Z;exact zH8 ra1 X Y a0 e17 Z (FldS.id _) sizeOf9 Z)<|rz
 intro done ρ σ A R w y s
 obtain ⟨h0,h1,h5,h6⟩:=k4 s.rg h0 h1 h5 h6
 have z18:=s.inivR 0 Z
 have z19:=s.on y 5 4 Z Z Z Z Z z18
 replace B:=s.lowK B C K (q.geK (⟨.inr (fun k h=>.inr h),N⟩))
 replace j:Ch (zAE v0) w0 w:=j.tr s.ch (q.geK (⟨.inr (fun k h=>.inr h),N⟩))
 replace q:=s.left y [(5,ob v0 (.vec B0 9 eStr (y10.set y8.toNat (gtD y10 y9))))] ⟨Z,Z,z19,Z,Z,N⟩
 replace d:=s.avok
 obtain ⟨e20,c⟩:=zAG c
 refine zPT (eI y8::eI (y8+1)::eI (y8+1)::[]) ?_ ?_
 exact om h5<|op (fun Q U W H D=>zAi (D.g 0 Z) Z e20)<|oa<|oz
 intro R w m n p
 obtain ⟨h0,h1,h6⟩:=k3 n h0 h1 h6
 have h5:=p.r 2 Z
 replace q:=q.fr m
 replace d:=d.fr m.size
 replace j:=j.tr (m.ch noB) fun _ h=>False.elim h
 obtain ⟨e21,c⟩:=zAG c
 refine zPT (eI y9::eI (y9+1)::eI (y9+1)::[]) ?_ ?_
 exact om h6<|op (fun Q U W H D=>zAi (D.g 0 Z) Z e21)<|oa<|oz
 intro R w m n p
 obtain ⟨h0,h1,h5⟩:=k3 n h0 h1 h5
 have h6:=p.r 2 Z
 replace q:=q.fr m
 replace d:=d.fr m.size
 replace j:=j.tr (m.ch noB) fun _ h=>False.elim h
 exact ei k (And.intro (Nat.lt_succ_self k) ⟨_,_,_,_,c,d,j,B,q,h0,h1,h5,h6⟩)
 have c:=zAd c16 c
 refine HT.skip ?_
 obtain ⟨e22,c⟩:=zAG c
 refine zPT (eI y9::eI (y9+1)::eI (y9+1)::[]) ?_ ?_
 exact om h6<|op (fun Q U W H D=>zAi (D.g 0 Z) Z e22)<|oa<|oz
 intro R w m n p
 obtain ⟨h0,h1,h5⟩:=k3 n h0 h1 h5
 have h6:=p.r 2 Z
 replace q:=q.fr m
 replace d:=d.fr m.size
 replace j:=j.tr (m.ch noB) fun _ h=>False.elim h
 exact ei k (And.intro (Nat.lt_succ_self k) ⟨_,_,_,_,c,d,j,B,q,h0,h1,h5,h6⟩)
 have c:=zAd c11 c
 refine zPO ?_
 obtain rfl:=si c
 exact ei _ ⟨_,Z,d,j,B,q,h0,h5⟩
 rintro R w ⟨A,s7,es,d,j,B,q,h0,h5⟩
 obtain rfl:=es.symm
 refine zPQ ?_
 obtain ⟨e23,c⟩:=zAG c
 obtain ⟨x24,q25,c⟩:=zAO c
 obtain ⟨e26,e27,c⟩:=ck2 c
 refine zPV [ob v0 (.vec B0 9 eStr s7.2)] (rR v0::rI s7.1::rR (vsub v0 s7.1.toNat x24 1)::⟨_,true,[0],some (.vec B0 9 eStr (s7.2.take s7.1.toNat++List.replicate (s7.2.length-s7.1.toNat) ([]:List UInt8))),false,fun A=>.any⟩::[]) (ur (ur (ur (ua (UAll.nil))))) q d ?_ ?_
 exact rm h0<|rm h5<|rp (fun V Q U O D=>(q25 ▸ zIe (q.ok 0 _ Z).1 (D.g 0 Z) (D.g 1 Z) underlying28 sizeOf9 e23))<|rc (OblR.took 0 _ _ Z Z Z Z Z fun V Q U O D u X Y J L M=>by have a0:Q 38=(vsub v0 s7.1.toNat x24 1):=D.g 0 Z;obtain rfl:=J _ Z;exact zJI a0 X Y underlying28 Z zeroValue9 (fun A w=>(zII Z (by decide))) e26 e27 Z)<|rz
 intro done ρ σ A R w y s
 obtain ⟨h0,h5⟩:=k2 s.rg h0 h5
 have z28:=s.inivR 0 Z
 have z29:=s.on y 4 3 Z Z Z Z Z z28
 replace B:=s.lowK B C K (q.geK (⟨.inr (fun k h=>.inr h),N⟩))
 replace j:Ch (zAE v0) w0 w:=j.tr s.ch (q.geK (⟨.inr (fun k h=>.inr h),N⟩))
 replace q:=s.left y [(4,ob v0 (.vec B0 9 eStr (s7.2.take s7.1.toNat++List.replicate (s7.2.length-s7.1.toNat) ([]:List UInt8))))] ⟨Z,Z,z29,Z,Z,N⟩
 replace d:=s.avok
 obtain ⟨e30,c⟩:=zAG c
 refine zPS [ob v0 (.vec B0 9 eStr (s7.2.take s7.1.toNat++List.replicate (s7.2.length-s7.1.toNat) ([]:List UInt8)))] (rR v0::rI s7.1::⟨_,true,[0],some (.vec B0 9 eStr (subL (s7.2.take s7.1.toNat++List.replicate (s7.2.length-s7.1.toNat) ([]:List UInt8)) 0 s7.1)),true,fun A=>.any⟩::⟨_,true,[3],some (.vec B0 9 eStr (subL (s7.2.take s7.1.toNat++List.replicate (s7.2.length-s7.1.toNat) ([]:List UInt8)) 0 s7.1)),true,fun A=>.any⟩::[]) (ur (ur (ua (ua (UAll.nil))))) q d ?_ ?_
 exact rm h0<|rm h5<|rc (OblR.took 0 _ _ Z Z Z Z Z fun V Q U O D u X Y J L M=>by have a0:Q 39=v0:=D.g 0 Z;have a1:Q 40=.int .i64 s7.1:=D.g 1 Z;exact zH3 (a0.trans (J _ Z).symm) X Y a1 underlying28 sizeOf9 e30 Z)<|rc (OblR.took 3 _ _ Z Z Z Z Z fun V Q U O D u X Y J L M=>by exact zAP (L _ _ Z Z Z Z).symm X Y)<|rz
 intro done ρ σ A R w y s
 obtain ⟨u31,e_u31⟩:∃ u,ρ 4=u:=⟨_,Z⟩
 have h4:=s.ov y 4 3 e_u31
 have hK_u31:∀ k,zAE u31 k->w0.heap.size<=k\/(zAE v0) k:=s.geK y 4 Z Z Z e_u31 (q.geK (⟨.inr (fun k h=>.inr h),N⟩)) j.size
 replace B:=s.lowK B C K (q.geK (⟨.inr (fun k h=>.inr h),N⟩))
 replace j:Ch (zAE v0) w0 w:=j.tr s.ch (q.geK (⟨.inr (fun k h=>.inr h),N⟩))
 replace q:=s.left y [(4,ob u31 (.vec B0 9 eStr (subL (s7.2.take s7.1.toNat++List.replicate (s7.2.length-s7.1.toNat) ([]:List UInt8)) 0 s7.1)))] ⟨Z,Z,e_u31,Z,Z,N⟩
 replace d:=s.avok
 refine HT.ret ?_
 obtain rfl:=si c
 exact ⟨.inr Z,[R 4],⟨Z,N⟩,by show Took _ true _ _ _ w0 (R 4) w;rw [h4];exact zFF (fun k h o=>.inr h) j (q.ok 0 _ Z).1 (q.own_ge (⟨.inr hK_u31,N⟩) (i:=0) Z) (fun _ _ _ _ _ h=>h)⟩
def zCO (fu:Nat) (p0:List (List UInt8)) (p1:List (List UInt8)):Option (List (List UInt8)):=
 cl true (zDX fu p0) fun x2=>
 cl true (zAz fu x2 (fun x=>zDF fu x p1)) fun x4=>
 some x4
theorem zG8 {fu : Nat} {A0 : Av} {p0 : List (List UInt8)} {p1 : List (List UInt8)} {r : List (List UInt8)} (c : zCO fu p0 p1 = some r) {w : World} {v0 : Value} {v1 : Value} (d : AvOK A0 w) (h0 : Rep (eSl eStr) A0 w v0 p0) (h1 : Rep (eSl eStr) A0 w v1 p1) :
 Calls prog 52 #[v0,v1] w fun e w'=>∃ v,e=.returned v/\((Res.vec w.heap.size 9 eStr r).ok (addA A0 v) v w'/\Fr w w'):=by
 unfold zCO at c
 obtain ⟨w0,hw0,j,C⟩:=pw d
 have hA00:AvOK A0 w0:=C
 rw [fh hw0]
 rw [fw hw0]
 obtain ⟨A,hAe,B,d,q⟩:=pa d
 refine zAB [.tmp 4] func52 ntmps52 (by decide) Z Z (nb Z) ?_
 intro R hR
 have f_v0:Rep (eSl eStr) A w v0 p0:=hAe ▸ h0
 replace h0:R 0=v0:=hR 0 _ Z
 have f_v1:Rep (eSl eStr) A w v1 p1:=hAe ▸ h1
 replace h1:R 1=v1:=hR 1 _ Z
 refine zPS [] (⟨_,true,[],some (.box w0.heap.size 28 (eSl eStr) p1),true,fun A=>.any⟩::rA::[]) (ua (ua (UAll.nil))) q d ?_ ?_
 exact rc (OblR.made _ Z Z Z Z fun V Q U O D=>by have a0:Q 1=v1:=(O.old 1 Z).trans h1;have ra0:=(f_v1.stp O.stp).eq a0;exact zD0 ra0 (Nat.le_trans j.size O.ch.size))<|rp (fun V Q U O D=>zA6 N)<|rz
 intro done ρ σ A R w y s
 replace h0:=k1 s.rg h0
 obtain ⟨b3_0,e_b3_0⟩:=s.boxv y 0 Z Z
 have h3:=s.ov y 0 0 e_b3_0
 replace f_v0:=f_v0.stp s.stp
 obtain ⟨B,j,d⟩:=s.s B C j q N
 replace q:=s.left y [(0,ob (.pointer (some ⟨b3_0,0,none⟩)) (.box w0.heap.size 28 (eSl eStr) p1))] ⟨Z,Z,e_b3_0,Z,Z,N⟩
 obtain ⟨x2,q3,c⟩:=zA9 c
 obtain ⟨x4,q5,c⟩:=zA9 c
 refine zPS [ob (.pointer (some ⟨b3_0,0,none⟩)) (.box w0.heap.size 28 (eSl eStr) p1)] (rR v0::⟨_,true,[],some (.vec w0.heap.size 9 eStr x2),true,fun A=>.any⟩::rR (.func (.func 79) #[] #[(.pointer (some ⟨b3_0,0,none⟩))])::⟨_,true,[2],some (.vec w0.heap.size 9 eStr x4),true,fun A=>.any⟩::⟨_,true,[4],some (.vec w0.heap.size 9 eStr x4),true,fun A=>.any⟩::[]) (ur (ua (ur (ua (ua (UAll.nil)))))) q d ?_ ?_
 exact rm h0<|rc (OblR.made _ Z Z Z Z fun V Q U O D=>by have a0:Q 5=v0:=D.g 0 Z;have ra0:=(f_v0.stp O.stp).eq a0;exact zEy call78 (zHB (q3 Z) O.av ra0) (Nat.le_trans j.size O.ch.size))<|rp (fun V Q U O D=>zIP (c:=[(.pointer (some ⟨b3_0,0,none⟩))]) (by simp only [List.map,zAL];rw [((O.old 3 Z).trans h3)]))<|rc (OblR.took 2 _ _ Z Z Z Z Z fun V Q U O D u X Y J L M=>by have a1:Q 7=(.func (.func 79) #[] #[(.pointer (some ⟨b3_0,0,none⟩))]):=D.g 1 Z;have hu0:zAL Q (.tmp 6)=u:=(L _ _ Z Z Z Z).symm;exact zEg call77 Y (by simp only [List.map,hu0];exact zE3 (q5 Z) (O.av.sub _) (fun b o h=>h.2) (Vec.flat X (fun _ _ _ _ _ h=>h)) (zOJ [(.pointer (some ⟨b3_0,0,none⟩))] a1 call79 (fun x r hr' w'' a p hA' ha=>zFY hr' hA' ha (zKX (O.rd 0 _ Z Z) p Y fun h=>M 0 _ Z (by decide) Z _ h Z)))))<|rc (OblR.took 4 _ _ Z Z Z Z Z fun V Q U O D u X Y J L M=>by exact zAP (L _ _ Z Z Z Z).symm X Y)<|rz
 intro done ρ σ A R w y s
 have z6:=s.inivR 0 Z
 obtain ⟨u7,e_u7⟩:∃ u,ρ 5=u:=⟨_,Z⟩
 have h4:=s.ov y 5 4 e_u7
 obtain ⟨B,j,d⟩:=s.s B C j q ⟨Z,N⟩
 replace q:=s.left y [(5,ob u7 (.vec w0.heap.size 9 eStr x4))] ⟨Z,Z,e_u7,Z,Z,N⟩
 refine HT.ret ?_
 obtain rfl:=si c
 exact ⟨.inr Z,[R 4],⟨Z,N⟩,(zBk (q.ok 0 _ Z) B h4),j⟩
theorem zFq {fu : Nat} {A0 : Av} {p0 : List (List UInt8)} {p1 : List (List UInt8)} {r : List (List UInt8)} (c : zCO fu p0 p1 = some r) {w : World} {v0 : Value} {v1 : Value} (d : AvOK A0 w) (h0 : Rep (eSl eStr) A0 w v0 p0) (h1 : Rep (eSl eStr) A0 w v1 p1) :
 Calls prog 52 #[v0,v1] w fun e w'=>∃ v,e=.returned v/\(Rep (eSl eStr) A0 w' v r/\Fr w w'):=by
 refine Calls.mono (zG8 c d h0 h1) ?_
 rintro e w' ⟨v,he,hv,hf⟩
 exact ⟨v,he,zDt hv (fun b o h=>.inl h) d,hf⟩
def zDD (fu:Nat) (p0:List zA3) (p1:List (List UInt8)) (p2:List (List UInt8)) (p3:Int):Option Bool:=
 cl true (zBy fu p0 p1 p3) fun x1=>
 cl true (zBy fu p0 p2 p3) fun x3=>
 cl true (zCO fu x1 x3) fun x5=>
 some (decide (0<(x5.length:Int)))
theorem zGP {fu : Nat} {A : Av} {p0 : List zA3} {p1 : List (List UInt8)} {p2 : List (List UInt8)} {p3 : Int} {r : Bool} (c : zDD fu p0 p1 p2 p3 = some r) {w : World} {v0 : Value} {v1 : Value} {v2 : Value} {v3 : Value} (d : AvOK A w) (h0 : Rep (eSl zA0) A w v0 p0) (h1 : Rep (eSl eStr) A w v1 p1) (h2 : Rep (eSl eStr) A w v2 p2) (h3 : v3=.int .i64 p3) :
 Calls prog 26 #[v0,v1,v2,v3] w fun e w'=>∃ v,e=.returned v/\(v=.bool r/\Fr w w'):=by
 unfold zDD at c
 obtain ⟨w0,hw0,j⟩:=pf w
 rw [fw hw0]
 refine zAB [.tmp 8] func26 ntmps26 (by decide) Z Z (nb Z) ?_
 intro R hR
 have f_v0:=h0
 replace h0:R 0=v0:=hR 0 _ Z
 have f_v1:=h1
 replace h1:R 1=v1:=hR 1 _ Z
 have f_v2:=h2
 replace h2:R 2=v2:=hR 2 _ Z
 replace h3:R 3=.int .i64 p3:=(hR 3 _ Z).trans h3
 refine zPR d j (eB false::[]) ?_ ?_
 exact op (fun Q U W H D=>zA6 Z)<|oz
 intro R w m n p d j
 obtain ⟨h0,h1,h2,h3⟩:=k4 n h0 h1 h2 h3
 replace f_v0:=f_v0.fr m
 replace f_v1:=f_v1.fr m
 replace f_v2:=f_v2.fr m
 obtain ⟨x1,q2,c⟩:=zA9 c
 obtain ⟨x3,q4,c⟩:=zA9 c
 obtain ⟨x5,q6,c⟩:=zA9 c
 refine zPR d j (eR v0::eR v1::eI p3::eF (.rep (eSl eStr) A x1)::eR v0::eR v2::eI p3::eF (.rep (eSl eStr) A x3)::eF (.rep (eSl eStr) A x5)::eI (x5.length:Int)::eB (decide (0<(x5.length:Int)))::eB (decide (0<(x5.length:Int)))::[]) ?_ ?_
 exact om h0<|om h1<|om h3<|op (fun Q U W H D=>zAM call53 (zEP (q2 Z) (d.fr W.size) ((f_v0.fr W).eq (D.g 0 Z)) ((f_v1.fr W).eq (D.g 1 Z)) (D.g 2 Z)))<|om h0<|om h2<|om h3<|op (fun Q U W H D=>zAM call53 (zEP (q4 Z) (d.fr W.size) ((f_v0.fr W).eq (D.g 0 Z)) ((f_v2.fr W).eq (D.g 1 Z)) (D.g 2 Z)))<|op (fun Q U W H D=>zAM call52 (zFq (q6 Z) (d.fr W.size) (D.g 0 Z) (D.g 1 Z)))<|op (fun Q U W H D=>zAN (aT:=#[]) (D.g 0 Z) underlying28)<|op (fun Q U W H D=>zEH (D.g 0 Z) Z)<|oa<|oz
 intro R w m n p d j
 have h8:=p.r 11 Z
 refine HT.ret ?_
 obtain rfl:=si c
 exact ⟨.inr Z,[R 8],⟨Z,N⟩,h8,j⟩
def zB5 (fu : Nat) (p0 : zA7) (p1 : List (List UInt8)) (x14 : Int × Int) : Nat -> Int -> (List Int) -> Option (List Int)
 | 0,_,_=>none
 | k+1,y21,y22=>
 bif (decide (y21<(p0.2.2.length:Int))) then (
 ck (inR y21 p0.2.2.length) <|
 bd (((p1.length:Int)==0)&&((((gtD p0.2.2 y21).2).length:Int)==0)) fun x29=>
 cl (true&&(x29==false)) (zDH fu (((gtD p0.2.2 y21).2).length:Int) x14.1 x14.2) fun x31=>
 cl ((true&&(x29==false))&&(x31==true)) (zDD fu p0.2.1 ((gtD p0.2.2 y21).2) p1 p0.1) fun x33=>
 bd (x31&&x33) fun x35=>
 bd (x29 || x35) fun x37=>
 bif x37 then (
 ck (zD4 (y22.length+([(gtD p0.2.2 y21).1]:List Int).length)) <|
 ck (i64B (y21+1)) <|
 zB5 fu p0 p1 x14 k (y21+1) (y22++([(gtD p0.2.2 y21).1]:List Int))
 ) else (
 ck (i64B (y21+1)) <|
 zB5 fu p0 p1 x14 k (y21+1) y22
 )
 ) else (
 some y22
 )
def zCD (fu:Nat) (p0:zA7) (p1:List (List UInt8)):Option (List Int):=
 cl true (zAh fu p0) fun x2=>
 cl (true&&((!x2)==false)) (zBP fu p1) fun x4=>
 bd ((!x2) || (!x4)) fun x6=>
 cl (true&&(x6==false)) (zCV fu (p1.length:Int)) fun x8=>
 bd (x6 || (!x8)) fun x10=>
 bif x10 then (
 some ([]:List Int)
 ) else (
 cl true (zCR fu (p1.length:Int) p0.1) fun x14=>
 cl true (zB5 fu p0 p1 x14 fu 0 ([]:List Int)) fun s20=>
 some s20
 )
theorem zFn {fu : Nat} {A0 : Av} {p0 : zA7} {p1 : List (List UInt8)} {r : List Int} (c : zCD fu p0 p1 = some r) {w : World} {v0 : Value} {v1 : Value} (d : AvOK A0 w) (h0 : Rep zA2 A0 w v0 p0) (h1 : Rep (eSl eStr) A0 w v1 p1) :
 Calls prog 6 #[v0,v1] w fun e w'=>∃ v,e=.returned v/\((Res.vec w.heap.size 3 (eInt .i64) r).ok (addA A0 v) v w'/\Fr w w'):=by
 unfold zCD at c
 obtain ⟨w0,hw0,j,C⟩:=pw d
 have hA00:AvOK A0 w0:=C
 rw [fh hw0]
 rw [fw hw0]
 obtain ⟨A,hAe,B,d,q⟩:=pa d
 refine zAB [.tmp 4] func6 ntmps6 (by decide) Z Z (nb Z) ?_
 intro R hR
 have f_v0:Rep zA2 A w v0 p0:=hAe ▸ h0
 replace h0:R 0=v0:=hR 0 _ Z
 have f_v1:Rep (eSl eStr) A w v1 p1:=hAe ▸ h1
 replace h1:R 1=v1:=hR 1 _ Z
 refine zPS [] (⟨_,true,[],some (.box w0.heap.size 27 zA2 p0),true,fun A=>.any⟩::rA::[]) (ua (ua (UAll.nil))) q d ?_ ?_
 exact rc (OblR.made _ Z Z Z Z fun V Q U O D=>by have a0:Q 0=v0:=(O.old 0 Z).trans h0;have ra0:=(f_v0.stp O.stp).eq a0;exact zD0 ra0 (Nat.le_trans j.size O.ch.size))<|rp (fun V Q U O D=>zA6 N)<|rz
 intro done ρ σ A R w y s
 replace h1:=k1 s.rg h1
 obtain ⟨b2_0,e_b2_0⟩:=s.boxv y 0 Z Z
 have h2:=s.ov y 0 0 e_b2_0
 replace f_v1:=f_v1.stp s.stp
 obtain ⟨B,j,d⟩:=s.s B C j q N
 replace q:=s.left y [(0,ob (.pointer (some ⟨b2_0,0,none⟩)) (.box w0.heap.size 27 zA2 p0))] ⟨Z,Z,e_b2_0,Z,Z,N⟩
 refine zPQ ?_
 refine zPQ ?_
 obtain ⟨x2,q3,c⟩:=zA9 c
 obtain ⟨x4,q5,c⟩:=zA9 c
 obtain ⟨x6,q7,c⟩:=zAO c
 obtain ⟨x8,q9,c⟩:=zA9 c
 obtain ⟨x10,q11,c⟩:=zAO c
 refine HT.u d j (eF (.rep zA2 A p0)::eB x2::eB (!x2)::eB (!x2)::gR (true&&((!x2)==false)) v1::gB (true&&((!x2)==false)) x4::gB (true&&((!x2)==false)) (!x4)::eB x6::eB x6::gR (true&&(x6==false)) v1::gI (true&&(x6==false)) (p1.length:Int)::gB (true&&(x6==false)) x8::gB (true&&(x6==false)) (!x8)::eB x10::[]) ?_ ?_
 exact op (fun Q U W H D=>(zAA ((q.fr W).ok 0 _ Z).1 ((H 2 Z).trans h2) (Fld.id _) Z isAgg27 sizeOf27))<|op (fun Q U W H D=>zAM call18 (zBR (q3 Z) (d.fr W.size) (D.g 0 Z)))<|op (fun Q U W H D=>zBY (D.g 0 Z))<|ov<|gm 3 false h1<|og 3 false (fun G Q U W H D=>zAM call22 (zCH (q5 G) (d.fr W.size) ((f_v1.fr W).eq (D.h 0 G Z))))<|og 3 false (fun G Q U W H D=>zBY (D.h 0 G Z))<|op (fun Q U W H D=>zAR (!x2) (D.g 0 Z) (fun hc=>by show _=Value.bool x6;rw [q7,hc];exact Z) (fun hc=>by have a2:Q 17=.bool (!x4):=D 1 _ _ _ Z Z Z Z (zBJ Z (zAf hc));show _=Value.bool x6;rw [q7,hc];exact a2))<|ov<|gm 8 false h1<|og 8 false (fun G Q U W H D=>zAN (aT:=#[]) ((f_v1.fr W).eq (D.h 0 G Z)) underlying28)<|og 8 false (fun G Q U W H D=>zAM call23 (zE7 (q9 G) (d.fr W.size) (D.h 0 G Z)))<|og 8 false (fun G Q U W H D=>zBY (D.h 0 G Z))<|op (fun Q U W H D=>zAR x6 (D.g 0 Z) (fun hc=>by show _=Value.bool x10;rw [q11,hc];exact Z) (fun hc=>by have a2:Q 23=.bool (!x8):=D 1 _ _ _ Z Z Z Z (zBJ Z (zAf hc));show _=Value.bool x10;rw [q11,hc];exact a2))<|oz
 intro R w m n p d j
 obtain ⟨h1,h2⟩:=k2 n h1 h2
 have h24:=p.r 13 Z
 replace f_v1:=f_v1.fr m
 replace q:=q.fr m
 refine zPJ x10 h24 (fun c12=>?_) (fun c12=>?_)
 have c:=zAe c12 c
 refine zPR d j (eR (.slice none 0 0)::[]) ?_ ?_
 exact op (fun Q U W H D=>zA6 Z)<|oz
 intro R w m n p d j
 obtain ⟨u13,n_u13⟩:∃ u,u=Value.slice none 0 0:=⟨_,Z⟩
 have h4:R 4=u13:=(p 0 _ _ Z Z Z).trans n_u13.symm
 replace q:=q.fr m
 replace q:IniOK [] A w:=q.sub [] N
 replace q:=q.nilcons (u:=u13) n_u13 w0.heap.size 3 (eInt .i64)
 refine HT.ret ?_
 obtain rfl:=si c
 exact ⟨.inr Z,[R 4],⟨Z,N⟩,(zBk (q.ok 0 _ Z) B h4),j⟩
 have c:=zAd c12 c
 refine HT.skip ?_
 obtain ⟨x14,q15,c⟩:=zA9 c
 refine zPR d j (eR v1::eI (p1.length:Int)::eR (.pointer (some ⟨b2_0,0,none⟩))::eI p0.1::eF (.tup2 (.raw (.int .i64 x14.1)) (.raw (.int .i64 x14.2)))::eF (.tup2 (.raw (.int .i64 x14.1)) (.raw (.int .i64 x14.2)))::eI x14.1::eI x14.2::eI x14.1::eI x14.2::[]) ?_ ?_
 exact om h1<|op (fun Q U W H D=>zAN (aT:=#[]) ((f_v1.fr W).eq (D.g 0 Z)) underlying28)<|op (fun Q U W H D=>zA8 ((H 2 Z).trans h2) zF0 sizeOf3 (by decide) Z)<|op (fun Q U W H D=>OpF.int (zAA ((q.fr W).ok 0 _ Z).1 (D.g 0 Z) zB4 Z isAgg3 sizeOf3))<|op (fun Q U W H D=>zAM call24 (zEd (q15 Z) (d.fr W.size) (D.g 0 Z) (D.g 1 Z)))<|op (fun Q U W H D=>zBI (D.g 0 Z))<|op (fun Q U W H D=>zBv (D.g 0 Z))<|op (fun Q U W H D=>zBj (D.g 0 Z))<|oa<|oa<|oz
 intro R w m n p d j
 obtain ⟨h1,h2⟩:=k2 n h1 h2
 have h5:=p.r 8 Z
 have h6:=p.r 9 Z
 replace f_v1:=f_v1.fr m
 replace q:=q.fr m
 refine zPR d j (eR (.slice none 0 0)::[]) ?_ ?_
 exact op (fun Q U W H D=>zA6 Z)<|oz
 intro R w m n p d j
 obtain ⟨h1,h2,h5,h6⟩:=k4 n h1 h2 h5 h6
 obtain ⟨u16,n_u16⟩:∃ u,u=Value.slice none 0 0:=⟨_,Z⟩
 have h7:R 7=u16:=(p 0 _ _ Z Z Z).trans n_u16.symm
 replace f_v1:=f_v1.fr m
 replace q:=q.fr m
 replace q:=q.nilcons (u:=u16) n_u16 w0.heap.size 3 (eInt .i64)
 refine zPQ ?_
 refine zPR d j (eR (.pointer (some ⟨b2_0,2,none⟩))::eF (.rep (eSl zA1) A p0.2.2)::eI (p0.2.2.length:Int)::eI 0::[]) ?_ ?_
 exact op (fun Q U W H D=>zA8 ((H 2 Z).trans h2) zAv sizeOf25 (by decide) Z)<|op (fun Q U W H D=>(zAA ((q.fr W).ok 1 _ Z).1 (D.g 0 Z) zAJ Z isAgg25 sizeOf25))<|op (fun Q U W H D=>zAN (aT:=#[]) (D.g 0 Z) underlying25)<|op (fun Q U W H D=>zBI Z)<|oz
 intro R w m n p d j
 obtain ⟨h1,h2,h5,h6,h7⟩:=k5 n h1 h2 h5 h6 h7
 obtain ⟨u17,h34,f_u17⟩:∃ u,R 34=u/\Rep (eSl zA1) A w u p0.2.2:=⟨_,Z,p 1 _ _ Z Z Z⟩
 have h35:=p.r 2 Z
 have h36:=p.r 3 Z
 replace f_v1:=f_v1.fr m
 replace q:=q.fr m
 obtain ⟨rl18,q19,c⟩:=zA9 c
 replace q19:=q19 Z
 refine zPL (fun R w=>∃ A:Av,∃ (s20:(List Int)) (uo_u16:Value),rl18=s20/\AvOK A w/\Fr w0 w/\(∀ b o,A0 b o->A b o)/\IniOK [ob uo_u16 (.vec w0.heap.size 3 (eInt .i64) s20)] A w/\R 7=uo_u16) ?_ ?_
 refine HT.block<|zPP (fun k R w=>∃ A:Av,∃ (y21:Int) (y22:List Int) (ul_u16:Value),zB5 fu p0 p1 x14 k y21 y22=some rl18/\AvOK A w/\Fr w0 w/\(∀ b o,A0 b o->A b o)/\IniOK [ob ul_u16 (.vec w0.heap.size 3 (eInt .i64) y22),ob (.pointer (some ⟨b2_0,0,none⟩)) (.box w0.heap.size 27 zA2 p0)] A w/\R 1=v1/\R 2=(.pointer (some ⟨b2_0,0,none⟩))/\R 5=.int .i64 x14.1/\R 6=.int .i64 x14.2/\R 7=ul_u16/\R 34=u17/\R 35=.int .i64 (p0.2.2.length:Int)/\R 36=.int .i64 y21/\Rep (eSl zA1) A w u17 p0.2.2/\Rep (eSl eStr) A w v1 p1) fu ⟨_,_,_,u16,q19,d,j,B,q,h1,h2,h5,h6,h7,h34,h35,h36,f_u17,f_v1⟩ ?_
 have hr0:=c;clear c q19
 rintro k R w ⟨A,y21,y22,ul_u16,c,d,j,B,q,h1,h2,h5,h6,h7,h34,h35,h36,f_u17,f_v1⟩
 rcases k with _ | k
 cases (show none=some _ from c)
 rw [zB5] at c
 refine zPR d j (eB (decide (y21<(p0.2.2.length:Int)))::[]) ?_ ?_
 exact op (fun Q U W H D=>zB8 ((H 36 Z).trans h36) ((H 35 Z).trans h35))<|oz
 intro R w m n p d j
 obtain ⟨h1,h2,h5,h6,h7,h34⟩:=k6 n h1 h2 h5 h6 h7 h34
 obtain ⟨h35,h36⟩:=k2 n h35 h36
 have h37:=p.r 0 Z
 replace f_u17:=f_u17.fr m
 replace f_v1:=f_v1.fr m
 replace q:=q.fr m
 refine zPQ ?_
 refine zPJ (decide (y21<(p0.2.2.length:Int))) h37 (fun c23=>?_) (fun c23=>?_)
 have c:=zAe c23 c
 refine HT.skip<|zPQ ?_
 refine HT.block ?_
 obtain ⟨e24,c⟩:=zAG c
 refine zPS [ob ul_u16 (.vec w0.heap.size 3 (eInt .i64) y22),ob (.pointer (some ⟨b2_0,0,none⟩)) (.box w0.heap.size 27 zA2 p0)] ((rF fun A=>.qtr zA1 A (gtD p0.2.2 y21))::(rF fun A=>.rep zA1 A (gtD p0.2.2 y21))::⟨_,true,[],some (.box w0.heap.size 54 zA1 (0,([]:List (List UInt8)))),true,fun A=>.any⟩::⟨_,true,[4],some (.box w0.heap.size 54 zA1 (gtD p0.2.2 y21)),false,fun A=>.any⟩::[]) (UAll.cons zCM (up (ua (ua (UAll.nil))))) q d ?_ ?_
 exact rp (fun V Q U O D=>zAC ((f_u17.stp O.stp).eq ((O.old 34 Z).trans h34)) ((O.old 36 Z).trans h36) underlying25 sizeOf54 e24)<|rp (fun V Q U O D=>(zAT (QRep.ptr (D.g 0 Z)) isAgg54 sizeOf54))<|rc (OblR.made _ Z Z Z Z fun V Q U O D=>by exact zCI zeroValue54 (fun A w=>zCo zAm zBD) (Nat.le_trans j.size O.ch.size))<|rc (OblR.took 4 _ _ Z Z Z Z Z fun V Q U O D u X Y J L M=>by have a1:Rep zA1 V U (Q 39) (gtD p0.2.2 y21):=D.g 1 Z;obtain ⟨b,hb,hB',hbx⟩:=X;have hop':=L _ _ Z Z Z Z;exact zBX a1 (hop'.symm.trans hb) hb ⟨b,hb,hB',hbx⟩ Y (FldS.id _) sizeOf54 Z)<|rz
 intro done ρ σ A R w y s
 obtain ⟨h1,h2,h5,h6,h7,h34⟩:=k6 s.rg h1 h2 h5 h6 h7 h34
 obtain ⟨h35,h36⟩:=k2 s.rg h35 h36
 have z25:=s.inivR 0 Z
 have z26:=s.inivR 1 Z
 obtain ⟨b9_26,e_b9_26⟩:=s.boxv y 5 Z Z
 have z28:=(s.opnR y 5 3 Z Z Z Z Z).symm.trans e_b9_26
 have h9:=s.ov y 4 2 z28
 replace f_u17:=f_u17.stp s.stp
 replace f_v1:=f_v1.stp s.stp
 obtain ⟨B,j,d⟩:=s.s B C j q ⟨Z,⟨Z,N⟩⟩
 replace q:=s.left y [(0,ob ul_u16 (.vec w0.heap.size 3 (eInt .i64) y22)),(1,ob (.pointer (some ⟨b2_0,0,none⟩)) (.box w0.heap.size 27 zA2 p0)),(5,ob (.pointer (some ⟨b9_26,0,none⟩)) (.box w0.heap.size 54 zA1 (gtD p0.2.2 y21)))] ⟨Z,Z,z25,Z,Z,⟨Z,Z,z26,Z,Z,⟨Z,Z,e_b9_26,Z,Z,N⟩⟩⟩
 refine zPQ ?_
 obtain ⟨x29,q30,c⟩:=zAO c
 refine HT.u d j (eR v1::eI (p1.length:Int)::eB ((p1.length:Int)==0)::eB ((p1.length:Int)==0)::gR (true&&(((p1.length:Int)==0)==true)) (.pointer (some ⟨b9_26,1,none⟩))::gF (true&&(((p1.length:Int)==0)==true)) (.rep (eSl eStr) A ((gtD p0.2.2 y21).2))::gI (true&&(((p1.length:Int)==0)==true)) (((gtD p0.2.2 y21).2).length:Int)::gB (true&&(((p1.length:Int)==0)==true)) ((((gtD p0.2.2 y21).2).length:Int)==0)::eB x29::eB x29::[]) ?_ ?_
 exact om h1<|op (fun Q U W H D=>zAN (aT:=#[]) ((f_v1.fr W).eq (D.g 0 Z)) underlying28)<|op (fun Q U W H D=>zEt (D.g 0 Z) Z)<|ov<|og 3 true (fun G Q U W H D=>zA8 ((H 9 Z).trans h9) zEi sizeOf28 (by decide) Z)<|og 3 true (fun G Q U W H D=>(zAA ((q.fr W).ok 2 _ Z).1 (D.h 0 G Z) zAg Z isAgg28 sizeOf28))<|og 3 true (fun G Q U W H D=>zAN (aT:=#[]) (D.h 0 G Z) underlying28)<|og 3 true (fun G Q U W H D=>zEt (D.h 0 G Z) Z)<|op (fun Q U W H D=>zAR ((p1.length:Int)==0) (D.g 0 Z) (fun hc=>by have a1:Q 47=.bool ((((gtD p0.2.2 y21).2).length:Int)==0):=D 1 _ _ _ Z Z Z Z (zBJ Z (zAf hc));show _=Value.bool x29;rw [q30,hc];exact a1) (fun hc=>by show _=Value.bool x29;rw [q30,hc];exact Z))<|oa<|oz
 intro R w m n p d j
 obtain ⟨h1,h2,h5,h6,h7,h9⟩:=k6 n h1 h2 h5 h6 h7 h9
 obtain ⟨h34,h35,h36⟩:=k3 n h34 h35 h36
 have h10:=p.r 9 Z
 replace f_u17:=f_u17.fr m
 replace f_v1:=f_v1.fr m
 replace q:=q.fr m
 refine zPQ ?_
 obtain ⟨x31,q32,c⟩:=zA9 c
 obtain ⟨x33,q34,c⟩:=zA9 c
 obtain ⟨x35,q36,c⟩:=zAO c
 obtain ⟨x37,q38,c⟩:=zAO c
 refine HT.u d j (eB x29::eB x29::gR (true&&(x29==false)) (.pointer (some ⟨b9_26,1,none⟩))::gF (true&&(x29==false)) (.rep (eSl eStr) A ((gtD p0.2.2 y21).2))::gI (true&&(x29==false)) (((gtD p0.2.2 y21).2).length:Int)::gI (true&&(x29==false)) x14.1::gI (true&&(x29==false)) x14.2::gB (true&&(x29==false)) x31::gB (true&&(x29==false)) x31::gR ((true&&(x29==false))&&(x31==true)) (.pointer (some ⟨b2_0,1,none⟩))::gF ((true&&(x29==false))&&(x31==true)) (.rep (eSl zA0) A p0.2.1)::gR ((true&&(x29==false))&&(x31==true)) (.pointer (some ⟨b9_26,1,none⟩))::gF ((true&&(x29==false))&&(x31==true)) (.rep (eSl eStr) A ((gtD p0.2.2 y21).2))::gR ((true&&(x29==false))&&(x31==true)) v1::gR ((true&&(x29==false))&&(x31==true)) (.pointer (some ⟨b2_0,0,none⟩))::gI ((true&&(x29==false))&&(x31==true)) p0.1::gB ((true&&(x29==false))&&(x31==true)) x33::gB (true&&(x29==false)) x35::eB x37::[]) ?_ ?_
 exact om h10<|ov<|og 1 false (fun G Q U W H D=>zA8 ((H 9 Z).trans h9) zEi sizeOf28 (by decide) Z)<|og 1 false (fun G Q U W H D=>(zAA ((q.fr W).ok 2 _ Z).1 (D.h 0 G Z) zAg Z isAgg28 sizeOf28))<|og 1 false (fun G Q U W H D=>zAN (aT:=#[]) (D.h 0 G Z) underlying28)<|gm 1 false h5<|gm 1 false h6<|og 1 false (fun G Q U W H D=>zAM call25 (zE5 (q32 G) (d.fr W.size) (D.h 0 G Z) (D.h 1 G Z) (D.h 2 G Z)))<|og 1 false (fun G Q U W H D=>zBI (D.h 0 G Z))<|og 8 true (fun G Q U W H D=>zA8 ((H 2 Z).trans h2) zIR sizeOf24 (by decide) Z)<|og 8 true (fun G Q U W H D=>(zAA ((q.fr W).ok 1 _ Z).1 (D.h 0 G Z) zDI Z isAgg24 sizeOf24))<|og 8 true (fun G Q U W H D=>zA8 ((H 9 Z).trans h9) zEi sizeOf28 (by decide) Z)<|og 8 true (fun G Q U W H D=>(zAA ((q.fr W).ok 2 _ Z).1 (D.h 0 G Z) zAg Z isAgg28 sizeOf28))<|gm 8 true h1<|og 8 true (fun G Q U W H D=>zA8 ((H 2 Z).trans h2) zF0 sizeOf3 (by decide) Z)<|og 8 true (fun G Q U W H D=>OpF.int (zAA ((q.fr W).ok 1 _ Z).1 (D.h 0 G Z) zB4 Z isAgg3 sizeOf3))<|og 8 true (fun G Q U W H D=>zAM call26 (zGP (q34 G) (d.fr W.size) (D.h 0 G Z) (D.h 1 G Z) ((f_v1.fr W).eq (D.h 2 G Z)) (D.h 3 G Z)))<|og 1 false (fun G Q U W H D=>zAR x31 (D.h 0 G Z) (fun hc=>by have a1:Q 65=.bool x33:=D 1 _ _ _ Z Z Z Z (zBJ G (zAf hc));show _=Value.bool x35;rw [q36,hc];exact a1) (fun hc=>by show _=Value.bool x35;rw [q36,hc];exact Z))<|op (fun Q U W H D=>zAR x29 (D.g 0 Z) (fun hc=>by show _=Value.bool x37;rw [q38,hc];exact Z) (fun hc=>by have a2:Q 66=.bool x35:=D 1 _ _ _ Z Z Z Z (zBJ Z (zAf hc));show _=Value.bool x37;rw [q38,hc];exact a2))<|oz
 intro R w m n p d j
 obtain ⟨h1,h2,h5,h6,h7,h9⟩:=k6 n h1 h2 h5 h6 h7 h9
 obtain ⟨h34,h35,h36⟩:=k3 n h34 h35 h36
 have h67:=p.r 18 Z
 replace f_u17:=f_u17.fr m
 replace f_v1:=f_v1.fr m
 replace q:=q.fr m
 refine zPJ x37 h67 (fun c39=>?_) (fun c39=>?_)
 have c:=zAe c39 c
 obtain ⟨e40,c⟩:=zAG c
 refine zPV [ob ul_u16 (.vec w0.heap.size 3 (eInt .i64) y22),ob (.pointer (some ⟨b2_0,0,none⟩)) (.box w0.heap.size 27 zA2 p0),ob (.pointer (some ⟨b9_26,0,none⟩)) (.box w0.heap.size 54 zA1 (gtD p0.2.2 y21))] (rR ul_u16::rR (.pointer (some ⟨b9_26,0,none⟩))::rI ((gtD p0.2.2 y21).1)::(rF fun A=>.rep (eSl (eInt .i64)) A ([(gtD p0.2.2 y21).1]:List Int))::⟨_,true,[0],some (.vec w0.heap.size 3 (eInt .i64) (y22++([(gtD p0.2.2 y21).1]:List Int))),true,fun A=>.any⟩::⟨_,true,[7],some (.vec w0.heap.size 3 (eInt .i64) (y22++([(gtD p0.2.2 y21).1]:List Int))),true,fun A=>.any⟩::[]) (ur (ur (ur (up (ua (ua (UAll.nil))))))) q d ?_ ?_
 exact rm h7<|rp (fun V Q U O D=>zA8 ((O.old 9 Z).trans h9) zDc sizeOf3 (by decide) Z)<|rp (fun V Q U O D=>OpF.int (zAA (O.rd 2 _ Z Z) (D.g 0 Z) zAU Z isAgg3 sizeOf3))<|rp (fun V Q U O D=>zC7 [_] (E:=eInt .i64) ⟨(zBa.eq (D.g 0 Z)),N⟩ underlying31 sizeOf3 zeroValue3 Z Z Z O.av)<|rc (OblR.took 0 _ _ Z Z Z Z Z fun V Q U O D u X Y J L M=>by have a0:Q 68=ul_u16:=D.g 0 Z;have a1:Rep (eSl (eInt .i64)) V U (Q 71) ([(gtD p0.2.2 y21).1]:List Int):=D.g 1 Z;exact zAs (a0.trans (J _ Z).symm) X Y (Nat.le_trans j.size O.ch.size) a1 underlying31 el_3 e40)<|rc (OblR.took 7 _ _ Z Z Z Z Z fun V Q U O D u X Y J L M=>by exact zAP (L _ _ Z Z Z Z).symm X Y)<|rz
 intro done ρ σ A R w y s
 obtain ⟨h1,h2,h5,h6,h34,h35⟩:=k6 s.rg h1 h2 h5 h6 h34 h35
 replace h36:=k1 s.rg h36
 obtain ⟨u41,e_u41⟩:∃ u,ρ 8=u:=⟨_,Z⟩
 have h7:=s.ov y 8 5 e_u41
 have z42:=s.inivR 1 Z
 have z43:=s.inivR 2 Z
 replace f_u17:=f_u17.stp s.stp
 replace f_v1:=f_v1.stp s.stp
 obtain ⟨B,j,d⟩:=s.s B C j q ⟨Z,⟨Z,⟨Z,N⟩⟩⟩
 replace q:=s.left y [(8,ob u41 (.vec w0.heap.size 3 (eInt .i64) (y22++([(gtD p0.2.2 y21).1]:List Int)))),(1,ob (.pointer (some ⟨b2_0,0,none⟩)) (.box w0.heap.size 27 zA2 p0))] ⟨Z,Z,e_u41,Z,Z,⟨Z,Z,z42,Z,Z,N⟩⟩
 obtain ⟨e44,c⟩:=zAG c
 refine HT.u d j (eI (y21+1)::eI (y21+1)::[]) ?_ ?_
 exact op (fun Q U W H D=>zAi ((H 36 Z).trans h36) Z e44)<|ov<|oz
 intro R w m n p d j
 obtain ⟨h1,h2,h5,h6,h7,h34⟩:=k6 n h1 h2 h5 h6 h7 h34
 replace h35:=k1 n h35
 have h36:=p.r 1 Z
 replace f_u17:=f_u17.fr m
 replace f_v1:=f_v1.fr m
 replace q:=q.fr m
 exact ei k (And.intro (Nat.lt_succ_self k) ⟨_,_,_,u41,c,d,j,B,q,h1,h2,h5,h6,h7,h34,h35,h36,f_u17,f_v1⟩)
 have c:=zAd c39 c
 refine HT.skip ?_
 obtain ⟨e45,c⟩:=zAG c
 refine HT.u d j (eI (y21+1)::eI (y21+1)::[]) ?_ ?_
 exact op (fun Q U W H D=>zAi ((H 36 Z).trans h36) Z e45)<|ov<|oz
 intro R w m n p d j
 obtain ⟨h1,h2,h5,h6,h7,h34⟩:=k6 n h1 h2 h5 h6 h7 h34
 replace h35:=k1 n h35
 have h36:=p.r 1 Z
 replace f_u17:=f_u17.fr m
 replace f_v1:=f_v1.fr m
 replace q:=q.fr m
 replace q:IniOK [ob ul_u16 (.vec w0.heap.size 3 (eInt .i64) y22),ob (.pointer (some ⟨b2_0,0,none⟩)) (.box w0.heap.size 27 zA2 p0)] A w:=q.sub [(0,ob ul_u16 (.vec w0.heap.size 3 (eInt .i64) y22)),(1,ob (.pointer (some ⟨b2_0,0,none⟩)) (.box w0.heap.size 27 zA2 p0))] ⟨Z,Z,⟨Z,Z,N⟩⟩
 exact ei k (And.intro (Nat.lt_succ_self k) ⟨_,_,_,ul_u16,c,d,j,B,q,h1,h2,h5,h6,h7,h34,h35,h36,f_u17,f_v1⟩)
 have c:=zAd c23 c
 refine zPO ?_
 obtain rfl:=si c
 replace q:IniOK [ob ul_u16 (.vec w0.heap.size 3 (eInt .i64) y22)] A w:=q.sub [(0,ob ul_u16 (.vec w0.heap.size 3 (eInt .i64) y22))] ⟨Z,Z,N⟩
 exact ei _ ⟨_,ul_u16,Z,d,j,B,q,h7⟩
 rintro R w ⟨A,s20,uo_u16,es,d,j,B,q,h7⟩
 obtain rfl:=es.symm
 refine zPR d j (eR uo_u16::eR uo_u16::[]) ?_ ?_
 exact om h7<|oa<|oz
 intro R w m n p d j
 have h4:=p.r 1 Z
 replace q:=q.fr m
 refine HT.ret ?_
 obtain rfl:=si c
 exact ⟨.inr Z,[R 4],⟨Z,N⟩,(zBk (q.ok 0 _ Z) B h4),j⟩
theorem zFS {fu : Nat} {A0 : Av} {p0 : zA7} {p1 : List (List UInt8)} {r : List Int} (c : zCD fu p0 p1 = some r) {w : World} {v0 : Value} {v1 : Value} (d : AvOK A0 w) (h0 : Rep zA2 A0 w v0 p0) (h1 : Rep (eSl eStr) A0 w v1 p1) :
 Calls prog 6 #[v0,v1] w fun e w'=>∃ v,e=.returned v/\(Rep (eSl (eInt .i64)) A0 w' v r/\Fr w w'):=by
 refine Calls.mono (zFn c d h0 h1) ?_
 rintro e w' ⟨v,he,hv,hf⟩
 exact ⟨v,he,zDt hv (fun b o h=>.inl h) d,hf⟩
def zDU (fu:Nat) (p0:List (List UInt8)) (p1:List (List UInt8)):Option Bool:=
 cl true (zBP fu p0) fun x1=>
 cl (true&&(x1==true)) (zBP fu p1) fun x3=>
 bd (x1&&x3) fun x5=>
 some x5
theorem zG6 {fu : Nat} {A : Av} {p0 : List (List UInt8)} {p1 : List (List UInt8)} {r : Bool} (c : zDU fu p0 p1 = some r) {w : World} {v0 : Value} {v1 : Value} (d : AvOK A w) (h0 : Rep (eSl eStr) A w v0 p0) (h1 : Rep (eSl eStr) A w v1 p1) :
 Calls prog 54 #[v0,v1] w fun e w'=>∃ v,e=.returned v/\(v=.bool r/\Fr w w'):=by
 unfold zDU at c
 obtain ⟨w0,hw0,j⟩:=pf w
 rw [fw hw0]
 refine zAB [.tmp 4] func54 ntmps54 (by decide) Z Z (nb Z) ?_
 intro R hR
 have f_v0:=h0
 replace h0:R 0=v0:=hR 0 _ Z
 have f_v1:=h1
 replace h1:R 1=v1:=hR 1 _ Z
 refine zPR d j (eB false::[]) ?_ ?_
 exact op (fun Q U W H D=>zA6 Z)<|oz
 intro R w m n p d j
 obtain ⟨h0,h1⟩:=k2 n h0 h1
 replace f_v0:=f_v0.fr m
 replace f_v1:=f_v1.fr m
 refine zPQ ?_
 obtain ⟨x1,q2,c⟩:=zA9 c
 obtain ⟨x3,q4,c⟩:=zA9 c
 obtain ⟨x5,q6,c⟩:=zAO c
 refine HT.u d j (eR v0::eB x1::eB x1::gR (true&&(x1==true)) v1::gB (true&&(x1==true)) x3::eB x5::eB x5::[]) ?_ ?_
 exact om h0<|op (fun Q U W H D=>zAM call22 (zCH (q2 Z) (d.fr W.size) ((f_v0.fr W).eq (D.g 0 Z))))<|ov<|gm 2 true h1<|og 2 true (fun G Q U W H D=>zAM call22 (zCH (q4 G) (d.fr W.size) ((f_v1.fr W).eq (D.h 0 G Z))))<|op (fun Q U W H D=>zAR x1 (D.g 0 Z) (fun hc=>by have a1:Q 9=.bool x3:=D 1 _ _ _ Z Z Z Z (zBJ Z (zAf hc));show _=Value.bool x5;rw [q6,hc];exact a1) (fun hc=>by show _=Value.bool x5;rw [q6,hc];exact Z))<|oa<|oz
 intro R w m n p d j
 have h4:=p.r 6 Z
 refine HT.ret ?_
 obtain rfl:=si c
 exact ⟨.inr Z,[R 4],⟨Z,N⟩,h4,j⟩
def zAl (fu : Nat) : Nat -> (List (List UInt8)) -> (List (List UInt8)) -> Int -> Option Int
 | 0,_,_,_=>none
 | k+1,y20,y21,y22=>
 bd ((decide (0<(y20.length:Int)))&&(decide (0<(y21.length:Int)))) fun x23=>
 bif x23 then (
 ck (inR 0 y20.length) <|
 ck (inR 0 y21.length) <|
 bif (bLt (gtD y20 0) (gtD y21 0)) then (
 ck (subR 1 (y20.length:Int) y20.length) <|
 zAl fu k (subL y20 1 (y20.length:Int)) y21 y22
 ) else (
 ck (inR 0 y21.length) <|
 ck (inR 0 y20.length) <|
 bif (bLt (gtD y21 0) (gtD y20 0)) then (
 ck (subR 1 (y21.length:Int) y21.length) <|
 zAl fu k y20 (subL y21 1 (y21.length:Int)) y22
 ) else (
 ck (subR 1 (y20.length:Int) y20.length) <|
 ck (subR 1 (y21.length:Int) y21.length) <|
 ck (i64B (y22+1)) <|
 zAl fu k (subL y20 1 (y20.length:Int)) (subL y21 1 (y21.length:Int)) (y22+1)
 )
 )
 ) else (
 some y22
 )
def zDd (fu:Nat) (p0:List (List UInt8)) (p1:List (List UInt8)):Option Int:=
 cl true (zAQ fu p0) fun x1=>
 cl true (zAQ fu p1) fun x3=>
 cl true (zHc fu x1) fun x7=>
 cl true (zHc fu x3) fun x12=>
 cl true (zAl fu fu x7 x12 0) fun s19=>
 some s19
theorem zGK {fu : Nat} {A0 : Av} {p0 : List (List UInt8)} {p1 : List (List UInt8)} {r : Int} (c : zDd fu p0 p1 = some r) {w : World} {v0 : Value} {v1 : Value} (d : AvOK A0 w) (h0 : Rep (eSl eStr) A0 w v0 p0) (h1 : Rep (eSl eStr) A0 w v1 p1) :
 Calls prog 83 #[v0,v1] w fun e w'=>∃ v,e=.returned v/\(v=.int .i64 r/\Fr w w'):=by
 unfold zDd at c
 obtain ⟨w0,hw0,j,C⟩:=pw d
 have hA00:AvOK A0 w0:=C
 rw [fw hw0]
 obtain ⟨A,hAe,B,d,q⟩:=pa d
 refine zAB [.tmp 4] func83 ntmps83 (by decide) Z Z (nb Z) ?_
 intro R hR
 have f_v0:Rep (eSl eStr) A w v0 p0:=hAe ▸ h0
 replace h0:R 0=v0:=hR 0 _ Z
 have f_v1:Rep (eSl eStr) A w v1 p1:=hAe ▸ h1
 replace h1:R 1=v1:=hR 1 _ Z
 refine zPR d j (eI 0::[]) ?_ ?_
 exact op (fun Q U W H D=>zA6 Z)<|oz
 intro R w m n p d j
 obtain ⟨h0,h1⟩:=k2 n h0 h1
 replace f_v0:=f_v0.fr m
 replace f_v1:=f_v1.fr m
 replace q:=q.fr m
 obtain ⟨x1,q2,c⟩:=zA9 c
 obtain ⟨x3,q4,c⟩:=zA9 c
 refine zPS [] (rR v0::⟨_,true,[],some (.vec w0.heap.size 9 eStr x1),true,fun A=>.any⟩::rR v1::⟨_,true,[],some (.vec w0.heap.size 9 eStr x3),true,fun A=>.any⟩::⟨_,true,[1],some (.vec w0.heap.size 9 eStr x1),true,fun A=>.any⟩::⟨_,true,[3],some (.vec w0.heap.size 9 eStr x3),true,fun A=>.any⟩::[]) (ur (ua (ur (ua (ua (ua (UAll.nil))))))) q d ?_ ?_
 exact rm h0<|rc (OblR.made _ Z Z Z Z fun V Q U O D=>by have a0:Q 8=v0:=D.g 0 Z;have ra0:=(f_v0.stp O.stp).eq a0;exact zEy call39 (zAj (q2 Z) O.av ra0) (Nat.le_trans j.size O.ch.size))<|rm h1<|rc (OblR.made _ Z Z Z Z fun V Q U O D=>by have a0:Q 10=v1:=D.g 0 Z;have ra0:=(f_v1.stp O.stp).eq a0;exact zEy call39 (zAj (q4 Z) O.av ra0) (Nat.le_trans j.size O.ch.size))<|rc (OblR.took 1 _ _ Z Z Z Z Z fun V Q U O D u X Y J L M=>by exact zAP (L _ _ Z Z Z Z).symm X Y)<|rc (OblR.took 3 _ _ Z Z Z Z Z fun V Q U O D u X Y J L M=>by exact zAP (L _ _ Z Z Z Z).symm X Y)<|rz
 intro done ρ σ A R w y s
 obtain ⟨u5,e_u5⟩:∃ u,ρ 4=u:=⟨_,Z⟩
 have h5:=s.ov y 4 4 e_u5
 obtain ⟨u6,e_u6⟩:∃ u,ρ 5=u:=⟨_,Z⟩
 have h6:=s.ov y 5 5 e_u6
 obtain ⟨B,j,d⟩:=s.s B C j q N
 replace q:=s.left y [(4,ob u5 (.vec w0.heap.size 9 eStr x1)),(5,ob u6 (.vec w0.heap.size 9 eStr x3))] ⟨Z,Z,e_u5,Z,Z,⟨Z,Z,e_u6,Z,Z,N⟩⟩
 obtain ⟨x7,q8,c⟩:=zA9 c
 refine zPS [ob u5 (.vec w0.heap.size 9 eStr x1),ob u6 (.vec w0.heap.size 9 eStr x3)] (rR u5::⟨_,true,[0],some (.vec w0.heap.size 9 eStr x7),false,fun A=>.any⟩::[]) (ur (ua (UAll.nil))) q d ?_ ?_
 exact rm h5<|rc (OblR.took 0 _ _ Z Z Z Z Z fun V Q U O D u X Y J L M=>by have a0:Q 12=u5:=D.g 0 Z;have hu0:zAL Q (.tmp 12)=u:=a0.trans (J _ Z).symm;exact zHT call89 Y (fun _ _ _ _ _ h=>h) (by simp only [List.map,hu0];exact Calls.mono (zHr (q8 Z) (O.av.sub _) (fun b o h=>h.2) (Vec.flat X (fun _ _ _ _ _ h=>h))) (fun _ _ ⟨v,h1,h2,h3,h4⟩=>⟨v,h1,N,h3,h4⟩)))<|rz
 intro done ρ σ A R w y s
 obtain ⟨h5,h6⟩:=k2 s.rg h5 h6
 have z9:=s.inivR 0 Z
 have z10:=s.on y 3 1 Z Z Z Z Z z9
 have z11:=s.inivR 1 Z
 obtain ⟨B,j,d⟩:=s.s B C j q ⟨Z,⟨Z,N⟩⟩
 replace q:=s.left y [(3,ob u5 (.vec w0.heap.size 9 eStr x7)),(1,ob u6 (.vec w0.heap.size 9 eStr x3))] ⟨Z,Z,z10,Z,Z,⟨Z,Z,z11,Z,Z,N⟩⟩
 obtain ⟨x12,q13,c⟩:=zA9 c
 refine zPS [ob u5 (.vec w0.heap.size 9 eStr x7),ob u6 (.vec w0.heap.size 9 eStr x3)] (rR u6::⟨_,true,[1],some (.vec w0.heap.size 9 eStr x12),false,fun A=>.any⟩::[]) (ur (ua (UAll.nil))) q d ?_ ?_
 exact rm h6<|rc (OblR.took 1 _ _ Z Z Z Z Z fun V Q U O D u X Y J L M=>by have a0:Q 14=u6:=D.g 0 Z;have hu0:zAL Q (.tmp 14)=u:=a0.trans (J _ Z).symm;exact zHT call89 Y (fun _ _ _ _ _ h=>h) (by simp only [List.map,hu0];exact Calls.mono (zHr (q13 Z) (O.av.sub _) (fun b o h=>h.2) (Vec.flat X (fun _ _ _ _ _ h=>h))) (fun _ _ ⟨v,h1,h2,h3,h4⟩=>⟨v,h1,N,h3,h4⟩)))<|rz
 intro done ρ σ A R w y s
 obtain ⟨h5,h6⟩:=k2 s.rg h5 h6
 have z14:=s.inivR 0 Z
 have z15:=s.inivR 1 Z
 have z16:=s.on y 3 1 Z Z Z Z Z z15
 obtain ⟨B,j,d⟩:=s.s B C j q ⟨Z,⟨Z,N⟩⟩
 replace q:=s.left y [(0,ob u5 (.vec w0.heap.size 9 eStr x7)),(3,ob u6 (.vec w0.heap.size 9 eStr x12))] ⟨Z,Z,z14,Z,Z,⟨Z,Z,z16,Z,Z,N⟩⟩
 refine zPR d j (eI 0::[]) ?_ ?_
 exact op (fun Q U W H D=>zA6 Z)<|oz
 intro R w m n p d j
 obtain ⟨h5,h6⟩:=k2 n h5 h6
 have h7:=p.r 0 Z
 replace q:=q.fr m
 replace q:IniOK [ob u5 (.vec w0.heap.size 9 eStr x7),ob u6 (.vec w0.heap.size 9 eStr x12)] A w:=q.sub [(0,ob u5 (.vec w0.heap.size 9 eStr x7)),(1,ob u6 (.vec w0.heap.size 9 eStr x12))] ⟨Z,Z,⟨Z,Z,N⟩⟩
 obtain ⟨A,hle,B,d,q,f_u5⟩:=q.freeze d B C
 clear hle
 replace q:IniOK [ob u6 (.vec w0.heap.size 9 eStr x12)] A w:=q.sub [(0,ob u6 (.vec w0.heap.size 9 eStr x12))] ⟨Z,Z,N⟩
 obtain ⟨A,hle,B,d,q,f_u6⟩:=q.freeze d B C
 replace f_u5:=f_u5.less hle
 clear hle
 obtain ⟨rl17,q18,c⟩:=zA9 c
 replace q18:=q18 Z
 refine zPK (fun R w=>∃ A:Av,∃ (s19:Int),rl17=s19/\AvOK A w/\Fr w0 w/\(∀ b o,A0 b o->A b o)/\IniOK [] A w/\R 7=.int .i64 s19) ?_ ?_
 refine HT.block<|zPP (fun k R w=>∃ A:Av,∃ (y20:List (List UInt8)) (y21:List (List UInt8)) (y22:Int) (wl_5:Value) (wl_6:Value),zAl fu k y20 y21 y22=some rl17/\AvOK A w/\Fr w0 w/\(∀ b o,A0 b o->A b o)/\IniOK [] A w/\R 5=wl_5/\R 6=wl_6/\R 7=.int .i64 y22/\Rep (eSl eStr) A w wl_5 y20/\Rep (eSl eStr) A w wl_6 y21) fu ⟨_,_,_,_,u5,u6,q18,d,j,B,q,h5,h6,h7,f_u5,f_u6⟩ ?_
 have hr0:=c;clear c q18
 rintro k R w ⟨A,y20,y21,y22,wl_5,wl_6,c,d,j,B,q,h5,h6,h7,f_wl_5,f_wl_6⟩
 rcases k with _ | k
 cases (show none=some _ from c)
 rw [zAl] at c
 refine zPQ ?_
 refine zPQ ?_
 obtain ⟨x23,q24,c⟩:=zAO c
 refine HT.u d j (eR wl_5::eI (y20.length:Int)::eB (decide (0<(y20.length:Int)))::eB (decide (0<(y20.length:Int)))::gR (true&&((decide (0<(y20.length:Int)))==true)) wl_6::gI (true&&((decide (0<(y20.length:Int)))==true)) (y21.length:Int)::gB (true&&((decide (0<(y20.length:Int)))==true)) (decide (0<(y21.length:Int)))::eB x23::[]) ?_ ?_
 exact om h5<|op (fun Q U W H D=>zAN (aT:=#[]) ((f_wl_5.fr W).eq (D.g 0 Z)) underlying28)<|op (fun Q U W H D=>zEH (D.g 0 Z) Z)<|ov<|gm 3 true h6<|og 3 true (fun G Q U W H D=>zAN (aT:=#[]) ((f_wl_6.fr W).eq (D.h 0 G Z)) underlying28)<|og 3 true (fun G Q U W H D=>zEH (D.h 0 G Z) Z)<|op (fun Q U W H D=>zAR (decide (0<(y20.length:Int))) (D.g 0 Z) (fun hc=>by have a1:Q 22=.bool (decide (0<(y21.length:Int))):=D 1 _ _ _ Z Z Z Z (zBJ Z (zAf hc));show _=Value.bool x23;rw [q24,hc];exact a1) (fun hc=>by show _=Value.bool x23;rw [q24,hc];exact Z))<|oz
 intro R w m n p d j
 obtain ⟨h5,h6,h7⟩:=k3 n h5 h6 h7
 have h23:=p.r 7 Z
 replace f_wl_5:=f_wl_5.fr m
 replace f_wl_6:=f_wl_6.fr m
 replace q:=q.fr m
 refine zPJ x23 h23 (fun c25=>?_) (fun c25=>?_)
 have c:=zAe c25 c
 refine HT.skip<|HT.block<|HT.block<|zPQ ?_
 obtain ⟨e26,e27,c⟩:=ck2 c
 refine zPM (by kernel_rfl) (l:=eR wl_5::eF (.qtr eStr A (gtD y20 0))::eF (.rep eStr A (gtD y20 0))::eR wl_6::eF (.qtr eStr A (gtD y21 0))::eF (.rep eStr A (gtD y21 0))::eB (bLt (gtD y20 0) (gtD y21 0))::eB (bLt (gtD y20 0) (gtD y21 0))::[]) (tl:=[]) (by kernel_rfl) (by kernel_rfl) (by kernel_rfl) (by kernel_rfl) ?_ ?_
 exact om h5<|op (fun Q U W H D=>zAC ((f_wl_5.fr W).eq (D.g 0 Z)) Z underlying28 sizeOf9 e26)<|op (fun Q U W H D=>(zAT (QRep.ptr (D.g 0 Z)) isAgg9 sizeOf9))<|om h6<|op (fun Q U W H D=>zAC ((f_wl_6.fr W).eq (D.g 0 Z)) Z underlying28 sizeOf9 e27)<|op (fun Q U W H D=>(zAT (QRep.ptr (D.g 0 Z)) isAgg9 sizeOf9))<|op (fun Q U W H D=>zLS (D.g 0 Z) (D.g 1 Z))<|oa<|oz
 intro R w m n p
 obtain ⟨h5,h6,h7⟩:=k3 n h5 h6 h7
 have h30:=p.r 7 Z
 replace f_wl_5:=f_wl_5.fr m
 replace f_wl_6:=f_wl_6.fr m
 replace q:=q.fr m
 replace d:=d.fr m.size
 replace j:=j.trans m
 refine zPJ (bLt (gtD y20 0) (gtD y21 0)) h30 (fun c28=>?_) (fun c28=>?_)
 have c:=zAe c28 c
 obtain ⟨e29,c⟩:=zAG c
 refine HT.u d j (eR wl_5::eF (.rep (eSl eStr) A (subL y20 1 (y20.length:Int)))::eF (.rep (eSl eStr) A (subL y20 1 (y20.length:Int)))::[]) ?_ ?_
 exact om h5<|op (fun Q U W H D=>zDb ((f_wl_5.fr W).eq (D.g 0 Z)) Z underlying28 sizeOf9 e29)<|op (fun Q U W H D=>zA6 (D.g 0 Z))<|oz
 intro R w m n p d j
 obtain ⟨h6,h7⟩:=k2 n h6 h7
 obtain ⟨u30,h5,f_u30⟩:∃ u,R 5=u/\Rep (eSl eStr) A w u (subL y20 1 (y20.length:Int)):=⟨_,Z,p 2 _ _ Z Z Z⟩
 replace f_wl_6:=f_wl_6.fr m
 replace q:=q.fr m
 exact ei k (And.intro (Nat.lt_succ_self k) ⟨_,_,_,_,u30,wl_6,c,d,j,B,q,h5,h6,h7,f_u30,f_wl_6⟩)
 have c:=zAd c28 c
 refine zPQ ?_
 obtain ⟨e31,e32,c⟩:=ck2 c
 refine zPM (by kernel_rfl) (l:=eR wl_6::eF (.qtr eStr A (gtD y21 0))::eF (.rep eStr A (gtD y21 0))::eR wl_5::eF (.qtr eStr A (gtD y20 0))::eF (.rep eStr A (gtD y20 0))::eB (bLt (gtD y21 0) (gtD y20 0))::eB (bLt (gtD y21 0) (gtD y20 0))::[]) (tl:=[]) (by kernel_rfl) (by kernel_rfl) (by kernel_rfl) (by kernel_rfl) ?_ ?_
 exact om h6<|op (fun Q U W H D=>zAC ((f_wl_6.fr W).eq (D.g 0 Z)) Z underlying28 sizeOf9 e31)<|op (fun Q U W H D=>(zAT (QRep.ptr (D.g 0 Z)) isAgg9 sizeOf9))<|om h5<|op (fun Q U W H D=>zAC ((f_wl_5.fr W).eq (D.g 0 Z)) Z underlying28 sizeOf9 e32)<|op (fun Q U W H D=>(zAT (QRep.ptr (D.g 0 Z)) isAgg9 sizeOf9))<|op (fun Q U W H D=>zLS (D.g 0 Z) (D.g 1 Z))<|oa<|oz
 intro R w m n p
 obtain ⟨h5,h6,h7⟩:=k3 n h5 h6 h7
 have h40:=p.r 7 Z
 replace f_wl_5:=f_wl_5.fr m
 replace f_wl_6:=f_wl_6.fr m
 replace q:=q.fr m
 replace d:=d.fr m.size
 replace j:=j.trans m
 refine zPJ (bLt (gtD y21 0) (gtD y20 0)) h40 (fun c33=>?_) (fun c33=>?_)
 have c:=zAe c33 c
 obtain ⟨e34,c⟩:=zAG c
 refine HT.u d j (eR wl_6::eF (.rep (eSl eStr) A (subL y21 1 (y21.length:Int)))::eF (.rep (eSl eStr) A (subL y21 1 (y21.length:Int)))::[]) ?_ ?_
 exact om h6<|op (fun Q U W H D=>zDb ((f_wl_6.fr W).eq (D.g 0 Z)) Z underlying28 sizeOf9 e34)<|op (fun Q U W H D=>zA6 (D.g 0 Z))<|oz
 intro R w m n p d j
 obtain ⟨h5,h7⟩:=k2 n h5 h7
 obtain ⟨u35,h6,f_u35⟩:∃ u,R 6=u/\Rep (eSl eStr) A w u (subL y21 1 (y21.length:Int)):=⟨_,Z,p 2 _ _ Z Z Z⟩
 replace f_wl_5:=f_wl_5.fr m
 replace q:=q.fr m
 exact ei k (And.intro (Nat.lt_succ_self k) ⟨_,_,_,_,wl_5,u35,c,d,j,B,q,h5,h6,h7,f_wl_5,f_u35⟩)
 have c:=zAd c33 c
 refine zPQ ?_
 obtain ⟨e36,e37,c⟩:=ck2 c
 refine zPM (by kernel_rfl) (l:=eR wl_5::eF (.rep (eSl eStr) A (subL y20 1 (y20.length:Int)))::eR wl_6::eF (.rep (eSl eStr) A (subL y21 1 (y21.length:Int)))::eF (.rep (eSl eStr) A (subL y20 1 (y20.length:Int)))::eF (.rep (eSl eStr) A (subL y21 1 (y21.length:Int)))::[]) (tl:=[]) (by kernel_rfl) (by kernel_rfl) (by kernel_rfl) (by kernel_rfl) ?_ ?_
 exact om h5<|op (fun Q U W H D=>zDb ((f_wl_5.fr W).eq (D.g 0 Z)) Z underlying28 sizeOf9 e36)<|om h6<|op (fun Q U W H D=>zDb ((f_wl_6.fr W).eq (D.g 0 Z)) Z underlying28 sizeOf9 e37)<|op (fun Q U W H D=>zA6 (D.g 0 Z))<|op (fun Q U W H D=>zA6 (D.g 0 Z))<|oz
 intro R w m n p
 replace h7:=k1 n h7
 obtain ⟨u38,h5,f_u38⟩:∃ u,R 5=u/\Rep (eSl eStr) A w u (subL y20 1 (y20.length:Int)):=⟨_,Z,p 4 _ _ Z Z Z⟩
 obtain ⟨u39,h6,f_u39⟩:∃ u,R 6=u/\Rep (eSl eStr) A w u (subL y21 1 (y21.length:Int)):=⟨_,Z,p 5 _ _ Z Z Z⟩
 replace q:=q.fr m
 replace d:=d.fr m.size
 replace j:=j.trans m
 obtain ⟨e40,c⟩:=zAG c
 refine HT.u d j (eI y22::eI (y22+1)::eI (y22+1)::[]) ?_ ?_
 exact om h7<|op (fun Q U W H D=>zAi (D.g 0 Z) Z e40)<|oa<|oz
 intro R w m n p d j
 obtain ⟨h5,h6⟩:=k2 n h5 h6
 have h7:=p.r 2 Z
 replace f_u38:=f_u38.fr m
 replace f_u39:=f_u39.fr m
 replace q:=q.fr m
 exact ei k (And.intro (Nat.lt_succ_self k) ⟨_,_,_,_,u38,u39,c,d,j,B,q,h5,h6,h7,f_u38,f_u39⟩)
 have c:=zAd c25 c
 refine zPO ?_
 obtain rfl:=si c
 exact ei _ ⟨_,Z,d,j,B,q,h7⟩
 rintro R w ⟨A,s19,es,d,j,B,q,h7⟩
 obtain rfl:=es.symm
 refine zPR d j (eI s19::eI s19::[]) ?_ ?_
 exact om h7<|oa<|oz
 intro R w m n p d j
 have h4:=p.r 1 Z
 replace q:=q.fr m
 refine HT.ret ?_
 obtain rfl:=si c
 exact ⟨.inr Z,[R 4],⟨Z,N⟩,h4,j⟩
def zDz (fu:Nat) (p0:List (List UInt8)) (p1:List (List UInt8)):Option Int:=
 cl true (zDd fu p0 p1) fun x1=>
 some x1
theorem zHl {fu : Nat} {A : Av} {p0 : List (List UInt8)} {p1 : List (List UInt8)} {r : Int} (c : zDz fu p0 p1 = some r) {w : World} {v0 : Value} {v1 : Value} (d : AvOK A w) (h0 : Rep (eSl eStr) A w v0 p0) (h1 : Rep (eSl eStr) A w v1 p1) :
 Calls prog 55 #[v0,v1] w fun e w'=>∃ v,e=.returned v/\(v=.int .i64 r/\Fr w w'):=by
 unfold zDz at c
 obtain ⟨w0,hw0,j⟩:=pf w
 rw [fw hw0]
 refine zAB [.tmp 4] func55 ntmps55 (by decide) Z Z (nb Z) ?_
 intro R hR
 have f_v0:=h0
 replace h0:R 0=v0:=hR 0 _ Z
 have f_v1:=h1
 replace h1:R 1=v1:=hR 1 _ Z
 refine zPR d j (eI 0::[]) ?_ ?_
 exact op (fun Q U W H D=>zA6 Z)<|oz
 intro R w m n p d j
 obtain ⟨h0,h1⟩:=k2 n h0 h1
 replace f_v0:=f_v0.fr m
 replace f_v1:=f_v1.fr m
 obtain ⟨x1,q2,c⟩:=zA9 c
 refine zPR d j (eR v0::eR v1::eI x1::eI x1::[]) ?_ ?_
 exact om h0<|om h1<|op (fun Q U W H D=>zAM call83 (zGK (q2 Z) (d.fr W.size) ((f_v0.fr W).eq (D.g 0 Z)) ((f_v1.fr W).eq (D.g 1 Z))))<|oa<|oz
 intro R w m n p d j
 have h4:=p.r 3 Z
 refine HT.ret ?_
 obtain rfl:=si c
 exact ⟨.inr Z,[R 4],⟨Z,N⟩,h4,j⟩
def zCU (fu:Nat) (p0:List (List UInt8)) (p1:List (List UInt8)) (p2:Int):Option Bool:=
 cl true (zDU fu p0 p1) fun x1=>
 cl (true&&((!x1)==false)) (zCV fu (p0.length:Int)) fun x3=>
 bd ((!x1) || (!x3)) fun x5=>
 cl (true&&(x5==false)) (zCV fu (p1.length:Int)) fun x7=>
 bd (x5 || (!x7)) fun x9=>
 cl (true&&(x9==false)) (zBs fu p2) fun x11=>
 bd (x9 || (!x11)) fun x13=>
 bif x13 then (
 some false
 ) else (
 cl true (zDz fu p0 p1) fun x16=>
 ck (i64B (1000*x16)) <|
 ck (i64B ((p0.length:Int)+(p1.length:Int))) <|
 ck (i64B (((p0.length:Int)+(p1.length:Int))-x16)) <|
 ck (i64B (p2*(((p0.length:Int)+(p1.length:Int))-x16))) <|
 some (decide ((p2*(((p0.length:Int)+(p1.length:Int))-x16))<=(1000*x16)))
 )
theorem zEZ {fu : Nat} {A : Av} {p0 : List (List UInt8)} {p1 : List (List UInt8)} {p2 : Int} {r : Bool} (c : zCU fu p0 p1 p2 = some r) {w : World} {v0 : Value} {v1 : Value} {v2 : Value} (d : AvOK A w) (h0 : Rep (eSl eStr) A w v0 p0) (h1 : Rep (eSl eStr) A w v1 p1) (h2 : v2=.int .i64 p2) :
 Calls prog 27 #[v0,v1,v2] w fun e w'=>∃ v,e=.returned v/\(v=.bool r/\Fr w w'):=by
 unfold zCU at c
 obtain ⟨w0,hw0,j⟩:=pf w
 rw [fw hw0]
 refine zAB [.tmp 6] func27 ntmps27 (by decide) Z Z (nb Z) ?_
 intro R hR
 have f_v0:=h0
 replace h0:R 0=v0:=hR 0 _ Z
 have f_v1:=h1
 replace h1:R 1=v1:=hR 1 _ Z
 replace h2:R 2=.int .i64 p2:=(hR 2 _ Z).trans h2
 refine zPR d j (eB false::[]) ?_ ?_
 exact op (fun Q U W H D=>zA6 Z)<|oz
 intro R w m n p d j
 obtain ⟨h0,h1,h2⟩:=k3 n h0 h1 h2
 replace f_v0:=f_v0.fr m
 replace f_v1:=f_v1.fr m
 refine zPQ ?_
 refine zPQ ?_
 obtain ⟨x1,q2,c⟩:=zA9 c
 obtain ⟨x3,q4,c⟩:=zA9 c
 obtain ⟨x5,q6,c⟩:=zAO c
 obtain ⟨x7,q8,c⟩:=zA9 c
 obtain ⟨x9,q10,c⟩:=zAO c
 obtain ⟨x11,q12,c⟩:=zA9 c
 obtain ⟨x13,q14,c⟩:=zAO c
 refine HT.u d j (eR v0::eR v1::eB x1::eB (!x1)::eB (!x1)::gR (true&&((!x1)==false)) v0::gI (true&&((!x1)==false)) (p0.length:Int)::gB (true&&((!x1)==false)) x3::gB (true&&((!x1)==false)) (!x3)::eB x5::eB x5::gR (true&&(x5==false)) v1::gI (true&&(x5==false)) (p1.length:Int)::gB (true&&(x5==false)) x7::gB (true&&(x5==false)) (!x7)::eB x9::eB x9::gI (true&&(x9==false)) p2::gB (true&&(x9==false)) x11::gB (true&&(x9==false)) (!x11)::eB x13::[]) ?_ ?_
 exact om h0<|om h1<|op (fun Q U W H D=>zAM call54 (zG6 (q2 Z) (d.fr W.size) ((f_v0.fr W).eq (D.g 0 Z)) ((f_v1.fr W).eq (D.g 1 Z))))<|op (fun Q U W H D=>zBY (D.g 0 Z))<|ov<|gm 4 false h0<|og 4 false (fun G Q U W H D=>zAN (aT:=#[]) ((f_v0.fr W).eq (D.h 0 G Z)) underlying28)<|og 4 false (fun G Q U W H D=>zAM call23 (zE7 (q4 G) (d.fr W.size) (D.h 0 G Z)))<|og 4 false (fun G Q U W H D=>zBY (D.h 0 G Z))<|op (fun Q U W H D=>zAR (!x1) (D.g 0 Z) (fun hc=>by show _=Value.bool x5;rw [q6,hc];exact Z) (fun hc=>by have a2:Q 16=.bool (!x3):=D 1 _ _ _ Z Z Z Z (zBJ Z (zAf hc));show _=Value.bool x5;rw [q6,hc];exact a2))<|ov<|gm 10 false h1<|og 10 false (fun G Q U W H D=>zAN (aT:=#[]) ((f_v1.fr W).eq (D.h 0 G Z)) underlying28)<|og 10 false (fun G Q U W H D=>zAM call23 (zE7 (q8 G) (d.fr W.size) (D.h 0 G Z)))<|og 10 false (fun G Q U W H D=>zBY (D.h 0 G Z))<|op (fun Q U W H D=>zAR x5 (D.g 0 Z) (fun hc=>by show _=Value.bool x9;rw [q10,hc];exact Z) (fun hc=>by have a2:Q 22=.bool (!x7):=D 1 _ _ _ Z Z Z Z (zBJ Z (zAf hc));show _=Value.bool x9;rw [q10,hc];exact a2))<|ov<|gm 16 false h2<|og 16 false (fun G Q U W H D=>zAM call44 (zDj (q12 G) (d.fr W.size) (D.h 0 G Z)))<|og 16 false (fun G Q U W H D=>zBY (D.h 0 G Z))<|op (fun Q U W H D=>zAR x9 (D.g 0 Z) (fun hc=>by show _=Value.bool x13;rw [q14,hc];exact Z) (fun hc=>by have a2:Q 27=.bool (!x11):=D 1 _ _ _ Z Z Z Z (zBJ Z (zAf hc));show _=Value.bool x13;rw [q14,hc];exact a2))<|oz
 intro R w m n p d j
 obtain ⟨h0,h1,h2⟩:=k3 n h0 h1 h2
 have h28:=p.r 20 Z
 replace f_v0:=f_v0.fr m
 replace f_v1:=f_v1.fr m
 refine zPJ x13 h28 (fun c15=>?_) (fun c15=>?_)
 have c:=zAe c15 c
 refine zPR d j (eB false::[]) ?_ ?_
 exact op (fun Q U W H D=>zA6 Z)<|oz
 intro R w m n p d j
 have h6:=p.r 0 Z
 refine HT.ret ?_
 obtain rfl:=si c
 exact ⟨.inr Z,[R 6],⟨Z,N⟩,h6,j⟩
 have c:=zAd c15 c
 refine HT.skip ?_
 obtain ⟨x16,q17,c⟩:=zA9 c
 refine zPR d j (eR v0::eR v1::eI x16::eI x16::[]) ?_ ?_
 exact om h0<|om h1<|op (fun Q U W H D=>zAM call55 (zHl (q17 Z) (d.fr W.size) ((f_v0.fr W).eq (D.g 0 Z)) ((f_v1.fr W).eq (D.g 1 Z))))<|oa<|oz
 intro R w m n p d j
 obtain ⟨h0,h1,h2⟩:=k3 n h0 h1 h2
 have h7:=p.r 3 Z
 replace f_v0:=f_v0.fr m
 replace f_v1:=f_v1.fr m
 obtain ⟨e18,e19,e20,e21,c⟩:=ck4 c
 refine zPR d j (eI x16::eI (1000*x16)::eI p2::eR v0::eI (p0.length:Int)::eR v1::eI (p1.length:Int)::eI ((p0.length:Int)+(p1.length:Int))::eI x16::eI (((p0.length:Int)+(p1.length:Int))-x16)::eI (p2*(((p0.length:Int)+(p1.length:Int))-x16))::eB (decide ((p2*(((p0.length:Int)+(p1.length:Int))-x16))<=(1000*x16)))::eB (decide ((p2*(((p0.length:Int)+(p1.length:Int))-x16))<=(1000*x16)))::[]) ?_ ?_
 exact om h7<|op (fun Q U W H D=>zFx Z (D.g 0 Z) e18)<|om h2<|om h0<|op (fun Q U W H D=>zAN (aT:=#[]) ((f_v0.fr W).eq (D.g 0 Z)) underlying28)<|om h1<|op (fun Q U W H D=>zAN (aT:=#[]) ((f_v1.fr W).eq (D.g 0 Z)) underlying28)<|op (fun Q U W H D=>zAi (D.g 0 Z) (D.g 1 Z) e19)<|om h7<|op (fun Q U W H D=>zDf (D.g 0 Z) (D.g 1 Z) e20)<|op (fun Q U W H D=>zFx (D.g 0 Z) (D.g 1 Z) e21)<|op (fun Q U W H D=>zFI (D.g 0 Z) (D.g 1 Z))<|oa<|oz
 intro R w m n p d j
 have h6:=p.r 12 Z
 refine HT.ret ?_
 obtain rfl:=si c
 exact ⟨.inr Z,[R 6],⟨Z,N⟩,h6,j⟩
def zBT (fu : Nat) (p0 : zA7) (p1 : List (List UInt8)) : Nat -> Int -> (List Int) -> Option (List Int)
 | 0,_,_=>none
 | k+1,y11,y12=>
 bif (decide (y11<(p0.2.2.length:Int))) then (
 ck (inR y11 p0.2.2.length) <|
 cl true (zCU fu ((gtD p0.2.2 y11).2) p1 p0.1) fun x19=>
 bif x19 then (
 ck (zD4 (y12.length+([(gtD p0.2.2 y11).1]:List Int).length)) <|
 ck (i64B (y11+1)) <|
 zBT fu p0 p1 k (y11+1) (y12++([(gtD p0.2.2 y11).1]:List Int))
 ) else (
 ck (i64B (y11+1)) <|
 zBT fu p0 p1 k (y11+1) y12
 )
 ) else (
 some y12
 )
def zBi (fu:Nat) (p0:zA7) (p1:List (List UInt8)):Option (List Int):=
 cl true (zAh fu p0) fun x2=>
 bif (!x2) then (
 some ([]:List Int)
 ) else (
 cl true (zBT fu p0 p1 fu 0 ([]:List Int)) fun s10=>
 some s10
 )
theorem zGn {fu : Nat} {A0 : Av} {p0 : zA7} {p1 : List (List UInt8)} {r : List Int} (c : zBi fu p0 p1 = some r) {w : World} {v0 : Value} {v1 : Value} (d : AvOK A0 w) (h0 : Rep zA2 A0 w v0 p0) (h1 : Rep (eSl eStr) A0 w v1 p1) :
 Calls prog 7 #[v0,v1] w fun e w'=>∃ v,e=.returned v/\((Res.vec w.heap.size 3 (eInt .i64) r).ok (addA A0 v) v w'/\Fr w w'):=by
 unfold zBi at c
 obtain ⟨w0,hw0,j,C⟩:=pw d
 have hA00:AvOK A0 w0:=C
 rw [fh hw0]
 rw [fw hw0]
 obtain ⟨A,hAe,B,d,q⟩:=pa d
 refine zAB [.tmp 4] func7 ntmps7 (by decide) Z Z (nb Z) ?_
 intro R hR
 have f_v0:Rep zA2 A w v0 p0:=hAe ▸ h0
 replace h0:R 0=v0:=hR 0 _ Z
 have f_v1:Rep (eSl eStr) A w v1 p1:=hAe ▸ h1
 replace h1:R 1=v1:=hR 1 _ Z
 refine zPS [] (⟨_,true,[],some (.box w0.heap.size 27 zA2 p0),true,fun A=>.any⟩::rA::[]) (ua (ua (UAll.nil))) q d ?_ ?_
 exact rc (OblR.made _ Z Z Z Z fun V Q U O D=>by have a0:Q 0=v0:=(O.old 0 Z).trans h0;have ra0:=(f_v0.stp O.stp).eq a0;exact zD0 ra0 (Nat.le_trans j.size O.ch.size))<|rp (fun V Q U O D=>zA6 N)<|rz
 intro done ρ σ A R w y s
 replace h1:=k1 s.rg h1
 obtain ⟨b2_0,e_b2_0⟩:=s.boxv y 0 Z Z
 have h2:=s.ov y 0 0 e_b2_0
 replace f_v1:=f_v1.stp s.stp
 obtain ⟨B,j,d⟩:=s.s B C j q N
 replace q:=s.left y [(0,ob (.pointer (some ⟨b2_0,0,none⟩)) (.box w0.heap.size 27 zA2 p0))] ⟨Z,Z,e_b2_0,Z,Z,N⟩
 refine zPQ ?_
 obtain ⟨x2,q3,c⟩:=zA9 c
 refine zPR d j (eF (.rep zA2 A p0)::eB x2::eB (!x2)::[]) ?_ ?_
 exact op (fun Q U W H D=>(zAA ((q.fr W).ok 0 _ Z).1 ((H 2 Z).trans h2) (Fld.id _) Z isAgg27 sizeOf27))<|op (fun Q U W H D=>zAM call18 (zBR (q3 Z) (d.fr W.size) (D.g 0 Z)))<|op (fun Q U W H D=>zBY (D.g 0 Z))<|oz
 intro R w m n p d j
 obtain ⟨h1,h2⟩:=k2 n h1 h2
 have h10:=p.r 2 Z
 replace f_v1:=f_v1.fr m
 replace q:=q.fr m
 refine zPJ (!x2) h10 (fun c4=>?_) (fun c4=>?_)
 have c:=zAe c4 c
 refine zPR d j (eR (.slice none 0 0)::[]) ?_ ?_
 exact op (fun Q U W H D=>zA6 Z)<|oz
 intro R w m n p d j
 obtain ⟨u5,n_u5⟩:∃ u,u=Value.slice none 0 0:=⟨_,Z⟩
 have h4:R 4=u5:=(p 0 _ _ Z Z Z).trans n_u5.symm
 replace q:=q.fr m
 replace q:IniOK [] A w:=q.sub [] N
 replace q:=q.nilcons (u:=u5) n_u5 w0.heap.size 3 (eInt .i64)
 refine HT.ret ?_
 obtain rfl:=si c
 exact ⟨.inr Z,[R 4],⟨Z,N⟩,(zBk (q.ok 0 _ Z) B h4),j⟩
 have c:=zAd c4 c
 refine HT.skip<|zPR d j (eR (.slice none 0 0)::[]) ?_ ?_
 exact op (fun Q U W H D=>zA6 Z)<|oz
 intro R w m n p d j
 obtain ⟨h1,h2⟩:=k2 n h1 h2
 obtain ⟨u6,n_u6⟩:∃ u,u=Value.slice none 0 0:=⟨_,Z⟩
 have h5:R 5=u6:=(p 0 _ _ Z Z Z).trans n_u6.symm
 replace f_v1:=f_v1.fr m
 replace q:=q.fr m
 replace q:=q.nilcons (u:=u6) n_u6 w0.heap.size 3 (eInt .i64)
 refine zPQ ?_
 refine zPR d j (eR (.pointer (some ⟨b2_0,2,none⟩))::eF (.rep (eSl zA1) A p0.2.2)::eI (p0.2.2.length:Int)::eI 0::[]) ?_ ?_
 exact op (fun Q U W H D=>zA8 ((H 2 Z).trans h2) zAv sizeOf25 (by decide) Z)<|op (fun Q U W H D=>(zAA ((q.fr W).ok 1 _ Z).1 (D.g 0 Z) zAJ Z isAgg25 sizeOf25))<|op (fun Q U W H D=>zAN (aT:=#[]) (D.g 0 Z) underlying25)<|op (fun Q U W H D=>zBI Z)<|oz
 intro R w m n p d j
 obtain ⟨h1,h2,h5⟩:=k3 n h1 h2 h5
 obtain ⟨u7,h12,f_u7⟩:∃ u,R 12=u/\Rep (eSl zA1) A w u p0.2.2:=⟨_,Z,p 1 _ _ Z Z Z⟩
 have h13:=p.r 2 Z
 have h14:=p.r 3 Z
 replace f_v1:=f_v1.fr m
 replace q:=q.fr m
 obtain ⟨rl8,q9,c⟩:=zA9 c
 replace q9:=q9 Z
 refine zPL (fun R w=>∃ A:Av,∃ (s10:(List Int)) (uo_u6:Value),rl8=s10/\AvOK A w/\Fr w0 w/\(∀ b o,A0 b o->A b o)/\IniOK [ob uo_u6 (.vec w0.heap.size 3 (eInt .i64) s10)] A w/\R 5=uo_u6) ?_ ?_
 refine HT.block<|zPP (fun k R w=>∃ A:Av,∃ (y11:Int) (y12:List Int) (ul_u6:Value),zBT fu p0 p1 k y11 y12=some rl8/\AvOK A w/\Fr w0 w/\(∀ b o,A0 b o->A b o)/\IniOK [ob ul_u6 (.vec w0.heap.size 3 (eInt .i64) y12),ob (.pointer (some ⟨b2_0,0,none⟩)) (.box w0.heap.size 27 zA2 p0)] A w/\R 1=v1/\R 2=(.pointer (some ⟨b2_0,0,none⟩))/\R 5=ul_u6/\R 12=u7/\R 13=.int .i64 (p0.2.2.length:Int)/\R 14=.int .i64 y11/\Rep (eSl zA1) A w u7 p0.2.2/\Rep (eSl eStr) A w v1 p1) fu ⟨_,_,_,u6,q9,d,j,B,q,h1,h2,h5,h12,h13,h14,f_u7,f_v1⟩ ?_
 have hr0:=c;clear c q9
 rintro k R w ⟨A,y11,y12,ul_u6,c,d,j,B,q,h1,h2,h5,h12,h13,h14,f_u7,f_v1⟩
 rcases k with _ | k
 cases (show none=some _ from c)
 rw [zBT] at c
 refine zPR d j (eB (decide (y11<(p0.2.2.length:Int)))::[]) ?_ ?_
 exact op (fun Q U W H D=>zB8 ((H 14 Z).trans h14) ((H 13 Z).trans h13))<|oz
 intro R w m n p d j
 obtain ⟨h1,h2,h5,h12,h13,h14⟩:=k6 n h1 h2 h5 h12 h13 h14
 have h15:=p.r 0 Z
 replace f_u7:=f_u7.fr m
 replace f_v1:=f_v1.fr m
 replace q:=q.fr m
 refine zPQ ?_
 refine zPJ (decide (y11<(p0.2.2.length:Int))) h15 (fun c13=>?_) (fun c13=>?_)
 have c:=zAe c13 c
 refine HT.skip<|zPQ ?_
 refine HT.block ?_
 obtain ⟨e14,c⟩:=zAG c
 refine zPS [ob ul_u6 (.vec w0.heap.size 3 (eInt .i64) y12),ob (.pointer (some ⟨b2_0,0,none⟩)) (.box w0.heap.size 27 zA2 p0)] ((rF fun A=>.qtr zA1 A (gtD p0.2.2 y11))::(rF fun A=>.rep zA1 A (gtD p0.2.2 y11))::⟨_,true,[],some (.box w0.heap.size 54 zA1 (0,([]:List (List UInt8)))),true,fun A=>.any⟩::⟨_,true,[4],some (.box w0.heap.size 54 zA1 (gtD p0.2.2 y11)),false,fun A=>.any⟩::[]) (UAll.cons zCM (up (ua (ua (UAll.nil))))) q d ?_ ?_
 exact rp (fun V Q U O D=>zAC ((f_u7.stp O.stp).eq ((O.old 12 Z).trans h12)) ((O.old 14 Z).trans h14) underlying25 sizeOf54 e14)<|rp (fun V Q U O D=>(zAT (QRep.ptr (D.g 0 Z)) isAgg54 sizeOf54))<|rc (OblR.made _ Z Z Z Z fun V Q U O D=>by exact zCI zeroValue54 (fun A w=>zCo zAm zBD) (Nat.le_trans j.size O.ch.size))<|rc (OblR.took 4 _ _ Z Z Z Z Z fun V Q U O D u X Y J L M=>by have a1:Rep zA1 V U (Q 17) (gtD p0.2.2 y11):=D.g 1 Z;obtain ⟨b,hb,hB',hbx⟩:=X;have hop':=L _ _ Z Z Z Z;exact zBX a1 (hop'.symm.trans hb) hb ⟨b,hb,hB',hbx⟩ Y (FldS.id _) sizeOf54 Z)<|rz
 intro done ρ σ A R w y s
 obtain ⟨h1,h2,h5,h12,h13,h14⟩:=k6 s.rg h1 h2 h5 h12 h13 h14
 have z15:=s.inivR 0 Z
 have z16:=s.inivR 1 Z
 obtain ⟨b7_16,e_b7_16⟩:=s.boxv y 5 Z Z
 have z18:=(s.opnR y 5 3 Z Z Z Z Z).symm.trans e_b7_16
 have h7:=s.ov y 4 2 z18
 replace f_u7:=f_u7.stp s.stp
 replace f_v1:=f_v1.stp s.stp
 obtain ⟨B,j,d⟩:=s.s B C j q ⟨Z,⟨Z,N⟩⟩
 replace q:=s.left y [(0,ob ul_u6 (.vec w0.heap.size 3 (eInt .i64) y12)),(1,ob (.pointer (some ⟨b2_0,0,none⟩)) (.box w0.heap.size 27 zA2 p0)),(5,ob (.pointer (some ⟨b7_16,0,none⟩)) (.box w0.heap.size 54 zA1 (gtD p0.2.2 y11)))] ⟨Z,Z,z15,Z,Z,⟨Z,Z,z16,Z,Z,⟨Z,Z,e_b7_16,Z,Z,N⟩⟩⟩
 obtain ⟨x19,q20,c⟩:=zA9 c
 refine zPR d j (eR (.pointer (some ⟨b7_16,1,none⟩))::eF (.rep (eSl eStr) A ((gtD p0.2.2 y11).2))::eR v1::eR (.pointer (some ⟨b2_0,0,none⟩))::eI p0.1::eB x19::[]) ?_ ?_
 exact op (fun Q U W H D=>zA8 ((H 7 Z).trans h7) zEi sizeOf28 (by decide) Z)<|op (fun Q U W H D=>(zAA ((q.fr W).ok 2 _ Z).1 (D.g 0 Z) zAg Z isAgg28 sizeOf28))<|om h1<|op (fun Q U W H D=>zA8 ((H 2 Z).trans h2) zF0 sizeOf3 (by decide) Z)<|op (fun Q U W H D=>OpF.int (zAA ((q.fr W).ok 1 _ Z).1 (D.g 0 Z) zB4 Z isAgg3 sizeOf3))<|op (fun Q U W H D=>zAM call27 (zEZ (q20 Z) (d.fr W.size) (D.g 0 Z) ((f_v1.fr W).eq (D.g 1 Z)) (D.g 2 Z)))<|oz
 intro R w m n p d j
 obtain ⟨h1,h2,h5,h7,h12,h13⟩:=k6 n h1 h2 h5 h7 h12 h13
 replace h14:=k1 n h14
 have h23:=p.r 5 Z
 replace f_u7:=f_u7.fr m
 replace f_v1:=f_v1.fr m
 replace q:=q.fr m
 refine zPJ x19 h23 (fun c21=>?_) (fun c21=>?_)
 have c:=zAe c21 c
 obtain ⟨e22,c⟩:=zAG c
 refine zPV [ob ul_u6 (.vec w0.heap.size 3 (eInt .i64) y12),ob (.pointer (some ⟨b2_0,0,none⟩)) (.box w0.heap.size 27 zA2 p0),ob (.pointer (some ⟨b7_16,0,none⟩)) (.box w0.heap.size 54 zA1 (gtD p0.2.2 y11))] (rR ul_u6::rR (.pointer (some ⟨b7_16,0,none⟩))::rI ((gtD p0.2.2 y11).1)::(rF fun A=>.rep (eSl (eInt .i64)) A ([(gtD p0.2.2 y11).1]:List Int))::⟨_,true,[0],some (.vec w0.heap.size 3 (eInt .i64) (y12++([(gtD p0.2.2 y11).1]:List Int))),true,fun A=>.any⟩::⟨_,true,[7],some (.vec w0.heap.size 3 (eInt .i64) (y12++([(gtD p0.2.2 y11).1]:List Int))),true,fun A=>.any⟩::[]) (ur (ur (ur (up (ua (ua (UAll.nil))))))) q d ?_ ?_
 exact rm h5<|rp (fun V Q U O D=>zA8 ((O.old 7 Z).trans h7) zDc sizeOf3 (by decide) Z)<|rp (fun V Q U O D=>OpF.int (zAA (O.rd 2 _ Z Z) (D.g 0 Z) zAU Z isAgg3 sizeOf3))<|rp (fun V Q U O D=>zC7 [_] (E:=eInt .i64) ⟨(zBa.eq (D.g 0 Z)),N⟩ underlying31 sizeOf3 zeroValue3 Z Z Z O.av)<|rc (OblR.took 0 _ _ Z Z Z Z Z fun V Q U O D u X Y J L M=>by have a0:Q 24=ul_u6:=D.g 0 Z;have a1:Rep (eSl (eInt .i64)) V U (Q 27) ([(gtD p0.2.2 y11).1]:List Int):=D.g 1 Z;exact zAs (a0.trans (J _ Z).symm) X Y (Nat.le_trans j.size O.ch.size) a1 underlying31 el_3 e22)<|rc (OblR.took 7 _ _ Z Z Z Z Z fun V Q U O D u X Y J L M=>by exact zAP (L _ _ Z Z Z Z).symm X Y)<|rz
 intro done ρ σ A R w y s
 obtain ⟨h1,h2,h12,h13,h14⟩:=k5 s.rg h1 h2 h12 h13 h14
 obtain ⟨u23,e_u23⟩:∃ u,ρ 8=u:=⟨_,Z⟩
 have h5:=s.ov y 8 5 e_u23
 have z24:=s.inivR 1 Z
 have z25:=s.inivR 2 Z
 replace f_u7:=f_u7.stp s.stp
 replace f_v1:=f_v1.stp s.stp
 obtain ⟨B,j,d⟩:=s.s B C j q ⟨Z,⟨Z,⟨Z,N⟩⟩⟩
 replace q:=s.left y [(8,ob u23 (.vec w0.heap.size 3 (eInt .i64) (y12++([(gtD p0.2.2 y11).1]:List Int)))),(1,ob (.pointer (some ⟨b2_0,0,none⟩)) (.box w0.heap.size 27 zA2 p0))] ⟨Z,Z,e_u23,Z,Z,⟨Z,Z,z24,Z,Z,N⟩⟩
 obtain ⟨e26,c⟩:=zAG c
 refine HT.u d j (eI (y11+1)::eI (y11+1)::[]) ?_ ?_
 exact op (fun Q U W H D=>zAi ((H 14 Z).trans h14) Z e26)<|ov<|oz
 intro R w m n p d j
 obtain ⟨h1,h2,h5,h12,h13⟩:=k5 n h1 h2 h5 h12 h13
 have h14:=p.r 1 Z
 replace f_u7:=f_u7.fr m
 replace f_v1:=f_v1.fr m
 replace q:=q.fr m
 exact ei k (And.intro (Nat.lt_succ_self k) ⟨_,_,_,u23,c,d,j,B,q,h1,h2,h5,h12,h13,h14,f_u7,f_v1⟩)
 have c:=zAd c21 c
 refine HT.skip ?_
 obtain ⟨e27,c⟩:=zAG c
 refine HT.u d j (eI (y11+1)::eI (y11+1)::[]) ?_ ?_
 exact op (fun Q U W H D=>zAi ((H 14 Z).trans h14) Z e27)<|ov<|oz
 intro R w m n p d j
 obtain ⟨h1,h2,h5,h12,h13⟩:=k5 n h1 h2 h5 h12 h13
 have h14:=p.r 1 Z
 replace f_u7:=f_u7.fr m
 replace f_v1:=f_v1.fr m
 replace q:=q.fr m
 replace q:IniOK [ob ul_u6 (.vec w0.heap.size 3 (eInt .i64) y12),ob (.pointer (some ⟨b2_0,0,none⟩)) (.box w0.heap.size 27 zA2 p0)] A w:=q.sub [(0,ob ul_u6 (.vec w0.heap.size 3 (eInt .i64) y12)),(1,ob (.pointer (some ⟨b2_0,0,none⟩)) (.box w0.heap.size 27 zA2 p0))] ⟨Z,Z,⟨Z,Z,N⟩⟩
 exact ei k (And.intro (Nat.lt_succ_self k) ⟨_,_,_,ul_u6,c,d,j,B,q,h1,h2,h5,h12,h13,h14,f_u7,f_v1⟩)
 have c:=zAd c13 c
 refine zPO ?_
 obtain rfl:=si c
 replace q:IniOK [ob ul_u6 (.vec w0.heap.size 3 (eInt .i64) y12)] A w:=q.sub [(0,ob ul_u6 (.vec w0.heap.size 3 (eInt .i64) y12))] ⟨Z,Z,N⟩
 exact ei _ ⟨_,ul_u6,Z,d,j,B,q,h5⟩
 rintro R w ⟨A,s10,uo_u6,es,d,j,B,q,h5⟩
 obtain rfl:=es.symm
 refine zPR d j (eR uo_u6::eR uo_u6::[]) ?_ ?_
 exact om h5<|oa<|oz
 intro R w m n p d j
 have h4:=p.r 1 Z
 replace q:=q.fr m
 refine HT.ret ?_
 obtain rfl:=si c
 exact ⟨.inr Z,[R 4],⟨Z,N⟩,(zBk (q.ok 0 _ Z) B h4),j⟩
theorem zDi {fu : Nat} {A0 : Av} {p0 : zA7} {p1 : List (List UInt8)} {r : List Int} (c : zBi fu p0 p1 = some r) {w : World} {v0 : Value} {v1 : Value} (d : AvOK A0 w) (h0 : Rep zA2 A0 w v0 p0) (h1 : Rep (eSl eStr) A0 w v1 p1) :
 Calls prog 7 #[v0,v1] w fun e w'=>∃ v,e=.returned v/\(Rep (eSl (eInt .i64)) A0 w' v r/\Fr w w'):=by
 refine Calls.mono (zGn c d h0 h1) ?_
 rintro e w' ⟨v,he,hv,hf⟩
 exact ⟨v,he,zDt hv (fun b o h=>.inl h) d,hf⟩
def zDC (fu:Nat) (p0:Int) (p1:Int) (p2:Int):Option Bool:=
 cl true (zCe fu p0 0 1000) fun x1=>
 cl (true&&(x1==true)) (zCe fu p1 0 1000) fun x3=>
 bd (x1&&x3) fun x5=>
 cl (true&&(x5==true)) (zCe fu p2 1 1000) fun x7=>
 bd (x5&&x7) fun x9=>
 some x9
theorem zEz {fu : Nat} {A : Av} {p0 : Int} {p1 : Int} {p2 : Int} {r : Bool} (c : zDC fu p0 p1 p2 = some r) {w : World} {v0 : Value} {v1 : Value} {v2 : Value} (d : AvOK A w) (h0 : v0=.int .i64 p0) (h1 : v1=.int .i64 p1) (h2 : v2=.int .i64 p2) :
 Calls prog 59 #[v0,v1,v2] w fun e w'=>∃ v,e=.returned v/\(v=.bool r/\Fr w w'):=by
 unfold zDC at c
 obtain ⟨w0,hw0,j⟩:=pf w
 rw [fw hw0]
 refine zAB [.tmp 6] func59 ntmps59 (by decide) Z Z (nb Z) ?_
 intro R hR
 replace h0:R 0=.int .i64 p0:=(hR 0 _ Z).trans h0
 replace h1:R 1=.int .i64 p1:=(hR 1 _ Z).trans h1
 replace h2:R 2=.int .i64 p2:=(hR 2 _ Z).trans h2
 refine zPR d j (eB false::[]) ?_ ?_
 exact op (fun Q U W H D=>zA6 Z)<|oz
 intro R w m n p d j
 obtain ⟨h0,h1,h2⟩:=k3 n h0 h1 h2
 refine zPQ ?_
 obtain ⟨x1,q2,c⟩:=zA9 c
 obtain ⟨x3,q4,c⟩:=zA9 c
 obtain ⟨x5,q6,c⟩:=zAO c
 obtain ⟨x7,q8,c⟩:=zA9 c
 obtain ⟨x9,q10,c⟩:=zAO c
 refine HT.u d j (eI p0::eB x1::eB x1::gI (true&&(x1==true)) p1::gB (true&&(x1==true)) x3::eB x5::eB x5::gI (true&&(x5==true)) p2::gB (true&&(x5==true)) x7::eB x9::eB x9::[]) ?_ ?_
 exact om h0<|op (fun Q U W H D=>zAM call31 (zCp (q2 Z) (d.fr W.size) (D.g 0 Z) Z Z))<|ov<|gm 2 true h1<|og 2 true (fun G Q U W H D=>zAM call31 (zCp (q4 G) (d.fr W.size) (D.h 0 G Z) Z Z))<|op (fun Q U W H D=>zAR x1 (D.g 0 Z) (fun hc=>by have a1:Q 11=.bool x3:=D 1 _ _ _ Z Z Z Z (zBJ Z (zAf hc));show _=Value.bool x5;rw [q6,hc];exact a1) (fun hc=>by show _=Value.bool x5;rw [q6,hc];exact Z))<|ov<|gm 6 true h2<|og 6 true (fun G Q U W H D=>zAM call31 (zCp (q8 G) (d.fr W.size) (D.h 0 G Z) Z Z))<|op (fun Q U W H D=>zAR x5 (D.g 0 Z) (fun hc=>by have a1:Q 15=.bool x7:=D 1 _ _ _ Z Z Z Z (zBJ Z (zAf hc));show _=Value.bool x9;rw [q10,hc];exact a1) (fun hc=>by show _=Value.bool x9;rw [q10,hc];exact Z))<|oa<|oz
 intro R w m n p d j
 have h6:=p.r 10 Z
 refine HT.ret ?_
 obtain rfl:=si c
 exact ⟨.inr Z,[R 6],⟨Z,N⟩,h6,j⟩
def zCS (fu:Nat) (p0:Int) (p1:Int):Option (Int × Int):=
 cl true (zDC fu p0 0 p1) fun x1=>
 bif (!x1) then (
 some ((-1),(-1))
 ) else (
 ck (i64B (p0*p1)) <|
 ck (i64B ((p0*p1)+999)) <|
 ck ((1000:Int) != 0) <|
 ck (i64B (((p0*p1)+999).tdiv 1000)) <|
 ck (i64B (p0*1000)) <|
 ck (p1 != 0) <|
 ck (i64B ((p0*1000).tdiv p1)) <|
 some ((((p0*p1)+999).tdiv 1000),((p0*1000).tdiv p1))
 )
theorem zEb {fu : Nat} {A : Av} {p0 : Int} {p1 : Int} {r : Int × Int} (c : zCS fu p0 p1 = some r) {w : World} {v0 : Value} {v1 : Value} (d : AvOK A w) (h0 : v0=.int .i64 p0) (h1 : v1=.int .i64 p1) :
 Calls prog 30 #[v0,v1] w fun e w'=>∃ v,e=.returned v/\((∃ a b,v=.tuple #[a,b]/\a=.int .i64 r.1/\b=.int .i64 r.2)/\Fr w w'):=by
 unfold zCS at c
 obtain ⟨w0,hw0,j⟩:=pf w
 rw [fw hw0]
 refine zAB [.tmp 4,.tmp 5] func30 ntmps30 (by decide) Z Z (nb Z) ?_
 intro R hR
 replace h0:R 0=.int .i64 p0:=(hR 0 _ Z).trans h0
 replace h1:R 1=.int .i64 p1:=(hR 1 _ Z).trans h1
 refine zPR d j (eI 0::eI 0::[]) ?_ ?_
 exact op (fun Q U W H D=>zA6 Z)<|op (fun Q U W H D=>zA6 Z)<|oz
 intro R w m n p d j
 obtain ⟨h0,h1⟩:=k2 n h0 h1
 refine zPQ ?_
 obtain ⟨x1,q2,c⟩:=zA9 c
 refine zPR d j (eI p0::eI p1::eB x1::eB (!x1)::[]) ?_ ?_
 exact om h0<|om h1<|op (fun Q U W H D=>zAM call59 (zEz (q2 Z) (d.fr W.size) (D.g 0 Z) Z (D.g 1 Z)))<|op (fun Q U W H D=>zBY (D.g 0 Z))<|oz
 intro R w m n p d j
 obtain ⟨h0,h1⟩:=k2 n h0 h1
 have h9:=p.r 3 Z
 refine zPJ (!x1) h9 (fun c3=>?_) (fun c3=>?_)
 have c:=zAe c3 c
 refine zPR d j (eI (-1)::eI (-1)::[]) ?_ ?_
 exact op (fun Q U W H D=>zA6 Z)<|op (fun Q U W H D=>zA6 Z)<|oz
 intro R w m n p d j
 have h4:=p.r 0 Z
 have h5:=p.r 1 Z
 refine HT.ret ?_
 obtain rfl:=si c
 exact ⟨.inr Z,[R 4,R 5],⟨Z,⟨Z,N⟩⟩,⟨_,_,Z,h4,h5⟩,j⟩
 have c:=zAd c3 c
 refine HT.skip<|zPQ ?_
 obtain ⟨e4,e5,e6,e7,c⟩:=ck4 c
 obtain ⟨e8,e9,e10,c⟩:=ck3 c
 refine zPM (by kernel_rfl) (l:=eI p0::eI p1::eI (p0*p1)::eI ((p0*p1)+999)::eI (((p0*p1)+999).tdiv 1000)::eI p0::eI (p0*1000)::eI p1::eI ((p0*1000).tdiv p1)::eI (((p0*p1)+999).tdiv 1000)::eI ((p0*1000).tdiv p1)::[]) (tl:=[]) (by kernel_rfl) (by kernel_rfl) (by kernel_rfl) (by kernel_rfl) ?_ ?_
 exact om h0<|om h1<|op (fun Q U W H D=>zFx (D.g 0 Z) (D.g 1 Z) e4)<|op (fun Q U W H D=>zAi (D.g 0 Z) Z e5)<|op (fun Q U W H D=>zLd (D.g 0 Z) Z e6 e7)<|om h0<|op (fun Q U W H D=>zFx (D.g 0 Z) Z e8)<|om h1<|op (fun Q U W H D=>zLd (D.g 0 Z) (D.g 1 Z) e9 e10)<|oa<|oa<|oz
 intro R w m n p
 have h4:=p.r 9 Z
 have h5:=p.r 10 Z
 replace d:=d.fr m.size
 replace j:=j.trans m
 refine HT.ret ?_
 obtain rfl:=si c
 exact ⟨.inr Z,[R 4,R 5],⟨Z,⟨Z,N⟩⟩,⟨_,_,Z,h4,h5⟩,j⟩
def zCq (fu:Nat) (p0:Int) (p1:Int):Option Int:=
 cl true (zDC fu p0 0 p1) fun x1=>
 bif (!x1) then (
 some (-1)
 ) else (
 bif (p0==0) then (
 some 0
 ) else (
 cl true (zCS fu p0 p1) fun x5=>
 ck (i64B (p0-x5.1)) <|
 ck (i64B ((p0-x5.1)+1)) <|
 some ((p0-x5.1)+1)
 )
 )
theorem zGC {fu : Nat} {A : Av} {p0 : Int} {p1 : Int} {r : Int} (c : zCq fu p0 p1 = some r) {w : World} {v0 : Value} {v1 : Value} (d : AvOK A w) (h0 : v0=.int .i64 p0) (h1 : v1=.int .i64 p1) :
 Calls prog 85 #[v0,v1] w fun e w'=>∃ v,e=.returned v/\(v=.int .i64 r/\Fr w w'):=by
 unfold zCq at c
 obtain ⟨w0,hw0,j⟩:=pf w
 rw [fw hw0]
 refine zAB [.tmp 4] func85 ntmps85 (by decide) Z Z (nb Z) ?_
 intro R hR
 replace h0:R 0=.int .i64 p0:=(hR 0 _ Z).trans h0
 replace h1:R 1=.int .i64 p1:=(hR 1 _ Z).trans h1
 refine zPR d j (eI 0::[]) ?_ ?_
 exact op (fun Q U W H D=>zA6 Z)<|oz
 intro R w m n p d j
 obtain ⟨h0,h1⟩:=k2 n h0 h1
 refine zPQ ?_
 obtain ⟨x1,q2,c⟩:=zA9 c
 refine zPR d j (eI p0::eI p1::eB x1::eB (!x1)::[]) ?_ ?_
 exact om h0<|om h1<|op (fun Q U W H D=>zAM call59 (zEz (q2 Z) (d.fr W.size) (D.g 0 Z) Z (D.g 1 Z)))<|op (fun Q U W H D=>zBY (D.g 0 Z))<|oz
 intro R w m n p d j
 obtain ⟨h0,h1⟩:=k2 n h0 h1
 have h10:=p.r 3 Z
 refine zPJ (!x1) h10 (fun c3=>?_) (fun c3=>?_)
 have c:=zAe c3 c
 refine zPR d j (eI (-1)::[]) ?_ ?_
 exact op (fun Q U W H D=>zA6 Z)<|oz
 intro R w m n p d j
 have h4:=p.r 0 Z
 refine HT.ret ?_
 obtain rfl:=si c
 exact ⟨.inr Z,[R 4],⟨Z,N⟩,h4,j⟩
 have c:=zAd c3 c
 refine HT.skip<|zPQ ?_
 refine zPR d j (eI p0::eB (p0==0)::[]) ?_ ?_
 exact om h0<|op (fun Q U W H D=>zEt (D.g 0 Z) Z)<|oz
 intro R w m n p d j
 obtain ⟨h0,h1⟩:=k2 n h0 h1
 have h12:=p.r 1 Z
 refine zPJ (p0==0) h12 (fun c4=>?_) (fun c4=>?_)
 have c:=zAe c4 c
 refine zPR d j (eI 0::[]) ?_ ?_
 exact op (fun Q U W H D=>zA6 Z)<|oz
 intro R w m n p d j
 have h4:=p.r 0 Z
 refine HT.ret ?_
 obtain rfl:=si c
 exact ⟨.inr Z,[R 4],⟨Z,N⟩,h4,j⟩
 have c:=zAd c4 c
 refine HT.skip ?_
 obtain ⟨x5,q6,c⟩:=zA9 c
 refine zPR d j (eI p0::eI p1::eF (.tup2 (.raw (.int .i64 x5.1)) (.raw (.int .i64 x5.2)))::eF (.tup2 (.raw (.int .i64 x5.1)) (.raw (.int .i64 x5.2)))::eI x5.1::eI x5.2::eI x5.1::eI x5.2::[]) ?_ ?_
 exact om h0<|om h1<|op (fun Q U W H D=>zAM call30 (zEb (q6 Z) (d.fr W.size) (D.g 0 Z) (D.g 1 Z)))<|op (fun Q U W H D=>zBI (D.g 0 Z))<|op (fun Q U W H D=>zBv (D.g 0 Z))<|op (fun Q U W H D=>zBj (D.g 0 Z))<|oa<|oa<|oz
 intro R w m n p d j
 replace h0:=k1 n h0
 have h5:=p.r 6 Z
 obtain ⟨e7,e8,c⟩:=ck2 c
 refine zPR d j (eI p0::eI x5.1::eI (p0-x5.1)::eI ((p0-x5.1)+1)::eI ((p0-x5.1)+1)::[]) ?_ ?_
 exact om h0<|om h5<|op (fun Q U W H D=>zDf (D.g 0 Z) (D.g 1 Z) e7)<|op (fun Q U W H D=>zAi (D.g 0 Z) Z e8)<|oa<|oz
 intro R w m n p d j
 have h4:=p.r 4 Z
 refine HT.ret ?_
 obtain rfl:=si c
 exact ⟨.inr Z,[R 4],⟨Z,N⟩,h4,j⟩
def zBH (fu : Nat) (p0 : List zA3) (p1 : List UInt8) : Nat -> Int -> Option (Ex Int Unit)
 | 0,_=>none
 | k+1,y4=>
 bif (decide (y4<(p0.length:Int))) then (
 ck (inR y4 p0.length) <|
 bif (((gtD p0 y4).1)==p1) then (
 ck (inR y4 p0.length) <|
 some (Ex.ret ((gtD p0 y4).2))
 ) else (
 ck (i64B (y4+1)) <|
 zBH fu p0 p1 k (y4+1)
 )
 ) else (
 some (Ex.go ())
 )
def zBc (fu:Nat) (p0:List zA3) (p1:List UInt8):Option Int:=
 cl true (zBH fu p0 p1 fu 0) fun rl1=>
 exM rl1 (fun r=>some r) fun s3=>
 some 0
theorem zDO {fu : Nat} {A : Av} {p0 : List zA3} {p1 : List UInt8} {r : Int} (c : zBc fu p0 p1 = some r) {w : World} {v0 : Value} {v1 : Value} (d : AvOK A w) (h0 : Rep (eSl zA0) A w v0 p0) (h1 : Rep eStr A w v1 p1) :
 Calls prog 98 #[v0,v1] w fun e w'=>∃ v,e=.returned v/\(v=.int .i64 r/\Fr w w'):=by
 unfold zBc at c
 obtain ⟨w0,hw0,j⟩:=pf w
 rw [fw hw0]
 refine zAB [.tmp 4] func98 ntmps98 (by decide) Z Z (nb Z) ?_
 intro R hR
 have f_v0:=h0
 replace h0:R 0=v0:=hR 0 _ Z
 have f_v1:=h1
 replace h1:R 1=v1:=hR 1 _ Z
 refine zPR d j (eI 0::[]) ?_ ?_
 exact op (fun Q U W H D=>zA6 Z)<|oz
 intro R w m n p d j
 obtain ⟨h0,h1⟩:=k2 n h0 h1
 replace f_v0:=f_v0.fr m
 replace f_v1:=f_v1.fr m
 refine zPQ ?_
 refine zPR d j (eI 0::[]) ?_ ?_
 exact op (fun Q U W H D=>zA6 Z)<|oz
 intro R w m n p d j
 obtain ⟨h0,h1⟩:=k2 n h0 h1
 have h5:=p.r 0 Z
 replace f_v0:=f_v0.fr m
 replace f_v1:=f_v1.fr m
 obtain ⟨rl1,q2,c⟩:=zA9 c
 replace q2:=q2 Z
 refine zPL (fun R w=>∃ (s3:Unit),rl1=Ex.go s3/\AvOK A w/\Fr w0 w) ?_ ?_
 refine HT.block<|zPP (fun k R w=>∃ (y4:Int),zBH fu p0 p1 k y4=some rl1/\AvOK A w/\Fr w0 w/\R 0=v0/\R 1=v1/\R 5=.int .i64 y4/\Rep (eSl zA0) A w v0 p0/\Rep eStr A w v1 p1) fu ⟨_,q2,d,j,h0,h1,h5,f_v0,f_v1⟩ ?_
 have hr0:=c;clear c q2
 rintro k R w ⟨y4,c,d,j,h0,h1,h5,f_v0,f_v1⟩
 rcases k with _ | k
 cases (show none=some _ from c)
 rw [zBH] at c
 refine zPQ ?_
 refine zPR d j (eI y4::eR v0::eI (p0.length:Int)::eB (decide (y4<(p0.length:Int)))::[]) ?_ ?_
 exact om h5<|om h0<|op (fun Q U W H D=>zAN (aT:=#[]) ((f_v0.fr W).eq (D.g 0 Z)) underlying24)<|op (fun Q U W H D=>zB8 (D.g 0 Z) (D.g 1 Z))<|oz
 intro R w m n p d j
 obtain ⟨h0,h1,h5⟩:=k3 n h0 h1 h5
 have h9:=p.r 3 Z
 replace f_v0:=f_v0.fr m
 replace f_v1:=f_v1.fr m
 refine zPJ (decide (y4<(p0.length:Int))) h9 (fun c5=>?_) (fun c5=>?_)
 have c:=zAe c5 c
 refine HT.skip<|zPQ ?_
 refine HT.block ?_
 obtain ⟨e6,c⟩:=zAG c
 refine zPR d j (eR v0::eI y4::eF (.qtr zA0 A (gtD p0 y4))::eF (.qtr eStr A ((gtD p0 y4).1))::eF (.rep eStr A ((gtD p0 y4).1))::eR v1::eB (((gtD p0 y4).1)==p1)::[]) ?_ ?_
 exact om h0<|om h5<|op (fun Q U W H D=>zAC ((f_v0.fr W).eq (D.g 0 Z)) (D.g 1 Z) underlying24 sizeOf83 e6)<|op (fun Q U W H D=>zAX (qt (D.g 0 Z)) zHt sizeOf9 (by decide) zCE Z)<|op (fun Q U W H D=>(zAT (QRep.ptr (D.g 0 Z)) isAgg9 sizeOf9))<|om h1<|op (fun Q U W H D=>zFc (D.g 0 Z) ((f_v1.fr W).eq (D.g 1 Z)))<|oz
 intro R w m n p d j
 obtain ⟨h0,h1,h5⟩:=k3 n h0 h1 h5
 have h18:=p.r 6 Z
 replace f_v0:=f_v0.fr m
 replace f_v1:=f_v1.fr m
 refine zPJ (((gtD p0 y4).1)==p1) h18 (fun c7=>?_) (fun c7=>?_)
 have c:=zAe c7 c
 obtain ⟨e8,c⟩:=zAG c
 refine zPR d j (eR v0::eI y4::eF (.qtr zA0 A (gtD p0 y4))::eF (.qtr (eInt .i64) A ((gtD p0 y4).2))::eI ((gtD p0 y4).2)::eI ((gtD p0 y4).2)::[]) ?_ ?_
 exact om h0<|om h5<|op (fun Q U W H D=>zAC ((f_v0.fr W).eq (D.g 0 Z)) (D.g 1 Z) underlying24 sizeOf83 e8)<|op (fun Q U W H D=>zAX (qt (D.g 0 Z)) zHh sizeOf3 (by decide) zCi Z)<|op (fun Q U W H D=>OpF.int (zAT (QRep.ptr (D.g 0 Z)) isAgg3 sizeOf3))<|oa<|oz
 intro R w m n p d j
 have h4:=p.r 5 Z
 refine HT.ret ?_
 obtain rfl:=si c
 have c:=hr0
 replace c:some _=some _:=c
 obtain rfl:=si c
 exact ⟨.inr Z,[R 4],⟨Z,N⟩,h4,j⟩
 have c:=zAd c7 c
 refine HT.skip ?_
 obtain ⟨e9,c⟩:=zAG c
 refine HT.u d j (eI y4::eI (y4+1)::eI (y4+1)::[]) ?_ ?_
 exact om h5<|op (fun Q U W H D=>zAi (D.g 0 Z) Z e9)<|oa<|oz
 intro R w m n p d j
 obtain ⟨h0,h1⟩:=k2 n h0 h1
 have h5:=p.r 2 Z
 replace f_v0:=f_v0.fr m
 replace f_v1:=f_v1.fr m
 exact ei k (And.intro (Nat.lt_succ_self k) ⟨_,c,d,j,h0,h1,h5,f_v0,f_v1⟩)
 have c:=zAd c5 c
 refine zPO ?_
 obtain rfl:=si c
 exact ei _ ⟨Z,d,j⟩
 rintro R w ⟨s3,rfl,d,j⟩
 have c:=zEK c
 refine zPR d j (eI 0::[]) ?_ ?_
 exact op (fun Q U W H D=>zA6 Z)<|oz
 intro R w m n p d j
 have h4:=p.r 0 Z
 refine HT.ret ?_
 obtain rfl:=si c
 exact ⟨.inr Z,[R 4],⟨Z,N⟩,h4,j⟩
def zBb (fu : Nat) (p0 : List zA3) (p1 : List (List UInt8)) (y5 : Int) (y6 : List (List UInt8)) (x9 : Int) : Nat -> Int -> Option Int
 | 0,_=>none
 | k+1,y14=>
 ck (!(true&&((decide (0<y14))==true)) || i64B (y14-1)) <|
 ck (!(true&&((decide (0<y14))==true)) || inR (y14-1) y6.length) <|
 cl (true&&((decide (0<y14))==true)) (zBc fu p0 (gtD y6 (y14-1))) fun x17=>
 ck (!((true&&((decide (0<y14))==true))&&((decide (x9<x17))==false)) || i64B (y14-1)) <|
 ck (!((true&&((decide (0<y14))==true))&&((decide (x9<x17))==false)) || inR (y14-1) y6.length) <|
 cl ((true&&((decide (0<y14))==true))&&((decide (x9<x17))==false)) (zBc fu p0 (gtD y6 (y14-1))) fun x21=>
 ck (!(((true&&((decide (0<y14))==true))&&((decide (x9<x17))==false))&&((x21==x9)==true)) || i64B (y14-1)) <|
 ck (!(((true&&((decide (0<y14))==true))&&((decide (x9<x17))==false))&&((x21==x9)==true)) || inR (y14-1) y6.length) <|
 ck (!(((true&&((decide (0<y14))==true))&&((decide (x9<x17))==false))&&((x21==x9)==true)) || inR y5 p1.length) <|
 bd ((x21==x9)&&(!(bLt (gtD y6 (y14-1)) (gtD p1 y5) || (gtD y6 (y14-1))==(gtD p1 y5)))) fun x26=>
 bd ((decide (x9<x17)) || x26) fun x28=>
 bd ((decide (0<y14))&&x28) fun x30=>
 bif x30 then (
 ck (i64B (y14-1)) <|
 zBb fu p0 p1 y5 y6 x9 k (y14-1)
 ) else (
 some y14
 )
def zBe (fu : Nat) (p0 : List zA3) (p1 : List (List UInt8)) : Nat -> Int -> (List (List UInt8)) -> Option (List (List UInt8))
 | 0,_,_=>none
 | k+1,y5,y6=>
 bif (decide (y5<(p1.length:Int))) then (
 ck (inR y5 p1.length) <|
 cl true (zBc fu p0 (gtD p1 y5)) fun x9=>
 cl true (zBb fu p0 p1 y5 y6 x9 fu (y6.length:Int)) fun s13=>
 ck (subR 0 s13 y6.length) <|
 bd (s13.toNat-(0:Int).toNat) fun x35=>
 ck (zD4 (([]:List (List UInt8)).length+(subL y6 0 s13).length)) <|
 ck (inR y5 p1.length) <|
 ck (zD4 ((([]:List (List UInt8))++(subL y6 0 s13)).length+([(gtD p1 y5)]:List (List UInt8)).length)) <|
 ck (subR s13 (y6.length:Int) y6.length) <|
 bd ((y6.length:Int).toNat-s13.toNat) fun x41=>
 ck (zD4 (((([]:List (List UInt8))++(subL y6 0 s13))++([(gtD p1 y5)]:List (List UInt8))).length+(subL y6 s13 (y6.length:Int)).length)) <|
 ck (i64B (y5+1)) <|
 zBe fu p0 p1 k (y5+1) (((([]:List (List UInt8))++(subL y6 0 s13))++([(gtD p1 y5)]:List (List UInt8)))++(subL y6 s13 (y6.length:Int)))
 ) else (
 some y6
 )
def zDB (fu:Nat) (p0:List zA3) (p1:List (List UInt8)):Option (List (List UInt8)):=
 cl true (zBe fu p0 p1 fu 0 ([]:List (List UInt8))) fun s4=>
 some s4
theorem zGM {fu : Nat} {A0 : Av} {p0 : List zA3} {p1 : List (List UInt8)} {r : List (List UInt8)} (c : zDB fu p0 p1 = some r) {w : World} {v0 : Value} {v1 : Value} (d : AvOK A0 w) (h0 : Rep (eSl zA0) A0 w v0 p0) (h1 : Rep (eSl eStr) A0 w v1 p1) :
 Calls prog 86 #[v0,v1] w fun e w'=>∃ v,e=.returned v/\((Res.vec w.heap.size 9 eStr r).ok (addA A0 v) v w'/\Fr w w'):=by
 unfold zDB at c
 obtain ⟨w0,hw0,j,C⟩:=pw d
 have hA00:AvOK A0 w0:=C
 rw [fh hw0]
 rw [fw hw0]
 obtain ⟨A,hAe,B,d,q⟩:=pa d
 refine zAB [.tmp 4] func86 ntmps86 (by decide) Z Z (nb Z) ?_
 intro R hR
 have f_v0:Rep (eSl zA0) A w v0 p0:=hAe ▸ h0
 replace h0:R 0=v0:=hR 0 _ Z
 have f_v1:Rep (eSl eStr) A w v1 p1:=hAe ▸ h1
 replace h1:R 1=v1:=hR 1 _ Z
 refine zPR d j (eA::[]) ?_ ?_
 exact op (fun Q U W H D=>zA6 N)<|oz
 intro R w m n p d j
 obtain ⟨h0,h1⟩:=k2 n h0 h1
 replace f_v0:=f_v0.fr m
 replace f_v1:=f_v1.fr m
 replace q:=q.fr m
 refine zPS [] (⟨_,true,[],some (.vec w0.heap.size 9 eStr ([]:List (List UInt8))),true,fun A=>.any⟩::⟨_,true,[0],some (.vec w0.heap.size 9 eStr ([]:List (List UInt8))),true,fun A=>.any⟩::[]) (ua (ua (UAll.nil))) q d ?_ ?_
 exact rc (OblR.made _ Z Z Z Z fun V Q U O D=>by exact zBM [] (E:=eStr) N underlying28 sizeOf9 zeroValue9 Z Z Z (Nat.le_trans j.size O.ch.size))<|rc (OblR.took 0 _ _ Z Z Z Z Z fun V Q U O D u X Y J L M=>by exact zAP (L _ _ Z Z Z Z).symm X Y)<|rz
 intro done ρ σ A R w y s
 obtain ⟨h0,h1⟩:=k2 s.rg h0 h1
 obtain ⟨u1,e_u1⟩:∃ u,ρ 1=u:=⟨_,Z⟩
 have h5:=s.ov y 1 1 e_u1
 replace f_v0:=f_v0.stp s.stp
 replace f_v1:=f_v1.stp s.stp
 obtain ⟨B,j,d⟩:=s.s B C j q N
 replace q:=s.left y [(1,ob u1 (.vec w0.heap.size 9 eStr ([]:List (List UInt8))))] ⟨Z,Z,e_u1,Z,Z,N⟩
 refine zPQ ?_
 refine zPR d j (eI 0::[]) ?_ ?_
 exact op (fun Q U W H D=>zA6 Z)<|oz
 intro R w m n p d j
 obtain ⟨h0,h1,h5⟩:=k3 n h0 h1 h5
 have h6:=p.r 0 Z
 replace f_v0:=f_v0.fr m
 replace f_v1:=f_v1.fr m
 replace q:=q.fr m
 obtain ⟨rl2,q3,c⟩:=zA9 c
 replace q3:=q3 Z
 refine zPL (fun R w=>∃ A:Av,∃ (s4:(List (List UInt8))) (uo_u1:Value),rl2=s4/\AvOK A w/\Fr w0 w/\(∀ b o,A0 b o->A b o)/\IniOK [ob uo_u1 (.vec w0.heap.size 9 eStr s4)] A w/\R 5=uo_u1) ?_ ?_
 refine HT.block<|zPP (fun k R w=>∃ A:Av,∃ (y5:Int) (y6:List (List UInt8)) (ul_u1:Value),zBe fu p0 p1 k y5 y6=some rl2/\AvOK A w/\Fr w0 w/\(∀ b o,A0 b o->A b o)/\IniOK [ob ul_u1 (.vec w0.heap.size 9 eStr y6)] A w/\R 0=v0/\R 1=v1/\R 5=ul_u1/\R 6=.int .i64 y5/\Rep (eSl zA0) A w v0 p0/\Rep (eSl eStr) A w v1 p1) fu ⟨_,_,_,u1,q3,d,j,B,q,h0,h1,h5,h6,f_v0,f_v1⟩ ?_
 have hr0:=c;clear c q3
 rintro k R w ⟨A,y5,y6,ul_u1,c,d,j,B,q,h0,h1,h5,h6,f_v0,f_v1⟩
 rcases k with _ | k
 cases (show none=some _ from c)
 rw [zBe] at c
 refine zPQ ?_
 refine zPR d j (eI y5::eR v1::eI (p1.length:Int)::eB (decide (y5<(p1.length:Int)))::[]) ?_ ?_
 exact om h6<|om h1<|op (fun Q U W H D=>zAN (aT:=#[]) ((f_v1.fr W).eq (D.g 0 Z)) underlying28)<|op (fun Q U W H D=>zB8 (D.g 0 Z) (D.g 1 Z))<|oz
 intro R w m n p d j
 obtain ⟨h0,h1,h5,h6⟩:=k4 n h0 h1 h5 h6
 have h13:=p.r 3 Z
 replace f_v0:=f_v0.fr m
 replace f_v1:=f_v1.fr m
 replace q:=q.fr m
 refine zPJ (decide (y5<(p1.length:Int))) h13 (fun c7=>?_) (fun c7=>?_)
 have c:=zAe c7 c
 refine HT.skip<|zPQ ?_
 refine HT.block ?_
 obtain ⟨e8,c⟩:=zAG c
 obtain ⟨x9,q10,c⟩:=zA9 c
 refine zPR d j (eR v0::eR v1::eI y5::eF (.qtr eStr A (gtD p1 y5))::eF (.rep eStr A (gtD p1 y5))::eI x9::eI x9::[]) ?_ ?_
 exact om h0<|om h1<|om h6<|op (fun Q U W H D=>zAC ((f_v1.fr W).eq (D.g 0 Z)) (D.g 1 Z) underlying28 sizeOf9 e8)<|op (fun Q U W H D=>(zAT (QRep.ptr (D.g 0 Z)) isAgg9 sizeOf9))<|op (fun Q U W H D=>zAM call98 (zDO (q10 Z) (d.fr W.size) ((f_v0.fr W).eq (D.g 0 Z)) (D.g 1 Z)))<|oa<|oz
 intro R w m n p d j
 obtain ⟨h0,h1,h5,h6⟩:=k4 n h0 h1 h5 h6
 have h7:=p.r 6 Z
 replace f_v0:=f_v0.fr m
 replace f_v1:=f_v1.fr m
 replace q:=q.fr m
 refine zPR d j (eR ul_u1::eI (y6.length:Int)::eI (y6.length:Int)::[]) ?_ ?_
 exact om h5<|op (fun Q U W H D=>zDq (q.ok 0 _ Z).1 (D.g 0 Z) underlying28)<|oa<|oz
 intro R w m n p d j
 obtain ⟨h0,h1,h5,h6,h7⟩:=k5 n h0 h1 h5 h6 h7
 have h8:=p.r 2 Z
 replace f_v0:=f_v0.fr m
 replace f_v1:=f_v1.fr m
 replace q:=q.fr m
 obtain ⟨rl11,q12,c⟩:=zA9 c
 replace q12:=q12 Z
 refine zPK (fun R w=>∃ A:Av,∃ (s13:Int),rl11=s13/\AvOK A w/\Fr w0 w/\(∀ b o,A0 b o->A b o)/\IniOK [ob ul_u1 (.vec w0.heap.size 9 eStr y6)] A w/\R 0=v0/\R 1=v1/\R 5=ul_u1/\R 6=.int .i64 y5/\R 8=.int .i64 s13/\Rep (eSl zA0) A w v0 p0/\Rep (eSl eStr) A w v1 p1) ?_ ?_
 refine HT.block<|zPP (fun k R w=>∃ A:Av,∃ (y14:Int),zBb fu p0 p1 y5 y6 x9 k y14=some rl11/\AvOK A w/\Fr w0 w/\(∀ b o,A0 b o->A b o)/\IniOK [ob ul_u1 (.vec w0.heap.size 9 eStr y6)] A w/\R 0=v0/\R 1=v1/\R 5=ul_u1/\R 6=.int .i64 y5/\R 7=.int .i64 x9/\R 8=.int .i64 y14/\Rep (eSl zA0) A w v0 p0/\Rep (eSl eStr) A w v1 p1) fu ⟨_,_,q12,d,j,B,q,h0,h1,h5,h6,h7,h8,f_v0,f_v1⟩ ?_
 have hr0:=c;clear c q12
 rintro k R w ⟨A,y14,c,d,j,B,q,h0,h1,h5,h6,h7,h8,f_v0,f_v1⟩
 rcases k with _ | k
 cases (show none=some _ from c)
 rw [zBb] at c
 refine zPQ ?_
 refine zPQ ?_
 obtain ⟨e15,e16,c⟩:=ck2 c
 obtain ⟨x17,q18,c⟩:=zA9 c
 obtain ⟨e19,e20,c⟩:=ck2 c
 obtain ⟨x21,q22,c⟩:=zA9 c
 obtain ⟨e23,e24,e25,c⟩:=ck3 c
 obtain ⟨x26,q27,c⟩:=zAO c
 obtain ⟨x28,q29,c⟩:=zAO c
 obtain ⟨x30,q31,c⟩:=zAO c
 refine zPM (by kernel_rfl) (l:=eI y14::eB (decide (0<y14))::eB (decide (0<y14))::gR (true&&((decide (0<y14))==true)) v0::gR (true&&((decide (0<y14))==true)) ul_u1::gI (true&&((decide (0<y14))==true)) y14::gI (true&&((decide (0<y14))==true)) (y14-1)::gR (true&&((decide (0<y14))==true)) (vptr ul_u1 ((y14-1).toNat*1))::gF (true&&((decide (0<y14))==true)) (.rep eStr A (gtD y6 (y14-1)))::gI (true&&((decide (0<y14))==true)) x17::gI (true&&((decide (0<y14))==true)) x9::gB (true&&((decide (0<y14))==true)) (decide (x9<x17))::gB (true&&((decide (0<y14))==true)) (decide (x9<x17))::gR ((true&&((decide (0<y14))==true))&&((decide (x9<x17))==false)) v0::gR ((true&&((decide (0<y14))==true))&&((decide (x9<x17))==false)) ul_u1::gI ((true&&((decide (0<y14))==true))&&((decide (x9<x17))==false)) y14::gI ((true&&((decide (0<y14))==true))&&((decide (x9<x17))==false)) (y14-1)::gR ((true&&((decide (0<y14))==true))&&((decide (x9<x17))==false)) (vptr ul_u1 ((y14-1).toNat*1))::gF ((true&&((decide (0<y14))==true))&&((decide (x9<x17))==false)) (.rep eStr A (gtD y6 (y14-1)))::gI ((true&&((decide (0<y14))==true))&&((decide (x9<x17))==false)) x21::gI ((true&&((decide (0<y14))==true))&&((decide (x9<x17))==false)) x9::gB ((true&&((decide (0<y14))==true))&&((decide (x9<x17))==false)) (x21==x9)::gB ((true&&((decide (0<y14))==true))&&((decide (x9<x17))==false)) (x21==x9)::gR (((true&&((decide (0<y14))==true))&&((decide (x9<x17))==false))&&((x21==x9)==true)) ul_u1::gI (((true&&((decide (0<y14))==true))&&((decide (x9<x17))==false))&&((x21==x9)==true)) y14::gI (((true&&((decide (0<y14))==true))&&((decide (x9<x17))==false))&&((x21==x9)==true)) (y14-1)::gR (((true&&((decide (0<y14))==true))&&((decide (x9<x17))==false))&&((x21==x9)==true)) (vptr ul_u1 ((y14-1).toNat*1))::gF (((true&&((decide (0<y14))==true))&&((decide (x9<x17))==false))&&((x21==x9)==true)) (.rep eStr A (gtD y6 (y14-1)))::gR (((true&&((decide (0<y14))==true))&&((decide (x9<x17))==false))&&((x21==x9)==true)) v1::gI (((true&&((decide (0<y14))==true))&&((decide (x9<x17))==false))&&((x21==x9)==true)) y5::gF (((true&&((decide (0<y14))==true))&&((decide (x9<x17))==false))&&((x21==x9)==true)) (.qtr eStr A (gtD p1 y5))::gF (((true&&((decide (0<y14))==true))&&((decide (x9<x17))==false))&&((x21==x9)==true)) (.rep eStr A (gtD p1 y5))::gB (((true&&((decide (0<y14))==true))&&((decide (x9<x17))==false))&&((x21==x9)==true)) (!(bLt (gtD y6 (y14-1)) (gtD p1 y5) || (gtD y6 (y14-1))==(gtD p1 y5)))::gB ((true&&((decide (0<y14))==true))&&((decide (x9<x17))==false)) x26::gB (true&&((decide (0<y14))==true)) x28::eB x30::[]) (tl:=[]) (by kernel_rfl) (by kernel_rfl) (by kernel_rfl) (by kernel_rfl) ?_ ?_
 exact om h8<|op (fun Q U W H D=>zEH (D.g 0 Z) Z)<|ov<|gm 2 true h0<|gm 2 true h5<|gm 2 true h8<|og 2 true (fun G Q U W H D=>zDf (D.h 0 G Z) Z (gd e15 G))<|og 2 true (fun G Q U W H D=>zAr (q.ok 0 _ Z).1 (D.h 0 G Z) (D.h 1 G Z) underlying28 sizeOf9 (gd e16 G) Z)<|og 2 true (fun G Q U W H D=>(zC0 ((q.fr W).ok 0 _ Z).1 (D.h 0 G Z) (gd e16 G) Z (Fld.id _) Z isAgg9 sizeOf9))<|og 2 true (fun G Q U W H D=>zAM call98 (zDO (q18 G) (d.fr W.size) ((f_v0.fr W).eq (D.h 0 G Z)) (D.h 1 G Z)))<|gm 2 true h7<|og 2 true (fun G Q U W H D=>zEH (D.h 0 G Z) (D.h 1 G Z))<|og 2 true (fun G Q U W H D=>zBI (D.h 0 G Z))<|gm 12 false h0<|gm 12 false h5<|gm 12 false h8<|og 12 false (fun G Q U W H D=>zDf (D.h 0 G Z) Z (gd e19 G))<|og 12 false (fun G Q U W H D=>zAr (q.ok 0 _ Z).1 (D.h 0 G Z) (D.h 1 G Z) underlying28 sizeOf9 (gd e20 G) Z)<|og 12 false (fun G Q U W H D=>(zC0 ((q.fr W).ok 0 _ Z).1 (D.h 0 G Z) (gd e20 G) Z (Fld.id _) Z isAgg9 sizeOf9))<|og 12 false (fun G Q U W H D=>zAM call98 (zDO (q22 G) (d.fr W.size) ((f_v0.fr W).eq (D.h 0 G Z)) (D.h 1 G Z)))<|gm 12 false h7<|og 12 false (fun G Q U W H D=>zEt (D.h 0 G Z) (D.h 1 G Z))<|og 12 false (fun G Q U W H D=>zBI (D.h 0 G Z))<|gm 22 true h5<|gm 22 true h8<|og 22 true (fun G Q U W H D=>zDf (D.h 0 G Z) Z (gd e23 G))<|og 22 true (fun G Q U W H D=>zAr (q.ok 0 _ Z).1 (D.h 0 G Z) (D.h 1 G Z) underlying28 sizeOf9 (gd e24 G) Z)<|og 22 true (fun G Q U W H D=>(zC0 ((q.fr W).ok 0 _ Z).1 (D.h 0 G Z) (gd e24 G) Z (Fld.id _) Z isAgg9 sizeOf9))<|gm 22 true h1<|gm 22 true h6<|og 22 true (fun G Q U W H D=>zAC ((f_v1.fr W).eq (D.h 0 G Z)) (D.h 1 G Z) underlying28 sizeOf9 (gd e25 G))<|og 22 true (fun G Q U W H D=>(zAT (QRep.ptr (D.h 0 G Z)) isAgg9 sizeOf9))<|og 22 true (fun G Q U W H D=>zOU (D.h 0 G Z) (D.h 1 G Z))<|og 12 false (fun G Q U W H D=>zAR (x21==x9) (D.h 0 G Z) (fun hc=>by have a1:Q 56=.bool (!(bLt (gtD y6 (y14-1)) (gtD p1 y5) || (gtD y6 (y14-1))==(gtD p1 y5))):=D 1 _ _ _ Z Z Z Z (zBJ G (zAf hc));show _=Value.bool x26;rw [q27,hc];exact a1) (fun hc=>by show _=Value.bool x26;rw [q27,hc];exact Z))<|og 2 true (fun G Q U W H D=>zAR (decide (x9<x17)) (D.h 0 G Z) (fun hc=>by show _=Value.bool x28;rw [q29,hc];exact Z) (fun hc=>by have a2:Q 57=.bool x26:=D 1 _ _ _ Z Z Z Z (zBJ G (zAf hc));show _=Value.bool x28;rw [q29,hc];exact a2))<|op (fun Q U W H D=>zAR (decide (0<y14)) (D.g 0 Z) (fun hc=>by have a1:Q 58=.bool x28:=D 1 _ _ _ Z Z Z Z (zBJ Z (zAf hc));show _=Value.bool x30;rw [q31,hc];exact a1) (fun hc=>by show _=Value.bool x30;rw [q31,hc];exact Z))<|oz
 intro R w m n p
 obtain ⟨h0,h1,h5,h6,h7,h8⟩:=k6 n h0 h1 h5 h6 h7 h8
 have h59:=p.r 35 Z
 replace f_v0:=f_v0.fr m
 replace f_v1:=f_v1.fr m
 replace q:=q.fr m
 replace d:=d.fr m.size
 replace j:=j.trans m
 refine zPJ x30 h59 (fun c32=>?_) (fun c32=>?_)
 have c:=zAe c32 c
 refine HT.skip<|HT.block ?_
 obtain ⟨e33,c⟩:=zAG c
 refine HT.u d j (eI y14::eI (y14-1)::eI (y14-1)::[]) ?_ ?_
 exact om h8<|op (fun Q U W H D=>zDf (D.g 0 Z) Z e33)<|oa<|oz
 intro R w m n p d j
 obtain ⟨h0,h1,h5,h6,h7⟩:=k5 n h0 h1 h5 h6 h7
 have h8:=p.r 2 Z
 replace f_v0:=f_v0.fr m
 replace f_v1:=f_v1.fr m
 replace q:=q.fr m
 exact ei k (And.intro (Nat.lt_succ_self k) ⟨_,_,c,d,j,B,q,h0,h1,h5,h6,h7,h8,f_v0,f_v1⟩)
 have c:=zAd c32 c
 refine zPO ?_
 obtain rfl:=si c
 exact ei _ ⟨_,Z,d,j,B,q,h0,h1,h5,h6,h8,f_v0,f_v1⟩
 rintro R w ⟨A,s13,es,d,j,B,q,h0,h1,h5,h6,h8,f_v0,f_v1⟩
 obtain rfl:=es.symm
 obtain ⟨e34,c⟩:=zAG c
 obtain ⟨x35,q36,c⟩:=zAO c
 obtain ⟨e37,e38,e39,e40,c⟩:=ck4 c
 obtain ⟨x41,q42,c⟩:=zAO c
 obtain ⟨e43,c⟩:=zAG c
 refine zPN [ob ul_u1 (.vec w0.heap.size 9 eStr y6)] (⟨_,true,[],some (.vec w0.heap.size 9 eStr ([]:List (List UInt8))),true,fun A=>.any⟩::rR ul_u1::rI s13::rR (vsub ul_u1 (0:Int).toNat x35 1)::⟨_,true,[1],some (.vec w0.heap.size 9 eStr (([]:List (List UInt8))++(subL y6 0 s13))),true,fun A=>.any⟩::rR v1::rI y5::(rF fun A=>.qtr eStr A (gtD p1 y5))::(rF fun A=>.rep eStr A (gtD p1 y5))::(rF fun A=>.rep (eSl eStr) A ([(gtD p1 y5)]:List (List UInt8)))::⟨_,true,[5],some (.vec w0.heap.size 9 eStr ((([]:List (List UInt8))++(subL y6 0 s13))++([(gtD p1 y5)]:List (List UInt8)))),true,fun A=>.any⟩::rR ul_u1::rI s13::rR (vsub ul_u1 s13.toNat x41 1)::⟨_,true,[11],some (.vec w0.heap.size 9 eStr (((([]:List (List UInt8))++(subL y6 0 s13))++([(gtD p1 y5)]:List (List UInt8)))++(subL y6 s13 (y6.length:Int)))),true,fun A=>.any⟩::⟨_,true,[15],some (.vec w0.heap.size 9 eStr (((([]:List (List UInt8))++(subL y6 0 s13))++([(gtD p1 y5)]:List (List UInt8)))++(subL y6 s13 (y6.length:Int)))),true,fun A=>.any⟩::[]) (by kernel_rfl) (by kernel_rfl) (by kernel_rfl) (Wf.mk' (by kernel_rfl) (ua (ur (ur (ur (ua (ur (ur (UAll.cons zCM (up (up (ua (ur (ur (ur (ua (ua (UAll.nil))))))))))))))))) (by kernel_rfl) (by kernel_rfl)) q d ?_ ?_
 exact rc (OblR.made _ Z Z Z Z fun V Q U O D=>by exact zBM [] (E:=eStr) N underlying28 sizeOf9 zeroValue9 Z Z Z (Nat.le_trans j.size O.ch.size))<|rm h5<|rm h8<|rp (fun V Q U O D=>(q36 ▸ zJL (q.ok 0 _ Z).1 (D.g 0 Z) (D.g 1 Z) underlying28 sizeOf9 e34))<|rc (OblR.took 1 _ _ Z Z Z Z Z fun V Q U O D u X Y J L M=>by have a1:Q 65=(vsub ul_u1 (0:Int).toNat x35 1):=D.g 1 Z;have ra1:Rep (eSl eStr) A0 U (Q 65) _:=(zIJ (zDt (O.rd 0 _ Z Z) (O.low' B C (q.ge (⟨Z,N⟩))) C) e34 q36 Z).eq a1;exact zEv (L _ _ Z Z Z Z).symm X Y (Nat.le_trans j.size O.ch.size) ra1 underlying28 el_9 e37 (fun _ _ h=>h))<|rm h1<|rm h6<|rp (fun V Q U O D=>zAC ((f_v1.stp O.stp).eq (D.g 0 Z)) (D.g 1 Z) underlying28 sizeOf9 e38)<|rp (fun V Q U O D=>(zAT (QRep.ptr (D.g 0 Z)) isAgg9 sizeOf9))<|rp (fun V Q U O D=>zC7 [_] (E:=eStr) ⟨(D.g 0 Z),N⟩ underlying28 sizeOf9 zeroValue9 Z Z Z O.av)<|rc (OblR.took 5 _ _ Z Z Z Z Z fun V Q U O D u X Y J L M=>by have a1:Rep (eSl eStr) V U (Q 71) ([(gtD p1 y5)]:List (List UInt8)):=D.g 1 Z;exact zAs (L _ _ Z Z Z Z).symm X Y (Nat.le_trans j.size O.ch.size) a1 underlying28 el_9 e39)<|rm h5<|rm h8<|rp (fun V Q U O D=>(q42 ▸ zIe (q.ok 0 _ Z).1 (D.g 0 Z) (D.g 1 Z) underlying28 sizeOf9 e40))<|rc (OblR.took 11 _ _ Z Z Z Z Z fun V Q U O D u X Y J L M=>by have a1:Q 75=(vsub ul_u1 s13.toNat x41 1):=D.g 1 Z;have ra1:Rep (eSl eStr) A0 U (Q 75) _:=(zIJ (zDt (O.rd 0 _ Z Z) (O.low' B C (q.ge (⟨Z,N⟩))) C) e40 q42 Z).eq a1;exact zEv (L _ _ Z Z Z Z).symm X Y (Nat.le_trans j.size O.ch.size) ra1 underlying28 el_9 e43 (fun _ _ h=>h))<|rc (OblR.took 15 _ _ Z Z Z Z Z fun V Q U O D u X Y J L M=>by exact zAP (L _ _ Z Z Z Z).symm X Y)<|rz
 intro done ρ σ A R w y s
 obtain ⟨h0,h1,h6⟩:=k3 s.rg h0 h1 h6
 have z44:=s.inivR 0 Z
 obtain ⟨u45,e_u45⟩:∃ u,ρ 16=u:=⟨_,Z⟩
 have h5:=s.ov y 16 15 e_u45
 replace f_v0:=f_v0.stp s.stp
 replace f_v1:=f_v1.stp s.stp
 obtain ⟨B,j,d⟩:=s.s B C j q ⟨Z,N⟩
 replace q:=s.left y [(16,ob u45 (.vec w0.heap.size 9 eStr (((([]:List (List UInt8))++(subL y6 0 s13))++([(gtD p1 y5)]:List (List UInt8)))++(subL y6 s13 (y6.length:Int)))))] ⟨Z,Z,e_u45,Z,Z,N⟩
 obtain ⟨Yg45,g_Yg45⟩:∃ z:List (List UInt8),z=(((([]:List (List UInt8))++(subL y6 0 s13))++([(gtD p1 y5)]:List (List UInt8)))++(subL y6 s13 (y6.length:Int))):=⟨_,Z⟩
 rw [<- g_Yg45] at q
 try rw [<- g_Yg45] at c
 obtain ⟨e47,c⟩:=zAG c
 refine HT.u d j (eI y5::eI (y5+1)::eI (y5+1)::[]) ?_ ?_
 exact om h6<|op (fun Q U W H D=>zAi (D.g 0 Z) Z e47)<|oa<|oz
 intro R w m n p d j
 obtain ⟨h0,h1,h5⟩:=k3 n h0 h1 h5
 have h6:=p.r 2 Z
 replace f_v0:=f_v0.fr m
 replace f_v1:=f_v1.fr m
 replace q:=q.fr m
 exact ei k (And.intro (Nat.lt_succ_self k) ⟨_,_,_,u45,c,d,j,B,q,h0,h1,h5,h6,f_v0,f_v1⟩)
 have c:=zAd c7 c
 refine zPO ?_
 obtain rfl:=si c
 exact ei _ ⟨_,ul_u1,Z,d,j,B,q,h5⟩
 rintro R w ⟨A,s4,uo_u1,es,d,j,B,q,h5⟩
 obtain rfl:=es.symm
 refine zPR d j (eR uo_u1::eR uo_u1::[]) ?_ ?_
 exact om h5<|oa<|oz
 intro R w m n p d j
 have h4:=p.r 1 Z
 replace q:=q.fr m
 refine HT.ret ?_
 obtain rfl:=si c
 exact ⟨.inr Z,[R 4],⟨Z,N⟩,(zBk (q.ok 0 _ Z) B h4),j⟩
def zBz (fu:Nat) (p0:List zA3) (p1:List (List UInt8)) (p2:Int):Option (List (List UInt8)):=
 cl true (zCq fu (p1.length:Int) p2) fun x1=>
 cl true (zBQ fu p1) fun x3=>
 bd ((!x3) || (decide (x1<0))) fun x5=>
 bif x5 then (
 some ([]:List (List UInt8))
 ) else (
 cl true (zDB fu p0 p1) fun x9=>
 ck (subR 0 x1 x9.length) <|
 some (subL x9 0 x1)
 )
theorem zG3 {fu : Nat} {A0 : Av} {p0 : List zA3} {p1 : List (List UInt8)} {p2 : Int} {r : List (List UInt8)} (c : zBz fu p0 p1 p2 = some r) {w : World} {v0 : Value} {v1 : Value} {v2 : Value} (d : AvOK A0 w) (h0 : Rep (eSl zA0) A0 w v0 p0) (h1 : Rep (eSl eStr) A0 w v1 p1) (h2 : v2=.int .i64 p2) :
 Calls prog 61 #[v0,v1,v2] w fun e w'=>∃ v,e=.returned v/\((Res.vec w.heap.size 9 eStr r).ok (addA A0 v) v w'/\Fr w w'):=by
 unfold zBz at c
 obtain ⟨w0,hw0,j,C⟩:=pw d
 have hA00:AvOK A0 w0:=C
 rw [fh hw0]
 rw [fw hw0]
 obtain ⟨A,hAe,B,d,q⟩:=pa d
 refine zAB [.tmp 6] func61 ntmps61 (by decide) Z Z (nb Z) ?_
 intro R hR
 have f_v0:Rep (eSl zA0) A w v0 p0:=hAe ▸ h0
 replace h0:R 0=v0:=hR 0 _ Z
 have f_v1:Rep (eSl eStr) A w v1 p1:=hAe ▸ h1
 replace h1:R 1=v1:=hR 1 _ Z
 replace h2:R 2=.int .i64 p2:=(hR 2 _ Z).trans h2
 refine zPR d j (eA::[]) ?_ ?_
 exact op (fun Q U W H D=>zA6 N)<|oz
 intro R w m n p d j
 obtain ⟨h0,h1,h2⟩:=k3 n h0 h1 h2
 replace f_v0:=f_v0.fr m
 replace f_v1:=f_v1.fr m
 replace q:=q.fr m
 obtain ⟨x1,q2,c⟩:=zA9 c
 refine zPR d j (eR v1::eI (p1.length:Int)::eI p2::eI x1::eI x1::[]) ?_ ?_
 exact om h1<|op (fun Q U W H D=>zAN (aT:=#[]) ((f_v1.fr W).eq (D.g 0 Z)) underlying28)<|om h2<|op (fun Q U W H D=>zAM call85 (zGC (q2 Z) (d.fr W.size) (D.g 0 Z) (D.g 1 Z)))<|oa<|oz
 intro R w m n p d j
 obtain ⟨h0,h1⟩:=k2 n h0 h1
 have h7:=p.r 4 Z
 replace f_v0:=f_v0.fr m
 replace f_v1:=f_v1.fr m
 replace q:=q.fr m
 refine zPQ ?_
 refine zPQ ?_
 obtain ⟨x3,q4,c⟩:=zA9 c
 obtain ⟨x5,q6,c⟩:=zAO c
 refine HT.u d j (eR v1::eB x3::eB (!x3)::eB (!x3)::gI (true&&((!x3)==false)) x1::gB (true&&((!x3)==false)) (decide (x1<0))::eB x5::[]) ?_ ?_
 exact om h1<|op (fun Q U W H D=>zAM call29 (zCC (q4 Z) (d.fr W.size) ((f_v1.fr W).eq (D.g 0 Z))))<|op (fun Q U W H D=>zBY (D.g 0 Z))<|ov<|gm 3 false h7<|og 3 false (fun G Q U W H D=>zB8 (D.h 0 G Z) Z)<|op (fun Q U W H D=>zAR (!x3) (D.g 0 Z) (fun hc=>by show _=Value.bool x5;rw [q6,hc];exact Z) (fun hc=>by have a2:Q 17=.bool (decide (x1<0)):=D 1 _ _ _ Z Z Z Z (zBJ Z (zAf hc));show _=Value.bool x5;rw [q6,hc];exact a2))<|oz
 intro R w m n p d j
 obtain ⟨h0,h1,h7⟩:=k3 n h0 h1 h7
 have h18:=p.r 6 Z
 replace f_v0:=f_v0.fr m
 replace f_v1:=f_v1.fr m
 replace q:=q.fr m
 refine zPJ x5 h18 (fun c7=>?_) (fun c7=>?_)
 have c:=zAe c7 c
 refine zPS [] (⟨_,true,[],some (.vec w0.heap.size 9 eStr ([]:List (List UInt8))),true,fun A=>.any⟩::⟨_,true,[0],some (.vec w0.heap.size 9 eStr ([]:List (List UInt8))),true,fun A=>.any⟩::[]) (ua (ua (UAll.nil))) q d ?_ ?_
 exact rc (OblR.made _ Z Z Z Z fun V Q U O D=>by exact zBM [] (E:=eStr) N underlying28 sizeOf9 zeroValue9 Z Z Z (Nat.le_trans j.size O.ch.size))<|rc (OblR.took 0 _ _ Z Z Z Z Z fun V Q U O D u X Y J L M=>by exact zAP (L _ _ Z Z Z Z).symm X Y)<|rz
 intro done ρ σ A R w y s
 obtain ⟨u8,e_u8⟩:∃ u,ρ 1=u:=⟨_,Z⟩
 have h6:=s.ov y 1 1 e_u8
 obtain ⟨B,j,d⟩:=s.s B C j q N
 replace q:=s.left y [(1,ob u8 (.vec w0.heap.size 9 eStr ([]:List (List UInt8))))] ⟨Z,Z,e_u8,Z,Z,N⟩
 refine HT.ret ?_
 obtain rfl:=si c
 exact ⟨.inr Z,[R 6],⟨Z,N⟩,(zBk (q.ok 0 _ Z) B h6),j⟩
 have c:=zAd c7 c
 refine HT.skip ?_
 obtain ⟨x9,q10,c⟩:=zA9 c
 obtain ⟨e11,c⟩:=zAG c
 refine zPS [] (rR v0::rR v1::⟨_,true,[],some (.vec w0.heap.size 9 eStr x9),true,fun A=>.any⟩::rI x1::⟨_,true,[2],some (.vec w0.heap.size 9 eStr (subL x9 0 x1)),true,fun A=>.any⟩::⟨_,true,[4],some (.vec w0.heap.size 9 eStr (subL x9 0 x1)),true,fun A=>.any⟩::[]) (ur (ur (ua (ur (ua (ua (UAll.nil))))))) q d ?_ ?_
 exact rm h0<|rm h1<|rc (OblR.made _ Z Z Z Z fun V Q U O D=>by have a0:Q 20=v0:=D.g 0 Z;have ra0:=(f_v0.stp O.stp).eq a0;have a1:Q 21=v1:=D.g 1 Z;have ra1:=(f_v1.stp O.stp).eq a1;exact zEy call86 (zGM (q10 Z) O.av ra0 ra1) (Nat.le_trans j.size O.ch.size))<|rm h7<|rc (OblR.took 2 _ _ Z Z Z Z Z fun V Q U O D u X Y J L M=>by have a1:Q 23=.int .i64 x1:=D.g 1 Z;exact zH3 (L _ _ Z Z Z Z).symm X Y a1 underlying28 sizeOf9 e11 Z)<|rc (OblR.took 4 _ _ Z Z Z Z Z fun V Q U O D u X Y J L M=>by exact zAP (L _ _ Z Z Z Z).symm X Y)<|rz
 intro done ρ σ A R w y s
 obtain ⟨u12,e_u12⟩:∃ u,ρ 5=u:=⟨_,Z⟩
 have h6:=s.ov y 5 5 e_u12
 obtain ⟨B,j,d⟩:=s.s B C j q N
 replace q:=s.left y [(5,ob u12 (.vec w0.heap.size 9 eStr (subL x9 0 x1)))] ⟨Z,Z,e_u12,Z,Z,N⟩
 refine HT.ret ?_
 obtain rfl:=si c
 exact ⟨.inr Z,[R 6],⟨Z,N⟩,(zBk (q.ok 0 _ Z) B h6),j⟩
theorem zEU {fu : Nat} {A0 : Av} {p0 : List zA3} {p1 : List (List UInt8)} {p2 : Int} {r : List (List UInt8)} (c : zBz fu p0 p1 p2 = some r) {w : World} {v0 : Value} {v1 : Value} {v2 : Value} (d : AvOK A0 w) (h0 : Rep (eSl zA0) A0 w v0 p0) (h1 : Rep (eSl eStr) A0 w v1 p1) (h2 : v2=.int .i64 p2) :
 Calls prog 61 #[v0,v1,v2] w fun e w'=>∃ v,e=.returned v/\(Rep (eSl eStr) A0 w' v r/\Fr w w'):=by
 refine Calls.mono (zG3 c d h0 h1 h2) ?_
 rintro e w' ⟨v,he,hv,hf⟩
 exact ⟨v,he,zDt hv (fun b o h=>.inl h) d,hf⟩
end Go.Proofs.YtmgiijdejigdhaaGreat
