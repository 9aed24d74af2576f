/- Own texts laid together. No statement of the seat is proved here. -/
import Derived.Test.YtmgiijdejigdhaaGreatZx3
namespace Go.Proofs.YtmgiijdejigdhaaGreat
open Go.RowKit
set_option linter.unusedVariables false
open _root_.Go.Proofs.Tryz
set_option maxRecDepth 100000
set_option maxHeartbeats 4000000
def zAt (fu : Nat) (p0 : zA7) : Nat -> Int -> Option (Ex Bool Unit)
 | 0,_=>none
 | k+1,y5=>
 bif (decide (y5<(p0.2.2.length:Int))) then (
 ck (inR y5 p0.2.2.length) <|
 cl true (zCe fu ((gtD p0.2.2 y5).1) 0 999) fun x8=>
 ck (!(true&&((!x8)==false)) || inR y5 p0.2.2.length) <|
 cl (true&&((!x8)==false)) (zBQ fu ((gtD p0.2.2 y5).2)) fun x11=>
 bd ((!x8) || (!x11)) fun x13=>
 ck (!((true&&(x13==false))&&((decide (0<y5))==true)) || i64B (y5-1)) <|
 ck (!((true&&(x13==false))&&((decide (0<y5))==true)) || inR (y5-1) p0.2.2.length) <|
 ck (!((true&&(x13==false))&&((decide (0<y5))==true)) || inR y5 p0.2.2.length) <|
 bd ((decide (0<y5))&&(decide (((gtD p0.2.2 y5).1)<=((gtD p0.2.2 (y5-1)).1)))) fun x18=>
 bd (x13 || x18) fun x20=>
 bif x20 then (
 some (Ex.ret false)
 ) else (
 ck (i64B (y5+1)) <|
 zAt fu p0 k (y5+1)
 )
 ) else (
 some (Ex.go ())
 )
def zAy (fu:Nat) (p0:zA7):Option Bool:=
 cl true (zAt fu p0 fu 0) fun rl2=>
 exM rl2 (fun r=>some r) fun s4=>
 cl true (zCN fu p0.2.1) fun x24=>
 cl (true&&(x24==true)) (zCe fu p0.1 1 1000) fun x26=>
 bd (x24&&x26) fun x28=>
 bd (x28&&(decide ((p0.2.2.length:Int)<=12))) fun x30=>
 some x30
theorem zCX {fu : Nat} {A0 : Av} {p0 : zA7} {r : Bool} (c : zAy fu p0 = some r) {w : World} {v0 : Value} (d : AvOK A0 w) (h0 : Rep zA2 A0 w v0 p0) :
 Calls prog 28 #[v0] w fun e w'=>∃ v,e=.returned v/\(v=.bool r/\Fr w w'):=by
 unfold zAy at c
 obtain ⟨w0,hw0,j,C⟩:=pw d
 have hA00:AvOK A0 w0:=C
 rw [fw hw0]
 obtain ⟨A,hAe,B,d,q⟩:=pa d
 refine zAB [.tmp 2] func28 ntmps28 (by decide) Z Z (nb Z) ?_
 intro R hR
 have f_v0:Rep zA2 A w v0 p0:=hAe ▸ h0
 replace h0:R 0=v0:=hR 0 _ Z
 refine zPS [] (⟨_,true,[],some (.box w0.heap.size 27 zA2 p0),true,fun A=>.any⟩::rB false::[]) (ua (ur (UAll.nil))) q d ?_ ?_
 exact rc (OblR.made _ Z Z Z Z fun V Q U O D=>by have a0:Q 0=v0:=(O.old 0 Z).trans h0;have ra0:=(f_v0.stp O.stp).eq a0;exact zD0 ra0 (Nat.le_trans j.size O.ch.size))<|rp (fun V Q U O D=>zA6 Z)<|rz
 intro done ρ σ A R w y s
 obtain ⟨b1_0,e_b1_0⟩:=s.boxv y 0 Z Z
 have h1:=s.ov y 0 0 e_b1_0
 obtain ⟨B,j,d⟩:=s.s B C j q N
 replace q:=s.left y [(0,ob (.pointer (some ⟨b1_0,0,none⟩)) (.box w0.heap.size 27 zA2 p0))] ⟨Z,Z,e_b1_0,Z,Z,N⟩
 refine zPQ ?_
 refine zPR d j (eI 0::[]) ?_ ?_
 exact op (fun Q U W H D=>zA6 Z)<|oz
 intro R w m n p d j
 replace h1:=k1 n h1
 have h3:=p.r 0 Z
 replace q:=q.fr m
 obtain ⟨rl2,q3,c⟩:=zA9 c
 replace q3:=q3 Z
 refine zPL (fun R w=>∃ A:Av,∃ (s4:Unit),rl2=Ex.go s4/\AvOK A w/\Fr w0 w/\(∀ b o,A0 b o->A b o)/\IniOK [ob (.pointer (some ⟨b1_0,0,none⟩)) (.box w0.heap.size 27 zA2 p0)] A w/\R 1=(.pointer (some ⟨b1_0,0,none⟩))) ?_ ?_
 refine HT.block<|zPP (fun k R w=>∃ A:Av,∃ (y5:Int),zAt fu p0 k y5=some rl2/\AvOK A w/\Fr w0 w/\(∀ b o,A0 b o->A b o)/\IniOK [ob (.pointer (some ⟨b1_0,0,none⟩)) (.box w0.heap.size 27 zA2 p0)] A w/\R 1=(.pointer (some ⟨b1_0,0,none⟩))/\R 3=.int .i64 y5) fu ⟨_,_,q3,d,j,B,q,h1,h3⟩ ?_
 have hr0:=c;clear c q3
 rintro k R w ⟨A,y5,c,d,j,B,q,h1,h3⟩
 rcases k with _ | k
 cases (show none=some _ from c)
 rw [zAt] at c
 refine zPQ ?_
 refine zPR d j (eI y5::eR (.pointer (some ⟨b1_0,2,none⟩))::eF (.rep (eSl zA1) A p0.2.2)::eI (p0.2.2.length:Int)::eB (decide (y5<(p0.2.2.length:Int)))::[]) ?_ ?_
 exact om h3<|op (fun Q U W H D=>zA8 ((H 1 Z).trans h1) zAv sizeOf25 (by decide) Z)<|op (fun Q U W H D=>(zAA ((q.fr W).ok 0 _ Z).1 (D.g 0 Z) zAJ Z isAgg25 sizeOf25))<|op (fun Q U W H D=>zAN (aT:=#[]) (D.g 0 Z) underlying25)<|op (fun Q U W H D=>zB8 (D.g 0 Z) (D.g 1 Z))<|oz
 intro R w m n p d j
 obtain ⟨h1,h3⟩:=k2 n h1 h3
 have h8:=p.r 4 Z
 replace q:=q.fr m
 refine zPJ (decide (y5<(p0.2.2.length:Int))) h8 (fun c6=>?_) (fun c6=>?_)
 have c:=zAe c6 c
 refine HT.skip<|zPQ ?_
 refine HT.block<|zPQ ?_
 obtain ⟨e7,c⟩:=zAG c
 obtain ⟨x8,q9,c⟩:=zA9 c
 obtain ⟨e10,c⟩:=zAG c
 obtain ⟨x11,q12,c⟩:=zA9 c
 obtain ⟨x13,q14,c⟩:=zAO c
 obtain ⟨e15,e16,e17,c⟩:=ck3 c
 obtain ⟨x18,q19,c⟩:=zAO c
 obtain ⟨x20,q21,c⟩:=zAO c
 refine zPM (by kernel_rfl) (l:=eR (.pointer (some ⟨b1_0,2,none⟩))::eF (.rep (eSl zA1) A p0.2.2)::eI y5::eF (.qtr zA1 A (gtD p0.2.2 y5))::eF (.qtr (eInt .i64) A ((gtD p0.2.2 y5).1))::eI ((gtD p0.2.2 y5).1)::eB x8::eB (!x8)::eB (!x8)::gR (true&&((!x8)==false)) (.pointer (some ⟨b1_0,2,none⟩))::gF (true&&((!x8)==false)) (.rep (eSl zA1) A p0.2.2)::gI (true&&((!x8)==false)) y5::gF (true&&((!x8)==false)) (.qtr zA1 A (gtD p0.2.2 y5))::gF (true&&((!x8)==false)) (.qtr (eSl eStr) A ((gtD p0.2.2 y5).2))::gF (true&&((!x8)==false)) (.rep (eSl eStr) A ((gtD p0.2.2 y5).2))::gB (true&&((!x8)==false)) x11::gB (true&&((!x8)==false)) (!x11)::eB x13::eB x13::gI (true&&(x13==false)) y5::gB (true&&(x13==false)) (decide (0<y5))::gB (true&&(x13==false)) (decide (0<y5))::gR ((true&&(x13==false))&&((decide (0<y5))==true)) (.pointer (some ⟨b1_0,2,none⟩))::gF ((true&&(x13==false))&&((decide (0<y5))==true)) (.rep (eSl zA1) A p0.2.2)::gI ((true&&(x13==false))&&((decide (0<y5))==true)) y5::gI ((true&&(x13==false))&&((decide (0<y5))==true)) (y5-1)::gF ((true&&(x13==false))&&((decide (0<y5))==true)) (.qtr zA1 A (gtD p0.2.2 (y5-1)))::gF ((true&&(x13==false))&&((decide (0<y5))==true)) (.qtr (eInt .i64) A ((gtD p0.2.2 (y5-1)).1))::gI ((true&&(x13==false))&&((decide (0<y5))==true)) ((gtD p0.2.2 (y5-1)).1)::gR ((true&&(x13==false))&&((decide (0<y5))==true)) (.pointer (some ⟨b1_0,2,none⟩))::gF ((true&&(x13==false))&&((decide (0<y5))==true)) (.rep (eSl zA1) A p0.2.2)::gI ((true&&(x13==false))&&((decide (0<y5))==true)) y5::gF ((true&&(x13==false))&&((decide (0<y5))==true)) (.qtr zA1 A (gtD p0.2.2 y5))::gF ((true&&(x13==false))&&((decide (0<y5))==true)) (.qtr (eInt .i64) A ((gtD p0.2.2 y5).1))::gI ((true&&(x13==false))&&((decide (0<y5))==true)) ((gtD p0.2.2 y5).1)::gB ((true&&(x13==false))&&((decide (0<y5))==true)) (decide (((gtD p0.2.2 y5).1)<=((gtD p0.2.2 (y5-1)).1)))::gB (true&&(x13==false)) x18::eB x20::[]) (tl:=[]) (by kernel_rfl) (by kernel_rfl) (by kernel_rfl) (by kernel_rfl) ?_ ?_
 exact op (fun Q U W H D=>zA8 ((H 1 Z).trans h1) zAv sizeOf25 (by decide) Z)<|op (fun Q U W H D=>(zAA ((q.fr W).ok 0 _ Z).1 (D.g 0 Z) zAJ Z isAgg25 sizeOf25))<|om h3<|op (fun Q U W H D=>zAC (D.g 0 Z) (D.g 1 Z) underlying25 sizeOf54 e7)<|op (fun Q U W H D=>zAX (qt (D.g 0 Z)) zDc sizeOf3 (by decide) zAU Z)<|op (fun Q U W H D=>OpF.int (zAT (QRep.ptr (D.g 0 Z)) isAgg3 sizeOf3))<|op (fun Q U W H D=>zAM call31 (zCp (q9 Z) (d.fr W.size) (D.g 0 Z) Z Z))<|op (fun Q U W H D=>zBY (D.g 0 Z))<|ov<|og 8 false (fun G Q U W H D=>zA8 ((H 1 Z).trans h1) zAv sizeOf25 (by decide) Z)<|og 8 false (fun G Q U W H D=>(zAA ((q.fr W).ok 0 _ Z).1 (D.h 0 G Z) zAJ Z isAgg25 sizeOf25))<|gm 8 false h3<|og 8 false (fun G Q U W H D=>zAC (D.h 0 G Z) (D.h 1 G Z) underlying25 sizeOf54 (gd e10 G))<|og 8 false (fun G Q U W H D=>zAX (qt (D.h 0 G Z)) zEi sizeOf28 (by decide) zAg Z)<|og 8 false (fun G Q U W H D=>(zAT (QRep.ptr (D.h 0 G Z)) isAgg28 sizeOf28))<|og 8 false (fun G Q U W H D=>zAM call29 (zCC (q12 G) (d.fr W.size) (D.h 0 G Z)))<|og 8 false (fun G Q U W H D=>zBY (D.h 0 G Z))<|op (fun Q U W H D=>zAR (!x8) (D.g 0 Z) (fun hc=>by show _=Value.bool x13;rw [q14,hc];exact Z) (fun hc=>by have a2:Q 27=.bool (!x11):=D 1 _ _ _ Z Z Z Z (zBJ Z (zAf hc));show _=Value.bool x13;rw [q14,hc];exact a2))<|ov<|gm 18 false h3<|og 18 false (fun G Q U W H D=>zEH (D.h 0 G Z) Z)<|og 18 false (fun G Q U W H D=>zBI (D.h 0 G Z))<|og 21 true (fun G Q U W H D=>zA8 ((H 1 Z).trans h1) zAv sizeOf25 (by decide) Z)<|og 21 true (fun G Q U W H D=>(zAA ((q.fr W).ok 0 _ Z).1 (D.h 0 G Z) zAJ Z isAgg25 sizeOf25))<|gm 21 true h3<|og 21 true (fun G Q U W H D=>zDf (D.h 0 G Z) Z (gd e15 G))<|og 21 true (fun G Q U W H D=>zAC (D.h 0 G Z) (D.h 1 G Z) underlying25 sizeOf54 (gd e16 G))<|og 21 true (fun G Q U W H D=>zAX (qt (D.h 0 G Z)) zDc sizeOf3 (by decide) zAU Z)<|og 21 true (fun G Q U W H D=>OpF.int (zAT (QRep.ptr (D.h 0 G Z)) isAgg3 sizeOf3))<|og 21 true (fun G Q U W H D=>zA8 ((H 1 Z).trans h1) zAv sizeOf25 (by decide) Z)<|og 21 true (fun G Q U W H D=>(zAA ((q.fr W).ok 0 _ Z).1 (D.h 0 G Z) zAJ Z isAgg25 sizeOf25))<|gm 21 true h3<|og 21 true (fun G Q U W H D=>zAC (D.h 0 G Z) (D.h 1 G Z) underlying25 sizeOf54 (gd e17 G))<|og 21 true (fun G Q U W H D=>zAX (qt (D.h 0 G Z)) zDc sizeOf3 (by decide) zAU Z)<|og 21 true (fun G Q U W H D=>OpF.int (zAT (QRep.ptr (D.h 0 G Z)) isAgg3 sizeOf3))<|og 21 true (fun G Q U W H D=>zFI (D.h 0 G Z) (D.h 1 G Z))<|og 18 false (fun G Q U W H D=>zAR (decide (0<y5)) (D.h 0 G Z) (fun hc=>by have a1:Q 46=.bool (decide (((gtD p0.2.2 y5).1)<=((gtD p0.2.2 (y5-1)).1))):=D 1 _ _ _ Z Z Z Z (zBJ G (zAf hc));show _=Value.bool x18;rw [q19,hc];exact a1) (fun hc=>by show _=Value.bool x18;rw [q19,hc];exact Z))<|op (fun Q U W H D=>zAR x13 (D.g 0 Z) (fun hc=>by show _=Value.bool x20;rw [q21,hc];exact Z) (fun hc=>by have a2:Q 47=.bool x18:=D 1 _ _ _ Z Z Z Z (zBJ Z (zAf hc));show _=Value.bool x20;rw [q21,hc];exact a2))<|oz
 intro R w m n p
 obtain ⟨h1,h3⟩:=k2 n h1 h3
 have h48:=p.r 37 Z
 replace q:=q.fr m
 replace d:=d.fr m.size
 replace j:=j.trans m
 refine zPJ x20 h48 (fun c22=>?_) (fun c22=>?_)
 have c:=zAe c22 c
 refine zPR d j (eB false::[]) ?_ ?_
 exact op (fun Q U W H D=>zA6 Z)<|oz
 intro R w m n p d j
 have h2:=p.r 0 Z
 replace q:=q.fr m
 replace q:IniOK [] A w:=q.sub [] N
 refine HT.ret ?_
 obtain rfl:=si c
 have c:=hr0
 replace c:some _=some _:=c
 obtain rfl:=si c
 exact ⟨.inr Z,[R 2],⟨Z,N⟩,h2,j⟩
 have c:=zAd c22 c
 refine HT.skip ?_
 obtain ⟨e23,c⟩:=zAG c
 refine HT.u d j (eI y5::eI (y5+1)::eI (y5+1)::[]) ?_ ?_
 exact om h3<|op (fun Q U W H D=>zAi (D.g 0 Z) Z e23)<|oa<|oz
 intro R w m n p d j
 replace h1:=k1 n h1
 have h3:=p.r 2 Z
 replace q:=q.fr m
 exact ei k (And.intro (Nat.lt_succ_self k) ⟨_,_,c,d,j,B,q,h1,h3⟩)
 have c:=zAd c6 c
 refine zPO ?_
 obtain rfl:=si c
 exact ei _ ⟨_,Z,d,j,B,q,h1⟩
 rintro R w ⟨A,s4,rfl,d,j,B,q,h1⟩
 have c:=zEK c
 refine zPQ ?_
 obtain ⟨x24,q25,c⟩:=zA9 c
 obtain ⟨x26,q27,c⟩:=zA9 c
 obtain ⟨x28,q29,c⟩:=zAO c
 obtain ⟨x30,q31,c⟩:=zAO c
 refine HT.u d j (eR (.pointer (some ⟨b1_0,1,none⟩))::eF (.rep (eSl zA0) A p0.2.1)::eB x24::eB x24::gR (true&&(x24==true)) (.pointer (some ⟨b1_0,0,none⟩))::gI (true&&(x24==true)) p0.1::gB (true&&(x24==true)) x26::eB x28::eB x28::gR (true&&(x28==true)) (.pointer (some ⟨b1_0,2,none⟩))::gF (true&&(x28==true)) (.rep (eSl zA1) A p0.2.2)::gI (true&&(x28==true)) (p0.2.2.length:Int)::gB (true&&(x28==true)) (decide ((p0.2.2.length:Int)<=12))::eB x30::eB x30::[]) ?_ ?_
 exact op (fun Q U W H D=>zA8 ((H 1 Z).trans h1) zIR sizeOf24 (by decide) Z)<|op (fun Q U W H D=>(zAA ((q.fr W).ok 0 _ Z).1 (D.g 0 Z) zDI Z isAgg24 sizeOf24))<|op (fun Q U W H D=>zAM call56 (zEc (q25 Z) (d.fr W.size) (D.g 0 Z)))<|ov<|og 3 true (fun G Q U W H D=>zA8 ((H 1 Z).trans h1) zF0 sizeOf3 (by decide) Z)<|og 3 true (fun G Q U W H D=>OpF.int (zAA ((q.fr W).ok 0 _ Z).1 (D.h 0 G Z) zB4 Z isAgg3 sizeOf3))<|og 3 true (fun G Q U W H D=>zAM call31 (zCp (q27 G) (d.fr W.size) (D.h 0 G Z) Z Z))<|op (fun Q U W H D=>zAR x24 (D.g 0 Z) (fun hc=>by have a1:Q 55=.bool x26:=D 1 _ _ _ Z Z Z Z (zBJ Z (zAf hc));show _=Value.bool x28;rw [q29,hc];exact a1) (fun hc=>by show _=Value.bool x28;rw [q29,hc];exact Z))<|ov<|og 8 true (fun G Q U W H D=>zA8 ((H 1 Z).trans h1) zAv sizeOf25 (by decide) Z)<|og 8 true (fun G Q U W H D=>(zAA ((q.fr W).ok 0 _ Z).1 (D.h 0 G Z) zAJ Z isAgg25 sizeOf25))<|og 8 true (fun G Q U W H D=>zAN (aT:=#[]) (D.h 0 G Z) underlying25)<|og 8 true (fun G Q U W H D=>zGL (D.h 0 G Z) Z)<|op (fun Q U W H D=>zAR x28 (D.g 0 Z) (fun hc=>by have a1:Q 61=.bool (decide ((p0.2.2.length:Int)<=12)):=D 1 _ _ _ Z Z Z Z (zBJ Z (zAf hc));show _=Value.bool x30;rw [q31,hc];exact a1) (fun hc=>by show _=Value.bool x30;rw [q31,hc];exact Z))<|oa<|oz
 intro R w m n p d j
 have h2:=p.r 14 Z
 replace q:=q.fr m
 replace q:IniOK [] A w:=q.sub [] N
 refine HT.ret ?_
 obtain rfl:=si c
 exact ⟨.inr Z,[R 2],⟨Z,N⟩,h2,j⟩
def zC5 (fu : Nat) (p0 : zA7) (p1 : Int) : Nat -> Int -> Option (Ex Int Unit)
 | 0,_=>none
 | k+1,y5=>
 bif (decide (y5<(p0.2.2.length:Int))) then (
 ck (inR y5 p0.2.2.length) <|
 bif (((gtD p0.2.2 y5).1)==p1) then (
 some (Ex.ret y5)
 ) else (
 ck (i64B (y5+1)) <|
 zC5 fu p0 p1 k (y5+1)
 )
 ) else (
 some (Ex.go ())
 )
def zE2 (fu:Nat) (p0:zA7) (p1:Int):Option Int:=
 cl true (zC5 fu p0 p1 fu 0) fun rl2=>
 exM rl2 (fun r=>some r) fun s4=>
 some (-1)
theorem zHn {fu : Nat} {A0 : Av} {p0 : zA7} {p1 : Int} {r : Int} (c : zE2 fu p0 p1 = some r) {w : World} {v0 : Value} {v1 : Value} (d : AvOK A0 w) (h0 : Rep zA2 A0 w v0 p0) (h1 : v1=.int .i64 p1) :
 Calls prog 41 #[v0,v1] w fun e w'=>∃ v,e=.returned v/\(v=.int .i64 r/\Fr w w'):=by
 unfold zE2 at c
 obtain ⟨w0,hw0,j,C⟩:=pw d
 have hA00:AvOK A0 w0:=C
 rw [fw hw0]
 obtain ⟨A,hAe,B,d,q⟩:=pa d
 refine zAB [.tmp 4] func41 ntmps41 (by decide) Z Z (nb Z) ?_
 intro R hR
 have f_v0:Rep zA2 A w v0 p0:=hAe ▸ h0
 replace h0:R 0=v0:=hR 0 _ Z
 replace h1:R 1=.int .i64 p1:=(hR 1 _ Z).trans h1
 refine zPS [] (⟨_,true,[],some (.box w0.heap.size 27 zA2 p0),true,fun A=>.any⟩::rI 0::[]) (ua (ur (UAll.nil))) q d ?_ ?_
 exact rc (OblR.made _ Z Z Z Z fun V Q U O D=>by have a0:Q 0=v0:=(O.old 0 Z).trans h0;have ra0:=(f_v0.stp O.stp).eq a0;exact zD0 ra0 (Nat.le_trans j.size O.ch.size))<|rp (fun V Q U O D=>zA6 Z)<|rz
 intro done ρ σ A R w y s
 replace h1:=k1 s.rg h1
 obtain ⟨b2_0,e_b2_0⟩:=s.boxv y 0 Z Z
 have h2:=s.ov y 0 0 e_b2_0
 obtain ⟨B,j,d⟩:=s.s B C j q N
 replace q:=s.left y [(0,ob (.pointer (some ⟨b2_0,0,none⟩)) (.box w0.heap.size 27 zA2 p0))] ⟨Z,Z,e_b2_0,Z,Z,N⟩
 refine zPQ ?_
 refine zPR d j (eI 0::[]) ?_ ?_
 exact op (fun Q U W H D=>zA6 Z)<|oz
 intro R w m n p d j
 obtain ⟨h1,h2⟩:=k2 n h1 h2
 have h5:=p.r 0 Z
 replace q:=q.fr m
 obtain ⟨rl2,q3,c⟩:=zA9 c
 replace q3:=q3 Z
 refine zPL (fun R w=>∃ A:Av,∃ (s4:Unit),rl2=Ex.go s4/\AvOK A w/\Fr w0 w/\(∀ b o,A0 b o->A b o)/\IniOK [] A w) ?_ ?_
 refine HT.block<|zPP (fun k R w=>∃ A:Av,∃ (y5:Int),zC5 fu p0 p1 k y5=some rl2/\AvOK A w/\Fr w0 w/\(∀ b o,A0 b o->A b o)/\IniOK [ob (.pointer (some ⟨b2_0,0,none⟩)) (.box w0.heap.size 27 zA2 p0)] A w/\R 1=.int .i64 p1/\R 2=(.pointer (some ⟨b2_0,0,none⟩))/\R 5=.int .i64 y5) fu ⟨_,_,q3,d,j,B,q,h1,h2,h5⟩ ?_
 have hr0:=c;clear c q3
 rintro k R w ⟨A,y5,c,d,j,B,q,h1,h2,h5⟩
 rcases k with _ | k
 cases (show none=some _ from c)
 rw [zC5] at c
 refine zPQ ?_
 refine zPR d j (eI y5::eR (.pointer (some ⟨b2_0,2,none⟩))::eF (.rep (eSl zA1) A p0.2.2)::eI (p0.2.2.length:Int)::eB (decide (y5<(p0.2.2.length:Int)))::[]) ?_ ?_
 exact om h5<|op (fun Q U W H D=>zA8 ((H 2 Z).trans h2) zAv sizeOf25 (by decide) Z)<|op (fun Q U W H D=>(zAA ((q.fr W).ok 0 _ Z).1 (D.g 0 Z) zAJ Z isAgg25 sizeOf25))<|op (fun Q U W H D=>zAN (aT:=#[]) (D.g 0 Z) underlying25)<|op (fun Q U W H D=>zB8 (D.g 0 Z) (D.g 1 Z))<|oz
 intro R w m n p d j
 obtain ⟨h1,h2,h5⟩:=k3 n h1 h2 h5
 have h10:=p.r 4 Z
 replace q:=q.fr m
 refine zPJ (decide (y5<(p0.2.2.length:Int))) h10 (fun c6=>?_) (fun c6=>?_)
 have c:=zAe c6 c
 refine HT.skip<|zPQ ?_
 refine HT.block ?_
 obtain ⟨e7,c⟩:=zAG c
 refine zPR d j (eR (.pointer (some ⟨b2_0,2,none⟩))::eF (.rep (eSl zA1) A p0.2.2)::eI y5::eF (.qtr zA1 A (gtD p0.2.2 y5))::eF (.qtr (eInt .i64) A ((gtD p0.2.2 y5).1))::eI ((gtD p0.2.2 y5).1)::eI p1::eB (((gtD p0.2.2 y5).1)==p1)::[]) ?_ ?_
 exact op (fun Q U W H D=>zA8 ((H 2 Z).trans h2) zAv sizeOf25 (by decide) Z)<|op (fun Q U W H D=>(zAA ((q.fr W).ok 0 _ Z).1 (D.g 0 Z) zAJ Z isAgg25 sizeOf25))<|om h5<|op (fun Q U W H D=>zAC (D.g 0 Z) (D.g 1 Z) underlying25 sizeOf54 e7)<|op (fun Q U W H D=>zAX (qt (D.g 0 Z)) zDc sizeOf3 (by decide) zAU Z)<|op (fun Q U W H D=>OpF.int (zAT (QRep.ptr (D.g 0 Z)) isAgg3 sizeOf3))<|om h1<|op (fun Q U W H D=>zEt (D.g 0 Z) (D.g 1 Z))<|oz
 intro R w m n p d j
 obtain ⟨h1,h2,h5⟩:=k3 n h1 h2 h5
 have h20:=p.r 7 Z
 replace q:=q.fr m
 refine zPJ (((gtD p0.2.2 y5).1)==p1) h20 (fun c8=>?_) (fun c8=>?_)
 have c:=zAe c8 c
 refine zPR d j (eI y5::eI y5::[]) ?_ ?_
 exact om h5<|oa<|oz
 intro R w m n p d j
 have h4:=p.r 1 Z
 replace q:=q.fr m
 replace q:IniOK [] A w:=q.sub [] N
 refine HT.ret ?_
 obtain rfl:=si c
 have c:=hr0
 replace c:some _=some _:=c
 obtain rfl:=si c
 exact ⟨.inr Z,[R 4],⟨Z,N⟩,h4,j⟩
 have c:=zAd c8 c
 refine HT.skip ?_
 obtain ⟨e9,c⟩:=zAG c
 refine HT.u d j (eI y5::eI (y5+1)::eI (y5+1)::[]) ?_ ?_
 exact om h5<|op (fun Q U W H D=>zAi (D.g 0 Z) Z e9)<|oa<|oz
 intro R w m n p d j
 obtain ⟨h1,h2⟩:=k2 n h1 h2
 have h5:=p.r 2 Z
 replace q:=q.fr m
 exact ei k (And.intro (Nat.lt_succ_self k) ⟨_,_,c,d,j,B,q,h1,h2,h5⟩)
 have c:=zAd c6 c
 refine zPO ?_
 obtain rfl:=si c
 replace q:IniOK [] A w:=q.sub [] N
 exact ei _ ⟨_,Z,d,j,B,q⟩
 rintro R w ⟨A,s4,rfl,d,j,B,q⟩
 have c:=zEK c
 refine zPR d j (eI (-1)::[]) ?_ ?_
 exact op (fun Q U W H D=>zA6 Z)<|oz
 intro R w m n p d j
 have h4:=p.r 0 Z
 replace q:=q.fr m
 refine HT.ret ?_
 obtain rfl:=si c
 exact ⟨.inr Z,[R 4],⟨Z,N⟩,h4,j⟩
def zBf (fu : Nat) (p1 : Int) (x4 : zA7) : Nat -> Int -> Option Int
 | 0,_=>none
 | k+1,y34=>
 ck (!(true&&((decide (y34<(x4.2.2.length:Int)))==true)) || inR y34 x4.2.2.length) <|
 bd ((decide (y34<(x4.2.2.length:Int)))&&(decide (((gtD x4.2.2 y34).1)<p1))) fun x40=>
 bif x40 then (
 ck (i64B (y34+1)) <|
 zBf fu p1 x4 k (y34+1)
 ) else (
 some y34
 )
def zCd (fu:Nat) (p0:zA7) (p1:Int) (p2:List (List UInt8)):Option (zA7 × Bool):=
 cl true (zE1 fu p0) fun x4=>
 cl true (zAy fu p0) fun x11=>
 cl (true&&((!x11)==false)) (zBQ fu p2) fun x13=>
 bd ((!x11) || (!x13)) fun x15=>
 cl (true&&(x15==false)) (zCe fu p1 0 999) fun x17=>
 bd (x15 || (!x17)) fun x19=>
 cl (true&&(x19==false)) (zE2 fu p0 p1) fun x21=>
 bd (x19 || (decide (0<=x21))) fun x23=>
 bd (x23 || ((p0.2.2.length:Int)==12)) fun x25=>
 bif x25 then (
 some (x4,false)
 ) else (
 cl true (zBf fu p1 x4 fu 0) fun s33=>
 ck (zD4 (([]:List (List UInt8)).length+p2.length)) <|
 ck (subR 0 s33 x4.2.2.length) <|
 ck (zD4 (([]:List zA4).length+(subL x4.2.2 0 s33).length)) <|
 ck (zD4 ((([]:List zA4)++(subL x4.2.2 0 s33)).length+([(p1,(([]:List (List UInt8))++p2))]:List zA4).length)) <|
 ck (subR s33 (x4.2.2.length:Int) x4.2.2.length) <|
 ck (zD4 (((([]:List zA4)++(subL x4.2.2 0 s33))++([(p1,(([]:List (List UInt8))++p2))]:List zA4)).length+(subL x4.2.2 s33 (x4.2.2.length:Int)).length)) <|
 some ((x4.1,x4.2.1,(((([]:List zA4)++(subL x4.2.2 0 s33))++([(p1,(([]:List (List UInt8))++p2))]:List zA4))++(subL x4.2.2 s33 (x4.2.2.length:Int)))),true)
 )
set_option linter.unusedSimpArgs false in
theorem zFB {fu : Nat} {A0 : Av} {p0 : zA7} {p1 : Int} {p2 : List (List UInt8)} {r : zA7 × Bool} (c : zCd fu p0 p1 p2 = some r) {w : World} {v0 : Value} {v1 : Value} {v2 : Value} (d : AvOK A0 w) (h0 : Rep zA2 A0 w v0 p0) (h1 : v1=.int .i64 p1) (h2 : Rep (eSl eStr) A0 w v2 p2) :
 Calls prog 16 #[v0,v1,v2] w fun e w'=>∃ v,e=.returned v/\(∃ (u0:Value) (S0:Nat->Prop) (A1:Av),GPost A0 (fun _=>False) w [⟨u0,S0,trR (geB w.heap.size) (oPr (oRd (eInt .i64)) (oPr (oRd (eSl zA0)) (oSl 54 (oRd zA1)))) r.1 []⟩] A1 w'/\(Fact.tup2 (.raw u0) (.raw (.bool r.2))).ok v w'):=by
 unfold zCd at c
 obtain ⟨w0,hw0,j,C⟩:=pw d
 have hA00:AvOK A0 w0:=C
 rw [show GPost A0 (fun _=>False) w=GPost A0 (fun _=>False) w0 from by rw [hw0]]
 rw [show w.heap.size=w0.heap.size from by rw [hw0]]
 obtain ⟨A,hAe,B,d,q⟩:=pa d
 refine zAB [.cell 6 27,.tmp 7] func16 ntmps16 (by decide) Z Z (nb Z) ?_
 intro R hR
 have f_v0:Rep zA2 A w v0 p0:=hAe ▸ h0
 replace h0:R 0=v0:=hR 0 _ Z
 replace h1:R 1=.int .i64 p1:=(hR 1 _ Z).trans h1
 have f_v2:Rep (eSl eStr) A w v2 p2:=hAe ▸ h2
 replace h2:R 2=v2:=hR 2 _ Z
 refine zPS [] (⟨_,true,[],some (.box w0.heap.size 27 zA2 p0),true,fun A=>.any⟩::⟨_,true,[],some (trR (geB w0.heap.size) (oPt 27 (oPr (oRd (eInt .i64)) (oPr (oRd (eSl zA0)) (oSl 54 (oRd zA1))))) (0,(([]:List zA3),([]:List zA4))) []),true,fun A=>.any⟩::rB false::[]) (ua (ua (ur (UAll.nil)))) q d ?_ ?_
 exact rc (OblR.made _ Z Z Z Z fun V Q U O D=>by have a0:Q 0=v0:=(O.old 0 Z).trans h0;have ra0:=(f_v0.stp O.stp).eq a0;exact zD0 ra0 (Nat.le_trans j.size O.ch.size))<|rc (zPX _ Z Z Z Z fun V Q U O D=>by exact zCg zeroValue27 (fun A w=>zD2 (zCy zAm) (zD2 (zCy zBD) zDN)) (fun k hk=>Nat.le_trans (Nat.le_trans j.size O.ch.size) hk))<|rp (fun V Q U O D=>zA6 Z)<|rz
 intro done ρ σ A R w y s
 obtain ⟨h1,h2⟩:=k2 s.rg h1 h2
 obtain ⟨b3_0,e_b3_0⟩:=s.boxv y 0 Z Z
 have h3:=s.ov y 0 0 e_b3_0
 obtain ⟨u2,e_u2⟩:∃ u,ρ 1=u:=⟨_,Z⟩
 have h6:=s.ov y 1 1 e_u2
 obtain ⟨S3,eS_u2⟩:∃ S,σ 1=S:=⟨_,Z⟩
 replace f_v2:=f_v2.stp s.stp
 obtain ⟨B,j,d⟩:=s.s B C j q N
 replace q:=s.left y [(0,ob (.pointer (some ⟨b3_0,0,none⟩)) (.box w0.heap.size 27 zA2 p0)),(1,⟨u2,S3,trR (geB w0.heap.size) (oPt 27 (oPr (oRd (eInt .i64)) (oPr (oRd (eSl zA0)) (oSl 54 (oRd zA1))))) (0,(([]:List zA3),([]:List zA4))) []⟩)] ⟨Z,Z,e_b3_0,Z,Z,⟨Z,Z,e_u2,eS_u2,Z,N⟩⟩
 obtain ⟨x4,q5,c⟩:=zA9 c
 refine zPS [ob (.pointer (some ⟨b3_0,0,none⟩)) (.box w0.heap.size 27 zA2 p0),⟨u2,S3,trR (geB w0.heap.size) (oPt 27 (oPr (oRd (eInt .i64)) (oPr (oRd (eSl zA0)) (oSl 54 (oRd zA1))))) (0,(([]:List zA3),([]:List zA4))) []⟩] ((rF fun A=>.rep zA2 A p0)::⟨_,true,[],some (trR (geB w0.heap.size) (oPr (oRd (eInt .i64)) (oPr (oRd (eSl zA0)) (oSl 54 (oRd zA1)))) x4 []),true,fun A=>.any⟩::⟨_,true,[],some (trR (geB w0.heap.size) (oPt 27 (oPr (oRd (eInt .i64)) (oPr (oRd (eSl zA0)) (oSl 54 (oRd zA1))))) (0,(([]:List zA3),([]:List zA4))) []),true,fun A=>.any⟩::⟨_,true,[4,3],some (trR (geB w0.heap.size) (oPt 27 (oPr (oRd (eInt .i64)) (oPr (oRd (eSl zA0)) (oSl 54 (oRd zA1))))) x4 []),false,fun A=>.any⟩::[]) (up (ua (ua (ua (UAll.nil))))) q d ?_ ?_
 exact rp (fun V Q U O D=>(zAA (O.rd 0 _ Z Z) ((O.old 3 Z).trans h3) (Fld.id _) Z isAgg27 sizeOf27))<|rc (zPX _ Z Z Z Z fun V Q U O D=>by have a0:Rep zA2 V U (Q 11) p0:=D.g 0 Z;exact zHe call40 (zHq (q5 Z) O.av a0) (fun k hk=>Nat.le_trans (Nat.le_trans j.size O.ch.size) hk))<|rc (zPX _ Z Z Z Z fun V Q U O D=>by exact zCg zeroValue27 (fun A w=>zD2 (zCy zAm) (zD2 (zCy zBD) zDN)) (fun k hk=>Nat.le_trans (Nat.le_trans j.size O.ch.size) hk))<|rc (zPY 4 [3] _ Z Z Z Z fun V Q U O D ρ σ X Y J L M hdd=>by have k1:=X 4 (.head _) _ Z;exact zCK Z (zAp k1.2.2).ptr (X 3 (.tail _ (.head _)) _ Z).2.2.1 (L 3 (.tail _ (.head _)) _ _ Z Z Z Z).symm (L 4 (.head _) _ _ Z Z Z Z).symm Y hdd k1.2.1 (X 3 (.tail _ (.head _)) _ Z).2.1 sizeOf27 (fun _ _ _ h=>h))<|rz
 intro done ρ σ A R w y s
 obtain ⟨h1,h2,h3,h6⟩:=k4 s.rg h1 h2 h3 h6
 have z6:=s.inivR 0 Z
 have z7:=s.inivR 1 Z
 obtain ⟨u8,e_u8⟩:∃ u,ρ 5=u:=⟨_,Z⟩
 have z9:=(s.opnR y 5 3 Z Z Z Z Z).symm.trans e_u8
 have h8:=s.ov y 4 2 z9
 have eS_u2:=s.inisR 1 Z
 obtain ⟨S10,eS_u8⟩:∃ S,σ 5=S:=⟨_,Z⟩
 replace f_v2:=f_v2.stp s.stp
 obtain ⟨B,j,d⟩:=s.s B C j q ⟨Z,⟨fun _ h=>h,N⟩⟩
 replace q:=s.left y [(0,ob (.pointer (some ⟨b3_0,0,none⟩)) (.box w0.heap.size 27 zA2 p0)),(1,⟨u2,S3,trR (geB w0.heap.size) (oPt 27 (oPr (oRd (eInt .i64)) (oPr (oRd (eSl zA0)) (oSl 54 (oRd zA1))))) (0,(([]:List zA3),([]:List zA4))) []⟩),(5,⟨u8,S10,trR (geB w0.heap.size) (oPt 27 (oPr (oRd (eInt .i64)) (oPr (oRd (eSl zA0)) (oSl 54 (oRd zA1))))) x4 []⟩)] ⟨Z,Z,z6,Z,Z,⟨Z,Z,z7,eS_u2,Z,⟨Z,Z,e_u8,eS_u8,Z,N⟩⟩⟩
 refine zPQ ?_
 refine zPQ ?_
 obtain ⟨x11,q12,c⟩:=zA9 c
 obtain ⟨x13,q14,c⟩:=zA9 c
 obtain ⟨x15,q16,c⟩:=zAO c
 obtain ⟨x17,q18,c⟩:=zA9 c
 obtain ⟨x19,q20,c⟩:=zAO c
 obtain ⟨x21,q22,c⟩:=zA9 c
 obtain ⟨x23,q24,c⟩:=zAO c
 obtain ⟨x25,q26,c⟩:=zAO c
 refine HT.u d j (eF (.rep zA2 A p0)::eB x11::eB (!x11)::eB (!x11)::gR (true&&((!x11)==false)) v2::gB (true&&((!x11)==false)) x13::gB (true&&((!x11)==false)) (!x13)::eB x15::eB x15::gI (true&&(x15==false)) p1::gB (true&&(x15==false)) x17::gB (true&&(x15==false)) (!x17)::eB x19::eB x19::gF (true&&(x19==false)) (.rep zA2 A p0)::gI (true&&(x19==false)) p1::gI (true&&(x19==false)) x21::gB (true&&(x19==false)) (decide (0<=x21))::eB x23::eB x23::gR (true&&(x23==false)) (.pointer (some ⟨b3_0,2,none⟩))::gF (true&&(x23==false)) (.rep (eSl zA1) A p0.2.2)::gI (true&&(x23==false)) (p0.2.2.length:Int)::gB (true&&(x23==false)) ((p0.2.2.length:Int)==12)::eB x25::[]) ?_ ?_
 exact op (fun Q U W H D=>(zAA ((q.fr W).ok 0 _ Z).1 ((H 3 Z).trans h3) (Fld.id _) Z isAgg27 sizeOf27))<|op (fun Q U W H D=>zAM call28 (zCX (q12 Z) (d.fr W.size) (D.g 0 Z)))<|op (fun Q U W H D=>zBY (D.g 0 Z))<|ov<|gm 3 false h2<|og 3 false (fun G Q U W H D=>zAM call29 (zCC (q14 G) (d.fr W.size) ((f_v2.fr W).eq (D.h 0 G Z))))<|og 3 false (fun G Q U W H D=>zBY (D.h 0 G Z))<|op (fun Q U W H D=>zAR (!x11) (D.g 0 Z) (fun hc=>by show _=Value.bool x15;rw [q16,hc];exact Z) (fun hc=>by have a2:Q 19=.bool (!x13):=D 1 _ _ _ Z Z Z Z (zBJ Z (zAf hc));show _=Value.bool x15;rw [q16,hc];exact a2))<|ov<|gm 8 false h1<|og 8 false (fun G Q U W H D=>zAM call31 (zCp (q18 G) (d.fr W.size) (D.h 0 G Z) Z Z))<|og 8 false (fun G Q U W H D=>zBY (D.h 0 G Z))<|op (fun Q U W H D=>zAR x15 (D.g 0 Z) (fun hc=>by show _=Value.bool x19;rw [q20,hc];exact Z) (fun hc=>by have a2:Q 24=.bool (!x17):=D 1 _ _ _ Z Z Z Z (zBJ Z (zAf hc));show _=Value.bool x19;rw [q20,hc];exact a2))<|ov<|og 13 false (fun G Q U W H D=>(zAA ((q.fr W).ok 0 _ Z).1 ((H 3 Z).trans h3) (Fld.id _) Z isAgg27 sizeOf27))<|gm 13 false h1<|og 13 false (fun G Q U W H D=>zAM call41 (zHn (q22 G) (d.fr W.size) (D.h 0 G Z) (D.h 1 G Z)))<|og 13 false (fun G Q U W H D=>zFI (D.h 0 G Z) Z)<|op (fun Q U W H D=>zAR x19 (D.g 0 Z) (fun hc=>by show _=Value.bool x23;rw [q24,hc];exact Z) (fun hc=>by have a2:Q 30=.bool (decide (0<=x21)):=D 1 _ _ _ Z Z Z Z (zBJ Z (zAf hc));show _=Value.bool x23;rw [q24,hc];exact a2))<|ov<|og 19 false (fun G Q U W H D=>zA8 ((H 3 Z).trans h3) zAv sizeOf25 (by decide) Z)<|og 19 false (fun G Q U W H D=>(zAA ((q.fr W).ok 0 _ Z).1 (D.h 0 G Z) zAJ Z isAgg25 sizeOf25))<|og 19 false (fun G Q U W H D=>zAN (aT:=#[]) (D.h 0 G Z) underlying25)<|og 19 false (fun G Q U W H D=>zEt (D.h 0 G Z) Z)<|op (fun Q U W H D=>zAR x23 (D.g 0 Z) (fun hc=>by show _=Value.bool x25;rw [q26,hc];exact Z) (fun hc=>by have a2:Q 36=.bool ((p0.2.2.length:Int)==12):=D 1 _ _ _ Z Z Z Z (zBJ Z (zAf hc));show _=Value.bool x25;rw [q26,hc];exact a2))<|oz
 intro R w m n p d j
 obtain ⟨h1,h2,h6,h8⟩:=k4 n h1 h2 h6 h8
 have h37:=p.r 24 Z
 replace f_v2:=f_v2.fr m
 replace q:=q.fr m
 replace q:IniOK [⟨u2,S3,trR (geB w0.heap.size) (oPt 27 (oPr (oRd (eInt .i64)) (oPr (oRd (eSl zA0)) (oSl 54 (oRd zA1))))) (0,(([]:List zA3),([]:List zA4))) []⟩,⟨u8,S10,trR (geB w0.heap.size) (oPt 27 (oPr (oRd (eInt .i64)) (oPr (oRd (eSl zA0)) (oSl 54 (oRd zA1))))) x4 []⟩] A w:=q.sub [(1,⟨u2,S3,trR (geB w0.heap.size) (oPt 27 (oPr (oRd (eInt .i64)) (oPr (oRd (eSl zA0)) (oSl 54 (oRd zA1))))) (0,(([]:List zA3),([]:List zA4))) []⟩),(2,⟨u8,S10,trR (geB w0.heap.size) (oPt 27 (oPr (oRd (eInt .i64)) (oPr (oRd (eSl zA0)) (oSl 54 (oRd zA1))))) x4 []⟩)] ⟨Z,Z,⟨Z,Z,N⟩⟩
 refine zPJ x25 h37 (fun c27=>?_) (fun c27=>?_)
 have c:=zAe c27 c
 refine zPS [⟨u2,S3,trR (geB w0.heap.size) (oPt 27 (oPr (oRd (eInt .i64)) (oPr (oRd (eSl zA0)) (oSl 54 (oRd zA1))))) (0,(([]:List zA3),([]:List zA4))) []⟩,⟨u8,S10,trR (geB w0.heap.size) (oPt 27 (oPr (oRd (eInt .i64)) (oPr (oRd (eSl zA0)) (oSl 54 (oRd zA1))))) x4 []⟩] (⟨_,true,[1],some (trR (geB w0.heap.size) (oPr (oRd (eInt .i64)) (oPr (oRd (eSl zA0)) (oSl 54 (oRd zA1)))) x4 []),true,fun A=>.any⟩::⟨_,true,[0,2],some (trR (geB w0.heap.size) (oPt 27 (oPr (oRd (eInt .i64)) (oPr (oRd (eSl zA0)) (oSl 54 (oRd zA1))))) x4 []),false,fun A=>.any⟩::rB false::[]) (ua (ua (ur (UAll.nil)))) q d ?_ ?_
 exact rc (zPZ 1 _ _ Z Z Z Z Z fun V Q U O D u S X I Y J L M=>by have a0:Q 8=u8:=(O.old 8 Z).trans h8;exact zDa I.2 (a0.trans (J _ Z).1.symm) Y I.1 isAgg27 sizeOf27)<|rc (zPY 0 [2] _ Z Z Z Z fun V Q U O D ρ σ X Y J L M hdd=>by have a0:Q 6=u2:=(O.old 6 Z).trans h6;have k1:=X 0 (.head _) _ Z;have e0:=(J 0 (.head _) _ Z).1;rw [e0] at k1 ⊢;exact zCK Z (zAp k1.2.2).ptr (X 2 (.tail _ (.head _)) _ Z).2.2.1 (L 2 (.tail _ (.head _)) _ _ Z Z Z Z).symm a0 Y hdd k1.2.1 (X 2 (.tail _ (.head _)) _ Z).2.1 sizeOf27 (fun _ _ _ h=>h))<|rp (fun V Q U O D=>zA6 Z)<|rz
 intro done ρ σ A R w y s
 replace h6:=k1 s.rg h6
 have z28:=s.inivR 0 Z
 have z29:=s.on y 3 1 Z Z Z Z Z z28
 obtain ⟨S30,eS_u2⟩:∃ S,σ 3=S:=⟨_,Z⟩
 have h7:=s.r y 2 Z
 obtain ⟨B,j,d⟩:=s.s B C j q ⟨fun _ h=>h,⟨fun _ h=>h,N⟩⟩
 replace q:=s.left y [(3,⟨u2,S30,trR (geB w0.heap.size) (oPt 27 (oPr (oRd (eInt .i64)) (oPr (oRd (eSl zA0)) (oSl 54 (oRd zA1))))) x4 []⟩)] ⟨Z,Z,z29,eS_u2,Z,N⟩
 refine HT.ret ?_
 obtain rfl:=si c
 obtain ⟨v_6,S_6,e_6,q⟩:=q.unbox 0 Z h6 isAgg27 sizeOf27
 obtain ⟨A1,hA1,hG1⟩:=GPost.of q d B (fun k hk=>.inl (q.ge (⟨fun _ h=>h,N⟩) k hk)) (j.ch (fun _=>False))
 exact ⟨.inr Z,[v_6,R 7],⟨e_6,⟨Z,N⟩⟩,v_6,S_6,A1,hG1,⟨_,_,Z,Z,h7⟩⟩
 have c:=zAd c27 c
 refine HT.skip<|zPR d j (eI 0::[]) ?_ ?_
 exact op (fun Q U W H D=>zA6 Z)<|oz
 intro R w m n p d j
 obtain ⟨h1,h2,h6,h8⟩:=k4 n h1 h2 h6 h8
 have h9:=p.r 0 Z
 replace f_v2:=f_v2.fr m
 replace q:=q.fr m
 obtain ⟨rl31,q32,c⟩:=zA9 c
 replace q32:=q32 Z
 refine zPK (fun R w=>∃ A:Av,∃ (s33:Int),rl31=s33/\AvOK A w/\Fr w0 w/\(∀ b o,A0 b o->A b o)/\IniOK [⟨u2,S3,trR (geB w0.heap.size) (oPt 27 (oPr (oRd (eInt .i64)) (oPr (oRd (eSl zA0)) (oSl 54 (oRd zA1))))) (0,(([]:List zA3),([]:List zA4))) []⟩,⟨u8,S10,trR (geB w0.heap.size) (oPt 27 (oPr (oRd (eInt .i64)) (oPr (oRd (eSl zA0)) (oSl 54 (oRd zA1))))) x4 []⟩] A w/\R 1=.int .i64 p1/\R 2=v2/\R 6=u2/\R 8=u8/\R 9=.int .i64 s33/\Rep (eSl eStr) A w v2 p2) ?_ ?_
 refine HT.block<|zPP (fun k R w=>∃ A:Av,∃ (y34:Int),zBf fu p1 x4 k y34=some rl31/\AvOK A w/\Fr w0 w/\(∀ b o,A0 b o->A b o)/\IniOK [⟨u2,S3,trR (geB w0.heap.size) (oPt 27 (oPr (oRd (eInt .i64)) (oPr (oRd (eSl zA0)) (oSl 54 (oRd zA1))))) (0,(([]:List zA3),([]:List zA4))) []⟩,⟨u8,S10,trR (geB w0.heap.size) (oPt 27 (oPr (oRd (eInt .i64)) (oPr (oRd (eSl zA0)) (oSl 54 (oRd zA1))))) x4 []⟩] A w/\R 1=.int .i64 p1/\R 2=v2/\R 6=u2/\R 8=u8/\R 9=.int .i64 y34/\Rep (eSl eStr) A w v2 p2) fu ⟨_,_,q32,d,j,B,q,h1,h2,h6,h8,h9,f_v2⟩ ?_
 have hr0:=c;clear c q32
 rintro k R w ⟨A,y34,c,d,j,B,q,h1,h2,h6,h8,h9,f_v2⟩
 rcases k with _ | k
 cases (show none=some _ from c)
 rw [zBf] at c
 refine zPQ ?_
 refine zPQ ?_
 obtain ⟨h35,p_h35⟩:=(((((zAp (q.own 1 _ Z).2).ptr).snd Z).snd (zCZ _ _ _))).open1 Z
 replace q:IniOK [⟨u2,S3,trR (geB w0.heap.size) (oPt 27 (oPr (oRd (eInt .i64)) (oPr (oRd (eSl zA0)) (oSl 54 (oRd zA1))))) (0,(([]:List zA3),([]:List zA4))) []⟩,⟨u8,S10,trR (geB w0.heap.size) (oPt 27 (oPr (oRd (eInt .i64)) (oPr (oRd (eSl zA0)) (oSl 54 (oRd zA1))))) x4 [((padd u8 2),[h35])]⟩] A w:=q.repin 1 Z (trP.pin p_h35)
 obtain ⟨h37,p_h37⟩:=(((((zAp (q.own 1 _ Z).2).ptr).snd Z).snd (zCZ _ _ _))).open1 Z
 replace q:IniOK [⟨u2,S3,trR (geB w0.heap.size) (oPt 27 (oPr (oRd (eInt .i64)) (oPr (oRd (eSl zA0)) (oSl 54 (oRd zA1))))) (0,(([]:List zA3),([]:List zA4))) []⟩,⟨u8,S10,trR (geB w0.heap.size) (oPt 27 (oPr (oRd (eInt .i64)) (oPr (oRd (eSl zA0)) (oSl 54 (oRd zA1))))) x4 [((padd u8 2),[h37]),((padd u8 2),[h35])]⟩] A w:=q.repin 1 Z (trP.pin p_h37)
 obtain ⟨e39,c⟩:=zAG c
 obtain ⟨x40,q41,c⟩:=zAO c
 refine HT.u d j (eI y34::eR (padd u8 2)::eR h35::eI (x4.2.2.length:Int)::eB (decide (y34<(x4.2.2.length:Int)))::eB (decide (y34<(x4.2.2.length:Int)))::gR (true&&((decide (y34<(x4.2.2.length:Int)))==true)) (padd u8 2)::gR (true&&((decide (y34<(x4.2.2.length:Int)))==true)) h37::gI (true&&((decide (y34<(x4.2.2.length:Int)))==true)) y34::gR (true&&((decide (y34<(x4.2.2.length:Int)))==true)) (vptr h37 (y34.toNat*2))::gR (true&&((decide (y34<(x4.2.2.length:Int)))==true)) (vptr h37 (y34.toNat*2))::gI (true&&((decide (y34<(x4.2.2.length:Int)))==true)) ((gtD x4.2.2 y34).1)::gI (true&&((decide (y34<(x4.2.2.length:Int)))==true)) p1::gB (true&&((decide (y34<(x4.2.2.length:Int)))==true)) (decide (((gtD x4.2.2 y34).1)<p1))::eB x40::[]) ?_ ?_
 exact om h9<|op (fun Q U W H D=>zAx ((zAp (q.own 1 _ Z).2).ptr).ad ((H 8 Z).trans h8) zAv sizeOf25 (by decide) Z)<|op (fun Q U W H D=>zEn (((q.fr W).own 1 _ Z).2.2 _ (.tail _ (.head _))) (D.g 0 Z) isAgg25 sizeOf25)<|op (fun Q U W H D=>zN6 ((((((zAp (q.own 1 _ Z).2).ptr).snd Z).snd (zCZ _ _ _))).pin ((q.own 1 _ Z).2.2 _ (.tail _ (.head _))) Z) (D.g 0 Z) underlying25)<|op (fun Q U W H D=>zB8 (D.g 0 Z) (D.g 1 Z))<|ov<|og 5 true (fun G Q U W H D=>zAx ((zAp (q.own 1 _ Z).2).ptr).ad ((H 8 Z).trans h8) zAv sizeOf25 (by decide) Z)<|og 5 true (fun G Q U W H D=>zEn (((q.fr W).own 1 _ Z).2.2 _ (.head _)) (D.h 0 G Z) isAgg25 sizeOf25)<|gm 5 true h9<|og 5 true (fun G Q U W H D=>zIs ((((((zAp (q.own 1 _ Z).2).ptr).snd Z).snd (zCZ _ _ _))).pin ((q.own 1 _ Z).2.2 _ (.head _)) Z) (D.h 0 G Z) (D.h 1 G Z) underlying25 sizeOf54 (gd e39 G) Z)<|og 5 true (fun G Q U W H D=>zAx ((((((((zAp (q.own 1 _ Z).2).ptr).snd Z).snd (zCZ _ _ _))).pin ((q.own 1 _ Z).2.2 _ (.head _)) Z).elem (gd e39 G) Z)).ad (D.h 0 G Z) zDc sizeOf3 (by decide) (zKB ((((((((zAp (q.own 1 _ Z).2).ptr).snd Z).snd (zCZ _ _ _))).pin ((q.own 1 _ Z).2.2 _ (.head _)) Z).elem (gd e39 G) Z)).ad))<|og 5 true (fun G Q U W H D=>OpF.int (zGf (((((((((zAp ((q.fr W).own 1 _ Z).2).ptr).snd Z).snd (zCZ _ _ _))).pin (((q.fr W).own 1 _ Z).2.2 _ (.head _)) Z).elem (gd e39 G) Z)).rdp.fst) (D.h 0 G Z) isAgg3 sizeOf3))<|gm 5 true h1<|og 5 true (fun G Q U W H D=>zB8 (D.h 0 G Z) (D.h 1 G Z))<|op (fun Q U W H D=>zAR (decide (y34<(x4.2.2.length:Int))) (D.g 0 Z) (fun hc=>by have a1:Q 52=.bool (decide (((gtD x4.2.2 y34).1)<p1)):=D 1 _ _ _ Z Z Z Z (zBJ Z (zAf hc));show _=Value.bool x40;rw [q41,hc];exact a1) (fun hc=>by show _=Value.bool x40;rw [q41,hc];exact Z))<|oz
 intro R w m n p d j
 obtain ⟨h1,h2,h6,h8,h9⟩:=k5 n h1 h2 h6 h8 h9
 have h53:=p.r 14 Z
 replace f_v2:=f_v2.fr m
 replace q:=q.fr m
 replace q:IniOK [⟨u2,S3,trR (geB w0.heap.size) (oPt 27 (oPr (oRd (eInt .i64)) (oPr (oRd (eSl zA0)) (oSl 54 (oRd zA1))))) (0,(([]:List zA3),([]:List zA4))) []⟩,⟨u8,S10,trR (geB w0.heap.size) (oPt 27 (oPr (oRd (eInt .i64)) (oPr (oRd (eSl zA0)) (oSl 54 (oRd zA1))))) x4 []⟩] A w:=q.repin 1 Z trP.nopin
 refine zPJ x40 h53 (fun c42=>?_) (fun c42=>?_)
 have c:=zAe c42 c
 refine HT.skip<|HT.block ?_
 obtain ⟨e43,c⟩:=zAG c
 refine HT.u d j (eI y34::eI (y34+1)::eI (y34+1)::[]) ?_ ?_
 exact om h9<|op (fun Q U W H D=>zAi (D.g 0 Z) Z e43)<|oa<|oz
 intro R w m n p d j
 obtain ⟨h1,h2,h6,h8⟩:=k4 n h1 h2 h6 h8
 have h9:=p.r 2 Z
 replace f_v2:=f_v2.fr m
 replace q:=q.fr m
 exact ei k (And.intro (Nat.lt_succ_self k) ⟨_,_,c,d,j,B,q,h1,h2,h6,h8,h9,f_v2⟩)
 have c:=zAd c42 c
 refine zPO ?_
 obtain rfl:=si c
 exact ei _ ⟨_,Z,d,j,B,q,h1,h2,h6,h8,h9,f_v2⟩
 rintro R w ⟨A,s33,es,d,j,B,q,h1,h2,h6,h8,h9,f_v2⟩
 obtain rfl:=es.symm
 obtain ⟨e44,c⟩:=zAG c
 refine zPS [⟨u2,S3,trR (geB w0.heap.size) (oPt 27 (oPr (oRd (eInt .i64)) (oPr (oRd (eSl zA0)) (oSl 54 (oRd zA1))))) (0,(([]:List zA3),([]:List zA4))) []⟩,⟨u8,S10,trR (geB w0.heap.size) (oPt 27 (oPr (oRd (eInt .i64)) (oPr (oRd (eSl zA0)) (oSl 54 (oRd zA1))))) x4 []⟩] (rI p1::⟨_,true,[],some (.vec w0.heap.size 9 eStr ([]:List (List UInt8))),true,fun A=>.any⟩::rR v2::⟨_,true,[3],some (.nul),false,fun A=>.rep (eSl eStr) A (([]:List (List UInt8))++p2)⟩::(rF fun A=>.rep zA1 A (p1,(([]:List (List UInt8))++p2)))::⟨_,true,[],some (.box w0.heap.size 54 zA1 (0,([]:List (List UInt8)))),true,fun A=>.any⟩::⟨_,true,[7],some (.box w0.heap.size 54 zA1 (p1,(([]:List (List UInt8))++p2))),false,fun A=>.any⟩::[]) (ur (ua (ur (up (up (ua (ua (UAll.nil)))))))) q d ?_ ?_
 exact rm h1<|rc (OblR.made _ Z Z Z Z fun V Q U O D=>by exact zBM [] (E:=eStr) N underlying28 sizeOf9 zeroValue9 Z Z Z (Nat.le_trans j.size O.ch.size))<|rm h2<|rc (zPW 3 _ Z Z Z Z Z fun V Q U O D u X Y J L M=>by have a1:Q 58=v2:=D.g 1 Z;have ra1:=(f_v2.stp O.stp).eq a1;exact OpR.thaw (zAs (L _ _ Z Z Z Z).symm X Y (Nat.le_trans j.size O.ch.size) ra1 underlying28 el_9 e44) O.av Y)<|rp (fun V Q U O D=>by have a0:Q 56=.int .i64 p1:=D.g 0 Z;obtain ⟨c45a,c45n,c45c,c45,c45r⟩:=zF7 (D.g 1 Z);exact zDn (v:=.agg #[.int .i64 p1,.slice c45a c45n c45c]) (by simp [execOp,Instr.build,zAL,a0,c45,underlying,underlying54,zeroValue54,sizeOf28,sizeOf3,go_sem,Instr.fill]) ⟨_,Z,zCo zAm c45r⟩)<|rc (OblR.made _ Z Z Z Z fun V Q U O D=>by exact zCI zeroValue54 (fun A w=>zCo zAm zBD) (Nat.le_trans j.size O.ch.size))<|rc (OblR.took 7 _ _ Z Z Z Z Z fun V Q U O D u X Y J L M=>by have a1:Rep zA1 V U (Q 60) (p1,(([]:List (List UInt8))++p2)):=D.g 1 Z;obtain ⟨b,hb,hB',hbx⟩:=X;have hop':=L _ _ Z Z Z Z;exact zBX a1 (hop'.symm.trans hb) hb ⟨b,hb,hB',hbx⟩ Y (FldS.id _) sizeOf54 Z)<|rz
 intro done ρ σ A R w y s
 obtain ⟨h6,h8,h9⟩:=k3 s.rg h6 h8 h9
 have z46:=s.inivR 0 Z
 have z47:=s.inivR 1 Z
 obtain ⟨b10_47,e_b10_47⟩:=s.boxv y 8 Z Z
 have z49:=(s.opnR y 8 6 Z Z Z Z Z).symm.trans e_b10_47
 have h10:=s.ov y 7 5 z49
 have eS_u2:=s.inisR 0 Z
 have eS_u8:=s.inisR 1 Z
 obtain ⟨B,j,d⟩:=s.s B C j q ⟨fun _ h=>h,⟨fun _ h=>h,N⟩⟩
 replace q:=s.left y [(0,⟨u2,S3,trR (geB w0.heap.size) (oPt 27 (oPr (oRd (eInt .i64)) (oPr (oRd (eSl zA0)) (oSl 54 (oRd zA1))))) (0,(([]:List zA3),([]:List zA4))) []⟩),(1,⟨u8,S10,trR (geB w0.heap.size) (oPt 27 (oPr (oRd (eInt .i64)) (oPr (oRd (eSl zA0)) (oSl 54 (oRd zA1))))) x4 []⟩),(8,ob (.pointer (some ⟨b10_47,0,none⟩)) (.box w0.heap.size 54 zA1 (p1,(([]:List (List UInt8))++p2))))] ⟨Z,Z,z46,eS_u2,Z,⟨Z,Z,z47,eS_u8,Z,⟨Z,Z,e_b10_47,Z,Z,N⟩⟩⟩
 refine zPQ ?_
 replace q:IniOK [⟨u8,S10,trR (geB w0.heap.size) (oPt 27 (oPr (oRd (eInt .i64)) (oPr (oRd (eSl zA0)) (oSl 54 (oRd zA1))))) x4 []⟩,⟨u2,S3,trR (geB w0.heap.size) (oPt 27 (oPr (oRd (eInt .i64)) (oPr (oRd (eSl zA0)) (oSl 54 (oRd zA1))))) (0,(([]:List zA3),([]:List zA4))) []⟩,ob (.pointer (some ⟨b10_47,0,none⟩)) (.box w0.heap.size 54 zA1 (p1,(([]:List (List UInt8))++p2)))] A w:=q.sub [(1,⟨u8,S10,trR (geB w0.heap.size) (oPt 27 (oPr (oRd (eInt .i64)) (oPr (oRd (eSl zA0)) (oSl 54 (oRd zA1))))) x4 []⟩),(0,⟨u2,S3,trR (geB w0.heap.size) (oPt 27 (oPr (oRd (eInt .i64)) (oPr (oRd (eSl zA0)) (oSl 54 (oRd zA1))))) (0,(([]:List zA3),([]:List zA4))) []⟩),(2,ob (.pointer (some ⟨b10_47,0,none⟩)) (.box w0.heap.size 54 zA1 (p1,(([]:List (List UInt8))++p2))))] ⟨Z,Z,⟨Z,Z,⟨Z,Z,N⟩⟩⟩
 obtain ⟨A,S50,hle,B,d,q⟩:=q.freezeR d B C
 clear hle
 replace q:IniOK [⟨u8,S50,trR (geB w0.heap.size) (oPt 27 (oRd zA2)) x4 []⟩,⟨u2,S3,trR (geB w0.heap.size) (oPt 27 (oPr (oRd (eInt .i64)) (oPr (oRd (eSl zA0)) (oSl 54 (oRd zA1))))) (0,(([]:List zA3),([]:List zA4))) []⟩,ob (.pointer (some ⟨b10_47,0,none⟩)) (.box w0.heap.size 54 zA1 (p1,(([]:List (List UInt8))++p2)))] A w:=q
 obtain ⟨e51,e52,e53,e54,c⟩:=ck4 c
 obtain ⟨e55,c⟩:=zAG c
 refine zPN [⟨u8,S50,trR (geB w0.heap.size) (oPt 27 (oRd zA2)) x4 []⟩,⟨u2,S3,trR (geB w0.heap.size) (oPt 27 (oPr (oRd (eInt .i64)) (oPr (oRd (eSl zA0)) (oSl 54 (oRd zA1))))) (0,(([]:List zA3),([]:List zA4))) []⟩,ob (.pointer (some ⟨b10_47,0,none⟩)) (.box w0.heap.size 54 zA1 (p1,(([]:List (List UInt8))++p2)))] (⟨_,true,[],some (.vec w0.heap.size 54 zA1 ([]:List zA4)),true,fun A=>.any⟩::rR (padd u8 2)::(rF fun A=>.rep (eSl zA1) A x4.2.2)::rI s33::(rF fun A=>.rep (eSl zA1) A (subL x4.2.2 0 s33))::⟨_,true,[3],some (.vec w0.heap.size 54 zA1 (([]:List zA4)++(subL x4.2.2 0 s33))),true,fun A=>.any⟩::(rF fun A=>.rep zA1 A (p1,(([]:List (List UInt8))++p2)))::(rF fun A=>.rep (eSl zA1) A ([(p1,(([]:List (List UInt8))++p2))]:List zA4))::⟨_,true,[8],some (.vec w0.heap.size 54 zA1 ((([]:List zA4)++(subL x4.2.2 0 s33))++([(p1,(([]:List (List UInt8))++p2))]:List zA4))),true,fun A=>.any⟩::rR (padd u8 2)::(rF fun A=>.rep (eSl zA1) A x4.2.2)::rI s33::(rF fun A=>.rep (eSl zA1) A (subL x4.2.2 s33 (x4.2.2.length:Int)))::⟨_,true,[11],some (.vec w0.heap.size 54 zA1 (((([]:List zA4)++(subL x4.2.2 0 s33))++([(p1,(([]:List (List UInt8))++p2))]:List zA4))++(subL x4.2.2 s33 (x4.2.2.length:Int)))),true,fun A=>.any⟩::rR (padd u8 2)::⟨_,true,[0,16],some (trR (geB w0.heap.size) (oPt 27 (oPr (oRd (eInt .i64)) (oPr (oRd (eSl zA0)) (oSl 54 (oRd zA1))))) (x4.1,x4.2.1,(((([]:List zA4)++(subL x4.2.2 0 s33))++([(p1,(([]:List (List UInt8))++p2))]:List zA4))++(subL x4.2.2 s33 (x4.2.2.length:Int)))) []),false,fun A=>.any⟩::[]) (by kernel_rfl) (by kernel_rfl) (by kernel_rfl) (Wf.mk' (by kernel_rfl) (ua (ur (up (ur (up (ua (up (up (ua (ur (up (ur (up (ua (ur (ua (UAll.nil))))))))))))))))) (by kernel_rfl) (by kernel_rfl)) q d ?_ ?_
 exact rc (OblR.made _ Z Z Z Z fun V Q U O D=>by exact zBM [] (E:=zA1) N underlying25 sizeOf54 zeroValue54 Z Z Z (Nat.le_trans j.size O.ch.size))<|rp (fun V Q U O D=>zAx ((zAp (q.own 0 _ Z).2).ptr).ad ((O.old 8 Z).trans h8) zAv sizeOf25 (by decide) Z)<|rp (fun V Q U O D=>(zGf (((((zAp (O.rdo 0 _ Z Z).2).ptr).rdp.snd Z).rdp.snd (zCZ _ _ _))) (D.g 0 Z) isAgg25 sizeOf25))<|rm h9<|rp (fun V Q U O D=>zFO (D.g 0 Z) (D.g 1 Z) underlying25 sizeOf54 e51)<|rc (OblR.took 3 _ _ Z Z Z Z Z fun V Q U O D u X Y J L M=>by have a1:Rep (eSl zA1) V U (Q 65) (subL x4.2.2 0 s33):=D.g 1 Z;exact zAs (L _ _ Z Z Z Z).symm X Y (Nat.le_trans j.size O.ch.size) a1 underlying25 zLr e52)<|rp (fun V Q U O D=>(zAA (O.rd 2 _ Z Z) ((O.old 10 Z).trans h10) (Fld.id _) Z isAgg54 sizeOf54))<|rp (fun V Q U O D=>zC7 [_] (E:=zA1) ⟨(D.g 0 Z),N⟩ underlying25 sizeOf54 zeroValue54 Z Z Z O.av)<|rc (OblR.took 8 _ _ Z Z Z Z Z fun V Q U O D u X Y J L M=>by have a1:Rep (eSl zA1) V U (Q 68) ([(p1,(([]:List (List UInt8))++p2))]:List zA4):=D.g 1 Z;exact zAs (L _ _ Z Z Z Z).symm X Y (Nat.le_trans j.size O.ch.size) a1 underlying25 zLr e53)<|rp (fun V Q U O D=>zAx ((zAp (q.own 0 _ Z).2).ptr).ad ((O.old 8 Z).trans h8) zAv sizeOf25 (by decide) Z)<|rp (fun V Q U O D=>(zGf (((((zAp (O.rdo 0 _ Z Z).2).ptr).rdp.snd Z).rdp.snd (zCZ _ _ _))) (D.g 0 Z) isAgg25 sizeOf25))<|rm h9<|rp (fun V Q U O D=>zDb (D.g 0 Z) (D.g 1 Z) underlying25 sizeOf54 e54)<|rc (OblR.took 11 _ _ Z Z Z Z Z fun V Q U O D u X Y J L M=>by have a1:Rep (eSl zA1) V U (Q 73) (subL x4.2.2 s33 (x4.2.2.length:Int)):=D.g 1 Z;exact zAs (L _ _ Z Z Z Z).symm X Y (Nat.le_trans j.size O.ch.size) a1 underlying25 zLr e55)<|rp (fun V Q U O D=>zAx ((zAp (q.own 0 _ Z).2).ptr).ad ((O.old 8 Z).trans h8) zAv sizeOf25 (by decide) Z)<|rc (zPY 0 [16] _ Z Z Z Z fun V Q U O D ρ σ X Y J L M hdd=>by have a0:Q 75=(padd u8 2):=D.g 0 Z;have k1:=X 0 (.head _) _ Z;have e0:=(J 0 (.head _) _ Z).1;rw [e0] at k1 ⊢;exact zKP Z k1.2.2 (zIc (X 16 (.tail _ (.head _)) _ Z).1 (X 16 (.tail _ (.head _)) _ Z).2) (L 16 (.tail _ (.head _)) _ _ Z Z Z Z).symm a0 Y hdd k1.2.1 (zNn (X 16 (.tail _ (.head _)) _ Z).1 (X 16 (.tail _ (.head _)) _ Z).2) sizeOf25)<|rz
 intro done ρ σ A R w y s
 obtain ⟨h6,h8⟩:=k2 s.rg h6 h8
 have z56:=s.inivR 0 Z
 have z57:=s.on y 18 15 Z Z Z Z Z z56
 have z58:=s.inivR 1 Z
 have z59:=s.inivR 2 Z
 obtain ⟨S60,eS_u8⟩:∃ S,σ 18=S:=⟨_,Z⟩
 have eS_u2:=s.inisR 1 Z
 obtain ⟨B,j,d⟩:=s.s B C j q ⟨fun _ h=>h,⟨fun _ h=>h,⟨Z,N⟩⟩⟩
 replace q:=s.left y [(18,⟨u8,S60,trR (geB w0.heap.size) (oPt 27 (oPr (oRd (eInt .i64)) (oPr (oRd (eSl zA0)) (oSl 54 (oRd zA1))))) (x4.1,x4.2.1,(((([]:List zA4)++(subL x4.2.2 0 s33))++([(p1,(([]:List (List UInt8))++p2))]:List zA4))++(subL x4.2.2 s33 (x4.2.2.length:Int)))) []⟩),(1,⟨u2,S3,trR (geB w0.heap.size) (oPt 27 (oPr (oRd (eInt .i64)) (oPr (oRd (eSl zA0)) (oSl 54 (oRd zA1))))) (0,(([]:List zA3),([]:List zA4))) []⟩)] ⟨Z,Z,z57,eS_u8,Z,⟨Z,Z,z58,eS_u2,Z,N⟩⟩
 obtain ⟨Yg60,g_Yg60⟩:∃ z:zA7,z=(x4.1,x4.2.1,(((([]:List zA4)++(subL x4.2.2 0 s33))++([(p1,(([]:List (List UInt8))++p2))]:List zA4))++(subL x4.2.2 s33 (x4.2.2.length:Int)))):=⟨_,Z⟩
 rw [<- g_Yg60] at q
 try rw [<- g_Yg60] at c
 refine zPS [⟨u8,S60,trR (geB w0.heap.size) (oPt 27 (oPr (oRd (eInt .i64)) (oPr (oRd (eSl zA0)) (oSl 54 (oRd zA1))))) Yg60 []⟩,⟨u2,S3,trR (geB w0.heap.size) (oPt 27 (oPr (oRd (eInt .i64)) (oPr (oRd (eSl zA0)) (oSl 54 (oRd zA1))))) (0,(([]:List zA3),([]:List zA4))) []⟩] (⟨_,true,[0],some (trR (geB w0.heap.size) (oPr (oRd (eInt .i64)) (oPr (oRd (eSl zA0)) (oSl 54 (oRd zA1)))) Yg60 []),true,fun A=>.any⟩::⟨_,true,[1,2],some (trR (geB w0.heap.size) (oPt 27 (oPr (oRd (eInt .i64)) (oPr (oRd (eSl zA0)) (oSl 54 (oRd zA1))))) Yg60 []),false,fun A=>.any⟩::rB true::[]) (ua (ua (ur (UAll.nil)))) q d ?_ ?_
 exact rc (zPZ 0 _ _ Z Z Z Z Z fun V Q U O D u S X I Y J L M=>by have a0:Q 8=u8:=(O.old 8 Z).trans h8;exact zDa I.2 (a0.trans (J _ Z).1.symm) Y I.1 isAgg27 sizeOf27)<|rc (zPY 1 [2] _ Z Z Z Z fun V Q U O D ρ σ X Y J L M hdd=>by have a0:Q 6=u2:=(O.old 6 Z).trans h6;have k1:=X 1 (.head _) _ Z;have e0:=(J 1 (.head _) _ Z).1;rw [e0] at k1 ⊢;exact zCK Z (zAp k1.2.2).ptr (X 2 (.tail _ (.head _)) _ Z).2.2.1 (L 2 (.tail _ (.head _)) _ _ Z Z Z Z).symm a0 Y hdd k1.2.1 (X 2 (.tail _ (.head _)) _ Z).2.1 sizeOf27 (fun _ _ _ h=>h))<|rp (fun V Q U O D=>zA6 Z)<|rz
 intro done ρ σ A R w y s
 replace h6:=k1 s.rg h6
 have z62:=s.inivR 1 Z
 have z63:=s.on y 3 1 Z Z Z Z Z z62
 obtain ⟨S64,eS_u2⟩:∃ S,σ 3=S:=⟨_,Z⟩
 have h7:=s.r y 2 Z
 obtain ⟨B,j,d⟩:=s.s B C j q ⟨fun _ h=>h,⟨fun _ h=>h,N⟩⟩
 replace q:=s.left y [(3,⟨u2,S64,trR (geB w0.heap.size) (oPt 27 (oPr (oRd (eInt .i64)) (oPr (oRd (eSl zA0)) (oSl 54 (oRd zA1))))) Yg60 []⟩)] ⟨Z,Z,z63,eS_u2,Z,N⟩
 refine HT.ret ?_
 obtain rfl:=si c
 obtain ⟨v_6,S_6,e_6,q⟩:=q.unbox 0 Z h6 isAgg27 sizeOf27
 obtain ⟨A1,hA1,hG1⟩:=GPost.of q d B (fun k hk=>.inl (q.ge (⟨fun _ h=>h,N⟩) k hk)) (j.ch (fun _=>False))
 exact ⟨.inr Z,[v_6,R 7],⟨e_6,⟨Z,N⟩⟩,v_6,S_6,A1,hG1,⟨_,_,Z,Z,h7⟩⟩
theorem zGq {fu : Nat} {A0 : Av} {p0 : zA7} {p1 : Int} {p2 : List (List UInt8)} {r : zA7 × Bool} (c : zCd fu p0 p1 p2 = some r) {w : World} {v0 : Value} {v1 : Value} {v2 : Value} (d : AvOK A0 w) (h0 : Rep zA2 A0 w v0 p0) (h1 : v1=.int .i64 p1) (h2 : Rep (eSl eStr) A0 w v2 p2) :
 Calls prog 16 #[v0,v1,v2] w fun e w'=>∃ v,e=.returned v/\((∃ a b,v=.tuple #[a,b]/\Rep zA2 A0 w' a r.1/\b=.bool r.2)/\Fr w w'):=by
 refine Calls.mono (zFB c d h0 h1 h2) ?_
 rintro e w' ⟨v,he,u0,S0,A1,hG,a0,a1,hv,e0,e1⟩
 exact ⟨v,he,⟨a0,a1,hv,(zNB (hG.ini.own 0 _ Z).2 hG.low (fun k o hk ha=>Nat.not_lt.2 ((hG.ini.own 0 _ Z).1 k hk) (d k o ha))).eq e0,e1⟩,hG.ch.no⟩
def zCB (fu : Nat) : Nat -> Int -> zAI -> zA7 -> Option (zAI × zA7)
 | 0,_,_,_=>none
 | k+1,y40,y41,y42=>
 bif (decide (0<y40)) then (
 cl true (zBh fu y41 20) fun x45=>
 cl true (zCm fu x45.2) fun x47=>
 cl true (zCd fu y42 x45.1 x47.1) fun x49=>
 ck (i64B (y40-1)) <|
 zCB fu k (y40-1) x47.2 x49.1
 ) else (
 some (y41,y42)
 )
def zDe (fu:Nat) (p0:zAI):Option (zA7 × zAI):=
 cl true (zE4 fu p0) fun x6=>
 cl true (zC9 fu x6.1) fun x9=>
 cl true (zBu fu x6.2 ([500,300,700,800,1000,1]:List Int)) fun x15=>
 cl true (zD9 fu x9 x15.1) fun x17=>
 cl true (zBu fu x15.2 ([4,8,14]:List Int)) fun x30=>
 cl true (zBh fu x30.2 x30.1) fun x32=>
 cl true (zCB fu fu x32.1 x32.2 x17.1) fun s39=>
 some (s39.2,s39.1)
theorem zHZ {fu : Nat} {Aq : Av} {p0 : zAI} {r : zA7 × zAI} (c : zDe fu p0 = some r) {w : World} {v0 : Value} {b0 B0 : Nat} (d : AvOK Aq w) (h0 : v0=.pointer (some ⟨b0, 0, none⟩)) (hO0 : IniOK [ob (.pointer (some ⟨b0, 0, none⟩)) (.box B0 69 zA5 p0)] Aq w) :
 Calls prog 45 #[v0] w fun e w'=>∃ v,e=.returned v/\(∃ (u0:Value) (S0:Nat->Prop) (A1:Av),GPost (subS Aq (zAE (.pointer (some ⟨b0,0,none⟩)))) (zAE (.pointer (some ⟨b0,0,none⟩))) w [ob (.pointer (some ⟨b0,0,none⟩)) (.box B0 69 zA5 r.2),⟨u0,S0,trR (geB w.heap.size) (oPr (oRd (eInt .i64)) (oPr (oRd (eSl zA0)) (oSl 54 (oRd zA1)))) r.1 []⟩] A1 w'/\(Fact.raw u0).ok v w'):=by
 unfold zDe at c
 obtain ⟨w0,hw0⟩:∃ w0,w0=w:=⟨_,Z⟩
 have j:Ch (zAE (.pointer (some ⟨b0,0,none⟩))) w0 w:=hw0 ▸ Ch.refl _ _
 obtain ⟨A0,hA0e⟩:∃ A0,A0=subS Aq (zAE (.pointer (some ⟨b0,0,none⟩))):=⟨_,Z⟩
 have C:∀ b o,A0 b o->b<w0.heap.size:=fun b o h=>hw0 ▸ d b o (hA0e ▸ h:subS Aq _ b o).1
 have K:∀ b o,A0 b o->¬ (zAE (.pointer (some ⟨b0,0,none⟩))) b:=fun b o h=>(hA0e ▸ h:subS Aq _ b o).2
 have hA00:AvOK A0 w0:=C
 rw [show GPost (subS Aq (zAE (.pointer (some ⟨b0,0,none⟩)))) (zAE (.pointer (some ⟨b0,0,none⟩))) w=GPost A0 (zAE (.pointer (some ⟨b0,0,none⟩))) w0 from by rw [hA0e,hw0]]
 rw [show w.heap.size=w0.heap.size from by rw [hw0]]
 obtain ⟨A,hAe⟩:∃ A,A=Aq:=⟨_,Z⟩
 have B:∀ b o,A0 b o->A b o:=fun b o h=>hAe ▸ (hA0e ▸ h:subS Aq _ b o).1
 replace d:AvOK A w:=hAe ▸ d
 have q:IniOK [ob (.pointer (some ⟨b0,0,none⟩)) (.box B0 69 zA5 p0)] A w:=hAe ▸ hO0
 clear hA0e hO0
 refine zAB [.cell 2 27] func45 ntmps45 (by decide) Z Z (nb Z) ?_
 intro R hR
 replace h0:R 0=.pointer (some ⟨b0,0,none⟩):=(hR 0 _ Z).trans h0
 refine zPS [ob (.pointer (some ⟨b0,0,none⟩)) (.box B0 69 zA5 p0)] (⟨_,true,[],some (trR (geB w0.heap.size) (oPt 27 (oPr (oRd (eInt .i64)) (oPr (oRd (eSl zA0)) (oSl 54 (oRd zA1))))) (0,(([]:List zA3),([]:List zA4))) []),true,fun A=>.any⟩::[]) (ua (UAll.nil)) q d ?_ ?_
 exact rc (zPX _ Z Z Z Z fun V Q U O D=>by exact zCg zeroValue27 (fun A w=>zD2 (zCy zAm) (zD2 (zCy zBD) zDN)) (fun k hk=>Nat.le_trans (Nat.le_trans j.size O.ch.size) hk))<|rz
 intro done ρ σ A R w y s
 replace h0:=k1 s.rg h0
 have z1:=s.inivR 0 Z
 obtain ⟨u2,e_u2⟩:∃ u,ρ 1=u:=⟨_,Z⟩
 have h2:=s.ov y 1 0 e_u2
 obtain ⟨S3,eS_u2⟩:∃ S,σ 1=S:=⟨_,Z⟩
 replace B:=s.lowK B C K (q.geK (⟨.inr (fun k h=>.inr h),N⟩))
 replace j:Ch (zAE (.pointer (some ⟨b0,0,none⟩))) w0 w:=j.tr s.ch (q.geK (⟨.inr (fun k h=>.inr h),N⟩))
 replace q:=s.left y [(0,ob (.pointer (some ⟨b0,0,none⟩)) (.box B0 69 zA5 p0)),(1,⟨u2,S3,trR (geB w0.heap.size) (oPt 27 (oPr (oRd (eInt .i64)) (oPr (oRd (eSl zA0)) (oSl 54 (oRd zA1))))) (0,(([]:List zA3),([]:List zA4))) []⟩)] ⟨Z,Z,z1,Z,Z,⟨Z,Z,e_u2,eS_u2,Z,N⟩⟩
 replace d:=s.avok
 refine zPQ ?_
 refine SG.of<|SG.textR [ob (.pointer (some ⟨b0,0,none⟩)) (.box B0 69 zA5 p0),⟨u2,S3,trR (geB w0.heap.size) (oPt 27 (oPr (oRd (eInt .i64)) (oPr (oRd (eSl zA0)) (oSl 54 (oRd zA1))))) (0,(([]:List zA3),([]:List zA4))) []⟩] (rR (.pointer (some ⟨b0,0,none⟩))::[]) 1 Z Z Z (by kernel_rfl) (by kernel_rfl) (Wf.mk' (by kernel_rfl) (ur (UAll.nil)) (by kernel_rfl) (by kernel_rfl)) q d (N) ?_ ?_
 exact rm h0<|rz
 intro done ρ σ A R w y s
 obtain ⟨h0,h2⟩:=k2 s.rg h0 h2
 have z4:=s.inivR 0 Z
 have z5:=s.inivR 1 Z
 have eS_u2:=s.inisR 1 Z
 have h7:=s.r y 0 Z
 replace B:=s.lowK B C K (q.geK (⟨.inr (fun k h=>.inr h),⟨fun _ h=>.inl h,N⟩⟩))
 replace j:Ch (zAE (.pointer (some ⟨b0,0,none⟩))) w0 w:=j.tr s.ch (q.geK (⟨.inr (fun k h=>.inr h),⟨fun _ h=>.inl h,N⟩⟩))
 replace q:=s.left y [(0,ob (.pointer (some ⟨b0,0,none⟩)) (.box B0 69 zA5 p0)),(1,⟨u2,S3,trR (geB w0.heap.size) (oPt 27 (oPr (oRd (eInt .i64)) (oPr (oRd (eSl zA0)) (oSl 54 (oRd zA1))))) (0,(([]:List zA3),([]:List zA4))) []⟩)] ⟨Z,Z,z4,Z,Z,⟨Z,Z,z5,eS_u2,Z,N⟩⟩
 replace d:=s.avok
 obtain ⟨x6,q7,c⟩:=zA9 c
 have hFz:w0.heap.size<=w.heap.size:=j.size
 refine SG.op 8 Z Z Z Z (zB7 call72 (zHu (q7 Z) d h7 (q.sub [(0,ob (.pointer (some ⟨b0,0,none⟩)) (.box B0 69 zA5 p0))] ⟨Z,Z,N⟩))) ?_
 rintro v_ w ⟨u8,A,hG1,hv⟩ R n hd
 have hst:=zBO d hG1 (q.ok 0 _ Z).2
 replace B:∀ b o,A0 b o->A b o:=zBl B C K (q.geK (⟨.inr (fun k h=>.inr h),⟨fun _ h=>.inl h,N⟩⟩)) 0 Z hG1
 replace j:Ch (zAE (.pointer (some ⟨b0,0,none⟩))) w0 w:=j.tr hG1.ch (fun k hk=>(q.geK (⟨.inr (fun k h=>.inr h),⟨fun _ h=>.inl h,N⟩⟩)) k ⟨0,_,Z,hk⟩)
 replace q:=zPH q d 0 Z hG1
 replace d:=hG1.avok
 replace q:=q.reV (B':=w0.heap.size) 1 Z hFz
 replace q:IniOK [ob (.pointer (some ⟨b0,0,none⟩)) (.box B0 69 zA5 x6.2),ob u8 (.vec w0.heap.size 28 (eSl eStr) x6.1),⟨u2,S3,trR (geB w0.heap.size) (oPt 27 (oPr (oRd (eInt .i64)) (oPr (oRd (eSl zA0)) (oSl 54 (oRd zA1))))) (0,(([]:List zA3),([]:List zA4))) []⟩] A w:=q
 replace h0:=(n 0 Z).trans h0
 replace h2:=(n 2 Z).trans h2
 replace h7:=(n 7 Z).trans h7
 have h8:R 8=u8:=hd.trans hv
 clear hFz hG1 hv n hd
 replace q:IniOK [ob u8 (.vec w0.heap.size 28 (eSl eStr) x6.1),ob (.pointer (some ⟨b0,0,none⟩)) (.box B0 69 zA5 x6.2),⟨u2,S3,trR (geB w0.heap.size) (oPt 27 (oPr (oRd (eInt .i64)) (oPr (oRd (eSl zA0)) (oSl 54 (oRd zA1))))) (0,(([]:List zA3),([]:List zA4))) []⟩] A w:=q.sub [(1,ob u8 (.vec w0.heap.size 28 (eSl eStr) x6.1)),(0,ob (.pointer (some ⟨b0,0,none⟩)) (.box B0 69 zA5 x6.2)),(2,⟨u2,S3,trR (geB w0.heap.size) (oPt 27 (oPr (oRd (eInt .i64)) (oPr (oRd (eSl zA0)) (oSl 54 (oRd zA1))))) (0,(([]:List zA3),([]:List zA4))) []⟩)] ⟨Z,Z,⟨Z,Z,⟨Z,Z,N⟩⟩⟩
 obtain ⟨A,hle,B,d,q,f_u8⟩:=q.freeze d B C
 clear hle
 obtain ⟨x9,q10,c⟩:=zA9 c
 refine SG.textR [ob (.pointer (some ⟨b0,0,none⟩)) (.box B0 69 zA5 x6.2),⟨u2,S3,trR (geB w0.heap.size) (oPt 27 (oPr (oRd (eInt .i64)) (oPr (oRd (eSl zA0)) (oSl 54 (oRd zA1))))) (0,(([]:List zA3),([]:List zA4))) []⟩] (rR (.pointer (some ⟨b0,0,none⟩))::rR u8::(rF fun A=>.rep (eSl zA0) A x9)::rR (.pointer (some ⟨b0,0,none⟩))::(rF fun A=>.rep (eSl (eInt .i64)) A ([500,300,700,800,1000,1]:List Int))::[]) 5 Z Z Z (by kernel_rfl) (by kernel_rfl) (Wf.mk' (by kernel_rfl) (ur (ur (up (ur (up (UAll.nil)))))) (by kernel_rfl) (by kernel_rfl)) q d (⟨⟨Z,Z,Z,h7⟩,⟨⟨Z,Z,Z,h8⟩,N⟩⟩) ?_ ?_
 exact rp (fun V Q U O D=>zAM call71 (zG2 (q10 Z) O.av ((f_u8.stp O.stp).eq (D.g 0 Z))))<|rm h0<|rp (fun V Q U O D=>zC7 [_,_,_,_,_,_] (E:=eInt .i64) ⟨(zBa.eq Z),⟨(zBa.eq Z),⟨(zBa.eq Z),⟨(zBa.eq Z),⟨(zBa.eq Z),⟨(zBa.eq Z),N⟩⟩⟩⟩⟩⟩ underlying31 sizeOf3 zeroValue3 Z Z Z O.av)<|rz
 intro done ρ σ A R w y s
 obtain ⟨h0,h2⟩:=k2 s.rg h0 h2
 have z11:=s.inivR 0 Z
 have z12:=s.inivR 1 Z
 have eS_u2:=s.inisR 1 Z
 obtain ⟨u13,h9,f_u13⟩:∃ u,R 9=u/\Rep (eSl zA0) A w u x9:=⟨_,Z,s.fact y (i:=2) Z Z Z⟩
 have h10:=s.r y 3 Z
 obtain ⟨u14,h11,f_u14⟩:∃ u,R 11=u/\Rep (eSl (eInt .i64)) A w u ([500,300,700,800,1000,1]:List Int):=⟨_,Z,s.fact y (i:=4) Z Z Z⟩
 replace B:=s.lowK B C K (q.geK (⟨.inr (fun k h=>.inr h),⟨fun _ h=>.inl h,N⟩⟩))
 replace j:Ch (zAE (.pointer (some ⟨b0,0,none⟩))) w0 w:=j.tr s.ch (q.geK (⟨.inr (fun k h=>.inr h),⟨fun _ h=>.inl h,N⟩⟩))
 replace q:=s.left y [(0,ob (.pointer (some ⟨b0,0,none⟩)) (.box B0 69 zA5 x6.2)),(1,⟨u2,S3,trR (geB w0.heap.size) (oPt 27 (oPr (oRd (eInt .i64)) (oPr (oRd (eSl zA0)) (oSl 54 (oRd zA1))))) (0,(([]:List zA3),([]:List zA4))) []⟩)] ⟨Z,Z,z11,Z,Z,⟨Z,Z,z12,eS_u2,Z,N⟩⟩
 replace d:=s.avok
 obtain ⟨x15,q16,c⟩:=zA9 c
 have hFz:w0.heap.size<=w.heap.size:=j.size
 refine SG.op 12 Z Z Z Z (zB7 call34 (zCs (q16 Z) d h10 (q.sub [(0,ob (.pointer (some ⟨b0,0,none⟩)) (.box B0 69 zA5 x6.2))] ⟨Z,Z,N⟩) (f_u14.eq h11))) ?_
 rintro v_ w ⟨A,hG1,hv⟩ R n hd
 have hst:=zBO d hG1 (q.ok 0 _ Z).2
 replace B:∀ b o,A0 b o->A b o:=zBl B C K (q.geK (⟨.inr (fun k h=>.inr h),⟨fun _ h=>.inl h,N⟩⟩)) 0 Z hG1
 replace j:Ch (zAE (.pointer (some ⟨b0,0,none⟩))) w0 w:=j.tr hG1.ch (fun k hk=>(q.geK (⟨.inr (fun k h=>.inr h),⟨fun _ h=>.inl h,N⟩⟩)) k ⟨0,_,Z,hk⟩)
 replace q:=zPH q d 0 Z hG1
 replace d:=hG1.avok
 replace q:IniOK [ob (.pointer (some ⟨b0,0,none⟩)) (.box B0 69 zA5 x15.2),⟨u2,S3,trR (geB w0.heap.size) (oPt 27 (oPr (oRd (eInt .i64)) (oPr (oRd (eSl zA0)) (oSl 54 (oRd zA1))))) (0,(([]:List zA3),([]:List zA4))) []⟩] A w:=q
 replace h0:=(n 0 Z).trans h0
 replace h2:=(n 2 Z).trans h2
 replace h9:=(n 9 Z).trans h9
 replace h10:=(n 10 Z).trans h10
 replace h11:=(n 11 Z).trans h11
 replace f_u13:=f_u13.stp hst
 replace f_u14:=f_u14.stp hst
 have h12:R 12=.int .i64 x15.1:=hd.trans hv
 clear hFz hG1 hv n hd
 obtain ⟨x17,q18,c⟩:=zA9 c
 have hFz:w0.heap.size<=w.heap.size:=j.size
 refine SG.op 13 Z Z Z Z (zB7 call70 (zGX (q18 Z) d (f_u13.eq h9) h12)) ?_
 rintro v_ w ⟨u19,S20,A,hG1,hv⟩ R n hd
 obtain ⟨hO2,hst⟩:=zPI q d hG1
 replace q:=hO2
 replace d:=hG1.avok
 replace B:∀ b o,A0 b o->A b o:=fun b o h=>hG1.low b o (B b o h)
 replace j:Ch (zAE (.pointer (some ⟨b0,0,none⟩))) w0 w:=j.tr hG1.ch fun _ h=>False.elim h
 replace q:=q.reK (K':=geB w0.heap.size) 0 Z (fun k hk=>Nat.le_trans hFz hk)
 replace q:IniOK [⟨u19,S20,trR (geB w0.heap.size) (oPr (oRd (eInt .i64)) (oPr (oRd (eSl zA0)) (oSl 54 (oRd zA1)))) x17.1 []⟩,ob (.pointer (some ⟨b0,0,none⟩)) (.box B0 69 zA5 x15.2),⟨u2,S3,trR (geB w0.heap.size) (oPt 27 (oPr (oRd (eInt .i64)) (oPr (oRd (eSl zA0)) (oSl 54 (oRd zA1))))) (0,(([]:List zA3),([]:List zA4))) []⟩] A w:=q
 replace h0:=(n 0 Z).trans h0
 replace h2:=(n 2 Z).trans h2
 replace h9:=(n 9 Z).trans h9
 replace h12:=(n 12 Z).trans h12
 replace f_u13:=f_u13.stp hst
 have h13:Fact.ok (.tup2 (.raw u19) (.raw (.bool x17.2))) (R 13) w:=hd ▸ hv
 clear hFz hG1 hv n hd
 refine SG.textR [⟨u19,S20,trR (geB w0.heap.size) (oPr (oRd (eInt .i64)) (oPr (oRd (eSl zA0)) (oSl 54 (oRd zA1)))) x17.1 []⟩,ob (.pointer (some ⟨b0,0,none⟩)) (.box B0 69 zA5 x15.2),⟨u2,S3,trR (geB w0.heap.size) (oPt 27 (oPr (oRd (eInt .i64)) (oPr (oRd (eSl zA0)) (oSl 54 (oRd zA1))))) (0,(([]:List zA3),([]:List zA4))) []⟩] (rA::rA::rR u13::rA::rA::rI x15.1::(rF fun A=>.tup2 (.raw u19) (.raw (.bool x17.2)))::(rF fun A=>.tup2 (.raw u19) (.raw (.bool x17.2)))::rR u19::rB x17.2::⟨_,true,[],some (trR (geB w0.heap.size) (oPt 27 (oPr (oRd (eInt .i64)) (oPr (oRd (eSl zA0)) (oSl 54 (oRd zA1))))) (0,(([]:List zA3),([]:List zA4))) []),true,fun A=>.any⟩::⟨_,true,[13,0],some (trR (geB w0.heap.size) (oPt 27 (oPr (oRd (eInt .i64)) (oPr (oRd (eSl zA0)) (oSl 54 (oRd zA1))))) x17.1 []),false,fun A=>.any⟩::rB x17.2::[]) 13 Z Z Z (by kernel_rfl) (by kernel_rfl) (Wf.mk' (by kernel_rfl) (ua (ua (ur (ua (ua (ur (UAll.cons (zE8 zEA zEA) (UAll.cons (zE8 zEA zEA) (ur (ur (ua (ua (ur (UAll.nil)))))))))))))) (by kernel_rfl) (by kernel_rfl)) q d (⟨⟨Z,Z,Z,N⟩,⟨⟨Z,Z,Z,N⟩,⟨⟨Z,Z,Z,h9⟩,⟨⟨Z,Z,Z,N⟩,⟨⟨Z,Z,Z,N⟩,⟨⟨Z,Z,Z,h12⟩,⟨⟨Z,Z,Z,h13⟩,N⟩⟩⟩⟩⟩⟩⟩) ?_ ?_
 exact rp (fun V Q U O D=>zBI (D.g 0 Z))<|rp (fun V Q U O D=>zBv (D.g 0 Z))<|rp (fun V Q U O D=>zBj (D.g 0 Z))<|rc (zPX _ Z Z Z Z fun V Q U O D=>by exact zCg zeroValue27 (fun A w=>zD2 (zCy zAm) (zD2 (zCy zBD) zDN)) (fun k hk=>Nat.le_trans (Nat.le_trans j.size O.ch.size) hk))<|rc (zPY 13 [0] _ Z Z Z Z fun V Q U O D ρ σ X Y J L M hdd=>by have a1:Q 14=u19:=D.g 1 Z;have k1:=X 13 (.head _) _ Z;exact zCK Z (zAp k1.2.2).ptr (X 0 (.tail _ (.head _)) _ Z).2.2.1 (a1.trans (J 0 (.tail _ (.head _)) _ Z).1.symm) (L 13 (.head _) _ _ Z Z Z Z).symm Y hdd k1.2.1 (X 0 (.tail _ (.head _)) _ Z).2.1 sizeOf27 (fun _ _ _ h=>h))<|ra<|rz
 intro done ρ σ A R w y s
 obtain ⟨h0,h2⟩:=k2 s.rg h0 h2
 have z21:=s.inivR 1 Z
 have z22:=s.inivR 2 Z
 obtain ⟨u23,e_u23⟩:∃ u,ρ 14=u:=⟨_,Z⟩
 have z24:=(s.opnR y 14 11 Z Z Z Z Z).symm.trans e_u23
 have h3:=s.ov y 13 10 z24
 have eS_u2:=s.inisR 2 Z
 obtain ⟨S25,eS_u23⟩:∃ S,σ 14=S:=⟨_,Z⟩
 replace B:=s.lowK B C K (q.geK (⟨fun _ h=>.inl h,⟨.inr (fun k h=>.inr h),⟨fun _ h=>.inl h,N⟩⟩⟩))
 replace j:Ch (zAE (.pointer (some ⟨b0,0,none⟩))) w0 w:=j.tr s.ch (q.geK (⟨fun _ h=>.inl h,⟨.inr (fun k h=>.inr h),⟨fun _ h=>.inl h,N⟩⟩⟩))
 replace q:=s.left y [(1,ob (.pointer (some ⟨b0,0,none⟩)) (.box B0 69 zA5 x15.2)),(2,⟨u2,S3,trR (geB w0.heap.size) (oPt 27 (oPr (oRd (eInt .i64)) (oPr (oRd (eSl zA0)) (oSl 54 (oRd zA1))))) (0,(([]:List zA3),([]:List zA4))) []⟩),(14,⟨u23,S25,trR (geB w0.heap.size) (oPt 27 (oPr (oRd (eInt .i64)) (oPr (oRd (eSl zA0)) (oSl 54 (oRd zA1))))) x17.1 []⟩)] ⟨Z,Z,z21,Z,Z,⟨Z,Z,z22,eS_u2,Z,⟨Z,Z,e_u23,eS_u23,Z,N⟩⟩⟩
 replace d:=s.avok
 refine zPa Z ?_
 refine zPQ ?_
 refine zPQ ?_
 refine SG.of<|SG.textR [ob (.pointer (some ⟨b0,0,none⟩)) (.box B0 69 zA5 x15.2),⟨u2,S3,trR (geB w0.heap.size) (oPt 27 (oPr (oRd (eInt .i64)) (oPr (oRd (eSl zA0)) (oSl 54 (oRd zA1))))) (0,(([]:List zA3),([]:List zA4))) []⟩,⟨u23,S25,trR (geB w0.heap.size) (oPt 27 (oPr (oRd (eInt .i64)) (oPr (oRd (eSl zA0)) (oSl 54 (oRd zA1))))) x17.1 []⟩] (rR (.pointer (some ⟨b0,0,none⟩))::rR (.pointer (some ⟨b0,0,none⟩))::(rF fun A=>.rep (eSl (eInt .i64)) A ([4,8,14]:List Int))::[]) 3 Z Z Z (by kernel_rfl) (by kernel_rfl) (Wf.mk' (by kernel_rfl) (ur (ur (up (UAll.nil)))) (by kernel_rfl) (by kernel_rfl)) q d (N) ?_ ?_
 exact rm h0<|rm h0<|rp (fun V Q U O D=>zC7 [_,_,_] (E:=eInt .i64) ⟨(zBa.eq Z),⟨(zBa.eq Z),⟨(zBa.eq Z),N⟩⟩⟩ underlying31 sizeOf3 zeroValue3 Z Z Z O.av)<|rz
 intro done ρ σ A R w y s
 obtain ⟨h0,h2,h3⟩:=k3 s.rg h0 h2 h3
 have z26:=s.inivR 0 Z
 have z27:=s.inivR 1 Z
 have z28:=s.inivR 2 Z
 have eS_u2:=s.inisR 1 Z
 have eS_u23:=s.inisR 2 Z
 have h16:=s.r y 0 Z
 have h17:=s.r y 1 Z
 obtain ⟨u29,h18,f_u29⟩:∃ u,R 18=u/\Rep (eSl (eInt .i64)) A w u ([4,8,14]:List Int):=⟨_,Z,s.fact y (i:=2) Z Z Z⟩
 replace B:=s.lowK B C K (q.geK (⟨.inr (fun k h=>.inr h),⟨fun _ h=>.inl h,⟨fun _ h=>.inl h,N⟩⟩⟩))
 replace j:Ch (zAE (.pointer (some ⟨b0,0,none⟩))) w0 w:=j.tr s.ch (q.geK (⟨.inr (fun k h=>.inr h),⟨fun _ h=>.inl h,⟨fun _ h=>.inl h,N⟩⟩⟩))
 replace q:=s.left y [(0,ob (.pointer (some ⟨b0,0,none⟩)) (.box B0 69 zA5 x15.2)),(1,⟨u2,S3,trR (geB w0.heap.size) (oPt 27 (oPr (oRd (eInt .i64)) (oPr (oRd (eSl zA0)) (oSl 54 (oRd zA1))))) (0,(([]:List zA3),([]:List zA4))) []⟩),(2,⟨u23,S25,trR (geB w0.heap.size) (oPt 27 (oPr (oRd (eInt .i64)) (oPr (oRd (eSl zA0)) (oSl 54 (oRd zA1))))) x17.1 []⟩)] ⟨Z,Z,z26,Z,Z,⟨Z,Z,z27,eS_u2,Z,⟨Z,Z,z28,eS_u23,Z,N⟩⟩⟩
 replace d:=s.avok
 obtain ⟨x30,q31,c⟩:=zA9 c
 have hFz:w0.heap.size<=w.heap.size:=j.size
 refine SG.op 19 Z Z Z Z (zB7 call34 (zCs (q31 Z) d h17 (q.sub [(0,ob (.pointer (some ⟨b0,0,none⟩)) (.box B0 69 zA5 x15.2))] ⟨Z,Z,N⟩) (f_u29.eq h18))) ?_
 rintro v_ w ⟨A,hG1,hv⟩ R n hd
 have hst:=zBO d hG1 (q.ok 0 _ Z).2
 replace B:∀ b o,A0 b o->A b o:=zBl B C K (q.geK (⟨.inr (fun k h=>.inr h),⟨fun _ h=>.inl h,⟨fun _ h=>.inl h,N⟩⟩⟩)) 0 Z hG1
 replace j:Ch (zAE (.pointer (some ⟨b0,0,none⟩))) w0 w:=j.tr hG1.ch (fun k hk=>(q.geK (⟨.inr (fun k h=>.inr h),⟨fun _ h=>.inl h,⟨fun _ h=>.inl h,N⟩⟩⟩)) k ⟨0,_,Z,hk⟩)
 replace q:=zPH q d 0 Z hG1
 replace d:=hG1.avok
 replace q:IniOK [ob (.pointer (some ⟨b0,0,none⟩)) (.box B0 69 zA5 x30.2),⟨u2,S3,trR (geB w0.heap.size) (oPt 27 (oPr (oRd (eInt .i64)) (oPr (oRd (eSl zA0)) (oSl 54 (oRd zA1))))) (0,(([]:List zA3),([]:List zA4))) []⟩,⟨u23,S25,trR (geB w0.heap.size) (oPt 27 (oPr (oRd (eInt .i64)) (oPr (oRd (eSl zA0)) (oSl 54 (oRd zA1))))) x17.1 []⟩] A w:=q
 replace h0:=(n 0 Z).trans h0
 replace h2:=(n 2 Z).trans h2
 replace h3:=(n 3 Z).trans h3
 replace h16:=(n 16 Z).trans h16
 replace h17:=(n 17 Z).trans h17
 replace h18:=(n 18 Z).trans h18
 replace f_u29:=f_u29.stp hst
 have h19:R 19=.int .i64 x30.1:=hd.trans hv
 clear hFz hG1 hv n hd
 obtain ⟨x32,q33,c⟩:=zA9 c
 have hFz:w0.heap.size<=w.heap.size:=j.size
 refine SG.op 20 Z Z Z Z (zB7 call46 (zC2 (q33 Z) d h16 (q.sub [(0,ob (.pointer (some ⟨b0,0,none⟩)) (.box B0 69 zA5 x30.2))] ⟨Z,Z,N⟩) h19)) ?_
 rintro v_ w ⟨A,hG1,hv⟩ R n hd
 have hst:=zBO d hG1 (q.ok 0 _ Z).2
 replace B:∀ b o,A0 b o->A b o:=zBl B C K (q.geK (⟨.inr (fun k h=>.inr h),⟨fun _ h=>.inl h,⟨fun _ h=>.inl h,N⟩⟩⟩)) 0 Z hG1
 replace j:Ch (zAE (.pointer (some ⟨b0,0,none⟩))) w0 w:=j.tr hG1.ch (fun k hk=>(q.geK (⟨.inr (fun k h=>.inr h),⟨fun _ h=>.inl h,⟨fun _ h=>.inl h,N⟩⟩⟩)) k ⟨0,_,Z,hk⟩)
 replace q:=zPH q d 0 Z hG1
 replace d:=hG1.avok
 replace q:IniOK [ob (.pointer (some ⟨b0,0,none⟩)) (.box B0 69 zA5 x32.2),⟨u2,S3,trR (geB w0.heap.size) (oPt 27 (oPr (oRd (eInt .i64)) (oPr (oRd (eSl zA0)) (oSl 54 (oRd zA1))))) (0,(([]:List zA3),([]:List zA4))) []⟩,⟨u23,S25,trR (geB w0.heap.size) (oPt 27 (oPr (oRd (eInt .i64)) (oPr (oRd (eSl zA0)) (oSl 54 (oRd zA1))))) x17.1 []⟩] A w:=q
 replace h0:=(n 0 Z).trans h0
 replace h2:=(n 2 Z).trans h2
 replace h3:=(n 3 Z).trans h3
 replace h16:=(n 16 Z).trans h16
 replace h19:=(n 19 Z).trans h19
 have h20:R 20=.int .i64 x32.1:=hd.trans hv
 clear hFz hG1 hv n hd
 refine SG.textR [ob (.pointer (some ⟨b0,0,none⟩)) (.box B0 69 zA5 x32.2),⟨u2,S3,trR (geB w0.heap.size) (oPt 27 (oPr (oRd (eInt .i64)) (oPr (oRd (eSl zA0)) (oSl 54 (oRd zA1))))) (0,(([]:List zA3),([]:List zA4))) []⟩,⟨u23,S25,trR (geB w0.heap.size) (oPt 27 (oPr (oRd (eInt .i64)) (oPr (oRd (eSl zA0)) (oSl 54 (oRd zA1))))) x17.1 []⟩] (rR (.pointer (some ⟨b0,0,none⟩))::rA::rA::rI x30.1::rI x32.1::rI x32.1::[]) 6 Z Z Z (by kernel_rfl) (by kernel_rfl) (Wf.mk' (by kernel_rfl) (ur (ua (ua (ur (ur (ur (UAll.nil))))))) (by kernel_rfl) (by kernel_rfl)) q d (⟨⟨Z,Z,Z,h16⟩,⟨⟨Z,Z,Z,N⟩,⟨⟨Z,Z,Z,N⟩,⟨⟨Z,Z,Z,h19⟩,⟨⟨Z,Z,Z,h20⟩,N⟩⟩⟩⟩⟩) ?_ ?_
 exact ra<|rz
 intro done ρ σ A R w y s
 obtain ⟨h0,h2,h3⟩:=k3 s.rg h0 h2 h3
 have z34:=s.inivR 0 Z
 have z35:=s.inivR 1 Z
 have z36:=s.inivR 2 Z
 have eS_u2:=s.inisR 1 Z
 have eS_u23:=s.inisR 2 Z
 have h5:=s.r y 5 Z
 replace B:=s.lowK B C K (q.geK (⟨.inr (fun k h=>.inr h),⟨fun _ h=>.inl h,⟨fun _ h=>.inl h,N⟩⟩⟩))
 replace j:Ch (zAE (.pointer (some ⟨b0,0,none⟩))) w0 w:=j.tr s.ch (q.geK (⟨.inr (fun k h=>.inr h),⟨fun _ h=>.inl h,⟨fun _ h=>.inl h,N⟩⟩⟩))
 replace q:=s.left y [(0,ob (.pointer (some ⟨b0,0,none⟩)) (.box B0 69 zA5 x32.2)),(1,⟨u2,S3,trR (geB w0.heap.size) (oPt 27 (oPr (oRd (eInt .i64)) (oPr (oRd (eSl zA0)) (oSl 54 (oRd zA1))))) (0,(([]:List zA3),([]:List zA4))) []⟩),(2,⟨u23,S25,trR (geB w0.heap.size) (oPt 27 (oPr (oRd (eInt .i64)) (oPr (oRd (eSl zA0)) (oSl 54 (oRd zA1))))) x17.1 []⟩)] ⟨Z,Z,z34,Z,Z,⟨Z,Z,z35,eS_u2,Z,⟨Z,Z,z36,eS_u23,Z,N⟩⟩⟩
 replace d:=s.avok
 refine zPa Z ?_
 obtain ⟨rl37,q38,c⟩:=zA9 c
 replace q38:=q38 Z
 refine zPL (fun R w=>∃ A:Av,∃ (s39:zAI × zA7) (So_u23:Nat->Prop),rl37=s39/\AvOK A w/\Ch (zAE (.pointer (some ⟨b0,0,none⟩))) w0 w/\(∀ b o,A0 b o->A b o)/\IniOK [ob (.pointer (some ⟨b0,0,none⟩)) (.box B0 69 zA5 s39.1),⟨u2,S3,trR (geB w0.heap.size) (oPt 27 (oPr (oRd (eInt .i64)) (oPr (oRd (eSl zA0)) (oSl 54 (oRd zA1))))) (0,(([]:List zA3),([]:List zA4))) []⟩,⟨u23,So_u23,trR (geB w0.heap.size) (oPt 27 (oPr (oRd (eInt .i64)) (oPr (oRd (eSl zA0)) (oSl 54 (oRd zA1))))) s39.2 []⟩] A w/\R 2=u2/\R 3=u23) ?_ ?_
 refine HT.block<|zPP (fun k R w=>∃ A:Av,∃ (y40:Int) (y41:zAI) (y42:zA7) (Sl_u23:Nat->Prop),zCB fu k y40 y41 y42=some rl37/\AvOK A w/\Ch (zAE (.pointer (some ⟨b0,0,none⟩))) w0 w/\(∀ b o,A0 b o->A b o)/\IniOK [ob (.pointer (some ⟨b0,0,none⟩)) (.box B0 69 zA5 y41),⟨u2,S3,trR (geB w0.heap.size) (oPt 27 (oPr (oRd (eInt .i64)) (oPr (oRd (eSl zA0)) (oSl 54 (oRd zA1))))) (0,(([]:List zA3),([]:List zA4))) []⟩,⟨u23,Sl_u23,trR (geB w0.heap.size) (oPt 27 (oPr (oRd (eInt .i64)) (oPr (oRd (eSl zA0)) (oSl 54 (oRd zA1))))) y42 []⟩] A w/\R 0=(.pointer (some ⟨b0,0,none⟩))/\R 2=u2/\R 3=u23/\R 5=.int .i64 y40) fu ⟨_,_,_,_,S25,q38,d,j,B,q,h0,h2,h3,h5⟩ ?_
 have hr0:=c;clear c q38
 rintro k R w ⟨A,y40,y41,y42,Sl_u23,c,d,j,B,q,h0,h2,h3,h5⟩
 rcases k with _ | k
 cases (show none=some _ from c)
 rw [zCB] at c
 refine zPQ ?_
 refine zPQ ?_
 refine zPT (eI y40::eB (decide (0<y40))::[]) ?_ ?_
 exact om h5<|op (fun Q U W H D=>zEH (D.g 0 Z) Z)<|oz
 intro R w m n p
 obtain ⟨h0,h2,h3,h5⟩:=k4 n h0 h2 h3 h5
 have h22:=p.r 1 Z
 replace q:=q.fr m
 replace d:=d.fr m.size
 replace j:=j.tr (m.ch noB) fun _ h=>False.elim h
 refine zPJ (decide (0<y40)) h22 (fun c43=>?_) (fun c43=>?_)
 have c:=zAe c43 c
 refine HT.skip<|zPQ ?_
 refine HT.block ?_
 replace q:IniOK [⟨u23,Sl_u23,trR (geB w0.heap.size) (oPt 27 (oPr (oRd (eInt .i64)) (oPr (oRd (eSl zA0)) (oSl 54 (oRd zA1))))) y42 []⟩,ob (.pointer (some ⟨b0,0,none⟩)) (.box B0 69 zA5 y41),⟨u2,S3,trR (geB w0.heap.size) (oPt 27 (oPr (oRd (eInt .i64)) (oPr (oRd (eSl zA0)) (oSl 54 (oRd zA1))))) (0,(([]:List zA3),([]:List zA4))) []⟩] A w:=q.sub [(2,⟨u23,Sl_u23,trR (geB w0.heap.size) (oPt 27 (oPr (oRd (eInt .i64)) (oPr (oRd (eSl zA0)) (oSl 54 (oRd zA1))))) y42 []⟩),(0,ob (.pointer (some ⟨b0,0,none⟩)) (.box B0 69 zA5 y41)),(1,⟨u2,S3,trR (geB w0.heap.size) (oPt 27 (oPr (oRd (eInt .i64)) (oPr (oRd (eSl zA0)) (oSl 54 (oRd zA1))))) (0,(([]:List zA3),([]:List zA4))) []⟩)] ⟨Z,Z,⟨Z,Z,⟨Z,Z,N⟩⟩⟩
 obtain ⟨A,S44,hle,B,d,q⟩:=q.freezeR d B C
 clear hle
 replace q:IniOK [⟨u23,S44,trR (geB w0.heap.size) (oPt 27 (oRd zA2)) y42 []⟩,ob (.pointer (some ⟨b0,0,none⟩)) (.box B0 69 zA5 y41),⟨u2,S3,trR (geB w0.heap.size) (oPt 27 (oPr (oRd (eInt .i64)) (oPr (oRd (eSl zA0)) (oSl 54 (oRd zA1))))) (0,(([]:List zA3),([]:List zA4))) []⟩] A w:=q
 obtain ⟨x45,q46,c⟩:=zA9 c
 obtain ⟨x47,q48,c⟩:=zA9 c
 obtain ⟨x49,q50,c⟩:=zA9 c
 refine zPN [⟨u23,S44,trR (geB w0.heap.size) (oPt 27 (oRd zA2)) y42 []⟩,ob (.pointer (some ⟨b0,0,none⟩)) (.box B0 69 zA5 y41),⟨u2,S3,trR (geB w0.heap.size) (oPt 27 (oPr (oRd (eInt .i64)) (oPr (oRd (eSl zA0)) (oSl 54 (oRd zA1))))) (0,(([]:List zA3),([]:List zA4))) []⟩] ((rF fun A=>.rep zA2 A y42)::rR (.pointer (some ⟨b0,0,none⟩))::⟨_,true,[1],some (.box B0 69 zA5 x45.2),false,fun A=>.raw (.int .i64 x45.1)⟩::rR (.pointer (some ⟨b0,0,none⟩))::⟨_,true,[5],some (.box B0 69 zA5 x47.2),false,fun A=>.rep (eSl eStr) A x47.1⟩::⟨_,true,[],some (tupR (geB w0.heap.size) (oPr (oRd (eInt .i64)) (oPr (oRd (eSl zA0)) (oSl 54 (oRd zA1)))) x49.1 x49.2),true,fun A=>.tup2 (.any) (.raw (.bool x49.2))⟩::⟨_,true,[8],some (tupR (geB w0.heap.size) (oPr (oRd (eInt .i64)) (oPr (oRd (eSl zA0)) (oSl 54 (oRd zA1)))) x49.1 x49.2),true,fun A=>.tup2 (.any) (.raw (.bool x49.2))⟩::⟨_,true,[9],some (trR (geB w0.heap.size) (oPr (oRd (eInt .i64)) (oPr (oRd (eSl zA0)) (oSl 54 (oRd zA1)))) x49.1 []),true,fun A=>.any⟩::rB x49.2::⟨_,true,[0,10],some (trR (geB w0.heap.size) (oPt 27 (oPr (oRd (eInt .i64)) (oPr (oRd (eSl zA0)) (oSl 54 (oRd zA1))))) x49.1 []),false,fun A=>.any⟩::[]) (by kernel_rfl) (by kernel_rfl) (by kernel_rfl) (Wf.mk' (by kernel_rfl) (up (ur (ur (ur (up (UAll.cons (zE8 zKt zEA) (UAll.cons (zE8 zKt zEA) (ua (ur (ua (UAll.nil))))))))))) (by kernel_rfl) (by kernel_rfl)) q d ?_ ?_
 exact rp (fun V Q U O D=>(zGf ((zAp (O.rdo 0 _ Z Z).2).ptr) ((O.old 3 Z).trans h3) isAgg27 sizeOf27))<|rm h0<|rc (OblR.took 1 _ _ Z Z Z Z Z fun V Q U O D u X Y J L M=>by have a0:Q 27=(.pointer (some ⟨b0,0,none⟩)):=D.g 0 Z;have e0:=J _ Z;rw [e0] at X Y ⊢;exact zLZ call46 X Y O.av (fun s=>zC2 (q46 Z) O.av a0 s Z))<|rm h0<|rc (OblR.tookN 5 _ _ Z Z Z Z Z fun V Q U O D u S X I Y J L M hrt=>by have a0:Q 29=(.pointer (some ⟨b0,0,none⟩)):=D.g 0 Z;obtain rfl:=(Res.own_iff Z).1 I;have e0:=hrt 11 1 _ Z Z;rw [e0] at X Y ⊢;exact OpR.took (zLZ call47 X Y O.av (fun s=>zID (q48 Z) O.av a0 s)) Z)<|rc (zPX _ Z Z Z Z fun V Q U O D=>by have a0:Rep zA2 V U (Q 26) y42:=D.g 0 Z;have a1:Q 28=.int .i64 x45.1:=D.g 1 Z;have a2:Rep (eSl eStr) V U (Q 30) x47.1:=D.g 2 Z;exact zMC call16 (zFB (q50 Z) O.av a0 a1 a2) (fun k hk=>Nat.le_trans (Nat.le_trans j.size O.ch.size) hk))<|rc (zPZ 8 _ _ Z Z Z Z Z fun V Q U O D u S X I Y J L M=>by exact zME I.2 (L _ _ Z Z Z Z).symm Y I.1)<|rc (zPZ 9 _ _ Z Z Z Z Z fun V Q U O D u S X I Y J L M=>by exact zMW I.2 (L _ _ Z Z Z Z).symm Y I.1)<|rp (fun V Q U O D=>zBj (D.g 0 Z))<|rc (zPY 0 [10] _ Z Z Z Z fun V Q U O D ρ σ X Y J L M hdd=>by have a0:Q 3=u23:=(O.old 3 Z).trans h3;have k1:=X 0 (.head _) _ Z;have e0:=(J 0 (.head _) _ Z).1;rw [e0] at k1 ⊢;exact zKS Z k1.2.2 (X 10 (.tail _ (.head _)) _ Z).2.2.1 (L 10 (.tail _ (.head _)) _ _ Z Z Z Z).symm a0 Y hdd k1.2.1 (X 10 (.tail _ (.head _)) _ Z).2.1 sizeOf27)<|rz
 intro done ρ σ A R w y s
 obtain ⟨h0,h2,h3,h5⟩:=k4 s.rg h0 h2 h3 h5
 have z51:=s.inivR 0 Z
 have z52:=s.on y 12 9 Z Z Z Z Z z51
 have z53:=s.inivR 1 Z
 have z54:=s.on y 5 2 Z Z Z Z Z z53
 have z55:=s.on y 7 4 Z Z Z Z Z z54
 have z56:=s.inivR 2 Z
 obtain ⟨S57,eS_u23⟩:∃ S,σ 12=S:=⟨_,Z⟩
 have eS_u2:=s.inisR 2 Z
 replace B:=s.lowK B C K (q.geK (⟨fun _ h=>.inl h,⟨.inr (fun k h=>.inr h),⟨fun _ h=>.inl h,N⟩⟩⟩))
 replace j:Ch (zAE (.pointer (some ⟨b0,0,none⟩))) w0 w:=j.tr s.ch (q.geK (⟨fun _ h=>.inl h,⟨.inr (fun k h=>.inr h),⟨fun _ h=>.inl h,N⟩⟩⟩))
 replace q:=s.left y [(12,⟨u23,S57,trR (geB w0.heap.size) (oPt 27 (oPr (oRd (eInt .i64)) (oPr (oRd (eSl zA0)) (oSl 54 (oRd zA1))))) x49.1 []⟩),(7,ob (.pointer (some ⟨b0,0,none⟩)) (.box B0 69 zA5 x47.2)),(2,⟨u2,S3,trR (geB w0.heap.size) (oPt 27 (oPr (oRd (eInt .i64)) (oPr (oRd (eSl zA0)) (oSl 54 (oRd zA1))))) (0,(([]:List zA3),([]:List zA4))) []⟩)] ⟨Z,Z,z52,eS_u23,Z,⟨Z,Z,z55,Z,Z,⟨Z,Z,z56,eS_u2,Z,N⟩⟩⟩
 replace d:=s.avok
 obtain ⟨e58,c⟩:=zAG c
 refine zPT (eI y40::eI (y40-1)::eI (y40-1)::[]) ?_ ?_
 exact om h5<|op (fun Q U W H D=>zDf (D.g 0 Z) Z e58)<|oa<|oz
 intro R w m n p
 obtain ⟨h0,h2,h3⟩:=k3 n h0 h2 h3
 have h5:=p.r 2 Z
 replace q:=q.fr m
 replace d:=d.fr m.size
 replace j:=j.tr (m.ch noB) fun _ h=>False.elim h
 replace q:IniOK [ob (.pointer (some ⟨b0,0,none⟩)) (.box B0 69 zA5 x47.2),⟨u2,S3,trR (geB w0.heap.size) (oPt 27 (oPr (oRd (eInt .i64)) (oPr (oRd (eSl zA0)) (oSl 54 (oRd zA1))))) (0,(([]:List zA3),([]:List zA4))) []⟩,⟨u23,S57,trR (geB w0.heap.size) (oPt 27 (oPr (oRd (eInt .i64)) (oPr (oRd (eSl zA0)) (oSl 54 (oRd zA1))))) x49.1 []⟩] A w:=q.sub [(1,ob (.pointer (some ⟨b0,0,none⟩)) (.box B0 69 zA5 x47.2)),(2,⟨u2,S3,trR (geB w0.heap.size) (oPt 27 (oPr (oRd (eInt .i64)) (oPr (oRd (eSl zA0)) (oSl 54 (oRd zA1))))) (0,(([]:List zA3),([]:List zA4))) []⟩),(0,⟨u23,S57,trR (geB w0.heap.size) (oPt 27 (oPr (oRd (eInt .i64)) (oPr (oRd (eSl zA0)) (oSl 54 (oRd zA1))))) x49.1 []⟩)] ⟨Z,Z,⟨Z,Z,⟨Z,Z,N⟩⟩⟩
 exact ei k (And.intro (Nat.lt_succ_self k) ⟨_,_,_,_,S57,c,d,j,B,q,h0,h2,h3,h5⟩)
 have c:=zAd c43 c
 refine zPO ?_
 obtain rfl:=si c
 exact ei _ ⟨_,Sl_u23,Z,d,j,B,q,h2,h3⟩
 rintro R w ⟨A,s39,So_u23,es,d,j,B,q,h2,h3⟩
 obtain rfl:=es.symm
 refine zPS [ob (.pointer (some ⟨b0,0,none⟩)) (.box B0 69 zA5 s39.1),⟨u2,S3,trR (geB w0.heap.size) (oPt 27 (oPr (oRd (eInt .i64)) (oPr (oRd (eSl zA0)) (oSl 54 (oRd zA1))))) (0,(([]:List zA3),([]:List zA4))) []⟩,⟨u23,So_u23,trR (geB w0.heap.size) (oPt 27 (oPr (oRd (eInt .i64)) (oPr (oRd (eSl zA0)) (oSl 54 (oRd zA1))))) s39.2 []⟩] (⟨_,true,[2],some (trR (geB w0.heap.size) (oPr (oRd (eInt .i64)) (oPr (oRd (eSl zA0)) (oSl 54 (oRd zA1)))) s39.2 []),true,fun A=>.any⟩::⟨_,true,[1,3],some (trR (geB w0.heap.size) (oPt 27 (oPr (oRd (eInt .i64)) (oPr (oRd (eSl zA0)) (oSl 54 (oRd zA1))))) s39.2 []),false,fun A=>.any⟩::[]) (ua (ua (UAll.nil))) q d ?_ ?_
 exact rc (zPZ 2 _ _ Z Z Z Z Z fun V Q U O D u S X I Y J L M=>by have a0:Q 3=u23:=(O.old 3 Z).trans h3;exact zDa I.2 (a0.trans (J _ Z).1.symm) Y I.1 isAgg27 sizeOf27)<|rc (zPY 1 [3] _ Z Z Z Z fun V Q U O D ρ σ X Y J L M hdd=>by have a0:Q 2=u2:=(O.old 2 Z).trans h2;have k1:=X 1 (.head _) _ Z;have e0:=(J 1 (.head _) _ Z).1;rw [e0] at k1 ⊢;exact zCK Z (zAp k1.2.2).ptr (X 3 (.tail _ (.head _)) _ Z).2.2.1 (L 3 (.tail _ (.head _)) _ _ Z Z Z Z).symm a0 Y hdd k1.2.1 (X 3 (.tail _ (.head _)) _ Z).2.1 sizeOf27 (fun _ _ _ h=>h))<|rz
 intro done ρ σ A R w y s
 replace h2:=k1 s.rg h2
 have z59:=s.inivR 0 Z
 have z60:=s.inivR 1 Z
 have z61:=s.on y 4 1 Z Z Z Z Z z60
 obtain ⟨S62,eS_u2⟩:∃ S,σ 4=S:=⟨_,Z⟩
 replace B:=s.lowK B C K (q.geK (⟨.inr (fun k h=>.inr h),⟨fun _ h=>.inl h,⟨fun _ h=>.inl h,N⟩⟩⟩))
 replace j:Ch (zAE (.pointer (some ⟨b0,0,none⟩))) w0 w:=j.tr s.ch (q.geK (⟨.inr (fun k h=>.inr h),⟨fun _ h=>.inl h,⟨fun _ h=>.inl h,N⟩⟩⟩))
 replace q:=s.left y [(0,ob (.pointer (some ⟨b0,0,none⟩)) (.box B0 69 zA5 s39.1)),(4,⟨u2,S62,trR (geB w0.heap.size) (oPt 27 (oPr (oRd (eInt .i64)) (oPr (oRd (eSl zA0)) (oSl 54 (oRd zA1))))) s39.2 []⟩)] ⟨Z,Z,z59,Z,Z,⟨Z,Z,z61,eS_u2,Z,N⟩⟩
 replace d:=s.avok
 refine HT.ret ?_
 obtain rfl:=si c
 obtain ⟨v_2,S_2,e_2,q⟩:=q.unbox 1 Z h2 isAgg27 sizeOf27
 obtain ⟨A1,hA1,hG1⟩:=GPost.of q d B (q.geK (⟨.inr (fun k h=>.inr h),⟨fun _ h=>.inl h,N⟩⟩)) j
 exact ⟨.inr Z,[v_2],⟨e_2,N⟩,v_2,S_2,A1,hG1,Z⟩
def zET (fu:Nat) (p0:zAI) (p1:Int):Option (Bool × zAI):=
 cl true (zBh fu p0 p1) fun x2=>
 some ((x2.1==0),x2.2)
theorem zI6 {fu : Nat} {Aq : Av} {p0 : zAI} {p1 : Int} {r : Bool × zAI} (c : zET fu p0 p1 = some r) {w : World} {v0 : Value} {v1 : Value} {b0 B0 : Nat} (d : AvOK Aq w) (h0 : v0=.pointer (some ⟨b0, 0, none⟩)) (hO0 : IniOK [ob (.pointer (some ⟨b0, 0, none⟩)) (.box B0 69 zA5 p0)] Aq w) (h1 : v1=.int .i64 p1) :
 Calls prog 48 #[v0,v1] w fun e w'=>∃ v,e=.returned v/\(∃ (A1:Av),GPost (subS Aq (zAE (.pointer (some ⟨b0,0,none⟩)))) (zAE (.pointer (some ⟨b0,0,none⟩))) w [ob (.pointer (some ⟨b0,0,none⟩)) (.box B0 69 zA5 r.2)] A1 w'/\(Fact.raw (.bool r.1)).ok v w'):=by
 unfold zET at c
 obtain ⟨w0,hw0⟩:∃ w0,w0=w:=⟨_,Z⟩
 have j:Ch (zAE (.pointer (some ⟨b0,0,none⟩))) w0 w:=hw0 ▸ Ch.refl _ _
 obtain ⟨A0,hA0e⟩:∃ A0,A0=subS Aq (zAE (.pointer (some ⟨b0,0,none⟩))):=⟨_,Z⟩
 have C:∀ b o,A0 b o->b<w0.heap.size:=fun b o h=>hw0 ▸ d b o (hA0e ▸ h:subS Aq _ b o).1
 have K:∀ b o,A0 b o->¬ (zAE (.pointer (some ⟨b0,0,none⟩))) b:=fun b o h=>(hA0e ▸ h:subS Aq _ b o).2
 have hA00:AvOK A0 w0:=C
 rw [show GPost (subS Aq (zAE (.pointer (some ⟨b0,0,none⟩)))) (zAE (.pointer (some ⟨b0,0,none⟩))) w=GPost A0 (zAE (.pointer (some ⟨b0,0,none⟩))) w0 from by rw [hA0e,hw0]]
 obtain ⟨A,hAe⟩:∃ A,A=Aq:=⟨_,Z⟩
 have B:∀ b o,A0 b o->A b o:=fun b o h=>hAe ▸ (hA0e ▸ h:subS Aq _ b o).1
 replace d:AvOK A w:=hAe ▸ d
 have q:IniOK [ob (.pointer (some ⟨b0,0,none⟩)) (.box B0 69 zA5 p0)] A w:=hAe ▸ hO0
 clear hA0e hO0
 refine zAB [.tmp 4] func48 ntmps48 (by decide) Z Z (nb Z) ?_
 intro R hR
 replace h0:R 0=.pointer (some ⟨b0,0,none⟩):=(hR 0 _ Z).trans h0
 replace h1:R 1=.int .i64 p1:=(hR 1 _ Z).trans h1
 refine zPQ ?_
 refine zPT (eB false::[]) ?_ ?_
 exact op (fun Q U W H D=>zA6 Z)<|oz
 intro R w m n p
 obtain ⟨h0,h1⟩:=k2 n h0 h1
 replace q:=q.fr m
 replace d:=d.fr m.size
 replace j:=j.tr (m.ch noB) fun _ h=>False.elim h
 refine zPQ ?_
 refine SG.of<|SG.textR [ob (.pointer (some ⟨b0,0,none⟩)) (.box B0 69 zA5 p0)] (rR (.pointer (some ⟨b0,0,none⟩))::rI p1::[]) 2 Z Z Z (by kernel_rfl) (by kernel_rfl) (Wf.mk' (by kernel_rfl) (ur (ur (UAll.nil))) (by kernel_rfl) (by kernel_rfl)) q d (N) ?_ ?_
 exact rm h0<|rm h1<|rz
 intro done ρ σ A R w y s
 have z1:=s.inivR 0 Z
 have h5:=s.r y 0 Z
 have h6:=s.r y 1 Z
 replace B:=s.lowK B C K (q.geK (⟨.inr (fun k h=>.inr h),N⟩))
 replace j:Ch (zAE (.pointer (some ⟨b0,0,none⟩))) w0 w:=j.tr s.ch (q.geK (⟨.inr (fun k h=>.inr h),N⟩))
 replace q:=s.left y [(0,ob (.pointer (some ⟨b0,0,none⟩)) (.box B0 69 zA5 p0))] ⟨Z,Z,z1,Z,Z,N⟩
 replace d:=s.avok
 obtain ⟨x2,q3,c⟩:=zA9 c
 have hFz:w0.heap.size<=w.heap.size:=j.size
 refine SG.op 7 Z Z Z Z (zB7 call46 (zC2 (q3 Z) d h5 (q.sub [(0,ob (.pointer (some ⟨b0,0,none⟩)) (.box B0 69 zA5 p0))] ⟨Z,Z,N⟩) h6)) ?_
 rintro v_ w ⟨A,hG1,hv⟩ R n hd
 have hst:=zBO d hG1 (q.ok 0 _ Z).2
 replace B:∀ b o,A0 b o->A b o:=zBl B C K (q.geK (⟨.inr (fun k h=>.inr h),N⟩)) 0 Z hG1
 replace j:Ch (zAE (.pointer (some ⟨b0,0,none⟩))) w0 w:=j.tr hG1.ch (fun k hk=>(q.geK (⟨.inr (fun k h=>.inr h),N⟩)) k ⟨0,_,Z,hk⟩)
 replace q:=zPH q d 0 Z hG1
 replace d:=hG1.avok
 replace q:IniOK [ob (.pointer (some ⟨b0,0,none⟩)) (.box B0 69 zA5 x2.2)] A w:=q
 replace h5:=(n 5 Z).trans h5
 replace h6:=(n 6 Z).trans h6
 have h7:R 7=.int .i64 x2.1:=hd.trans hv
 clear hFz hG1 hv n hd
 refine SG.textR [ob (.pointer (some ⟨b0,0,none⟩)) (.box B0 69 zA5 x2.2)] (rR (.pointer (some ⟨b0,0,none⟩))::rI p1::rI x2.1::rB (x2.1==0)::rB (x2.1==0)::[]) 5 Z Z Z (by kernel_rfl) (by kernel_rfl) (Wf.mk' (by kernel_rfl) (ur (ur (ur (ur (ur (UAll.nil)))))) (by kernel_rfl) (by kernel_rfl)) q d (⟨⟨Z,Z,Z,h5⟩,⟨⟨Z,Z,Z,h6⟩,⟨⟨Z,Z,Z,h7⟩,N⟩⟩⟩) ?_ ?_
 exact rp (fun V Q U O D=>zEt (D.g 0 Z) Z)<|ra<|rz
 intro done ρ σ A R w y s
 have z4:=s.inivR 0 Z
 have h4:=s.r y 4 Z
 replace B:=s.lowK B C K (q.geK (⟨.inr (fun k h=>.inr h),N⟩))
 replace j:Ch (zAE (.pointer (some ⟨b0,0,none⟩))) w0 w:=j.tr s.ch (q.geK (⟨.inr (fun k h=>.inr h),N⟩))
 replace q:=s.left y [(0,ob (.pointer (some ⟨b0,0,none⟩)) (.box B0 69 zA5 x2.2))] ⟨Z,Z,z4,Z,Z,N⟩
 replace d:=s.avok
 refine zPa Z ?_
 refine HT.ret ?_
 obtain rfl:=si c
 obtain ⟨A1,hA1,hG1⟩:=GPost.of q d B (q.geK (⟨.inr (fun k h=>.inr h),N⟩)) j
 exact ⟨.inr Z,[R 4],⟨Z,N⟩,A1,hG1,h4⟩
def zDS (fu:Nat) (p0:zAI):Option ((List (List UInt8)) × zAI):=
 cl true (zCm fu p0) fun x2=>
 cl true (zET fu x2.2 10) fun x9=>
 bif x9.1 then (
 cl true (zDW fu x9.2 ([([]:List UInt8),([65]:List UInt8),([97]:List UInt8),([97,32,98]:List UInt8),([122,122]:List UInt8)]:List (List UInt8))) fun x15=>
 ck (zD4 (x2.1.length+([x15.1]:List (List UInt8)).length)) <|
 some ((x2.1++([x15.1]:List (List UInt8))),x15.2)
 ) else (
 some (x2.1,x9.2)
 )
theorem zFE {fu : Nat} {Aq : Av} {p0 : zAI} {r : (List (List UInt8)) × zAI} (c : zDS fu p0 = some r) {w : World} {v0 : Value} {b0 B0 : Nat} (d : AvOK Aq w) (h0 : v0=.pointer (some ⟨b0, 0, none⟩)) (hO0 : IniOK [ob (.pointer (some ⟨b0, 0, none⟩)) (.box B0 69 zA5 p0)] Aq w) :
 Calls prog 21 #[v0] w fun e w'=>∃ v,e=.returned v/\(∃ (u0:Value) (A1:Av),GPost (subS Aq (zAE (.pointer (some ⟨b0,0,none⟩)))) (zAE (.pointer (some ⟨b0,0,none⟩))) w [ob (.pointer (some ⟨b0,0,none⟩)) (.box B0 69 zA5 r.2),ob u0 (.vec w.heap.size 9 eStr r.1)] A1 w'/\(Fact.raw u0).ok v w'):=by
 unfold zDS at c
 obtain ⟨w0,hw0⟩:∃ w0,w0=w:=⟨_,Z⟩
 have j:Ch (zAE (.pointer (some ⟨b0,0,none⟩))) w0 w:=hw0 ▸ Ch.refl _ _
 obtain ⟨A0,hA0e⟩:∃ A0,A0=subS Aq (zAE (.pointer (some ⟨b0,0,none⟩))):=⟨_,Z⟩
 have C:∀ b o,A0 b o->b<w0.heap.size:=fun b o h=>hw0 ▸ d b o (hA0e ▸ h:subS Aq _ b o).1
 have K:∀ b o,A0 b o->¬ (zAE (.pointer (some ⟨b0,0,none⟩))) b:=fun b o h=>(hA0e ▸ h:subS Aq _ b o).2
 have hA00:AvOK A0 w0:=C
 rw [show GPost (subS Aq (zAE (.pointer (some ⟨b0,0,none⟩)))) (zAE (.pointer (some ⟨b0,0,none⟩))) w=GPost A0 (zAE (.pointer (some ⟨b0,0,none⟩))) w0 from by rw [hA0e,hw0]]
 rw [show w.heap.size=w0.heap.size from by rw [hw0]]
 obtain ⟨A,hAe⟩:∃ A,A=Aq:=⟨_,Z⟩
 have B:∀ b o,A0 b o->A b o:=fun b o h=>hAe ▸ (hA0e ▸ h:subS Aq _ b o).1
 replace d:AvOK A w:=hAe ▸ d
 have q:IniOK [ob (.pointer (some ⟨b0,0,none⟩)) (.box B0 69 zA5 p0)] A w:=hAe ▸ hO0
 clear hA0e hO0
 refine zAB [.tmp 2] func21 ntmps21 (by decide) Z Z (nb Z) ?_
 intro R hR
 replace h0:R 0=.pointer (some ⟨b0,0,none⟩):=(hR 0 _ Z).trans h0
 refine zPQ ?_
 refine zPT (eA::[]) ?_ ?_
 exact op (fun Q U W H D=>zA6 N)<|oz
 intro R w m n p
 replace h0:=k1 n h0
 replace q:=q.fr m
 replace d:=d.fr m.size
 replace j:=j.tr (m.ch noB) fun _ h=>False.elim h
 refine zPQ ?_
 refine SG.of<|SG.textR [ob (.pointer (some ⟨b0,0,none⟩)) (.box B0 69 zA5 p0)] (rR (.pointer (some ⟨b0,0,none⟩))::[]) 1 Z Z Z (by kernel_rfl) (by kernel_rfl) (Wf.mk' (by kernel_rfl) (ur (UAll.nil)) (by kernel_rfl) (by kernel_rfl)) q d (N) ?_ ?_
 exact rm h0<|rz
 intro done ρ σ A R w y s
 replace h0:=k1 s.rg h0
 have z1:=s.inivR 0 Z
 have h4:=s.r y 0 Z
 replace B:=s.lowK B C K (q.geK (⟨.inr (fun k h=>.inr h),N⟩))
 replace j:Ch (zAE (.pointer (some ⟨b0,0,none⟩))) w0 w:=j.tr s.ch (q.geK (⟨.inr (fun k h=>.inr h),N⟩))
 replace q:=s.left y [(0,ob (.pointer (some ⟨b0,0,none⟩)) (.box B0 69 zA5 p0))] ⟨Z,Z,z1,Z,Z,N⟩
 replace d:=s.avok
 obtain ⟨x2,q3,c⟩:=zA9 c
 have hFz:w0.heap.size<=w.heap.size:=j.size
 refine SG.op 5 Z Z Z Z (zB7 call47 (zF8 (q3 Z) d h4 (q.sub [(0,ob (.pointer (some ⟨b0,0,none⟩)) (.box B0 69 zA5 p0))] ⟨Z,Z,N⟩))) ?_
 rintro v_ w ⟨u4,A,hG1,hv⟩ R n hd
 have hst:=zBO d hG1 (q.ok 0 _ Z).2
 replace B:∀ b o,A0 b o->A b o:=zBl B C K (q.geK (⟨.inr (fun k h=>.inr h),N⟩)) 0 Z hG1
 replace j:Ch (zAE (.pointer (some ⟨b0,0,none⟩))) w0 w:=j.tr hG1.ch (fun k hk=>(q.geK (⟨.inr (fun k h=>.inr h),N⟩)) k ⟨0,_,Z,hk⟩)
 replace q:=zPH q d 0 Z hG1
 replace d:=hG1.avok
 replace q:=q.reV (B':=w0.heap.size) 1 Z hFz
 replace q:IniOK [ob (.pointer (some ⟨b0,0,none⟩)) (.box B0 69 zA5 x2.2),ob u4 (.vec w0.heap.size 9 eStr x2.1)] A w:=q
 replace h0:=(n 0 Z).trans h0
 replace h4:=(n 4 Z).trans h4
 have h5:R 5=u4:=hd.trans hv
 clear hFz hG1 hv n hd
 refine SG.textR [ob (.pointer (some ⟨b0,0,none⟩)) (.box B0 69 zA5 x2.2),ob u4 (.vec w0.heap.size 9 eStr x2.1)] (rR (.pointer (some ⟨b0,0,none⟩))::rR u4::rR u4::[]) 3 Z Z Z (by kernel_rfl) (by kernel_rfl) (Wf.mk' (by kernel_rfl) (ur (ur (ur (UAll.nil)))) (by kernel_rfl) (by kernel_rfl)) q d (⟨⟨Z,Z,Z,h4⟩,⟨⟨Z,Z,Z,h5⟩,N⟩⟩) ?_ ?_
 exact ra<|rz
 intro done ρ σ A R w y s
 replace h0:=k1 s.rg h0
 have z5:=s.inivR 0 Z
 have z6:=s.inivR 1 Z
 have h3:=s.r y 2 Z
 replace B:=s.lowK B C K (q.geK (⟨.inr (fun k h=>.inr h),⟨.inl Z,N⟩⟩))
 replace j:Ch (zAE (.pointer (some ⟨b0,0,none⟩))) w0 w:=j.tr s.ch (q.geK (⟨.inr (fun k h=>.inr h),⟨.inl Z,N⟩⟩))
 replace q:=s.left y [(0,ob (.pointer (some ⟨b0,0,none⟩)) (.box B0 69 zA5 x2.2)),(1,ob u4 (.vec w0.heap.size 9 eStr x2.1))] ⟨Z,Z,z5,Z,Z,⟨Z,Z,z6,Z,Z,N⟩⟩
 replace d:=s.avok
 refine zPa Z ?_
 refine zPQ ?_
 refine zPQ ?_
 refine SG.of<|SG.textR [ob (.pointer (some ⟨b0,0,none⟩)) (.box B0 69 zA5 x2.2),ob u4 (.vec w0.heap.size 9 eStr x2.1)] (rR (.pointer (some ⟨b0,0,none⟩))::[]) 1 Z Z Z (by kernel_rfl) (by kernel_rfl) (Wf.mk' (by kernel_rfl) (ur (UAll.nil)) (by kernel_rfl) (by kernel_rfl)) q d (N) ?_ ?_
 exact rm h0<|rz
 intro done ρ σ A R w y s
 obtain ⟨h0,h3⟩:=k2 s.rg h0 h3
 have z7:=s.inivR 0 Z
 have z8:=s.inivR 1 Z
 have h6:=s.r y 0 Z
 replace B:=s.lowK B C K (q.geK (⟨.inr (fun k h=>.inr h),⟨.inl Z,N⟩⟩))
 replace j:Ch (zAE (.pointer (some ⟨b0,0,none⟩))) w0 w:=j.tr s.ch (q.geK (⟨.inr (fun k h=>.inr h),⟨.inl Z,N⟩⟩))
 replace q:=s.left y [(0,ob (.pointer (some ⟨b0,0,none⟩)) (.box B0 69 zA5 x2.2)),(1,ob u4 (.vec w0.heap.size 9 eStr x2.1))] ⟨Z,Z,z7,Z,Z,⟨Z,Z,z8,Z,Z,N⟩⟩
 replace d:=s.avok
 obtain ⟨x9,q10,c⟩:=zA9 c
 have hFz:w0.heap.size<=w.heap.size:=j.size
 refine SG.op 7 Z Z Z Z (zB7 call48 (zI6 (q10 Z) d h6 (q.sub [(0,ob (.pointer (some ⟨b0,0,none⟩)) (.box B0 69 zA5 x2.2))] ⟨Z,Z,N⟩) Z)) ?_
 rintro v_ w ⟨A,hG1,hv⟩ R n hd
 have hst:=zBO d hG1 (q.ok 0 _ Z).2
 replace B:∀ b o,A0 b o->A b o:=zBl B C K (q.geK (⟨.inr (fun k h=>.inr h),⟨.inl Z,N⟩⟩)) 0 Z hG1
 replace j:Ch (zAE (.pointer (some ⟨b0,0,none⟩))) w0 w:=j.tr hG1.ch (fun k hk=>(q.geK (⟨.inr (fun k h=>.inr h),⟨.inl Z,N⟩⟩)) k ⟨0,_,Z,hk⟩)
 replace q:=zPH q d 0 Z hG1
 replace d:=hG1.avok
 replace q:IniOK [ob (.pointer (some ⟨b0,0,none⟩)) (.box B0 69 zA5 x9.2),ob u4 (.vec w0.heap.size 9 eStr x2.1)] A w:=q
 replace h0:=(n 0 Z).trans h0
 replace h3:=(n 3 Z).trans h3
 replace h6:=(n 6 Z).trans h6
 have h7:R 7=.bool x9.1:=hd.trans hv
 clear hFz hG1 hv n hd
 refine zPa Z ?_
 refine zPJ x9.1 h7 (fun c11=>?_) (fun c11=>?_)
 have c:=zAe c11 c
 refine SG.of<|SG.textR [ob (.pointer (some ⟨b0,0,none⟩)) (.box B0 69 zA5 x9.2),ob u4 (.vec w0.heap.size 9 eStr x2.1)] (rR u4::rR (.pointer (some ⟨b0,0,none⟩))::(rF fun A=>.rep (eSl eStr) A ([([]:List UInt8),([65]:List UInt8),([97]:List UInt8),([97,32,98]:List UInt8),([122,122]:List UInt8)]:List (List UInt8)))::[]) 3 Z Z Z (by kernel_rfl) (by kernel_rfl) (Wf.mk' (by kernel_rfl) (ur (ur (up (UAll.nil)))) (by kernel_rfl) (by kernel_rfl)) q d (N) ?_ ?_
 exact rm h3<|rm h0<|rp (fun V Q U O D=>zC7 [_,_,_,_,_] (E:=eStr) ⟨⟨_,Z,⟨_,Z,Z,by decide⟩⟩,⟨⟨_,Z,⟨_,Z,Z,by decide⟩⟩,⟨⟨_,Z,⟨_,Z,Z,by decide⟩⟩,⟨⟨_,Z,⟨_,Z,Z,by decide⟩⟩,⟨⟨_,Z,⟨_,Z,Z,by decide⟩⟩,N⟩⟩⟩⟩⟩ underlying28 sizeOf9 zeroValue9 Z Z Z O.av)<|rz
 intro done ρ σ A R w y s
 replace h3:=k1 s.rg h3
 have z12:=s.inivR 0 Z
 have z13:=s.inivR 1 Z
 have h8:=s.r y 0 Z
 have h9:=s.r y 1 Z
 obtain ⟨u14,h10,f_u14⟩:∃ u,R 10=u/\Rep (eSl eStr) A w u ([([]:List UInt8),([65]:List UInt8),([97]:List UInt8),([97,32,98]:List UInt8),([122,122]:List UInt8)]:List (List UInt8)):=⟨_,Z,s.fact y (i:=2) Z Z Z⟩
 replace B:=s.lowK B C K (q.geK (⟨.inr (fun k h=>.inr h),⟨.inl Z,N⟩⟩))
 replace j:Ch (zAE (.pointer (some ⟨b0,0,none⟩))) w0 w:=j.tr s.ch (q.geK (⟨.inr (fun k h=>.inr h),⟨.inl Z,N⟩⟩))
 replace q:=s.left y [(0,ob (.pointer (some ⟨b0,0,none⟩)) (.box B0 69 zA5 x9.2)),(1,ob u4 (.vec w0.heap.size 9 eStr x2.1))] ⟨Z,Z,z12,Z,Z,⟨Z,Z,z13,Z,Z,N⟩⟩
 replace d:=s.avok
 obtain ⟨x15,q16,c⟩:=zA9 c
 have hFz:w0.heap.size<=w.heap.size:=j.size
 refine SG.op 11 Z Z Z Z (zB7 call49 (zFz (q16 Z) d h9 (q.sub [(0,ob (.pointer (some ⟨b0,0,none⟩)) (.box B0 69 zA5 x9.2))] ⟨Z,Z,N⟩) (f_u14.eq h10))) ?_
 rintro v_ w ⟨A,hG1,hv⟩ R n hd
 have hst:=zBO d hG1 (q.ok 0 _ Z).2
 replace B:∀ b o,A0 b o->A b o:=zBl B C K (q.geK (⟨.inr (fun k h=>.inr h),⟨.inl Z,N⟩⟩)) 0 Z hG1
 replace j:Ch (zAE (.pointer (some ⟨b0,0,none⟩))) w0 w:=j.tr hG1.ch (fun k hk=>(q.geK (⟨.inr (fun k h=>.inr h),⟨.inl Z,N⟩⟩)) k ⟨0,_,Z,hk⟩)
 replace q:=zPH q d 0 Z hG1
 replace d:=hG1.avok
 replace q:IniOK [ob (.pointer (some ⟨b0,0,none⟩)) (.box B0 69 zA5 x15.2),ob u4 (.vec w0.heap.size 9 eStr x2.1)] A w:=q
 replace h3:=(n 3 Z).trans h3
 replace h8:=(n 8 Z).trans h8
 replace h9:=(n 9 Z).trans h9
 replace h10:=(n 10 Z).trans h10
 replace f_u14:=f_u14.stp hst
 obtain ⟨u17,h11,f_u17⟩:∃ u,R 11=u/\Rep eStr A w u x15.1:=⟨_,Z,hd ▸ hv⟩
 clear hFz hG1 hv n hd
 obtain ⟨e18,c⟩:=zAG c
 refine SG.textR [ob (.pointer (some ⟨b0,0,none⟩)) (.box B0 69 zA5 x15.2),ob u4 (.vec w0.heap.size 9 eStr x2.1)] (rR u4::rR (.pointer (some ⟨b0,0,none⟩))::rR u14::rR u17::(rF fun A=>.rep (eSl eStr) A ([x15.1]:List (List UInt8)))::⟨_,true,[1],some (.vec w0.heap.size 9 eStr (x2.1++([x15.1]:List (List UInt8)))),true,fun A=>.any⟩::⟨_,true,[7],some (.vec w0.heap.size 9 eStr (x2.1++([x15.1]:List (List UInt8)))),true,fun A=>.any⟩::[]) 7 Z Z Z (by kernel_rfl) (by kernel_rfl) (Wf.mk' (by kernel_rfl) (ur (ur (ur (ur (up (ua (ua (UAll.nil)))))))) (by kernel_rfl) (by kernel_rfl)) q d (⟨⟨Z,Z,Z,h8⟩,⟨⟨Z,Z,Z,h9⟩,⟨⟨Z,Z,Z,h10⟩,⟨⟨Z,Z,Z,h11⟩,N⟩⟩⟩⟩) ?_ ?_
 exact rp (fun V Q U O D=>zC7 [_] (E:=eStr) ⟨((f_u17.stp O.stp).eq (D.g 0 Z)),N⟩ underlying28 sizeOf9 zeroValue9 Z Z Z O.av)<|rc (OblR.took 1 _ _ Z Z Z Z Z fun V Q U O D u X Y J L M=>by have a0:Q 8=u4:=D.g 0 Z;have a1:Rep (eSl eStr) V U (Q 12) ([x15.1]:List (List UInt8)):=D.g 1 Z;exact zAs (a0.trans (J _ Z).symm) X Y (Nat.le_trans j.size O.ch.size) a1 underlying28 el_9 e18)<|rc (OblR.took 7 _ _ Z Z Z Z Z fun V Q U O D u X Y J L M=>by exact zAP (L _ _ Z Z Z Z).symm X Y)<|rz
 intro done ρ σ A R w y s
 have z19:=s.inivR 0 Z
 obtain ⟨u20,e_u20⟩:∃ u,ρ 8=u:=⟨_,Z⟩
 have h3:=s.ov y 8 6 e_u20
 replace B:=s.lowK B C K (q.geK (⟨.inr (fun k h=>.inr h),⟨.inl Z,N⟩⟩))
 replace j:Ch (zAE (.pointer (some ⟨b0,0,none⟩))) w0 w:=j.tr s.ch (q.geK (⟨.inr (fun k h=>.inr h),⟨.inl Z,N⟩⟩))
 replace q:=s.left y [(0,ob (.pointer (some ⟨b0,0,none⟩)) (.box B0 69 zA5 x15.2)),(8,ob u20 (.vec w0.heap.size 9 eStr (x2.1++([x15.1]:List (List UInt8)))))] ⟨Z,Z,z19,Z,Z,⟨Z,Z,e_u20,Z,Z,N⟩⟩
 replace d:=s.avok
 refine zPa Z ?_
 refine zPQ ?_
 refine zPT (eR u20::eR u20::[]) ?_ ?_
 exact om h3<|oa<|oz
 intro R w m n p
 have h2:=p.r 1 Z
 replace q:=q.fr m
 replace d:=d.fr m.size
 replace j:=j.tr (m.ch noB) fun _ h=>False.elim h
 refine HT.ret ?_
 obtain rfl:=si c
 obtain ⟨A1,hA1,hG1⟩:=GPost.of q d B (q.geK (⟨.inr (fun k h=>.inr h),⟨.inl Z,N⟩⟩)) j
 exact ⟨.inr Z,[R 2],⟨Z,N⟩,u20,A1,hG1,h2⟩
 have c:=zAd c11 c
 refine HT.skip<|zPQ ?_
 refine zPT (eR u4::eR u4::[]) ?_ ?_
 exact om h3<|oa<|oz
 intro R w m n p
 have h2:=p.r 1 Z
 replace q:=q.fr m
 replace d:=d.fr m.size
 replace j:=j.tr (m.ch noB) fun _ h=>False.elim h
 refine HT.ret ?_
 obtain rfl:=si c
 obtain ⟨A1,hA1,hG1⟩:=GPost.of q d B (q.geK (⟨.inr (fun k h=>.inr h),⟨.inl Z,N⟩⟩)) j
 exact ⟨.inr Z,[R 2],⟨Z,N⟩,u4,A1,hG1,h2⟩
theorem zI9 {fu : Nat} {Aq : Av} {p0 : zAI} {r : (List (List UInt8)) × zAI} (c : zDS fu p0 = some r) {w : World} {v0 : Value} {b0 B0 : Nat} (d : AvOK Aq w) (h0 : v0=.pointer (some ⟨b0, 0, none⟩)) (hO0 : IniOK [ob (.pointer (some ⟨b0, 0, none⟩)) (.box B0 69 zA5 p0)] Aq w) :
 Calls prog 21 #[v0] w fun e w'=>∃ v,e=.returned v/\(∃ (A1:Av),GPost (subS Aq (zAE (.pointer (some ⟨b0,0,none⟩)))) (zAE (.pointer (some ⟨b0,0,none⟩))) w [ob (.pointer (some ⟨b0,0,none⟩)) (.box B0 69 zA5 r.2)] A1 w'/\(Fact.rep (eSl eStr) A1 r.1).ok v w'):=by
 refine Calls.mono (zFE c d h0 hO0) ?_
 rintro e w' ⟨v,he,u0,A1,hG,hv⟩
 have hv:v=u0:=hv
 obtain ⟨h1,h2⟩:=zKD (d.subS _) hG (Nat.le_refl _)
 exact ⟨v,he,_,h1,hv ▸ h2⟩
def zDr (fu:Nat) (p0:zAI):Option (zA7 × zAI):=
 cl true (zDe fu p0) fun x5=>
 cl true (zBh fu x5.2 14) fun x17=>
 bif (x17.1==0) then (
 cl true (zBu fu x17.2 ([0,1001]:List Int)) fun x24=>
 some ((x24.1,x5.1.2.1,x5.1.2.2),x24.2)
 ) else (
 bif (x17.1==1) then (
 cl true (zBu fu x17.2 ([0,999,1000]:List Int)) fun x37=>
 cl true (zDS fu x37.2) fun x39=>
 ck (zD4 (x5.1.2.2.length+([(x37.1,x39.1)]:List zA4).length)) <|
 some ((x5.1.1,x5.1.2.1,(x5.1.2.2++([(x37.1,x39.1)]:List zA4))),x39.2)
 ) else (
 some (x5.1,x17.2)
 )
 )
set_option linter.unusedSimpArgs false in
theorem zFv {fu : Nat} {Aq : Av} {p0 : zAI} {r : zA7 × zAI} (c : zDr fu p0 = some r) {w : World} {v0 : Value} {b0 B0 : Nat} (d : AvOK Aq w) (h0 : v0=.pointer (some ⟨b0, 0, none⟩)) (hO0 : IniOK [ob (.pointer (some ⟨b0, 0, none⟩)) (.box B0 69 zA5 p0)] Aq w) :
 Calls prog 20 #[v0] w fun e w'=>∃ v,e=.returned v/\(∃ (A1:Av),GPost (subS Aq (zAE (.pointer (some ⟨b0,0,none⟩)))) (zAE (.pointer (some ⟨b0,0,none⟩))) w [ob (.pointer (some ⟨b0,0,none⟩)) (.box B0 69 zA5 r.2)] A1 w'/\(Fact.rep zA2 A1 r.1).ok v w'):=by
 unfold zDr at c
 obtain ⟨w0,hw0⟩:∃ w0,w0=w:=⟨_,Z⟩
 have j:Ch (zAE (.pointer (some ⟨b0,0,none⟩))) w0 w:=hw0 ▸ Ch.refl _ _
 obtain ⟨A0,hA0e⟩:∃ A0,A0=subS Aq (zAE (.pointer (some ⟨b0,0,none⟩))):=⟨_,Z⟩
 have C:∀ b o,A0 b o->b<w0.heap.size:=fun b o h=>hw0 ▸ d b o (hA0e ▸ h:subS Aq _ b o).1
 have K:∀ b o,A0 b o->¬ (zAE (.pointer (some ⟨b0,0,none⟩))) b:=fun b o h=>(hA0e ▸ h:subS Aq _ b o).2
 have hA00:AvOK A0 w0:=C
 rw [show GPost (subS Aq (zAE (.pointer (some ⟨b0,0,none⟩)))) (zAE (.pointer (some ⟨b0,0,none⟩))) w=GPost A0 (zAE (.pointer (some ⟨b0,0,none⟩))) w0 from by rw [hA0e,hw0]]
 obtain ⟨A,hAe⟩:∃ A,A=Aq:=⟨_,Z⟩
 have B:∀ b o,A0 b o->A b o:=fun b o h=>hAe ▸ (hA0e ▸ h:subS Aq _ b o).1
 replace d:AvOK A w:=hAe ▸ d
 have q:IniOK [ob (.pointer (some ⟨b0,0,none⟩)) (.box B0 69 zA5 p0)] A w:=hAe ▸ hO0
 clear hA0e hO0
 refine zAB [.cell 2 27] func20 ntmps20 (by decide) Z Z (nb Z) ?_
 intro R hR
 replace h0:R 0=.pointer (some ⟨b0,0,none⟩):=(hR 0 _ Z).trans h0
 refine zPS [ob (.pointer (some ⟨b0,0,none⟩)) (.box B0 69 zA5 p0)] (⟨_,true,[],some (.box w0.heap.size 27 zA2 (0,(([]:List zA3),([]:List zA4)))),true,fun A=>.any⟩::[]) (ua (UAll.nil)) q d ?_ ?_
 exact rc (OblR.made _ Z Z Z Z fun V Q U O D=>by exact zCI zeroValue27 (fun A w=>zCo zAm (zCo zBD zBD)) (Nat.le_trans j.size O.ch.size))<|rz
 intro done ρ σ A R w y s
 replace h0:=k1 s.rg h0
 have z1:=s.inivR 0 Z
 obtain ⟨b2_1,e_b2_1⟩:=s.boxv y 1 Z Z
 have h2:=s.ov y 1 0 e_b2_1
 replace B:=s.lowK B C K (q.geK (⟨.inr (fun k h=>.inr h),N⟩))
 replace j:Ch (zAE (.pointer (some ⟨b0,0,none⟩))) w0 w:=j.tr s.ch (q.geK (⟨.inr (fun k h=>.inr h),N⟩))
 replace q:=s.left y [(0,ob (.pointer (some ⟨b0,0,none⟩)) (.box B0 69 zA5 p0)),(1,ob (.pointer (some ⟨b2_1,0,none⟩)) (.box w0.heap.size 27 zA2 (0,(([]:List zA3),([]:List zA4)))))] ⟨Z,Z,z1,Z,Z,⟨Z,Z,e_b2_1,Z,Z,N⟩⟩
 replace d:=s.avok
 refine zPQ ?_
 refine SG.of<|SG.textR [ob (.pointer (some ⟨b0,0,none⟩)) (.box B0 69 zA5 p0),ob (.pointer (some ⟨b2_1,0,none⟩)) (.box w0.heap.size 27 zA2 (0,(([]:List zA3),([]:List zA4))))] (rR (.pointer (some ⟨b0,0,none⟩))::[]) 1 Z Z Z (by kernel_rfl) (by kernel_rfl) (Wf.mk' (by kernel_rfl) (ur (UAll.nil)) (by kernel_rfl) (by kernel_rfl)) q d (N) ?_ ?_
 exact rm h0<|rz
 intro done ρ σ A R w y s
 obtain ⟨h0,h2⟩:=k2 s.rg h0 h2
 have z3:=s.inivR 0 Z
 have z4:=s.inivR 1 Z
 have h4:=s.r y 0 Z
 replace B:=s.lowK B C K (q.geK (⟨.inr (fun k h=>.inr h),⟨.inl Z,N⟩⟩))
 replace j:Ch (zAE (.pointer (some ⟨b0,0,none⟩))) w0 w:=j.tr s.ch (q.geK (⟨.inr (fun k h=>.inr h),⟨.inl Z,N⟩⟩))
 replace q:=s.left y [(0,ob (.pointer (some ⟨b0,0,none⟩)) (.box B0 69 zA5 p0)),(1,ob (.pointer (some ⟨b2_1,0,none⟩)) (.box w0.heap.size 27 zA2 (0,(([]:List zA3),([]:List zA4)))))] ⟨Z,Z,z3,Z,Z,⟨Z,Z,z4,Z,Z,N⟩⟩
 replace d:=s.avok
 obtain ⟨x5,q6,c⟩:=zA9 c
 have hFz:w0.heap.size<=w.heap.size:=j.size
 refine SG.op 5 Z Z Z Z (zB7 call45 (zHZ (q6 Z) d h4 (q.sub [(0,ob (.pointer (some ⟨b0,0,none⟩)) (.box B0 69 zA5 p0))] ⟨Z,Z,N⟩))) ?_
 rintro v_ w ⟨u7,S8,A,hG1,hv⟩ R n hd
 have hst:=zBO d hG1 (q.ok 0 _ Z).2
 replace B:∀ b o,A0 b o->A b o:=zBl B C K (q.geK (⟨.inr (fun k h=>.inr h),⟨.inl Z,N⟩⟩)) 0 Z hG1
 replace j:Ch (zAE (.pointer (some ⟨b0,0,none⟩))) w0 w:=j.tr hG1.ch (fun k hk=>(q.geK (⟨.inr (fun k h=>.inr h),⟨.inl Z,N⟩⟩)) k ⟨0,_,Z,hk⟩)
 replace q:=zPH q d 0 Z hG1
 replace d:=hG1.avok
 replace q:=q.reK (K':=geB w0.heap.size) 1 Z (fun k hk=>Nat.le_trans hFz hk)
 replace q:IniOK [ob (.pointer (some ⟨b0,0,none⟩)) (.box B0 69 zA5 x5.2),⟨u7,S8,trR (geB w0.heap.size) (oPr (oRd (eInt .i64)) (oPr (oRd (eSl zA0)) (oSl 54 (oRd zA1)))) x5.1 []⟩,ob (.pointer (some ⟨b2_1,0,none⟩)) (.box w0.heap.size 27 zA2 (0,(([]:List zA3),([]:List zA4))))] A w:=q
 replace h0:=(n 0 Z).trans h0
 replace h2:=(n 2 Z).trans h2
 replace h4:=(n 4 Z).trans h4
 have h5:R 5=u7:=hd.trans hv
 clear hFz hG1 hv n hd
 refine SG.textR [ob (.pointer (some ⟨b0,0,none⟩)) (.box B0 69 zA5 x5.2),⟨u7,S8,trR (geB w0.heap.size) (oPr (oRd (eInt .i64)) (oPr (oRd (eSl zA0)) (oSl 54 (oRd zA1)))) x5.1 []⟩,ob (.pointer (some ⟨b2_1,0,none⟩)) (.box w0.heap.size 27 zA2 (0,(([]:List zA3),([]:List zA4))))] (rR (.pointer (some ⟨b0,0,none⟩))::rR u7::⟨_,true,[],some (trR (geB w0.heap.size) (oPt 27 (oPr (oRd (eInt .i64)) (oPr (oRd (eSl zA0)) (oSl 54 (oRd zA1))))) (0,(([]:List zA3),([]:List zA4))) []),true,fun A=>.any⟩::⟨_,true,[5,1],some (trR (geB w0.heap.size) (oPt 27 (oPr (oRd (eInt .i64)) (oPr (oRd (eSl zA0)) (oSl 54 (oRd zA1))))) x5.1 []),false,fun A=>.any⟩::[]) 4 Z Z Z (by kernel_rfl) (by kernel_rfl) (Wf.mk' (by kernel_rfl) (ur (ur (ua (ua (UAll.nil))))) (by kernel_rfl) (by kernel_rfl)) q d (⟨⟨Z,Z,Z,h4⟩,⟨⟨Z,Z,Z,h5⟩,N⟩⟩) ?_ ?_
 exact rc (zPX _ Z Z Z Z fun V Q U O D=>by exact zCg zeroValue27 (fun A w=>zD2 (zCy zAm) (zD2 (zCy zBD) zDN)) (fun k hk=>Nat.le_trans (Nat.le_trans j.size O.ch.size) hk))<|rc (zPY 5 [1] _ Z Z Z Z fun V Q U O D ρ σ X Y J L M hdd=>by have a1:Q 5=u7:=D.g 1 Z;have k1:=X 5 (.head _) _ Z;exact zCK Z (zAp k1.2.2).ptr (X 1 (.tail _ (.head _)) _ Z).2.2.1 (a1.trans (J 1 (.tail _ (.head _)) _ Z).1.symm) (L 5 (.head _) _ _ Z Z Z Z).symm Y hdd k1.2.1 (X 1 (.tail _ (.head _)) _ Z).2.1 sizeOf27 (fun _ _ _ h=>h))<|rz
 intro done ρ σ A R w y s
 obtain ⟨h0,h2⟩:=k2 s.rg h0 h2
 have z9:=s.inivR 0 Z
 have z10:=s.inivR 2 Z
 obtain ⟨u11,e_u11⟩:∃ u,ρ 6=u:=⟨_,Z⟩
 have z12:=(s.opnR y 6 3 Z Z Z Z Z).symm.trans e_u11
 have h3:=s.ov y 5 2 z12
 obtain ⟨S13,eS_u11⟩:∃ S,σ 6=S:=⟨_,Z⟩
 replace B:=s.lowK B C K (q.geK (⟨.inr (fun k h=>.inr h),⟨fun _ h=>.inl h,⟨.inl Z,N⟩⟩⟩))
 replace j:Ch (zAE (.pointer (some ⟨b0,0,none⟩))) w0 w:=j.tr s.ch (q.geK (⟨.inr (fun k h=>.inr h),⟨fun _ h=>.inl h,⟨.inl Z,N⟩⟩⟩))
 replace q:=s.left y [(0,ob (.pointer (some ⟨b0,0,none⟩)) (.box B0 69 zA5 x5.2)),(2,ob (.pointer (some ⟨b2_1,0,none⟩)) (.box w0.heap.size 27 zA2 (0,(([]:List zA3),([]:List zA4))))),(6,⟨u11,S13,trR (geB w0.heap.size) (oPt 27 (oPr (oRd (eInt .i64)) (oPr (oRd (eSl zA0)) (oSl 54 (oRd zA1))))) x5.1 []⟩)] ⟨Z,Z,z9,Z,Z,⟨Z,Z,z10,Z,Z,⟨Z,Z,e_u11,eS_u11,Z,N⟩⟩⟩
 replace d:=s.avok
 refine zPa Z ?_
 refine zPQ ?_
 refine zPQ ?_
 refine SG.of<|SG.textR [ob (.pointer (some ⟨b0,0,none⟩)) (.box B0 69 zA5 x5.2),ob (.pointer (some ⟨b2_1,0,none⟩)) (.box w0.heap.size 27 zA2 (0,(([]:List zA3),([]:List zA4)))),⟨u11,S13,trR (geB w0.heap.size) (oPt 27 (oPr (oRd (eInt .i64)) (oPr (oRd (eSl zA0)) (oSl 54 (oRd zA1))))) x5.1 []⟩] (rR (.pointer (some ⟨b0,0,none⟩))::[]) 1 Z Z Z (by kernel_rfl) (by kernel_rfl) (Wf.mk' (by kernel_rfl) (ur (UAll.nil)) (by kernel_rfl) (by kernel_rfl)) q d (N) ?_ ?_
 exact rm h0<|rz
 intro done ρ σ A R w y s
 obtain ⟨h0,h2,h3⟩:=k3 s.rg h0 h2 h3
 have z14:=s.inivR 0 Z
 have z15:=s.inivR 1 Z
 have z16:=s.inivR 2 Z
 have eS_u11:=s.inisR 2 Z
 have h6:=s.r y 0 Z
 replace B:=s.lowK B C K (q.geK (⟨.inr (fun k h=>.inr h),⟨.inl Z,⟨fun _ h=>.inl h,N⟩⟩⟩))
 replace j:Ch (zAE (.pointer (some ⟨b0,0,none⟩))) w0 w:=j.tr s.ch (q.geK (⟨.inr (fun k h=>.inr h),⟨.inl Z,⟨fun _ h=>.inl h,N⟩⟩⟩))
 replace q:=s.left y [(0,ob (.pointer (some ⟨b0,0,none⟩)) (.box B0 69 zA5 x5.2)),(1,ob (.pointer (some ⟨b2_1,0,none⟩)) (.box w0.heap.size 27 zA2 (0,(([]:List zA3),([]:List zA4))))),(2,⟨u11,S13,trR (geB w0.heap.size) (oPt 27 (oPr (oRd (eInt .i64)) (oPr (oRd (eSl zA0)) (oSl 54 (oRd zA1))))) x5.1 []⟩)] ⟨Z,Z,z14,Z,Z,⟨Z,Z,z15,Z,Z,⟨Z,Z,z16,eS_u11,Z,N⟩⟩⟩
 replace d:=s.avok
 obtain ⟨x17,q18,c⟩:=zA9 c
 have hFz:w0.heap.size<=w.heap.size:=j.size
 refine SG.op 7 Z Z Z Z (zB7 call46 (zC2 (q18 Z) d h6 (q.sub [(0,ob (.pointer (some ⟨b0,0,none⟩)) (.box B0 69 zA5 x5.2))] ⟨Z,Z,N⟩) Z)) ?_
 rintro v_ w ⟨A,hG1,hv⟩ R n hd
 have hst:=zBO d hG1 (q.ok 0 _ Z).2
 replace B:∀ b o,A0 b o->A b o:=zBl B C K (q.geK (⟨.inr (fun k h=>.inr h),⟨.inl Z,⟨fun _ h=>.inl h,N⟩⟩⟩)) 0 Z hG1
 replace j:Ch (zAE (.pointer (some ⟨b0,0,none⟩))) w0 w:=j.tr hG1.ch (fun k hk=>(q.geK (⟨.inr (fun k h=>.inr h),⟨.inl Z,⟨fun _ h=>.inl h,N⟩⟩⟩)) k ⟨0,_,Z,hk⟩)
 replace q:=zPH q d 0 Z hG1
 replace d:=hG1.avok
 replace q:IniOK [ob (.pointer (some ⟨b0,0,none⟩)) (.box B0 69 zA5 x17.2),ob (.pointer (some ⟨b2_1,0,none⟩)) (.box w0.heap.size 27 zA2 (0,(([]:List zA3),([]:List zA4)))),⟨u11,S13,trR (geB w0.heap.size) (oPt 27 (oPr (oRd (eInt .i64)) (oPr (oRd (eSl zA0)) (oSl 54 (oRd zA1))))) x5.1 []⟩] A w:=q
 replace h0:=(n 0 Z).trans h0
 replace h2:=(n 2 Z).trans h2
 replace h3:=(n 3 Z).trans h3
 replace h6:=(n 6 Z).trans h6
 have h7:R 7=.int .i64 x17.1:=hd.trans hv
 clear hFz hG1 hv n hd
 refine zPa Z ?_
 refine HT.block<|zPQ ?_
 refine zPT (eB (x17.1==0)::eB (x17.1==0)::[]) ?_ ?_
 exact op (fun Q U W H D=>zEt ((H 7 Z).trans h7) Z)<|oa<|oz
 intro R w m n p
 obtain ⟨h0,h2,h3,h7⟩:=k4 n h0 h2 h3 h7
 have h8:=p.r 1 Z
 replace q:=q.fr m
 replace d:=d.fr m.size
 replace j:=j.tr (m.ch noB) fun _ h=>False.elim h
 refine zPJ (x17.1==0) h8 (fun c19=>?_) (fun c19=>?_)
 have c:=zAe c19 c
 refine SG.of<|SG.textR [ob (.pointer (some ⟨b0,0,none⟩)) (.box B0 69 zA5 x17.2),ob (.pointer (some ⟨b2_1,0,none⟩)) (.box w0.heap.size 27 zA2 (0,(([]:List zA3),([]:List zA4)))),⟨u11,S13,trR (geB w0.heap.size) (oPt 27 (oPr (oRd (eInt .i64)) (oPr (oRd (eSl zA0)) (oSl 54 (oRd zA1))))) x5.1 []⟩] (rR (.pointer (some ⟨b0,0,none⟩))::(rF fun A=>.rep (eSl (eInt .i64)) A ([0,1001]:List Int))::[]) 2 Z Z Z (by kernel_rfl) (by kernel_rfl) (Wf.mk' (by kernel_rfl) (ur (up (UAll.nil))) (by kernel_rfl) (by kernel_rfl)) q d (N) ?_ ?_
 exact rm h0<|rp (fun V Q U O D=>zC7 [_,_] (E:=eInt .i64) ⟨(zBa.eq Z),⟨(zBa.eq Z),N⟩⟩ underlying31 sizeOf3 zeroValue3 Z Z Z O.av)<|rz
 intro done ρ σ A R w y s
 obtain ⟨h2,h3⟩:=k2 s.rg h2 h3
 have z20:=s.inivR 0 Z
 have z21:=s.inivR 1 Z
 have z22:=s.inivR 2 Z
 have eS_u11:=s.inisR 2 Z
 have h10:=s.r y 0 Z
 obtain ⟨u23,h11,f_u23⟩:∃ u,R 11=u/\Rep (eSl (eInt .i64)) A w u ([0,1001]:List Int):=⟨_,Z,s.fact y (i:=1) Z Z Z⟩
 replace B:=s.lowK B C K (q.geK (⟨.inr (fun k h=>.inr h),⟨.inl Z,⟨fun _ h=>.inl h,N⟩⟩⟩))
 replace j:Ch (zAE (.pointer (some ⟨b0,0,none⟩))) w0 w:=j.tr s.ch (q.geK (⟨.inr (fun k h=>.inr h),⟨.inl Z,⟨fun _ h=>.inl h,N⟩⟩⟩))
 replace q:=s.left y [(0,ob (.pointer (some ⟨b0,0,none⟩)) (.box B0 69 zA5 x17.2)),(1,ob (.pointer (some ⟨b2_1,0,none⟩)) (.box w0.heap.size 27 zA2 (0,(([]:List zA3),([]:List zA4))))),(2,⟨u11,S13,trR (geB w0.heap.size) (oPt 27 (oPr (oRd (eInt .i64)) (oPr (oRd (eSl zA0)) (oSl 54 (oRd zA1))))) x5.1 []⟩)] ⟨Z,Z,z20,Z,Z,⟨Z,Z,z21,Z,Z,⟨Z,Z,z22,eS_u11,Z,N⟩⟩⟩
 replace d:=s.avok
 obtain ⟨x24,q25,c⟩:=zA9 c
 have hFz:w0.heap.size<=w.heap.size:=j.size
 refine SG.op 12 Z Z Z Z (zB7 call34 (zCs (q25 Z) d h10 (q.sub [(0,ob (.pointer (some ⟨b0,0,none⟩)) (.box B0 69 zA5 x17.2))] ⟨Z,Z,N⟩) (f_u23.eq h11))) ?_
 rintro v_ w ⟨A,hG1,hv⟩ R n hd
 have hst:=zBO d hG1 (q.ok 0 _ Z).2
 replace B:∀ b o,A0 b o->A b o:=zBl B C K (q.geK (⟨.inr (fun k h=>.inr h),⟨.inl Z,⟨fun _ h=>.inl h,N⟩⟩⟩)) 0 Z hG1
 replace j:Ch (zAE (.pointer (some ⟨b0,0,none⟩))) w0 w:=j.tr hG1.ch (fun k hk=>(q.geK (⟨.inr (fun k h=>.inr h),⟨.inl Z,⟨fun _ h=>.inl h,N⟩⟩⟩)) k ⟨0,_,Z,hk⟩)
 replace q:=zPH q d 0 Z hG1
 replace d:=hG1.avok
 replace q:IniOK [ob (.pointer (some ⟨b0,0,none⟩)) (.box B0 69 zA5 x24.2),ob (.pointer (some ⟨b2_1,0,none⟩)) (.box w0.heap.size 27 zA2 (0,(([]:List zA3),([]:List zA4)))),⟨u11,S13,trR (geB w0.heap.size) (oPt 27 (oPr (oRd (eInt .i64)) (oPr (oRd (eSl zA0)) (oSl 54 (oRd zA1))))) x5.1 []⟩] A w:=q
 replace h2:=(n 2 Z).trans h2
 replace h3:=(n 3 Z).trans h3
 replace h10:=(n 10 Z).trans h10
 replace h11:=(n 11 Z).trans h11
 replace f_u23:=f_u23.stp hst
 have h12:R 12=.int .i64 x24.1:=hd.trans hv
 clear hFz hG1 hv n hd
 refine SG.textR [ob (.pointer (some ⟨b0,0,none⟩)) (.box B0 69 zA5 x24.2),ob (.pointer (some ⟨b2_1,0,none⟩)) (.box w0.heap.size 27 zA2 (0,(([]:List zA3),([]:List zA4)))),⟨u11,S13,trR (geB w0.heap.size) (oPt 27 (oPr (oRd (eInt .i64)) (oPr (oRd (eSl zA0)) (oSl 54 (oRd zA1))))) x5.1 []⟩] (rR (.pointer (some ⟨b0,0,none⟩))::rR u23::rI x24.1::rR u11::⟨_,true,[2],some (trR (geB w0.heap.size) (oPt 27 (oPr (oRd (eInt .i64)) (oPr (oRd (eSl zA0)) (oSl 54 (oRd zA1))))) (x24.1,x5.1.2.1,x5.1.2.2) []),false,fun A=>.any⟩::[]) 5 Z Z Z (by kernel_rfl) (by kernel_rfl) (Wf.mk' (by kernel_rfl) (ur (ur (ur (ur (ua (UAll.nil)))))) (by kernel_rfl) (by kernel_rfl)) q d (⟨⟨Z,Z,Z,h10⟩,⟨⟨Z,Z,Z,h11⟩,⟨⟨Z,Z,Z,h12⟩,N⟩⟩⟩) ?_ ?_
 exact rp (fun V Q U O D=>zAx ((zAp (q.own 2 _ Z).2).ptr).ad ((O.old 3 Z).trans h3) zF0 sizeOf3 (by decide) (zKB ((zAp (q.own 2 _ Z).2).ptr).ad))<|rc (zPZ 2 _ _ Z Z Z Z Z fun V Q U O D u S X I Y J L M=>by have a0:Q 13=u11:=D.g 0 Z;have a1:Q 12=.int .i64 x24.1:=D.g 1 Z;have e0:=(J _ Z).1;rw [e0] at I ⊢;exact zKo ((zAp I.2).ptr).fst (zBa.eq a1) a0 Y I.1 sizeOf3 (fun _ _ _ h=>h))<|rz
 intro done ρ σ A R w y s
 obtain ⟨h2,h3⟩:=k2 s.rg h2 h3
 have z26:=s.inivR 0 Z
 have z27:=s.inivR 1 Z
 have z28:=s.inivR 2 Z
 have z29:=s.on y 7 4 Z Z Z Z Z z28
 obtain ⟨S30,eS_u11⟩:∃ S,σ 7=S:=⟨_,Z⟩
 replace B:=s.lowK B C K (q.geK (⟨.inr (fun k h=>.inr h),⟨.inl Z,⟨fun _ h=>.inl h,N⟩⟩⟩))
 replace j:Ch (zAE (.pointer (some ⟨b0,0,none⟩))) w0 w:=j.tr s.ch (q.geK (⟨.inr (fun k h=>.inr h),⟨.inl Z,⟨fun _ h=>.inl h,N⟩⟩⟩))
 replace q:=s.left y [(0,ob (.pointer (some ⟨b0,0,none⟩)) (.box B0 69 zA5 x24.2)),(1,ob (.pointer (some ⟨b2_1,0,none⟩)) (.box w0.heap.size 27 zA2 (0,(([]:List zA3),([]:List zA4))))),(7,⟨u11,S30,trR (geB w0.heap.size) (oPt 27 (oPr (oRd (eInt .i64)) (oPr (oRd (eSl zA0)) (oSl 54 (oRd zA1))))) (x24.1,x5.1.2.1,x5.1.2.2) []⟩)] ⟨Z,Z,z26,Z,Z,⟨Z,Z,z27,Z,Z,⟨Z,Z,z29,eS_u11,Z,N⟩⟩⟩
 replace d:=s.avok
 refine zPa Z ?_
 refine zPS [ob (.pointer (some ⟨b0,0,none⟩)) (.box B0 69 zA5 x24.2),ob (.pointer (some ⟨b2_1,0,none⟩)) (.box w0.heap.size 27 zA2 (0,(([]:List zA3),([]:List zA4)))),⟨u11,S30,trR (geB w0.heap.size) (oPt 27 (oPr (oRd (eInt .i64)) (oPr (oRd (eSl zA0)) (oSl 54 (oRd zA1))))) (x24.1,x5.1.2.1,x5.1.2.2) []⟩] (⟨_,true,[2],some (.nul),false,fun A=>.rep zA2 A (x24.1,x5.1.2.1,x5.1.2.2)⟩::⟨_,true,[1],some (.box w0.heap.size 27 zA2 (x24.1,x5.1.2.1,x5.1.2.2)),false,fun A=>.any⟩::[]) (up (ua (UAll.nil))) q d ?_ ?_
 exact rc (zPZ 2 .nul _ Z Z Z Z Z fun V Q U O D u S X I Y J L M=>by have a0:Q 3=u11:=(O.old 3 Z).trans h3;exact zIZ I.2 (a0.trans (J _ Z).1.symm) Y isAgg27 sizeOf27)<|rc (OblR.took 1 _ _ Z Z Z Z Z fun V Q U O D u X Y J L M=>by have a0:Q 2=(.pointer (some ⟨b2_1,0,none⟩)):=(O.old 2 Z).trans h2;have a1:Rep zA2 V U (Q 27) (x24.1,x5.1.2.1,x5.1.2.2):=D.g 0 Z;exact zBX a1 a0 (J _ Z) X Y (FldS.id _) sizeOf27 Z)<|rz
 intro done ρ σ A R w y s
 replace h2:=k1 s.rg h2
 have z31:=s.inivR 0 Z
 have z32:=s.inivR 1 Z
 have z33:=s.on y 4 1 Z Z Z Z Z z32
 replace B:=s.lowK B C K (q.geK (⟨.inr (fun k h=>.inr h),⟨.inl Z,⟨fun _ h=>.inl h,N⟩⟩⟩))
 replace j:Ch (zAE (.pointer (some ⟨b0,0,none⟩))) w0 w:=j.tr s.ch (q.geK (⟨.inr (fun k h=>.inr h),⟨.inl Z,⟨fun _ h=>.inl h,N⟩⟩⟩))
 replace q:=s.left y [(0,ob (.pointer (some ⟨b0,0,none⟩)) (.box B0 69 zA5 x24.2)),(4,ob (.pointer (some ⟨b2_1,0,none⟩)) (.box w0.heap.size 27 zA2 (x24.1,x5.1.2.1,x5.1.2.2)))] ⟨Z,Z,z31,Z,Z,⟨Z,Z,z33,Z,Z,N⟩⟩
 replace d:=s.avok
 refine HT.ret ?_
 obtain rfl:=si c
 obtain ⟨v_2,e_2,p_2⟩:=zHX (q.ok 1 _ Z).1 h2 isAgg27 sizeOf27 (fun _ _ h=>h)
 replace q:IniOK [ob (.pointer (some ⟨b0,0,none⟩)) (.box B0 69 zA5 x24.2)] A w:=q.sub [(0,ob (.pointer (some ⟨b0,0,none⟩)) (.box B0 69 zA5 x24.2))] ⟨Z,Z,N⟩
 obtain ⟨A1,hA1,hG1⟩:=GPost.of q d B (q.geK (⟨.inr (fun k h=>.inr h),N⟩)) j
 exact ⟨.inr Z,[v_2],⟨e_2,N⟩,A1,hG1,p_2.down hA1⟩
 have c:=zAd c19 c
 refine zPQ ?_
 refine zPT (eB (x17.1==1)::eB (x17.1==1)::[]) ?_ ?_
 exact op (fun Q U W H D=>zEt ((H 7 Z).trans h7) Z)<|oa<|oz
 intro R w m n p
 obtain ⟨h0,h2,h3⟩:=k3 n h0 h2 h3
 have h14:=p.r 1 Z
 replace q:=q.fr m
 replace d:=d.fr m.size
 replace j:=j.tr (m.ch noB) fun _ h=>False.elim h
 refine zPJ (x17.1==1) h14 (fun c34=>?_) (fun c34=>?_)
 have c:=zAe c34 c
 obtain ⟨h35,p_h35⟩:=(((((zAp (q.own 2 _ Z).2).ptr).snd Z).snd (zCZ _ _ _))).open1 Z
 replace q:IniOK [ob (.pointer (some ⟨b0,0,none⟩)) (.box B0 69 zA5 x17.2),ob (.pointer (some ⟨b2_1,0,none⟩)) (.box w0.heap.size 27 zA2 (0,(([]:List zA3),([]:List zA4)))),⟨u11,S13,trR (geB w0.heap.size) (oPt 27 (oPr (oRd (eInt .i64)) (oPr (oRd (eSl zA0)) (oSl 54 (oRd zA1))))) x5.1 [((padd u11 2),[h35])]⟩] A w:=q.repin 2 Z (trP.pin p_h35)
 obtain ⟨x37,q38,c⟩:=zA9 c
 obtain ⟨x39,q40,c⟩:=zA9 c
 obtain ⟨e42,c⟩:=zAG c
 refine zPN [ob (.pointer (some ⟨b0,0,none⟩)) (.box B0 69 zA5 x17.2),ob (.pointer (some ⟨b2_1,0,none⟩)) (.box w0.heap.size 27 zA2 (0,(([]:List zA3),([]:List zA4)))),⟨u11,S13,trR (geB w0.heap.size) (oPt 27 (oPr (oRd (eInt .i64)) (oPr (oRd (eSl zA0)) (oSl 54 (oRd zA1))))) x5.1 [((padd u11 2),[h35])]⟩] (rR (padd u11 2)::rR h35::rR (.pointer (some ⟨b0,0,none⟩))::(rF fun A=>.rep (eSl (eInt .i64)) A ([0,999,1000]:List Int))::⟨_,true,[0],some (.box B0 69 zA5 x37.2),false,fun A=>.raw (.int .i64 x37.1)⟩::rR (.pointer (some ⟨b0,0,none⟩))::⟨_,true,[7],some (.box B0 69 zA5 x39.2),false,fun A=>.rep (eSl eStr) A x39.1⟩::(rF fun A=>.rep zA1 A (x37.1,x39.1))::(rF fun A=>.rep (eSl zA1) A ([(x37.1,x39.1)]:List zA4))::⟨_,true,[2],some (.gen (geB w0.heap.size) (pdP (oSl 54 (oRd zA1)) (padd u11 2) (fun z A w S=>(trP (oPt 27 (oPr (oRd (eInt .i64)) (oPr (oRd (eSl zA0)) (oSl 54 (oRd zA1))))) (x5.1.1,x5.1.2.1,z) []).P A w S u11) (x5.1.2.2++([(x37.1,x39.1)]:List zA4)))),true,fun A=>.any⟩::rR (padd u11 2)::⟨_,true,[12],some (.gen (geB w0.heap.size) (fixP u11 (trP (oPt 27 (oPr (oRd (eInt .i64)) (oPr (oRd (eSl zA0)) (oSl 54 (oRd zA1))))) (x5.1.1,x5.1.2.1,(x5.1.2.2++([(x37.1,x39.1)]:List zA4))) []))),false,fun A=>.any⟩::[]) (by kernel_rfl) (by kernel_rfl) (by kernel_rfl) (Wf.mk' (by kernel_rfl) (ur (ur (ur (up (ur (ur (up (up (up (ua (ur (ua (UAll.nil))))))))))))) (by kernel_rfl) (by kernel_rfl)) q d ?_ ?_
 exact rp (fun V Q U O D=>zAx ((zAp (q.own 2 _ Z).2).ptr).ad ((O.old 3 Z).trans h3) zAv sizeOf25 (by decide) Z)<|rp (fun V Q U O D=>zEn ((O.rdo 2 _ Z Z).2.2 _ (.head _)) (D.g 0 Z) isAgg25 sizeOf25)<|rm h0<|rp (fun V Q U O D=>zC7 [_,_,_] (E:=eInt .i64) ⟨(zBa.eq Z),⟨(zBa.eq Z),⟨(zBa.eq Z),N⟩⟩⟩ underlying31 sizeOf3 zeroValue3 Z Z Z O.av)<|rc (OblR.took 0 _ _ Z Z Z Z Z fun V Q U O D u X Y J L M=>by have a0:Q 18=(.pointer (some ⟨b0,0,none⟩)):=D.g 0 Z;have a1:Rep (eSl (eInt .i64)) V U (Q 19) ([0,999,1000]:List Int):=D.g 1 Z;have e0:=J _ Z;rw [e0] at X Y ⊢;exact zLZ call34 X Y O.av (fun s=>zCs (q38 Z) O.av a0 s a1))<|rm h0<|rc (OblR.tookN 7 _ _ Z Z Z Z Z fun V Q U O D u S X I Y J L M hrt=>by have a0:Q 21=(.pointer (some ⟨b0,0,none⟩)):=D.g 0 Z;obtain rfl:=(Res.own_iff Z).1 I;have e0:=hrt 13 0 _ Z Z;rw [e0] at X Y ⊢;exact OpR.took (zLZ call21 X Y O.av (fun s=>zI9 (q40 Z) O.av a0 s)) Z)<|rp (fun V Q U O D=>by have a0:Q 20=.int .i64 x37.1:=D.g 0 Z;obtain ⟨c41a,c41n,c41c,c41,c41r⟩:=zF7 (D.g 1 Z);exact zDn (v:=.agg #[.int .i64 x37.1,.slice c41a c41n c41c]) (by simp [execOp,Instr.build,zAL,a0,c41,underlying,underlying54,zeroValue54,sizeOf28,sizeOf3,go_sem,Instr.fill]) ⟨_,Z,zCo zAm c41r⟩)<|rp (fun V Q U O D=>zC7 [_] (E:=zA1) ⟨(D.g 0 Z),N⟩ underlying25 sizeOf54 zeroValue54 Z Z Z O.av)<|rc (zPZ 2 _ _ Z Z Z Z Z fun V Q U O D u S X I Y J L M=>by have a0:Q 17=h35:=D.g 0 Z;have a1:Rep (eSl zA1) V U (Q 24) ([(x37.1,x39.1)]:List zA4):=D.g 1 Z;have e0:=(J _ Z).1;rw [e0] at I ⊢;exact zHv ((((zAp I.2).ptr).snd Z).snd (zCZ _ _ _)) (I.2.2 _ (.head _)) a0 Y I.1 (fun k hk=>Nat.le_trans (Nat.le_trans j.size O.ch.size) hk) (fun k hk=>SP.lt _ I.2 hk) a1 underlying25 zLr e42)<|rp (fun V Q U O D=>zAx ((zAp (q.own 2 _ Z).2).ptr).ad ((O.old 3 Z).trans h3) zAv sizeOf25 (by decide) Z)<|rc (zPZ 12 _ _ Z Z Z Z Z fun V Q U O D u S X I Y J L M=>by have a0:Q 26=(padd u11 2):=D.g 0 Z;exact zHL I.2 (L _ _ Z Z Z Z).symm a0 Y I.1 sizeOf25 (fun _ _ _ h=>h))<|rz
 intro done ρ σ A R w y s
 obtain ⟨h2,h3⟩:=k2 s.rg h2 h3
 have z43:=s.inivR 0 Z
 have z44:=s.on y 7 4 Z Z Z Z Z z43
 have z45:=s.on y 9 6 Z Z Z Z Z z44
 have z46:=s.inivR 1 Z
 obtain ⟨u47,e_u47⟩:∃ u,ρ 14=u:=⟨_,Z⟩
 obtain ⟨S48,eS_u11⟩:∃ S,σ 14=S:=⟨_,Z⟩
 replace B:=s.lowK B C K (q.geK (⟨.inr (fun k h=>.inr h),⟨.inl Z,⟨fun _ h=>.inl h,N⟩⟩⟩))
 replace j:Ch (zAE (.pointer (some ⟨b0,0,none⟩))) w0 w:=j.tr s.ch (q.geK (⟨.inr (fun k h=>.inr h),⟨.inl Z,⟨fun _ h=>.inl h,N⟩⟩⟩))
 replace q:=s.left y [(9,ob (.pointer (some ⟨b0,0,none⟩)) (.box B0 69 zA5 x39.2)),(1,ob (.pointer (some ⟨b2_1,0,none⟩)) (.box w0.heap.size 27 zA2 (0,(([]:List zA3),([]:List zA4))))),(14,⟨u47,S48,.gen (geB w0.heap.size) (fixP u11 (trP (oPt 27 (oPr (oRd (eInt .i64)) (oPr (oRd (eSl zA0)) (oSl 54 (oRd zA1))))) (x5.1.1,x5.1.2.1,(x5.1.2.2++([(x37.1,x39.1)]:List zA4))) []))⟩)] ⟨Z,Z,z45,Z,Z,⟨Z,Z,z46,Z,Z,⟨Z,Z,e_u47,eS_u11,Z,N⟩⟩⟩
 replace d:=s.avok
 replace q:IniOK [ob (.pointer (some ⟨b0,0,none⟩)) (.box B0 69 zA5 x39.2),ob (.pointer (some ⟨b2_1,0,none⟩)) (.box w0.heap.size 27 zA2 (0,(([]:List zA3),([]:List zA4)))),⟨u11,S48,trR (geB w0.heap.size) (oPt 27 (oPr (oRd (eInt .i64)) (oPr (oRd (eSl zA0)) (oSl 54 (oRd zA1))))) (x5.1.1,x5.1.2.1,(x5.1.2.2++([(x37.1,x39.1)]:List zA4))) []⟩] A w:=q.refix 2 Z
 refine zPS [ob (.pointer (some ⟨b0,0,none⟩)) (.box B0 69 zA5 x39.2),ob (.pointer (some ⟨b2_1,0,none⟩)) (.box w0.heap.size 27 zA2 (0,(([]:List zA3),([]:List zA4)))),⟨u11,S48,trR (geB w0.heap.size) (oPt 27 (oPr (oRd (eInt .i64)) (oPr (oRd (eSl zA0)) (oSl 54 (oRd zA1))))) (x5.1.1,x5.1.2.1,(x5.1.2.2++([(x37.1,x39.1)]:List zA4))) []⟩] (⟨_,true,[2],some (.nul),false,fun A=>.rep zA2 A (x5.1.1,x5.1.2.1,(x5.1.2.2++([(x37.1,x39.1)]:List zA4)))⟩::⟨_,true,[1],some (.box w0.heap.size 27 zA2 (x5.1.1,x5.1.2.1,(x5.1.2.2++([(x37.1,x39.1)]:List zA4)))),false,fun A=>.any⟩::[]) (up (ua (UAll.nil))) q d ?_ ?_
 exact rc (zPZ 2 .nul _ Z Z Z Z Z fun V Q U O D u S X I Y J L M=>by have a0:Q 3=u11:=(O.old 3 Z).trans h3;exact zIZ I.2 (a0.trans (J _ Z).1.symm) Y isAgg27 sizeOf27)<|rc (OblR.took 1 _ _ Z Z Z Z Z fun V Q U O D u X Y J L M=>by have a0:Q 2=(.pointer (some ⟨b2_1,0,none⟩)):=(O.old 2 Z).trans h2;have a1:Rep zA2 V U (Q 27) (x5.1.1,x5.1.2.1,(x5.1.2.2++([(x37.1,x39.1)]:List zA4))):=D.g 0 Z;exact zBX a1 a0 (J _ Z) X Y (FldS.id _) sizeOf27 Z)<|rz
 intro done ρ σ A R w y s
 replace h2:=k1 s.rg h2
 have z49:=s.inivR 0 Z
 have z50:=s.inivR 1 Z
 have z51:=s.on y 4 1 Z Z Z Z Z z50
 replace B:=s.lowK B C K (q.geK (⟨.inr (fun k h=>.inr h),⟨.inl Z,⟨fun _ h=>.inl h,N⟩⟩⟩))
 replace j:Ch (zAE (.pointer (some ⟨b0,0,none⟩))) w0 w:=j.tr s.ch (q.geK (⟨.inr (fun k h=>.inr h),⟨.inl Z,⟨fun _ h=>.inl h,N⟩⟩⟩))
 replace q:=s.left y [(0,ob (.pointer (some ⟨b0,0,none⟩)) (.box B0 69 zA5 x39.2)),(4,ob (.pointer (some ⟨b2_1,0,none⟩)) (.box w0.heap.size 27 zA2 (x5.1.1,x5.1.2.1,(x5.1.2.2++([(x37.1,x39.1)]:List zA4)))))] ⟨Z,Z,z49,Z,Z,⟨Z,Z,z51,Z,Z,N⟩⟩
 replace d:=s.avok
 refine HT.ret ?_
 obtain rfl:=si c
 obtain ⟨v_2,e_2,p_2⟩:=zHX (q.ok 1 _ Z).1 h2 isAgg27 sizeOf27 (fun _ _ h=>h)
 replace q:IniOK [ob (.pointer (some ⟨b0,0,none⟩)) (.box B0 69 zA5 x39.2)] A w:=q.sub [(0,ob (.pointer (some ⟨b0,0,none⟩)) (.box B0 69 zA5 x39.2))] ⟨Z,Z,N⟩
 obtain ⟨A1,hA1,hG1⟩:=GPost.of q d B (q.geK (⟨.inr (fun k h=>.inr h),N⟩)) j
 exact ⟨.inr Z,[v_2],⟨e_2,N⟩,A1,hG1,p_2.down hA1⟩
 have c:=zAd c34 c
 refine HT.skip<|zPS [ob (.pointer (some ⟨b0,0,none⟩)) (.box B0 69 zA5 x17.2),ob (.pointer (some ⟨b2_1,0,none⟩)) (.box w0.heap.size 27 zA2 (0,(([]:List zA3),([]:List zA4)))),⟨u11,S13,trR (geB w0.heap.size) (oPt 27 (oPr (oRd (eInt .i64)) (oPr (oRd (eSl zA0)) (oSl 54 (oRd zA1))))) x5.1 []⟩] (⟨_,true,[2],some (.nul),false,fun A=>.rep zA2 A x5.1⟩::⟨_,true,[1],some (.box w0.heap.size 27 zA2 x5.1),false,fun A=>.any⟩::[]) (up (ua (UAll.nil))) q d ?_ ?_
 exact rc (zPZ 2 .nul _ Z Z Z Z Z fun V Q U O D u S X I Y J L M=>by have a0:Q 3=u11:=(O.old 3 Z).trans h3;exact zIZ I.2 (a0.trans (J _ Z).1.symm) Y isAgg27 sizeOf27)<|rc (OblR.took 1 _ _ Z Z Z Z Z fun V Q U O D u X Y J L M=>by have a0:Q 2=(.pointer (some ⟨b2_1,0,none⟩)):=(O.old 2 Z).trans h2;have a1:Rep zA2 V U (Q 27) x5.1:=D.g 0 Z;exact zBX a1 a0 (J _ Z) X Y (FldS.id _) sizeOf27 Z)<|rz
 intro done ρ σ A R w y s
 replace h2:=k1 s.rg h2
 have z52:=s.inivR 0 Z
 have z53:=s.inivR 1 Z
 have z54:=s.on y 4 1 Z Z Z Z Z z53
 replace B:=s.lowK B C K (q.geK (⟨.inr (fun k h=>.inr h),⟨.inl Z,⟨fun _ h=>.inl h,N⟩⟩⟩))
 replace j:Ch (zAE (.pointer (some ⟨b0,0,none⟩))) w0 w:=j.tr s.ch (q.geK (⟨.inr (fun k h=>.inr h),⟨.inl Z,⟨fun _ h=>.inl h,N⟩⟩⟩))
 replace q:=s.left y [(0,ob (.pointer (some ⟨b0,0,none⟩)) (.box B0 69 zA5 x17.2)),(4,ob (.pointer (some ⟨b2_1,0,none⟩)) (.box w0.heap.size 27 zA2 x5.1))] ⟨Z,Z,z52,Z,Z,⟨Z,Z,z54,Z,Z,N⟩⟩
 replace d:=s.avok
 refine HT.ret ?_
 obtain rfl:=si c
 obtain ⟨v_2,e_2,p_2⟩:=zHX (q.ok 1 _ Z).1 h2 isAgg27 sizeOf27 (fun _ _ h=>h)
 replace q:IniOK [ob (.pointer (some ⟨b0,0,none⟩)) (.box B0 69 zA5 x17.2)] A w:=q.sub [(0,ob (.pointer (some ⟨b0,0,none⟩)) (.box B0 69 zA5 x17.2))] ⟨Z,Z,N⟩
 obtain ⟨A1,hA1,hG1⟩:=GPost.of q d B (q.geK (⟨.inr (fun k h=>.inr h),N⟩)) j
 exact ⟨.inr Z,[v_2],⟨e_2,N⟩,A1,hG1,p_2.down hA1⟩
def zC4 (fu:Nat) (p0:List Int):Option (zA7 × (List (List UInt8))):=
 cl true (zEG fu p0) fun x3=>
 cl true (zDr fu x3) fun x10=>
 cl true (zDS fu x10.2) fun x15=>
 some (x10.1,x15.1)
theorem zFJ {fu : Nat} {A0 : Av} {p0 : List Int} {r : zA7 × (List (List UInt8))} (c : zC4 fu p0 = some r) {w : World} {v0 : Value} (d : AvOK A0 w) (h0 : Rep (eSl (eInt .u8)) A0 w v0 p0) :
 Calls prog 5 #[v0] w fun e w'=>∃ v,e=.returned v/\((∃ a b,v=.tuple #[a,b]/\Rep zA2 A0 w' a r.1/\Rep (eSl eStr) A0 w' b r.2)/\Fr w w'):=by
 unfold zC4 at c
 obtain ⟨w0,hw0,j,C⟩:=pw d
 have hA00:AvOK A0 w0:=C
 rw [fw hw0]
 obtain ⟨A,hAe,B,d,q⟩:=pa d
 refine zAB [.cell 2 27,.tmp 3] func5 ntmps5 (by decide) Z Z (nb Z) ?_
 intro R hR
 have f_v0:Rep (eSl (eInt .u8)) A w v0 p0:=hAe ▸ h0
 replace h0:R 0=v0:=hR 0 _ Z
 refine zPS [] (⟨_,true,[],some (.box w0.heap.size 27 zA2 (0,(([]:List zA3),([]:List zA4)))),true,fun A=>.any⟩::(rF fun A=>.rep (eSl eStr) A ([]:List (List UInt8)))::[]) (ua (up (UAll.nil))) q d ?_ ?_
 exact rc (OblR.made _ Z Z Z Z fun V Q U O D=>by exact zCI zeroValue27 (fun A w=>zCo zAm (zCo zBD zBD)) (Nat.le_trans j.size O.ch.size))<|rp (fun V Q U O D=>zA6 zIn)<|rz
 intro done ρ σ A R w y s
 replace h0:=k1 s.rg h0
 obtain ⟨b2_0,e_b2_0⟩:=s.boxv y 0 Z Z
 have h2:=s.ov y 0 0 e_b2_0
 replace f_v0:=f_v0.stp s.stp
 obtain ⟨B,j,d⟩:=s.s B C j q N
 replace q:=s.left y [(0,ob (.pointer (some ⟨b2_0,0,none⟩)) (.box w0.heap.size 27 zA2 (0,(([]:List zA3),([]:List zA4)))))] ⟨Z,Z,e_b2_0,Z,Z,N⟩
 refine zPQ ?_
 refine SG.of<|SG.textR [ob (.pointer (some ⟨b2_0,0,none⟩)) (.box w0.heap.size 27 zA2 (0,(([]:List zA3),([]:List zA4))))] (rR v0::[]) 1 Z Z Z (by kernel_rfl) (by kernel_rfl) (Wf.mk' (by kernel_rfl) (ur (UAll.nil)) (by kernel_rfl) (by kernel_rfl)) q d (N) ?_ ?_
 exact rm h0<|rz
 intro done ρ σ A R w y s
 replace h2:=k1 s.rg h2
 have z2:=s.inivR 0 Z
 have h5:=s.r y 0 Z
 replace f_v0:=f_v0.stp s.stp
 obtain ⟨B,j,d⟩:=s.s B C j q ⟨Z,N⟩
 replace q:=s.left y [(0,ob (.pointer (some ⟨b2_0,0,none⟩)) (.box w0.heap.size 27 zA2 (0,(([]:List zA3),([]:List zA4)))))] ⟨Z,Z,z2,Z,Z,N⟩
 obtain ⟨x3,q4,c⟩:=zA9 c
 have hFz:w0.heap.size<=w.heap.size:=j.size
 refine SG.op 6 Z Z Z Z (zB7 call19 (zGF (q4 Z) d (f_v0.eq h5))) ?_
 rintro v_ w ⟨b5,A,hG1,hv⟩ R n hd
 obtain ⟨hO2,hst⟩:=zPI q d hG1
 replace q:=hO2
 replace d:=hG1.avok
 replace B:∀ b o,A0 b o->A b o:=fun b o h=>hG1.low b o (B b o h)
 replace j:Fr w0 w:=j.trans hG1.ch.no
 replace q:=q.reX (B':=w0.heap.size) 0 Z hFz
 replace q:IniOK [ob (.pointer (some ⟨b5,0,none⟩)) (.box w0.heap.size 69 zA5 x3),ob (.pointer (some ⟨b2_0,0,none⟩)) (.box w0.heap.size 27 zA2 (0,(([]:List zA3),([]:List zA4))))] A w:=q
 replace h2:=(n 2 Z).trans h2
 replace h5:=(n 5 Z).trans h5
 replace f_v0:=f_v0.stp hst
 have h6:R 6=(.pointer (some ⟨b5,0,none⟩)):=hd.trans hv
 clear hFz hG1 hv n hd
 refine SG.textR [ob (.pointer (some ⟨b5,0,none⟩)) (.box w0.heap.size 69 zA5 x3),ob (.pointer (some ⟨b2_0,0,none⟩)) (.box w0.heap.size 27 zA2 (0,(([]:List zA3),([]:List zA4))))] (rR v0::rR (.pointer (some ⟨b5,0,none⟩))::rR (.pointer (some ⟨b5,0,none⟩))::[]) 3 Z Z Z (by kernel_rfl) (by kernel_rfl) (Wf.mk' (by kernel_rfl) (ur (ur (ur (UAll.nil)))) (by kernel_rfl) (by kernel_rfl)) q d (⟨⟨Z,Z,Z,h5⟩,⟨⟨Z,Z,Z,h6⟩,N⟩⟩) ?_ ?_
 exact ra<|rz
 intro done ρ σ A R w y s
 replace h2:=k1 s.rg h2
 have z6:=s.inivR 0 Z
 have z7:=s.inivR 1 Z
 have h4:=s.r y 2 Z
 obtain ⟨B,j,d⟩:=s.s B C j q ⟨Z,⟨Z,N⟩⟩
 replace q:=s.left y [(0,ob (.pointer (some ⟨b5,0,none⟩)) (.box w0.heap.size 69 zA5 x3)),(1,ob (.pointer (some ⟨b2_0,0,none⟩)) (.box w0.heap.size 27 zA2 (0,(([]:List zA3),([]:List zA4)))))] ⟨Z,Z,z6,Z,Z,⟨Z,Z,z7,Z,Z,N⟩⟩
 refine zPa Z ?_
 refine zPQ ?_
 refine SG.of<|SG.textR [ob (.pointer (some ⟨b5,0,none⟩)) (.box w0.heap.size 69 zA5 x3),ob (.pointer (some ⟨b2_0,0,none⟩)) (.box w0.heap.size 27 zA2 (0,(([]:List zA3),([]:List zA4))))] (rR (.pointer (some ⟨b5,0,none⟩))::[]) 1 Z Z Z (by kernel_rfl) (by kernel_rfl) (Wf.mk' (by kernel_rfl) (ur (UAll.nil)) (by kernel_rfl) (by kernel_rfl)) q d (N) ?_ ?_
 exact rm h4<|rz
 intro done ρ σ A R w y s
 obtain ⟨h2,h4⟩:=k2 s.rg h2 h4
 have z8:=s.inivR 0 Z
 have z9:=s.inivR 1 Z
 have h7:=s.r y 0 Z
 obtain ⟨B,j,d⟩:=s.s B C j q ⟨Z,⟨Z,N⟩⟩
 replace q:=s.left y [(0,ob (.pointer (some ⟨b5,0,none⟩)) (.box w0.heap.size 69 zA5 x3)),(1,ob (.pointer (some ⟨b2_0,0,none⟩)) (.box w0.heap.size 27 zA2 (0,(([]:List zA3),([]:List zA4)))))] ⟨Z,Z,z8,Z,Z,⟨Z,Z,z9,Z,Z,N⟩⟩
 obtain ⟨x10,q11,c⟩:=zA9 c
 have hFz:w0.heap.size<=w.heap.size:=j.size
 refine SG.op 8 Z Z Z Z (zB7 call20 (zFv (q11 Z) d h7 (q.sub [(0,ob (.pointer (some ⟨b5,0,none⟩)) (.box w0.heap.size 69 zA5 x3))] ⟨Z,Z,N⟩))) ?_
 rintro v_ w ⟨A,hG1,hv⟩ R n hd
 have hst:=zBO d hG1 (q.ok 0 _ Z).2
 replace B:∀ b o,A0 b o->A b o:=zHa B C (q.ge (⟨Z,⟨Z,N⟩⟩)) 0 Z hG1
 replace j:Fr w0 w:=j.tr hG1.ch (fun k hk=>(q.ge (⟨Z,⟨Z,N⟩⟩)) k ⟨0,_,Z,hk⟩)
 replace q:=zPH q d 0 Z hG1
 replace d:=hG1.avok
 replace q:IniOK [ob (.pointer (some ⟨b5,0,none⟩)) (.box w0.heap.size 69 zA5 x10.2),ob (.pointer (some ⟨b2_0,0,none⟩)) (.box w0.heap.size 27 zA2 (0,(([]:List zA3),([]:List zA4))))] A w:=q
 replace h2:=(n 2 Z).trans h2
 replace h4:=(n 4 Z).trans h4
 replace h7:=(n 7 Z).trans h7
 obtain ⟨u12,h8,f_u12⟩:∃ u,R 8=u/\Rep zA2 A w u x10.1:=⟨_,Z,hd ▸ hv⟩
 clear hFz hG1 hv n hd
 refine SG.textR [ob (.pointer (some ⟨b5,0,none⟩)) (.box w0.heap.size 69 zA5 x10.2),ob (.pointer (some ⟨b2_0,0,none⟩)) (.box w0.heap.size 27 zA2 (0,(([]:List zA3),([]:List zA4))))] (rR (.pointer (some ⟨b5,0,none⟩))::rR u12::rR (.pointer (some ⟨b5,0,none⟩))::[]) 3 Z Z Z (by kernel_rfl) (by kernel_rfl) (Wf.mk' (by kernel_rfl) (ur (ur (ur (UAll.nil)))) (by kernel_rfl) (by kernel_rfl)) q d (⟨⟨Z,Z,Z,h7⟩,⟨⟨Z,Z,Z,h8⟩,N⟩⟩) ?_ ?_
 exact rm h4<|rz
 intro done ρ σ A R w y s
 replace h2:=k1 s.rg h2
 have z13:=s.inivR 0 Z
 have z14:=s.inivR 1 Z
 have h8:=s.r y 1 Z
 have h9:=s.r y 2 Z
 replace f_u12:=f_u12.stp s.stp
 obtain ⟨B,j,d⟩:=s.s B C j q ⟨Z,⟨Z,N⟩⟩
 replace q:=s.left y [(0,ob (.pointer (some ⟨b5,0,none⟩)) (.box w0.heap.size 69 zA5 x10.2)),(1,ob (.pointer (some ⟨b2_0,0,none⟩)) (.box w0.heap.size 27 zA2 (0,(([]:List zA3),([]:List zA4)))))] ⟨Z,Z,z13,Z,Z,⟨Z,Z,z14,Z,Z,N⟩⟩
 obtain ⟨x15,q16,c⟩:=zA9 c
 have hFz:w0.heap.size<=w.heap.size:=j.size
 refine SG.op 10 Z Z Z Z (zB7 call21 (zFE (q16 Z) d h9 (q.sub [(0,ob (.pointer (some ⟨b5,0,none⟩)) (.box w0.heap.size 69 zA5 x10.2))] ⟨Z,Z,N⟩))) ?_
 rintro v_ w ⟨u17,A,hG1,hv⟩ R n hd
 have hst:=zBO d hG1 (q.ok 0 _ Z).2
 replace B:∀ b o,A0 b o->A b o:=zHa B C (q.ge (⟨Z,⟨Z,N⟩⟩)) 0 Z hG1
 replace j:Fr w0 w:=j.tr hG1.ch (fun k hk=>(q.ge (⟨Z,⟨Z,N⟩⟩)) k ⟨0,_,Z,hk⟩)
 replace q:=zPH q d 0 Z hG1
 replace d:=hG1.avok
 replace q:=q.reV (B':=w0.heap.size) 1 Z hFz
 replace q:IniOK [ob (.pointer (some ⟨b5,0,none⟩)) (.box w0.heap.size 69 zA5 x15.2),ob u17 (.vec w0.heap.size 9 eStr x15.1),ob (.pointer (some ⟨b2_0,0,none⟩)) (.box w0.heap.size 27 zA2 (0,(([]:List zA3),([]:List zA4))))] A w:=q
 replace h2:=(n 2 Z).trans h2
 replace h8:=(n 8 Z).trans h8
 replace h9:=(n 9 Z).trans h9
 replace f_u12:=f_u12.stp hst
 have h10:R 10=u17:=hd.trans hv
 clear hFz hG1 hv n hd
 replace q:IniOK [ob u17 (.vec w0.heap.size 9 eStr x15.1),ob (.pointer (some ⟨b5,0,none⟩)) (.box w0.heap.size 69 zA5 x15.2),ob (.pointer (some ⟨b2_0,0,none⟩)) (.box w0.heap.size 27 zA2 (0,(([]:List zA3),([]:List zA4))))] A w:=q.sub [(1,ob u17 (.vec w0.heap.size 9 eStr x15.1)),(0,ob (.pointer (some ⟨b5,0,none⟩)) (.box w0.heap.size 69 zA5 x15.2)),(2,ob (.pointer (some ⟨b2_0,0,none⟩)) (.box w0.heap.size 27 zA2 (0,(([]:List zA3),([]:List zA4)))))] ⟨Z,Z,⟨Z,Z,⟨Z,Z,N⟩⟩⟩
 obtain ⟨A,hle,B,d,q,f_u17⟩:=q.freeze d B C
 replace f_u12:=f_u12.less hle
 clear hle
 refine SG.textR [ob (.pointer (some ⟨b5,0,none⟩)) (.box w0.heap.size 69 zA5 x15.2),ob (.pointer (some ⟨b2_0,0,none⟩)) (.box w0.heap.size 27 zA2 (0,(([]:List zA3),([]:List zA4))))] (rA::rR u12::rR (.pointer (some ⟨b5,0,none⟩))::rR u17::⟨_,true,[1],some (.box w0.heap.size 27 zA2 x10.1),false,fun A=>.any⟩::rR u17::[]) 6 Z Z Z (by kernel_rfl) (by kernel_rfl) (Wf.mk' (by kernel_rfl) (ua (ur (ur (ur (ua (ur (UAll.nil))))))) (by kernel_rfl) (by kernel_rfl)) q d (⟨⟨Z,Z,Z,N⟩,⟨⟨Z,Z,Z,h8⟩,⟨⟨Z,Z,Z,h9⟩,⟨⟨Z,Z,Z,h10⟩,N⟩⟩⟩⟩) ?_ ?_
 exact rc (OblR.took 1 _ _ Z Z Z Z Z fun V Q U O D u X Y J L M=>by have a0:Q 2=(.pointer (some ⟨b2_0,0,none⟩)):=(O.old 2 Z).trans h2;have a1:Q 8=u12:=D.g 0 Z;have ra1:=(f_u12.stp O.stp).eq a1;exact zBX ra1 a0 (J _ Z) X Y (FldS.id _) sizeOf27 Z)<|ra<|rz
 intro done ρ σ A R w y s
 replace h2:=k1 s.rg h2
 have z18:=s.inivR 0 Z
 have z19:=s.inivR 1 Z
 have z20:=s.on y 6 4 Z Z Z Z Z z19
 have h3:=s.r y 5 Z
 replace f_u17:=f_u17.stp s.stp
 obtain ⟨B,j,d⟩:=s.s B C j q ⟨Z,⟨Z,N⟩⟩
 replace q:=s.left y [(6,ob (.pointer (some ⟨b2_0,0,none⟩)) (.box w0.heap.size 27 zA2 x10.1))] ⟨Z,Z,z20,Z,Z,N⟩
 refine zPa Z ?_
 refine HT.ret ?_
 obtain rfl:=si c
 obtain ⟨v_2,e_2,p_2⟩:=zHX (q.ok 0 _ Z).1 h2 isAgg27 sizeOf27 B
 exact ⟨.inr Z,[v_2,R 3],⟨e_2,⟨Z,N⟩⟩,⟨_,_,Z,p_2,(f_u17.eq h3).down B⟩,j⟩
def zBA (fu : Nat) (p0 : List zA3) : Nat -> Int -> Option (Ex Bool Unit)
 | 0,_=>none
 | k+1,y4=>
 bif (decide (y4<(p0.length:Int))) then (
 ck (inR y4 p0.length) <|
 ck (!((true&&((decide (((gtD p0 y4).2)<1))==false))&&((decide (0<y4))==true)) || i64B (y4-1)) <|
 ck (!((true&&((decide (((gtD p0 y4).2)<1))==false))&&((decide (0<y4))==true)) || inR (y4-1) p0.length) <|
 bd ((decide (0<y4))&&(!(bLt ((gtD p0 (y4-1)).1) ((gtD p0 y4).1)))) fun x11=>
 bd ((decide (((gtD p0 y4).2)<1)) || x11) fun x13=>
 bif x13 then (
 some (Ex.ret false)
 ) else (
 ck (i64B (y4+1)) <|
 zBA fu p0 k (y4+1)
 )
 ) else (
 some (Ex.go ())
 )
def zCt (fu:Nat) (p0:List zA3):Option Bool:=
 cl true (zBA fu p0 fu 0) fun rl1=>
 exM rl1 (fun r=>some r) fun s3=>
 some true
theorem zGA {fu : Nat} {A0 : Av} {p0 : List zA3} {r : Bool} (c : zCt fu p0 = some r) {w : World} {v0 : Value} (d : AvOK A0 w) (h0 : Rep (eSl zA0) A0 w v0 p0) :
 Calls prog 43 #[v0] w fun e w'=>∃ v,e=.returned v/\(v=.bool r/\Fr w w'):=by
 unfold zCt at c
 obtain ⟨w0,hw0,j,C⟩:=pw d
 have hA00:AvOK A0 w0:=C
 rw [fw hw0]
 obtain ⟨A,hAe,B,d,q⟩:=pa d
 refine zAB [.tmp 2] func43 ntmps43 (by decide) Z Z (nb Z) ?_
 intro R hR
 have f_v0:Rep (eSl zA0) A w v0 p0:=hAe ▸ h0
 replace h0:R 0=v0:=hR 0 _ Z
 refine zPR d j (eB false::[]) ?_ ?_
 exact op (fun Q U W H D=>zA6 Z)<|oz
 intro R w m n p d j
 replace h0:=k1 n h0
 replace f_v0:=f_v0.fr m
 replace q:=q.fr m
 refine zPQ ?_
 refine zPR d j (eR v0::eI (p0.length:Int)::eI 0::[]) ?_ ?_
 exact om h0<|op (fun Q U W H D=>zAN (aT:=#[]) ((f_v0.fr W).eq (D.g 0 Z)) underlying24)<|op (fun Q U W H D=>zBI Z)<|oz
 intro R w m n p d j
 replace h0:=k1 n h0
 have h5:=p.r 0 Z
 have h6:=p.r 1 Z
 have h7:=p.r 2 Z
 replace f_v0:=f_v0.fr m
 replace q:=q.fr m
 obtain ⟨rl1,q2,c⟩:=zA9 c
 replace q2:=q2 Z
 refine zPL (fun R w=>∃ A:Av,∃ (s3:Unit),rl1=Ex.go s3/\AvOK A w/\Fr w0 w/\(∀ b o,A0 b o->A b o)/\IniOK [] A w) ?_ ?_
 refine HT.block<|zPP (fun k R w=>∃ A:Av,∃ (y4:Int),zBA fu p0 k y4=some rl1/\AvOK A w/\Fr w0 w/\(∀ b o,A0 b o->A b o)/\IniOK [] A w/\R 0=v0/\R 5=v0/\R 6=.int .i64 (p0.length:Int)/\R 7=.int .i64 y4/\Rep (eSl zA0) A w v0 p0) fu ⟨_,_,q2,d,j,B,q,h0,h5,h6,h7,f_v0⟩ ?_
 have hr0:=c;clear c q2
 rintro k R w ⟨A,y4,c,d,j,B,q,h0,h5,h6,h7,f_v0⟩
 rcases k with _ | k
 cases (show none=some _ from c)
 rw [zBA] at c
 refine zPR d j (eB (decide (y4<(p0.length:Int)))::[]) ?_ ?_
 exact op (fun Q U W H D=>zB8 ((H 7 Z).trans h7) ((H 6 Z).trans h6))<|oz
 intro R w m n p d j
 obtain ⟨h0,h5,h6,h7⟩:=k4 n h0 h5 h6 h7
 have h8:=p.r 0 Z
 replace f_v0:=f_v0.fr m
 replace q:=q.fr m
 refine zPQ ?_
 refine zPJ (decide (y4<(p0.length:Int))) h8 (fun c5=>?_) (fun c5=>?_)
 have c:=zAe c5 c
 refine HT.skip<|zPQ ?_
 refine HT.block ?_
 obtain ⟨e6,c⟩:=zAG c
 refine zPS [] (rI y4::(rF fun A=>.qtr zA0 A (gtD p0 y4))::(rF fun A=>.rep zA0 A (gtD p0 y4))::⟨_,true,[],some (.box w0.heap.size 83 zA0 (([]:List UInt8),0)),true,fun A=>.any⟩::rI y4::⟨_,true,[3],some (.box w0.heap.size 83 zA0 (gtD p0 y4)),false,fun A=>.any⟩::[]) (ur (UAll.cons zCM (up (ua (ur (ua (UAll.nil))))))) q d ?_ ?_
 exact rm h7<|rp (fun V Q U O D=>zAC ((f_v0.stp O.stp).eq ((O.old 5 Z).trans h5)) ((O.old 7 Z).trans h7) underlying24 sizeOf83 e6)<|rp (fun V Q U O D=>(zAT (QRep.ptr (D.g 0 Z)) isAgg83 sizeOf83))<|rc (OblR.made _ Z Z Z Z fun V Q U O D=>by exact zCI zeroValue83 (fun A w=>zCo (zII Z (by decide)) zAm) (Nat.le_trans j.size O.ch.size))<|ra<|rc (OblR.took 3 _ _ Z Z Z Z Z fun V Q U O D u X Y J L M=>by have a1:Rep zA0 V U (Q 11) (gtD p0 y4):=D.g 1 Z;obtain ⟨b,hb,hB',hbx⟩:=X;have hop':=L _ _ Z Z Z Z;exact zBX a1 (hop'.symm.trans hb) hb ⟨b,hb,hB',hbx⟩ Y (FldS.id _) sizeOf83 Z)<|rz
 intro done ρ σ A R w y s
 obtain ⟨h0,h5,h6,h7⟩:=k4 s.rg h0 h5 h6 h7
 obtain ⟨b4_6,e_b4_6⟩:=s.boxv y 5 Z Z
 have z8:=(s.opnR y 5 5 Z Z Z Z Z).symm.trans e_b4_6
 have h4:=s.ov y 3 3 z8
 have h3:=s.r y 4 Z
 replace f_v0:=f_v0.stp s.stp
 obtain ⟨B,j,d⟩:=s.s B C j q N
 replace q:=s.left y [(5,ob (.pointer (some ⟨b4_6,0,none⟩)) (.box w0.heap.size 83 zA0 (gtD p0 y4)))] ⟨Z,Z,e_b4_6,Z,Z,N⟩
 refine zPQ ?_
 obtain ⟨e9,e10,c⟩:=ck2 c
 obtain ⟨x11,q12,c⟩:=zAO c
 obtain ⟨x13,q14,c⟩:=zAO c
 refine zPM (by kernel_rfl) (l:=eR (.pointer (some ⟨b4_6,1,none⟩))::eI ((gtD p0 y4).2)::eB (decide (((gtD p0 y4).2)<1))::eB (decide (((gtD p0 y4).2)<1))::gI (true&&((decide (((gtD p0 y4).2)<1))==false)) y4::gB (true&&((decide (((gtD p0 y4).2)<1))==false)) (decide (0<y4))::gB (true&&((decide (((gtD p0 y4).2)<1))==false)) (decide (0<y4))::gR ((true&&((decide (((gtD p0 y4).2)<1))==false))&&((decide (0<y4))==true)) v0::gI ((true&&((decide (((gtD p0 y4).2)<1))==false))&&((decide (0<y4))==true)) y4::gI ((true&&((decide (((gtD p0 y4).2)<1))==false))&&((decide (0<y4))==true)) (y4-1)::gF ((true&&((decide (((gtD p0 y4).2)<1))==false))&&((decide (0<y4))==true)) (.qtr zA0 A (gtD p0 (y4-1)))::gF ((true&&((decide (((gtD p0 y4).2)<1))==false))&&((decide (0<y4))==true)) (.qtr eStr A ((gtD p0 (y4-1)).1))::gF ((true&&((decide (((gtD p0 y4).2)<1))==false))&&((decide (0<y4))==true)) (.rep eStr A ((gtD p0 (y4-1)).1))::gR ((true&&((decide (((gtD p0 y4).2)<1))==false))&&((decide (0<y4))==true)) (.pointer (some ⟨b4_6,0,none⟩))::gF ((true&&((decide (((gtD p0 y4).2)<1))==false))&&((decide (0<y4))==true)) (.rep eStr A ((gtD p0 y4).1))::gB ((true&&((decide (((gtD p0 y4).2)<1))==false))&&((decide (0<y4))==true)) (!(bLt ((gtD p0 (y4-1)).1) ((gtD p0 y4).1)))::gB (true&&((decide (((gtD p0 y4).2)<1))==false)) x11::eB x13::[]) (tl:=[]) (by kernel_rfl) (by kernel_rfl) (by kernel_rfl) (by kernel_rfl) ?_ ?_
 exact op (fun Q U W H D=>zA8 ((H 4 Z).trans h4) zHh sizeOf3 (by decide) Z)<|op (fun Q U W H D=>OpF.int (zAA ((q.fr W).ok 0 _ Z).1 (D.g 0 Z) zCi Z isAgg3 sizeOf3))<|op (fun Q U W H D=>zB8 (D.g 0 Z) Z)<|ov<|gm 3 false h3<|og 3 false (fun G Q U W H D=>zEH (D.h 0 G Z) Z)<|og 3 false (fun G Q U W H D=>zBI (D.h 0 G Z))<|gm 6 true h0<|gm 6 true h3<|og 6 true (fun G Q U W H D=>zDf (D.h 0 G Z) Z (gd e9 G))<|og 6 true (fun G Q U W H D=>zAC ((f_v0.fr W).eq (D.h 0 G Z)) (D.h 1 G Z) underlying24 sizeOf83 (gd e10 G))<|og 6 true (fun G Q U W H D=>zAX (qt (D.h 0 G Z)) zHt sizeOf9 (by decide) zCE Z)<|og 6 true (fun G Q U W H D=>(zAT (QRep.ptr (D.h 0 G Z)) isAgg9 sizeOf9))<|og 6 true (fun G Q U W H D=>zA8 ((H 4 Z).trans h4) zHt sizeOf9 (by decide) Z)<|og 6 true (fun G Q U W H D=>(zAA ((q.fr W).ok 0 _ Z).1 (D.h 0 G Z) zCE Z isAgg9 sizeOf9))<|og 6 true (fun G Q U W H D=>zJn (D.h 0 G Z) (D.h 1 G Z))<|og 3 false (fun G Q U W H D=>zAR (decide (0<y4)) (D.h 0 G Z) (fun hc=>by have a1:Q 27=.bool (!(bLt ((gtD p0 (y4-1)).1) ((gtD p0 y4).1))):=D 1 _ _ _ Z Z Z Z (zBJ G (zAf hc));show _=Value.bool x11;rw [q12,hc];exact a1) (fun hc=>by show _=Value.bool x11;rw [q12,hc];exact Z))<|op (fun Q U W H D=>zAR (decide (((gtD p0 y4).2)<1)) (D.g 0 Z) (fun hc=>by show _=Value.bool x13;rw [q14,hc];exact Z) (fun hc=>by have a2:Q 28=.bool x11:=D 1 _ _ _ Z Z Z Z (zBJ Z (zAf hc));show _=Value.bool x13;rw [q14,hc];exact a2))<|oz
 intro R w m n p
 obtain ⟨h0,h5,h6,h7⟩:=k4 n h0 h5 h6 h7
 have h29:=p.r 17 Z
 replace f_v0:=f_v0.fr m
 replace q:=q.fr m
 replace q:IniOK [] A w:=q.sub [] N
 replace d:=d.fr m.size
 replace j:=j.trans m
 refine zPJ x13 h29 (fun c15=>?_) (fun c15=>?_)
 have c:=zAe c15 c
 refine zPR d j (eB false::[]) ?_ ?_
 exact op (fun Q U W H D=>zA6 Z)<|oz
 intro R w m n p d j
 have h2:=p.r 0 Z
 replace q:=q.fr m
 refine HT.ret ?_
 obtain rfl:=si c
 have c:=hr0
 replace c:some _=some _:=c
 obtain rfl:=si c
 exact ⟨.inr Z,[R 2],⟨Z,N⟩,h2,j⟩
 have c:=zAd c15 c
 refine HT.skip ?_
 obtain ⟨e16,c⟩:=zAG c
 refine HT.u d j (eI (y4+1)::eI (y4+1)::[]) ?_ ?_
 exact op (fun Q U W H D=>zAi ((H 7 Z).trans h7) Z e16)<|ov<|oz
 intro R w m n p d j
 obtain ⟨h0,h5,h6⟩:=k3 n h0 h5 h6
 have h7:=p.r 1 Z
 replace f_v0:=f_v0.fr m
 replace q:=q.fr m
 exact ei k (And.intro (Nat.lt_succ_self k) ⟨_,_,c,d,j,B,q,h0,h5,h6,h7,f_v0⟩)
 have c:=zAd c5 c
 refine zPO ?_
 obtain rfl:=si c
 exact ei _ ⟨_,Z,d,j,B,q⟩
 rintro R w ⟨A,s3,rfl,d,j,B,q⟩
 have c:=zEK c
 refine zPR d j (eB true::[]) ?_ ?_
 exact op (fun Q U W H D=>zA6 Z)<|oz
 intro R w m n p d j
 have h2:=p.r 0 Z
 replace q:=q.fr m
 refine HT.ret ?_
 obtain rfl:=si c
 exact ⟨.inr Z,[R 2],⟨Z,N⟩,h2,j⟩
def zDH (fu:Nat) (p0:Int) (p1:Int) (p2:Int):Option Bool:=
 bd ((decide (p1<=p0))&&(decide (p0<=p2))) fun x1=>
 some x1
theorem zE5 {fu : Nat} {A : Av} {p0 : Int} {p1 : Int} {p2 : Int} {r : Bool} (c : zDH fu p0 p1 p2 = some r) {w : World} {v0 : Value} {v1 : Value} {v2 : Value} (d : AvOK A w) (h0 : v0=.int .i64 p0) (h1 : v1=.int .i64 p1) (h2 : v2=.int .i64 p2) :
 Calls prog 25 #[v0,v1,v2] w fun e w'=>∃ v,e=.returned v/\(v=.bool r/\Fr w w'):=by
 unfold zDH at c
 obtain ⟨w0,hw0,j⟩:=pf w
 rw [fw hw0]
 refine zAB [.tmp 6] func25 ntmps25 (by decide) Z Z (nb Z) ?_
 intro R hR
 replace h0:R 0=.int .i64 p0:=(hR 0 _ Z).trans h0
 replace h1:R 1=.int .i64 p1:=(hR 1 _ Z).trans h1
 replace h2:R 2=.int .i64 p2:=(hR 2 _ Z).trans h2
 refine zPR d j (eB false::[]) ?_ ?_
 exact op (fun Q U W H D=>zA6 Z)<|oz
 intro R w m n p d j
 obtain ⟨h0,h1,h2⟩:=k3 n h0 h1 h2
 refine zPQ ?_
 obtain ⟨x1,q2,c⟩:=zAO c
 refine HT.u d j (eI p0::eI p1::eB (decide (p1<=p0))::eB (decide (p1<=p0))::gI (true&&((decide (p1<=p0))==true)) p0::gI (true&&((decide (p1<=p0))==true)) p2::gB (true&&((decide (p1<=p0))==true)) (decide (p0<=p2))::eB x1::eB x1::[]) ?_ ?_
 exact om h0<|om h1<|op (fun Q U W H D=>zFI (D.g 0 Z) (D.g 1 Z))<|ov<|gm 3 true h0<|gm 3 true h2<|og 3 true (fun G Q U W H D=>zGL (D.h 0 G Z) (D.h 1 G Z))<|op (fun Q U W H D=>zAR (decide (p1<=p0)) (D.g 0 Z) (fun hc=>by have a1:Q 13=.bool (decide (p0<=p2)):=D 1 _ _ _ Z Z Z Z (zBJ Z (zAf hc));show _=Value.bool x1;rw [q2,hc];exact a1) (fun hc=>by show _=Value.bool x1;rw [q2,hc];exact Z))<|oa<|oz
 intro R w m n p d j
 have h6:=p.r 8 Z
 refine HT.ret ?_
 obtain rfl:=si c
 exact ⟨.inr Z,[R 6],⟨Z,N⟩,h6,j⟩
def zBs (fu:Nat) (p0:Int):Option Bool:=
 cl true (zDH fu p0 1 1000) fun x1=>
 some x1
theorem zDj {fu : Nat} {A : Av} {p0 : Int} {r : Bool} (c : zBs fu p0 = some r) {w : World} {v0 : Value} (d : AvOK A w) (h0 : v0=.int .i64 p0) :
 Calls prog 44 #[v0] w fun e w'=>∃ v,e=.returned v/\(v=.bool r/\Fr w w'):=by
 unfold zBs at c
 obtain ⟨w0,hw0,j⟩:=pf w
 rw [fw hw0]
 refine zAB [.tmp 2] func44 ntmps44 (by decide) Z Z (nb Z) ?_
 intro R hR
 replace h0:R 0=.int .i64 p0:=(hR 0 _ Z).trans h0
 refine zPR d j (eB false::[]) ?_ ?_
 exact op (fun Q U W H D=>zA6 Z)<|oz
 intro R w m n p d j
 replace h0:=k1 n h0
 obtain ⟨x1,q2,c⟩:=zA9 c
 refine zPR d j (eI p0::eB x1::eB x1::[]) ?_ ?_
 exact om h0<|op (fun Q U W H D=>zAM call25 (zE5 (q2 Z) (d.fr W.size) (D.g 0 Z) Z Z))<|oa<|oz
 intro R w m n p d j
 have h2:=p.r 2 Z
 refine HT.ret ?_
 obtain rfl:=si c
 exact ⟨.inr Z,[R 2],⟨Z,N⟩,h2,j⟩
def zCl (fu:Nat) (p0:Int):Option Bool:=
 cl true (zDH fu p0 0 999) fun x1=>
 some x1
theorem zEh {fu : Nat} {A : Av} {p0 : Int} {r : Bool} (c : zCl fu p0 = some r) {w : World} {v0 : Value} (d : AvOK A w) (h0 : v0=.int .i64 p0) :
 Calls prog 36 #[v0] w fun e w'=>∃ v,e=.returned v/\(v=.bool r/\Fr w w'):=by
 unfold zCl at c
 obtain ⟨w0,hw0,j⟩:=pf w
 rw [fw hw0]
 refine zAB [.tmp 2] func36 ntmps36 (by decide) Z Z (nb Z) ?_
 intro R hR
 replace h0:R 0=.int .i64 p0:=(hR 0 _ Z).trans h0
 refine zPR d j (eB false::[]) ?_ ?_
 exact op (fun Q U W H D=>zA6 Z)<|oz
 intro R w m n p d j
 replace h0:=k1 n h0
 obtain ⟨x1,q2,c⟩:=zA9 c
 refine zPR d j (eI p0::eB x1::eB x1::[]) ?_ ?_
 exact om h0<|op (fun Q U W H D=>zAM call25 (zE5 (q2 Z) (d.fr W.size) (D.g 0 Z) Z Z))<|oa<|oz
 intro R w m n p d j
 have h2:=p.r 2 Z
 refine HT.ret ?_
 obtain rfl:=si c
 exact ⟨.inr Z,[R 2],⟨Z,N⟩,h2,j⟩
def zEp (fu:Nat) (p0:Int):Option Bool:=
 bd ((decide (97<=p0))&&(decide (p0<=122))) fun x1=>
 some x1
theorem zHm {fu : Nat} {A : Av} {p0 : Int} {r : Bool} (c : zEp fu p0 = some r) {w : World} {v0 : Value} (d : AvOK A w) (h0 : v0=.int .u8 p0) :
 Calls prog 75 #[v0] w fun e w'=>∃ v,e=.returned v/\(v=.bool r/\Fr w w'):=by
 unfold zEp at c
 obtain ⟨w0,hw0,j⟩:=pf w
 rw [fw hw0]
 refine zAB [.tmp 2] func75 ntmps75 (by decide) Z Z (nb Z) ?_
 intro R hR
 replace h0:R 0=.int .u8 p0:=(hR 0 _ Z).trans h0
 refine zPR d j (eB false::[]) ?_ ?_
 exact op (fun Q U W H D=>zA6 Z)<|oz
 intro R w m n p d j
 replace h0:=k1 n h0
 refine zPQ ?_
 obtain ⟨x1,q2,c⟩:=zAO c
 refine HT.u d j (eU p0::eB (decide (97<=p0))::eB (decide (97<=p0))::gU (true&&((decide (97<=p0))==true)) p0::gB (true&&((decide (97<=p0))==true)) (decide (p0<=122))::eB x1::eB x1::[]) ?_ ?_
 exact om h0<|op (fun Q U W H D=>zFI (D.g 0 Z) Z)<|ov<|gm 2 true h0<|og 2 true (fun G Q U W H D=>zGL (D.h 0 G Z) Z)<|op (fun Q U W H D=>zAR (decide (97<=p0)) (D.g 0 Z) (fun hc=>by have a1:Q 7=.bool (decide (p0<=122)):=D 1 _ _ _ Z Z Z Z (zBJ Z (zAf hc));show _=Value.bool x1;rw [q2,hc];exact a1) (fun hc=>by show _=Value.bool x1;rw [q2,hc];exact Z))<|oa<|oz
 intro R w m n p d j
 have h2:=p.r 6 Z
 refine HT.ret ?_
 obtain rfl:=si c
 exact ⟨.inr Z,[R 2],⟨Z,N⟩,h2,j⟩
def zEq (fu:Nat) (p0:Int):Option Bool:=
 bd ((decide (48<=p0))&&(decide (p0<=57))) fun x1=>
 some x1
theorem zHp {fu : Nat} {A : Av} {p0 : Int} {r : Bool} (c : zEq fu p0 = some r) {w : World} {v0 : Value} (d : AvOK A w) (h0 : v0=.int .u8 p0) :
 Calls prog 76 #[v0] w fun e w'=>∃ v,e=.returned v/\(v=.bool r/\Fr w w'):=by
 unfold zEq at c
 obtain ⟨w0,hw0,j⟩:=pf w
 rw [fw hw0]
 refine zAB [.tmp 2] func76 ntmps76 (by decide) Z Z (nb Z) ?_
 intro R hR
 replace h0:R 0=.int .u8 p0:=(hR 0 _ Z).trans h0
 refine zPR d j (eB false::[]) ?_ ?_
 exact op (fun Q U W H D=>zA6 Z)<|oz
 intro R w m n p d j
 replace h0:=k1 n h0
 refine zPQ ?_
 obtain ⟨x1,q2,c⟩:=zAO c
 refine HT.u d j (eU p0::eB (decide (48<=p0))::eB (decide (48<=p0))::gU (true&&((decide (48<=p0))==true)) p0::gB (true&&((decide (48<=p0))==true)) (decide (p0<=57))::eB x1::eB x1::[]) ?_ ?_
 exact om h0<|op (fun Q U W H D=>zFI (D.g 0 Z) Z)<|ov<|gm 2 true h0<|og 2 true (fun G Q U W H D=>zGL (D.h 0 G Z) Z)<|op (fun Q U W H D=>zAR (decide (48<=p0)) (D.g 0 Z) (fun hc=>by have a1:Q 7=.bool (decide (p0<=57)):=D 1 _ _ _ Z Z Z Z (zBJ Z (zAf hc));show _=Value.bool x1;rw [q2,hc];exact a1) (fun hc=>by show _=Value.bool x1;rw [q2,hc];exact Z))<|oa<|oz
 intro R w m n p d j
 have h2:=p.r 6 Z
 refine HT.ret ?_
 obtain rfl:=si c
 exact ⟨.inr Z,[R 2],⟨Z,N⟩,h2,j⟩
def zBE (fu : Nat) (p0 : List UInt8) : Nat -> Int -> Option (Ex Bool Unit)
 | 0,_=>none
 | k+1,y4=>
 bif (decide (y4<(p0.length:Int))) then (
 ck (inR y4 p0.length) <|
 cl true (zEp fu (bAt p0 y4)) fun x7=>
 ck (!(true&&((!x7)==true)) || inR y4 p0.length) <|
 cl (true&&((!x7)==true)) (zEq fu (bAt p0 y4)) fun x10=>
 bd ((!x7)&&(!x10)) fun x12=>
 bif x12 then (
 some (Ex.ret false)
 ) else (
 ck (i64B (y4+1)) <|
 zBE fu p0 k (y4+1)
 )
 ) else (
 some (Ex.go ())
 )
def zCa (fu:Nat) (p0:List UInt8):Option Bool:=
 cl true (zBE fu p0 fu 0) fun rl1=>
 exM rl1 (fun r=>some r) fun s3=>
 some true
theorem zFW {fu : Nat} {A : Av} {p0 : List UInt8} {r : Bool} (c : zCa fu p0 = some r) {w : World} {v0 : Value} (d : AvOK A w) (h0 : Rep eStr A w v0 p0) :
 Calls prog 50 #[v0] w fun e w'=>∃ v,e=.returned v/\(v=.bool r/\Fr w w'):=by
 unfold zCa at c
 obtain ⟨w0,hw0,j⟩:=pf w
 rw [fw hw0]
 refine zAB [.tmp 2] func50 ntmps50 (by decide) Z Z (nb Z) ?_
 intro R hR
 have f_v0:=h0
 replace h0:R 0=v0:=hR 0 _ Z
 refine zPR d j (eB false::[]) ?_ ?_
 exact op (fun Q U W H D=>zA6 Z)<|oz
 intro R w m n p d j
 replace h0:=k1 n h0
 replace f_v0:=f_v0.fr m
 refine zPQ ?_
 refine zPR d j (eR v0::eI (p0.length:Int)::eI 0::[]) ?_ ?_
 exact om h0<|op (fun Q U W H D=>zHi ((f_v0.fr W).eq (D.g 0 Z)) underlying9)<|op (fun Q U W H D=>zBI Z)<|oz
 intro R w m n p d j
 replace h0:=k1 n h0
 have h5:=p.r 1 Z
 have h6:=p.r 2 Z
 replace f_v0:=f_v0.fr m
 obtain ⟨rl1,q2,c⟩:=zA9 c
 replace q2:=q2 Z
 refine zPL (fun R w=>∃ (s3:Unit),rl1=Ex.go s3/\AvOK A w/\Fr w0 w) ?_ ?_
 refine HT.block<|zPP (fun k R w=>∃ (y4:Int),zBE fu p0 k y4=some rl1/\AvOK A w/\Fr w0 w/\R 0=v0/\R 5=.int .i64 (p0.length:Int)/\R 6=.int .i64 y4/\Rep eStr A w v0 p0) fu ⟨_,q2,d,j,h0,h5,h6,f_v0⟩ ?_
 have hr0:=c;clear c q2
 rintro k R w ⟨y4,c,d,j,h0,h5,h6,f_v0⟩
 rcases k with _ | k
 cases (show none=some _ from c)
 rw [zBE] at c
 refine zPR d j (eB (decide (y4<(p0.length:Int)))::[]) ?_ ?_
 exact op (fun Q U W H D=>zB8 ((H 6 Z).trans h6) ((H 5 Z).trans h5))<|oz
 intro R w m n p d j
 obtain ⟨h0,h5,h6⟩:=k3 n h0 h5 h6
 have h7:=p.r 0 Z
 replace f_v0:=f_v0.fr m
 refine zPQ ?_
 refine zPJ (decide (y4<(p0.length:Int))) h7 (fun c5=>?_) (fun c5=>?_)
 have c:=zAe c5 c
 refine HT.skip<|zPQ ?_
 refine HT.block<|zPR d j (eI y4::eI y4::[]) ?_ ?_
 exact om h6<|oa<|oz
 intro R w m n p d j
 obtain ⟨h0,h5,h6⟩:=k3 n h0 h5 h6
 have h3:=p.r 1 Z
 replace f_v0:=f_v0.fr m
 refine zPQ ?_
 obtain ⟨e6,c⟩:=zAG c
 obtain ⟨x7,q8,c⟩:=zA9 c
 obtain ⟨e9,c⟩:=zAG c
 obtain ⟨x10,q11,c⟩:=zA9 c
 obtain ⟨x12,q13,c⟩:=zAO c
 refine HT.u d j (eR v0::eI y4::eU (bAt p0 y4)::eB x7::eB (!x7)::eB (!x7)::gR (true&&((!x7)==true)) v0::gI (true&&((!x7)==true)) y4::gU (true&&((!x7)==true)) (bAt p0 y4)::gB (true&&((!x7)==true)) x10::gB (true&&((!x7)==true)) (!x10)::eB x12::[]) ?_ ?_
 exact om h0<|om h3<|op (fun Q U W H D=>zFg ((f_v0.fr W).eq (D.g 0 Z)) (D.g 1 Z) underlying9 e6)<|op (fun Q U W H D=>zAM call75 (zHm (q8 Z) (d.fr W.size) (D.g 0 Z)))<|op (fun Q U W H D=>zBY (D.g 0 Z))<|ov<|gm 5 true h0<|gm 5 true h3<|og 5 true (fun G Q U W H D=>zFg ((f_v0.fr W).eq (D.h 0 G Z)) (D.h 1 G Z) underlying9 (gd e9 G))<|og 5 true (fun G Q U W H D=>zAM call76 (zHp (q11 G) (d.fr W.size) (D.h 0 G Z)))<|og 5 true (fun G Q U W H D=>zBY (D.h 0 G Z))<|op (fun Q U W H D=>zAR (!x7) (D.g 0 Z) (fun hc=>by have a1:Q 19=.bool (!x10):=D 1 _ _ _ Z Z Z Z (zBJ Z (zAf hc));show _=Value.bool x12;rw [q13,hc];exact a1) (fun hc=>by show _=Value.bool x12;rw [q13,hc];exact Z))<|oz
 intro R w m n p d j
 obtain ⟨h0,h5,h6⟩:=k3 n h0 h5 h6
 have h20:=p.r 11 Z
 replace f_v0:=f_v0.fr m
 refine zPJ x12 h20 (fun c14=>?_) (fun c14=>?_)
 have c:=zAe c14 c
 refine zPR d j (eB false::[]) ?_ ?_
 exact op (fun Q U W H D=>zA6 Z)<|oz
 intro R w m n p d j
 have h2:=p.r 0 Z
 refine HT.ret ?_
 obtain rfl:=si c
 have c:=hr0
 replace c:some _=some _:=c
 obtain rfl:=si c
 exact ⟨.inr Z,[R 2],⟨Z,N⟩,h2,j⟩
 have c:=zAd c14 c
 refine HT.skip ?_
 obtain ⟨e15,c⟩:=zAG c
 refine HT.u d j (eI (y4+1)::eI (y4+1)::[]) ?_ ?_
 exact op (fun Q U W H D=>zAi ((H 6 Z).trans h6) Z e15)<|ov<|oz
 intro R w m n p d j
 obtain ⟨h0,h5⟩:=k2 n h0 h5
 have h6:=p.r 1 Z
 replace f_v0:=f_v0.fr m
 exact ei k (And.intro (Nat.lt_succ_self k) ⟨_,c,d,j,h0,h5,h6,f_v0⟩)
 have c:=zAd c5 c
 refine zPO ?_
 obtain rfl:=si c
 exact ei _ ⟨Z,d,j⟩
 rintro R w ⟨s3,rfl,d,j⟩
 have c:=zEK c
 refine zPR d j (eB true::[]) ?_ ?_
 exact op (fun Q U W H D=>zA6 Z)<|oz
 intro R w m n p d j
 have h2:=p.r 0 Z
 refine HT.ret ?_
 obtain rfl:=si c
 exact ⟨.inr Z,[R 2],⟨Z,N⟩,h2,j⟩
def zBU (fu : Nat) (p0 : List (List UInt8)) : Nat -> Int -> Option (Ex Bool Unit)
 | 0,_=>none
 | k+1,y4=>
 bif (decide (y4<(p0.length:Int))) then (
 ck (inR y4 p0.length) <|
 cl (true&&(((gtD p0 y4)==([]:List UInt8))==false)) (zCa fu (gtD p0 y4)) fun x8=>
 bd (((gtD p0 y4)==([]:List UInt8)) || (!x8)) fun x10=>
 ck (!((true&&(x10==false))&&((decide (0<y4))==true)) || i64B (y4-1)) <|
 ck (!((true&&(x10==false))&&((decide (0<y4))==true)) || inR (y4-1) p0.length) <|
 bd ((decide (0<y4))&&(!(bLt (gtD p0 (y4-1)) (gtD p0 y4)))) fun x14=>
 bd (x10 || x14) fun x16=>
 bif x16 then (
 some (Ex.ret false)
 ) else (
 ck (i64B (y4+1)) <|
 zBU fu p0 k (y4+1)
 )
 ) else (
 some (Ex.go ())
 )
def zBP (fu:Nat) (p0:List (List UInt8)):Option Bool:=
 cl true (zBU fu p0 fu 0) fun rl1=>
 exM rl1 (fun r=>some r) fun s3=>
 some true
theorem zCH {fu : Nat} {A : Av} {p0 : List (List UInt8)} {r : Bool} (c : zBP fu p0 = some r) {w : World} {v0 : Value} (d : AvOK A w) (h0 : Rep (eSl eStr) A w v0 p0) :
 Calls prog 22 #[v0] w fun e w'=>∃ v,e=.returned v/\(v=.bool r/\Fr w w'):=by
 unfold zBP at c
 obtain ⟨w0,hw0,j⟩:=pf w
 rw [fw hw0]
 refine zAB [.tmp 2] func22 ntmps22 (by decide) Z Z (nb Z) ?_
 intro R hR
 have f_v0:=h0
 replace h0:R 0=v0:=hR 0 _ Z
 refine zPR d j (eB false::[]) ?_ ?_
 exact op (fun Q U W H D=>zA6 Z)<|oz
 intro R w m n p d j
 replace h0:=k1 n h0
 replace f_v0:=f_v0.fr m
 refine zPQ ?_
 refine zPR d j (eR v0::eI (p0.length:Int)::eI 0::[]) ?_ ?_
 exact om h0<|op (fun Q U W H D=>zAN (aT:=#[]) ((f_v0.fr W).eq (D.g 0 Z)) underlying28)<|op (fun Q U W H D=>zBI Z)<|oz
 intro R w m n p d j
 replace h0:=k1 n h0
 have h5:=p.r 0 Z
 have h6:=p.r 1 Z
 have h7:=p.r 2 Z
 replace f_v0:=f_v0.fr m
 obtain ⟨rl1,q2,c⟩:=zA9 c
 replace q2:=q2 Z
 refine zPL (fun R w=>∃ (s3:Unit),rl1=Ex.go s3/\AvOK A w/\Fr w0 w) ?_ ?_
 refine HT.block<|zPP (fun k R w=>∃ (y4:Int),zBU fu p0 k y4=some rl1/\AvOK A w/\Fr w0 w/\R 0=v0/\R 5=v0/\R 6=.int .i64 (p0.length:Int)/\R 7=.int .i64 y4/\Rep (eSl eStr) A w v0 p0) fu ⟨_,q2,d,j,h0,h5,h6,h7,f_v0⟩ ?_
 have hr0:=c;clear c q2
 rintro k R w ⟨y4,c,d,j,h0,h5,h6,h7,f_v0⟩
 rcases k with _ | k
 cases (show none=some _ from c)
 rw [zBU] at c
 refine zPR d j (eB (decide (y4<(p0.length:Int)))::[]) ?_ ?_
 exact op (fun Q U W H D=>zB8 ((H 7 Z).trans h7) ((H 6 Z).trans h6))<|oz
 intro R w m n p d j
 obtain ⟨h0,h5,h6,h7⟩:=k4 n h0 h5 h6 h7
 have h8:=p.r 0 Z
 replace f_v0:=f_v0.fr m
 refine zPQ ?_
 refine zPJ (decide (y4<(p0.length:Int))) h8 (fun c5=>?_) (fun c5=>?_)
 have c:=zAe c5 c
 refine HT.skip<|zPQ ?_
 refine HT.block ?_
 obtain ⟨e6,c⟩:=zAG c
 refine zPR d j (eI y4::eF (.qtr eStr A (gtD p0 y4))::eF (.rep eStr A (gtD p0 y4))::eI y4::eF (.rep eStr A (gtD p0 y4))::[]) ?_ ?_
 exact om h7<|op (fun Q U W H D=>zAC ((f_v0.fr W).eq ((H 5 Z).trans h5)) ((H 7 Z).trans h7) underlying28 sizeOf9 e6)<|op (fun Q U W H D=>(zAT (QRep.ptr (D.g 0 Z)) isAgg9 sizeOf9))<|oa<|op (fun Q U W H D=>zA6 (D.g 0 Z))<|oz
 intro R w m n p d j
 obtain ⟨h0,h5,h6,h7⟩:=k4 n h0 h5 h6 h7
 have h3:=p.r 3 Z
 obtain ⟨u7,h4,f_u7⟩:∃ u,R 4=u/\Rep eStr A w u (gtD p0 y4):=⟨_,Z,p 4 _ _ Z Z Z⟩
 replace f_v0:=f_v0.fr m
 refine zPQ ?_
 obtain ⟨x8,q9,c⟩:=zA9 c
 obtain ⟨x10,q11,c⟩:=zAO c
 obtain ⟨e12,e13,c⟩:=ck2 c
 obtain ⟨x14,q15,c⟩:=zAO c
 obtain ⟨x16,q17,c⟩:=zAO c
 refine HT.u d j (eR u7::eB ((gtD p0 y4)==([]:List UInt8))::eB ((gtD p0 y4)==([]:List UInt8))::gR (true&&(((gtD p0 y4)==([]:List UInt8))==false)) u7::gB (true&&(((gtD p0 y4)==([]:List UInt8))==false)) x8::gB (true&&(((gtD p0 y4)==([]:List UInt8))==false)) (!x8)::eB x10::eB x10::gI (true&&(x10==false)) y4::gB (true&&(x10==false)) (decide (0<y4))::gB (true&&(x10==false)) (decide (0<y4))::gR ((true&&(x10==false))&&((decide (0<y4))==true)) v0::gI ((true&&(x10==false))&&((decide (0<y4))==true)) y4::gI ((true&&(x10==false))&&((decide (0<y4))==true)) (y4-1)::gF ((true&&(x10==false))&&((decide (0<y4))==true)) (.qtr eStr A (gtD p0 (y4-1)))::gF ((true&&(x10==false))&&((decide (0<y4))==true)) (.rep eStr A (gtD p0 (y4-1)))::gR ((true&&(x10==false))&&((decide (0<y4))==true)) u7::gB ((true&&(x10==false))&&((decide (0<y4))==true)) (!(bLt (gtD p0 (y4-1)) (gtD p0 y4)))::gB (true&&(x10==false)) x14::eB x16::[]) ?_ ?_
 exact om h4<|op (fun Q U W H D=>zFc ((f_u7.fr W).eq (D.g 0 Z)) ⟨_,Z,⟨_,Z,Z,by decide⟩⟩)<|ov<|gm 2 false h4<|og 2 false (fun G Q U W H D=>zAM call50 (zFW (q9 G) (d.fr W.size) ((f_u7.fr W).eq (D.h 0 G Z))))<|og 2 false (fun G Q U W H D=>zBY (D.h 0 G Z))<|op (fun Q U W H D=>zAR ((gtD p0 y4)==([]:List UInt8)) (D.g 0 Z) (fun hc=>by show _=Value.bool x10;rw [q11,hc];exact Z) (fun hc=>by have a2:Q 17=.bool (!x8):=D 1 _ _ _ Z Z Z Z (zBJ Z (zAf hc));show _=Value.bool x10;rw [q11,hc];exact a2))<|ov<|gm 7 false h3<|og 7 false (fun G Q U W H D=>zEH (D.h 0 G Z) Z)<|og 7 false (fun G Q U W H D=>zBI (D.h 0 G Z))<|gm 10 true h0<|gm 10 true h3<|og 10 true (fun G Q U W H D=>zDf (D.h 0 G Z) Z (gd e12 G))<|og 10 true (fun G Q U W H D=>zAC ((f_v0.fr W).eq (D.h 0 G Z)) (D.h 1 G Z) underlying28 sizeOf9 (gd e13 G))<|og 10 true (fun G Q U W H D=>(zAT (QRep.ptr (D.h 0 G Z)) isAgg9 sizeOf9))<|gm 10 true h4<|og 10 true (fun G Q U W H D=>zJn (D.h 0 G Z) ((f_u7.fr W).eq (D.h 1 G Z)))<|og 7 false (fun G Q U W H D=>zAR (decide (0<y4)) (D.h 0 G Z) (fun hc=>by have a1:Q 29=.bool (!(bLt (gtD p0 (y4-1)) (gtD p0 y4))):=D 1 _ _ _ Z Z Z Z (zBJ G (zAf hc));show _=Value.bool x14;rw [q15,hc];exact a1) (fun hc=>by show _=Value.bool x14;rw [q15,hc];exact Z))<|op (fun Q U W H D=>zAR x10 (D.g 0 Z) (fun hc=>by show _=Value.bool x16;rw [q17,hc];exact Z) (fun hc=>by have a2:Q 30=.bool x14:=D 1 _ _ _ Z Z Z Z (zBJ Z (zAf hc));show _=Value.bool x16;rw [q17,hc];exact a2))<|oz
 intro R w m n p d j
 obtain ⟨h0,h5,h6,h7⟩:=k4 n h0 h5 h6 h7
 have h31:=p.r 19 Z
 replace f_v0:=f_v0.fr m
 refine zPJ x16 h31 (fun c18=>?_) (fun c18=>?_)
 have c:=zAe c18 c
 refine zPR d j (eB false::[]) ?_ ?_
 exact op (fun Q U W H D=>zA6 Z)<|oz
 intro R w m n p d j
 have h2:=p.r 0 Z
 refine HT.ret ?_
 obtain rfl:=si c
 have c:=hr0
 replace c:some _=some _:=c
 obtain rfl:=si c
 exact ⟨.inr Z,[R 2],⟨Z,N⟩,h2,j⟩
 have c:=zAd c18 c
 refine HT.skip ?_
 obtain ⟨e19,c⟩:=zAG c
 refine HT.u d j (eI (y4+1)::eI (y4+1)::[]) ?_ ?_
 exact op (fun Q U W H D=>zAi ((H 7 Z).trans h7) Z e19)<|ov<|oz
 intro R w m n p d j
 obtain ⟨h0,h5,h6⟩:=k3 n h0 h5 h6
 have h7:=p.r 1 Z
 replace f_v0:=f_v0.fr m
 exact ei k (And.intro (Nat.lt_succ_self k) ⟨_,c,d,j,h0,h5,h6,h7,f_v0⟩)
 have c:=zAd c5 c
 refine zPO ?_
 obtain rfl:=si c
 exact ei _ ⟨Z,d,j⟩
 rintro R w ⟨s3,rfl,d,j⟩
 have c:=zEK c
 refine zPR d j (eB true::[]) ?_ ?_
 exact op (fun Q U W H D=>zA6 Z)<|oz
 intro R w m n p d j
 have h2:=p.r 0 Z
 refine HT.ret ?_
 obtain rfl:=si c
 exact ⟨.inr Z,[R 2],⟨Z,N⟩,h2,j⟩
def zAu (fu : Nat) (p0 : zA7) : Nat -> Int -> Option (Ex Bool Unit)
 | 0,_=>none
 | k+1,y15=>
 bif (decide (y15<(p0.2.2.length:Int))) then (
 ck (inR y15 p0.2.2.length) <|
 cl true (zCl fu ((gtD p0.2.2 y15).1)) fun x21=>
 cl (true&&((!x21)==false)) (zBP fu ((gtD p0.2.2 y15).2)) fun x23=>
 bd ((!x21) || (!x23)) fun x25=>
 ck (!((true&&(x25==false))&&((decide (0<y15))==true)) || i64B (y15-1)) <|
 ck (!((true&&(x25==false))&&((decide (0<y15))==true)) || inR (y15-1) p0.2.2.length) <|
 bd ((decide (0<y15))&&(decide (((gtD p0.2.2 y15).1)<=((gtD p0.2.2 (y15-1)).1)))) fun x29=>
 bd (x25 || x29) fun x31=>
 bif x31 then (
 some (Ex.ret false)
 ) else (
 ck (i64B (y15+1)) <|
 zAu fu p0 k (y15+1)
 )
 ) else (
 some (Ex.go ())
 )
def zAh (fu:Nat) (p0:zA7):Option Bool:=
 cl true (zCt fu p0.2.1) fun x2=>
 cl (true&&((!x2)==false)) (zBs fu p0.1) fun x4=>
 bd ((!x2) || (!x4)) fun x6=>
 bd (x6 || (decide (12<(p0.2.2.length:Int)))) fun x8=>
 bif x8 then (
 some false
 ) else (
 cl true (zAu fu p0 fu 0) fun rl12=>
 exM rl12 (fun r=>some r) fun s14=>
 some true
 )
theorem zBR {fu : Nat} {A0 : Av} {p0 : zA7} {r : Bool} (c : zAh fu p0 = some r) {w : World} {v0 : Value} (d : AvOK A0 w) (h0 : Rep zA2 A0 w v0 p0) :
 Calls prog 18 #[v0] w fun e w'=>∃ v,e=.returned v/\(v=.bool r/\Fr w w'):=by
 unfold zAh at c
 obtain ⟨w0,hw0,j,C⟩:=pw d
 have hA00:AvOK A0 w0:=C
 rw [fw hw0]
 obtain ⟨A,hAe,B,d,q⟩:=pa d
 refine zAB [.tmp 2] func18 ntmps18 (by decide) Z Z (nb Z) ?_
 intro R hR
 have f_v0:Rep zA2 A w v0 p0:=hAe ▸ h0
 replace h0:R 0=v0:=hR 0 _ Z
 refine zPS [] (⟨_,true,[],some (.box w0.heap.size 27 zA2 p0),true,fun A=>.any⟩::rB false::[]) (ua (ur (UAll.nil))) q d ?_ ?_
 exact rc (OblR.made _ Z Z Z Z fun V Q U O D=>by have a0:Q 0=v0:=(O.old 0 Z).trans h0;have ra0:=(f_v0.stp O.stp).eq a0;exact zD0 ra0 (Nat.le_trans j.size O.ch.size))<|rp (fun V Q U O D=>zA6 Z)<|rz
 intro done ρ σ A R w y s
 obtain ⟨b1_0,e_b1_0⟩:=s.boxv y 0 Z Z
 have h1:=s.ov y 0 0 e_b1_0
 obtain ⟨B,j,d⟩:=s.s B C j q N
 replace q:=s.left y [(0,ob (.pointer (some ⟨b1_0,0,none⟩)) (.box w0.heap.size 27 zA2 p0))] ⟨Z,Z,e_b1_0,Z,Z,N⟩
 refine zPQ ?_
 refine zPQ ?_
 obtain ⟨x2,q3,c⟩:=zA9 c
 obtain ⟨x4,q5,c⟩:=zA9 c
 obtain ⟨x6,q7,c⟩:=zAO c
 obtain ⟨x8,q9,c⟩:=zAO c
 refine HT.u d j (eR (.pointer (some ⟨b1_0,1,none⟩))::eF (.rep (eSl zA0) A p0.2.1)::eB x2::eB (!x2)::eB (!x2)::gR (true&&((!x2)==false)) (.pointer (some ⟨b1_0,0,none⟩))::gI (true&&((!x2)==false)) p0.1::gB (true&&((!x2)==false)) x4::gB (true&&((!x2)==false)) (!x4)::eB x6::eB x6::gR (true&&(x6==false)) (.pointer (some ⟨b1_0,2,none⟩))::gF (true&&(x6==false)) (.rep (eSl zA1) A p0.2.2)::gI (true&&(x6==false)) (p0.2.2.length:Int)::gB (true&&(x6==false)) (decide (12<(p0.2.2.length:Int)))::eB x8::[]) ?_ ?_
 exact op (fun Q U W H D=>zA8 ((H 1 Z).trans h1) zIR sizeOf24 (by decide) Z)<|op (fun Q U W H D=>(zAA ((q.fr W).ok 0 _ Z).1 (D.g 0 Z) zDI Z isAgg24 sizeOf24))<|op (fun Q U W H D=>zAM call43 (zGA (q3 Z) (d.fr W.size) (D.g 0 Z)))<|op (fun Q U W H D=>zBY (D.g 0 Z))<|ov<|og 4 false (fun G Q U W H D=>zA8 ((H 1 Z).trans h1) zF0 sizeOf3 (by decide) Z)<|og 4 false (fun G Q U W H D=>OpF.int (zAA ((q.fr W).ok 0 _ Z).1 (D.h 0 G Z) zB4 Z isAgg3 sizeOf3))<|og 4 false (fun G Q U W H D=>zAM call44 (zDj (q5 G) (d.fr W.size) (D.h 0 G Z)))<|og 4 false (fun G Q U W H D=>zBY (D.h 0 G Z))<|op (fun Q U W H D=>zAR (!x2) (D.g 0 Z) (fun hc=>by show _=Value.bool x6;rw [q7,hc];exact Z) (fun hc=>by have a2:Q 13=.bool (!x4):=D 1 _ _ _ Z Z Z Z (zBJ Z (zAf hc));show _=Value.bool x6;rw [q7,hc];exact a2))<|ov<|og 10 false (fun G Q U W H D=>zA8 ((H 1 Z).trans h1) zAv sizeOf25 (by decide) Z)<|og 10 false (fun G Q U W H D=>(zAA ((q.fr W).ok 0 _ Z).1 (D.h 0 G Z) zAJ Z isAgg25 sizeOf25))<|og 10 false (fun G Q U W H D=>zAN (aT:=#[]) (D.h 0 G Z) underlying25)<|og 10 false (fun G Q U W H D=>zEH (D.h 0 G Z) Z)<|op (fun Q U W H D=>zAR x6 (D.g 0 Z) (fun hc=>by show _=Value.bool x8;rw [q9,hc];exact Z) (fun hc=>by have a2:Q 19=.bool (decide (12<(p0.2.2.length:Int))):=D 1 _ _ _ Z Z Z Z (zBJ Z (zAf hc));show _=Value.bool x8;rw [q9,hc];exact a2))<|oz
 intro R w m n p d j
 replace h1:=k1 n h1
 have h20:=p.r 15 Z
 replace q:=q.fr m
 refine zPJ x8 h20 (fun c10=>?_) (fun c10=>?_)
 have c:=zAe c10 c
 refine zPR d j (eB false::[]) ?_ ?_
 exact op (fun Q U W H D=>zA6 Z)<|oz
 intro R w m n p d j
 have h2:=p.r 0 Z
 replace q:=q.fr m
 replace q:IniOK [] A w:=q.sub [] N
 refine HT.ret ?_
 obtain rfl:=si c
 exact ⟨.inr Z,[R 2],⟨Z,N⟩,h2,j⟩
 have c:=zAd c10 c
 refine HT.skip<|zPQ ?_
 refine zPR d j (eR (.pointer (some ⟨b1_0,2,none⟩))::eF (.rep (eSl zA1) A p0.2.2)::eI (p0.2.2.length:Int)::eI 0::[]) ?_ ?_
 exact op (fun Q U W H D=>zA8 ((H 1 Z).trans h1) zAv sizeOf25 (by decide) Z)<|op (fun Q U W H D=>(zAA ((q.fr W).ok 0 _ Z).1 (D.g 0 Z) zAJ Z isAgg25 sizeOf25))<|op (fun Q U W H D=>zAN (aT:=#[]) (D.g 0 Z) underlying25)<|op (fun Q U W H D=>zBI Z)<|oz
 intro R w m n p d j
 replace h1:=k1 n h1
 obtain ⟨u11,h22,f_u11⟩:∃ u,R 22=u/\Rep (eSl zA1) A w u p0.2.2:=⟨_,Z,p 1 _ _ Z Z Z⟩
 have h23:=p.r 2 Z
 have h24:=p.r 3 Z
 replace q:=q.fr m
 obtain ⟨rl12,q13,c⟩:=zA9 c
 replace q13:=q13 Z
 refine zPL (fun R w=>∃ A:Av,∃ (s14:Unit),rl12=Ex.go s14/\AvOK A w/\Fr w0 w/\(∀ b o,A0 b o->A b o)/\IniOK [] A w) ?_ ?_
 refine HT.block<|zPP (fun k R w=>∃ A:Av,∃ (y15:Int),zAu fu p0 k y15=some rl12/\AvOK A w/\Fr w0 w/\(∀ b o,A0 b o->A b o)/\IniOK [ob (.pointer (some ⟨b1_0,0,none⟩)) (.box w0.heap.size 27 zA2 p0)] A w/\R 1=(.pointer (some ⟨b1_0,0,none⟩))/\R 22=u11/\R 23=.int .i64 (p0.2.2.length:Int)/\R 24=.int .i64 y15/\Rep (eSl zA1) A w u11 p0.2.2) fu ⟨_,_,q13,d,j,B,q,h1,h22,h23,h24,f_u11⟩ ?_
 have hr0:=c;clear c q13
 rintro k R w ⟨A,y15,c,d,j,B,q,h1,h22,h23,h24,f_u11⟩
 rcases k with _ | k
 cases (show none=some _ from c)
 rw [zAu] at c
 refine zPR d j (eB (decide (y15<(p0.2.2.length:Int)))::[]) ?_ ?_
 exact op (fun Q U W H D=>zB8 ((H 24 Z).trans h24) ((H 23 Z).trans h23))<|oz
 intro R w m n p d j
 obtain ⟨h1,h22,h23,h24⟩:=k4 n h1 h22 h23 h24
 have h25:=p.r 0 Z
 replace f_u11:=f_u11.fr m
 replace q:=q.fr m
 refine zPQ ?_
 refine zPJ (decide (y15<(p0.2.2.length:Int))) h25 (fun c16=>?_) (fun c16=>?_)
 have c:=zAe c16 c
 refine HT.skip<|zPQ ?_
 refine HT.block ?_
 obtain ⟨e17,c⟩:=zAG c
 refine zPS [ob (.pointer (some ⟨b1_0,0,none⟩)) (.box w0.heap.size 27 zA2 p0)] (rI y15::(rF fun A=>.qtr zA1 A (gtD p0.2.2 y15))::(rF fun A=>.rep zA1 A (gtD p0.2.2 y15))::⟨_,true,[],some (.box w0.heap.size 54 zA1 (0,([]:List (List UInt8)))),true,fun A=>.any⟩::rI y15::⟨_,true,[4],some (.box w0.heap.size 54 zA1 (gtD p0.2.2 y15)),false,fun A=>.any⟩::[]) (ur (UAll.cons zCM (up (ua (ur (ua (UAll.nil))))))) q d ?_ ?_
 exact rm h24<|rp (fun V Q U O D=>zAC ((f_u11.stp O.stp).eq ((O.old 22 Z).trans h22)) ((O.old 24 Z).trans h24) underlying25 sizeOf54 e17)<|rp (fun V Q U O D=>(zAT (QRep.ptr (D.g 0 Z)) isAgg54 sizeOf54))<|rc (OblR.made _ Z Z Z Z fun V Q U O D=>by exact zCI zeroValue54 (fun A w=>zCo zAm zBD) (Nat.le_trans j.size O.ch.size))<|ra<|rc (OblR.took 4 _ _ Z Z Z Z Z fun V Q U O D u X Y J L M=>by have a1:Rep zA1 V U (Q 28) (gtD p0.2.2 y15):=D.g 1 Z;obtain ⟨b,hb,hB',hbx⟩:=X;have hop':=L _ _ Z Z Z Z;exact zBX a1 (hop'.symm.trans hb) hb ⟨b,hb,hB',hbx⟩ Y (FldS.id _) sizeOf54 Z)<|rz
 intro done ρ σ A R w y s
 obtain ⟨h1,h22,h23,h24⟩:=k4 s.rg h1 h22 h23 h24
 have z18:=s.inivR 0 Z
 obtain ⟨b4_18,e_b4_18⟩:=s.boxv y 6 Z Z
 have z20:=(s.opnR y 6 5 Z Z Z Z Z).symm.trans e_b4_18
 have h4:=s.ov y 4 3 z20
 have h3:=s.r y 4 Z
 replace f_u11:=f_u11.stp s.stp
 obtain ⟨B,j,d⟩:=s.s B C j q ⟨Z,N⟩
 replace q:=s.left y [(0,ob (.pointer (some ⟨b1_0,0,none⟩)) (.box w0.heap.size 27 zA2 p0)),(6,ob (.pointer (some ⟨b4_18,0,none⟩)) (.box w0.heap.size 54 zA1 (gtD p0.2.2 y15)))] ⟨Z,Z,z18,Z,Z,⟨Z,Z,e_b4_18,Z,Z,N⟩⟩
 refine zPQ ?_
 obtain ⟨x21,q22,c⟩:=zA9 c
 obtain ⟨x23,q24,c⟩:=zA9 c
 obtain ⟨x25,q26,c⟩:=zAO c
 obtain ⟨e27,e28,c⟩:=ck2 c
 obtain ⟨x29,q30,c⟩:=zAO c
 obtain ⟨x31,q32,c⟩:=zAO c
 refine zPM (by kernel_rfl) (l:=eR (.pointer (some ⟨b4_18,0,none⟩))::eI ((gtD p0.2.2 y15).1)::eB x21::eB (!x21)::eB (!x21)::gR (true&&((!x21)==false)) (.pointer (some ⟨b4_18,1,none⟩))::gF (true&&((!x21)==false)) (.rep (eSl eStr) A ((gtD p0.2.2 y15).2))::gB (true&&((!x21)==false)) x23::gB (true&&((!x21)==false)) (!x23)::eB x25::eB x25::gI (true&&(x25==false)) y15::gB (true&&(x25==false)) (decide (0<y15))::gB (true&&(x25==false)) (decide (0<y15))::gR ((true&&(x25==false))&&((decide (0<y15))==true)) (.pointer (some ⟨b1_0,2,none⟩))::gF ((true&&(x25==false))&&((decide (0<y15))==true)) (.rep (eSl zA1) A p0.2.2)::gI ((true&&(x25==false))&&((decide (0<y15))==true)) y15::gI ((true&&(x25==false))&&((decide (0<y15))==true)) (y15-1)::gF ((true&&(x25==false))&&((decide (0<y15))==true)) (.qtr zA1 A (gtD p0.2.2 (y15-1)))::gF ((true&&(x25==false))&&((decide (0<y15))==true)) (.qtr (eInt .i64) A ((gtD p0.2.2 (y15-1)).1))::gI ((true&&(x25==false))&&((decide (0<y15))==true)) ((gtD p0.2.2 (y15-1)).1)::gR ((true&&(x25==false))&&((decide (0<y15))==true)) (.pointer (some ⟨b4_18,0,none⟩))::gI ((true&&(x25==false))&&((decide (0<y15))==true)) ((gtD p0.2.2 y15).1)::gB ((true&&(x25==false))&&((decide (0<y15))==true)) (decide (((gtD p0.2.2 y15).1)<=((gtD p0.2.2 (y15-1)).1)))::gB (true&&(x25==false)) x29::eB x31::[]) (tl:=[]) (by kernel_rfl) (by kernel_rfl) (by kernel_rfl) (by kernel_rfl) ?_ ?_
 exact op (fun Q U W H D=>zA8 ((H 4 Z).trans h4) zDc sizeOf3 (by decide) Z)<|op (fun Q U W H D=>OpF.int (zAA ((q.fr W).ok 1 _ Z).1 (D.g 0 Z) zAU Z isAgg3 sizeOf3))<|op (fun Q U W H D=>zAM call36 (zEh (q22 Z) (d.fr W.size) (D.g 0 Z)))<|op (fun Q U W H D=>zBY (D.g 0 Z))<|ov<|og 4 false (fun G Q U W H D=>zA8 ((H 4 Z).trans h4) zEi sizeOf28 (by decide) Z)<|og 4 false (fun G Q U W H D=>(zAA ((q.fr W).ok 1 _ Z).1 (D.h 0 G Z) zAg Z isAgg28 sizeOf28))<|og 4 false (fun G Q U W H D=>zAM call22 (zCH (q24 G) (d.fr W.size) (D.h 0 G Z)))<|og 4 false (fun G Q U W H D=>zBY (D.h 0 G Z))<|op (fun Q U W H D=>zAR (!x21) (D.g 0 Z) (fun hc=>by show _=Value.bool x25;rw [q26,hc];exact Z) (fun hc=>by have a2:Q 37=.bool (!x23):=D 1 _ _ _ Z Z Z Z (zBJ Z (zAf hc));show _=Value.bool x25;rw [q26,hc];exact a2))<|ov<|gm 10 false h3<|og 10 false (fun G Q U W H D=>zEH (D.h 0 G Z) Z)<|og 10 false (fun G Q U W H D=>zBI (D.h 0 G Z))<|og 13 true (fun G Q U W H D=>zA8 ((H 1 Z).trans h1) zAv sizeOf25 (by decide) Z)<|og 13 true (fun G Q U W H D=>(zAA ((q.fr W).ok 0 _ Z).1 (D.h 0 G Z) zAJ Z isAgg25 sizeOf25))<|gm 13 true h3<|og 13 true (fun G Q U W H D=>zDf (D.h 0 G Z) Z (gd e27 G))<|og 13 true (fun G Q U W H D=>zAC (D.h 0 G Z) (D.h 1 G Z) underlying25 sizeOf54 (gd e28 G))<|og 13 true (fun G Q U W H D=>zAX (qt (D.h 0 G Z)) zDc sizeOf3 (by decide) zAU Z)<|og 13 true (fun G Q U W H D=>OpF.int (zAT (QRep.ptr (D.h 0 G Z)) isAgg3 sizeOf3))<|og 13 true (fun G Q U W H D=>zA8 ((H 4 Z).trans h4) zDc sizeOf3 (by decide) Z)<|og 13 true (fun G Q U W H D=>OpF.int (zAA ((q.fr W).ok 1 _ Z).1 (D.h 0 G Z) zAU Z isAgg3 sizeOf3))<|og 13 true (fun G Q U W H D=>zFI (D.h 0 G Z) (D.h 1 G Z))<|og 10 false (fun G Q U W H D=>zAR (decide (0<y15)) (D.h 0 G Z) (fun hc=>by have a1:Q 52=.bool (decide (((gtD p0.2.2 y15).1)<=((gtD p0.2.2 (y15-1)).1))):=D 1 _ _ _ Z Z Z Z (zBJ G (zAf hc));show _=Value.bool x29;rw [q30,hc];exact a1) (fun hc=>by show _=Value.bool x29;rw [q30,hc];exact Z))<|op (fun Q U W H D=>zAR x25 (D.g 0 Z) (fun hc=>by show _=Value.bool x31;rw [q32,hc];exact Z) (fun hc=>by have a2:Q 53=.bool x29:=D 1 _ _ _ Z Z Z Z (zBJ Z (zAf hc));show _=Value.bool x31;rw [q32,hc];exact a2))<|oz
 intro R w m n p
 obtain ⟨h1,h22,h23,h24⟩:=k4 n h1 h22 h23 h24
 have h54:=p.r 25 Z
 replace f_u11:=f_u11.fr m
 replace q:=q.fr m
 replace q:IniOK [ob (.pointer (some ⟨b1_0,0,none⟩)) (.box w0.heap.size 27 zA2 p0)] A w:=q.sub [(0,ob (.pointer (some ⟨b1_0,0,none⟩)) (.box w0.heap.size 27 zA2 p0))] ⟨Z,Z,N⟩
 replace d:=d.fr m.size
 replace j:=j.trans m
 refine zPJ x31 h54 (fun c33=>?_) (fun c33=>?_)
 have c:=zAe c33 c
 refine zPR d j (eB false::[]) ?_ ?_
 exact op (fun Q U W H D=>zA6 Z)<|oz
 intro R w m n p d j
 have h2:=p.r 0 Z
 replace q:=q.fr m
 replace q:IniOK [] A w:=q.sub [] N
 refine HT.ret ?_
 obtain rfl:=si c
 have c:=hr0
 replace c:some _=some _:=c
 obtain rfl:=si c
 exact ⟨.inr Z,[R 2],⟨Z,N⟩,h2,j⟩
 have c:=zAd c33 c
 refine HT.skip ?_
 obtain ⟨e34,c⟩:=zAG c
 refine HT.u d j (eI (y15+1)::eI (y15+1)::[]) ?_ ?_
 exact op (fun Q U W H D=>zAi ((H 24 Z).trans h24) Z e34)<|ov<|oz
 intro R w m n p d j
 obtain ⟨h1,h22,h23⟩:=k3 n h1 h22 h23
 have h24:=p.r 1 Z
 replace f_u11:=f_u11.fr m
 replace q:=q.fr m
 exact ei k (And.intro (Nat.lt_succ_self k) ⟨_,_,c,d,j,B,q,h1,h22,h23,h24,f_u11⟩)
 have c:=zAd c16 c
 refine zPO ?_
 obtain rfl:=si c
 replace q:IniOK [] A w:=q.sub [] N
 exact ei _ ⟨_,Z,d,j,B,q⟩
 rintro R w ⟨A,s14,rfl,d,j,B,q⟩
 have c:=zEK c
 refine zPR d j (eB true::[]) ?_ ?_
 exact op (fun Q U W H D=>zA6 Z)<|oz
 intro R w m n p d j
 have h2:=p.r 0 Z
 replace q:=q.fr m
 refine HT.ret ?_
 obtain rfl:=si c
 exact ⟨.inr Z,[R 2],⟨Z,N⟩,h2,j⟩
def zCV (fu:Nat) (p0:Int):Option Bool:=
 cl true (zDH fu p0 0 1000) fun x1=>
 some x1
theorem zE7 {fu : Nat} {A : Av} {p0 : Int} {r : Bool} (c : zCV fu p0 = some r) {w : World} {v0 : Value} (d : AvOK A w) (h0 : v0=.int .i64 p0) :
 Calls prog 23 #[v0] w fun e w'=>∃ v,e=.returned v/\(v=.bool r/\Fr w w'):=by
 unfold zCV at c
 obtain ⟨w0,hw0,j⟩:=pf w
 rw [fw hw0]
 refine zAB [.tmp 2] func23 ntmps23 (by decide) Z Z (nb Z) ?_
 intro R hR
 replace h0:R 0=.int .i64 p0:=(hR 0 _ Z).trans h0
 refine zPR d j (eB false::[]) ?_ ?_
 exact op (fun Q U W H D=>zA6 Z)<|oz
 intro R w m n p d j
 replace h0:=k1 n h0
 obtain ⟨x1,q2,c⟩:=zA9 c
 refine zPR d j (eI p0::eB x1::eB x1::[]) ?_ ?_
 exact om h0<|op (fun Q U W H D=>zAM call25 (zE5 (q2 Z) (d.fr W.size) (D.g 0 Z) Z Z))<|oa<|oz
 intro R w m n p d j
 have h2:=p.r 2 Z
 refine HT.ret ?_
 obtain rfl:=si c
 exact ⟨.inr Z,[R 2],⟨Z,N⟩,h2,j⟩
def zEr (fu:Nat) (p0:Int) (p1:Int):Option Int:=
 ck (i64B (p0+p1)) <|
 ck (i64B ((p0+p1)-1)) <|
 ck (p1 != 0) <|
 ck (i64B (((p0+p1)-1).tdiv p1)) <|
 some (((p0+p1)-1).tdiv p1)
theorem zHd {fu : Nat} {A : Av} {p0 : Int} {p1 : Int} {r : Int} (c : zEr fu p0 p1 = some r) {w : World} {v0 : Value} {v1 : Value} (d : AvOK A w) (h0 : v0=.int .i64 p0) (h1 : v1=.int .i64 p1) :
 Calls prog 51 #[v0,v1] w fun e w'=>∃ v,e=.returned v/\(v=.int .i64 r/\Fr w w'):=by
 unfold zEr at c
 obtain ⟨w0,hw0,j⟩:=pf w
 rw [fw hw0]
 refine zAB [.tmp 4] func51 ntmps51 (by decide) Z Z (nb Z) ?_
 intro R hR
 replace h0:R 0=.int .i64 p0:=(hR 0 _ Z).trans h0
 replace h1:R 1=.int .i64 p1:=(hR 1 _ Z).trans h1
 refine zPR d j (eI 0::[]) ?_ ?_
 exact op (fun Q U W H D=>zA6 Z)<|oz
 intro R w m n p d j
 obtain ⟨h0,h1⟩:=k2 n h0 h1
 obtain ⟨e1,e2,e3,e4,c⟩:=ck4 c
 refine zPR d j (eI p0::eI p1::eI (p0+p1)::eI ((p0+p1)-1)::eI p1::eI (((p0+p1)-1).tdiv p1)::eI (((p0+p1)-1).tdiv p1)::[]) ?_ ?_
 exact om h0<|om h1<|op (fun Q U W H D=>zAi (D.g 0 Z) (D.g 1 Z) e1)<|op (fun Q U W H D=>zDf (D.g 0 Z) Z e2)<|om h1<|op (fun Q U W H D=>zLd (D.g 0 Z) (D.g 1 Z) e3 e4)<|oa<|oz
 intro R w m n p d j
 have h4:=p.r 6 Z
 refine HT.ret ?_
 obtain rfl:=si c
 exact ⟨.inr Z,[R 4],⟨Z,N⟩,h4,j⟩
end Go.Proofs.YtmgiijdejigdhaaGreat
