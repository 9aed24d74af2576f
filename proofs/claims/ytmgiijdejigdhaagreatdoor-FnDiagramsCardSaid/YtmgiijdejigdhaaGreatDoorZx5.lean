/- Own texts laid together. No statement of the seat is proved here. -/
import Derived.Test.YtmgiijdejigdhaaGreatDoorZx4
import Derived.BigRegion
import Derived.LoopTactic
import Derived.OwnWalk
namespace Go.Proofs.YtmgiijdejigdhaaGreatDoor
open Go.RowKit
set_option linter.unusedVariables false
open _root_.Go.Proofs.Tryz
set_option maxRecDepth 100000
set_option maxHeartbeats 4000000
def zBL (fu : Nat) (p0 : zAD) (y6 : Int) : Nat -> Int -> Option (Ex Bool Unit)
 | 0,_=>none
 | k+1,y19=>
 bif (decide (y19<((gtD p0 y6).length:Int))) then (
 ck (inR y19 (gtD p0 y6).length) <|
 cl true (zCg fu ((gtD (gtD p0 y6) y19).1)) fun x26=>
 cl (true&&((!x26)==false)) (zD1 fu ((gtD (gtD p0 y6) y19).2.1)) fun x28=>
 bd ((!x26) || (!x28)) fun x30=>
 ck (!((true&&(x30==false))&&((decide (0<y19))==true)) || i64B (y19-1)) <|
 ck (!((true&&(x30==false))&&((decide (0<y19))==true)) || inR (y19-1) (gtD p0 y6).length) <|
 bd ((decide (0<y19))&&(decide (((gtD (gtD p0 y6) y19).1)<=((gtD (gtD p0 y6) (y19-1)).1)))) fun x34=>
 bd (x30 || x34) fun x36=>
 bif x36 then (
 some (Ex.ret false)
 ) else (
 ck (i64B (y19+1)) <|
 zBL fu p0 y6 k (y19+1)
 )
 ) else (
 some (Ex.go ())
 )
def zBz (fu : Nat) (p0 : zAD) : Nat -> Int -> Option (Ex Bool Unit)
 | 0,_=>none
 | k+1,y6=>
 bif (decide (y6<(p0.length:Int))) then (
 ck (inR y6 p0.length) <|
 cl true (zCa fu ((gtD p0 y6).length:Int) 1 3) fun x12=>
 bif (!x12) then (
 some (Ex.ret false)
 ) else (
 cl true (zBL fu p0 y6 fu 0) fun rl16=>
 exM rl16 (fun r=>some (Ex.ret r)) fun s18=>
 ck (i64B (y6+1)) <|
 zBz fu p0 k (y6+1)
 )
 ) else (
 some (Ex.go ())
 )
def zCO (fu:Nat) (p0:zAD):Option Bool:=
 cl true (zBz fu p0 fu 0) fun rl3=>
 exM rl3 (fun r=>some r) fun s5=>
 cl true (zCa fu (p0.length:Int) 1 3) fun x41=>
 some x41
theorem zDz {fu : Nat} {A0 : Av} {p0 : zAD} {r : Bool} (c : zCO fu p0 = some r) {w : World} {v0 : Value} (d : AvOK A0 w) (h0 : Rep zA2 A0 w v0 p0) :
 Calls prog 25 #[v0] w fun e w'=>∃ v,e=.returned v/\(v=.bool r/\Fr w w'):=by
 unfold zCO at c
 obtain ⟨w0,hw0,j,C⟩:=pw d
 have hA00:AvOK A0 w0:=C
 rw [fw hw0]
 obtain ⟨A,hAe,B,d,q⟩:=pa d
 refine zAE [.tmp 2] func25 ntmps25 (by decide) Z Z (nb Z) ?_
 intro R hR
 have f_v0:Rep zA2 A w v0 p0:=hAe ▸ h0
 replace h0:R 0=v0:=hR 0 _ Z
 refine zQ2 [] (⟨_,true,[],some (.box w0.heap.size 26 zA2 p0),true,fun A=>.any⟩::rB false::[]) (ua (ur (UAll.nil))) q d ?_ ?_
 exact rc (OblR.made _ Z Z Z Z fun V Q U O D=>by have a0:Q 0=v0:=(O.old 0 Z).trans h0;have ra0:=(f_v0.stp O.stp).eq a0;exact zAx ra0 (Nat.le_trans j.size O.ch.size))<|rp (fun V Q U O D=>zA9 Z)<|rz
 intro done ρ σ A R w y s
 obtain ⟨b1_0,e_b1_0⟩:=s.boxv y 0 Z Z
 have h1:=s.ov y 0 0 e_b1_0
 obtain ⟨B,j,d⟩:=s.s B C j q N
 replace q:=s.left y [(0,ob (.pointer (some ⟨b1_0,0,none⟩)) (.box w0.heap.size 26 zA2 p0))] ⟨Z,Z,e_b1_0,Z,Z,N⟩
 refine zQ0 ?_
 refine zQ1 d j (eR (.pointer (some ⟨b1_0,0,none⟩))::eF (.rep (eSl zAF) A p0)::eI (p0.length:Int)::eI 0::[]) ?_ ?_
 exact op (fun Q U W H D=>zA6 ((H 1 Z).trans h1) zCh sizeOf24 (by decide) Z)<|op (fun Q U W H D=>(zA7 ((q.fr W).ok 0 _ Z).1 (D.g 0 Z) zAd Z isAgg24 sizeOf24))<|op (fun Q U W H D=>zAY (aT:=#[]) (D.g 0 Z) underlying24)<|op (fun Q U W H D=>zBd Z)<|oz
 intro R w m n p d j
 replace h1:=k1 n h1
 obtain ⟨u2,h8,f_u2⟩:∃ u,R 8=u/\Rep (eSl zAF) A w u p0:=⟨_,Z,p 1 _ _ Z Z Z⟩
 have h9:=p.r 2 Z
 have h10:=p.r 3 Z
 replace q:=q.fr m
 obtain ⟨rl3,q4,c⟩:=zAB c
 replace q4:=q4 Z
 refine zPv (fun R w=>∃ A:Av,∃ (s5:Unit),rl3=Ex.go s5/\AvOK A w/\Fr w0 w/\(∀ b o,A0 b o->A b o)/\IniOK [ob (.pointer (some ⟨b1_0,0,none⟩)) (.box w0.heap.size 26 zA2 p0)] A w/\R 1=(.pointer (some ⟨b1_0,0,none⟩))) ?_ ?_
 refine HT.block<|zPz (fun k R w=>∃ A:Av,∃ (y6:Int),zBz fu p0 k y6=some rl3/\AvOK A w/\Fr w0 w/\(∀ b o,A0 b o->A b o)/\IniOK [ob (.pointer (some ⟨b1_0,0,none⟩)) (.box w0.heap.size 26 zA2 p0)] A w/\R 1=(.pointer (some ⟨b1_0,0,none⟩))/\R 8=u2/\R 9=.int .i64 (p0.length:Int)/\R 10=.int .i64 y6/\Rep (eSl zAF) A w u2 p0) fu ⟨_,_,q4,d,j,B,q,h1,h8,h9,h10,f_u2⟩ ?_
 have hr0:=c;clear c q4
 rintro k R w ⟨A,y6,c,d,j,B,q,h1,h8,h9,h10,f_u2⟩
 rcases k with _ | k
 cases (show none=some _ from c)
 rw [zBz] at c
 refine zQ1 d j (eB (decide (y6<(p0.length:Int)))::[]) ?_ ?_
 exact op (fun Q U W H D=>zBS ((H 10 Z).trans h10) ((H 9 Z).trans h9))<|oz
 intro R w m n p d j
 obtain ⟨h1,h8,h9,h10⟩:=k4 n h1 h8 h9 h10
 have h11:=p.r 0 Z
 replace f_u2:=f_u2.fr m
 replace q:=q.fr m
 refine zQ0 ?_
 refine zPt (decide (y6<(p0.length:Int))) h11 (fun c7=>?_) (fun c7=>?_)
 have c:=zAh c7 c
 refine HT.skip<|zQ0 ?_
 refine HT.block ?_
 obtain ⟨e8,c⟩:=zAC c
 refine zQ2 [ob (.pointer (some ⟨b1_0,0,none⟩)) (.box w0.heap.size 26 zA2 p0)] ((rF fun A=>.qtr zAF A (gtD p0 y6))::(rF fun A=>.rep zAF A (gtD p0 y6))::⟨_,true,[],some (.box w0.heap.size 63 zAF ([]:List zAA)),true,fun A=>.any⟩::⟨_,true,[3],some (.box w0.heap.size 63 zAF (gtD p0 y6)),false,fun A=>.any⟩::[]) (UAll.cons zCA (up (ua (ua (UAll.nil))))) q d ?_ ?_
 exact rp (fun V Q U O D=>zAL ((f_u2.stp O.stp).eq ((O.old 8 Z).trans h8)) ((O.old 10 Z).trans h10) underlying24 sizeOf63 e8)<|rp (fun V Q U O D=>(zAb (QRep.ptr (D.g 0 Z)) isAgg63 sizeOf63))<|rc (OblR.made _ Z Z Z Z fun V Q U O D=>by exact zBP zeroValue63 (fun A w=>zEM) (Nat.le_trans j.size O.ch.size))<|rc (OblR.took 3 _ _ Z Z Z Z Z fun V Q U O D u X Y J L M=>by have a1:Rep zAF V U (Q 13) (gtD p0 y6):=D.g 1 Z;obtain ⟨b,hb,hB',hbx⟩:=X;have hop':=L _ _ Z Z Z Z;exact zAp a1 (hop'.symm.trans hb) hb ⟨b,hb,hB',hbx⟩ Y (FldS.id _) sizeOf63 Z)<|rz
 intro done ρ σ A R w y s
 obtain ⟨h1,h8,h9,h10⟩:=k4 s.rg h1 h8 h9 h10
 have z9:=s.inivR 0 Z
 obtain ⟨b4_9,e_b4_9⟩:=s.boxv y 4 Z Z
 have z11:=(s.opnR y 4 3 Z Z Z Z Z).symm.trans e_b4_9
 have h4:=s.ov y 3 2 z11
 replace f_u2:=f_u2.stp s.stp
 obtain ⟨B,j,d⟩:=s.s B C j q ⟨Z,N⟩
 replace q:=s.left y [(0,ob (.pointer (some ⟨b1_0,0,none⟩)) (.box w0.heap.size 26 zA2 p0)),(4,ob (.pointer (some ⟨b4_9,0,none⟩)) (.box w0.heap.size 63 zAF (gtD p0 y6)))] ⟨Z,Z,z9,Z,Z,⟨Z,Z,e_b4_9,Z,Z,N⟩⟩
 refine zQ0 ?_
 obtain ⟨x12,q13,c⟩:=zAB c
 refine zQ1 d j (eR (.pointer (some ⟨b4_9,0,none⟩))::eF (.rep (eSl zA0) A (gtD p0 y6))::eI ((gtD p0 y6).length:Int)::eB x12::eB (!x12)::[]) ?_ ?_
 exact op (fun Q U W H D=>zA6 ((H 4 Z).trans h4) zDI sizeOf44 (by decide) Z)<|op (fun Q U W H D=>(zA7 ((q.fr W).ok 1 _ Z).1 (D.g 0 Z) zBQ Z isAgg44 sizeOf44))<|op (fun Q U W H D=>zAY (aT:=#[]) (D.g 0 Z) underlying44)<|op (fun Q U W H D=>zAN call44 (zD6 (q13 Z) (d.fr W.size) (D.g 0 Z) Z Z))<|op (fun Q U W H D=>zCM (D.g 0 Z))<|oz
 intro R w m n p d j
 obtain ⟨h1,h4,h8,h9,h10⟩:=k5 n h1 h4 h8 h9 h10
 have h18:=p.r 4 Z
 replace f_u2:=f_u2.fr m
 replace q:=q.fr m
 refine zPt (!x12) h18 (fun c14=>?_) (fun c14=>?_)
 have c:=zAh c14 c
 refine zQ1 d j (eB false::[]) ?_ ?_
 exact op (fun Q U W H D=>zA9 Z)<|oz
 intro R w m n p d j
 have h2:=p.r 0 Z
 replace q:=q.fr m
 replace q:IniOK [] A w:=q.sub [] N
 refine HT.ret ?_
 obtain rfl:=si c
 have c:=hr0
 replace c:some _=some _:=c
 obtain rfl:=si c
 exact ⟨.inr Z,[R 2],⟨Z,N⟩,h2,j⟩
 have c:=zAg c14 c
 refine HT.skip<|zQ1 d j (eR (.pointer (some ⟨b4_9,0,none⟩))::eF (.rep (eSl zA0) A (gtD p0 y6))::eI ((gtD p0 y6).length:Int)::eI 0::[]) ?_ ?_
 exact op (fun Q U W H D=>zA6 ((H 4 Z).trans h4) zDI sizeOf44 (by decide) Z)<|op (fun Q U W H D=>(zA7 ((q.fr W).ok 1 _ Z).1 (D.g 0 Z) zBQ Z isAgg44 sizeOf44))<|op (fun Q U W H D=>zAY (aT:=#[]) (D.g 0 Z) underlying44)<|op (fun Q U W H D=>zBd Z)<|oz
 intro R w m n p d j
 obtain ⟨h1,h4,h8,h9,h10⟩:=k5 n h1 h4 h8 h9 h10
 obtain ⟨u15,h20,f_u15⟩:∃ u,R 20=u/\Rep (eSl zA0) A w u (gtD p0 y6):=⟨_,Z,p 1 _ _ Z Z Z⟩
 have h21:=p.r 2 Z
 have h22:=p.r 3 Z
 replace f_u2:=f_u2.fr m
 replace q:=q.fr m
 obtain ⟨rl16,q17,c⟩:=zAB c
 replace q17:=q17 Z
 refine zPv (fun R w=>∃ A:Av,∃ (s18:Unit),rl16=Ex.go s18/\AvOK A w/\Fr w0 w/\(∀ b o,A0 b o->A b o)/\IniOK [ob (.pointer (some ⟨b1_0,0,none⟩)) (.box w0.heap.size 26 zA2 p0)] A w/\R 1=(.pointer (some ⟨b1_0,0,none⟩))/\R 8=u2/\R 9=.int .i64 (p0.length:Int)/\R 10=.int .i64 y6/\Rep (eSl zAF) A w u2 p0) ?_ ?_
 refine HT.block<|zPz (fun k R w=>∃ A:Av,∃ (y19:Int),zBL fu p0 y6 k y19=some rl16/\AvOK A w/\Fr w0 w/\(∀ b o,A0 b o->A b o)/\IniOK [ob (.pointer (some ⟨b1_0,0,none⟩)) (.box w0.heap.size 26 zA2 p0),ob (.pointer (some ⟨b4_9,0,none⟩)) (.box w0.heap.size 63 zAF (gtD p0 y6))] A w/\R 1=(.pointer (some ⟨b1_0,0,none⟩))/\R 4=(.pointer (some ⟨b4_9,0,none⟩))/\R 8=u2/\R 9=.int .i64 (p0.length:Int)/\R 10=.int .i64 y6/\R 20=u15/\R 21=.int .i64 ((gtD p0 y6).length:Int)/\R 22=.int .i64 y19/\Rep (eSl zA0) A w u15 (gtD p0 y6)/\Rep (eSl zAF) A w u2 p0) fu ⟨_,_,q17,d,j,B,q,h1,h4,h8,h9,h10,h20,h21,h22,f_u15,f_u2⟩ ?_
 have hr1:=c;clear c q17
 rintro k R w ⟨A,y19,c,d,j,B,q,h1,h4,h8,h9,h10,h20,h21,h22,f_u15,f_u2⟩
 rcases k with _ | k
 cases (show none=some _ from c)
 rw [zBL] at c
 refine zQ1 d j (eB (decide (y19<((gtD p0 y6).length:Int)))::[]) ?_ ?_
 exact op (fun Q U W H D=>zBS ((H 22 Z).trans h22) ((H 21 Z).trans h21))<|oz
 intro R w m n p d j
 obtain ⟨h1,h4,h8,h9,h10,h20⟩:=k6 n h1 h4 h8 h9 h10 h20
 obtain ⟨h21,h22⟩:=k2 n h21 h22
 have h23:=p.r 0 Z
 replace f_u15:=f_u15.fr m
 replace f_u2:=f_u2.fr m
 replace q:=q.fr m
 refine zQ0 ?_
 refine zPt (decide (y19<((gtD p0 y6).length:Int))) h23 (fun c20=>?_) (fun c20=>?_)
 have c:=zAh c20 c
 refine HT.skip<|zQ0 ?_
 refine HT.block ?_
 obtain ⟨e21,c⟩:=zAC c
 refine zQ2 [ob (.pointer (some ⟨b1_0,0,none⟩)) (.box w0.heap.size 26 zA2 p0),ob (.pointer (some ⟨b4_9,0,none⟩)) (.box w0.heap.size 63 zAF (gtD p0 y6))] (rI y19::(rF fun A=>.qtr zA0 A (gtD (gtD p0 y6) y19))::(rF fun A=>.rep zA0 A (gtD (gtD p0 y6) y19))::⟨_,true,[],some (.box w0.heap.size 69 zA0 (0,(0,false))),true,fun A=>.any⟩::rI y19::⟨_,true,[5],some (.box w0.heap.size 69 zA0 (gtD (gtD p0 y6) y19)),false,fun A=>.any⟩::[]) (ur (UAll.cons zCA (up (ua (ur (ua (UAll.nil))))))) q d ?_ ?_
 exact rm h22<|rp (fun V Q U O D=>zAL ((f_u15.stp O.stp).eq ((O.old 20 Z).trans h20)) ((O.old 22 Z).trans h22) underlying44 sizeOf69 e21)<|rp (fun V Q U O D=>(zAb (QRep.ptr (D.g 0 Z)) isAgg69 sizeOf69))<|rc (OblR.made _ Z Z Z Z fun V Q U O D=>by exact zBP zeroValue69 (fun A w=>zAy zAP (zAy zAP zDQ)) (Nat.le_trans j.size O.ch.size))<|ra<|rc (OblR.took 5 _ _ Z Z Z Z Z fun V Q U O D u X Y J L M=>by have a1:Rep zA0 V U (Q 26) (gtD (gtD p0 y6) y19):=D.g 1 Z;obtain ⟨b,hb,hB',hbx⟩:=X;have hop':=L _ _ Z Z Z Z;exact zAp a1 (hop'.symm.trans hb) hb ⟨b,hb,hB',hbx⟩ Y (FldS.id _) sizeOf69 Z)<|rz
 intro done ρ σ A R w y s
 obtain ⟨h1,h4,h8,h9,h10,h20⟩:=k6 s.rg h1 h4 h8 h9 h10 h20
 obtain ⟨h21,h22⟩:=k2 s.rg h21 h22
 have z22:=s.inivR 0 Z
 have z23:=s.inivR 1 Z
 obtain ⟨b6_23,e_b6_23⟩:=s.boxv y 7 Z Z
 have z25:=(s.opnR y 7 5 Z Z Z Z Z).symm.trans e_b6_23
 have h6:=s.ov y 5 3 z25
 have h5:=s.r y 4 Z
 replace f_u15:=f_u15.stp s.stp
 replace f_u2:=f_u2.stp s.stp
 obtain ⟨B,j,d⟩:=s.s B C j q ⟨Z,⟨Z,N⟩⟩
 replace q:=s.left y [(0,ob (.pointer (some ⟨b1_0,0,none⟩)) (.box w0.heap.size 26 zA2 p0)),(1,ob (.pointer (some ⟨b4_9,0,none⟩)) (.box w0.heap.size 63 zAF (gtD p0 y6))),(7,ob (.pointer (some ⟨b6_23,0,none⟩)) (.box w0.heap.size 69 zA0 (gtD (gtD p0 y6) y19)))] ⟨Z,Z,z22,Z,Z,⟨Z,Z,z23,Z,Z,⟨Z,Z,e_b6_23,Z,Z,N⟩⟩⟩
 refine zQ0 ?_
 obtain ⟨x26,q27,c⟩:=zAB c
 obtain ⟨x28,q29,c⟩:=zAB c
 obtain ⟨x30,q31,c⟩:=zAf c
 obtain ⟨e32,e33,c⟩:=ck2 c
 obtain ⟨x34,q35,c⟩:=zAf c
 obtain ⟨x36,q37,c⟩:=zAf c
 refine zPw (by kernel_rfl) (l:=eR (.pointer (some ⟨b6_23,0,none⟩))::eI ((gtD (gtD p0 y6) y19).1)::eB x26::eB (!x26)::eB (!x26)::gR (true&&((!x26)==false)) (.pointer (some ⟨b6_23,1,none⟩))::gI (true&&((!x26)==false)) ((gtD (gtD p0 y6) y19).2.1)::gB (true&&((!x26)==false)) x28::gB (true&&((!x26)==false)) (!x28)::eB x30::eB x30::gI (true&&(x30==false)) y19::gB (true&&(x30==false)) (decide (0<y19))::gB (true&&(x30==false)) (decide (0<y19))::gR ((true&&(x30==false))&&((decide (0<y19))==true)) (.pointer (some ⟨b4_9,0,none⟩))::gF ((true&&(x30==false))&&((decide (0<y19))==true)) (.rep (eSl zA0) A (gtD p0 y6))::gI ((true&&(x30==false))&&((decide (0<y19))==true)) y19::gI ((true&&(x30==false))&&((decide (0<y19))==true)) (y19-1)::gF ((true&&(x30==false))&&((decide (0<y19))==true)) (.qtr zA0 A (gtD (gtD p0 y6) (y19-1)))::gF ((true&&(x30==false))&&((decide (0<y19))==true)) (.qtr (eInt .i64) A ((gtD (gtD p0 y6) (y19-1)).1))::gI ((true&&(x30==false))&&((decide (0<y19))==true)) ((gtD (gtD p0 y6) (y19-1)).1)::gR ((true&&(x30==false))&&((decide (0<y19))==true)) (.pointer (some ⟨b6_23,0,none⟩))::gI ((true&&(x30==false))&&((decide (0<y19))==true)) ((gtD (gtD p0 y6) y19).1)::gB ((true&&(x30==false))&&((decide (0<y19))==true)) (decide (((gtD (gtD p0 y6) y19).1)<=((gtD (gtD p0 y6) (y19-1)).1)))::gB (true&&(x30==false)) x34::eB x36::[]) (tl:=[]) (by kernel_rfl) (by kernel_rfl) (by kernel_rfl) (by kernel_rfl) ?_ ?_
 exact op (fun Q U W H D=>zA6 ((H 6 Z).trans h6) zDH sizeOf3 (by decide) Z)<|op (fun Q U W H D=>OpF.int (zA7 ((q.fr W).ok 2 _ Z).1 (D.g 0 Z) zAo Z isAgg3 sizeOf3))<|op (fun Q U W H D=>zAN call45 (zEV (q27 Z) (d.fr W.size) (D.g 0 Z)))<|op (fun Q U W H D=>zCM (D.g 0 Z))<|ov<|og 4 false (fun G Q U W H D=>zA6 ((H 6 Z).trans h6) zDU sizeOf3 (by decide) Z)<|og 4 false (fun G Q U W H D=>OpF.int (zA7 ((q.fr W).ok 2 _ Z).1 (D.h 0 G Z) zAv Z isAgg3 sizeOf3))<|og 4 false (fun G Q U W H D=>zAN call46 (zEx (q29 G) (d.fr W.size) (D.h 0 G Z)))<|og 4 false (fun G Q U W H D=>zCM (D.h 0 G Z))<|op (fun Q U W H D=>zAl (!x26) (D.g 0 Z) (fun hc=>by show _=Value.bool x30;rw [q31,hc];exact Z) (fun hc=>by have a2:Q 35=.bool (!x28):=D 1 _ _ _ Z Z Z Z (zCH Z (zBA hc));show _=Value.bool x30;rw [q31,hc];exact a2))<|ov<|gm 10 false h5<|og 10 false (fun G Q U W H D=>zEJ (D.h 0 G Z) Z)<|og 10 false (fun G Q U W H D=>zBd (D.h 0 G Z))<|og 13 true (fun G Q U W H D=>zA6 ((H 4 Z).trans h4) zDI sizeOf44 (by decide) Z)<|og 13 true (fun G Q U W H D=>(zA7 ((q.fr W).ok 1 _ Z).1 (D.h 0 G Z) zBQ Z isAgg44 sizeOf44))<|gm 13 true h5<|og 13 true (fun G Q U W H D=>zGm (D.h 0 G Z) Z (gd e32 G))<|og 13 true (fun G Q U W H D=>zAL (D.h 0 G Z) (D.h 1 G Z) underlying44 sizeOf69 (gd e33 G))<|og 13 true (fun G Q U W H D=>zAr (qt (D.h 0 G Z)) zDH sizeOf3 (by decide) zAo Z)<|og 13 true (fun G Q U W H D=>OpF.int (zAb (QRep.ptr (D.h 0 G Z)) isAgg3 sizeOf3))<|og 13 true (fun G Q U W H D=>zA6 ((H 6 Z).trans h6) zDH sizeOf3 (by decide) Z)<|og 13 true (fun G Q U W H D=>OpF.int (zA7 ((q.fr W).ok 2 _ Z).1 (D.h 0 G Z) zAo Z isAgg3 sizeOf3))<|og 13 true (fun G Q U W H D=>zFq (D.h 0 G Z) (D.h 1 G Z))<|og 10 false (fun G Q U W H D=>zAl (decide (0<y19)) (D.h 0 G Z) (fun hc=>by have a1:Q 50=.bool (decide (((gtD (gtD p0 y6) y19).1)<=((gtD (gtD p0 y6) (y19-1)).1))):=D 1 _ _ _ Z Z Z Z (zCH G (zBA hc));show _=Value.bool x34;rw [q35,hc];exact a1) (fun hc=>by show _=Value.bool x34;rw [q35,hc];exact Z))<|op (fun Q U W H D=>zAl x30 (D.g 0 Z) (fun hc=>by show _=Value.bool x36;rw [q37,hc];exact Z) (fun hc=>by have a2:Q 51=.bool x34:=D 1 _ _ _ Z Z Z Z (zCH Z (zBA hc));show _=Value.bool x36;rw [q37,hc];exact a2))<|oz
 intro R w m n p
 obtain ⟨h1,h4,h8,h9,h10,h20⟩:=k6 n h1 h4 h8 h9 h10 h20
 obtain ⟨h21,h22⟩:=k2 n h21 h22
 have h52:=p.r 25 Z
 replace f_u15:=f_u15.fr m
 replace f_u2:=f_u2.fr m
 replace q:=q.fr m
 replace q:IniOK [ob (.pointer (some ⟨b1_0,0,none⟩)) (.box w0.heap.size 26 zA2 p0),ob (.pointer (some ⟨b4_9,0,none⟩)) (.box w0.heap.size 63 zAF (gtD p0 y6))] A w:=q.sub [(0,ob (.pointer (some ⟨b1_0,0,none⟩)) (.box w0.heap.size 26 zA2 p0)),(1,ob (.pointer (some ⟨b4_9,0,none⟩)) (.box w0.heap.size 63 zAF (gtD p0 y6)))] ⟨Z,Z,⟨Z,Z,N⟩⟩
 replace d:=d.fr m.size
 replace j:=j.trans m
 refine zPt x36 h52 (fun c38=>?_) (fun c38=>?_)
 have c:=zAh c38 c
 refine zQ1 d j (eB false::[]) ?_ ?_
 exact op (fun Q U W H D=>zA9 Z)<|oz
 intro R w m n p d j
 have h2:=p.r 0 Z
 replace q:=q.fr m
 replace q:IniOK [] A w:=q.sub [] N
 refine HT.ret ?_
 obtain rfl:=si c
 have c:=hr1
 replace c:some _=some _:=c
 obtain rfl:=si c
 have c:=hr0
 replace c:some _=some _:=c
 obtain rfl:=si c
 exact ⟨.inr Z,[R 2],⟨Z,N⟩,h2,j⟩
 have c:=zAg c38 c
 refine HT.skip ?_
 obtain ⟨e39,c⟩:=zAC c
 refine HT.u d j (eI (y19+1)::eI (y19+1)::[]) ?_ ?_
 exact op (fun Q U W H D=>zAi ((H 22 Z).trans h22) Z e39)<|ov<|oz
 intro R w m n p d j
 obtain ⟨h1,h4,h8,h9,h10,h20⟩:=k6 n h1 h4 h8 h9 h10 h20
 replace h21:=k1 n h21
 have h22:=p.r 1 Z
 replace f_u15:=f_u15.fr m
 replace f_u2:=f_u2.fr m
 replace q:=q.fr m
 exact ei k (And.intro (Nat.lt_succ_self k) ⟨_,_,c,d,j,B,q,h1,h4,h8,h9,h10,h20,h21,h22,f_u15,f_u2⟩)
 have c:=zAg c20 c
 refine zPy ?_
 obtain rfl:=si c
 replace q:IniOK [ob (.pointer (some ⟨b1_0,0,none⟩)) (.box w0.heap.size 26 zA2 p0)] A w:=q.sub [(0,ob (.pointer (some ⟨b1_0,0,none⟩)) (.box w0.heap.size 26 zA2 p0))] ⟨Z,Z,N⟩
 exact ei _ ⟨_,Z,d,j,B,q,h1,h8,h9,h10,f_u2⟩
 rintro R w ⟨A,s18,rfl,d,j,B,q,h1,h8,h9,h10,f_u2⟩
 have c:=zEG c
 obtain ⟨e40,c⟩:=zAC c
 refine HT.u d j (eI (y6+1)::eI (y6+1)::[]) ?_ ?_
 exact op (fun Q U W H D=>zAi ((H 10 Z).trans h10) Z e40)<|ov<|oz
 intro R w m n p d j
 obtain ⟨h1,h8,h9⟩:=k3 n h1 h8 h9
 have h10:=p.r 1 Z
 replace f_u2:=f_u2.fr m
 replace q:=q.fr m
 exact ei k (And.intro (Nat.lt_succ_self k) ⟨_,_,c,d,j,B,q,h1,h8,h9,h10,f_u2⟩)
 have c:=zAg c7 c
 refine zPy ?_
 obtain rfl:=si c
 exact ei _ ⟨_,Z,d,j,B,q,h1⟩
 rintro R w ⟨A,s5,rfl,d,j,B,q,h1⟩
 have c:=zEG c
 obtain ⟨x41,q42,c⟩:=zAB c
 refine zQ1 d j (eR (.pointer (some ⟨b1_0,0,none⟩))::eF (.rep (eSl zAF) A p0)::eI (p0.length:Int)::eB x41::eB x41::[]) ?_ ?_
 exact op (fun Q U W H D=>zA6 ((H 1 Z).trans h1) zCh sizeOf24 (by decide) Z)<|op (fun Q U W H D=>(zA7 ((q.fr W).ok 0 _ Z).1 (D.g 0 Z) zAd Z isAgg24 sizeOf24))<|op (fun Q U W H D=>zAY (aT:=#[]) (D.g 0 Z) underlying24)<|op (fun Q U W H D=>zAN call44 (zD6 (q42 Z) (d.fr W.size) (D.g 0 Z) Z Z))<|oa<|oz
 intro R w m n p d j
 have h2:=p.r 4 Z
 replace q:=q.fr m
 replace q:IniOK [] A w:=q.sub [] N
 refine HT.ret ?_
 obtain rfl:=si c
 exact ⟨.inr Z,[R 2],⟨Z,N⟩,h2,j⟩
def zCd (fu : Nat) (p0 : zAD) : Nat -> Int -> (List zAA) -> Option (List zAA)
 | 0,_,_=>none
 | k+1,y7,y8=>
 bif (decide (y7<(p0.length:Int))) then (
 ck (inR y7 p0.length) <|
 ck (zBu (y8.length+(gtD p0 y7).length)) <|
 ck (i64B (y7+1)) <|
 zCd fu p0 k (y7+1) (y8++(gtD p0 y7))
 ) else (
 some y8
 )
def zE7 (fu:Nat) (p0:zAD):Option (List zAA):=
 cl true (zCd fu p0 fu 0 ([]:List zAA)) fun s6=>
 some s6
theorem zH7 {fu : Nat} {A0 : Av} {p0 : zAD} {r : List zAA} (c : zE7 fu p0 = some r) {w : World} {v0 : Value} (d : AvOK A0 w) (h0 : Rep zA2 A0 w v0 p0) :
 Calls prog 51 #[v0] w fun e w'=>∃ v,e=.returned v/\((Res.vec w.heap.size 69 zA0 r).ok (addA A0 v) v w'/\Fr w w'):=by
 unfold zE7 at c
 obtain ⟨w0,hw0,j,C⟩:=pw d
 have hA00:AvOK A0 w0:=C
 rw [fh hw0]
 rw [fw hw0]
 obtain ⟨A,hAe,B,d,q⟩:=pa d
 refine zAE [.tmp 2] func51 ntmps51 (by decide) Z Z (nb Z) ?_
 intro R hR
 have f_v0:Rep zA2 A w v0 p0:=hAe ▸ h0
 replace h0:R 0=v0:=hR 0 _ Z
 refine zQ2 [] (⟨_,true,[],some (.box w0.heap.size 26 zA2 p0),true,fun A=>.any⟩::rA::[]) (ua (ua (UAll.nil))) q d ?_ ?_
 exact rc (OblR.made _ Z Z Z Z fun V Q U O D=>by have a0:Q 0=v0:=(O.old 0 Z).trans h0;have ra0:=(f_v0.stp O.stp).eq a0;exact zAx ra0 (Nat.le_trans j.size O.ch.size))<|rp (fun V Q U O D=>zA9 N)<|rz
 intro done ρ σ A R w y s
 obtain ⟨b1_0,e_b1_0⟩:=s.boxv y 0 Z Z
 have h1:=s.ov y 0 0 e_b1_0
 obtain ⟨B,j,d⟩:=s.s B C j q N
 replace q:=s.left y [(0,ob (.pointer (some ⟨b1_0,0,none⟩)) (.box w0.heap.size 26 zA2 p0))] ⟨Z,Z,e_b1_0,Z,Z,N⟩
 refine zQ1 d j (eR (.slice none 0 0)::[]) ?_ ?_
 exact op (fun Q U W H D=>zA9 Z)<|oz
 intro R w m n p d j
 replace h1:=k1 n h1
 obtain ⟨u2,n_u2⟩:∃ u,u=Value.slice none 0 0:=⟨_,Z⟩
 have h3:R 3=u2:=(p 0 _ _ Z Z Z).trans n_u2.symm
 replace q:=q.fr m
 replace q:=q.nilcons (u:=u2) n_u2 w0.heap.size 69 zA0
 refine zQ0 ?_
 refine zQ1 d j (eR (.pointer (some ⟨b1_0,0,none⟩))::eF (.rep (eSl zAF) A p0)::eI (p0.length:Int)::eI 0::[]) ?_ ?_
 exact op (fun Q U W H D=>zA6 ((H 1 Z).trans h1) zCh sizeOf24 (by decide) Z)<|op (fun Q U W H D=>(zA7 ((q.fr W).ok 1 _ Z).1 (D.g 0 Z) zAd Z isAgg24 sizeOf24))<|op (fun Q U W H D=>zAY (aT:=#[]) (D.g 0 Z) underlying24)<|op (fun Q U W H D=>zBd Z)<|oz
 intro R w m n p d j
 replace h3:=k1 n h3
 obtain ⟨u3,h7,f_u3⟩:∃ u,R 7=u/\Rep (eSl zAF) A w u p0:=⟨_,Z,p 1 _ _ Z Z Z⟩
 have h8:=p.r 2 Z
 have h9:=p.r 3 Z
 replace q:=q.fr m
 replace q:IniOK [ob u2 (.vec w0.heap.size 69 zA0 ([]:List zAA))] A w:=q.sub [(0,ob u2 (.vec w0.heap.size 69 zA0 ([]:List zAA)))] ⟨Z,Z,N⟩
 obtain ⟨rl4,q5,c⟩:=zAB c
 replace q5:=q5 Z
 refine zPv (fun R w=>∃ A:Av,∃ (s6:(List zAA)) (uo_u2:Value),rl4=s6/\AvOK A w/\Fr w0 w/\(∀ b o,A0 b o->A b o)/\IniOK [ob uo_u2 (.vec w0.heap.size 69 zA0 s6)] A w/\R 3=uo_u2) ?_ ?_
 refine HT.block<|zPz (fun k R w=>∃ A:Av,∃ (y7:Int) (y8:List zAA) (ul_u2:Value),zCd fu p0 k y7 y8=some rl4/\AvOK A w/\Fr w0 w/\(∀ b o,A0 b o->A b o)/\IniOK [ob ul_u2 (.vec w0.heap.size 69 zA0 y8)] A w/\R 3=ul_u2/\R 7=u3/\R 8=.int .i64 (p0.length:Int)/\R 9=.int .i64 y7/\Rep (eSl zAF) A w u3 p0) fu ⟨_,_,_,u2,q5,d,j,B,q,h3,h7,h8,h9,f_u3⟩ ?_
 have hr0:=c;clear c q5
 rintro k R w ⟨A,y7,y8,ul_u2,c,d,j,B,q,h3,h7,h8,h9,f_u3⟩
 rcases k with _ | k
 cases (show none=some _ from c)
 rw [zCd] at c
 refine zQ1 d j (eB (decide (y7<(p0.length:Int)))::[]) ?_ ?_
 exact op (fun Q U W H D=>zBS ((H 9 Z).trans h9) ((H 8 Z).trans h8))<|oz
 intro R w m n p d j
 obtain ⟨h3,h7,h8,h9⟩:=k4 n h3 h7 h8 h9
 have h10:=p.r 0 Z
 replace f_u3:=f_u3.fr m
 replace q:=q.fr m
 refine zQ0 ?_
 refine zPt (decide (y7<(p0.length:Int))) h10 (fun c9=>?_) (fun c9=>?_)
 have c:=zAh c9 c
 refine HT.skip<|zQ0 ?_
 refine HT.block ?_
 obtain ⟨e10,c⟩:=zAC c
 refine zQ2 [ob ul_u2 (.vec w0.heap.size 69 zA0 y8)] ((rF fun A=>.qtr zAF A (gtD p0 y7))::(rF fun A=>.rep zAF A (gtD p0 y7))::⟨_,true,[],some (.box w0.heap.size 63 zAF ([]:List zAA)),true,fun A=>.any⟩::⟨_,true,[3],some (.box w0.heap.size 63 zAF (gtD p0 y7)),false,fun A=>.any⟩::[]) (UAll.cons zCA (up (ua (ua (UAll.nil))))) q d ?_ ?_
 exact rp (fun V Q U O D=>zAL ((f_u3.stp O.stp).eq ((O.old 7 Z).trans h7)) ((O.old 9 Z).trans h9) underlying24 sizeOf63 e10)<|rp (fun V Q U O D=>(zAb (QRep.ptr (D.g 0 Z)) isAgg63 sizeOf63))<|rc (OblR.made _ Z Z Z Z fun V Q U O D=>by exact zBP zeroValue63 (fun A w=>zEM) (Nat.le_trans j.size O.ch.size))<|rc (OblR.took 3 _ _ Z Z Z Z Z fun V Q U O D u X Y J L M=>by have a1:Rep zAF V U (Q 12) (gtD p0 y7):=D.g 1 Z;obtain ⟨b,hb,hB',hbx⟩:=X;have hop':=L _ _ Z Z Z Z;exact zAp a1 (hop'.symm.trans hb) hb ⟨b,hb,hB',hbx⟩ Y (FldS.id _) sizeOf63 Z)<|rz
 intro done ρ σ A R w y s
 obtain ⟨h3,h7,h8,h9⟩:=k4 s.rg h3 h7 h8 h9
 have z11:=s.inivR 0 Z
 obtain ⟨b5_11,e_b5_11⟩:=s.boxv y 4 Z Z
 have z13:=(s.opnR y 4 3 Z Z Z Z Z).symm.trans e_b5_11
 have h5:=s.ov y 3 2 z13
 replace f_u3:=f_u3.stp s.stp
 obtain ⟨B,j,d⟩:=s.s B C j q ⟨Z,N⟩
 replace q:=s.left y [(0,ob ul_u2 (.vec w0.heap.size 69 zA0 y8)),(4,ob (.pointer (some ⟨b5_11,0,none⟩)) (.box w0.heap.size 63 zAF (gtD p0 y7)))] ⟨Z,Z,z11,Z,Z,⟨Z,Z,e_b5_11,Z,Z,N⟩⟩
 obtain ⟨e14,c⟩:=zAC c
 refine zQ5 [ob ul_u2 (.vec w0.heap.size 69 zA0 y8),ob (.pointer (some ⟨b5_11,0,none⟩)) (.box w0.heap.size 63 zAF (gtD p0 y7))] (rR ul_u2::rR (.pointer (some ⟨b5_11,0,none⟩))::(rF fun A=>.rep (eSl zA0) A (gtD p0 y7))::⟨_,true,[0],some (.vec w0.heap.size 69 zA0 (y8++(gtD p0 y7))),true,fun A=>.any⟩::⟨_,true,[5],some (.vec w0.heap.size 69 zA0 (y8++(gtD p0 y7))),true,fun A=>.any⟩::[]) (ur (ur (up (ua (ua (UAll.nil)))))) q d ?_ ?_
 exact rm h3<|rp (fun V Q U O D=>zA6 ((O.old 5 Z).trans h5) zDI sizeOf44 (by decide) Z)<|rp (fun V Q U O D=>(zA7 (O.rd 1 _ Z Z) (D.g 0 Z) zBQ Z isAgg44 sizeOf44))<|rc (OblR.took 0 _ _ Z Z Z Z Z fun V Q U O D u X Y J L M=>by have a0:Q 13=ul_u2:=D.g 0 Z;have a1:Rep (eSl zA0) V U (Q 15) (gtD p0 y7):=D.g 1 Z;exact zET (a0.trans (J _ Z).symm) X Y (Nat.le_trans j.size O.ch.size) a1 underlying44 zMz e14)<|rc (OblR.took 5 _ _ Z Z Z Z Z fun V Q U O D u X Y J L M=>by exact zCQ (L _ _ Z Z Z Z).symm X Y)<|rz
 intro done ρ σ A R w y s
 obtain ⟨h7,h8,h9⟩:=k3 s.rg h7 h8 h9
 obtain ⟨u15,e_u15⟩:∃ u,ρ 6=u:=⟨_,Z⟩
 have h3:=s.ov y 6 4 e_u15
 have z16:=s.inivR 1 Z
 replace f_u3:=f_u3.stp s.stp
 obtain ⟨B,j,d⟩:=s.s B C j q ⟨Z,⟨Z,N⟩⟩
 replace q:=s.left y [(6,ob u15 (.vec w0.heap.size 69 zA0 (y8++(gtD p0 y7))))] ⟨Z,Z,e_u15,Z,Z,N⟩
 obtain ⟨e17,c⟩:=zAC c
 refine HT.u d j (eI (y7+1)::eI (y7+1)::[]) ?_ ?_
 exact op (fun Q U W H D=>zAi ((H 9 Z).trans h9) Z e17)<|ov<|oz
 intro R w m n p d j
 obtain ⟨h3,h7,h8⟩:=k3 n h3 h7 h8
 have h9:=p.r 1 Z
 replace f_u3:=f_u3.fr m
 replace q:=q.fr m
 exact ei k (And.intro (Nat.lt_succ_self k) ⟨_,_,_,u15,c,d,j,B,q,h3,h7,h8,h9,f_u3⟩)
 have c:=zAg c9 c
 refine zPy ?_
 obtain rfl:=si c
 exact ei _ ⟨_,ul_u2,Z,d,j,B,q,h3⟩
 rintro R w ⟨A,s6,uo_u2,es,d,j,B,q,h3⟩
 obtain rfl:=es.symm
 refine zQ1 d j (eR uo_u2::eR uo_u2::[]) ?_ ?_
 exact om h3<|oa<|oz
 intro R w m n p d j
 have h2:=p.r 1 Z
 replace q:=q.fr m
 refine HT.ret ?_
 obtain rfl:=si c
 exact ⟨.inr Z,[R 2],⟨Z,N⟩,(zGX (q.ok 0 _ Z) B h2),j⟩
def zE0 (fu:Nat) (p0:Int):Option Bool:=
 some (p0 != p0)
theorem zFS {fu : Nat} {A : Av} {p0 : Int} {r : Bool} (c : zE0 fu p0 = some r) {w : World} {v0 : Value} (d : AvOK A w) (h0 : v0=.int .i64 p0) :
 Calls prog 74 #[v0] w fun e w'=>∃ v,e=.returned v/\(v=.bool r/\Fr w w'):=by
 unfold zE0 at c
 obtain ⟨w0,hw0,j⟩:=pf w
 rw [fw hw0]
 refine zAE [.tmp 2] func74 ntmps74 (by decide) Z Z (nb Z) ?_
 intro R hR
 replace h0:R 0=.int .i64 p0:=(hR 0 _ Z).trans h0
 refine zQ1 d j (eB false::[]) ?_ ?_
 exact op (fun Q U W H D=>zA9 Z)<|oz
 intro R w m n p d j
 replace h0:=k1 n h0
 refine zQ1 d j (eI p0::eI p0::eB (p0 != p0)::eB (p0 != p0)::[]) ?_ ?_
 exact om h0<|om h0<|op (fun Q U W H D=>zIn (D.g 0 Z) (D.g 1 Z))<|oa<|oz
 intro R w m n p d j
 have h2:=p.r 3 Z
 refine HT.ret ?_
 obtain rfl:=si c
 exact ⟨.inr Z,[R 2],⟨Z,N⟩,h2,j⟩
def zDL (fu:Nat) (p0:Int) (p1:Int):Option Int:=
 cl true (zE0 fu p0) fun x1=>
 cl true (zE0 fu p1) fun x3=>
 bif x1 then (
 bif x3 then (
 some 0
 ) else (
 some (-1)
 )
 ) else (
 bif x3 then (
 some 1
 ) else (
 bif (decide (p0<p1)) then (
 some (-1)
 ) else (
 bif (decide (p1<p0)) then (
 some 1
 ) else (
 some 0
 )
 )
 )
 )
theorem zF5 {fu : Nat} {A : Av} {p0 : Int} {p1 : Int} {r : Int} (c : zDL fu p0 p1 = some r) {w : World} {v0 : Value} {v1 : Value} (d : AvOK A w) (h0 : v0=.int .i64 p0) (h1 : v1=.int .i64 p1) :
 Calls prog 55 #[v0,v1] w fun e w'=>∃ v,e=.returned v/\(v=.int .i64 r/\Fr w w'):=by
 unfold zDL at c
 obtain ⟨w0,hw0,j⟩:=pf w
 rw [fw hw0]
 refine zAE [.tmp 4] func55 ntmps55 (by decide) Z Z (nb Z) ?_
 intro R hR
 replace h0:R 0=.int .i64 p0:=(hR 0 _ Z).trans h0
 replace h1:R 1=.int .i64 p1:=(hR 1 _ Z).trans h1
 refine zQ1 d j (eI 0::[]) ?_ ?_
 exact op (fun Q U W H D=>zA9 Z)<|oz
 intro R w m n p d j
 obtain ⟨h0,h1⟩:=k2 n h0 h1
 obtain ⟨x1,q2,c⟩:=zAB c
 refine zQ1 d j (eI p0::eB x1::eB x1::[]) ?_ ?_
 exact om h0<|op (fun Q U W H D=>zAN call74 (zFS (q2 Z) (d.fr W.size) (D.g 0 Z)))<|oa<|oz
 intro R w m n p d j
 obtain ⟨h0,h1⟩:=k2 n h0 h1
 have h5:=p.r 2 Z
 obtain ⟨x3,q4,c⟩:=zAB c
 refine zQ1 d j (eI p1::eB x3::eB x3::[]) ?_ ?_
 exact om h1<|op (fun Q U W H D=>zAN call74 (zFS (q4 Z) (d.fr W.size) (D.g 0 Z)))<|oa<|oz
 intro R w m n p d j
 obtain ⟨h0,h1,h5⟩:=k3 n h0 h1 h5
 have h6:=p.r 2 Z
 refine zQ0 ?_
 refine zQ1 d j (eB x1::[]) ?_ ?_
 exact om h5<|oz
 intro R w m n p d j
 obtain ⟨h0,h1,h6⟩:=k3 n h0 h1 h6
 have h11:=p.r 0 Z
 refine zPt x1 h11 (fun c5=>?_) (fun c5=>?_)
 have c:=zAh c5 c
 refine zQ0 ?_
 refine zQ1 d j (eB x3::[]) ?_ ?_
 exact om h6<|oz
 intro R w m n p d j
 have h12:=p.r 0 Z
 refine zPt x3 h12 (fun c6=>?_) (fun c6=>?_)
 have c:=zAh c6 c
 refine zQ1 d j (eI 0::[]) ?_ ?_
 exact op (fun Q U W H D=>zA9 Z)<|oz
 intro R w m n p d j
 have h4:=p.r 0 Z
 refine HT.ret ?_
 obtain rfl:=si c
 exact ⟨.inr Z,[R 4],⟨Z,N⟩,h4,j⟩
 have c:=zAg c6 c
 refine HT.skip<|zQ1 d j (eI (-1)::[]) ?_ ?_
 exact op (fun Q U W H D=>zA9 Z)<|oz
 intro R w m n p d j
 have h4:=p.r 0 Z
 refine HT.ret ?_
 obtain rfl:=si c
 exact ⟨.inr Z,[R 4],⟨Z,N⟩,h4,j⟩
 have c:=zAg c5 c
 refine HT.skip<|zQ0 ?_
 refine zQ1 d j (eB x3::[]) ?_ ?_
 exact om h6<|oz
 intro R w m n p d j
 obtain ⟨h0,h1⟩:=k2 n h0 h1
 have h13:=p.r 0 Z
 refine zPt x3 h13 (fun c7=>?_) (fun c7=>?_)
 have c:=zAh c7 c
 refine zQ1 d j (eI 1::[]) ?_ ?_
 exact op (fun Q U W H D=>zA9 Z)<|oz
 intro R w m n p d j
 have h4:=p.r 0 Z
 refine HT.ret ?_
 obtain rfl:=si c
 exact ⟨.inr Z,[R 4],⟨Z,N⟩,h4,j⟩
 have c:=zAg c7 c
 refine HT.skip<|zQ0 ?_
 refine zQ1 d j (eI p0::eI p1::eB (decide (p0<p1))::[]) ?_ ?_
 exact om h0<|om h1<|op (fun Q U W H D=>zBS (D.g 0 Z) (D.g 1 Z))<|oz
 intro R w m n p d j
 obtain ⟨h0,h1⟩:=k2 n h0 h1
 have h16:=p.r 2 Z
 refine zPt (decide (p0<p1)) h16 (fun c8=>?_) (fun c8=>?_)
 have c:=zAh c8 c
 refine zQ1 d j (eI (-1)::[]) ?_ ?_
 exact op (fun Q U W H D=>zA9 Z)<|oz
 intro R w m n p d j
 have h4:=p.r 0 Z
 refine HT.ret ?_
 obtain rfl:=si c
 exact ⟨.inr Z,[R 4],⟨Z,N⟩,h4,j⟩
 have c:=zAg c8 c
 refine HT.skip<|zQ0 ?_
 refine zQ1 d j (eI p0::eI p1::eB (decide (p1<p0))::[]) ?_ ?_
 exact om h0<|om h1<|op (fun Q U W H D=>zEJ (D.g 0 Z) (D.g 1 Z))<|oz
 intro R w m n p d j
 have h19:=p.r 2 Z
 refine zPt (decide (p1<p0)) h19 (fun c9=>?_) (fun c9=>?_)
 have c:=zAh c9 c
 refine zQ1 d j (eI 1::[]) ?_ ?_
 exact op (fun Q U W H D=>zA9 Z)<|oz
 intro R w m n p d j
 have h4:=p.r 0 Z
 refine HT.ret ?_
 obtain rfl:=si c
 exact ⟨.inr Z,[R 4],⟨Z,N⟩,h4,j⟩
 have c:=zAg c9 c
 refine HT.skip<|zQ1 d j (eI 0::[]) ?_ ?_
 exact op (fun Q U W H D=>zA9 Z)<|oz
 intro R w m n p d j
 have h4:=p.r 0 Z
 refine HT.ret ?_
 obtain rfl:=si c
 exact ⟨.inr Z,[R 4],⟨Z,N⟩,h4,j⟩
def zDP (fu : Nat) (p0 : List Int) : Nat -> Int -> Option (Ex Int Unit)
 | 0,_=>none
 | k+1,y4=>
 bif (decide (y4<(p0.length:Int))) then (
 ck (inR y4 p0.length) <|
 bif ((gtD p0 y4) != 0) then (
 some (Ex.ret (gtD p0 y4))
 ) else (
 ck (i64B (y4+1)) <|
 zDP fu p0 k (y4+1)
 )
 ) else (
 some (Ex.go ())
 )
def zEv (fu:Nat) (p0:List Int):Option Int:=
 cl true (zDP fu p0 fu 0) fun rl1=>
 exM rl1 (fun r=>some r) fun s3=>
 some 0
theorem zHx {fu : Nat} {A : Av} {p0 : List Int} {r : Int} (c : zEv fu p0 = some r) {w : World} {v0 : Value} (d : AvOK A w) (h0 : Rep (eSl (eInt .i64)) A w v0 p0) :
 Calls prog 54 #[v0] w fun e w'=>∃ v,e=.returned v/\(v=.int .i64 r/\Fr w w'):=by
 unfold zEv at c
 obtain ⟨w0,hw0,j⟩:=pf w
 rw [fw hw0]
 refine zAE [.tmp 2] func54 ntmps54 (by decide) Z Z (nb Z) ?_
 intro R hR
 have f_v0:=h0
 replace h0:R 0=v0:=hR 0 _ Z
 refine zQ1 d j (eI 0::[]) ?_ ?_
 exact op (fun Q U W H D=>zA9 Z)<|oz
 intro R w m n p d j
 replace h0:=k1 n h0
 replace f_v0:=f_v0.fr m
 refine zQ1 d j (eI 0::[]) ?_ ?_
 exact op (fun Q U W H D=>zA9 Z)<|oz
 intro R w m n p d j
 replace h0:=k1 n h0
 have h3:=p.r 0 Z
 replace f_v0:=f_v0.fr m
 refine zQ0 ?_
 refine zQ1 d j (eR v0::eI (p0.length:Int)::eI 0::[]) ?_ ?_
 exact om h0<|op (fun Q U W H D=>zAY (aT:=#[]) ((f_v0.fr W).eq (D.g 0 Z)) underlying27)<|op (fun Q U W H D=>zBd Z)<|oz
 intro R w m n p d j
 replace h3:=k1 n h3
 have h6:=p.r 0 Z
 have h7:=p.r 1 Z
 have h8:=p.r 2 Z
 replace f_v0:=f_v0.fr m
 obtain ⟨rl1,q2,c⟩:=zAB c
 replace q2:=q2 Z
 refine zPv (fun R w=>∃ (s3:Unit),rl1=Ex.go s3/\AvOK A w/\Fr w0 w/\R 3=.int .i64 0) ?_ ?_
 refine HT.block<|zPz (fun k R w=>∃ (y4:Int),zDP fu p0 k y4=some rl1/\AvOK A w/\Fr w0 w/\R 3=.int .i64 0/\R 6=v0/\R 7=.int .i64 (p0.length:Int)/\R 8=.int .i64 y4/\Rep (eSl (eInt .i64)) A w v0 p0) fu ⟨_,q2,d,j,h3,h6,h7,h8,f_v0⟩ ?_
 have hr0:=c;clear c q2
 rintro k R w ⟨y4,c,d,j,h3,h6,h7,h8,f_v0⟩
 rcases k with _ | k
 cases (show none=some _ from c)
 rw [zDP] at c
 refine zQ1 d j (eB (decide (y4<(p0.length:Int)))::[]) ?_ ?_
 exact op (fun Q U W H D=>zBS ((H 8 Z).trans h8) ((H 7 Z).trans h7))<|oz
 intro R w m n p d j
 obtain ⟨h3,h6,h7,h8⟩:=k4 n h3 h6 h7 h8
 have h9:=p.r 0 Z
 replace f_v0:=f_v0.fr m
 refine zQ0 ?_
 refine zPt (decide (y4<(p0.length:Int))) h9 (fun c5=>?_) (fun c5=>?_)
 have c:=zAh c5 c
 refine HT.skip<|zQ0 ?_
 refine HT.block ?_
 obtain ⟨e6,c⟩:=zAC c
 refine zQ1 d j (eF (.qtr (eInt .i64) A (gtD p0 y4))::eI (gtD p0 y4)::eI (gtD p0 y4)::[]) ?_ ?_
 exact op (fun Q U W H D=>zAL ((f_v0.fr W).eq ((H 6 Z).trans h6)) ((H 8 Z).trans h8) underlying27 sizeOf3 e6)<|op (fun Q U W H D=>OpF.int (zAb (QRep.ptr (D.g 0 Z)) isAgg3 sizeOf3))<|oa<|oz
 intro R w m n p d j
 obtain ⟨h3,h6,h7,h8⟩:=k4 n h3 h6 h7 h8
 have h5:=p.r 2 Z
 replace f_v0:=f_v0.fr m
 refine zQ1 d j (eI (gtD p0 y4)::eI 0::eB ((gtD p0 y4) != 0)::[]) ?_ ?_
 exact om h5<|om h3<|op (fun Q U W H D=>zIn (D.g 0 Z) (D.g 1 Z))<|oz
 intro R w m n p d j
 obtain ⟨h3,h5,h6,h7,h8⟩:=k5 n h3 h5 h6 h7 h8
 have h14:=p.r 2 Z
 replace f_v0:=f_v0.fr m
 refine zPt ((gtD p0 y4) != 0) h14 (fun c7=>?_) (fun c7=>?_)
 have c:=zAh c7 c
 refine zQ1 d j (eI (gtD p0 y4)::eI (gtD p0 y4)::[]) ?_ ?_
 exact om h5<|oa<|oz
 intro R w m n p d j
 have h2:=p.r 1 Z
 refine HT.ret ?_
 obtain rfl:=si c
 have c:=hr0
 replace c:some _=some _:=c
 obtain rfl:=si c
 exact ⟨.inr Z,[R 2],⟨Z,N⟩,h2,j⟩
 have c:=zAg c7 c
 refine HT.skip ?_
 obtain ⟨e8,c⟩:=zAC c
 refine HT.u d j (eI (y4+1)::eI (y4+1)::[]) ?_ ?_
 exact op (fun Q U W H D=>zAi ((H 8 Z).trans h8) Z e8)<|ov<|oz
 intro R w m n p d j
 obtain ⟨h3,h6,h7⟩:=k3 n h3 h6 h7
 have h8:=p.r 1 Z
 replace f_v0:=f_v0.fr m
 exact ei k (And.intro (Nat.lt_succ_self k) ⟨_,c,d,j,h3,h6,h7,h8,f_v0⟩)
 have c:=zAg c5 c
 refine zPy ?_
 obtain rfl:=si c
 exact ei _ ⟨Z,d,j,h3⟩
 rintro R w ⟨s3,rfl,d,j,h3⟩
 have c:=zEG c
 refine zQ1 d j (eI 0::eI 0::[]) ?_ ?_
 exact om h3<|oa<|oz
 intro R w m n p d j
 have h2:=p.r 1 Z
 refine HT.ret ?_
 obtain rfl:=si c
 exact ⟨.inr Z,[R 2],⟨Z,N⟩,h2,j⟩
def zBU (fu:Nat) (p0:zAA) (p1:zAA):Option Int:=
 cl true (zDL fu p0.1 p1.1) fun x3=>
 cl true (zDL fu p0.2.1 p1.2.1) fun x5=>
 cl true (zEv fu ([x3,x5]:List Int)) fun x7=>
 some x7
theorem zF8 {fu : Nat} {A0 : Av} {p0 : zAA} {p1 : zAA} {r : Int} (c : zBU fu p0 p1 = some r) {w : World} {v0 : Value} {v1 : Value} (d : AvOK A0 w) (h0 : Rep zA0 A0 w v0 p0) (h1 : Rep zA0 A0 w v1 p1) :
 Calls prog 53 #[v0,v1] w fun e w'=>∃ v,e=.returned v/\(v=.int .i64 r/\Fr w w'):=by
 unfold zBU at c
 obtain ⟨w0,hw0,j,C⟩:=pw d
 have hA00:AvOK A0 w0:=C
 rw [fw hw0]
 obtain ⟨A,hAe,B,d,q⟩:=pa d
 refine zAE [.tmp 4] func53 ntmps53 (by decide) Z Z (nb Z) ?_
 intro R hR
 have f_v0:Rep zA0 A w v0 p0:=hAe ▸ h0
 replace h0:R 0=v0:=hR 0 _ Z
 have f_v1:Rep zA0 A w v1 p1:=hAe ▸ h1
 replace h1:R 1=v1:=hR 1 _ Z
 refine zQ2 [] (⟨_,true,[],some (.box w0.heap.size 69 zA0 p0),true,fun A=>.any⟩::⟨_,true,[],some (.box w0.heap.size 69 zA0 p1),true,fun A=>.any⟩::rI 0::[]) (ua (ua (ur (UAll.nil)))) q d ?_ ?_
 exact rc (OblR.made _ Z Z Z Z fun V Q U O D=>by have a0:Q 0=v0:=(O.old 0 Z).trans h0;have ra0:=(f_v0.stp O.stp).eq a0;exact zAx ra0 (Nat.le_trans j.size O.ch.size))<|rc (OblR.made _ Z Z Z Z fun V Q U O D=>by have a0:Q 1=v1:=(O.old 1 Z).trans h1;have ra0:=(f_v1.stp O.stp).eq a0;exact zAx ra0 (Nat.le_trans j.size O.ch.size))<|rp (fun V Q U O D=>zA9 Z)<|rz
 intro done ρ σ A R w y s
 obtain ⟨b2_0,e_b2_0⟩:=s.boxv y 0 Z Z
 have h2:=s.ov y 0 0 e_b2_0
 obtain ⟨b3_1,e_b3_1⟩:=s.boxv y 1 Z Z
 have h3:=s.ov y 1 1 e_b3_1
 obtain ⟨B,j,d⟩:=s.s B C j q N
 replace q:=s.left y [(0,ob (.pointer (some ⟨b2_0,0,none⟩)) (.box w0.heap.size 69 zA0 p0)),(1,ob (.pointer (some ⟨b3_1,0,none⟩)) (.box w0.heap.size 69 zA0 p1))] ⟨Z,Z,e_b2_0,Z,Z,⟨Z,Z,e_b3_1,Z,Z,N⟩⟩
 refine zQ0 ?_
 obtain ⟨x3,q4,c⟩:=zAB c
 obtain ⟨x5,q6,c⟩:=zAB c
 obtain ⟨x7,q8,c⟩:=zAB c
 refine zPw (by kernel_rfl) (l:=eR (.pointer (some ⟨b2_0,0,none⟩))::eI p0.1::eR (.pointer (some ⟨b3_1,0,none⟩))::eI p1.1::eI x3::eR (.pointer (some ⟨b2_0,1,none⟩))::eI p0.2.1::eR (.pointer (some ⟨b3_1,1,none⟩))::eI p1.2.1::eI x5::eF (.rep (eSl (eInt .i64)) A ([x3,x5]:List Int))::eI x7::eI x7::[]) (tl:=[]) (by kernel_rfl) (by kernel_rfl) (by kernel_rfl) (by kernel_rfl) ?_ ?_
 exact op (fun Q U W H D=>zA6 ((H 2 Z).trans h2) zDH sizeOf3 (by decide) Z)<|op (fun Q U W H D=>OpF.int (zA7 ((q.fr W).ok 0 _ Z).1 (D.g 0 Z) zAo Z isAgg3 sizeOf3))<|op (fun Q U W H D=>zA6 ((H 3 Z).trans h3) zDH sizeOf3 (by decide) Z)<|op (fun Q U W H D=>OpF.int (zA7 ((q.fr W).ok 1 _ Z).1 (D.g 0 Z) zAo Z isAgg3 sizeOf3))<|op (fun Q U W H D=>zAN call55 (zF5 (q4 Z) (d.fr W.size) (D.g 0 Z) (D.g 1 Z)))<|op (fun Q U W H D=>zA6 ((H 2 Z).trans h2) zDU sizeOf3 (by decide) Z)<|op (fun Q U W H D=>OpF.int (zA7 ((q.fr W).ok 0 _ Z).1 (D.g 0 Z) zAv Z isAgg3 sizeOf3))<|op (fun Q U W H D=>zA6 ((H 3 Z).trans h3) zDU sizeOf3 (by decide) Z)<|op (fun Q U W H D=>OpF.int (zA7 ((q.fr W).ok 1 _ Z).1 (D.g 0 Z) zAv Z isAgg3 sizeOf3))<|op (fun Q U W H D=>zAN call55 (zF5 (q6 Z) (d.fr W.size) (D.g 0 Z) (D.g 1 Z)))<|op (fun Q U W H D=>zCj [_,_] (E:=eInt .i64) ⟨(zBZ.eq (D.g 0 Z)),⟨(zBZ.eq (D.g 1 Z)),N⟩⟩ underlying27 sizeOf3 zeroValue3 Z Z Z (d.fr W.size))<|op (fun Q U W H D=>zAN call54 (zHx (q8 Z) (d.fr W.size) (D.g 0 Z)))<|oa<|oz
 intro R w m n p
 have h4:=p.r 12 Z
 replace q:=q.fr m
 replace q:IniOK [] A w:=q.sub [] N
 replace d:=d.fr m.size
 replace j:=j.trans m
 refine HT.ret ?_
 obtain rfl:=si c
 exact ⟨.inr Z,[R 4],⟨Z,N⟩,h4,j⟩
def zAX (fu : Nat) (y5 : Int) (x13 : Nat) : Nat -> Int -> Int -> (List zAA) -> Option (Int × (List zAA))
 | 0,_,_,_=>none
 | k+1,y18,y19,y20=>
 bif (decide (y19<(x13:Int))) then (
 ck (inR y19 x13) <|
 ck (decide (0<=y5)) <|
 ck (inR (y5+y19) y20.length) <|
 ck (i64B (y19-1)) <|
 ck (inR (y19-1) x13) <|
 ck (decide (0<=y5)) <|
 ck (inR (y5+(y19-1)) y20.length) <|
 bif (!((gtD y20 (y5+y19))==(gtD y20 (y5+(y19-1))))) then (
 ck (inR y19 x13) <|
 ck (decide (0<=y5)) <|
 ck (inR (y5+y19) y20.length) <|
 ck (inR y18 y20.length) <|
 ck (i64B (y18+1)) <|
 ck (i64B (y19+1)) <|
 zAX fu y5 x13 k (y18+1) (y19+1) (y20.set y18.toNat (gtD y20 (y5+y19)))
 ) else (
 ck (i64B (y19+1)) <|
 zAX fu y5 x13 k y18 (y19+1) y20
 )
 ) else (
 some (y18,y20)
 )
def zAW (fu : Nat) : Nat -> Int -> (List zAA) -> Option (Ex (List zAA) (List zAA))
 | 0,_,_=>none
 | k+1,y5,y6=>
 bif (decide (y5<(y6.length:Int))) then (
 ck (inR y5 y6.length) <|
 ck (i64B (y5-1)) <|
 ck (inR (y5-1) y6.length) <|
 bif ((gtD y6 y5)==(gtD y6 (y5-1))) then (
 ck (subR y5 (y6.length:Int) y6.length) <|
 bd ((y6.length:Int).toNat-y5.toNat) fun x13=>
 cl true (zAX fu y5 x13 fu y5 1 y6) fun s17=>
 ck (subR s17.1 (s17.2.length:Int) s17.2.length) <|
 bd ((s17.2.length:Int).toNat-s17.1.toNat) fun x40=>
 ck (subR s17.1 s17.2.length s17.2.length) <|
 ck (x40==s17.2.length-s17.1.toNat) <|
 ck (subR 0 s17.1 (s17.2.take s17.1.toNat++List.replicate (s17.2.length-s17.1.toNat) (0,(0,false))).length) <|
 some (Ex.ret (subL (s17.2.take s17.1.toNat++List.replicate (s17.2.length-s17.1.toNat) (0,(0,false))) 0 s17.1))
 ) else (
 ck (i64B (y5+1)) <|
 zAW fu k (y5+1) y6
 )
 ) else (
 some (Ex.go y6)
 )
def zBD (fu:Nat) (p0:List zAA):Option (List zAA):=
 bif (decide ((p0.length:Int)<2)) then (
 some p0
 ) else (
 cl true (zAW fu fu 1 p0) fun rl2=>
 exM rl2 (fun r=>some r) fun s4=>
 some s4
 )
theorem zE3 {fu : Nat} {A0 : Av} {p0 : List zAA} {r : List zAA} (c : zBD fu p0 = some r) {w : World} {v0 : Value} {B0 : Nat} (d : AvOK A0 w) (K : ∀ b o, A0 b o -> ¬ zAH v0 b) (h0 : (Res.vec B0 69 zA0 p0).ok A0 v0 w) :
 Calls prog 56 #[v0] w fun e w'=>∃ v,e=.returned v/\Took (addA A0 v0) true v0 (.vec B0 69 zA0 r) (fun _=>.any) w v w':=by
 unfold zBD at c
 obtain ⟨w0,hw0,C⟩:=pc d
 have j:Ch (zAH v0) w0 w:=hw0 ▸ Ch.refl _ _
 have hA00:AvOK A0 w0:=C
 rw [show Took (addA A0 v0) true v0 (.vec B0 69 zA0 r) (fun _=>.any) w=Took (addA A0 v0) true v0 (.vec B0 69 zA0 r) (fun _=>.any) w0 from hw0 ▸ Z]
 obtain ⟨A,hAe⟩:∃ A,A=addA A0 v0:=⟨_,Z⟩
 have B:∀ b o,A0 b o->A b o:=fun b o h=>hAe ▸ .inl h
 replace d:AvOK A w:=hAe ▸ d.one h0
 have q:IniOK [ob v0 (.vec B0 69 zA0 p0)] A w:=hAe ▸ IniOK.one h0 (fun _ _ _ _ _ h=>h)
 refine zAE [.tmp 2] func56 ntmps56 (by decide) Z Z (nb Z) ?_
 intro R hR
 replace h0:R 0=v0:=hR 0 _ Z
 refine zQ0 ?_
 refine zQ3 (eA::[]) ?_ ?_
 exact op (fun Q U W H D=>zA9 N)<|oz
 intro R w m n p
 replace h0:=k1 n h0
 replace q:=q.fr m
 replace d:=d.fr m.size
 replace j:=j.tr (m.ch noB) fun _ h=>False.elim h
 refine zQ0 ?_
 refine zQ0 ?_
 refine zQ3 (eR v0::eI (p0.length:Int)::eB (decide ((p0.length:Int)<2))::[]) ?_ ?_
 exact om h0<|op (fun Q U W H D=>zFo (q.ok 0 _ Z).1 (D.g 0 Z) underlying44)<|op (fun Q U W H D=>zBS (D.g 0 Z) Z)<|oz
 intro R w m n p
 replace h0:=k1 n h0
 have h8:=p.r 2 Z
 replace q:=q.fr m
 replace d:=d.fr m.size
 replace j:=j.tr (m.ch noB) fun _ h=>False.elim h
 refine zPt (decide ((p0.length:Int)<2)) h8 (fun c1=>?_) (fun c1=>?_)
 have c:=zAh c1 c
 refine zQ0 ?_
 refine zQ3 (eR v0::eR v0::[]) ?_ ?_
 exact om h0<|oa<|oz
 intro R w m n p
 have h2:=p.r 1 Z
 replace q:=q.fr m
 replace d:=d.fr m.size
 replace j:=j.tr (m.ch noB) fun _ h=>False.elim h
 refine HT.ret ?_
 obtain rfl:=si c
 exact ⟨.inr Z,[R 2],⟨Z,N⟩,by show Took _ true _ _ _ w0 (R 2) w;rw [h2];exact zGR (fun k h o=>.inr h) j (q.ok 0 _ Z).1 (q.own_ge (⟨.inr (fun k h=>.inr h),N⟩) (i:=0) Z) (fun _ _ _ _ _ h=>h)⟩
 have c:=zAg c1 c
 refine HT.skip<|zQ0 ?_
 refine zQ0 ?_
 refine zQ3 (eI 1::[]) ?_ ?_
 exact op (fun Q U W H D=>zA9 Z)<|oz
 intro R w m n p
 replace h0:=k1 n h0
 have h3:=p.r 0 Z
 replace q:=q.fr m
 replace d:=d.fr m.size
 replace j:=j.tr (m.ch noB) fun _ h=>False.elim h
 obtain ⟨rl2,q3,c⟩:=zAB c
 replace q3:=q3 Z
 refine zPv (fun R w=>∃ A:Av,∃ (s4:(List zAA)),rl2=Ex.go s4/\AvOK A w/\Ch (zAH v0) w0 w/\(∀ b o,A0 b o->A b o)/\IniOK [ob v0 (.vec B0 69 zA0 s4)] A w/\R 0=v0) ?_ ?_
 refine HT.block<|zPz (fun k R w=>∃ A:Av,∃ (y5:Int) (y6:List zAA),zAW fu k y5 y6=some rl2/\AvOK A w/\Ch (zAH v0) w0 w/\(∀ b o,A0 b o->A b o)/\IniOK [ob v0 (.vec B0 69 zA0 y6)] A w/\R 0=v0/\R 3=.int .i64 y5) fu ⟨_,_,_,q3,d,j,B,q,h0,h3⟩ ?_
 have hr0:=c;clear c q3
 rintro k R w ⟨A,y5,y6,c,d,j,B,q,h0,h3⟩
 rcases k with _ | k
 cases (show none=some _ from c)
 rw [zAW] at c
 refine zQ0 ?_
 refine zQ0 ?_
 refine zQ3 (eI y5::eR v0::eI (y6.length:Int)::eB (decide (y5<(y6.length:Int)))::[]) ?_ ?_
 exact om h3<|om h0<|op (fun Q U W H D=>zFo (q.ok 0 _ Z).1 (D.g 0 Z) underlying44)<|op (fun Q U W H D=>zBS (D.g 0 Z) (D.g 1 Z))<|oz
 intro R w m n p
 obtain ⟨h0,h3⟩:=k2 n h0 h3
 have h13:=p.r 3 Z
 replace q:=q.fr m
 replace d:=d.fr m.size
 replace j:=j.tr (m.ch noB) fun _ h=>False.elim h
 refine zPt (decide (y5<(y6.length:Int))) h13 (fun c7=>?_) (fun c7=>?_)
 have c:=zAh c7 c
 refine HT.skip<|zQ0 ?_
 refine HT.block<|zQ0 ?_
 obtain ⟨e8,e9,e10,c⟩:=ck3 c
 refine zPw (by kernel_rfl) (l:=eR v0::eI y5::eR (vptr v0 (y5.toNat*3))::eF (.rep zA0 A (gtD y6 y5))::eR v0::eI y5::eI (y5-1)::eR (vptr v0 ((y5-1).toNat*3))::eF (.rep zA0 A (gtD y6 (y5-1)))::eB ((gtD y6 y5)==(gtD y6 (y5-1)))::[]) (tl:=[]) (by kernel_rfl) (by kernel_rfl) (by kernel_rfl) (by kernel_rfl) ?_ ?_
 exact om h0<|om h3<|op (fun Q U W H D=>zD7 (q.ok 0 _ Z).1 (D.g 0 Z) (D.g 1 Z) underlying44 sizeOf69 e8 Z)<|op (fun Q U W H D=>(zEQ ((q.fr W).ok 0 _ Z).1 (D.g 0 Z) e8 Z (Fld.id _) Z isAgg69 sizeOf69))<|om h0<|om h3<|op (fun Q U W H D=>zGm (D.g 0 Z) Z e9)<|op (fun Q U W H D=>zD7 (q.ok 0 _ Z).1 (D.g 0 Z) (D.g 1 Z) underlying44 sizeOf69 e10 Z)<|op (fun Q U W H D=>(zEQ ((q.fr W).ok 0 _ Z).1 (D.g 0 Z) e10 Z (Fld.id _) Z isAgg69 sizeOf69))<|op (fun Q U W H D=>zEg eqGuardType69 (zDh (D.g 0 Z)) (zDh (D.g 1 Z)) (zNr (gtD y6 y5) (gtD y6 (y5-1)) _))<|oz
 intro R w m n p
 obtain ⟨h0,h3⟩:=k2 n h0 h3
 have h25:=p.r 9 Z
 replace q:=q.fr m
 replace d:=d.fr m.size
 replace j:=j.tr (m.ch noB) fun _ h=>False.elim h
 refine zPt ((gtD y6 y5)==(gtD y6 (y5-1))) h25 (fun c11=>?_) (fun c11=>?_)
 have c:=zAh c11 c
 refine zQ0 ?_
 obtain ⟨e12,c⟩:=zAC c
 obtain ⟨x13,q14,c⟩:=zAf c
 refine zQ3 (eR v0::eI y5::eR (vsub v0 y5.toNat x13 3)::eR (vsub v0 y5.toNat x13 3)::[]) ?_ ?_
 exact om h0<|om h3<|op (fun Q U W H D=>(q14 ▸ zKY (q.ok 0 _ Z).1 (D.g 0 Z) (D.g 1 Z) underlying44 sizeOf69 e12))<|oa<|oz
 intro R w m n p
 obtain ⟨h0,h3⟩:=k2 n h0 h3
 have h4:=p.r 3 Z
 replace q:=q.fr m
 replace d:=d.fr m.size
 replace j:=j.tr (m.ch noB) fun _ h=>False.elim h
 refine zQ0 ?_
 refine zQ0 ?_
 refine zQ3 (eI 1::[]) ?_ ?_
 exact op (fun Q U W H D=>zA9 Z)<|oz
 intro R w m n p
 obtain ⟨h0,h3,h4⟩:=k3 n h0 h3 h4
 have h5:=p.r 0 Z
 replace q:=q.fr m
 replace d:=d.fr m.size
 replace j:=j.tr (m.ch noB) fun _ h=>False.elim h
 obtain ⟨rl15,q16,c⟩:=zAB c
 replace q16:=q16 Z
 refine zPv (fun R w=>∃ A:Av,∃ (s17:Int × (List zAA)),rl15=s17/\AvOK A w/\Ch (zAH v0) w0 w/\(∀ b o,A0 b o->A b o)/\IniOK [ob v0 (.vec B0 69 zA0 s17.2)] A w/\R 0=v0/\R 3=.int .i64 s17.1) ?_ ?_
 refine HT.block<|zPz (fun k R w=>∃ A:Av,∃ (y18:Int) (y19:Int) (y20:List zAA),zAX fu y5 x13 k y18 y19 y20=some rl15/\AvOK A w/\Ch (zAH v0) w0 w/\(∀ b o,A0 b o->A b o)/\IniOK [ob v0 (.vec B0 69 zA0 y20)] A w/\R 0=v0/\R 3=.int .i64 y18/\R 4=(vsub v0 y5.toNat x13 3)/\R 5=.int .i64 y19) fu ⟨_,_,_,_,q16,d,j,B,q,h0,h3,h4,h5⟩ ?_
 have hr1:=c;clear c q16
 rintro k R w ⟨A,y18,y19,y20,c,d,j,B,q,h0,h3,h4,h5⟩
 rcases k with _ | k
 cases (show none=some _ from c)
 rw [zAX] at c
 refine zQ0 ?_
 refine zQ0 ?_
 refine zQ3 (eI y19::eR (vsub v0 y5.toNat x13 3)::eI (x13:Int)::eB (decide (y19<(x13:Int)))::[]) ?_ ?_
 exact om h5<|om h4<|op (fun Q U W H D=>zKV (q.ok 0 _ Z).1 (D.g 0 Z) underlying44)<|op (fun Q U W H D=>zBS (D.g 0 Z) (D.g 1 Z))<|oz
 intro R w m n p
 obtain ⟨h0,h3,h4,h5⟩:=k4 n h0 h3 h4 h5
 have h32:=p.r 3 Z
 replace q:=q.fr m
 replace d:=d.fr m.size
 replace j:=j.tr (m.ch noB) fun _ h=>False.elim h
 refine zPt (decide (y19<(x13:Int))) h32 (fun c21=>?_) (fun c21=>?_)
 have c:=zAh c21 c
 refine HT.skip<|zQ0 ?_
 refine HT.block<|zQ0 ?_
 obtain ⟨e22,e23,e24,e25,c⟩:=ck4 c
 obtain ⟨e26,e27,e28,c⟩:=ck3 c
 refine zPw (by kernel_rfl) (l:=eR (vsub v0 y5.toNat x13 3)::eI y19::eR (vptr v0 ((y5+y19).toNat*3))::eF (.rep zA0 A (gtD y20 (y5+y19)))::eR (vsub v0 y5.toNat x13 3)::eI y19::eI (y19-1)::eR (vptr v0 ((y5+(y19-1)).toNat*3))::eF (.rep zA0 A (gtD y20 (y5+(y19-1))))::eB (!((gtD y20 (y5+y19))==(gtD y20 (y5+(y19-1)))))::[]) (tl:=[]) (by kernel_rfl) (by kernel_rfl) (by kernel_rfl) (by kernel_rfl) ?_ ?_
 exact om h4<|om h5<|op (fun Q U W H D=>zEr (q.ok 0 _ Z).1 (D.g 0 Z) (D.g 1 Z) underlying44 sizeOf69 e22 e23 e24 Z)<|op (fun Q U W H D=>(zEQ ((q.fr W).ok 0 _ Z).1 (D.g 0 Z) e24 Z (Fld.id _) Z isAgg69 sizeOf69))<|om h4<|om h5<|op (fun Q U W H D=>zGm (D.g 0 Z) Z e25)<|op (fun Q U W H D=>zEr (q.ok 0 _ Z).1 (D.g 0 Z) (D.g 1 Z) underlying44 sizeOf69 e26 e27 e28 Z)<|op (fun Q U W H D=>(zEQ ((q.fr W).ok 0 _ Z).1 (D.g 0 Z) e28 Z (Fld.id _) Z isAgg69 sizeOf69))<|op (fun Q U W H D=>zHJ eqGuardType69 (zDh (D.g 0 Z)) (zDh (D.g 1 Z)) (zPG (gtD y20 (y5+y19)) (gtD y20 (y5+(y19-1))) _))<|oz
 intro R w m n p
 obtain ⟨h0,h3,h4,h5⟩:=k4 n h0 h3 h4 h5
 have h44:=p.r 9 Z
 replace q:=q.fr m
 replace d:=d.fr m.size
 replace j:=j.tr (m.ch noB) fun _ h=>False.elim h
 refine zPt (!((gtD y20 (y5+y19))==(gtD y20 (y5+(y19-1))))) h44 (fun c29=>?_) (fun c29=>?_)
 have c:=zAh c29 c
 obtain ⟨e30,e31,e32,e33,c⟩:=ck4 c
 refine zQ2 [ob v0 (.vec B0 69 zA0 y20)] (rR v0::rI y18::rR (vsub v0 y5.toNat x13 3)::rI y19::rR (vptr v0 ((y5+y19).toNat*3))::(rF fun A=>.rep zA0 A (gtD y20 (y5+y19)))::rR (vptr v0 (y18.toNat*3))::⟨_,true,[0],some (.vec B0 69 zA0 (y20.set y18.toNat (gtD y20 (y5+y19)))),false,fun A=>.any⟩::[]) (ur (ur (ur (ur (ur (up (ur (ua (UAll.nil))))))))) q d ?_ ?_
 exact rm h0<|rm h3<|rm h4<|rm h5<|rp (fun V Q U O D=>zEr (q.ok 0 _ Z).1 (D.g 0 Z) (D.g 1 Z) underlying44 sizeOf69 e30 e31 e32 Z)<|rp (fun V Q U O D=>(zEQ (O.rd 0 _ Z Z) (D.g 0 Z) e32 Z (Fld.id _) Z isAgg69 sizeOf69))<|rp (fun V Q U O D=>zD7 (q.ok 0 _ Z).1 (D.g 0 Z) (D.g 1 Z) underlying44 sizeOf69 e33 Z)<|rc (OblR.took 0 _ _ Z Z Z Z Z fun V Q U O D u X Y J L M=>by have a0:Q 51=(vptr v0 (y18.toNat*3)):=D.g 0 Z;have a1:Rep zA0 V U (Q 50) (gtD y20 (y5+y19)):=D.g 1 Z;obtain rfl:=J _ Z;exact zH5 a1 X Y a0 e33 Z (FldS.id _) sizeOf69 Z)<|rz
 intro done ρ σ A R w y s
 obtain ⟨h0,h3,h4,h5⟩:=k4 s.rg h0 h3 h4 h5
 have z34:=s.inivR 0 Z
 have z35:=s.on y 8 7 Z Z Z Z Z z34
 replace B:=s.lowK B C K (q.geK (⟨.inr (fun k h=>.inr h),N⟩))
 replace j:Ch (zAH v0) w0 w:=j.tr s.ch (q.geK (⟨.inr (fun k h=>.inr h),N⟩))
 replace q:=s.left y [(8,ob v0 (.vec B0 69 zA0 (y20.set y18.toNat (gtD y20 (y5+y19)))))] ⟨Z,Z,z35,Z,Z,N⟩
 replace d:=s.avok
 obtain ⟨e36,c⟩:=zAC c
 refine zQ3 (eI y18::eI (y18+1)::eI (y18+1)::[]) ?_ ?_
 exact om h3<|op (fun Q U W H D=>zAi (D.g 0 Z) Z e36)<|oa<|oz
 intro R w m n p
 obtain ⟨h0,h4,h5⟩:=k3 n h0 h4 h5
 have h3:=p.r 2 Z
 replace q:=q.fr m
 replace d:=d.fr m.size
 replace j:=j.tr (m.ch noB) fun _ h=>False.elim h
 obtain ⟨e37,c⟩:=zAC c
 refine zQ3 (eI y19::eI (y19+1)::eI (y19+1)::[]) ?_ ?_
 exact om h5<|op (fun Q U W H D=>zAi (D.g 0 Z) Z e37)<|oa<|oz
 intro R w m n p
 obtain ⟨h0,h3,h4⟩:=k3 n h0 h3 h4
 have h5:=p.r 2 Z
 replace q:=q.fr m
 replace d:=d.fr m.size
 replace j:=j.tr (m.ch noB) fun _ h=>False.elim h
 exact ei k (And.intro (Nat.lt_succ_self k) ⟨_,_,_,_,c,d,j,B,q,h0,h3,h4,h5⟩)
 have c:=zAg c29 c
 refine HT.skip ?_
 obtain ⟨e38,c⟩:=zAC c
 refine zQ3 (eI y19::eI (y19+1)::eI (y19+1)::[]) ?_ ?_
 exact om h5<|op (fun Q U W H D=>zAi (D.g 0 Z) Z e38)<|oa<|oz
 intro R w m n p
 obtain ⟨h0,h3,h4⟩:=k3 n h0 h3 h4
 have h5:=p.r 2 Z
 replace q:=q.fr m
 replace d:=d.fr m.size
 replace j:=j.tr (m.ch noB) fun _ h=>False.elim h
 exact ei k (And.intro (Nat.lt_succ_self k) ⟨_,_,_,_,c,d,j,B,q,h0,h3,h4,h5⟩)
 have c:=zAg c21 c
 refine zPy ?_
 obtain rfl:=si c
 exact ei _ ⟨_,Z,d,j,B,q,h0,h3⟩
 rintro R w ⟨A,s17,es,d,j,B,q,h0,h3⟩
 obtain rfl:=es.symm
 refine zQ0 ?_
 obtain ⟨e39,c⟩:=zAC c
 obtain ⟨x40,q41,c⟩:=zAf c
 obtain ⟨e42,e43,c⟩:=ck2 c
 refine zQ5 [ob v0 (.vec B0 69 zA0 s17.2)] (rR v0::rI s17.1::rR (vsub v0 s17.1.toNat x40 3)::⟨_,true,[0],some (.vec B0 69 zA0 (s17.2.take s17.1.toNat++List.replicate (s17.2.length-s17.1.toNat) (0,(0,false)))),false,fun A=>.any⟩::[]) (ur (ur (ur (ua (UAll.nil))))) q d ?_ ?_
 exact rm h0<|rm h3<|rp (fun V Q U O D=>(q41 ▸ zKY (q.ok 0 _ Z).1 (D.g 0 Z) (D.g 1 Z) underlying44 sizeOf69 e39))<|rc (OblR.took 0 _ _ Z Z Z Z Z fun V Q U O D u X Y J L M=>by have a0:Q 56=(vsub v0 s17.1.toNat x40 3):=D.g 0 Z;obtain rfl:=J _ Z;exact zLK a0 X Y underlying44 Z zeroValue69 (fun A w=>zAy zAP (zAy zAP zDQ)) e42 e43 Z)<|rz
 intro done ρ σ A R w y s
 obtain ⟨h0,h3⟩:=k2 s.rg h0 h3
 have z44:=s.inivR 0 Z
 have z45:=s.on y 4 3 Z Z Z Z Z z44
 replace B:=s.lowK B C K (q.geK (⟨.inr (fun k h=>.inr h),N⟩))
 replace j:Ch (zAH v0) w0 w:=j.tr s.ch (q.geK (⟨.inr (fun k h=>.inr h),N⟩))
 replace q:=s.left y [(4,ob v0 (.vec B0 69 zA0 (s17.2.take s17.1.toNat++List.replicate (s17.2.length-s17.1.toNat) (0,(0,false)))))] ⟨Z,Z,z45,Z,Z,N⟩
 replace d:=s.avok
 obtain ⟨Yg45,g_Yg45⟩:∃ z:List zAA,z=(s17.2.take s17.1.toNat++List.replicate (s17.2.length-s17.1.toNat) (0,(0,false))):=⟨_,Z⟩
 rw [<- g_Yg45] at q
 try rw [<- g_Yg45] at c
 obtain ⟨e47,c⟩:=zAC c
 refine zQ2 [ob v0 (.vec B0 69 zA0 Yg45)] (rR v0::rI s17.1::⟨_,true,[0],some (.vec B0 69 zA0 (subL Yg45 0 s17.1)),true,fun A=>.any⟩::⟨_,true,[3],some (.vec B0 69 zA0 (subL Yg45 0 s17.1)),true,fun A=>.any⟩::[]) (ur (ur (ua (ua (UAll.nil))))) q d ?_ ?_
 exact rm h0<|rm h3<|rc (OblR.took 0 _ _ Z Z Z Z Z fun V Q U O D u X Y J L M=>by have a0:Q 57=v0:=D.g 0 Z;have a1:Q 58=.int .i64 s17.1:=D.g 1 Z;exact zKF (a0.trans (J _ Z).symm) X Y a1 underlying44 sizeOf69 e47 Z)<|rc (OblR.took 3 _ _ Z Z Z Z Z fun V Q U O D u X Y J L M=>by exact zCQ (L _ _ Z Z Z Z).symm X Y)<|rz
 intro done ρ σ A R w y s
 obtain ⟨u48,e_u48⟩:∃ u,ρ 4=u:=⟨_,Z⟩
 have h2:=s.ov y 4 3 e_u48
 have hK_u48:∀ k,zAH u48 k->w0.heap.size<=k\/(zAH v0) k:=s.geK y 4 Z Z Z e_u48 (q.geK (⟨.inr (fun k h=>.inr h),N⟩)) j.size
 replace B:=s.lowK B C K (q.geK (⟨.inr (fun k h=>.inr h),N⟩))
 replace j:Ch (zAH v0) w0 w:=j.tr s.ch (q.geK (⟨.inr (fun k h=>.inr h),N⟩))
 replace q:=s.left y [(4,ob u48 (.vec B0 69 zA0 (subL Yg45 0 s17.1)))] ⟨Z,Z,e_u48,Z,Z,N⟩
 replace d:=s.avok
 refine HT.ret ?_
 obtain rfl:=si c
 have c:=hr0
 replace c:some _=some _:=c
 obtain rfl:=si c
 exact ⟨.inr Z,[R 2],⟨Z,N⟩,by show Took _ true _ _ _ w0 (R 2) w;rw [h2];exact zGR (fun k h o=>.inr h) j (q.ok 0 _ Z).1 (q.own_ge (⟨.inr hK_u48,N⟩) (i:=0) Z) (fun _ _ _ _ _ h=>h)⟩
 have c:=zAg c11 c
 refine HT.skip ?_
 obtain ⟨e49,c⟩:=zAC c
 refine zQ3 (eI y5::eI (y5+1)::eI (y5+1)::[]) ?_ ?_
 exact om h3<|op (fun Q U W H D=>zAi (D.g 0 Z) Z e49)<|oa<|oz
 intro R w m n p
 replace h0:=k1 n h0
 have h3:=p.r 2 Z
 replace q:=q.fr m
 replace d:=d.fr m.size
 replace j:=j.tr (m.ch noB) fun _ h=>False.elim h
 exact ei k (And.intro (Nat.lt_succ_self k) ⟨_,_,_,c,d,j,B,q,h0,h3⟩)
 have c:=zAg c7 c
 refine zPy ?_
 obtain rfl:=si c
 exact ei _ ⟨_,Z,d,j,B,q,h0⟩
 rintro R w ⟨A,s4,rfl,d,j,B,q,h0⟩
 have c:=zEG c
 refine zQ0 ?_
 refine zQ3 (eR v0::eR v0::[]) ?_ ?_
 exact om h0<|oa<|oz
 intro R w m n p
 have h2:=p.r 1 Z
 replace q:=q.fr m
 replace d:=d.fr m.size
 replace j:=j.tr (m.ch noB) fun _ h=>False.elim h
 refine HT.ret ?_
 obtain rfl:=si c
 exact ⟨.inr Z,[R 2],⟨Z,N⟩,by show Took _ true _ _ _ w0 (R 2) w;rw [h2];exact zGR (fun k h o=>.inr h) j (q.ok 0 _ Z).1 (q.own_ge (⟨.inr (fun k h=>.inr h),N⟩) (i:=0) Z) (fun _ _ _ _ _ h=>h)⟩
def zB8 (fu : Nat) (x6 : List zAA) : Nat -> Int -> (List zAA) -> Option (List zAA)
 | 0,_,_=>none
 | k+1,y13,y14=>
 bif (decide (y13<(x6.length:Int))) then (
 ck (inR y13 y14.length) <|
 ck (i64B (y13+1)) <|
 zB8 fu x6 k (y13+1) (y14.set y13.toNat ((gtD y14 y13).1,(gtD y14 y13).2.1,false))
 ) else (
 some y14
 )
def zBp (fu:Nat) (p0:zAD):Option (List zAA):=
 cl true (zCO fu p0) fun x2=>
 bif (!x2) then (
 some ([]:List zAA)
 ) else (
 cl true (zE7 fu p0) fun x6=>
 cl true (zB8 fu x6 fu 0 x6) fun s12=>
 cl true (zJN fu s12 (fun x y=>zBU fu x y)) fun x20=>
 cl true (zBD fu x20) fun x24=>
 some x24
 )
theorem zFR {fu : Nat} {A0 : Av} {p0 : zAD} {r : List zAA} (c : zBp fu p0 = some r) {w : World} {v0 : Value} (d : AvOK A0 w) (h0 : Rep zA2 A0 w v0 p0) :
 Calls prog 21 #[v0] w fun e w'=>∃ v,e=.returned v/\((Res.vec w.heap.size 69 zA0 r).ok (addA A0 v) v w'/\Fr w w'):=by
 unfold zBp at c
 obtain ⟨w0,hw0,j,C⟩:=pw d
 have hA00:AvOK A0 w0:=C
 rw [fh hw0]
 rw [fw hw0]
 obtain ⟨A,hAe,B,d,q⟩:=pa d
 refine zAE [.tmp 2] func21 ntmps21 (by decide) Z Z (nb Z) ?_
 intro R hR
 have f_v0:Rep zA2 A w v0 p0:=hAe ▸ h0
 replace h0:R 0=v0:=hR 0 _ Z
 refine zQ2 [] (⟨_,true,[],some (.box w0.heap.size 26 zA2 p0),true,fun A=>.any⟩::rA::[]) (ua (ua (UAll.nil))) q d ?_ ?_
 exact rc (OblR.made _ Z Z Z Z fun V Q U O D=>by have a0:Q 0=v0:=(O.old 0 Z).trans h0;have ra0:=(f_v0.stp O.stp).eq a0;exact zAx ra0 (Nat.le_trans j.size O.ch.size))<|rp (fun V Q U O D=>zA9 N)<|rz
 intro done ρ σ A R w y s
 obtain ⟨b1_0,e_b1_0⟩:=s.boxv y 0 Z Z
 have h1:=s.ov y 0 0 e_b1_0
 obtain ⟨B,j,d⟩:=s.s B C j q N
 replace q:=s.left y [(0,ob (.pointer (some ⟨b1_0,0,none⟩)) (.box w0.heap.size 26 zA2 p0))] ⟨Z,Z,e_b1_0,Z,Z,N⟩
 refine zQ0 ?_
 obtain ⟨x2,q3,c⟩:=zAB c
 refine zQ1 d j (eF (.rep zA2 A p0)::eB x2::eB (!x2)::[]) ?_ ?_
 exact op (fun Q U W H D=>(zA7 ((q.fr W).ok 0 _ Z).1 ((H 1 Z).trans h1) (Fld.id _) Z isAgg26 sizeOf26))<|op (fun Q U W H D=>zAN call25 (zDz (q3 Z) (d.fr W.size) (D.g 0 Z)))<|op (fun Q U W H D=>zCM (D.g 0 Z))<|oz
 intro R w m n p d j
 replace h1:=k1 n h1
 have h7:=p.r 2 Z
 replace q:=q.fr m
 refine zPt (!x2) h7 (fun c4=>?_) (fun c4=>?_)
 have c:=zAh c4 c
 refine zQ1 d j (eR (.slice none 0 0)::[]) ?_ ?_
 exact op (fun Q U W H D=>zA9 Z)<|oz
 intro R w m n p d j
 obtain ⟨u5,n_u5⟩:∃ u,u=Value.slice none 0 0:=⟨_,Z⟩
 have h2:R 2=u5:=(p 0 _ _ Z Z Z).trans n_u5.symm
 replace q:=q.fr m
 replace q:IniOK [] A w:=q.sub [] N
 replace q:=q.nilcons (u:=u5) n_u5 w0.heap.size 69 zA0
 refine HT.ret ?_
 obtain rfl:=si c
 exact ⟨.inr Z,[R 2],⟨Z,N⟩,(zGX (q.ok 0 _ Z) B h2),j⟩
 have c:=zAg c4 c
 refine HT.skip ?_
 obtain ⟨x6,q7,c⟩:=zAB c
 refine zQ2 [ob (.pointer (some ⟨b1_0,0,none⟩)) (.box w0.heap.size 26 zA2 p0)] ((rF fun A=>.rep zA2 A p0)::⟨_,true,[],some (.vec w0.heap.size 69 zA0 x6),true,fun A=>.any⟩::⟨_,true,[2],some (.vec w0.heap.size 69 zA0 x6),true,fun A=>.any⟩::[]) (up (ua (ua (UAll.nil)))) q d ?_ ?_
 exact rp (fun V Q U O D=>(zA7 (O.rd 0 _ Z Z) ((O.old 1 Z).trans h1) (Fld.id _) Z isAgg26 sizeOf26))<|rc (OblR.made _ Z Z Z Z fun V Q U O D=>by have a0:Rep zA2 V U (Q 8) p0:=D.g 0 Z;exact zMc call51 (zH7 (q7 Z) O.av a0) (Nat.le_trans j.size O.ch.size))<|rc (OblR.took 2 _ _ Z Z Z Z Z fun V Q U O D u X Y J L M=>by exact zCQ (L _ _ Z Z Z Z).symm X Y)<|rz
 intro done ρ σ A R w y s
 have z8:=s.inivR 0 Z
 obtain ⟨u9,e_u9⟩:∃ u,ρ 3=u:=⟨_,Z⟩
 have h3:=s.ov y 3 2 e_u9
 obtain ⟨B,j,d⟩:=s.s B C j q ⟨Z,N⟩
 replace q:=s.left y [(3,ob u9 (.vec w0.heap.size 69 zA0 x6))] ⟨Z,Z,e_u9,Z,Z,N⟩
 refine zQ0 ?_
 refine zQ1 d j (eR u9::eI (x6.length:Int)::eI 0::[]) ?_ ?_
 exact om h3<|op (fun Q U W H D=>zFo (q.ok 0 _ Z).1 (D.g 0 Z) underlying44)<|op (fun Q U W H D=>zBd Z)<|oz
 intro R w m n p d j
 replace h3:=k1 n h3
 have h11:=p.r 1 Z
 have h12:=p.r 2 Z
 replace q:=q.fr m
 obtain ⟨rl10,q11,c⟩:=zAB c
 replace q11:=q11 Z
 refine zPv (fun R w=>∃ A:Av,∃ (s12:(List zAA)),rl10=s12/\AvOK A w/\Fr w0 w/\(∀ b o,A0 b o->A b o)/\IniOK [ob u9 (.vec w0.heap.size 69 zA0 s12)] A w/\R 3=u9) ?_ ?_
 refine HT.block<|zPz (fun k R w=>∃ A:Av,∃ (y13:Int) (y14:List zAA),zB8 fu x6 k y13 y14=some rl10/\AvOK A w/\Fr w0 w/\(∀ b o,A0 b o->A b o)/\IniOK [ob u9 (.vec w0.heap.size 69 zA0 y14)] A w/\R 3=u9/\R 11=.int .i64 (x6.length:Int)/\R 12=.int .i64 y13) fu ⟨_,_,_,q11,d,j,B,q,h3,h11,h12⟩ ?_
 have hr0:=c;clear c q11
 rintro k R w ⟨A,y13,y14,c,d,j,B,q,h3,h11,h12⟩
 rcases k with _ | k
 cases (show none=some _ from c)
 rw [zB8] at c
 refine zQ1 d j (eB (decide (y13<(x6.length:Int)))::[]) ?_ ?_
 exact op (fun Q U W H D=>zBS ((H 12 Z).trans h12) ((H 11 Z).trans h11))<|oz
 intro R w m n p d j
 obtain ⟨h3,h11,h12⟩:=k3 n h3 h11 h12
 have h13:=p.r 0 Z
 replace q:=q.fr m
 refine zQ0 ?_
 refine zPt (decide (y13<(x6.length:Int))) h13 (fun c15=>?_) (fun c15=>?_)
 have c:=zAh c15 c
 refine HT.skip<|zQ0 ?_
 refine HT.block<|zQ1 d j (eI y13::eI y13::[]) ?_ ?_
 exact om h12<|oa<|oz
 intro R w m n p d j
 obtain ⟨h3,h11,h12⟩:=k3 n h3 h11 h12
 have h4:=p.r 1 Z
 replace q:=q.fr m
 obtain ⟨e16,c⟩:=zAC c
 refine zQ5 [ob u9 (.vec w0.heap.size 69 zA0 y14)] (rR u9::rI y13::rR (vptr u9 (y13.toNat*3))::rR (vptr u9 (y13.toNat*3+2))::⟨_,true,[0],some (.vec w0.heap.size 69 zA0 (y14.set y13.toNat ((gtD y14 y13).1,(gtD y14 y13).2.1,false))),false,fun A=>.any⟩::[]) (ur (ur (ur (ur (ua (UAll.nil)))))) q d ?_ ?_
 exact rm h3<|rm h4<|rp (fun V Q U O D=>zD7 (q.ok 0 _ Z).1 (D.g 0 Z) (D.g 1 Z) underlying44 sizeOf69 e16 Z)<|rp (fun V Q U O D=>zHm (O.rd 0 _ Z Z) (zOs e16) (D.g 0 Z) zFM sizeOf4 (by decide) Z)<|rc (OblR.took 0 _ _ Z Z Z Z Z fun V Q U O D u X Y J L M=>by have a0:Q 18=(vptr u9 (y13.toNat*3+2)):=D.g 0 Z;obtain rfl:=J _ Z;exact zH5 (zHr.eq Z) X Y a0 e16 Z zGl sizeOf4 Z)<|rz
 intro done ρ σ A R w y s
 obtain ⟨h3,h11,h12⟩:=k3 s.rg h3 h11 h12
 have z17:=s.inivR 0 Z
 have z18:=s.on y 5 4 Z Z Z Z Z z17
 obtain ⟨B,j,d⟩:=s.s B C j q ⟨Z,N⟩
 replace q:=s.left y [(5,ob u9 (.vec w0.heap.size 69 zA0 (y14.set y13.toNat ((gtD y14 y13).1,(gtD y14 y13).2.1,false))))] ⟨Z,Z,z18,Z,Z,N⟩
 obtain ⟨e19,c⟩:=zAC c
 refine HT.u d j (eI (y13+1)::eI (y13+1)::[]) ?_ ?_
 exact op (fun Q U W H D=>zAi ((H 12 Z).trans h12) Z e19)<|ov<|oz
 intro R w m n p d j
 obtain ⟨h3,h11⟩:=k2 n h3 h11
 have h12:=p.r 1 Z
 replace q:=q.fr m
 exact ei k (And.intro (Nat.lt_succ_self k) ⟨_,_,_,c,d,j,B,q,h3,h11,h12⟩)
 have c:=zAg c15 c
 refine zPy ?_
 obtain rfl:=si c
 exact ei _ ⟨_,Z,d,j,B,q,h3⟩
 rintro R w ⟨A,s12,es,d,j,B,q,h3⟩
 obtain rfl:=es.symm
 obtain ⟨x20,q21,c⟩:=zAB c
 refine zQ2 [ob u9 (.vec w0.heap.size 69 zA0 s12)] (rR u9::⟨_,true,[0],some (.vec w0.heap.size 69 zA0 x20),false,fun A=>.any⟩::[]) (ur (ua (UAll.nil))) q d ?_ ?_
 exact rm h3<|rc (OblR.took 0 _ _ Z Z Z Z Z fun V Q U O D u X Y J L M=>by have a0:Q 20=u9:=D.g 0 Z;have hu0:zAM Q (.tmp 20)=u:=a0.trans (J _ Z).symm;exact zMV call52 Y (fun _ _ _ _ _ h=>h) (by simp only [List.map,hu0];exact Calls.mono (zKL (q21 Z) (O.av.sub _) (fun b o h=>h.2) (Vec.flat X (fun _ _ _ _ _ h=>h)) (zOA [] Z call53 (fun x y r hr' w'' a b p hA' ha hb=>zF8 hr' hA' ha hb))) (fun _ _ ⟨v,h1,h2,h3,h4⟩=>⟨v,h1,N,h3,h4⟩)))<|rz
 intro done ρ σ A R w y s
 replace h3:=k1 s.rg h3
 have z22:=s.inivR 0 Z
 have z23:=s.on y 2 1 Z Z Z Z Z z22
 obtain ⟨B,j,d⟩:=s.s B C j q ⟨Z,N⟩
 replace q:=s.left y [(2,ob u9 (.vec w0.heap.size 69 zA0 x20))] ⟨Z,Z,z23,Z,Z,N⟩
 obtain ⟨x24,q25,c⟩:=zAB c
 refine zQ2 [ob u9 (.vec w0.heap.size 69 zA0 x20)] (rR u9::⟨_,true,[0],some (.vec w0.heap.size 69 zA0 x24),true,fun A=>.any⟩::⟨_,true,[2],some (.vec w0.heap.size 69 zA0 x24),true,fun A=>.any⟩::[]) (ur (ua (ua (UAll.nil)))) q d ?_ ?_
 exact rm h3<|rc (OblR.took 0 _ _ Z Z Z Z Z fun V Q U O D u X Y J L M=>by have a0:Q 22=u9:=D.g 0 Z;have hu0:zAM Q (.tmp 22)=u:=a0.trans (J _ Z).symm;exact zIf call56 Y (by simp only [List.map,hu0];exact zE3 (q25 Z) (O.av.sub _) (fun b o h=>h.2) (Vec.flat X (fun _ _ _ _ _ h=>h))))<|rc (OblR.took 2 _ _ Z Z Z Z Z fun V Q U O D u X Y J L M=>by exact zCQ (L _ _ Z Z Z Z).symm X Y)<|rz
 intro done ρ σ A R w y s
 obtain ⟨u26,e_u26⟩:∃ u,ρ 3=u:=⟨_,Z⟩
 have h2:=s.ov y 3 2 e_u26
 obtain ⟨B,j,d⟩:=s.s B C j q ⟨Z,N⟩
 replace q:=s.left y [(3,ob u26 (.vec w0.heap.size 69 zA0 x24))] ⟨Z,Z,e_u26,Z,Z,N⟩
 refine HT.ret ?_
 obtain rfl:=si c
 exact ⟨.inr Z,[R 2],⟨Z,N⟩,(zGX (q.ok 0 _ Z) B h2),j⟩
theorem zE1 {fu : Nat} {A0 : Av} {p0 : zAD} {r : List zAA} (c : zBp fu p0 = some r) {w : World} {v0 : Value} (d : AvOK A0 w) (h0 : Rep zA2 A0 w v0 p0) :
 Calls prog 21 #[v0] w fun e w'=>∃ v,e=.returned v/\(Rep (eSl zA0) A0 w' v r/\Fr w w'):=by
 refine Calls.mono (zFR c d h0) ?_
 rintro e w' ⟨v,he,hv,hf⟩
 exact ⟨v,he,zIy hv (fun b o h=>.inl h) d,hf⟩
def zAk (fu : Nat) (p0 : List zAA) (p1 : zAA) : Nat -> Int -> Option (Ex Int Unit)
 | 0,_=>none
 | k+1,y5=>
 bif (decide (y5<(p0.length:Int))) then (
 ck (inR y5 p0.length) <|
 bif (p1==(gtD p0 y5)) then (
 some (Ex.ret y5)
 ) else (
 ck (i64B (y5+1)) <|
 zAk fu p0 p1 k (y5+1)
 )
 ) else (
 some (Ex.go ())
 )
def zB1 (fu:Nat) (p0:List zAA) (p1:zAA):Option Int:=
 cl true (zAk fu p0 p1 fu 0) fun rl2=>
 exM rl2 (fun r=>some r) fun s4=>
 some (-1)
theorem zED {fu : Nat} {A0 : Av} {p0 : List zAA} {p1 : zAA} {r : Int} (c : zB1 fu p0 p1 = some r) {w : World} {v0 : Value} {v1 : Value} (d : AvOK A0 w) (h0 : Rep (eSl zA0) A0 w v0 p0) (h1 : Rep zA0 A0 w v1 p1) :
 Calls prog 79 #[v0,v1] w fun e w'=>∃ v,e=.returned v/\(v=.int .i64 r/\Fr w w'):=by
 unfold zB1 at c
 obtain ⟨w0,hw0,j,C⟩:=pw d
 have hA00:AvOK A0 w0:=C
 rw [fw hw0]
 obtain ⟨A,hAe,B,d,q⟩:=pa d
 refine zAE [.tmp 4] func79 ntmps79 (by decide) Z Z (nb Z) ?_
 intro R hR
 have f_v0:Rep (eSl zA0) A w v0 p0:=hAe ▸ h0
 replace h0:R 0=v0:=hR 0 _ Z
 have f_v1:Rep zA0 A w v1 p1:=hAe ▸ h1
 replace h1:R 1=v1:=hR 1 _ Z
 refine zQ2 [] (⟨_,true,[],some (.box w0.heap.size 69 zA0 p1),true,fun A=>.any⟩::rI 0::[]) (ua (ur (UAll.nil))) q d ?_ ?_
 exact rc (OblR.made _ Z Z Z Z fun V Q U O D=>by have a0:Q 1=v1:=(O.old 1 Z).trans h1;have ra0:=(f_v1.stp O.stp).eq a0;exact zAx ra0 (Nat.le_trans j.size O.ch.size))<|rp (fun V Q U O D=>zA9 Z)<|rz
 intro done ρ σ A R w y s
 replace h0:=k1 s.rg h0
 obtain ⟨b3_0,e_b3_0⟩:=s.boxv y 0 Z Z
 have h3:=s.ov y 0 0 e_b3_0
 replace f_v0:=f_v0.stp s.stp
 obtain ⟨B,j,d⟩:=s.s B C j q N
 replace q:=s.left y [(0,ob (.pointer (some ⟨b3_0,0,none⟩)) (.box w0.heap.size 69 zA0 p1))] ⟨Z,Z,e_b3_0,Z,Z,N⟩
 refine zQ0 ?_
 refine zQ1 d j (eR v0::eI (p0.length:Int)::eI 0::[]) ?_ ?_
 exact om h0<|op (fun Q U W H D=>zAY (aT:=#[]) ((f_v0.fr W).eq (D.g 0 Z)) underlying44)<|op (fun Q U W H D=>zBd Z)<|oz
 intro R w m n p d j
 obtain ⟨h0,h3⟩:=k2 n h0 h3
 have h7:=p.r 1 Z
 have h8:=p.r 2 Z
 replace f_v0:=f_v0.fr m
 replace q:=q.fr m
 obtain ⟨rl2,q3,c⟩:=zAB c
 replace q3:=q3 Z
 refine zPv (fun R w=>∃ A:Av,∃ (s4:Unit),rl2=Ex.go s4/\AvOK A w/\Fr w0 w/\(∀ b o,A0 b o->A b o)/\IniOK [] A w) ?_ ?_
 refine HT.block<|zPz (fun k R w=>∃ A:Av,∃ (y5:Int),zAk fu p0 p1 k y5=some rl2/\AvOK A w/\Fr w0 w/\(∀ b o,A0 b o->A b o)/\IniOK [ob (.pointer (some ⟨b3_0,0,none⟩)) (.box w0.heap.size 69 zA0 p1)] A w/\R 0=v0/\R 3=(.pointer (some ⟨b3_0,0,none⟩))/\R 7=.int .i64 (p0.length:Int)/\R 8=.int .i64 y5/\Rep (eSl zA0) A w v0 p0) fu ⟨_,_,q3,d,j,B,q,h0,h3,h7,h8,f_v0⟩ ?_
 have hr0:=c;clear c q3
 rintro k R w ⟨A,y5,c,d,j,B,q,h0,h3,h7,h8,f_v0⟩
 rcases k with _ | k
 cases (show none=some _ from c)
 rw [zAk] at c
 refine zQ1 d j (eB (decide (y5<(p0.length:Int)))::[]) ?_ ?_
 exact op (fun Q U W H D=>zBS ((H 8 Z).trans h8) ((H 7 Z).trans h7))<|oz
 intro R w m n p d j
 obtain ⟨h0,h3,h7,h8⟩:=k4 n h0 h3 h7 h8
 have h9:=p.r 0 Z
 replace f_v0:=f_v0.fr m
 replace q:=q.fr m
 refine zQ0 ?_
 refine zPt (decide (y5<(p0.length:Int))) h9 (fun c6=>?_) (fun c6=>?_)
 have c:=zAh c6 c
 refine HT.skip<|zQ0 ?_
 refine HT.block<|zQ1 d j (eI y5::eI y5::[]) ?_ ?_
 exact om h8<|oa<|oz
 intro R w m n p d j
 obtain ⟨h0,h3,h7,h8⟩:=k4 n h0 h3 h7 h8
 have h5:=p.r 1 Z
 replace f_v0:=f_v0.fr m
 replace q:=q.fr m
 refine zQ0 ?_
 obtain ⟨e7,c⟩:=zAC c
 refine zPw (by kernel_rfl) (l:=eF (.rep zA0 A p1)::eR v0::eI y5::eF (.qtr zA0 A (gtD p0 y5))::eF (.rep zA0 A (gtD p0 y5))::eB (p1==(gtD p0 y5))::[]) (tl:=[]) (by kernel_rfl) (by kernel_rfl) (by kernel_rfl) (by kernel_rfl) ?_ ?_
 exact op (fun Q U W H D=>(zA7 ((q.fr W).ok 0 _ Z).1 ((H 3 Z).trans h3) (Fld.id _) Z isAgg69 sizeOf69))<|om h0<|om h5<|op (fun Q U W H D=>zAL ((f_v0.fr W).eq (D.g 0 Z)) (D.g 1 Z) underlying44 sizeOf69 e7)<|op (fun Q U W H D=>(zAb (QRep.ptr (D.g 0 Z)) isAgg69 sizeOf69))<|op (fun Q U W H D=>zEg eqGuardType69 (zDh (D.g 0 Z)) (zDh (D.g 1 Z)) (zNr p1 (gtD p0 y5) _))<|oz
 intro R w m n p
 obtain ⟨h0,h3,h5,h7,h8⟩:=k5 n h0 h3 h5 h7 h8
 have h16:=p.r 5 Z
 replace f_v0:=f_v0.fr m
 replace q:=q.fr m
 replace d:=d.fr m.size
 replace j:=j.trans m
 refine zPt (p1==(gtD p0 y5)) h16 (fun c8=>?_) (fun c8=>?_)
 have c:=zAh c8 c
 refine zQ1 d j (eI y5::eI y5::[]) ?_ ?_
 exact om h5<|oa<|oz
 intro R w m n p d j
 have h4:=p.r 1 Z
 replace q:=q.fr m
 replace q:IniOK [] A w:=q.sub [] N
 refine HT.ret ?_
 obtain rfl:=si c
 have c:=hr0
 replace c:some _=some _:=c
 obtain rfl:=si c
 exact ⟨.inr Z,[R 4],⟨Z,N⟩,h4,j⟩
 have c:=zAg c8 c
 refine HT.skip ?_
 obtain ⟨e9,c⟩:=zAC c
 refine HT.u d j (eI (y5+1)::eI (y5+1)::[]) ?_ ?_
 exact op (fun Q U W H D=>zAi ((H 8 Z).trans h8) Z e9)<|ov<|oz
 intro R w m n p d j
 obtain ⟨h0,h3,h7⟩:=k3 n h0 h3 h7
 have h8:=p.r 1 Z
 replace f_v0:=f_v0.fr m
 replace q:=q.fr m
 exact ei k (And.intro (Nat.lt_succ_self k) ⟨_,_,c,d,j,B,q,h0,h3,h7,h8,f_v0⟩)
 have c:=zAg c6 c
 refine zPy ?_
 obtain rfl:=si c
 replace q:IniOK [] A w:=q.sub [] N
 exact ei _ ⟨_,Z,d,j,B,q⟩
 rintro R w ⟨A,s4,rfl,d,j,B,q⟩
 have c:=zEG c
 refine zQ1 d j (eI (-1)::[]) ?_ ?_
 exact op (fun Q U W H D=>zA9 Z)<|oz
 intro R w m n p d j
 have h4:=p.r 0 Z
 replace q:=q.fr m
 refine HT.ret ?_
 obtain rfl:=si c
 exact ⟨.inr Z,[R 4],⟨Z,N⟩,h4,j⟩
def zCm (fu:Nat) (p0:zAA) (p1:zBK):Option Bool:=
 cl true (zB1 fu p1.2.1 (p0.1,p0.2.1,false)) fun x4=>
 ck (inR x4 p1.2.2.1.length) <|
 some ((gtD p1.2.2.1 x4) != p0.2.2)
theorem zFf {fu : Nat} {A0 : Av} {p0 : zAA} {p1 : zBK} {r : Bool} (c : zCm fu p0 p1 = some r) {w : World} {v0 : Value} {v1 : Value} (d : AvOK A0 w) (h0 : Rep zA0 A0 w v0 p0) (h1 : PRep (ePt zBq) A0 w v1 p1) :
 Calls prog 78 #[v0,v1] w fun e w'=>∃ v,e=.returned v/\(v=.bool r/\Fr w w'):=by
 unfold zCm at c
 obtain ⟨w0,hw0,j,C⟩:=pw d
 have hA00:AvOK A0 w0:=C
 rw [fw hw0]
 have f_v1:CRep (ePt zBq) A0 w w0.heap.size v1 p1:=by subst hw0;exact CRep.mk' h1
 obtain ⟨A,hAe,B,d,q⟩:=pa d
 refine zAE [.tmp 3] func78 ntmps78 (by decide) Z Z (nb Z) ?_
 intro R hR
 have f_v0:Rep zA0 A w v0 p0:=hAe ▸ h0
 replace h0:R 0=v0:=hR 0 _ Z
 replace f_v1:CRep (ePt zBq) A w w0.heap.size v1 p1:=hAe ▸ f_v1
 replace h1:R 1=v1:=hR 1 _ Z
 refine zQ2 [] (⟨_,true,[],some (.box w0.heap.size 69 zA0 p0),true,fun A=>.any⟩::rB false::[]) (ua (ur (UAll.nil))) q d ?_ ?_
 exact rc (OblR.made _ Z Z Z Z fun V Q U O D=>by have a0:Q 0=v0:=(O.old 0 Z).trans h0;have ra0:=(f_v0.stp O.stp).eq a0;exact zAx ra0 (Nat.le_trans j.size O.ch.size))<|rp (fun V Q U O D=>zA9 Z)<|rz
 intro done ρ σ A R w y s
 replace h1:=k1 s.rg h1
 obtain ⟨b2_0,e_b2_0⟩:=s.boxv y 0 Z Z
 have h2:=s.ov y 0 0 e_b2_0
 replace f_v1:=f_v1.stp s.stp (s.ch.below j.size (q.ge (N)))
 obtain ⟨B,j,d⟩:=s.s B C j q N
 replace q:=s.left y [(0,ob (.pointer (some ⟨b2_0,0,none⟩)) (.box w0.heap.size 69 zA0 p0))] ⟨Z,Z,e_b2_0,Z,Z,N⟩
 refine zQ1 d j (eR (.pointer (some ⟨b2_0,2,none⟩))::eB p0.2.2::eB p0.2.2::[]) ?_ ?_
 exact op (fun Q U W H D=>zA6 ((H 2 Z).trans h2) zFM sizeOf4 (by decide) Z)<|op (fun Q U W H D=>OpF.bool (zA7 ((q.fr W).ok 0 _ Z).1 (D.g 0 Z) zCw Z isAgg4 sizeOf4))<|oa<|oz
 intro R w m n p d j
 obtain ⟨h1,h2⟩:=k2 n h1 h2
 have h4:=p.r 2 Z
 replace f_v1:=f_v1.fr m
 replace q:=q.fr m
 refine zQ2 [ob (.pointer (some ⟨b2_0,0,none⟩)) (.box w0.heap.size 69 zA0 p0)] (rR (.pointer (some ⟨b2_0,2,none⟩))::⟨_,true,[0],some (.box w0.heap.size 69 zA0 (p0.1,p0.2.1,false)),false,fun A=>.any⟩::[]) (ur (ua (UAll.nil))) q d ?_ ?_
 exact rp (fun V Q U O D=>zA6 ((O.old 2 Z).trans h2) zFM sizeOf4 (by decide) Z)<|rc (OblR.took 0 _ _ Z Z Z Z Z fun V Q U O D u X Y J L M=>by have a0:Q 7=(.pointer (some ⟨b2_0,2,none⟩)):=D.g 0 Z;exact zAp (zHr.eq Z) a0 (J _ Z) X Y zGl sizeOf4 Z)<|rz
 intro done ρ σ A R w y s
 obtain ⟨h1,h2,h4⟩:=k3 s.rg h1 h2 h4
 have z2:=s.inivR 0 Z
 have z3:=s.on y 2 1 Z Z Z Z Z z2
 replace f_v1:=f_v1.stp s.stp (s.ch.below j.size (q.ge (⟨Z,N⟩)))
 obtain ⟨B,j,d⟩:=s.s B C j q ⟨Z,N⟩
 replace q:=s.left y [(2,ob (.pointer (some ⟨b2_0,0,none⟩)) (.box w0.heap.size 69 zA0 (p0.1,p0.2.1,false)))] ⟨Z,Z,z3,Z,Z,N⟩
 refine zQ0 ?_
 obtain ⟨x4,q5,c⟩:=zAB c
 obtain ⟨e6,c⟩:=zAC c
 refine zPw (by kernel_rfl) (l:=eF (.rep (ePt zBq) A p1)::eF (.qtr zBq A p1)::eF (.qtr (eSl zCl) A p1.2.2.1)::eF (.rep (eSl zCl) A p1.2.2.1)::eF (.rep (ePt zBq) A p1)::eF (.qtr zBq A p1)::eF (.qtr (eSl zA0) A p1.2.1)::eF (.rep (eSl zA0) A p1.2.1)::eF (.rep zA0 A (p0.1,p0.2.1,false))::eI x4::eF (.qtr zCl A (gtD p1.2.2.1 x4))::eB (gtD p1.2.2.1 x4)::eB p0.2.2::eB ((gtD p1.2.2.1 x4) != p0.2.2)::eB ((gtD p1.2.2.1 x4) != p0.2.2)::[]) (tl:=[]) (by kernel_rfl) (by kernel_rfl) (by kernel_rfl) (by kernel_rfl) ?_ ?_
 exact op (fun Q U W H D=>(zAb ((f_v1.fr W).ptr ((H 1 Z).trans h1)) isAgg51 sizeOf51))<|op (fun Q U W H D=>by have a0:Rep (ePt zBq) A U (Q 8) p1:=D.g 0 Z;exact zH8 (D.g 0 Z))<|op (fun Q U W H D=>zAr (qt (D.g 0 Z)) zKW sizeOf52 (by decide) zHf Z)<|op (fun Q U W H D=>(zAb (QRep.ptr (D.g 0 Z)) isAgg52 sizeOf52))<|op (fun Q U W H D=>(zAb ((f_v1.fr W).ptr ((H 1 Z).trans h1)) isAgg51 sizeOf51))<|op (fun Q U W H D=>by have a0:Rep (ePt zBq) A U (Q 12) p1:=D.g 0 Z;exact zH8 (D.g 0 Z))<|op (fun Q U W H D=>zAr (qt (D.g 0 Z)) zJA sizeOf44 (by decide) zHg Z)<|op (fun Q U W H D=>(zAb (QRep.ptr (D.g 0 Z)) isAgg44 sizeOf44))<|op (fun Q U W H D=>(zA7 ((q.fr W).ok 0 _ Z).1 ((H 2 Z).trans h2) (Fld.id _) Z isAgg69 sizeOf69))<|op (fun Q U W H D=>zAN call79 (zED (q5 Z) (d.fr W.size) (D.g 0 Z) (D.g 1 Z)))<|op (fun Q U W H D=>zAL (D.g 0 Z) (D.g 1 Z) underlying52 sizeOf4 e6)<|op (fun Q U W H D=>OpF.bool (zAb (QRep.ptr (D.g 0 Z)) isAgg4 sizeOf4))<|om h4<|op (fun Q U W H D=>zIM underlying4 (D.g 0 Z) (D.g 1 Z))<|oa<|oz
 intro R w m n p
 have h3:=p.r 14 Z
 replace q:=q.fr m
 replace q:IniOK [] A w:=q.sub [] N
 replace d:=d.fr m.size
 replace j:=j.trans m
 refine HT.ret ?_
 obtain rfl:=si c
 exact ⟨.inr Z,[R 3],⟨Z,N⟩,h3,j⟩
def zAR (fu : Nat) (p0 : List zAA) (p1 : zAA -> Option Bool) : Nat -> Int -> Option (Ex Int Unit)
 | 0,_=>none
 | k+1,y4=>
 bif (decide (y4<(p0.length:Int))) then (
 ck (inR y4 p0.length) <|
 cl true (p1 (gtD p0 y4)) fun x7=>
 bif x7 then (
 some (Ex.ret y4)
 ) else (
 ck (i64B (y4+1)) <|
 zAR fu p0 p1 k (y4+1)
 )
 ) else (
 some (Ex.go ())
 )
def zB5 (fu:Nat) (p0:List zAA) (p1:zAA->Option Bool):Option Int:=
 cl true (zAR fu p0 p1 fu 0) fun rl1=>
 exM rl1 (fun r=>some r) fun s3=>
 some (-1)
theorem zDx {fu : Nat} {A : Av} {p0 : List zAA} {p1 : zAA -> Option Bool} {r : Int} (c : zB5 fu p0 p1 = some r) {w : World} {v0 : Value} {v1 : Value} (d : AvOK A w) (h0 : Rep (eSl zA0) A w v0 p0) (h1 : FnB1 prog zA0 (fun r => .raw (.bool r)) A w v1 p1) :
 Calls prog 82 #[v0,v1] w fun e w'=>∃ v,e=.returned v/\(v=.int .i64 r/\Fr w w'):=by
 unfold zB5 at c
 obtain ⟨w0,hw0,j⟩:=pf w
 rw [fw hw0]
 have f_v1:FnB1 prog zA0 (fun r=>.raw (.bool r)) A w0 v1 p1:=hw0 ▸ h1
 refine zAE [.tmp 4] func82 ntmps82 (by decide) Z Z (nb Z) ?_
 intro R hR
 have f_v0:=h0
 replace h0:R 0=v0:=hR 0 _ Z
 replace h1:R 1=v1:=hR 1 _ Z
 refine zQ1 d j (eI 0::[]) ?_ ?_
 exact op (fun Q U W H D=>zA9 Z)<|oz
 intro R w m n p d j
 obtain ⟨h0,h1⟩:=k2 n h0 h1
 replace f_v0:=f_v0.fr m
 refine zQ0 ?_
 refine zQ1 d j (eR v0::eI (p0.length:Int)::eI 0::[]) ?_ ?_
 exact om h0<|op (fun Q U W H D=>zAY (aT:=#[]) ((f_v0.fr W).eq (D.g 0 Z)) underlying44)<|op (fun Q U W H D=>zBd Z)<|oz
 intro R w m n p d j
 obtain ⟨h0,h1⟩:=k2 n h0 h1
 have h7:=p.r 1 Z
 have h8:=p.r 2 Z
 replace f_v0:=f_v0.fr m
 obtain ⟨rl1,q2,c⟩:=zAB c
 replace q2:=q2 Z
 refine zPv (fun R w=>∃ (s3:Unit),rl1=Ex.go s3/\AvOK A w/\Fr w0 w) ?_ ?_
 refine HT.block<|zPz (fun k R w=>∃ (y4:Int),zAR fu p0 p1 k y4=some rl1/\AvOK A w/\Fr w0 w/\R 0=v0/\R 1=v1/\R 7=.int .i64 (p0.length:Int)/\R 8=.int .i64 y4/\Rep (eSl zA0) A w v0 p0) fu ⟨_,q2,d,j,h0,h1,h7,h8,f_v0⟩ ?_
 have hr0:=c;clear c q2
 rintro k R w ⟨y4,c,d,j,h0,h1,h7,h8,f_v0⟩
 rcases k with _ | k
 cases (show none=some _ from c)
 rw [zAR] at c
 refine zQ1 d j (eB (decide (y4<(p0.length:Int)))::[]) ?_ ?_
 exact op (fun Q U W H D=>zBS ((H 8 Z).trans h8) ((H 7 Z).trans h7))<|oz
 intro R w m n p d j
 obtain ⟨h0,h1,h7,h8⟩:=k4 n h0 h1 h7 h8
 have h9:=p.r 0 Z
 replace f_v0:=f_v0.fr m
 refine zQ0 ?_
 refine zPt (decide (y4<(p0.length:Int))) h9 (fun c5=>?_) (fun c5=>?_)
 have c:=zAh c5 c
 refine HT.skip<|zQ0 ?_
 refine HT.block<|zQ1 d j (eI y4::eI y4::[]) ?_ ?_
 exact om h8<|oa<|oz
 intro R w m n p d j
 obtain ⟨h0,h1,h7,h8⟩:=k4 n h0 h1 h7 h8
 have h5:=p.r 1 Z
 replace f_v0:=f_v0.fr m
 obtain ⟨e6,c⟩:=zAC c
 obtain ⟨x7,q8,c⟩:=zAB c
 refine zQ1 d j (eR v1::eR v0::eI y4::eF (.qtr zA0 A (gtD p0 y4))::eF (.rep zA0 A (gtD p0 y4))::eB x7::[]) ?_ ?_
 exact om h1<|om h0<|om h5<|op (fun Q U W H D=>zAL ((f_v0.fr W).eq (D.g 0 Z)) (D.g 1 Z) underlying44 sizeOf69 e6)<|op (fun Q U W H D=>(zAb (QRep.ptr (D.g 0 Z)) isAgg69 sizeOf69))<|op (fun Q U W H D=>zJI (D.g 0 Z) (f_v1 _ _ (q8 Z) _ _ ((j.trans W).ch _) (d.fr W.size) (D.g 1 Z)))<|oz
 intro R w m n p d j
 obtain ⟨h0,h1,h5,h7,h8⟩:=k5 n h0 h1 h5 h7 h8
 have h16:=p.r 5 Z
 replace f_v0:=f_v0.fr m
 refine zPt x7 h16 (fun c9=>?_) (fun c9=>?_)
 have c:=zAh c9 c
 refine zQ1 d j (eI y4::eI y4::[]) ?_ ?_
 exact om h5<|oa<|oz
 intro R w m n p d j
 have h4:=p.r 1 Z
 refine HT.ret ?_
 obtain rfl:=si c
 have c:=hr0
 replace c:some _=some _:=c
 obtain rfl:=si c
 exact ⟨.inr Z,[R 4],⟨Z,N⟩,h4,j⟩
 have c:=zAg c9 c
 refine HT.skip ?_
 obtain ⟨e10,c⟩:=zAC c
 refine HT.u d j (eI (y4+1)::eI (y4+1)::[]) ?_ ?_
 exact op (fun Q U W H D=>zAi ((H 8 Z).trans h8) Z e10)<|ov<|oz
 intro R w m n p d j
 obtain ⟨h0,h1,h7⟩:=k3 n h0 h1 h7
 have h8:=p.r 1 Z
 replace f_v0:=f_v0.fr m
 exact ei k (And.intro (Nat.lt_succ_self k) ⟨_,c,d,j,h0,h1,h7,h8,f_v0⟩)
 have c:=zAg c5 c
 refine zPy ?_
 obtain rfl:=si c
 exact ei _ ⟨Z,d,j⟩
 rintro R w ⟨s3,rfl,d,j⟩
 have c:=zEG c
 refine zQ1 d j (eI (-1)::[]) ?_ ?_
 exact op (fun Q U W H D=>zA9 Z)<|oz
 intro R w m n p d j
 have h4:=p.r 0 Z
 refine HT.ret ?_
 obtain rfl:=si c
 exact ⟨.inr Z,[R 4],⟨Z,N⟩,h4,j⟩
def zAT (fu:Nat) (p0:List zAA) (p1:zAA->Option Bool):Option Bool:=
 cl true (zB5 fu p0 p1) fun x1=>
 some (decide (0<=x1))
theorem zCX {fu : Nat} {A : Av} {p0 : List zAA} {p1 : zAA -> Option Bool} {r : Bool} (c : zAT fu p0 p1 = some r) {w : World} {v0 : Value} {v1 : Value} (d : AvOK A w) (h0 : Rep (eSl zA0) A w v0 p0) (h1 : FnB1 prog zA0 (fun r => .raw (.bool r)) A w v1 p1) :
 Calls prog 65 #[v0,v1] w fun e w'=>∃ v,e=.returned v/\(v=.bool r/\Fr w w'):=by
 unfold zAT at c
 obtain ⟨w0,hw0,j⟩:=pf w
 rw [fw hw0]
 have f_v1:FnB1 prog zA0 (fun r=>.raw (.bool r)) A w0 v1 p1:=hw0 ▸ h1
 refine zAE [.tmp 4] func65 ntmps65 (by decide) Z Z (nb Z) ?_
 intro R hR
 have f_v0:=h0
 replace h0:R 0=v0:=hR 0 _ Z
 replace h1:R 1=v1:=hR 1 _ Z
 refine zQ1 d j (eB false::[]) ?_ ?_
 exact op (fun Q U W H D=>zA9 Z)<|oz
 intro R w m n p d j
 obtain ⟨h0,h1⟩:=k2 n h0 h1
 replace f_v0:=f_v0.fr m
 obtain ⟨x1,q2,c⟩:=zAB c
 refine zQ1 d j (eR v0::eR v1::eI x1::eB (decide (0<=x1))::eB (decide (0<=x1))::[]) ?_ ?_
 exact om h0<|om h1<|op (fun Q U W H D=>zAN call82 (zDx (q2 Z) (d.fr W.size) ((f_v0.fr W).eq (D.g 0 Z)) ((f_v1.on (j.trans W) (fun _ _ h=>h)).eq (D.g 1 Z))))<|op (fun Q U W H D=>zFq (D.g 0 Z) Z)<|oa<|oz
 intro R w m n p d j
 have h4:=p.r 4 Z
 refine HT.ret ?_
 obtain rfl:=si c
 exact ⟨.inr Z,[R 4],⟨Z,N⟩,h4,j⟩
abbrev zHY (b:Nat):Value:=.pointer (some ⟨b,0,none⟩)
def zCo (fu:Nat) (p0:zAA) (p1:zBK):Option Bool:=
  cl true (zCm fu p0 p1) fun x=>
  some (!x)
theorem zOY {A:Av} {w:World} {v:Value} {x:zAA} (h:Rep zA0 A w v x):v=.agg #[.int .i64 x.1,.int .i64 x.2.1,.bool x.2.2]:=zDh h
set_option maxRecDepth 8000 in
set_option maxHeartbeats 1000000 in
theorem zFi {fu : Nat} {A0 : Av} {p0 : zAA} {p1 : zBK} {r : Bool} (hr : zCo fu p0 p1 = some r) {w : World} {v0 vd : Value} {b1 b3 : Nat} (hA : AvOK A0 w)
    (k3:Blk w b3 95 #[.func (.func 78) #[] #[zHY b1]]) (k1:Blk w b1 51 #[vd]) (hd:Rep (ePt zBq) A0 w vd p1) (h0:Rep zA0 A0 w v0 p0) :
    Calls Tryz.prog 80 #[v0,zHY b3] w fun e w'=>∃ v,e=.returned v/\(v=.bool r/\Fr w w'):=by
  unfold zCo at hr
  obtain ⟨x,q,hr⟩:=zAB hr
  replace q:=q rfl
  obtain rfl:=Option.some.inj hr
  obtain rfl:=zOY h0
  have c3:=k3.cell 0
  simp only [List.getElem?_toArray,List.getElem?_cons_zero] at c3
  have l3:=k3.lt
  have hcall:∀ w1,Fr w w1->Calls Tryz.prog 78 #[.agg #[.int .i64 p0.1,.int .i64 p0.2.1,.bool p0.2.2],zHY b1] w1 fun e w'=>∃ v,e=.returned v/\(v=.bool x/\Fr w1 w'):=fun w1 hf=>
    zFf q (hA.fr hf.size) (h0.fr hf) ⟨b1, 0, rfl, Nat.lt_of_lt_of_le k1.lt hf.size, by
      obtain ⟨cs,rfl,h⟩:=hd.fr hf
      obtain ⟨b,rfl,h1,h2⟩:=h
      refine ⟨_,⟨b,rfl,h1,h2⟩,fun j u hj=>?_⟩
      cases j with
      | zero=>
        obtain rfl:=Option.some.inj hj
        rw [Blk.cell ((hf.block _ k1.lt).trans k1) 0]
        rfl
      | succ j=>cases hj⟩
  have HC:=Lib.hid hcall
  have HW:=Lib.hid (Fr.refl w)
  obtain ⟨wa,hwa⟩:∃ wa,wa=w.alloc (.cells #[.int .i64 p0.1,.int .i64 p0.2.1,.bool p0.2.2] 69):=⟨_,rfl⟩
  have hfa:Fr w wa:=hwa ▸ Fr.alloc _ _
  clear hcall hd h0
  unfold zHY at c3
  unfold zHY
  go_enter Tryz.func80,Tryz.ntmps80
  go_wp2_with fail
  rw [<- hwa]
  refine (HC.out wa hfa).mono ?_
  rintro e w1 ⟨v,rfl,rfl,hf1⟩
  have hf2:=hfa.trans hf1
  go_wp2_with fail
  go_ret
  exact ⟨_,rfl,rfl,hf2⟩
def zBM (fu : Nat) (p0 : zBK) : Nat -> Int -> Option Int
  | 0,_=>none
  | k+1,i=>
    bif (decide (i < (p0.1.length : Int))) then (
      ck (inR i p0.1.length) <|
      cl true (zAT fu (gtD p0.1 i) (fun t=>zCo fu t p0)) fun x=>
      bif (!x) then (
        some (1:Int)
      ) else (
        ck (i64B (i+(1:Int))) <|
        zBM fu p0 k (i+(1:Int))
      )
    ) else (
      some (0:Int)
    )
def zDE (fu:Nat) (p0:zBK):Option Int:=
  cl true (zBM fu p0 fu (0:Int)) fun x=>
  some x
theorem zP7 {α:Type} {c:Bool} {a b:Option α} {r:α} (h:(bif c then a else b)=some r):(c=true/\a=some r)\/(c=false/\b=some r):=by
  cases c
  . exact .inr ⟨rfl,h⟩
  . exact .inl ⟨rfl,h⟩
theorem zNG {A : Av} {w : World} {v : Value} {p0 : zBK} (h : Rep (ePt zBq) A w v p0) :
    ∃ b a n c,v=.pointer (some ⟨b,0,none⟩)/\b<w.heap.size/\w.cell? ⟨b,0,none⟩=some (.slice a n c)/\Rep (eSl zAF) A w (.slice a n c) p0.1:=by
  obtain ⟨cs,rfl,b,rfl,hb,⟨ds,h1,h2⟩,_⟩:=h
  obtain ⟨es,fs,rfl,h3,_⟩:=h1
  obtain ⟨a,n,c,rfl,h4⟩:=h3
  exact ⟨b,a,n,c,rfl,hb,h2 0 _ rfl,_,rfl,a,n,c,rfl,h4⟩
theorem zPE {A:Av} {a:Option Addr} {n c:Nat} {xs:List zA8} {w:World} (h:Rep (eSl zAF) A w (.slice a n c) xs):xs.length=n/\∀ i,i<n->∃ b o a' n' c',a=some ⟨b,o,none⟩/\w.cell? ⟨b,o+i,none⟩=some (.slice a' n' c')/\b<w.heap.size/\Rep (eSl zA0) A w (.slice a' n' c') (gtD xs (i:Int)):=by
  obtain ⟨cs,he,a',n',c',rfl,h1,h2,h3,h4⟩:=h
  have he':Value.slice a n c=Value.slice a' n' c':=he
  injection he' with e1 e2 e3
  subst e1 e2 e3
  refine ⟨h1,fun i hi=>?_⟩
  obtain ⟨b,o,e,hb,h⟩:=h4 (by omega)
  have hi':i<xs.length:=by omega
  obtain ⟨⟨ds,h5,h6⟩,_⟩:=h i xs[i] (List.getElem?_eq_getElem hi')
  have hg:gtD xs (i:Int)=xs[i]:=by
    unfold gtD
    rw [Int.toNat_natCast,List.getD_eq_getElem?_getD,List.getElem?_eq_getElem hi']
    rfl
  obtain ⟨a2,n2,c2,rfl,h7⟩:=h5
  refine ⟨b,o,a2,n2,c2,e,?_,hb,?_⟩
  . have h8 := h6 0 _ rfl
    have h9:w.cell? ⟨b,o+i*1+0,none⟩=some (.slice a2 n2 c2):=h8
    rwa [Nat.mul_one,Nat.add_zero] at h9
  . rw [hg]
    exact ⟨_,rfl,a2,n2,c2,rfl,h7⟩
theorem zMw {P:Program} {wx:World} {b o:Nat} {old fv:Value} (h:wx.cell? ⟨b,o,none⟩=some old) (hf:wx.frozen? ⟨b,o,none⟩=false) (ho:fv.oneCell'=true):(store ⟨b,o,none⟩ fv).run P wx=.ok () (wx.setCell ⟨b,o,none⟩ fv):=by
  rw [run_store P wx ⟨b,o,none⟩ fv .plain ho]
  simp [go_sem,h,hf]
set_option maxRecDepth 8000 in
set_option maxHeartbeats 2000000 in
theorem zG0 {fu : Nat} {A0 : Av} {p0 : zBK} {r : Int} (hr : zDE fu p0 = some r) {w : World} {v0 : Value} (hA : AvOK A0 w) (h0 : Rep (ePt zBq) A0 w v0 p0) :
    Calls Tryz.prog 61 #[v0] w fun e w'=>∃ v,e=.returned v/\(v=.int .i64 r/\Fr w w'):=by
  unfold zDE at hr
  obtain ⟨x,hq,hr⟩:=zAB hr
  replace hq:=hq rfl
  obtain rfl:=Option.some.inj hr
  obtain ⟨bd,a,n,c,rfl,hbd,hcell,hrul⟩:=zNG h0
  have hlen:=(zPE hrul).1
  subst hlen
  obtain ⟨W1,hW1⟩:∃ W1,W1=w.alloc (.cells #[zHY bd] 51):=⟨_,rfl⟩
  obtain ⟨W2,hW2⟩:∃ W2,W2=W1.alloc (.cells #[.nilFunc] 95):=⟨_,rfl⟩
  have z1:W1.heap.size=w.heap.size+1:=by rw [hW1];simp
  have z2:W2.heap.size=w.heap.size+1+1:=by rw [hW2,<- z1];simp
  have F2:Fr w W2:=by
    rw [hW2,hW1]
    exact (Fr.alloc _ _).trans (Fr.alloc _ _)
  have B1:Blk W2 w.heap.size 51 #[zHY bd]:=by
    rw [hW2,hW1]
    exact (Blk.new _ _ _).alloc _
  have B3:Blk W2 (w.heap.size+1) 95 #[.nilFunc]:=by
    rw [<- z1,hW2]
    exact Blk.new _ _ _
  have x3:=B3.cell 0
  have y3:=B3.frozen 0
  simp only [List.getElem?_toArray,List.getElem?_cons_zero] at x3
  have hsf:=zMw (P:=Tryz.prog) (fv:=.func (.func 78) #[] #[zHY w.heap.size]) x3 y3 rfl
  obtain ⟨W3,hW3⟩:∃ W3,W3=W2.setCell ⟨w.heap.size+1,0,none⟩ (.func (.func 78) #[] #[zHY w.heap.size]):=⟨_,rfl⟩
  have hw3:Wr (w.heap.size+1) W2 W3:=hW3 ▸ Wr.setCell _ _ _ _
  have C3:Blk W3 (w.heap.size+1) 95 #[.func (.func 78) #[] #[zHY w.heap.size]]:=hW3 ▸ B3.put 0 _
  rw [<- hW3] at hsf
  have C1:Blk W3 w.heap.size 51 #[zHY bd]:=hw3.blk (by omega) B1
  have F3:Fr w W3:=F2.trans' hw3 (by omega)
  have c1:=C1.cell 0
  simp only [List.getElem?_toArray,List.getElem?_cons_zero] at c1
  have cd:W3.cell? ⟨bd,0,none⟩=some (.slice a p0.1.length c):=(F3.cell (p:=⟨bd,0,none⟩) hbd).trans hcell
  have HC1:=Lib.hid C1
  have HC3:=Lib.hid C3
  have HF3:=Lib.hid F3
  have HR:=Lib.hid hq
  have HRUL:=Lib.hid hrul
  have H0:=Lib.hid h0
  have HHA:=Lib.hid hA
  clear C1 C3 F3 hq hrul h0 hw3 hA hW3 F2 B1 B3 x3 y3
  unfold zHY at hsf hW1 c1
  go_enter Tryz.func61,Tryz.ntmps61
  go_wp2_with fail
  rw [<- hW1,<- hW2,hsf]
  clear hsf hW1 hW2 z1 z2 hcell W1 W2
  have hsz:w.heap.size+1+1<=W3.heap.size:=HC3.out.lt
  go_wp2_with fail
  go_loopw [13] (fun i wr=>∃ (j ff:Nat),i=.int .i64 (j:Int)/\j<=p0.1.length/\Fr W3 wr/\zBM fu p0 ff (j:Int)=some x) (fun i _=>p0.1.length-(intOf i).toNat)
  case atStart=>exact ⟨0,fu,rfl,Nat.zero_le _,Fr.refl _,HR.out⟩
  case round=>
    obtain ⟨j,ff,rfl,hj,hf,hrr⟩:=hrel
    cases ff with
    | zero=>cases hrr
    | succ ff=>
    unfold zBM at hrr
    by_cases hlt:j<p0.1.length
    . rw [decide_eq_true (by omega : (j : Int) < (p0.1.length : Int))] at hrr
      obtain ⟨q1,hrr⟩:=zAC (show ck (inR (j:Int) p0.1.length) _=some x from hrr)
      obtain ⟨y,q3,hrr⟩:=zAB hrr
      replace q3:=q3 rfl
      have hfw:=HF3.out.trans hf
      obtain ⟨b,o,a',n',c',rfl,hc,hb,hrow⟩:=(zPE (HRUL.out.fr hfw)).2 j hlt
      have hl5:=hf.size
      have HF:=Lib.hid hf
      have HRR:=Lib.hid hrr
      have Q3:=Lib.hid q3
      have HROW:=Lib.hid hrow
      clear hf hrr q3 hrow hfw
      go_wp2_with fail
      obtain ⟨W,hW⟩:∃ W,W=wr.alloc (.cells #[.slice a' n' c'] 63):=⟨_,rfl⟩
      rw [<- hW]
      have hfw:Fr wr W:=hW ▸ Fr.alloc _ _
      clear hW
      have hf1:Fr W3 W:=HF.out.trans hfw
      have hf0:Fr w W:=HF3.out.trans hf1
      refine (zCX Q3.out (HHA.out.fr hf0.size) (HROW.out.fr hfw) (zJ5 [zHY (w.heap.size+1)] rfl Tryz.call80 fun t r hr' w4 a4 hF' hA' h4=>?_)).mono ?_
      . have hf4 := hf1.trans hF'
        exact zFi hr' hA' ((hf4.block _ HC3.out.lt).trans HC3.out) ((hf4.block _ HC1.out.lt).trans HC1.out) (H0.out.fr (HF3.out.trans hf4)) h4
      rintro e w5 ⟨v,rfl,rfl,hf5⟩
      have HF5:=Lib.hid (hf1.trans hf5)
      clear hf5 hf0 hf1 hfw
      rcases zP7 HRR.out with ⟨hb,hrr⟩ | ⟨hb,hrr⟩
      . obtain rfl : y = false := by cases y; rfl; cases hb
        obtain rfl:=Option.some.inj hrr
        go_wp2_with fail
        go_ret
        exact ⟨_,rfl,rfl,HF3.out.trans HF5.out⟩
      . obtain rfl : y = true := by cases y; cases hb; rfl
        obtain ⟨q4,hrr⟩:=zAC hrr
        have HRR2:=Lib.hid hrr
        have q6:wrap64 ((j:Int)+1)=((j+1:Nat):Int):=((IntWalk.i64_left _).symm.trans (zFJ q4)).trans (by omega)
        clear hrr hb q4
        go_wp2_with fail
        rw [q6]
        refine ⟨⟨j+1,ff,rfl,by omega,HF5.out,HRR2.out⟩,?_⟩
        simp only [intOf,Int.toNat_natCast]
        omega
    . rw [decide_eq_false (by omega : ¬ (j : Int) < (p0.1.length : Int))] at hrr
      obtain rfl:=Option.some.inj hrr
      have hf:=HF3.out.trans hf
      go_wp2_with fail
      go_ret
      exact ⟨_,rfl,rfl,hf⟩
def zAO (fu : Nat) (p0 : List zA4) (p1 : zA4) : Nat -> Int -> Option (Ex Int Unit)
 | 0,_=>none
 | k+1,y5=>
 bif (decide (y5<(p0.length:Int))) then (
 ck (inR y5 p0.length) <|
 bif (p1==(gtD p0 y5)) then (
 some (Ex.ret y5)
 ) else (
 ck (i64B (y5+1)) <|
 zAO fu p0 p1 k (y5+1)
 )
 ) else (
 some (Ex.go ())
 )
def zAU (fu:Nat) (p0:List zA4) (p1:zA4):Option Int:=
 cl true (zAO fu p0 p1 fu 0) fun rl2=>
 exM rl2 (fun r=>some r) fun s4=>
 some (-1)
theorem zC9 {fu : Nat} {A0 : Av} {p0 : List zA4} {p1 : zA4} {r : Int} (c : zAU fu p0 p1 = some r) {w : World} {v0 : Value} {v1 : Value} (d : AvOK A0 w) (h0 : Rep (eSl zA1) A0 w v0 p0) (h1 : Rep zA1 A0 w v1 p1) :
 Calls prog 62 #[v0,v1] w fun e w'=>∃ v,e=.returned v/\(v=.int .i64 r/\Fr w w'):=by
 unfold zAU at c
 obtain ⟨w0,hw0,j,C⟩:=pw d
 have hA00:AvOK A0 w0:=C
 rw [fw hw0]
 obtain ⟨A,hAe,B,d,q⟩:=pa d
 refine zAE [.tmp 4] func62 ntmps62 (by decide) Z Z (nb Z) ?_
 intro R hR
 have f_v0:Rep (eSl zA1) A w v0 p0:=hAe ▸ h0
 replace h0:R 0=v0:=hR 0 _ Z
 have f_v1:Rep zA1 A w v1 p1:=hAe ▸ h1
 replace h1:R 1=v1:=hR 1 _ Z
 refine zQ2 [] (⟨_,true,[],some (.box w0.heap.size 60 zA1 p1),true,fun A=>.any⟩::rI 0::[]) (ua (ur (UAll.nil))) q d ?_ ?_
 exact rc (OblR.made _ Z Z Z Z fun V Q U O D=>by have a0:Q 1=v1:=(O.old 1 Z).trans h1;have ra0:=(f_v1.stp O.stp).eq a0;exact zAx ra0 (Nat.le_trans j.size O.ch.size))<|rp (fun V Q U O D=>zA9 Z)<|rz
 intro done ρ σ A R w y s
 replace h0:=k1 s.rg h0
 obtain ⟨b3_0,e_b3_0⟩:=s.boxv y 0 Z Z
 have h3:=s.ov y 0 0 e_b3_0
 replace f_v0:=f_v0.stp s.stp
 obtain ⟨B,j,d⟩:=s.s B C j q N
 replace q:=s.left y [(0,ob (.pointer (some ⟨b3_0,0,none⟩)) (.box w0.heap.size 60 zA1 p1))] ⟨Z,Z,e_b3_0,Z,Z,N⟩
 refine zQ0 ?_
 refine zQ1 d j (eR v0::eI (p0.length:Int)::eI 0::[]) ?_ ?_
 exact om h0<|op (fun Q U W H D=>zAY (aT:=#[]) ((f_v0.fr W).eq (D.g 0 Z)) underlying30)<|op (fun Q U W H D=>zBd Z)<|oz
 intro R w m n p d j
 obtain ⟨h0,h3⟩:=k2 n h0 h3
 have h7:=p.r 1 Z
 have h8:=p.r 2 Z
 replace f_v0:=f_v0.fr m
 replace q:=q.fr m
 obtain ⟨rl2,q3,c⟩:=zAB c
 replace q3:=q3 Z
 refine zPv (fun R w=>∃ A:Av,∃ (s4:Unit),rl2=Ex.go s4/\AvOK A w/\Fr w0 w/\(∀ b o,A0 b o->A b o)/\IniOK [] A w) ?_ ?_
 refine HT.block<|zPz (fun k R w=>∃ A:Av,∃ (y5:Int),zAO fu p0 p1 k y5=some rl2/\AvOK A w/\Fr w0 w/\(∀ b o,A0 b o->A b o)/\IniOK [ob (.pointer (some ⟨b3_0,0,none⟩)) (.box w0.heap.size 60 zA1 p1)] A w/\R 0=v0/\R 3=(.pointer (some ⟨b3_0,0,none⟩))/\R 7=.int .i64 (p0.length:Int)/\R 8=.int .i64 y5/\Rep (eSl zA1) A w v0 p0) fu ⟨_,_,q3,d,j,B,q,h0,h3,h7,h8,f_v0⟩ ?_
 have hr0:=c;clear c q3
 rintro k R w ⟨A,y5,c,d,j,B,q,h0,h3,h7,h8,f_v0⟩
 rcases k with _ | k
 cases (show none=some _ from c)
 rw [zAO] at c
 refine zQ1 d j (eB (decide (y5<(p0.length:Int)))::[]) ?_ ?_
 exact op (fun Q U W H D=>zBS ((H 8 Z).trans h8) ((H 7 Z).trans h7))<|oz
 intro R w m n p d j
 obtain ⟨h0,h3,h7,h8⟩:=k4 n h0 h3 h7 h8
 have h9:=p.r 0 Z
 replace f_v0:=f_v0.fr m
 replace q:=q.fr m
 refine zQ0 ?_
 refine zPt (decide (y5<(p0.length:Int))) h9 (fun c6=>?_) (fun c6=>?_)
 have c:=zAh c6 c
 refine HT.skip<|zQ0 ?_
 refine HT.block<|zQ1 d j (eI y5::eI y5::[]) ?_ ?_
 exact om h8<|oa<|oz
 intro R w m n p d j
 obtain ⟨h0,h3,h7,h8⟩:=k4 n h0 h3 h7 h8
 have h5:=p.r 1 Z
 replace f_v0:=f_v0.fr m
 replace q:=q.fr m
 refine zQ0 ?_
 obtain ⟨e7,c⟩:=zAC c
 refine zPw (by kernel_rfl) (l:=eF (.rep zA1 A p1)::eR v0::eI y5::eF (.qtr zA1 A (gtD p0 y5))::eF (.rep zA1 A (gtD p0 y5))::eB (p1==(gtD p0 y5))::[]) (tl:=[]) (by kernel_rfl) (by kernel_rfl) (by kernel_rfl) (by kernel_rfl) ?_ ?_
 exact op (fun Q U W H D=>(zA7 ((q.fr W).ok 0 _ Z).1 ((H 3 Z).trans h3) (Fld.id _) Z isAgg60 sizeOf60))<|om h0<|om h5<|op (fun Q U W H D=>zAL ((f_v0.fr W).eq (D.g 0 Z)) (D.g 1 Z) underlying30 sizeOf60 e7)<|op (fun Q U W H D=>(zAb (QRep.ptr (D.g 0 Z)) isAgg60 sizeOf60))<|op (fun Q U W H D=>zEg eqGuardType60 (zBx (D.g 0 Z)) (zBx (D.g 1 Z)) (zMS p1 (gtD p0 y5) _))<|oz
 intro R w m n p
 obtain ⟨h0,h3,h5,h7,h8⟩:=k5 n h0 h3 h5 h7 h8
 have h16:=p.r 5 Z
 replace f_v0:=f_v0.fr m
 replace q:=q.fr m
 replace d:=d.fr m.size
 replace j:=j.trans m
 refine zPt (p1==(gtD p0 y5)) h16 (fun c8=>?_) (fun c8=>?_)
 have c:=zAh c8 c
 refine zQ1 d j (eI y5::eI y5::[]) ?_ ?_
 exact om h5<|oa<|oz
 intro R w m n p d j
 have h4:=p.r 1 Z
 replace q:=q.fr m
 replace q:IniOK [] A w:=q.sub [] N
 refine HT.ret ?_
 obtain rfl:=si c
 have c:=hr0
 replace c:some _=some _:=c
 obtain rfl:=si c
 exact ⟨.inr Z,[R 4],⟨Z,N⟩,h4,j⟩
 have c:=zAg c8 c
 refine HT.skip ?_
 obtain ⟨e9,c⟩:=zAC c
 refine HT.u d j (eI (y5+1)::eI (y5+1)::[]) ?_ ?_
 exact op (fun Q U W H D=>zAi ((H 8 Z).trans h8) Z e9)<|ov<|oz
 intro R w m n p d j
 obtain ⟨h0,h3,h7⟩:=k3 n h0 h3 h7
 have h8:=p.r 1 Z
 replace f_v0:=f_v0.fr m
 replace q:=q.fr m
 exact ei k (And.intro (Nat.lt_succ_self k) ⟨_,_,c,d,j,B,q,h0,h3,h7,h8,f_v0⟩)
 have c:=zAg c6 c
 refine zPy ?_
 obtain rfl:=si c
 replace q:IniOK [] A w:=q.sub [] N
 exact ei _ ⟨_,Z,d,j,B,q⟩
 rintro R w ⟨A,s4,rfl,d,j,B,q⟩
 have c:=zEG c
 refine zQ1 d j (eI (-1)::[]) ?_ ?_
 exact op (fun Q U W H D=>zA9 Z)<|oz
 intro R w m n p d j
 have h4:=p.r 0 Z
 replace q:=q.fr m
 refine HT.ret ?_
 obtain rfl:=si c
 exact ⟨.inr Z,[R 4],⟨Z,N⟩,h4,j⟩
def zBH : Nat -> Nat -> zBK -> Int -> Option (Int × zBK)
 | 0,_,_,_=>none
 | q+1,fu,p0,p1=>
 bif (p1==(p0.2.1.length:Int)) then (
 cl true (zDE fu p0) fun x88=>
 some (x88,p0)
 ) else (
 ck (inR p1 p0.2.2.1.length) <|
 ck (i64B (p1+1)) <|
 cl true (zBH q fu (p0.1,p0.2.1,(p0.2.2.1.set p1.toNat false),p0.2.2.2) (p1+1)) fun x97=>
 ck (inR p1 x97.2.2.2.1.length) <|
 ck (i64B (p1+1)) <|
 cl true (zBH q fu (x97.2.1,x97.2.2.1,(x97.2.2.2.1.set p1.toNat true),x97.2.2.2.2) (p1+1)) fun x109=>
 bif (x97.1==x109.1) then (
 some (x97.1,x109.2)
 ) else (
 ck (inR p1 x109.2.2.1.length) <|
 ck (inR p1 x109.2.2.1.length) <|
 cl true (zAU fu x109.2.2.2.2 ((gtD x109.2.2.1 p1).1,(gtD x109.2.2.1 p1).2.1,x97.1,x109.1)) fun x122=>
 bif (decide (x122<0)) then (
 ck (zBu (x109.2.2.2.2.length+([((gtD x109.2.2.1 p1).1,(gtD x109.2.2.1 p1).2.1,x97.1,x109.1)]:List zA4).length)) <|
 ck (i64B ((x109.2.2.2.2.length:Int)+2)) <|
 some (((x109.2.2.2.2.length:Int)+2),(x109.2.1,x109.2.2.1,x109.2.2.2.1,(x109.2.2.2.2++([((gtD x109.2.2.1 p1).1,(gtD x109.2.2.1 p1).2.1,x97.1,x109.1)]:List zA4))))
 ) else (
 ck (i64B (x122+2)) <|
 some ((x122+2),x109.2)
 )
 )
 )
set_option linter.unusedSimpArgs false in
theorem zFu (q : Nat) : ∀ {fu : Nat} {A0 : Av} {p0 : zBK} {p1 : Int} {r : Int × zBK} (c : zBH q fu p0 p1 = some r) {w : World} {v0 : Value} {v1 : Value} {S0 : Nat -> Prop} (d : AvOK A0 w) (K : ∀ b o, A0 b o -> ¬ S0 b) (h0 : (trP (oPt 54 (oPr (oRd zA2) (oPr (oRd (eSl zA0)) (oPr (oSl 4 (oRd zCl)) (oSl 60 (oRd zA1)))))) p0 []).P (addS A0 S0) w S0 v0) (h1 : v1=.int .i64 p1),
 Calls prog 26 #[v0,v1] w fun e w'=>∃ v,e=.returned v/\(v=.int .i64 r.1/\Gave (oPt 54 (oPr (oRd zA2) (oPr (oRd (eSl zA0)) (oPr (oSl 4 (oRd zCl)) (oSl 60 (oRd zA1)))))) A0 S0 w v0 r.2 w'):=by
 induction q with
 | zero=>intro fu A0 p0 p1 r c w v0 v1 S0 d K h0 h1;rw [zBH] at c;cases c
 | succ q IH=>
 intro fu A0 p0 p1 r c w v0 v1 S0 d K h0 h1
 rw [zBH] at c
 obtain ⟨w0,hw0,C⟩:=pc d
 have j:Ch S0 w0 w:=hw0 ▸ Ch.refl _ _
 have hA00:AvOK A0 w0:=C
 rw [show Gave (oPt 54 (oPr (oRd zA2) (oPr (oRd (eSl zA0)) (oPr (oSl 4 (oRd zCl)) (oSl 60 (oRd zA1)))))) A0 S0 w=Gave (oPt 54 (oPr (oRd zA2) (oPr (oRd (eSl zA0)) (oPr (oSl 4 (oRd zCl)) (oSl 60 (oRd zA1)))))) A0 S0 w0 from hw0 ▸ Z]
 have hw0s:w.heap.size=w0.heap.size:=hw0 ▸ Z
 have q:=IniOK.oneT h0
 have hA1:=d.oneT h0
 rw [show w.heap.size=w0.heap.size from hw0s] at q
 obtain ⟨A,hAe⟩:∃ A,A=addS A0 S0:=⟨_,Z⟩
 have B:∀ b o,A0 b o->A b o:=fun b o h=>hAe ▸ .inl h
 replace d:AvOK A w:=hAe ▸ hA1
 replace q:IniOK [⟨v0,S0,trR (fun k=>w0.heap.size<=k\/S0 k) (oPt 54 (oPr (oRd zA2) (oPr (oRd (eSl zA0)) (oPr (oSl 4 (oRd zCl)) (oSl 60 (oRd zA1)))))) p0 []⟩] A w:=hAe ▸ q
 refine zAE [.tmp 4] func26 ntmps26 (by decide) Z Z (nb Z) ?_
 intro R hR
 replace h0:R 0=v0:=hR 0 _ Z
 replace h1:R 1=.int .i64 p1:=(hR 1 _ Z).trans h1
 refine zQ0 ?_
 refine zQ3 (eI 0::[]) ?_ ?_
 exact op (fun Q U W H D=>zA9 Z)<|oz
 intro R w m n p
 obtain ⟨h0,h1⟩:=k2 n h0 h1
 replace q:=q.fr m
 replace d:=d.fr m.size
 replace j:=j.tr (m.ch noB) fun _ h=>False.elim h
 refine zQ0 ?_
 refine zQ0 ?_
 refine zQ3 (eI p1::eR v0::eR v0::eR (padd v0 1)::eF (.rep (eSl zA0) A p0.2.1)::eI (p0.2.1.length:Int)::eB (p1==(p0.2.1.length:Int))::[]) ?_ ?_
 exact om h1<|om h0<|op (fun Q U W H D=>zBT (zAJ (q.own 0 _ Z).2).ptr.ad (D.g 0 Z))<|op (fun Q U W H D=>zAQ ((zAJ (q.own 0 _ Z).2).ptr).ad (D.g 0 Z) zJA sizeOf44 (by decide) Z)<|op (fun Q U W H D=>(zGZ ((((zAJ ((q.fr W).own 0 _ Z).2).ptr).snd Z).fst) (D.g 0 Z) isAgg44 sizeOf44))<|op (fun Q U W H D=>zAY (aT:=#[]) (D.g 0 Z) underlying44)<|op (fun Q U W H D=>zDA (D.g 0 Z) (D.g 1 Z))<|oz
 intro R w m n p
 obtain ⟨h0,h1⟩:=k2 n h0 h1
 have h15:=p.r 6 Z
 replace q:=q.fr m
 replace d:=d.fr m.size
 replace j:=j.tr (m.ch noB) fun _ h=>False.elim h
 refine zPt (p1==(p0.2.1.length:Int)) h15 (fun c87=>?_) (fun c87=>?_)
 have c:=zAh c87 c
 refine zQ0 ?_
 obtain ⟨x88,q89,c⟩:=zAB c
 refine zQ3 (eR v0::eI x88::eI x88::[]) ?_ ?_
 exact om h0<|op (fun Q U W H D=>by have ra0:Rep (ePt zBq) A0 U (Q 16) _:=(zKx ((q.fr W).own 0 _ Z).2 B (fun k o hk ha=>(((q.fr W).own 0 _ Z).1 k hk).elim (fun h=>Nat.not_lt.2 h (C k o ha)) fun h=>K k o ha h)).eq (D.g 0 Z);exact zAN call61 (zG0 (q89 Z) (hA00.fr ((Nat.le_trans j.size W.size))) ra0))<|oa<|oz
 intro R w m n p
 have h4:=p.r 2 Z
 replace q:=q.fr m
 replace d:=d.fr m.size
 replace j:=j.tr (m.ch noB) fun _ h=>False.elim h
 refine HT.ret ?_
 obtain rfl:=si c
 exact ⟨.inr Z,[R 4],⟨Z,N⟩,h4,zEl Z (q.own 0 _ Z) (q.ok 0 _ Z).2 B j⟩
 have c:=zAg c87 c
 refine HT.skip<|zQ0 ?_
 obtain ⟨h90,p_h90⟩:=(((((zAJ (q.own 0 _ Z).2).ptr).snd Z).snd (zCS _ _ _)).fst).open1 Z
 replace q:IniOK [⟨v0,S0,trR (fun k=>w0.heap.size<=k\/S0 k) (oPt 54 (oPr (oRd zA2) (oPr (oRd (eSl zA0)) (oPr (oSl 4 (oRd zCl)) (oSl 60 (oRd zA1)))))) p0 [((padd v0 2),[h90])]⟩] A w:=q.repin 0 Z (trP.pin p_h90)
 obtain ⟨e92,c⟩:=zAC c
 refine zQ5 [⟨v0,S0,trR (fun k=>w0.heap.size<=k\/S0 k) (oPt 54 (oPr (oRd zA2) (oPr (oRd (eSl zA0)) (oPr (oSl 4 (oRd zCl)) (oSl 60 (oRd zA1)))))) p0 [((padd v0 2),[h90])]⟩] (rR v0::rR v0::rR (padd v0 2)::rR h90::rI p1::rR (vptr h90 (p1.toNat*1))::⟨_,true,[0],some (trR (fun k=>w0.heap.size<=k\/S0 k) (oPt 54 (oPr (oRd zA2) (oPr (oRd (eSl zA0)) (oPr (oSl 4 (oRd zCl)) (oSl 60 (oRd zA1)))))) (p0.1,p0.2.1,(p0.2.2.1.set p1.toNat false),p0.2.2.2) []),false,fun A=>.any⟩::[]) (ur (ur (ur (ur (ur (ur (ua (UAll.nil)))))))) q d ?_ ?_
 exact rm h0<|rp (fun V Q U O D=>zBT (zAJ (q.own 0 _ Z).2).ptr.ad (D.g 0 Z))<|rp (fun V Q U O D=>zAQ ((zAJ (q.own 0 _ Z).2).ptr).ad (D.g 0 Z) zKW sizeOf52 (by decide) Z)<|rp (fun V Q U O D=>zBX ((O.rdo 0 _ Z Z).2.2 _ (.head _)) (D.g 0 Z) isAgg52 sizeOf52)<|rm h1<|rp (fun V Q U O D=>zDO ((((((zAJ (q.own 0 _ Z).2).ptr).snd Z).snd (zCS _ _ _)).fst).pin ((q.own 0 _ Z).2.2 _ (.head _)) Z) (D.g 0 Z) (D.g 1 Z) underlying52 sizeOf4 e92 Z)<|rc (zQ9 0 _ _ Z Z Z Z Z fun V Q U O D u S X I Y J L M=>by have a0:Q 23=(vptr h90 (p1.toNat*1)):=D.g 0 Z;have e0:=(J _ Z).1;rw [e0] at I ⊢;exact zEp (((((((zAJ I.2).ptr).snd Z).snd (zCS _ _ _)).fst).pin (I.2.2 _ (.head _)) Z).elem e92 Z) (zHr.eq Z) a0 Y I.1 sizeOf4 (fun _ _ _ h=>h))<|rz
 intro done ρ σ A R w y s
 obtain ⟨h0,h1⟩:=k2 s.rg h0 h1
 have z93:=s.inivR 0 Z
 have z94:=s.on y 7 6 Z Z Z Z Z z93
 obtain ⟨S95,eS_v0⟩:∃ S,σ 7=S:=⟨_,Z⟩
 replace B:=s.lowK B C K (q.geK (⟨fun _ h=>h,N⟩))
 replace j:Ch S0 w0 w:=j.tr s.ch (q.geK (⟨fun _ h=>h,N⟩))
 replace q:=s.left y [(7,⟨v0,S95,trR (fun k=>w0.heap.size<=k\/S0 k) (oPt 54 (oPr (oRd zA2) (oPr (oRd (eSl zA0)) (oPr (oSl 4 (oRd zCl)) (oSl 60 (oRd zA1)))))) (p0.1,p0.2.1,(p0.2.2.1.set p1.toNat false),p0.2.2.2) []⟩)] ⟨Z,Z,z94,eS_v0,Z,N⟩
 replace d:=s.avok
 obtain ⟨e96,c⟩:=zAC c
 obtain ⟨x97,q98,c⟩:=zAB c
 refine zQ2 [⟨v0,S95,trR (fun k=>w0.heap.size<=k\/S0 k) (oPt 54 (oPr (oRd zA2) (oPr (oRd (eSl zA0)) (oPr (oSl 4 (oRd zCl)) (oSl 60 (oRd zA1)))))) (p0.1,p0.2.1,(p0.2.2.1.set p1.toNat false),p0.2.2.2) []⟩] (rR v0::rI p1::rI (p1+1)::⟨_,true,[0],some (trR (fun k=>w0.heap.size<=k\/S0 k) (oPt 54 (oPr (oRd zA2) (oPr (oRd (eSl zA0)) (oPr (oSl 4 (oRd zCl)) (oSl 60 (oRd zA1)))))) x97.2 []),false,fun A=>.raw (.int .i64 x97.1)⟩::rI x97.1::[]) (ur (ur (ur (ur (ur (UAll.nil)))))) q d ?_ ?_
 exact rm h0<|rm h1<|rp (fun V Q U O D=>zAi (D.g 0 Z) Z e96)<|rc (zQ9 0 _ _ Z Z Z Z Z fun V Q U O D u S X I Y J L M=>by have a0:Q 24=v0:=D.g 0 Z;have a1:Q 26=.int .i64 (p1+1):=D.g 1 Z;have e0:=(J _ Z).1;rw [e0] at I ⊢;have hu0:zAM Q (.tmp 24)=v0:=a0;exact zFB call26 (zAJ I.2) Y I.1 (fun k hk=>.inl (Nat.le_trans (Nat.le_trans j.size O.ch.size) hk)) (fun k hk=>SP.lt _ I.2 hk) (fun S1 hS1 hP=>by simp only [List.map,hu0];exact IH (q98 Z) (O.av.subS _) (fun b o h=>h.2) hP a1) (fun _ _ _ h=>h))<|ra<|rz
 intro done ρ σ A R w y s
 obtain ⟨h0,h1⟩:=k2 s.rg h0 h1
 have z99:=s.inivR 0 Z
 have z100:=s.on y 4 3 Z Z Z Z Z z99
 obtain ⟨S101,eS_v0⟩:∃ S,σ 4=S:=⟨_,Z⟩
 have h5:=s.r y 4 Z
 replace B:=s.lowK B C K (q.geK (⟨fun _ h=>h,N⟩))
 replace j:Ch S0 w0 w:=j.tr s.ch (q.geK (⟨fun _ h=>h,N⟩))
 replace q:=s.left y [(4,⟨v0,S101,trR (fun k=>w0.heap.size<=k\/S0 k) (oPt 54 (oPr (oRd zA2) (oPr (oRd (eSl zA0)) (oPr (oSl 4 (oRd zCl)) (oSl 60 (oRd zA1)))))) x97.2 []⟩)] ⟨Z,Z,z100,eS_v0,Z,N⟩
 replace d:=s.avok
 refine zQ0 ?_
 obtain ⟨h102,p_h102⟩:=(((((zAJ (q.own 0 _ Z).2).ptr).snd Z).snd (zCS _ _ _)).fst).open1 Z
 replace q:IniOK [⟨v0,S101,trR (fun k=>w0.heap.size<=k\/S0 k) (oPt 54 (oPr (oRd zA2) (oPr (oRd (eSl zA0)) (oPr (oSl 4 (oRd zCl)) (oSl 60 (oRd zA1)))))) x97.2 [((padd v0 2),[h102])]⟩] A w:=q.repin 0 Z (trP.pin p_h102)
 obtain ⟨e104,c⟩:=zAC c
 refine zQ5 [⟨v0,S101,trR (fun k=>w0.heap.size<=k\/S0 k) (oPt 54 (oPr (oRd zA2) (oPr (oRd (eSl zA0)) (oPr (oSl 4 (oRd zCl)) (oSl 60 (oRd zA1)))))) x97.2 [((padd v0 2),[h102])]⟩] (rR v0::rR v0::rR (padd v0 2)::rR h102::rI p1::rR (vptr h102 (p1.toNat*1))::⟨_,true,[0],some (trR (fun k=>w0.heap.size<=k\/S0 k) (oPt 54 (oPr (oRd zA2) (oPr (oRd (eSl zA0)) (oPr (oSl 4 (oRd zCl)) (oSl 60 (oRd zA1)))))) (x97.2.1,x97.2.2.1,(x97.2.2.2.1.set p1.toNat true),x97.2.2.2.2) []),false,fun A=>.any⟩::[]) (ur (ur (ur (ur (ur (ur (ua (UAll.nil)))))))) q d ?_ ?_
 exact rm h0<|rp (fun V Q U O D=>zBT (zAJ (q.own 0 _ Z).2).ptr.ad (D.g 0 Z))<|rp (fun V Q U O D=>zAQ ((zAJ (q.own 0 _ Z).2).ptr).ad (D.g 0 Z) zKW sizeOf52 (by decide) Z)<|rp (fun V Q U O D=>zBX ((O.rdo 0 _ Z Z).2.2 _ (.head _)) (D.g 0 Z) isAgg52 sizeOf52)<|rm h1<|rp (fun V Q U O D=>zDO ((((((zAJ (q.own 0 _ Z).2).ptr).snd Z).snd (zCS _ _ _)).fst).pin ((q.own 0 _ Z).2.2 _ (.head _)) Z) (D.g 0 Z) (D.g 1 Z) underlying52 sizeOf4 e104 Z)<|rc (zQ9 0 _ _ Z Z Z Z Z fun V Q U O D u S X I Y J L M=>by have a0:Q 33=(vptr h102 (p1.toNat*1)):=D.g 0 Z;have e0:=(J _ Z).1;rw [e0] at I ⊢;exact zEp (((((((zAJ I.2).ptr).snd Z).snd (zCS _ _ _)).fst).pin (I.2.2 _ (.head _)) Z).elem e104 Z) (zHr.eq Z) a0 Y I.1 sizeOf4 (fun _ _ _ h=>h))<|rz
 intro done ρ σ A R w y s
 obtain ⟨h0,h1,h5⟩:=k3 s.rg h0 h1 h5
 have z105:=s.inivR 0 Z
 have z106:=s.on y 7 6 Z Z Z Z Z z105
 obtain ⟨S107,eS_v0⟩:∃ S,σ 7=S:=⟨_,Z⟩
 replace B:=s.lowK B C K (q.geK (⟨fun _ h=>h,N⟩))
 replace j:Ch S0 w0 w:=j.tr s.ch (q.geK (⟨fun _ h=>h,N⟩))
 replace q:=s.left y [(7,⟨v0,S107,trR (fun k=>w0.heap.size<=k\/S0 k) (oPt 54 (oPr (oRd zA2) (oPr (oRd (eSl zA0)) (oPr (oSl 4 (oRd zCl)) (oSl 60 (oRd zA1)))))) (x97.2.1,x97.2.2.1,(x97.2.2.2.1.set p1.toNat true),x97.2.2.2.2) []⟩)] ⟨Z,Z,z106,eS_v0,Z,N⟩
 replace d:=s.avok
 obtain ⟨e108,c⟩:=zAC c
 obtain ⟨x109,q110,c⟩:=zAB c
 refine zQ2 [⟨v0,S107,trR (fun k=>w0.heap.size<=k\/S0 k) (oPt 54 (oPr (oRd zA2) (oPr (oRd (eSl zA0)) (oPr (oSl 4 (oRd zCl)) (oSl 60 (oRd zA1)))))) (x97.2.1,x97.2.2.1,(x97.2.2.2.1.set p1.toNat true),x97.2.2.2.2) []⟩] (rR v0::rI p1::rI (p1+1)::⟨_,true,[0],some (trR (fun k=>w0.heap.size<=k\/S0 k) (oPt 54 (oPr (oRd zA2) (oPr (oRd (eSl zA0)) (oPr (oSl 4 (oRd zCl)) (oSl 60 (oRd zA1)))))) x109.2 []),false,fun A=>.raw (.int .i64 x109.1)⟩::rI x109.1::[]) (ur (ur (ur (ur (ur (UAll.nil)))))) q d ?_ ?_
 exact rm h0<|rm h1<|rp (fun V Q U O D=>zAi (D.g 0 Z) Z e108)<|rc (zQ9 0 _ _ Z Z Z Z Z fun V Q U O D u S X I Y J L M=>by have a0:Q 34=v0:=D.g 0 Z;have a1:Q 36=.int .i64 (p1+1):=D.g 1 Z;have e0:=(J _ Z).1;rw [e0] at I ⊢;have hu0:zAM Q (.tmp 34)=v0:=a0;exact zFB call26 (zAJ I.2) Y I.1 (fun k hk=>.inl (Nat.le_trans (Nat.le_trans j.size O.ch.size) hk)) (fun k hk=>SP.lt _ I.2 hk) (fun S1 hS1 hP=>by simp only [List.map,hu0];exact IH (q110 Z) (O.av.subS _) (fun b o h=>h.2) hP a1) (fun _ _ _ h=>h))<|ra<|rz
 intro done ρ σ A R w y s
 obtain ⟨h0,h1,h5⟩:=k3 s.rg h0 h1 h5
 have z111:=s.inivR 0 Z
 have z112:=s.on y 4 3 Z Z Z Z Z z111
 obtain ⟨S113,eS_v0⟩:∃ S,σ 4=S:=⟨_,Z⟩
 have h6:=s.r y 4 Z
 replace B:=s.lowK B C K (q.geK (⟨fun _ h=>h,N⟩))
 replace j:Ch S0 w0 w:=j.tr s.ch (q.geK (⟨fun _ h=>h,N⟩))
 replace q:=s.left y [(4,⟨v0,S113,trR (fun k=>w0.heap.size<=k\/S0 k) (oPt 54 (oPr (oRd zA2) (oPr (oRd (eSl zA0)) (oPr (oSl 4 (oRd zCl)) (oSl 60 (oRd zA1)))))) x109.2 []⟩)] ⟨Z,Z,z112,eS_v0,Z,N⟩
 replace d:=s.avok
 refine zQ0 ?_
 refine zQ0 ?_
 refine zQ3 (eI x97.1::eI x109.1::eB (x97.1==x109.1)::[]) ?_ ?_
 exact om h5<|om h6<|op (fun Q U W H D=>zDA (D.g 0 Z) (D.g 1 Z))<|oz
 intro R w m n p
 obtain ⟨h0,h1,h5,h6⟩:=k4 n h0 h1 h5 h6
 have h40:=p.r 2 Z
 replace q:=q.fr m
 replace d:=d.fr m.size
 replace j:=j.tr (m.ch noB) fun _ h=>False.elim h
 refine zPt (x97.1==x109.1) h40 (fun c114=>?_) (fun c114=>?_)
 have c:=zAh c114 c
 refine zQ0 ?_
 refine zQ3 (eI x97.1::eI x97.1::[]) ?_ ?_
 exact om h5<|oa<|oz
 intro R w m n p
 have h4:=p.r 1 Z
 replace q:=q.fr m
 replace d:=d.fr m.size
 replace j:=j.tr (m.ch noB) fun _ h=>False.elim h
 refine HT.ret ?_
 obtain rfl:=si c
 exact ⟨.inr Z,[R 4],⟨Z,N⟩,h4,zEl Z (q.own 0 _ Z) (q.ok 0 _ Z).2 B j⟩
 have c:=zAg c114 c
 refine HT.skip<|zQ0 ?_
 obtain ⟨e115,e116,c⟩:=ck2 c
 refine zPx [⟨v0,S113,trR (fun k=>w0.heap.size<=k\/S0 k) (oPt 54 (oPr (oRd zA2) (oPr (oRd (eSl zA0)) (oPr (oSl 4 (oRd zCl)) (oSl 60 (oRd zA1)))))) x109.2 []⟩] (rR v0::rR v0::rR (padd v0 1)::(rF fun A=>.rep (eSl zA0) A x109.2.2.1)::rI p1::(rF fun A=>.qtr zA0 A (gtD x109.2.2.1 p1))::(rF fun A=>.qtr (eInt .i64) A ((gtD x109.2.2.1 p1).1))::rI ((gtD x109.2.2.1 p1).1)::rR v0::rR v0::rR (padd v0 1)::(rF fun A=>.rep (eSl zA0) A x109.2.2.1)::rI p1::(rF fun A=>.qtr zA0 A (gtD x109.2.2.1 p1))::(rF fun A=>.qtr (eInt .i64) A ((gtD x109.2.2.1 p1).2.1))::rI ((gtD x109.2.2.1 p1).2.1)::rI x97.1::rI x109.1::(rF fun A=>.rep zA1 A ((gtD x109.2.2.1 p1).1,(gtD x109.2.2.1 p1).2.1,x97.1,x109.1))::⟨_,true,[],some (.box w0.heap.size 60 zA1 (0,(0,(0,0)))),true,fun A=>.any⟩::⟨_,true,[20],some (.box w0.heap.size 60 zA1 ((gtD x109.2.2.1 p1).1,(gtD x109.2.2.1 p1).2.1,x97.1,x109.1)),false,fun A=>.any⟩::[]) (by kernel_rfl) (by kernel_rfl) (by kernel_rfl) (Wf.mk' (by kernel_rfl) (ur (ur (ur (up (ur (UAll.cons zCA (UAll.cons zCA (ur (ur (ur (ur (up (ur (UAll.cons zCA (UAll.cons zCA (ur (ur (ur (up (ua (ua (UAll.nil)))))))))))))))))))))) (by kernel_rfl) (by kernel_rfl)) q d ?_ ?_
 exact rm h0<|rp (fun V Q U O D=>zBT (zAJ (q.own 0 _ Z).2).ptr.ad (D.g 0 Z))<|rp (fun V Q U O D=>zAQ ((zAJ (q.own 0 _ Z).2).ptr).ad (D.g 0 Z) zJA sizeOf44 (by decide) Z)<|rp (fun V Q U O D=>(zGZ ((((zAJ (O.rdo 0 _ Z Z).2).ptr).snd Z).fst) (D.g 0 Z) isAgg44 sizeOf44))<|rm h1<|rp (fun V Q U O D=>zAL (D.g 0 Z) (D.g 1 Z) underlying44 sizeOf69 e115)<|rp (fun V Q U O D=>zAr (qt (D.g 0 Z)) zDH sizeOf3 (by decide) zAo Z)<|rp (fun V Q U O D=>OpF.int (zAb (QRep.ptr (D.g 0 Z)) isAgg3 sizeOf3))<|rm h0<|rp (fun V Q U O D=>zBT (zAJ (q.own 0 _ Z).2).ptr.ad (D.g 0 Z))<|rp (fun V Q U O D=>zAQ ((zAJ (q.own 0 _ Z).2).ptr).ad (D.g 0 Z) zJA sizeOf44 (by decide) Z)<|rp (fun V Q U O D=>(zGZ ((((zAJ (O.rdo 0 _ Z Z).2).ptr).snd Z).fst) (D.g 0 Z) isAgg44 sizeOf44))<|rm h1<|rp (fun V Q U O D=>zAL (D.g 0 Z) (D.g 1 Z) underlying44 sizeOf69 e116)<|rp (fun V Q U O D=>zAr (qt (D.g 0 Z)) zDU sizeOf3 (by decide) zAv Z)<|rp (fun V Q U O D=>OpF.int (zAb (QRep.ptr (D.g 0 Z)) isAgg3 sizeOf3))<|rm h5<|rm h6<|rp (fun V Q U O D=>by have a0:Q 49=.int .i64 ((gtD x109.2.2.1 p1).1):=D.g 0 Z;have a1:Q 57=.int .i64 ((gtD x109.2.2.1 p1).2.1):=D.g 1 Z;have a2:Q 58=.int .i64 x97.1:=D.g 2 Z;have a3:Q 59=.int .i64 x109.1:=D.g 3 Z;exact zDK (v:=.agg #[.int .i64 ((gtD x109.2.2.1 p1).1),.int .i64 ((gtD x109.2.2.1 p1).2.1),.int .i64 x97.1,.int .i64 x109.1]) (by simp [execOp,Instr.build,zAM,a0,a1,a2,a3,underlying,underlying60,zeroValue60,sizeOf3,go_sem,Instr.fill]) ⟨_,Z,zAy zAP (zAy zAP (zAy zAP zAP))⟩)<|rc (OblR.made _ Z Z Z Z fun V Q U O D=>by exact zBP zeroValue60 (fun A w=>zAy zAP (zAy zAP (zAy zAP zAP))) (Nat.le_trans j.size O.ch.size))<|rc (OblR.took 20 _ _ Z Z Z Z Z fun V Q U O D u X Y J L M=>by have a1:Rep zA1 V U (Q 60) ((gtD x109.2.2.1 p1).1,(gtD x109.2.2.1 p1).2.1,x97.1,x109.1):=D.g 1 Z;obtain ⟨b,hb,hB',hbx⟩:=X;have hop':=L _ _ Z Z Z Z;exact zAp a1 (hop'.symm.trans hb) hb ⟨b,hb,hB',hbx⟩ Y (FldS.id _) sizeOf60 Z)<|rz
 intro done ρ σ A R w y s
 replace h0:=k1 s.rg h0
 have z117:=s.inivR 0 Z
 obtain ⟨b7_117,e_b7_117⟩:=s.boxv y 21 Z Z
 have z119:=(s.opnR y 21 20 Z Z Z Z Z).symm.trans e_b7_117
 have h7:=s.ov y 20 19 z119
 have eS_v0:=s.inisR 0 Z
 replace B:=s.lowK B C K (q.geK (⟨fun _ h=>h,N⟩))
 replace j:Ch S0 w0 w:=j.tr s.ch (q.geK (⟨fun _ h=>h,N⟩))
 replace q:=s.left y [(0,⟨v0,S113,trR (fun k=>w0.heap.size<=k\/S0 k) (oPt 54 (oPr (oRd zA2) (oPr (oRd (eSl zA0)) (oPr (oSl 4 (oRd zCl)) (oSl 60 (oRd zA1)))))) x109.2 []⟩),(21,ob (.pointer (some ⟨b7_117,0,none⟩)) (.box w0.heap.size 60 zA1 ((gtD x109.2.2.1 p1).1,(gtD x109.2.2.1 p1).2.1,x97.1,x109.1)))] ⟨Z,Z,z117,eS_v0,Z,⟨Z,Z,e_b7_117,Z,Z,N⟩⟩
 replace d:=s.avok
 refine zQ0 ?_
 obtain ⟨h120,p_h120⟩:=((((((zAJ (q.own 0 _ Z).2).ptr).snd Z).snd (zCS _ _ _)).snd (zCS _ _ _))).open1 Z
 replace q:IniOK [⟨v0,S113,trR (fun k=>w0.heap.size<=k\/S0 k) (oPt 54 (oPr (oRd zA2) (oPr (oRd (eSl zA0)) (oPr (oSl 4 (oRd zCl)) (oSl 60 (oRd zA1)))))) x109.2 [((padd v0 3),[h120])]⟩,ob (.pointer (some ⟨b7_117,0,none⟩)) (.box w0.heap.size 60 zA1 ((gtD x109.2.2.1 p1).1,(gtD x109.2.2.1 p1).2.1,x97.1,x109.1))] A w:=q.repin 0 Z (trP.pin p_h120)
 obtain ⟨x122,q123,c⟩:=zAB c
 refine zPw (by kernel_rfl) (l:=eR v0::eR v0::eR (padd v0 3)::eR h120::eF (.rep zA1 A ((gtD x109.2.2.1 p1).1,(gtD x109.2.2.1 p1).2.1,x97.1,x109.1))::eI x122::eI x122::[]) (tl:=[]) (by kernel_rfl) (by kernel_rfl) (by kernel_rfl) (by kernel_rfl) ?_ ?_
 exact om h0<|op (fun Q U W H D=>zBT (zAJ (q.own 0 _ Z).2).ptr.ad (D.g 0 Z))<|op (fun Q U W H D=>zAQ ((zAJ (q.own 0 _ Z).2).ptr).ad (D.g 0 Z) zIT sizeOf30 (by decide) Z)<|op (fun Q U W H D=>zBX (((q.fr W).own 0 _ Z).2.2 _ (.head _)) (D.g 0 Z) isAgg30 sizeOf30)<|op (fun Q U W H D=>(zA7 ((q.fr W).ok 1 _ Z).1 ((H 7 Z).trans h7) (Fld.id _) Z isAgg60 sizeOf60))<|op (fun Q U W H D=>by have ra0:Rep (eSl zA1) A0 U (Q 64) _:=(zNu (((((((zAJ ((q.fr W).own 0 _ Z).2).ptr).snd Z).snd (zCS _ _ _)).snd (zCS _ _ _))).pin (((q.fr W).own 0 _ Z).2.2 _ (.head _)) Z) B (fun k o hk ha=>(((q.fr W).own 0 _ Z).1 k hk).elim (fun h=>Nat.not_lt.2 h (C k o ha)) fun h=>K k o ha h)).eq (D.g 0 Z);have a1:Rep zA1 A U (Q 65) ((gtD x109.2.2.1 p1).1,(gtD x109.2.2.1 p1).2.1,x97.1,x109.1):=D.g 1 Z;exact zAN call62 (zC9 (q123 Z) (hA00.fr ((Nat.le_trans j.size W.size))) ra0 (a1.down B)))<|oa<|oz
 intro R w m n p
 obtain ⟨h0,h7⟩:=k2 n h0 h7
 have h8:=p.r 6 Z
 replace q:=q.fr m
 replace d:=d.fr m.size
 replace j:=j.tr (m.ch noB) fun _ h=>False.elim h
 replace q:IniOK [⟨v0,S113,trR (fun k=>w0.heap.size<=k\/S0 k) (oPt 54 (oPr (oRd zA2) (oPr (oRd (eSl zA0)) (oPr (oSl 4 (oRd zCl)) (oSl 60 (oRd zA1)))))) x109.2 []⟩,ob (.pointer (some ⟨b7_117,0,none⟩)) (.box w0.heap.size 60 zA1 ((gtD x109.2.2.1 p1).1,(gtD x109.2.2.1 p1).2.1,x97.1,x109.1))] A w:=q.repin 0 Z trP.nopin
 refine zQ0 ?_
 refine zQ0 ?_
 refine zQ3 (eI x122::eB (decide (x122<0))::[]) ?_ ?_
 exact om h8<|op (fun Q U W H D=>zBS (D.g 0 Z) Z)<|oz
 intro R w m n p
 obtain ⟨h0,h7,h8⟩:=k3 n h0 h7 h8
 have h68:=p.r 1 Z
 replace q:=q.fr m
 replace d:=d.fr m.size
 replace j:=j.tr (m.ch noB) fun _ h=>False.elim h
 refine zPt (decide (x122<0)) h68 (fun c124=>?_) (fun c124=>?_)
 have c:=zAh c124 c
 refine zQ0 ?_
 obtain ⟨h125,p_h125⟩:=((((((zAJ (q.own 0 _ Z).2).ptr).snd Z).snd (zCS _ _ _)).snd (zCS _ _ _))).open1 Z
 replace q:IniOK [⟨v0,S113,trR (fun k=>w0.heap.size<=k\/S0 k) (oPt 54 (oPr (oRd zA2) (oPr (oRd (eSl zA0)) (oPr (oSl 4 (oRd zCl)) (oSl 60 (oRd zA1)))))) x109.2 [((padd v0 3),[h125])]⟩,ob (.pointer (some ⟨b7_117,0,none⟩)) (.box w0.heap.size 60 zA1 ((gtD x109.2.2.1 p1).1,(gtD x109.2.2.1 p1).2.1,x97.1,x109.1))] A w:=q.repin 0 Z (trP.pin p_h125)
 refine zQ3 (eR v0::eR v0::eR (padd v0 3)::eR h125::eI (x109.2.2.2.2.length:Int)::eI (x109.2.2.2.2.length:Int)::[]) ?_ ?_
 exact om h0<|op (fun Q U W H D=>zBT (zAJ (q.own 0 _ Z).2).ptr.ad (D.g 0 Z))<|op (fun Q U W H D=>zAQ ((zAJ (q.own 0 _ Z).2).ptr).ad (D.g 0 Z) zIT sizeOf30 (by decide) Z)<|op (fun Q U W H D=>zBX (((q.fr W).own 0 _ Z).2.2 _ (.head _)) (D.g 0 Z) isAgg30 sizeOf30)<|op (fun Q U W H D=>zGE (((((((zAJ (q.own 0 _ Z).2).ptr).snd Z).snd (zCS _ _ _)).snd (zCS _ _ _))).pin ((q.own 0 _ Z).2.2 _ (.head _)) Z) (D.g 0 Z) underlying30)<|oa<|oz
 intro R w m n p
 obtain ⟨h0,h7⟩:=k2 n h0 h7
 have h8:=p.r 5 Z
 replace q:=q.fr m
 replace d:=d.fr m.size
 replace j:=j.tr (m.ch noB) fun _ h=>False.elim h
 replace q:IniOK [⟨v0,S113,trR (fun k=>w0.heap.size<=k\/S0 k) (oPt 54 (oPr (oRd zA2) (oPr (oRd (eSl zA0)) (oPr (oSl 4 (oRd zCl)) (oSl 60 (oRd zA1)))))) x109.2 []⟩,ob (.pointer (some ⟨b7_117,0,none⟩)) (.box w0.heap.size 60 zA1 ((gtD x109.2.2.1 p1).1,(gtD x109.2.2.1 p1).2.1,x97.1,x109.1))] A w:=q.repin 0 Z trP.nopin
 obtain ⟨h127,p_h127⟩:=((((((zAJ (q.own 0 _ Z).2).ptr).snd Z).snd (zCS _ _ _)).snd (zCS _ _ _))).open1 Z
 replace q:IniOK [⟨v0,S113,trR (fun k=>w0.heap.size<=k\/S0 k) (oPt 54 (oPr (oRd zA2) (oPr (oRd (eSl zA0)) (oPr (oSl 4 (oRd zCl)) (oSl 60 (oRd zA1)))))) x109.2 [((padd v0 3),[h127])]⟩,ob (.pointer (some ⟨b7_117,0,none⟩)) (.box w0.heap.size 60 zA1 ((gtD x109.2.2.1 p1).1,(gtD x109.2.2.1 p1).2.1,x97.1,x109.1))] A w:=q.repin 0 Z (trP.pin p_h127)
 obtain ⟨e129,c⟩:=zAC c
 refine zPx [⟨v0,S113,trR (fun k=>w0.heap.size<=k\/S0 k) (oPt 54 (oPr (oRd zA2) (oPr (oRd (eSl zA0)) (oPr (oSl 4 (oRd zCl)) (oSl 60 (oRd zA1)))))) x109.2 [((padd v0 3),[h127])]⟩,ob (.pointer (some ⟨b7_117,0,none⟩)) (.box w0.heap.size 60 zA1 ((gtD x109.2.2.1 p1).1,(gtD x109.2.2.1 p1).2.1,x97.1,x109.1))] (rR v0::rR v0::rR v0::rR (padd v0 3)::rR h127::(rF fun A=>.rep zA1 A ((gtD x109.2.2.1 p1).1,(gtD x109.2.2.1 p1).2.1,x97.1,x109.1))::(rF fun A=>.rep (eSl zA1) A ([((gtD x109.2.2.1 p1).1,(gtD x109.2.2.1 p1).2.1,x97.1,x109.1)]:List zA4))::⟨_,true,[0],some (.gen (fun k=>w0.heap.size<=k\/S0 k) (pdP (oSl 60 (oRd zA1)) (padd v0 3) (fun z A w S=>(trP (oPt 54 (oPr (oRd zA2) (oPr (oRd (eSl zA0)) (oPr (oSl 4 (oRd zCl)) (oSl 60 (oRd zA1)))))) (x109.2.1,x109.2.2.1,x109.2.2.2.1,z) []).P A w S v0) (x109.2.2.2.2++([((gtD x109.2.2.1 p1).1,(gtD x109.2.2.1 p1).2.1,x97.1,x109.1)]:List zA4)))),true,fun A=>.any⟩::rR v0::rR (padd v0 3)::⟨_,true,[9],some (.gen (fun k=>w0.heap.size<=k\/S0 k) (fixP v0 (trP (oPt 54 (oPr (oRd zA2) (oPr (oRd (eSl zA0)) (oPr (oSl 4 (oRd zCl)) (oSl 60 (oRd zA1)))))) (x109.2.1,x109.2.2.1,x109.2.2.2.1,(x109.2.2.2.2++([((gtD x109.2.2.1 p1).1,(gtD x109.2.2.1 p1).2.1,x97.1,x109.1)]:List zA4))) []))),false,fun A=>.any⟩::[]) (by kernel_rfl) (by kernel_rfl) (by kernel_rfl) (Wf.mk' (by kernel_rfl) (ur (ur (ur (ur (ur (up (up (ua (ur (ur (ua (UAll.nil)))))))))))) (by kernel_rfl) (by kernel_rfl)) q d ?_ ?_
 exact rm h0<|rm h0<|rp (fun V Q U O D=>zBT (zAJ (q.own 0 _ Z).2).ptr.ad (D.g 0 Z))<|rp (fun V Q U O D=>zAQ ((zAJ (q.own 0 _ Z).2).ptr).ad (D.g 0 Z) zIT sizeOf30 (by decide) Z)<|rp (fun V Q U O D=>zBX ((O.rdo 0 _ Z Z).2.2 _ (.head _)) (D.g 0 Z) isAgg30 sizeOf30)<|rp (fun V Q U O D=>(zA7 (O.rd 1 _ Z Z) ((O.old 7 Z).trans h7) (Fld.id _) Z isAgg60 sizeOf60))<|rp (fun V Q U O D=>zCj [_] (E:=zA1) ⟨(D.g 0 Z),N⟩ underlying30 sizeOf60 zeroValue60 Z Z Z O.av)<|rc (zQ9 0 _ _ Z Z Z Z Z fun V Q U O D u S X I Y J L M=>by have a0:Q 78=h127:=D.g 0 Z;have a1:Rep (eSl zA1) V U (Q 80) ([((gtD x109.2.2.1 p1).1,(gtD x109.2.2.1 p1).2.1,x97.1,x109.1)]:List zA4):=D.g 1 Z;have e0:=(J _ Z).1;rw [e0] at I ⊢;exact zF0 (((((zAJ I.2).ptr).snd Z).snd (zCS _ _ _)).snd (zCS _ _ _)) (I.2.2 _ (.head _)) a0 Y I.1 (fun k hk=>.inl (Nat.le_trans (Nat.le_trans j.size O.ch.size) hk)) (fun k hk=>SP.lt _ I.2 hk) a1 underlying30 zO2 e129)<|rp (fun V Q U O D=>zBT (zAJ (q.own 0 _ Z).2).ptr.ad (D.g 0 Z))<|rp (fun V Q U O D=>zAQ ((zAJ (q.own 0 _ Z).2).ptr).ad (D.g 0 Z) zIT sizeOf30 (by decide) Z)<|rc (zQ9 9 _ _ Z Z Z Z Z fun V Q U O D u S X I Y J L M=>by have a0:Q 83=(padd v0 3):=D.g 0 Z;exact zEy I.2 (L _ _ Z Z Z Z).symm a0 Y I.1 sizeOf30 (fun _ _ _ h=>h))<|rz
 intro done ρ σ A R w y s
 replace h8:=k1 s.rg h8
 obtain ⟨u130,e_u130⟩:∃ u,ρ 12=u:=⟨_,Z⟩
 have z131:=s.inivR 1 Z
 obtain ⟨S132,eS_v0⟩:∃ S,σ 12=S:=⟨_,Z⟩
 replace B:=s.lowK B C K (q.geK (⟨fun _ h=>h,⟨.inl Z,N⟩⟩))
 replace j:Ch S0 w0 w:=j.tr s.ch (q.geK (⟨fun _ h=>h,⟨.inl Z,N⟩⟩))
 replace q:=s.left y [(12,⟨u130,S132,.gen (fun k=>w0.heap.size<=k\/S0 k) (fixP v0 (trP (oPt 54 (oPr (oRd zA2) (oPr (oRd (eSl zA0)) (oPr (oSl 4 (oRd zCl)) (oSl 60 (oRd zA1)))))) (x109.2.1,x109.2.2.1,x109.2.2.2.1,(x109.2.2.2.2++([((gtD x109.2.2.1 p1).1,(gtD x109.2.2.1 p1).2.1,x97.1,x109.1)]:List zA4))) []))⟩)] ⟨Z,Z,e_u130,eS_v0,Z,N⟩
 replace d:=s.avok
 replace q:IniOK [⟨v0,S132,trR (fun k=>w0.heap.size<=k\/S0 k) (oPt 54 (oPr (oRd zA2) (oPr (oRd (eSl zA0)) (oPr (oSl 4 (oRd zCl)) (oSl 60 (oRd zA1)))))) (x109.2.1,x109.2.2.1,x109.2.2.2.1,(x109.2.2.2.2++([((gtD x109.2.2.1 p1).1,(gtD x109.2.2.1 p1).2.1,x97.1,x109.1)]:List zA4))) []⟩] A w:=q.refix 0 Z
 obtain ⟨Yg132,g_Yg132⟩:∃ z:zBK,z=(x109.2.1,x109.2.2.1,x109.2.2.2.1,(x109.2.2.2.2++([((gtD x109.2.2.1 p1).1,(gtD x109.2.2.1 p1).2.1,x97.1,x109.1)]:List zA4))):=⟨_,Z⟩
 rw [<- g_Yg132] at q
 try rw [<- g_Yg132] at c
 refine zQ0 ?_
 obtain ⟨e134,c⟩:=zAC c
 refine zQ3 (eI (x109.2.2.2.2.length:Int)::eI ((x109.2.2.2.2.length:Int)+2)::eI ((x109.2.2.2.2.length:Int)+2)::[]) ?_ ?_
 exact om h8<|op (fun Q U W H D=>zAi (D.g 0 Z) Z e134)<|oa<|oz
 intro R w m n p
 have h4:=p.r 2 Z
 replace q:=q.fr m
 replace d:=d.fr m.size
 replace j:=j.tr (m.ch noB) fun _ h=>False.elim h
 refine HT.ret ?_
 obtain rfl:=si c
 exact ⟨.inr Z,[R 4],⟨Z,N⟩,h4,zEl Z (q.own 0 _ Z) (q.ok 0 _ Z).2 B j⟩
 have c:=zAg c124 c
 refine HT.skip<|zQ0 ?_
 obtain ⟨e135,c⟩:=zAC c
 refine zQ3 (eI x122::eI (x122+2)::eI (x122+2)::[]) ?_ ?_
 exact om h8<|op (fun Q U W H D=>zAi (D.g 0 Z) Z e135)<|oa<|oz
 intro R w m n p
 have h4:=p.r 2 Z
 replace q:=q.fr m
 replace q:IniOK [⟨v0,S113,trR (fun k=>w0.heap.size<=k\/S0 k) (oPt 54 (oPr (oRd zA2) (oPr (oRd (eSl zA0)) (oPr (oSl 4 (oRd zCl)) (oSl 60 (oRd zA1)))))) x109.2 []⟩] A w:=q.sub [(0,⟨v0,S113,trR (fun k=>w0.heap.size<=k\/S0 k) (oPt 54 (oPr (oRd zA2) (oPr (oRd (eSl zA0)) (oPr (oSl 4 (oRd zCl)) (oSl 60 (oRd zA1)))))) x109.2 []⟩)] ⟨Z,Z,N⟩
 replace d:=d.fr m.size
 replace j:=j.tr (m.ch noB) fun _ h=>False.elim h
 refine HT.ret ?_
 obtain rfl:=si c
 exact ⟨.inr Z,[R 4],⟨Z,N⟩,h4,zEl Z (q.own 0 _ Z) (q.ok 0 _ Z).2 B j⟩
theorem zGB {q : Nat} {fu : Nat} {A0 : Av} {p0 : zBK} {p1 : Int} {r : Int × zBK} (c : zBH q fu p0 p1 = some r) {w : World} {v0 : Value} {v1 : Value} {S0 : Nat -> Prop} (d : AvOK A0 w) (K : ∀ b o, A0 b o -> ¬ S0 b) (h0 : (trP (oPt 54 (oPr (oRd zA2) (oPr (oRd (eSl zA0)) (oPr (oSl 4 (oRd zCl)) (oSl 60 (oRd zA1)))))) p0 []).P (addS A0 S0) w S0 v0) (h1 : v1=.int .i64 p1) :
 Calls prog 26 #[v0,v1] w fun e w'=>∃ v,e=.returned v/\(v=.int .i64 r.1/\Gave (oPt 54 (oPr (oRd zA2) (oPr (oRd (eSl zA0)) (oPr (oSl 4 (oRd zCl)) (oSl 60 (oRd zA1)))))) A0 S0 w v0 r.2 w'):=zFu q c d K h0 h1
def zCq (fu:Nat) (p0:zAD):Option (zAG × Bool):=
 cl true (zCO fu p0) fun x4=>
 bif (!x4) then (
 some ((0,([]:List zA4)),false)
 ) else (
 cl true (zBp fu p0) fun x11=>
 ck (mkOK (x11.length:Int)) <|
 cl true (zBH fu fu (p0,x11,(List.replicate (x11.length:Int).toNat false),([]:List zA4)) 0) fun x21=>
 some ((x21.1,x21.2.2.2.2),true)
 )
set_option linter.unusedSimpArgs false in
theorem zGC {fu : Nat} {A0 : Av} {p0 : zAD} {r : zAG × Bool} (c : zCq fu p0 = some r) {w : World} {v0 : Value} (d : AvOK A0 w) (h0 : Rep zA2 A0 w v0 p0) :
 Calls prog 6 #[v0] w fun e w'=>∃ v,e=.returned v/\(∃ (u0:Value) (S0:Nat->Prop) (A1:Av),GPost A0 (fun _=>False) w [⟨u0,S0,trR (geB w.heap.size) (oPr (oRd (eInt .i64)) (oSl 60 (oRd zA1))) r.1 []⟩] A1 w'/\(Fact.tup2 (.raw u0) (.raw (.bool r.2))).ok v w'):=by
 unfold zCq at c
 obtain ⟨w0,hw0,j,C⟩:=pw d
 have hA00:AvOK A0 w0:=C
 rw [show GPost A0 (fun _=>False) w=GPost A0 (fun _=>False) w0 from by rw [hw0]]
 rw [show w.heap.size=w0.heap.size from by rw [hw0]]
 obtain ⟨A,hAe,B,d,q⟩:=pa d
 refine zAE [.cell 2 32,.tmp 3] func6 ntmps6 (by decide) Z Z (nb Z) ?_
 intro R hR
 have f_v0:Rep zA2 A w v0 p0:=hAe ▸ h0
 replace h0:R 0=v0:=hR 0 _ Z
 refine zQ2 [] (⟨_,true,[],some (.box w0.heap.size 26 zA2 p0),true,fun A=>.any⟩::⟨_,true,[],some (trR (geB w0.heap.size) (oPt 32 (oPr (oRd (eInt .i64)) (oSl 60 (oRd zA1)))) (0,([]:List zA4)) []),true,fun A=>.any⟩::rB false::[]) (ua (ua (ur (UAll.nil)))) q d ?_ ?_
 exact rc (OblR.made _ Z Z Z Z fun V Q U O D=>by have a0:Q 0=v0:=(O.old 0 Z).trans h0;have ra0:=(f_v0.stp O.stp).eq a0;exact zAx ra0 (Nat.le_trans j.size O.ch.size))<|rc (zQ6 _ Z Z Z Z fun V Q U O D=>by exact zCp zeroValue32 (fun A w=>zI7 (zGj zAP) zDF) (fun k hk=>Nat.le_trans (Nat.le_trans j.size O.ch.size) hk))<|rp (fun V Q U O D=>zA9 Z)<|rz
 intro done ρ σ A R w y s
 obtain ⟨b1_0,e_b1_0⟩:=s.boxv y 0 Z Z
 have h1:=s.ov y 0 0 e_b1_0
 obtain ⟨u2,e_u2⟩:∃ u,ρ 1=u:=⟨_,Z⟩
 have h2:=s.ov y 1 1 e_u2
 obtain ⟨S3,eS_u2⟩:∃ S,σ 1=S:=⟨_,Z⟩
 obtain ⟨B,j,d⟩:=s.s B C j q N
 replace q:=s.left y [(0,ob (.pointer (some ⟨b1_0,0,none⟩)) (.box w0.heap.size 26 zA2 p0)),(1,⟨u2,S3,trR (geB w0.heap.size) (oPt 32 (oPr (oRd (eInt .i64)) (oSl 60 (oRd zA1)))) (0,([]:List zA4)) []⟩)] ⟨Z,Z,e_b1_0,Z,Z,⟨Z,Z,e_u2,eS_u2,Z,N⟩⟩
 refine zQ0 ?_
 obtain ⟨x4,q5,c⟩:=zAB c
 refine zQ1 d j (eF (.rep zA2 A p0)::eB x4::eB (!x4)::[]) ?_ ?_
 exact op (fun Q U W H D=>(zA7 ((q.fr W).ok 0 _ Z).1 ((H 1 Z).trans h1) (Fld.id _) Z isAgg26 sizeOf26))<|op (fun Q U W H D=>zAN call25 (zDz (q5 Z) (d.fr W.size) (D.g 0 Z)))<|op (fun Q U W H D=>zCM (D.g 0 Z))<|oz
 intro R w m n p d j
 obtain ⟨h1,h2⟩:=k2 n h1 h2
 have h9:=p.r 2 Z
 replace q:=q.fr m
 refine zPt (!x4) h9 (fun c6=>?_) (fun c6=>?_)
 have c:=zAh c6 c
 refine zQ2 [ob (.pointer (some ⟨b1_0,0,none⟩)) (.box w0.heap.size 26 zA2 p0),⟨u2,S3,trR (geB w0.heap.size) (oPt 32 (oPr (oRd (eInt .i64)) (oSl 60 (oRd zA1)))) (0,([]:List zA4)) []⟩] (⟨_,true,[],some (trR (geB w0.heap.size) (oPr (oRd (eInt .i64)) (oSl 60 (oRd zA1))) (0,([]:List zA4)) []),true,fun A=>.any⟩::⟨_,true,[1,2],some (trR (geB w0.heap.size) (oPt 32 (oPr (oRd (eInt .i64)) (oSl 60 (oRd zA1)))) (0,([]:List zA4)) []),false,fun A=>.any⟩::rB false::[]) (ua (ua (ur (UAll.nil)))) q d ?_ ?_
 exact rc (zQ6 _ Z Z Z Z fun V Q U O D=>by exact zEL (v:=.agg #[.int .i64 0,.slice none 0 0]) (by simp [execOp,Instr.build,zAM,underlying,underlying32,zeroValue32,sizeOf3,sizeOf30,go_sem,Instr.fill]) ⟨⟨_,Z,zI7 (zGj zAP) zDF⟩,fun q hq=>by cases hq⟩ (fun k hk=>Nat.le_trans (Nat.le_trans j.size O.ch.size) hk))<|rc (zQ7 1 [2] _ Z Z Z Z fun V Q U O D ρ σ X Y J L M hdd=>by have a0:Q 2=u2:=(O.old 2 Z).trans h2;have k1:=X 1 (.head _) _ Z;have e0:=(J 1 (.head _) _ Z).1;rw [e0] at k1 ⊢;exact zCz Z (zAJ k1.2.2).ptr (X 2 (.tail _ (.head _)) _ Z).2.2.1 (L 2 (.tail _ (.head _)) _ _ Z Z Z Z).symm a0 Y hdd k1.2.1 (X 2 (.tail _ (.head _)) _ Z).2.1 sizeOf32 (fun _ _ _ h=>h))<|rp (fun V Q U O D=>zA9 Z)<|rz
 intro done ρ σ A R w y s
 replace h2:=k1 s.rg h2
 have z7:=s.inivR 0 Z
 have z8:=s.inivR 1 Z
 have z9:=s.on y 3 1 Z Z Z Z Z z8
 obtain ⟨S10,eS_u2⟩:∃ S,σ 3=S:=⟨_,Z⟩
 have h3:=s.r y 2 Z
 obtain ⟨B,j,d⟩:=s.s B C j q ⟨Z,⟨fun _ h=>h,N⟩⟩
 replace q:=s.left y [(3,⟨u2,S10,trR (geB w0.heap.size) (oPt 32 (oPr (oRd (eInt .i64)) (oSl 60 (oRd zA1)))) (0,([]:List zA4)) []⟩)] ⟨Z,Z,z9,eS_u2,Z,N⟩
 refine HT.ret ?_
 obtain rfl:=si c
 obtain ⟨v_2,S_2,e_2,q⟩:=q.unbox 0 Z h2 isAgg32 sizeOf32
 obtain ⟨A1,hA1,hG1⟩:=GPost.of q d B (fun k hk=>.inl (q.ge (⟨fun _ h=>h,N⟩) k hk)) (j.ch (fun _=>False))
 exact ⟨.inr Z,[v_2,R 3],⟨e_2,⟨Z,N⟩⟩,v_2,S_2,A1,hG1,⟨_,_,Z,Z,h3⟩⟩
 have c:=zAg c6 c
 refine HT.skip ?_
 obtain ⟨x11,q12,c⟩:=zAB c
 refine zQ1 d j (eF (.rep zA2 A p0)::eF (.rep (eSl zA0) A x11)::eF (.rep (eSl zA0) A x11)::[]) ?_ ?_
 exact op (fun Q U W H D=>(zA7 ((q.fr W).ok 0 _ Z).1 ((H 1 Z).trans h1) (Fld.id _) Z isAgg26 sizeOf26))<|op (fun Q U W H D=>zAN call21 (zE1 (q12 Z) (d.fr W.size) (D.g 0 Z)))<|op (fun Q U W H D=>zA9 (D.g 0 Z))<|oz
 intro R w m n p d j
 obtain ⟨h1,h2⟩:=k2 n h1 h2
 obtain ⟨u13,h4,f_u13⟩:∃ u,R 4=u/\Rep (eSl zA0) A w u x11:=⟨_,Z,p 2 _ _ Z Z Z⟩
 replace q:=q.fr m
 refine zQ0 ?_
 obtain ⟨e14,c⟩:=zAC c
 refine zPx [ob (.pointer (some ⟨b1_0,0,none⟩)) (.box w0.heap.size 26 zA2 p0),⟨u2,S3,trR (geB w0.heap.size) (oPt 32 (oPr (oRd (eInt .i64)) (oSl 60 (oRd zA1)))) (0,([]:List zA4)) []⟩] ((rF fun A=>.rep zA2 A p0)::rR u13::rR u13::rI (x11.length:Int)::⟨_,true,[],some (.vec w0.heap.size 4 zCl (List.replicate (x11.length:Int).toNat false)),true,fun A=>.any⟩::⟨_,true,[6],some (trR (geB w0.heap.size) (oPr (oRd zA2) (oPr (oRd (eSl zA0)) (oPr (oSl 4 (oRd zCl)) (oSl 60 (oRd zA1))))) (p0,x11,(List.replicate (x11.length:Int).toNat false),([]:List zA4)) []),true,fun A=>.any⟩::⟨_,true,[7],some (trR (geB w0.heap.size) (oPt 54 (oPr (oRd zA2) (oPr (oRd (eSl zA0)) (oPr (oSl 4 (oRd zCl)) (oSl 60 (oRd zA1)))))) (p0,x11,(List.replicate (x11.length:Int).toNat false),([]:List zA4)) []),true,fun A=>.any⟩::⟨_,true,[8],some (trR (geB w0.heap.size) (oPt 54 (oPr (oRd zA2) (oPr (oRd (eSl zA0)) (oPr (oSl 4 (oRd zCl)) (oSl 60 (oRd zA1)))))) (p0,x11,(List.replicate (x11.length:Int).toNat false),([]:List zA4)) []),true,fun A=>.any⟩::[]) (by kernel_rfl) (by kernel_rfl) (by kernel_rfl) (Wf.mk' (by kernel_rfl) (up (ur (ur (ur (ua (ua (ua (ua (UAll.nil))))))))) (by kernel_rfl) (by kernel_rfl)) q d ?_ ?_
 exact rp (fun V Q U O D=>(zA7 (O.rd 0 _ Z Z) ((O.old 1 Z).trans h1) (Fld.id _) Z isAgg26 sizeOf26))<|rm h4<|rm h4<|rp (fun V Q U O D=>zAY (aT:=#[]) ((f_u13.stp O.stp).eq (D.g 0 Z)) underlying44)<|rc (OblR.made _ Z Z Z Z fun V Q U O D=>by have a0:Q 16=.int .i64 (x11.length:Int):=D.g 0 Z;have a1:Q 16=.int .i64 (x11.length:Int):=D.g 0 Z;exact zLu a0 a1 e14 underlying52 el_4 zeroValue4 (fun A w=>zDQ) (Nat.le_trans j.size O.ch.size))<|rc (zQ9 6 _ _ Z Z Z Z Z fun V Q U O D u S X I Y J L M=>by have a0:Rep zA2 V U (Q 13) p0:=D.g 0 Z;have a1:Q 14=u13:=D.g 1 Z;have ra1:=(f_u13.stp O.stp).eq a1;obtain ⟨c15a,c15n,c15k,c15,c15r⟩:=zLZ a0;obtain ⟨c16a,c16n,c16k,c16,c16r⟩:=zIr ra1;obtain ⟨gc,ge,go⟩:=zKP X I;obtain ⟨ga,gn,gk,rfl⟩:=zIH go;have gx:Q 17=.slice ga gn gk:=((L _ _ Z Z Z Z).symm).trans ge;exact zJf (v:=.agg #[.slice c15a c15n c15k,.slice c16a c16n c16k,.slice ga gn gk,.slice none 0 0]) (by simp [execOp,Instr.build,zAM,c15,c16,gx,underlying,underlying54,zeroValue54,sizeOf26,sizeOf30,sizeOf44,sizeOf52,go_sem,Instr.fill]) ⟨⟨_,Z,zKJ (zGj c15r) (zKJ (zGj c16r) (zOX go zDF))⟩,fun q hq=>by cases hq⟩ Y (zOu X I))<|rc (zQ9 7 _ _ Z Z Z Z Z fun V Q U O D u S X I Y J L M=>by exact zLr I.2 (L _ _ Z Z Z Z).symm Y I.1 (fun k hk=>Nat.le_trans (Nat.le_trans j.size O.ch.size) hk))<|rc (zQ9 8 _ _ Z Z Z Z Z fun V Q U O D u S X I Y J L M=>by exact zJc (L _ _ Z Z Z Z).symm (trP.nopin I.2) Y I.1)<|rz
 intro done ρ σ A R w y s
 replace h2:=k1 s.rg h2
 have z17:=s.inivR 0 Z
 have z18:=s.inivR 1 Z
 obtain ⟨u19,e_u19⟩:∃ u,ρ 9=u:=⟨_,Z⟩
 have h5:=s.ov y 9 7 e_u19
 have eS_u2:=s.inisR 1 Z
 obtain ⟨S20,eS_u19⟩:∃ S,σ 9=S:=⟨_,Z⟩
 obtain ⟨B,j,d⟩:=s.s B C j q ⟨Z,⟨fun _ h=>h,N⟩⟩
 replace q:=s.left y [(1,⟨u2,S3,trR (geB w0.heap.size) (oPt 32 (oPr (oRd (eInt .i64)) (oSl 60 (oRd zA1)))) (0,([]:List zA4)) []⟩),(9,⟨u19,S20,trR (geB w0.heap.size) (oPt 54 (oPr (oRd zA2) (oPr (oRd (eSl zA0)) (oPr (oSl 4 (oRd zCl)) (oSl 60 (oRd zA1)))))) (p0,x11,(List.replicate (x11.length:Int).toNat false),([]:List zA4)) []⟩)] ⟨Z,Z,z18,eS_u2,Z,⟨Z,Z,e_u19,eS_u19,Z,N⟩⟩
 obtain ⟨x21,q22,c⟩:=zAB c
 refine zQ2 [⟨u2,S3,trR (geB w0.heap.size) (oPt 32 (oPr (oRd (eInt .i64)) (oSl 60 (oRd zA1)))) (0,([]:List zA4)) []⟩,⟨u19,S20,trR (geB w0.heap.size) (oPt 54 (oPr (oRd zA2) (oPr (oRd (eSl zA0)) (oPr (oSl 4 (oRd zCl)) (oSl 60 (oRd zA1)))))) (p0,x11,(List.replicate (x11.length:Int).toNat false),([]:List zA4)) []⟩] (rR u19::⟨_,true,[1],some (trR (geB w0.heap.size) (oPt 54 (oPr (oRd zA2) (oPr (oRd (eSl zA0)) (oPr (oSl 4 (oRd zCl)) (oSl 60 (oRd zA1)))))) x21.2 []),false,fun A=>.raw (.int .i64 x21.1)⟩::rI x21.1::[]) (ur (ur (ur (UAll.nil)))) q d ?_ ?_
 exact rm h5<|rc (zQ9 1 _ _ Z Z Z Z Z fun V Q U O D u S X I Y J L M=>by have a0:Q 20=u19:=D.g 0 Z;have e0:=(J _ Z).1;rw [e0] at I ⊢;have hu0:zAM Q (.tmp 20)=u19:=a0;exact zFB call26 (zAJ I.2) Y I.1 (fun k hk=>Nat.le_trans (Nat.le_trans j.size O.ch.size) hk) (fun k hk=>SP.lt _ I.2 hk) (fun S1 hS1 hP=>by simp only [List.map,hu0];exact zGB (q22 Z) (O.av.subS _) (fun b o h=>h.2) hP Z) (fun _ _ _ h=>h))<|ra<|rz
 intro done ρ σ A R w y s
 obtain ⟨h2,h5⟩:=k2 s.rg h2 h5
 have z23:=s.inivR 0 Z
 have z24:=s.inivR 1 Z
 have z25:=s.on y 3 1 Z Z Z Z Z z24
 have eS_u2:=s.inisR 0 Z
 obtain ⟨S26,eS_u19⟩:∃ S,σ 3=S:=⟨_,Z⟩
 have h6:=s.r y 2 Z
 obtain ⟨B,j,d⟩:=s.s B C j q ⟨fun _ h=>h,⟨fun _ h=>h,N⟩⟩
 replace q:=s.left y [(0,⟨u2,S3,trR (geB w0.heap.size) (oPt 32 (oPr (oRd (eInt .i64)) (oSl 60 (oRd zA1)))) (0,([]:List zA4)) []⟩),(3,⟨u19,S26,trR (geB w0.heap.size) (oPt 54 (oPr (oRd zA2) (oPr (oRd (eSl zA0)) (oPr (oSl 4 (oRd zCl)) (oSl 60 (oRd zA1)))))) x21.2 []⟩)] ⟨Z,Z,z23,eS_u2,Z,⟨Z,Z,z25,eS_u19,Z,N⟩⟩
 refine zQ2 [⟨u2,S3,trR (geB w0.heap.size) (oPt 32 (oPr (oRd (eInt .i64)) (oSl 60 (oRd zA1)))) (0,([]:List zA4)) []⟩,⟨u19,S26,trR (geB w0.heap.size) (oPt 54 (oPr (oRd zA2) (oPr (oRd (eSl zA0)) (oPr (oSl 4 (oRd zCl)) (oSl 60 (oRd zA1)))))) x21.2 []⟩] (rI x21.1::rR u19::rR u19::rR (padd u19 3)::⟨_,true,[1],some (trR (geB w0.heap.size) (oSl 60 (oRd zA1)) x21.2.2.2.2 []),true,fun A=>.any⟩::⟨_,true,[6],some (trR (geB w0.heap.size) (oPr (oRd (eInt .i64)) (oSl 60 (oRd zA1))) (x21.1,x21.2.2.2.2) []),true,fun A=>.any⟩::⟨_,true,[0,7],some (trR (geB w0.heap.size) (oPt 32 (oPr (oRd (eInt .i64)) (oSl 60 (oRd zA1)))) (x21.1,x21.2.2.2.2) []),false,fun A=>.any⟩::rB true::[]) (ur (ur (ur (ur (ua (ua (ua (ur (UAll.nil))))))))) q d ?_ ?_
 exact rm h6<|rm h5<|rp (fun V Q U O D=>zBT (zAJ (q.own 1 _ Z).2).ptr.ad (D.g 0 Z))<|rp (fun V Q U O D=>zAQ ((zAJ (q.own 1 _ Z).2).ptr).ad (D.g 0 Z) zIT sizeOf30 (by decide) Z)<|rc (zQ9 1 _ _ Z Z Z Z Z fun V Q U O D u S X I Y J L M=>by have a0:Q 25=(padd u19 3):=D.g 0 Z;have e0:=(J _ Z).1;rw [e0] at I ⊢;exact zLa (((((zAJ I.2).ptr).snd Z).snd (zCS _ _ _)).snd (zCS _ _ _)) a0 Y I.1 isAgg30 sizeOf30)<|rc (zQ9 6 _ _ Z Z Z Z Z fun V Q U O D u S X I Y J L M=>by have a0:Q 22=.int .i64 x21.1:=D.g 0 Z;obtain ⟨gc,ge,go⟩:=I.2.1;obtain ⟨ga,gn,gk,rfl⟩:=zIH go;have gx:Q 26=.slice ga gn gk:=((L _ _ Z Z Z Z).symm).trans ge;exact zJf (v:=.agg #[.int .i64 x21.1,.slice ga gn gk]) (by simp [execOp,Instr.build,zAM,a0,gx,underlying,underlying32,zeroValue32,sizeOf3,sizeOf30,go_sem,Instr.fill]) ⟨⟨_,Z,zKJ (zGj zAP) go⟩,fun q hq=>by cases hq⟩ Y I.1)<|rc (zQ7 0 [7] _ Z Z Z Z fun V Q U O D ρ σ X Y J L M hdd=>by have a0:Q 2=u2:=(O.old 2 Z).trans h2;have k1:=X 0 (.head _) _ Z;have e0:=(J 0 (.head _) _ Z).1;rw [e0] at k1 ⊢;exact zCz Z (zAJ k1.2.2).ptr (X 7 (.tail _ (.head _)) _ Z).2.2.1 (L 7 (.tail _ (.head _)) _ _ Z Z Z Z).symm a0 Y hdd k1.2.1 (X 7 (.tail _ (.head _)) _ Z).2.1 sizeOf32 (fun _ _ _ h=>h))<|rp (fun V Q U O D=>zA9 Z)<|rz
 intro done ρ σ A R w y s
 replace h2:=k1 s.rg h2
 have z27:=s.inivR 0 Z
 have z28:=s.on y 8 6 Z Z Z Z Z z27
 obtain ⟨S29,eS_u2⟩:∃ S,σ 8=S:=⟨_,Z⟩
 have h3:=s.r y 7 Z
 obtain ⟨B,j,d⟩:=s.s B C j q ⟨fun _ h=>h,⟨fun _ h=>h,N⟩⟩
 replace q:=s.left y [(8,⟨u2,S29,trR (geB w0.heap.size) (oPt 32 (oPr (oRd (eInt .i64)) (oSl 60 (oRd zA1)))) (x21.1,x21.2.2.2.2) []⟩)] ⟨Z,Z,z28,eS_u2,Z,N⟩
 refine HT.ret ?_
 obtain rfl:=si c
 obtain ⟨v_2,S_2,e_2,q⟩:=q.unbox 0 Z h2 isAgg32 sizeOf32
 obtain ⟨A1,hA1,hG1⟩:=GPost.of q d B (fun k hk=>.inl (q.ge (⟨fun _ h=>h,N⟩) k hk)) (j.ch (fun _=>False))
 exact ⟨.inr Z,[v_2,R 3],⟨e_2,⟨Z,N⟩⟩,v_2,S_2,A1,hG1,⟨_,_,Z,Z,h3⟩⟩
theorem zFv {fu : Nat} {A0 : Av} {p0 : zAD} {r : zAG × Bool} (c : zCq fu p0 = some r) {w : World} {v0 : Value} (d : AvOK A0 w) (h0 : Rep zA2 A0 w v0 p0) :
 Calls prog 6 #[v0] w fun e w'=>∃ v,e=.returned v/\((∃ a b,v=.tuple #[a,b]/\Rep zA5 A0 w' a r.1/\b=.bool r.2)/\Fr w w'):=by
 refine Calls.mono (zGC c d h0) ?_
 rintro e w' ⟨v,he,u0,S0,A1,hG,a0,a1,hv,e0,e1⟩
 exact ⟨v,he,⟨a0,a1,hv,(zKx (hG.ini.own 0 _ Z).2 hG.low (fun k o hk ha=>Nat.not_lt.2 ((hG.ini.own 0 _ Z).1 k hk) (d k o ha))).eq e0,e1⟩,hG.ch.no⟩
def zD8 (fu : Nat) (p0 : List Int) (p1 : Int) : Nat -> Int -> Option Int
 | 0,_=>none
 | k+1,y4=>
 ck (!(true&&((decide (y4<(p0.length:Int)))==true)) || inR y4 p0.length) <|
 bd ((decide (y4<(p0.length:Int)))&&(decide ((gtD p0 y4)<p1))) fun x6=>
 bif x6 then (
 ck (i64B (y4+1)) <|
 zD8 fu p0 p1 k (y4+1)
 ) else (
 some y4
 )
def zEe (fu:Nat) (p0:List Int) (p1:Int):Option (List Int):=
 cl true (zD8 fu p0 p1 fu 0) fun s3=>
 ck (!(true&&((decide (s3<(p0.length:Int)))==true)) || inR s3 p0.length) <|
 bd ((decide (s3<(p0.length:Int)))&&((gtD p0 s3)==p1)) fun x11=>
 bif x11 then (
 some p0
 ) else (
 ck (subR 0 s3 p0.length) <|
 bd (s3.toNat-(0:Int).toNat) fun x15=>
 ck (zBu (([]:List Int).length+(subL p0 0 s3).length)) <|
 ck (zBu ((([]:List Int)++(subL p0 0 s3)).length+([p1]:List Int).length)) <|
 ck (subR s3 (p0.length:Int) p0.length) <|
 bd ((p0.length:Int).toNat-s3.toNat) fun x20=>
 ck (zBu (((([]:List Int)++(subL p0 0 s3))++([p1]:List Int)).length+(subL p0 s3 (p0.length:Int)).length)) <|
 some (((([]:List Int)++(subL p0 0 s3))++([p1]:List Int))++(subL p0 s3 (p0.length:Int)))
 )
theorem zHj {fu : Nat} {A0 : Av} {p0 : List Int} {p1 : Int} {r : List Int} (c : zEe fu p0 p1 = some r) {w : World} {v0 : Value} {v1 : Value} {B0 : Nat} (d : AvOK A0 w) (K : ∀ b o, A0 b o -> ¬ zAH v0 b) (hB0 : B0 <= w.heap.size) (h0 : (Res.vec B0 3 (eInt .i64) p0).ok A0 v0 w) (h1 : v1=.int .i64 p1) :
 Calls prog 81 #[v0,v1] w fun e w'=>∃ v,e=.returned v/\Took (addA A0 v0) true v0 (.vec B0 3 (eInt .i64) r) (fun _=>.any) w v w':=by
 unfold zEe at c
 obtain ⟨w0,hw0⟩:∃ w0,w0=w:=⟨_,Z⟩
 have j:Ch (zAH v0) w0 w:=hw0 ▸ Ch.refl _ _
 replace hB0:B0<=w0.heap.size:=hw0 ▸ hB0
 have C:∀ b o,A0 b o->b<w0.heap.size:=fun b o h=>hw0 ▸ d b o h
 have hA00:AvOK A0 w0:=C
 rw [show Took (addA A0 v0) true v0 (.vec B0 3 (eInt .i64) r) (fun _=>.any) w=Took (addA A0 v0) true v0 (.vec B0 3 (eInt .i64) r) (fun _=>.any) w0 from hw0 ▸ Z]
 obtain ⟨A,hAe⟩:∃ A,A=addA A0 v0:=⟨_,Z⟩
 have B:∀ b o,A0 b o->A b o:=fun b o h=>hAe ▸ .inl h
 replace d:AvOK A w:=hAe ▸ d.one h0
 have q:IniOK [ob v0 (.vec B0 3 (eInt .i64) p0)] A w:=hAe ▸ IniOK.one h0 (fun _ _ _ _ _ h=>h)
 refine zAE [.tmp 4] func81 ntmps81 (by decide) Z Z (nb Z) ?_
 intro R hR
 replace h0:R 0=v0:=hR 0 _ Z
 replace h1:R 1=.int .i64 p1:=(hR 1 _ Z).trans h1
 refine zQ0 ?_
 refine zQ3 (eA::[]) ?_ ?_
 exact op (fun Q U W H D=>zA9 N)<|oz
 intro R w m n p
 obtain ⟨h0,h1⟩:=k2 n h0 h1
 replace q:=q.fr m
 replace d:=d.fr m.size
 replace j:=j.tr (m.ch noB) fun _ h=>False.elim h
 refine zQ0 ?_
 refine zQ3 (eI 0::[]) ?_ ?_
 exact op (fun Q U W H D=>zA9 Z)<|oz
 intro R w m n p
 obtain ⟨h0,h1⟩:=k2 n h0 h1
 have h5:=p.r 0 Z
 replace q:=q.fr m
 replace d:=d.fr m.size
 replace j:=j.tr (m.ch noB) fun _ h=>False.elim h
 obtain ⟨rl1,q2,c⟩:=zAB c
 replace q2:=q2 Z
 refine zPu (fun R w=>∃ A:Av,∃ (s3:Int),rl1=s3/\AvOK A w/\Ch (zAH v0) w0 w/\(∀ b o,A0 b o->A b o)/\IniOK [ob v0 (.vec B0 3 (eInt .i64) p0)] A w/\R 0=v0/\R 1=.int .i64 p1/\R 5=.int .i64 s3) ?_ ?_
 refine HT.block<|zPz (fun k R w=>∃ A:Av,∃ (y4:Int),zD8 fu p0 p1 k y4=some rl1/\AvOK A w/\Ch (zAH v0) w0 w/\(∀ b o,A0 b o->A b o)/\IniOK [ob v0 (.vec B0 3 (eInt .i64) p0)] A w/\R 0=v0/\R 1=.int .i64 p1/\R 5=.int .i64 y4) fu ⟨_,_,q2,d,j,B,q,h0,h1,h5⟩ ?_
 have hr0:=c;clear c q2
 rintro k R w ⟨A,y4,c,d,j,B,q,h0,h1,h5⟩
 rcases k with _ | k
 cases (show none=some _ from c)
 rw [zD8] at c
 refine zQ0 ?_
 refine zQ0 ?_
 obtain ⟨e5,c⟩:=zAC c
 obtain ⟨x6,q7,c⟩:=zAf c
 refine zQ3 (eI y4::eR v0::eI (p0.length:Int)::eB (decide (y4<(p0.length:Int)))::eB (decide (y4<(p0.length:Int)))::gR (true&&((decide (y4<(p0.length:Int)))==true)) v0::gI (true&&((decide (y4<(p0.length:Int)))==true)) y4::gR (true&&((decide (y4<(p0.length:Int)))==true)) (vptr v0 (y4.toNat*1))::gI (true&&((decide (y4<(p0.length:Int)))==true)) (gtD p0 y4)::gI (true&&((decide (y4<(p0.length:Int)))==true)) p1::gB (true&&((decide (y4<(p0.length:Int)))==true)) (decide ((gtD p0 y4)<p1))::eB x6::[]) ?_ ?_
 exact om h5<|om h0<|op (fun Q U W H D=>zFo (q.ok 0 _ Z).1 (D.g 0 Z) underlying27)<|op (fun Q U W H D=>zBS (D.g 0 Z) (D.g 1 Z))<|ov<|gm 4 true h0<|gm 4 true h5<|og 4 true (fun G Q U W H D=>zD7 (q.ok 0 _ Z).1 (D.h 0 G Z) (D.h 1 G Z) underlying27 sizeOf3 (gd e5 G) Z)<|og 4 true (fun G Q U W H D=>OpF.int (zEQ ((q.fr W).ok 0 _ Z).1 (D.h 0 G Z) (gd e5 G) Z (Fld.id _) Z isAgg3 sizeOf3))<|gm 4 true h1<|og 4 true (fun G Q U W H D=>zBS (D.h 0 G Z) (D.h 1 G Z))<|op (fun Q U W H D=>zAl (decide (y4<(p0.length:Int))) (D.g 0 Z) (fun hc=>by have a1:Q 16=.bool (decide ((gtD p0 y4)<p1)):=D 1 _ _ _ Z Z Z Z (zCH Z (zBA hc));show _=Value.bool x6;rw [q7,hc];exact a1) (fun hc=>by show _=Value.bool x6;rw [q7,hc];exact Z))<|oz
 intro R w m n p
 obtain ⟨h0,h1,h5⟩:=k3 n h0 h1 h5
 have h17:=p.r 11 Z
 replace q:=q.fr m
 replace d:=d.fr m.size
 replace j:=j.tr (m.ch noB) fun _ h=>False.elim h
 refine zPt x6 h17 (fun c8=>?_) (fun c8=>?_)
 have c:=zAh c8 c
 refine HT.skip<|HT.block ?_
 obtain ⟨e9,c⟩:=zAC c
 refine zQ3 (eI y4::eI (y4+1)::eI (y4+1)::[]) ?_ ?_
 exact om h5<|op (fun Q U W H D=>zAi (D.g 0 Z) Z e9)<|oa<|oz
 intro R w m n p
 obtain ⟨h0,h1⟩:=k2 n h0 h1
 have h5:=p.r 2 Z
 replace q:=q.fr m
 replace d:=d.fr m.size
 replace j:=j.tr (m.ch noB) fun _ h=>False.elim h
 exact ei k (And.intro (Nat.lt_succ_self k) ⟨_,_,c,d,j,B,q,h0,h1,h5⟩)
 have c:=zAg c8 c
 refine zPy ?_
 obtain rfl:=si c
 exact ei _ ⟨_,Z,d,j,B,q,h0,h1,h5⟩
 rintro R w ⟨A,s3,es,d,j,B,q,h0,h1,h5⟩
 obtain rfl:=es.symm
 refine zQ0 ?_
 refine zQ0 ?_
 obtain ⟨e10,c⟩:=zAC c
 obtain ⟨x11,q12,c⟩:=zAf c
 refine zQ3 (eI s3::eR v0::eI (p0.length:Int)::eB (decide (s3<(p0.length:Int)))::eB (decide (s3<(p0.length:Int)))::gR (true&&((decide (s3<(p0.length:Int)))==true)) v0::gI (true&&((decide (s3<(p0.length:Int)))==true)) s3::gR (true&&((decide (s3<(p0.length:Int)))==true)) (vptr v0 (s3.toNat*1))::gI (true&&((decide (s3<(p0.length:Int)))==true)) (gtD p0 s3)::gI (true&&((decide (s3<(p0.length:Int)))==true)) p1::gB (true&&((decide (s3<(p0.length:Int)))==true)) ((gtD p0 s3)==p1)::eB x11::[]) ?_ ?_
 exact om h5<|om h0<|op (fun Q U W H D=>zFo (q.ok 0 _ Z).1 (D.g 0 Z) underlying27)<|op (fun Q U W H D=>zBS (D.g 0 Z) (D.g 1 Z))<|ov<|gm 4 true h0<|gm 4 true h5<|og 4 true (fun G Q U W H D=>zD7 (q.ok 0 _ Z).1 (D.h 0 G Z) (D.h 1 G Z) underlying27 sizeOf3 (gd e10 G) Z)<|og 4 true (fun G Q U W H D=>OpF.int (zEQ ((q.fr W).ok 0 _ Z).1 (D.h 0 G Z) (gd e10 G) Z (Fld.id _) Z isAgg3 sizeOf3))<|gm 4 true h1<|og 4 true (fun G Q U W H D=>zDA (D.h 0 G Z) (D.h 1 G Z))<|op (fun Q U W H D=>zAl (decide (s3<(p0.length:Int))) (D.g 0 Z) (fun hc=>by have a1:Q 30=.bool ((gtD p0 s3)==p1):=D 1 _ _ _ Z Z Z Z (zCH Z (zBA hc));show _=Value.bool x11;rw [q12,hc];exact a1) (fun hc=>by show _=Value.bool x11;rw [q12,hc];exact Z))<|oz
 intro R w m n p
 obtain ⟨h0,h1,h5⟩:=k3 n h0 h1 h5
 have h31:=p.r 11 Z
 replace q:=q.fr m
 replace d:=d.fr m.size
 replace j:=j.tr (m.ch noB) fun _ h=>False.elim h
 refine zPt x11 h31 (fun c13=>?_) (fun c13=>?_)
 have c:=zAh c13 c
 refine zQ0 ?_
 refine zQ3 (eR v0::eR v0::[]) ?_ ?_
 exact om h0<|oa<|oz
 intro R w m n p
 have h4:=p.r 1 Z
 replace q:=q.fr m
 replace d:=d.fr m.size
 replace j:=j.tr (m.ch noB) fun _ h=>False.elim h
 refine HT.ret ?_
 obtain rfl:=si c
 exact ⟨.inr Z,[R 4],⟨Z,N⟩,by show Took _ true _ _ _ w0 (R 4) w;rw [h4];exact zGR (fun k h o=>.inr h) j (q.ok 0 _ Z).1 (q.own_ge (⟨.inr (fun k h=>.inr h),N⟩) (i:=0) Z) (fun _ _ _ _ _ h=>h)⟩
 have c:=zAg c13 c
 refine HT.skip<|zQ0 ?_
 obtain ⟨e14,c⟩:=zAC c
 obtain ⟨x15,q16,c⟩:=zAf c
 obtain ⟨e17,e18,e19,c⟩:=ck3 c
 obtain ⟨x20,q21,c⟩:=zAf c
 obtain ⟨e22,c⟩:=zAC c
 refine zPx [ob v0 (.vec B0 3 (eInt .i64) p0)] (⟨_,true,[],some (.vec w0.heap.size 3 (eInt .i64) ([]:List Int)),true,fun A=>.any⟩::rR v0::rI s3::rR (vsub v0 (0:Int).toNat x15 1)::⟨_,true,[1],some (.vec w0.heap.size 3 (eInt .i64) (([]:List Int)++(subL p0 0 s3))),true,fun A=>.any⟩::rI p1::(rF fun A=>.rep (eSl (eInt .i64)) A ([p1]:List Int))::⟨_,true,[5],some (.vec w0.heap.size 3 (eInt .i64) ((([]:List Int)++(subL p0 0 s3))++([p1]:List Int))),true,fun A=>.any⟩::rR v0::rI s3::rR (vsub v0 s3.toNat x20 1)::⟨_,true,[8],some (.vec w0.heap.size 3 (eInt .i64) (((([]:List Int)++(subL p0 0 s3))++([p1]:List Int))++(subL p0 s3 (p0.length:Int)))),true,fun A=>.any⟩::⟨_,true,[12],some (.vec w0.heap.size 3 (eInt .i64) (((([]:List Int)++(subL p0 0 s3))++([p1]:List Int))++(subL p0 s3 (p0.length:Int)))),true,fun A=>.any⟩::[]) (by kernel_rfl) (by kernel_rfl) (by kernel_rfl) (Wf.mk' (by kernel_rfl) (ua (ur (ur (ur (ua (ur (up (ua (ur (ur (ur (ua (ua (UAll.nil)))))))))))))) (by kernel_rfl) (by kernel_rfl)) q d ?_ ?_
 exact rc (OblR.made _ Z Z Z Z fun V Q U O D=>by exact zFn [] (E:=eInt .i64) N underlying27 sizeOf3 zeroValue3 Z Z Z (Nat.le_trans j.size O.ch.size))<|rm h0<|rm h5<|rp (fun V Q U O D=>(q16 ▸ zLL (q.ok 0 _ Z).1 (D.g 0 Z) (D.g 1 Z) underlying27 sizeOf3 e14))<|rc (OblR.took 1 _ _ Z Z Z Z Z fun V Q U O D u X Y J L M=>by have a1:Q 36=(vsub v0 (0:Int).toNat x15 1):=D.g 1 Z;have ra1:Rep (eSl (eInt .i64)) A0 U (Q 36) _:=(zKv (zL1 (O.rd 0 _ Z Z) (O.lowK B C K (q.geK (⟨.inr (fun k h=>.inr h),N⟩))) C K (fun k h=>.inr h)) e14 q16 Z).eq a1;exact zGM (L _ _ Z Z Z Z).symm X Y (Nat.le_trans j.size O.ch.size) ra1 underlying27 el_3 e17 (fun _ _ h=>h))<|rm h1<|rp (fun V Q U O D=>zCj [_] (E:=eInt .i64) ⟨(zBZ.eq (D.g 0 Z)),N⟩ underlying27 sizeOf3 zeroValue3 Z Z Z O.av)<|rc (OblR.took 5 _ _ Z Z Z Z Z fun V Q U O D u X Y J L M=>by have a1:Rep (eSl (eInt .i64)) V U (Q 39) ([p1]:List Int):=D.g 1 Z;exact zET (L _ _ Z Z Z Z).symm X Y (Nat.le_trans j.size O.ch.size) a1 underlying27 el_3 e18)<|rm h0<|rm h5<|rp (fun V Q U O D=>(q21 ▸ zKY (q.ok 0 _ Z).1 (D.g 0 Z) (D.g 1 Z) underlying27 sizeOf3 e19))<|rc (OblR.took 8 _ _ Z Z Z Z Z fun V Q U O D u X Y J L M=>by have a1:Q 43=(vsub v0 s3.toNat x20 1):=D.g 1 Z;have ra1:Rep (eSl (eInt .i64)) A0 U (Q 43) _:=(zKv (zL1 (O.rd 0 _ Z Z) (O.lowK B C K (q.geK (⟨.inr (fun k h=>.inr h),N⟩))) C K (fun k h=>.inr h)) e19 q21 Z).eq a1;exact zGM (L _ _ Z Z Z Z).symm X Y (Nat.le_trans j.size O.ch.size) ra1 underlying27 el_3 e22 (fun _ _ h=>h))<|rc (OblR.took 12 _ _ Z Z Z Z Z fun V Q U O D u X Y J L M=>by exact zCQ (L _ _ Z Z Z Z).symm X Y)<|rz
 intro done ρ σ A R w y s
 have z23:=s.inivR 0 Z
 obtain ⟨u24,e_u24⟩:∃ u,ρ 13=u:=⟨_,Z⟩
 have h4:=s.ov y 13 12 e_u24
 replace B:=s.lowK B C K (q.geK (⟨.inr (fun k h=>.inr h),N⟩))
 replace j:Ch (zAH v0) w0 w:=j.tr s.ch (q.geK (⟨.inr (fun k h=>.inr h),N⟩))
 replace q:=s.left y [(13,ob u24 (.vec w0.heap.size 3 (eInt .i64) (((([]:List Int)++(subL p0 0 s3))++([p1]:List Int))++(subL p0 s3 (p0.length:Int)))))] ⟨Z,Z,e_u24,Z,Z,N⟩
 replace d:=s.avok
 refine HT.ret ?_
 obtain rfl:=si c
 exact ⟨.inr Z,[R 4],⟨Z,N⟩,by show Took _ true _ _ _ w0 (R 4) w;rw [h4];exact zGR (fun k h o=>.inr h) j (zN1 hB0 (q.ok 0 _ Z).1) (q.own_ge (⟨.inl Z,N⟩) (i:=0) Z) (fun _ _ _ _ _ h=>h)⟩
def zBJ (fu : Nat) (p0 : zAD) (p1 : Int) (y7 : Int) : Nat -> Int -> (List Int) -> Option (List Int)
 | 0,_,_=>none
 | k+1,y13,y14=>
 ck (inR y7 p0.length) <|
 bif (decide (y13<((gtD p0 y7).length:Int))) then (
 ck (inR y7 p0.length) <|
 ck (inR y13 (gtD p0 y7).length) <|
 bif (((gtD (gtD p0 y7) y13).1)==p1) then (
 cl true (zEe fu y14 ((gtD (gtD p0 y7) y13).2.1)) fun x24=>
 ck (i64B (y13+1)) <|
 zBJ fu p0 p1 y7 k (y13+1) x24
 ) else (
 ck (i64B (y13+1)) <|
 zBJ fu p0 p1 y7 k (y13+1) y14
 )
 ) else (
 some y14
 )
def zBW (fu : Nat) (p0 : zAD) (p1 : Int) : Nat -> Int -> (List Int) -> Option (List Int)
 | 0,_,_=>none
 | k+1,y7,y8=>
 bif (decide (y7<(p0.length:Int))) then (
 cl true (zBJ fu p0 p1 y7 fu 0 y8) fun s12=>
 ck (i64B (y7+1)) <|
 zBW fu p0 p1 k (y7+1) s12
 ) else (
 some y8
 )
def zDV (fu:Nat) (p0:zAD) (p1:Int):Option (List Int):=
 cl true (zBW fu p0 p1 fu 0 ([0]:List Int)) fun s6=>
 some s6
theorem zGo {fu : Nat} {A0 : Av} {p0 : zAD} {p1 : Int} {r : List Int} (c : zDV fu p0 p1 = some r) {w : World} {v0 : Value} {v1 : Value} (d : AvOK A0 w) (h0 : Rep zA2 A0 w v0 p0) (h1 : v1=.int .i64 p1) :
 Calls prog 64 #[v0,v1] w fun e w'=>∃ v,e=.returned v/\((Res.vec w.heap.size 3 (eInt .i64) r).ok (addA A0 v) v w'/\Fr w w'):=by
 unfold zDV at c
 obtain ⟨w0,hw0,j,C⟩:=pw d
 have hA00:AvOK A0 w0:=C
 rw [fh hw0]
 rw [fw hw0]
 obtain ⟨A,hAe,B,d,q⟩:=pa d
 refine zAE [.tmp 4] func64 ntmps64 (by decide) Z Z (nb Z) ?_
 intro R hR
 have f_v0:Rep zA2 A w v0 p0:=hAe ▸ h0
 replace h0:R 0=v0:=hR 0 _ Z
 replace h1:R 1=.int .i64 p1:=(hR 1 _ Z).trans h1
 refine zQ2 [] (⟨_,true,[],some (.box w0.heap.size 26 zA2 p0),true,fun A=>.any⟩::rA::[]) (ua (ua (UAll.nil))) q d ?_ ?_
 exact rc (OblR.made _ Z Z Z Z fun V Q U O D=>by have a0:Q 0=v0:=(O.old 0 Z).trans h0;have ra0:=(f_v0.stp O.stp).eq a0;exact zAx ra0 (Nat.le_trans j.size O.ch.size))<|rp (fun V Q U O D=>zA9 N)<|rz
 intro done ρ σ A R w y s
 replace h1:=k1 s.rg h1
 obtain ⟨b2_0,e_b2_0⟩:=s.boxv y 0 Z Z
 have h2:=s.ov y 0 0 e_b2_0
 obtain ⟨B,j,d⟩:=s.s B C j q N
 replace q:=s.left y [(0,ob (.pointer (some ⟨b2_0,0,none⟩)) (.box w0.heap.size 26 zA2 p0))] ⟨Z,Z,e_b2_0,Z,Z,N⟩
 refine zQ2 [ob (.pointer (some ⟨b2_0,0,none⟩)) (.box w0.heap.size 26 zA2 p0)] (⟨_,true,[],some (.vec w0.heap.size 3 (eInt .i64) ([0]:List Int)),true,fun A=>.any⟩::⟨_,true,[1],some (.vec w0.heap.size 3 (eInt .i64) ([0]:List Int)),true,fun A=>.any⟩::[]) (ua (ua (UAll.nil))) q d ?_ ?_
 exact rc (OblR.made _ Z Z Z Z fun V Q U O D=>by exact zFn [_] (E:=eInt .i64) ⟨(zBZ.eq Z),N⟩ underlying27 sizeOf3 zeroValue3 Z Z Z (Nat.le_trans j.size O.ch.size))<|rc (OblR.took 1 _ _ Z Z Z Z Z fun V Q U O D u X Y J L M=>by exact zCQ (L _ _ Z Z Z Z).symm X Y)<|rz
 intro done ρ σ A R w y s
 obtain ⟨h1,h2⟩:=k2 s.rg h1 h2
 have z2:=s.inivR 0 Z
 obtain ⟨u3,e_u3⟩:∃ u,ρ 2=u:=⟨_,Z⟩
 have h5:=s.ov y 2 1 e_u3
 obtain ⟨B,j,d⟩:=s.s B C j q ⟨Z,N⟩
 replace q:=s.left y [(0,ob (.pointer (some ⟨b2_0,0,none⟩)) (.box w0.heap.size 26 zA2 p0)),(2,ob u3 (.vec w0.heap.size 3 (eInt .i64) ([0]:List Int)))] ⟨Z,Z,z2,Z,Z,⟨Z,Z,e_u3,Z,Z,N⟩⟩
 refine zQ0 ?_
 refine zQ1 d j (eI 0::[]) ?_ ?_
 exact op (fun Q U W H D=>zA9 Z)<|oz
 intro R w m n p d j
 obtain ⟨h1,h2,h5⟩:=k3 n h1 h2 h5
 have h6:=p.r 0 Z
 replace q:=q.fr m
 obtain ⟨rl4,q5,c⟩:=zAB c
 replace q5:=q5 Z
 refine zPv (fun R w=>∃ A:Av,∃ (s6:(List Int)) (uo_u3:Value),rl4=s6/\AvOK A w/\Fr w0 w/\(∀ b o,A0 b o->A b o)/\IniOK [ob uo_u3 (.vec w0.heap.size 3 (eInt .i64) s6)] A w/\R 5=uo_u3) ?_ ?_
 refine HT.block<|zPz (fun k R w=>∃ A:Av,∃ (y7:Int) (y8:List Int) (ul_u3:Value),zBW fu p0 p1 k y7 y8=some rl4/\AvOK A w/\Fr w0 w/\(∀ b o,A0 b o->A b o)/\IniOK [ob (.pointer (some ⟨b2_0,0,none⟩)) (.box w0.heap.size 26 zA2 p0),ob ul_u3 (.vec w0.heap.size 3 (eInt .i64) y8)] A w/\R 1=.int .i64 p1/\R 2=(.pointer (some ⟨b2_0,0,none⟩))/\R 5=ul_u3/\R 6=.int .i64 y7) fu ⟨_,_,_,u3,q5,d,j,B,q,h1,h2,h5,h6⟩ ?_
 have hr0:=c;clear c q5
 rintro k R w ⟨A,y7,y8,ul_u3,c,d,j,B,q,h1,h2,h5,h6⟩
 rcases k with _ | k
 cases (show none=some _ from c)
 rw [zBW] at c
 refine zQ0 ?_
 refine zQ1 d j (eI y7::eR (.pointer (some ⟨b2_0,0,none⟩))::eF (.rep (eSl zAF) A p0)::eI (p0.length:Int)::eB (decide (y7<(p0.length:Int)))::[]) ?_ ?_
 exact om h6<|op (fun Q U W H D=>zA6 ((H 2 Z).trans h2) zCh sizeOf24 (by decide) Z)<|op (fun Q U W H D=>(zA7 ((q.fr W).ok 0 _ Z).1 (D.g 0 Z) zAd Z isAgg24 sizeOf24))<|op (fun Q U W H D=>zAY (aT:=#[]) (D.g 0 Z) underlying24)<|op (fun Q U W H D=>zBS (D.g 0 Z) (D.g 1 Z))<|oz
 intro R w m n p d j
 obtain ⟨h1,h2,h5,h6⟩:=k4 n h1 h2 h5 h6
 have h14:=p.r 4 Z
 replace q:=q.fr m
 refine zPt (decide (y7<(p0.length:Int))) h14 (fun c9=>?_) (fun c9=>?_)
 have c:=zAh c9 c
 refine HT.skip<|zQ0 ?_
 refine HT.block<|zQ1 d j (eI 0::[]) ?_ ?_
 exact op (fun Q U W H D=>zA9 Z)<|oz
 intro R w m n p d j
 obtain ⟨h1,h2,h5,h6⟩:=k4 n h1 h2 h5 h6
 have h7:=p.r 0 Z
 replace q:=q.fr m
 obtain ⟨rl10,q11,c⟩:=zAB c
 replace q11:=q11 Z
 refine zPv (fun R w=>∃ A:Av,∃ (s12:(List Int)) (uo_ul_u3:Value),rl10=s12/\AvOK A w/\Fr w0 w/\(∀ b o,A0 b o->A b o)/\IniOK [ob (.pointer (some ⟨b2_0,0,none⟩)) (.box w0.heap.size 26 zA2 p0),ob uo_ul_u3 (.vec w0.heap.size 3 (eInt .i64) s12)] A w/\R 1=.int .i64 p1/\R 2=(.pointer (some ⟨b2_0,0,none⟩))/\R 5=uo_ul_u3/\R 6=.int .i64 y7) ?_ ?_
 refine HT.block<|zPz (fun k R w=>∃ A:Av,∃ (y13:Int) (y14:List Int) (ul_ul_u3:Value),zBJ fu p0 p1 y7 k y13 y14=some rl10/\AvOK A w/\Fr w0 w/\(∀ b o,A0 b o->A b o)/\IniOK [ob (.pointer (some ⟨b2_0,0,none⟩)) (.box w0.heap.size 26 zA2 p0),ob ul_ul_u3 (.vec w0.heap.size 3 (eInt .i64) y14)] A w/\R 1=.int .i64 p1/\R 2=(.pointer (some ⟨b2_0,0,none⟩))/\R 5=ul_ul_u3/\R 6=.int .i64 y7/\R 7=.int .i64 y13) fu ⟨_,_,_,ul_u3,q11,d,j,B,q,h1,h2,h5,h6,h7⟩ ?_
 have hr0:=c;clear c q11
 rintro k R w ⟨A,y13,y14,ul_ul_u3,c,d,j,B,q,h1,h2,h5,h6,h7⟩
 rcases k with _ | k
 cases (show none=some _ from c)
 rw [zBJ] at c
 refine zQ0 ?_
 obtain ⟨e15,c⟩:=zAC c
 refine zQ1 d j (eI y13::eR (.pointer (some ⟨b2_0,0,none⟩))::eF (.rep (eSl zAF) A p0)::eI y7::eF (.qtr zAF A (gtD p0 y7))::eF (.qtr (eSl zA0) A (gtD p0 y7))::eF (.rep (eSl zA0) A (gtD p0 y7))::eI ((gtD p0 y7).length:Int)::eB (decide (y13<((gtD p0 y7).length:Int)))::[]) ?_ ?_
 exact om h7<|op (fun Q U W H D=>zA6 ((H 2 Z).trans h2) zCh sizeOf24 (by decide) Z)<|op (fun Q U W H D=>(zA7 ((q.fr W).ok 0 _ Z).1 (D.g 0 Z) zAd Z isAgg24 sizeOf24))<|om h6<|op (fun Q U W H D=>zAL (D.g 0 Z) (D.g 1 Z) underlying24 sizeOf63 e15)<|op (fun Q U W H D=>zAr (qt (D.g 0 Z)) zDI sizeOf44 (by decide) zBQ Z)<|op (fun Q U W H D=>(zAb (QRep.ptr (D.g 0 Z)) isAgg44 sizeOf44))<|op (fun Q U W H D=>zAY (aT:=#[]) (D.g 0 Z) underlying44)<|op (fun Q U W H D=>zBS (D.g 0 Z) (D.g 1 Z))<|oz
 intro R w m n p d j
 obtain ⟨h1,h2,h5,h6,h7⟩:=k5 n h1 h2 h5 h6 h7
 have h25:=p.r 8 Z
 replace q:=q.fr m
 refine zPt (decide (y13<((gtD p0 y7).length:Int))) h25 (fun c16=>?_) (fun c16=>?_)
 have c:=zAh c16 c
 refine HT.skip<|zQ0 ?_
 refine HT.block ?_
 obtain ⟨e17,e18,c⟩:=ck2 c
 refine zQ2 [ob (.pointer (some ⟨b2_0,0,none⟩)) (.box w0.heap.size 26 zA2 p0),ob ul_ul_u3 (.vec w0.heap.size 3 (eInt .i64) y14)] (rR (.pointer (some ⟨b2_0,0,none⟩))::(rF fun A=>.rep (eSl zAF) A p0)::rI y7::(rF fun A=>.qtr zAF A (gtD p0 y7))::(rF fun A=>.qtr (eSl zA0) A (gtD p0 y7))::(rF fun A=>.rep (eSl zA0) A (gtD p0 y7))::rI y13::(rF fun A=>.qtr zA0 A (gtD (gtD p0 y7) y13))::(rF fun A=>.rep zA0 A (gtD (gtD p0 y7) y13))::⟨_,true,[],some (.box w0.heap.size 69 zA0 (0,(0,false))),true,fun A=>.any⟩::⟨_,true,[11],some (.box w0.heap.size 69 zA0 (gtD (gtD p0 y7) y13)),false,fun A=>.any⟩::[]) (ur (up (ur (UAll.cons zCA (UAll.cons zCA (up (ur (UAll.cons zCA (up (ua (ua (UAll.nil)))))))))))) q d ?_ ?_
 exact rp (fun V Q U O D=>zA6 ((O.old 2 Z).trans h2) zCh sizeOf24 (by decide) Z)<|rp (fun V Q U O D=>(zA7 (O.rd 0 _ Z Z) (D.g 0 Z) zAd Z isAgg24 sizeOf24))<|rm h6<|rp (fun V Q U O D=>zAL (D.g 0 Z) (D.g 1 Z) underlying24 sizeOf63 e17)<|rp (fun V Q U O D=>zAr (qt (D.g 0 Z)) zDI sizeOf44 (by decide) zBQ Z)<|rp (fun V Q U O D=>(zAb (QRep.ptr (D.g 0 Z)) isAgg44 sizeOf44))<|rm h7<|rp (fun V Q U O D=>zAL (D.g 0 Z) (D.g 1 Z) underlying44 sizeOf69 e18)<|rp (fun V Q U O D=>(zAb (QRep.ptr (D.g 0 Z)) isAgg69 sizeOf69))<|rc (OblR.made _ Z Z Z Z fun V Q U O D=>by exact zBP zeroValue69 (fun A w=>zAy zAP (zAy zAP zDQ)) (Nat.le_trans j.size O.ch.size))<|rc (OblR.took 11 _ _ Z Z Z Z Z fun V Q U O D u X Y J L M=>by have a1:Rep zA0 V U (Q 36) (gtD (gtD p0 y7) y13):=D.g 1 Z;obtain ⟨b,hb,hB',hbx⟩:=X;have hop':=L _ _ Z Z Z Z;exact zAp a1 (hop'.symm.trans hb) hb ⟨b,hb,hB',hbx⟩ Y (FldS.id _) sizeOf69 Z)<|rz
 intro done ρ σ A R w y s
 obtain ⟨h1,h2,h5,h6,h7⟩:=k5 s.rg h1 h2 h5 h6 h7
 have z19:=s.inivR 0 Z
 have z20:=s.inivR 1 Z
 obtain ⟨b8_20,e_b8_20⟩:=s.boxv y 12 Z Z
 have z22:=(s.opnR y 12 10 Z Z Z Z Z).symm.trans e_b8_20
 have h8:=s.ov y 11 9 z22
 obtain ⟨B,j,d⟩:=s.s B C j q ⟨Z,⟨Z,N⟩⟩
 replace q:=s.left y [(0,ob (.pointer (some ⟨b2_0,0,none⟩)) (.box w0.heap.size 26 zA2 p0)),(1,ob ul_ul_u3 (.vec w0.heap.size 3 (eInt .i64) y14)),(12,ob (.pointer (some ⟨b8_20,0,none⟩)) (.box w0.heap.size 69 zA0 (gtD (gtD p0 y7) y13)))] ⟨Z,Z,z19,Z,Z,⟨Z,Z,z20,Z,Z,⟨Z,Z,e_b8_20,Z,Z,N⟩⟩⟩
 refine zQ1 d j (eR (.pointer (some ⟨b8_20,0,none⟩))::eI ((gtD (gtD p0 y7) y13).1)::eI p1::eB (((gtD (gtD p0 y7) y13).1)==p1)::[]) ?_ ?_
 exact op (fun Q U W H D=>zA6 ((H 8 Z).trans h8) zDH sizeOf3 (by decide) Z)<|op (fun Q U W H D=>OpF.int (zA7 ((q.fr W).ok 2 _ Z).1 (D.g 0 Z) zAo Z isAgg3 sizeOf3))<|om h1<|op (fun Q U W H D=>zDA (D.g 0 Z) (D.g 1 Z))<|oz
 intro R w m n p d j
 obtain ⟨h1,h2,h5,h6,h7,h8⟩:=k6 n h1 h2 h5 h6 h7 h8
 have h40:=p.r 3 Z
 replace q:=q.fr m
 refine zPt (((gtD (gtD p0 y7) y13).1)==p1) h40 (fun c23=>?_) (fun c23=>?_)
 have c:=zAh c23 c
 obtain ⟨x24,q25,c⟩:=zAB c
 refine zQ5 [ob (.pointer (some ⟨b2_0,0,none⟩)) (.box w0.heap.size 26 zA2 p0),ob ul_ul_u3 (.vec w0.heap.size 3 (eInt .i64) y14),ob (.pointer (some ⟨b8_20,0,none⟩)) (.box w0.heap.size 69 zA0 (gtD (gtD p0 y7) y13))] (rR ul_ul_u3::rR (.pointer (some ⟨b8_20,1,none⟩))::rI ((gtD (gtD p0 y7) y13).2.1)::⟨_,true,[1],some (.vec w0.heap.size 3 (eInt .i64) x24),true,fun A=>.any⟩::⟨_,true,[6],some (.vec w0.heap.size 3 (eInt .i64) x24),true,fun A=>.any⟩::[]) (ur (ur (ur (ua (ua (UAll.nil)))))) q d ?_ ?_
 exact rm h5<|rp (fun V Q U O D=>zA6 ((O.old 8 Z).trans h8) zDU sizeOf3 (by decide) Z)<|rp (fun V Q U O D=>OpF.int (zA7 (O.rd 2 _ Z Z) (D.g 0 Z) zAv Z isAgg3 sizeOf3))<|rc (OblR.took 1 _ _ Z Z Z Z Z fun V Q U O D u X Y J L M=>by have a0:Q 41=ul_ul_u3:=D.g 0 Z;have a1:Q 43=.int .i64 ((gtD (gtD p0 y7) y13).2.1):=D.g 1 Z;have hu0:zAM Q (.tmp 41)=u:=a0.trans (J _ Z).symm;exact zIf call81 Y (by simp only [List.map,hu0];exact zHj (q25 Z) (O.av.sub _) (fun b o h=>h.2) (Nat.le_trans j.size O.ch.size) (Vec.flat X (fun _ _ _ _ _ h=>h)) a1))<|rc (OblR.took 6 _ _ Z Z Z Z Z fun V Q U O D u X Y J L M=>by exact zCQ (L _ _ Z Z Z Z).symm X Y)<|rz
 intro done ρ σ A R w y s
 obtain ⟨h1,h2,h6,h7⟩:=k4 s.rg h1 h2 h6 h7
 have z26:=s.inivR 0 Z
 obtain ⟨u27,e_u27⟩:∃ u,ρ 7=u:=⟨_,Z⟩
 have h5:=s.ov y 7 4 e_u27
 have z28:=s.inivR 2 Z
 obtain ⟨B,j,d⟩:=s.s B C j q ⟨Z,⟨Z,⟨Z,N⟩⟩⟩
 replace q:=s.left y [(0,ob (.pointer (some ⟨b2_0,0,none⟩)) (.box w0.heap.size 26 zA2 p0)),(7,ob u27 (.vec w0.heap.size 3 (eInt .i64) x24))] ⟨Z,Z,z26,Z,Z,⟨Z,Z,e_u27,Z,Z,N⟩⟩
 obtain ⟨e29,c⟩:=zAC c
 refine HT.u d j (eI y13::eI (y13+1)::eI (y13+1)::[]) ?_ ?_
 exact om h7<|op (fun Q U W H D=>zAi (D.g 0 Z) Z e29)<|oa<|oz
 intro R w m n p d j
 obtain ⟨h1,h2,h5,h6⟩:=k4 n h1 h2 h5 h6
 have h7:=p.r 2 Z
 replace q:=q.fr m
 exact ei k (And.intro (Nat.lt_succ_self k) ⟨_,_,_,u27,c,d,j,B,q,h1,h2,h5,h6,h7⟩)
 have c:=zAg c23 c
 refine HT.skip ?_
 obtain ⟨e30,c⟩:=zAC c
 refine HT.u d j (eI y13::eI (y13+1)::eI (y13+1)::[]) ?_ ?_
 exact om h7<|op (fun Q U W H D=>zAi (D.g 0 Z) Z e30)<|oa<|oz
 intro R w m n p d j
 obtain ⟨h1,h2,h5,h6⟩:=k4 n h1 h2 h5 h6
 have h7:=p.r 2 Z
 replace q:=q.fr m
 replace q:IniOK [ob (.pointer (some ⟨b2_0,0,none⟩)) (.box w0.heap.size 26 zA2 p0),ob ul_ul_u3 (.vec w0.heap.size 3 (eInt .i64) y14)] A w:=q.sub [(0,ob (.pointer (some ⟨b2_0,0,none⟩)) (.box w0.heap.size 26 zA2 p0)),(1,ob ul_ul_u3 (.vec w0.heap.size 3 (eInt .i64) y14))] ⟨Z,Z,⟨Z,Z,N⟩⟩
 exact ei k (And.intro (Nat.lt_succ_self k) ⟨_,_,_,ul_ul_u3,c,d,j,B,q,h1,h2,h5,h6,h7⟩)
 have c:=zAg c16 c
 refine zPy ?_
 obtain rfl:=si c
 exact ei _ ⟨_,ul_ul_u3,Z,d,j,B,q,h1,h2,h5,h6⟩
 rintro R w ⟨A,s12,uo_ul_u3,es,d,j,B,q,h1,h2,h5,h6⟩
 obtain rfl:=es.symm
 obtain ⟨e31,c⟩:=zAC c
 refine HT.u d j (eI y7::eI (y7+1)::eI (y7+1)::[]) ?_ ?_
 exact om h6<|op (fun Q U W H D=>zAi (D.g 0 Z) Z e31)<|oa<|oz
 intro R w m n p d j
 obtain ⟨h1,h2,h5⟩:=k3 n h1 h2 h5
 have h6:=p.r 2 Z
 replace q:=q.fr m
 exact ei k (And.intro (Nat.lt_succ_self k) ⟨_,_,_,uo_ul_u3,c,d,j,B,q,h1,h2,h5,h6⟩)
 have c:=zAg c9 c
 refine zPy ?_
 obtain rfl:=si c
 replace q:IniOK [ob ul_u3 (.vec w0.heap.size 3 (eInt .i64) y8)] A w:=q.sub [(1,ob ul_u3 (.vec w0.heap.size 3 (eInt .i64) y8))] ⟨Z,Z,N⟩
 exact ei _ ⟨_,ul_u3,Z,d,j,B,q,h5⟩
 rintro R w ⟨A,s6,uo_u3,es,d,j,B,q,h5⟩
 obtain rfl:=es.symm
 refine zQ1 d j (eR uo_u3::eR uo_u3::[]) ?_ ?_
 exact om h5<|oa<|oz
 intro R w m n p d j
 have h4:=p.r 1 Z
 replace q:=q.fr m
 refine HT.ret ?_
 obtain rfl:=si c
 exact ⟨.inr Z,[R 4],⟨Z,N⟩,(zGX (q.ok 0 _ Z) B h4),j⟩
theorem zGb {fu : Nat} {A0 : Av} {p0 : zAD} {p1 : Int} {r : List Int} (c : zDV fu p0 p1 = some r) {w : World} {v0 : Value} {v1 : Value} (d : AvOK A0 w) (h0 : Rep zA2 A0 w v0 p0) (h1 : v1=.int .i64 p1) :
 Calls prog 64 #[v0,v1] w fun e w'=>∃ v,e=.returned v/\(Rep (eSl (eInt .i64)) A0 w' v r/\Fr w w'):=by
 refine Calls.mono (zGo c d h0 h1) ?_
 rintro e w' ⟨v,he,hv,hf⟩
 exact ⟨v,he,zIy hv (fun b o h=>.inl h) d,hf⟩
def zAa (fu : Nat) (y7 : Int) (x14 : List Int) : Nat -> Int -> (List zAA) -> Option (List zAA)
 | 0,_,_=>none
 | k+1,y20,y21=>
 bif (decide (y20<(x14.length:Int))) then (
 ck (inR y20 x14.length) <|
 ck (zBu (y21.length+([(y7,(gtD x14 y20),false)]:List zAA).length)) <|
 ck (i64B (y20+1)) <|
 zAa fu y7 x14 k (y20+1) (y21++([(y7,(gtD x14 y20),false)]:List zAA))
 ) else (
 some y21
 )
def zB7 (fu : Nat) (p0 : zAD) : Nat -> Int -> (List zAA) -> Option (List zAA)
 | 0,_,_=>none
 | k+1,y7,y8=>
 cl (true&&((decide (y7<6))==true)) (zC8 fu p0) fun x9=>
 bd ((decide (y7<6))&&x9) fun x11=>
 bif x11 then (
 cl true (zDV fu p0 y7) fun x14=>
 cl true (zAa fu y7 x14 fu 1 y8) fun s19=>
 ck (i64B (y7+1)) <|
 zB7 fu p0 k (y7+1) s19
 ) else (
 some y8
 )
def zBo (fu:Nat) (p0:zAD):Option (List zAA):=
 cl true (zB7 fu p0 fu 0 ([]:List zAA)) fun s6=>
 some s6
set_option linter.unusedSimpArgs false in
theorem zFQ {fu : Nat} {A0 : Av} {p0 : zAD} {r : List zAA} (c : zBo fu p0 = some r) {w : World} {v0 : Value} (d : AvOK A0 w) (h0 : Rep zA2 A0 w v0 p0) :
 Calls prog 29 #[v0] w fun e w'=>∃ v,e=.returned v/\((Res.vec w.heap.size 69 zA0 r).ok (addA A0 v) v w'/\Fr w w'):=by
 unfold zBo at c
 obtain ⟨w0,hw0,j,C⟩:=pw d
 have hA00:AvOK A0 w0:=C
 rw [fh hw0]
 rw [fw hw0]
 obtain ⟨A,hAe,B,d,q⟩:=pa d
 refine zAE [.tmp 2] func29 ntmps29 (by decide) Z Z (nb Z) ?_
 intro R hR
 have f_v0:Rep zA2 A w v0 p0:=hAe ▸ h0
 replace h0:R 0=v0:=hR 0 _ Z
 refine zQ2 [] (⟨_,true,[],some (.box w0.heap.size 26 zA2 p0),true,fun A=>.any⟩::rA::[]) (ua (ua (UAll.nil))) q d ?_ ?_
 exact rc (OblR.made _ Z Z Z Z fun V Q U O D=>by have a0:Q 0=v0:=(O.old 0 Z).trans h0;have ra0:=(f_v0.stp O.stp).eq a0;exact zAx ra0 (Nat.le_trans j.size O.ch.size))<|rp (fun V Q U O D=>zA9 N)<|rz
 intro done ρ σ A R w y s
 obtain ⟨b1_0,e_b1_0⟩:=s.boxv y 0 Z Z
 have h1:=s.ov y 0 0 e_b1_0
 obtain ⟨B,j,d⟩:=s.s B C j q N
 replace q:=s.left y [(0,ob (.pointer (some ⟨b1_0,0,none⟩)) (.box w0.heap.size 26 zA2 p0))] ⟨Z,Z,e_b1_0,Z,Z,N⟩
 refine zQ2 [ob (.pointer (some ⟨b1_0,0,none⟩)) (.box w0.heap.size 26 zA2 p0)] (⟨_,true,[],some (.vec w0.heap.size 69 zA0 ([]:List zAA)),true,fun A=>.any⟩::⟨_,true,[1],some (.vec w0.heap.size 69 zA0 ([]:List zAA)),true,fun A=>.any⟩::[]) (ua (ua (UAll.nil))) q d ?_ ?_
 exact rc (OblR.made _ Z Z Z Z fun V Q U O D=>by exact zFn [] (E:=zA0) N underlying44 sizeOf69 zeroValue69 Z Z Z (Nat.le_trans j.size O.ch.size))<|rc (OblR.took 1 _ _ Z Z Z Z Z fun V Q U O D u X Y J L M=>by exact zCQ (L _ _ Z Z Z Z).symm X Y)<|rz
 intro done ρ σ A R w y s
 replace h1:=k1 s.rg h1
 have z2:=s.inivR 0 Z
 obtain ⟨u3,e_u3⟩:∃ u,ρ 2=u:=⟨_,Z⟩
 have h3:=s.ov y 2 1 e_u3
 obtain ⟨B,j,d⟩:=s.s B C j q ⟨Z,N⟩
 replace q:=s.left y [(0,ob (.pointer (some ⟨b1_0,0,none⟩)) (.box w0.heap.size 26 zA2 p0)),(2,ob u3 (.vec w0.heap.size 69 zA0 ([]:List zAA)))] ⟨Z,Z,z2,Z,Z,⟨Z,Z,e_u3,Z,Z,N⟩⟩
 refine zQ0 ?_
 refine zQ1 d j (eI 0::[]) ?_ ?_
 exact op (fun Q U W H D=>zA9 Z)<|oz
 intro R w m n p d j
 obtain ⟨h1,h3⟩:=k2 n h1 h3
 have h4:=p.r 0 Z
 replace q:=q.fr m
 obtain ⟨rl4,q5,c⟩:=zAB c
 replace q5:=q5 Z
 refine zPv (fun R w=>∃ A:Av,∃ (s6:(List zAA)) (uo_u3:Value),rl4=s6/\AvOK A w/\Fr w0 w/\(∀ b o,A0 b o->A b o)/\IniOK [ob uo_u3 (.vec w0.heap.size 69 zA0 s6)] A w/\R 3=uo_u3) ?_ ?_
 refine HT.block<|zPz (fun k R w=>∃ A:Av,∃ (y7:Int) (y8:List zAA) (ul_u3:Value),zB7 fu p0 k y7 y8=some rl4/\AvOK A w/\Fr w0 w/\(∀ b o,A0 b o->A b o)/\IniOK [ob (.pointer (some ⟨b1_0,0,none⟩)) (.box w0.heap.size 26 zA2 p0),ob ul_u3 (.vec w0.heap.size 69 zA0 y8)] A w/\R 1=(.pointer (some ⟨b1_0,0,none⟩))/\R 3=ul_u3/\R 4=.int .i64 y7) fu ⟨_,_,_,u3,q5,d,j,B,q,h1,h3,h4⟩ ?_
 have hr0:=c;clear c q5
 rintro k R w ⟨A,y7,y8,ul_u3,c,d,j,B,q,h1,h3,h4⟩
 rcases k with _ | k
 cases (show none=some _ from c)
 rw [zB7] at c
 refine zQ0 ?_
 refine zQ0 ?_
 obtain ⟨x9,q10,c⟩:=zAB c
 obtain ⟨x11,q12,c⟩:=zAf c
 refine HT.u d j (eI y7::eB (decide (y7<6))::eB (decide (y7<6))::gF (true&&((decide (y7<6))==true)) (.rep zA2 A p0)::gB (true&&((decide (y7<6))==true)) x9::eB x11::[]) ?_ ?_
 exact om h4<|op (fun Q U W H D=>zBS (D.g 0 Z) Z)<|ov<|og 2 true (fun G Q U W H D=>(zA7 ((q.fr W).ok 0 _ Z).1 ((H 1 Z).trans h1) (Fld.id _) Z isAgg26 sizeOf26))<|og 2 true (fun G Q U W H D=>zAN call27 (zDT (q10 G) (d.fr W.size) (D.h 0 G Z)))<|op (fun Q U W H D=>zAl (decide (y7<6)) (D.g 0 Z) (fun hc=>by have a1:Q 12=.bool x9:=D 1 _ _ _ Z Z Z Z (zCH Z (zBA hc));show _=Value.bool x11;rw [q12,hc];exact a1) (fun hc=>by show _=Value.bool x11;rw [q12,hc];exact Z))<|oz
 intro R w m n p d j
 obtain ⟨h1,h3,h4⟩:=k3 n h1 h3 h4
 have h13:=p.r 5 Z
 replace q:=q.fr m
 refine zPt x11 h13 (fun c13=>?_) (fun c13=>?_)
 have c:=zAh c13 c
 refine HT.skip<|zQ0 ?_
 refine HT.block ?_
 obtain ⟨x14,q15,c⟩:=zAB c
 refine zQ1 d j (eF (.rep zA2 A p0)::eI y7::eF (.rep (eSl (eInt .i64)) A x14)::eF (.rep (eSl (eInt .i64)) A x14)::[]) ?_ ?_
 exact op (fun Q U W H D=>(zA7 ((q.fr W).ok 0 _ Z).1 ((H 1 Z).trans h1) (Fld.id _) Z isAgg26 sizeOf26))<|om h4<|op (fun Q U W H D=>zAN call64 (zGb (q15 Z) (d.fr W.size) (D.g 0 Z) (D.g 1 Z)))<|op (fun Q U W H D=>zA9 (D.g 0 Z))<|oz
 intro R w m n p d j
 obtain ⟨h1,h3,h4⟩:=k3 n h1 h3 h4
 obtain ⟨u16,h5,f_u16⟩:∃ u,R 5=u/\Rep (eSl (eInt .i64)) A w u x14:=⟨_,Z,p 3 _ _ Z Z Z⟩
 replace q:=q.fr m
 refine zQ1 d j (eI 1::[]) ?_ ?_
 exact op (fun Q U W H D=>zA9 Z)<|oz
 intro R w m n p d j
 obtain ⟨h1,h3,h4,h5⟩:=k4 n h1 h3 h4 h5
 have h6:=p.r 0 Z
 replace f_u16:=f_u16.fr m
 replace q:=q.fr m
 obtain ⟨rl17,q18,c⟩:=zAB c
 replace q18:=q18 Z
 refine zPv (fun R w=>∃ A:Av,∃ (s19:(List zAA)) (uo_ul_u3:Value),rl17=s19/\AvOK A w/\Fr w0 w/\(∀ b o,A0 b o->A b o)/\IniOK [ob (.pointer (some ⟨b1_0,0,none⟩)) (.box w0.heap.size 26 zA2 p0),ob uo_ul_u3 (.vec w0.heap.size 69 zA0 s19)] A w/\R 1=(.pointer (some ⟨b1_0,0,none⟩))/\R 3=uo_ul_u3/\R 4=.int .i64 y7) ?_ ?_
 refine HT.block<|zPz (fun k R w=>∃ A:Av,∃ (y20:Int) (y21:List zAA) (ul_ul_u3:Value),zAa fu y7 x14 k y20 y21=some rl17/\AvOK A w/\Fr w0 w/\(∀ b o,A0 b o->A b o)/\IniOK [ob (.pointer (some ⟨b1_0,0,none⟩)) (.box w0.heap.size 26 zA2 p0),ob ul_ul_u3 (.vec w0.heap.size 69 zA0 y21)] A w/\R 1=(.pointer (some ⟨b1_0,0,none⟩))/\R 3=ul_ul_u3/\R 4=.int .i64 y7/\R 5=u16/\R 6=.int .i64 y20/\Rep (eSl (eInt .i64)) A w u16 x14) fu ⟨_,_,_,ul_u3,q18,d,j,B,q,h1,h3,h4,h5,h6,f_u16⟩ ?_
 have hr0:=c;clear c q18
 rintro k R w ⟨A,y20,y21,ul_ul_u3,c,d,j,B,q,h1,h3,h4,h5,h6,f_u16⟩
 rcases k with _ | k
 cases (show none=some _ from c)
 rw [zAa] at c
 refine zQ0 ?_
 refine zQ1 d j (eI y20::eR u16::eI (x14.length:Int)::eB (decide (y20<(x14.length:Int)))::[]) ?_ ?_
 exact om h6<|om h5<|op (fun Q U W H D=>zAY (aT:=#[]) ((f_u16.fr W).eq (D.g 0 Z)) underlying27)<|op (fun Q U W H D=>zBS (D.g 0 Z) (D.g 1 Z))<|oz
 intro R w m n p d j
 obtain ⟨h1,h3,h4,h5,h6⟩:=k5 n h1 h3 h4 h5 h6
 have h22:=p.r 3 Z
 replace f_u16:=f_u16.fr m
 replace q:=q.fr m
 refine zPt (decide (y20<(x14.length:Int))) h22 (fun c22=>?_) (fun c22=>?_)
 have c:=zAh c22 c
 refine HT.skip<|zQ0 ?_
 refine HT.block ?_
 obtain ⟨e23,e24,c⟩:=ck2 c
 refine zQ5 [ob (.pointer (some ⟨b1_0,0,none⟩)) (.box w0.heap.size 26 zA2 p0),ob ul_ul_u3 (.vec w0.heap.size 69 zA0 y21)] (rR ul_ul_u3::rI y7::rR u16::rI y20::(rF fun A=>.qtr (eInt .i64) A (gtD x14 y20))::rI (gtD x14 y20)::(rF fun A=>.rep zA0 A (y7,(gtD x14 y20),false))::(rF fun A=>.rep (eSl zA0) A ([(y7,(gtD x14 y20),false)]:List zAA))::⟨_,true,[1],some (.vec w0.heap.size 69 zA0 (y21++([(y7,(gtD x14 y20),false)]:List zAA))),true,fun A=>.any⟩::⟨_,true,[10],some (.vec w0.heap.size 69 zA0 (y21++([(y7,(gtD x14 y20),false)]:List zAA))),true,fun A=>.any⟩::[]) (ur (ur (ur (ur (UAll.cons zCA (ur (up (up (ua (ua (UAll.nil))))))))))) q d ?_ ?_
 exact rm h3<|rm h4<|rm h5<|rm h6<|rp (fun V Q U O D=>zAL ((f_u16.stp O.stp).eq (D.g 0 Z)) (D.g 1 Z) underlying27 sizeOf3 e23)<|rp (fun V Q U O D=>OpF.int (zAb (QRep.ptr (D.g 0 Z)) isAgg3 sizeOf3))<|rp (fun V Q U O D=>by have a0:Q 26=.int .i64 y7:=D.g 0 Z;have a1:Q 30=.int .i64 (gtD x14 y20):=D.g 1 Z;exact zDK (v:=.agg #[.int .i64 y7,.int .i64 (gtD x14 y20),.bool false]) (by simp [execOp,Instr.build,zAM,a0,a1,underlying,underlying69,zeroValue69,sizeOf3,sizeOf4,go_sem,Instr.fill]) ⟨_,Z,zAy zAP (zAy zAP zDQ)⟩)<|rp (fun V Q U O D=>zCj [_] (E:=zA0) ⟨(D.g 0 Z),N⟩ underlying44 sizeOf69 zeroValue69 Z Z Z O.av)<|rc (OblR.took 1 _ _ Z Z Z Z Z fun V Q U O D u X Y J L M=>by have a0:Q 25=ul_ul_u3:=D.g 0 Z;have a1:Rep (eSl zA0) V U (Q 32) ([(y7,(gtD x14 y20),false)]:List zAA):=D.g 1 Z;exact zET (a0.trans (J _ Z).symm) X Y (Nat.le_trans j.size O.ch.size) a1 underlying44 zMz e24)<|rc (OblR.took 10 _ _ Z Z Z Z Z fun V Q U O D u X Y J L M=>by exact zCQ (L _ _ Z Z Z Z).symm X Y)<|rz
 intro done ρ σ A R w y s
 obtain ⟨h1,h4,h5,h6⟩:=k4 s.rg h1 h4 h5 h6
 have z25:=s.inivR 0 Z
 obtain ⟨u26,e_u26⟩:∃ u,ρ 11=u:=⟨_,Z⟩
 have h3:=s.ov y 11 9 e_u26
 replace f_u16:=f_u16.stp s.stp
 obtain ⟨B,j,d⟩:=s.s B C j q ⟨Z,⟨Z,N⟩⟩
 replace q:=s.left y [(0,ob (.pointer (some ⟨b1_0,0,none⟩)) (.box w0.heap.size 26 zA2 p0)),(11,ob u26 (.vec w0.heap.size 69 zA0 (y21++([(y7,(gtD x14 y20),false)]:List zAA))))] ⟨Z,Z,z25,Z,Z,⟨Z,Z,e_u26,Z,Z,N⟩⟩
 obtain ⟨e27,c⟩:=zAC c
 refine HT.u d j (eI y20::eI (y20+1)::eI (y20+1)::[]) ?_ ?_
 exact om h6<|op (fun Q U W H D=>zAi (D.g 0 Z) Z e27)<|oa<|oz
 intro R w m n p d j
 obtain ⟨h1,h3,h4,h5⟩:=k4 n h1 h3 h4 h5
 have h6:=p.r 2 Z
 replace f_u16:=f_u16.fr m
 replace q:=q.fr m
 exact ei k (And.intro (Nat.lt_succ_self k) ⟨_,_,_,u26,c,d,j,B,q,h1,h3,h4,h5,h6,f_u16⟩)
 have c:=zAg c22 c
 refine zPy ?_
 obtain rfl:=si c
 exact ei _ ⟨_,ul_ul_u3,Z,d,j,B,q,h1,h3,h4⟩
 rintro R w ⟨A,s19,uo_ul_u3,es,d,j,B,q,h1,h3,h4⟩
 obtain rfl:=es.symm
 obtain ⟨e28,c⟩:=zAC c
 refine HT.u d j (eI y7::eI (y7+1)::eI (y7+1)::[]) ?_ ?_
 exact om h4<|op (fun Q U W H D=>zAi (D.g 0 Z) Z e28)<|oa<|oz
 intro R w m n p d j
 obtain ⟨h1,h3⟩:=k2 n h1 h3
 have h4:=p.r 2 Z
 replace q:=q.fr m
 exact ei k (And.intro (Nat.lt_succ_self k) ⟨_,_,_,uo_ul_u3,c,d,j,B,q,h1,h3,h4⟩)
 have c:=zAg c13 c
 refine zPy ?_
 obtain rfl:=si c
 replace q:IniOK [ob ul_u3 (.vec w0.heap.size 69 zA0 y8)] A w:=q.sub [(1,ob ul_u3 (.vec w0.heap.size 69 zA0 y8))] ⟨Z,Z,N⟩
 exact ei _ ⟨_,ul_u3,Z,d,j,B,q,h3⟩
 rintro R w ⟨A,s6,uo_u3,es,d,j,B,q,h3⟩
 obtain rfl:=es.symm
 refine zQ1 d j (eR uo_u3::eR uo_u3::[]) ?_ ?_
 exact om h3<|oa<|oz
 intro R w m n p d j
 have h2:=p.r 1 Z
 replace q:=q.fr m
 refine HT.ret ?_
 obtain rfl:=si c
 exact ⟨.inr Z,[R 2],⟨Z,N⟩,(zGX (q.ok 0 _ Z) B h2),j⟩
theorem zFK {fu : Nat} {A0 : Av} {p0 : zAD} {r : List zAA} (c : zBo fu p0 = some r) {w : World} {v0 : Value} (d : AvOK A0 w) (h0 : Rep zA2 A0 w v0 p0) :
 Calls prog 29 #[v0] w fun e w'=>∃ v,e=.returned v/\(Rep (eSl zA0) A0 w' v r/\Fr w w'):=by
 refine Calls.mono (zFQ c d h0) ?_
 rintro e w' ⟨v,he,hv,hf⟩
 exact ⟨v,he,zIy hv (fun b o h=>.inl h) d,hf⟩
end Go.Proofs.YtmgiijdejigdhaaGreatDoor
