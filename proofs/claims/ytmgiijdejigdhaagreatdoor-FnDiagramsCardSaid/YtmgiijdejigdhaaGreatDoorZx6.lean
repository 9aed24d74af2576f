/- Own texts laid together. No statement of the seat is proved here. -/
import Derived.Test.YtmgiijdejigdhaaGreatDoorZx5
namespace Go.Proofs.YtmgiijdejigdhaaGreatDoor
open Go.RowKit
set_option linter.unusedVariables false
open _root_.Go.Proofs.Tryz
set_option maxRecDepth 100000
set_option maxHeartbeats 4000000
def zB3 (fu : Nat) (p0 : zAD) (p1 : List zAA) (p2 : Int) (y5 : Int) (y11 : Int) : Nat -> Bool -> Int -> Option Bool
 | 0,_,_=>none
 | k+1,y22,y23=>
 bif (decide (y23<(p1.length:Int))) then (
 ck (inR y23 p1.length) <|
 ck (!(true&&((((gtD p1 y23).1)==((gtD (gtD p0 y5) y11).1))==true)) || inR y23 p1.length) <|
 bd ((((gtD p1 y23).1)==((gtD (gtD p0 y5) y11).1))&&(((gtD p1 y23).2.1)==((gtD (gtD p0 y5) y11).2.1))) fun x27=>
 ck (!(true&&(x27==true)) || decide (0<=y23)) <|
 bd (x27&&(((bitI (fun u v=>u &&& v) .i64 (p2 / 2 ^ min y23.toNat 64) 1)==1)==((gtD (gtD p0 y5) y11).2.2))) fun x30=>
 bif x30 then (
 ck (i64B (y23+1)) <|
 zB3 fu p0 p1 p2 y5 y11 k false (y23+1)
 ) else (
 ck (i64B (y23+1)) <|
 zB3 fu p0 p1 p2 y5 y11 k y22 (y23+1)
 )
 ) else (
 some y22
 )
def zBG (fu : Nat) (p0 : zAD) (p1 : List zAA) (p2 : Int) (y5 : Int) : Nat -> Bool -> Int -> Option Bool
 | 0,_,_=>none
 | k+1,y10,y11=>
 ck (inR y5 p0.length) <|
 bif (decide (y11<((gtD p0 y5).length:Int))) then (
 ck (inR y5 p0.length) <|
 ck (inR y11 (gtD p0 y5).length) <|
 cl true (zB3 fu p0 p1 p2 y5 y11 fu y10 0) fun s21=>
 ck (i64B (y11+1)) <|
 zBG fu p0 p1 p2 y5 k s21 (y11+1)
 ) else (
 some y10
 )
def zCZ (fu : Nat) (p0 : zAD) (p1 : List zAA) (p2 : Int) : Nat -> Int -> Option (Ex Bool Unit)
 | 0,_=>none
 | k+1,y5=>
 bif (decide (y5<(p0.length:Int))) then (
 cl true (zBG fu p0 p1 p2 y5 fu true 0) fun s9=>
 bif s9 then (
 some (Ex.ret true)
 ) else (
 ck (i64B (y5+1)) <|
 zCZ fu p0 p1 p2 k (y5+1)
 )
 ) else (
 some (Ex.go ())
 )
def zE9 (fu:Nat) (p0:zAD) (p1:List zAA) (p2:Int):Option Bool:=
 cl true (zCZ fu p0 p1 p2 fu 0) fun rl2=>
 exM rl2 (fun r=>some r) fun s4=>
 some false
theorem zHH {fu : Nat} {A0 : Av} {p0 : zAD} {p1 : List zAA} {p2 : Int} {r : Bool} (c : zE9 fu p0 p1 p2 = some r) {w : World} {v0 : Value} {v1 : Value} {v2 : Value} (d : AvOK A0 w) (h0 : Rep zA2 A0 w v0 p0) (h1 : Rep (eSl zA0) A0 w v1 p1) (h2 : v2=.int .i64 p2) :
 Calls prog 63 #[v0,v1,v2] w fun e w'=>∃ v,e=.returned v/\(v=.bool r/\Fr w w'):=by
 unfold zE9 at c
 obtain ⟨w0,hw0,j,C⟩:=pw d
 have hA00:AvOK A0 w0:=C
 rw [fw hw0]
 obtain ⟨A,hAe,B,d,q⟩:=pa d
 refine zAE [.tmp 6] func63 ntmps63 (by decide) Z Z (nb Z) ?_
 intro R hR
 have f_v0:Rep zA2 A w v0 p0:=hAe ▸ h0
 replace h0:R 0=v0:=hR 0 _ Z
 have f_v1:Rep (eSl zA0) A w v1 p1:=hAe ▸ h1
 replace h1:R 1=v1:=hR 1 _ Z
 replace h2:R 2=.int .i64 p2:=(hR 2 _ Z).trans h2
 refine zQ2 [] (⟨_,true,[],some (.box w0.heap.size 26 zA2 p0),true,fun A=>.any⟩::rB false::[]) (ua (ur (UAll.nil))) q d ?_ ?_
 exact rc (OblR.made _ Z Z Z Z fun V Q U O D=>by have a0:Q 0=v0:=(O.old 0 Z).trans h0;have ra0:=(f_v0.stp O.stp).eq a0;exact zAx ra0 (Nat.le_trans j.size O.ch.size))<|rp (fun V Q U O D=>zA9 Z)<|rz
 intro done ρ σ A R w y s
 obtain ⟨h1,h2⟩:=k2 s.rg h1 h2
 obtain ⟨b3_0,e_b3_0⟩:=s.boxv y 0 Z Z
 have h3:=s.ov y 0 0 e_b3_0
 replace f_v1:=f_v1.stp s.stp
 obtain ⟨B,j,d⟩:=s.s B C j q N
 replace q:=s.left y [(0,ob (.pointer (some ⟨b3_0,0,none⟩)) (.box w0.heap.size 26 zA2 p0))] ⟨Z,Z,e_b3_0,Z,Z,N⟩
 refine zQ0 ?_
 refine zQ1 d j (eI 0::[]) ?_ ?_
 exact op (fun Q U W H D=>zA9 Z)<|oz
 intro R w m n p d j
 obtain ⟨h1,h2,h3⟩:=k3 n h1 h2 h3
 have h7:=p.r 0 Z
 replace f_v1:=f_v1.fr m
 replace q:=q.fr m
 obtain ⟨rl2,q3,c⟩:=zAB c
 replace q3:=q3 Z
 refine zPv (fun R w=>∃ A:Av,∃ (s4:Unit),rl2=Ex.go s4/\AvOK A w/\Fr w0 w/\(∀ b o,A0 b o->A b o)/\IniOK [] A w) ?_ ?_
 refine HT.block<|zPz (fun k R w=>∃ A:Av,∃ (y5:Int),zCZ fu p0 p1 p2 k y5=some rl2/\AvOK A w/\Fr w0 w/\(∀ b o,A0 b o->A b o)/\IniOK [ob (.pointer (some ⟨b3_0,0,none⟩)) (.box w0.heap.size 26 zA2 p0)] A w/\R 1=v1/\R 2=.int .i64 p2/\R 3=(.pointer (some ⟨b3_0,0,none⟩))/\R 7=.int .i64 y5/\Rep (eSl zA0) A w v1 p1) fu ⟨_,_,q3,d,j,B,q,h1,h2,h3,h7,f_v1⟩ ?_
 have hr0:=c;clear c q3
 rintro k R w ⟨A,y5,c,d,j,B,q,h1,h2,h3,h7,f_v1⟩
 rcases k with _ | k
 cases (show none=some _ from c)
 rw [zCZ] at c
 refine zQ0 ?_
 refine zQ1 d j (eI y5::eR (.pointer (some ⟨b3_0,0,none⟩))::eF (.rep (eSl zAF) A p0)::eI (p0.length:Int)::eB (decide (y5<(p0.length:Int)))::[]) ?_ ?_
 exact om h7<|op (fun Q U W H D=>zA6 ((H 3 Z).trans h3) zCh sizeOf24 (by decide) Z)<|op (fun Q U W H D=>(zA7 ((q.fr W).ok 0 _ Z).1 (D.g 0 Z) zAd Z isAgg24 sizeOf24))<|op (fun Q U W H D=>zAY (aT:=#[]) (D.g 0 Z) underlying24)<|op (fun Q U W H D=>zBS (D.g 0 Z) (D.g 1 Z))<|oz
 intro R w m n p d j
 obtain ⟨h1,h2,h3,h7⟩:=k4 n h1 h2 h3 h7
 have h16:=p.r 4 Z
 replace f_v1:=f_v1.fr m
 replace q:=q.fr m
 refine zPt (decide (y5<(p0.length:Int))) h16 (fun c6=>?_) (fun c6=>?_)
 have c:=zAh c6 c
 refine HT.skip<|zQ0 ?_
 refine HT.block<|zQ1 d j (eB true::[]) ?_ ?_
 exact op (fun Q U W H D=>zA9 Z)<|oz
 intro R w m n p d j
 obtain ⟨h1,h2,h3,h7⟩:=k4 n h1 h2 h3 h7
 have h8:=p.r 0 Z
 replace f_v1:=f_v1.fr m
 replace q:=q.fr m
 refine zQ0 ?_
 refine zQ1 d j (eI 0::[]) ?_ ?_
 exact op (fun Q U W H D=>zA9 Z)<|oz
 intro R w m n p d j
 obtain ⟨h1,h2,h3,h7,h8⟩:=k5 n h1 h2 h3 h7 h8
 have h9:=p.r 0 Z
 replace f_v1:=f_v1.fr m
 replace q:=q.fr m
 obtain ⟨rl7,q8,c⟩:=zAB c
 replace q8:=q8 Z
 refine zPv (fun R w=>∃ A:Av,∃ (s9:Bool),rl7=s9/\AvOK A w/\Fr w0 w/\(∀ b o,A0 b o->A b o)/\IniOK [ob (.pointer (some ⟨b3_0,0,none⟩)) (.box w0.heap.size 26 zA2 p0)] A w/\R 1=v1/\R 2=.int .i64 p2/\R 3=(.pointer (some ⟨b3_0,0,none⟩))/\R 7=.int .i64 y5/\R 8=.bool s9/\Rep (eSl zA0) A w v1 p1) ?_ ?_
 refine HT.block<|zPz (fun k R w=>∃ A:Av,∃ (y10:Bool) (y11:Int),zBG fu p0 p1 p2 y5 k y10 y11=some rl7/\AvOK A w/\Fr w0 w/\(∀ b o,A0 b o->A b o)/\IniOK [ob (.pointer (some ⟨b3_0,0,none⟩)) (.box w0.heap.size 26 zA2 p0)] A w/\R 1=v1/\R 2=.int .i64 p2/\R 3=(.pointer (some ⟨b3_0,0,none⟩))/\R 7=.int .i64 y5/\R 8=.bool y10/\R 9=.int .i64 y11/\Rep (eSl zA0) A w v1 p1) fu ⟨_,_,_,q8,d,j,B,q,h1,h2,h3,h7,h8,h9,f_v1⟩ ?_
 have hr1:=c;clear c q8
 rintro k R w ⟨A,y10,y11,c,d,j,B,q,h1,h2,h3,h7,h8,h9,f_v1⟩
 rcases k with _ | k
 cases (show none=some _ from c)
 rw [zBG] at c
 refine zQ0 ?_
 obtain ⟨e12,c⟩:=zAC c
 refine zQ1 d j (eI y11::eR (.pointer (some ⟨b3_0,0,none⟩))::eF (.rep (eSl zAF) A p0)::eI y5::eF (.qtr zAF A (gtD p0 y5))::eF (.qtr (eSl zA0) A (gtD p0 y5))::eF (.rep (eSl zA0) A (gtD p0 y5))::eI ((gtD p0 y5).length:Int)::eB (decide (y11<((gtD p0 y5).length:Int)))::[]) ?_ ?_
 exact om h9<|op (fun Q U W H D=>zA6 ((H 3 Z).trans h3) zCh sizeOf24 (by decide) Z)<|op (fun Q U W H D=>(zA7 ((q.fr W).ok 0 _ Z).1 (D.g 0 Z) zAd Z isAgg24 sizeOf24))<|om h7<|op (fun Q U W H D=>zAL (D.g 0 Z) (D.g 1 Z) underlying24 sizeOf63 e12)<|op (fun Q U W H D=>zAr (qt (D.g 0 Z)) zDI sizeOf44 (by decide) zBQ Z)<|op (fun Q U W H D=>(zAb (QRep.ptr (D.g 0 Z)) isAgg44 sizeOf44))<|op (fun Q U W H D=>zAY (aT:=#[]) (D.g 0 Z) underlying44)<|op (fun Q U W H D=>zBS (D.g 0 Z) (D.g 1 Z))<|oz
 intro R w m n p d j
 obtain ⟨h1,h2,h3,h7,h8,h9⟩:=k6 n h1 h2 h3 h7 h8 h9
 have h27:=p.r 8 Z
 replace f_v1:=f_v1.fr m
 replace q:=q.fr m
 refine zPt (decide (y11<((gtD p0 y5).length:Int))) h27 (fun c13=>?_) (fun c13=>?_)
 have c:=zAh c13 c
 refine HT.skip<|zQ0 ?_
 refine HT.block ?_
 obtain ⟨e14,e15,c⟩:=ck2 c
 refine zQ2 [ob (.pointer (some ⟨b3_0,0,none⟩)) (.box w0.heap.size 26 zA2 p0)] (rR (.pointer (some ⟨b3_0,0,none⟩))::(rF fun A=>.rep (eSl zAF) A p0)::rI y5::(rF fun A=>.qtr zAF A (gtD p0 y5))::(rF fun A=>.qtr (eSl zA0) A (gtD p0 y5))::(rF fun A=>.rep (eSl zA0) A (gtD p0 y5))::rI y11::(rF fun A=>.qtr zA0 A (gtD (gtD p0 y5) y11))::(rF fun A=>.rep zA0 A (gtD (gtD p0 y5) y11))::⟨_,true,[],some (.box w0.heap.size 69 zA0 (0,(0,false))),true,fun A=>.any⟩::⟨_,true,[10],some (.box w0.heap.size 69 zA0 (gtD (gtD p0 y5) y11)),false,fun A=>.any⟩::[]) (ur (up (ur (UAll.cons zCA (UAll.cons zCA (up (ur (UAll.cons zCA (up (ua (ua (UAll.nil)))))))))))) q d ?_ ?_
 exact rp (fun V Q U O D=>zA6 ((O.old 3 Z).trans h3) zCh sizeOf24 (by decide) Z)<|rp (fun V Q U O D=>(zA7 (O.rd 0 _ Z Z) (D.g 0 Z) zAd Z isAgg24 sizeOf24))<|rm h7<|rp (fun V Q U O D=>zAL (D.g 0 Z) (D.g 1 Z) underlying24 sizeOf63 e14)<|rp (fun V Q U O D=>zAr (qt (D.g 0 Z)) zDI sizeOf44 (by decide) zBQ Z)<|rp (fun V Q U O D=>(zAb (QRep.ptr (D.g 0 Z)) isAgg44 sizeOf44))<|rm h9<|rp (fun V Q U O D=>zAL (D.g 0 Z) (D.g 1 Z) underlying44 sizeOf69 e15)<|rp (fun V Q U O D=>(zAb (QRep.ptr (D.g 0 Z)) isAgg69 sizeOf69))<|rc (OblR.made _ Z Z Z Z fun V Q U O D=>by exact zBP zeroValue69 (fun A w=>zAy zAP (zAy zAP zDQ)) (Nat.le_trans j.size O.ch.size))<|rc (OblR.took 10 _ _ Z Z Z Z Z fun V Q U O D u X Y J L M=>by have a1:Rep zA0 V U (Q 38) (gtD (gtD p0 y5) y11):=D.g 1 Z;obtain ⟨b,hb,hB',hbx⟩:=X;have hop':=L _ _ Z Z Z Z;exact zAp a1 (hop'.symm.trans hb) hb ⟨b,hb,hB',hbx⟩ Y (FldS.id _) sizeOf69 Z)<|rz
 intro done ρ σ A R w y s
 obtain ⟨h1,h2,h3,h7,h8,h9⟩:=k6 s.rg h1 h2 h3 h7 h8 h9
 have z16:=s.inivR 0 Z
 obtain ⟨b10_16,e_b10_16⟩:=s.boxv y 11 Z Z
 have z18:=(s.opnR y 11 10 Z Z Z Z Z).symm.trans e_b10_16
 have h10:=s.ov y 10 9 z18
 replace f_v1:=f_v1.stp s.stp
 obtain ⟨B,j,d⟩:=s.s B C j q ⟨Z,N⟩
 replace q:=s.left y [(0,ob (.pointer (some ⟨b3_0,0,none⟩)) (.box w0.heap.size 26 zA2 p0)),(11,ob (.pointer (some ⟨b10_16,0,none⟩)) (.box w0.heap.size 69 zA0 (gtD (gtD p0 y5) y11)))] ⟨Z,Z,z16,Z,Z,⟨Z,Z,e_b10_16,Z,Z,N⟩⟩
 refine zQ1 d j (eI 0::[]) ?_ ?_
 exact op (fun Q U W H D=>zA9 Z)<|oz
 intro R w m n p d j
 obtain ⟨h1,h2,h3,h7,h8,h9⟩:=k6 n h1 h2 h3 h7 h8 h9
 replace h10:=k1 n h10
 have h11:=p.r 0 Z
 replace f_v1:=f_v1.fr m
 replace q:=q.fr m
 obtain ⟨rl19,q20,c⟩:=zAB c
 replace q20:=q20 Z
 refine zPv (fun R w=>∃ A:Av,∃ (s21:Bool),rl19=s21/\AvOK A w/\Fr w0 w/\(∀ b o,A0 b o->A b o)/\IniOK [ob (.pointer (some ⟨b3_0,0,none⟩)) (.box w0.heap.size 26 zA2 p0)] A w/\R 1=v1/\R 2=.int .i64 p2/\R 3=(.pointer (some ⟨b3_0,0,none⟩))/\R 7=.int .i64 y5/\R 8=.bool s21/\R 9=.int .i64 y11/\Rep (eSl zA0) A w v1 p1) ?_ ?_
 refine HT.block<|zPz (fun k R w=>∃ A:Av,∃ (y22:Bool) (y23:Int),zB3 fu p0 p1 p2 y5 y11 k y22 y23=some rl19/\AvOK A w/\Fr w0 w/\(∀ b o,A0 b o->A b o)/\IniOK [ob (.pointer (some ⟨b3_0,0,none⟩)) (.box w0.heap.size 26 zA2 p0),ob (.pointer (some ⟨b10_16,0,none⟩)) (.box w0.heap.size 69 zA0 (gtD (gtD p0 y5) y11))] A w/\R 1=v1/\R 2=.int .i64 p2/\R 3=(.pointer (some ⟨b3_0,0,none⟩))/\R 7=.int .i64 y5/\R 8=.bool y22/\R 9=.int .i64 y11/\R 10=(.pointer (some ⟨b10_16,0,none⟩))/\R 11=.int .i64 y23/\Rep (eSl zA0) A w v1 p1) fu ⟨_,_,_,q20,d,j,B,q,h1,h2,h3,h7,h8,h9,h10,h11,f_v1⟩ ?_
 have hr1:=c;clear c q20
 rintro k R w ⟨A,y22,y23,c,d,j,B,q,h1,h2,h3,h7,h8,h9,h10,h11,f_v1⟩
 rcases k with _ | k
 cases (show none=some _ from c)
 rw [zB3] at c
 refine zQ0 ?_
 refine zQ1 d j (eI y23::eR v1::eI (p1.length:Int)::eB (decide (y23<(p1.length:Int)))::[]) ?_ ?_
 exact om h11<|om h1<|op (fun Q U W H D=>zAY (aT:=#[]) ((f_v1.fr W).eq (D.g 0 Z)) underlying44)<|op (fun Q U W H D=>zBS (D.g 0 Z) (D.g 1 Z))<|oz
 intro R w m n p d j
 obtain ⟨h1,h2,h3,h7,h8,h9⟩:=k6 n h1 h2 h3 h7 h8 h9
 obtain ⟨h10,h11⟩:=k2 n h10 h11
 have h42:=p.r 3 Z
 replace f_v1:=f_v1.fr m
 replace q:=q.fr m
 refine zPt (decide (y23<(p1.length:Int))) h42 (fun c24=>?_) (fun c24=>?_)
 have c:=zAh c24 c
 refine HT.skip<|zQ0 ?_
 refine HT.block<|zQ0 ?_
 obtain ⟨e25,e26,c⟩:=ck2 c
 obtain ⟨x27,q28,c⟩:=zAf c
 obtain ⟨e29,c⟩:=zAC c
 obtain ⟨x30,q31,c⟩:=zAf c
 refine zPw (by kernel_rfl) (l:=eR v1::eI y23::eF (.qtr zA0 A (gtD p1 y23))::eF (.qtr (eInt .i64) A ((gtD p1 y23).1))::eI ((gtD p1 y23).1)::eR (.pointer (some ⟨b10_16,0,none⟩))::eI ((gtD (gtD p0 y5) y11).1)::eB (((gtD p1 y23).1)==((gtD (gtD p0 y5) y11).1))::eB (((gtD p1 y23).1)==((gtD (gtD p0 y5) y11).1))::gR (true&&((((gtD p1 y23).1)==((gtD (gtD p0 y5) y11).1))==true)) v1::gI (true&&((((gtD p1 y23).1)==((gtD (gtD p0 y5) y11).1))==true)) y23::gF (true&&((((gtD p1 y23).1)==((gtD (gtD p0 y5) y11).1))==true)) (.qtr zA0 A (gtD p1 y23))::gF (true&&((((gtD p1 y23).1)==((gtD (gtD p0 y5) y11).1))==true)) (.qtr (eInt .i64) A ((gtD p1 y23).2.1))::gI (true&&((((gtD p1 y23).1)==((gtD (gtD p0 y5) y11).1))==true)) ((gtD p1 y23).2.1)::gR (true&&((((gtD p1 y23).1)==((gtD (gtD p0 y5) y11).1))==true)) (.pointer (some ⟨b10_16,1,none⟩))::gI (true&&((((gtD p1 y23).1)==((gtD (gtD p0 y5) y11).1))==true)) ((gtD (gtD p0 y5) y11).2.1)::gB (true&&((((gtD p1 y23).1)==((gtD (gtD p0 y5) y11).1))==true)) (((gtD p1 y23).2.1)==((gtD (gtD p0 y5) y11).2.1))::eB x27::eB x27::gI (true&&(x27==true)) p2::gI (true&&(x27==true)) y23::gI (true&&(x27==true)) (p2 / 2 ^ min y23.toNat 64)::gI (true&&(x27==true)) (bitI (fun u v=>u &&& v) .i64 (p2 / 2 ^ min y23.toNat 64) 1)::gB (true&&(x27==true)) ((bitI (fun u v=>u &&& v) .i64 (p2 / 2 ^ min y23.toNat 64) 1)==1)::gR (true&&(x27==true)) (.pointer (some ⟨b10_16,2,none⟩))::gB (true&&(x27==true)) ((gtD (gtD p0 y5) y11).2.2)::gB (true&&(x27==true)) (((bitI (fun u v=>u &&& v) .i64 (p2 / 2 ^ min y23.toNat 64) 1)==1)==((gtD (gtD p0 y5) y11).2.2))::eB x30::[]) (tl:=[]) (by kernel_rfl) (by kernel_rfl) (by kernel_rfl) (by kernel_rfl) ?_ ?_
 exact om h1<|om h11<|op (fun Q U W H D=>zAL ((f_v1.fr W).eq (D.g 0 Z)) (D.g 1 Z) underlying44 sizeOf69 e25)<|op (fun Q U W H D=>zAr (qt (D.g 0 Z)) zDH sizeOf3 (by decide) zAo Z)<|op (fun Q U W H D=>OpF.int (zAb (QRep.ptr (D.g 0 Z)) isAgg3 sizeOf3))<|op (fun Q U W H D=>zA6 ((H 10 Z).trans h10) zDH sizeOf3 (by decide) Z)<|op (fun Q U W H D=>OpF.int (zA7 ((q.fr W).ok 1 _ Z).1 (D.g 0 Z) zAo Z isAgg3 sizeOf3))<|op (fun Q U W H D=>zDA (D.g 0 Z) (D.g 1 Z))<|ov<|gm 8 true h1<|gm 8 true h11<|og 8 true (fun G Q U W H D=>zAL ((f_v1.fr W).eq (D.h 0 G Z)) (D.h 1 G Z) underlying44 sizeOf69 (gd e26 G))<|og 8 true (fun G Q U W H D=>zAr (qt (D.h 0 G Z)) zDU sizeOf3 (by decide) zAv Z)<|og 8 true (fun G Q U W H D=>OpF.int (zAb (QRep.ptr (D.h 0 G Z)) isAgg3 sizeOf3))<|og 8 true (fun G Q U W H D=>zA6 ((H 10 Z).trans h10) zDU sizeOf3 (by decide) Z)<|og 8 true (fun G Q U W H D=>OpF.int (zA7 ((q.fr W).ok 1 _ Z).1 (D.h 0 G Z) zAv Z isAgg3 sizeOf3))<|og 8 true (fun G Q U W H D=>zDA (D.h 0 G Z) (D.h 1 G Z))<|op (fun Q U W H D=>zAl (((gtD p1 y23).1)==((gtD (gtD p0 y5) y11).1)) (D.g 0 Z) (fun hc=>by have a1:Q 61=.bool (((gtD p1 y23).2.1)==((gtD (gtD p0 y5) y11).2.1)):=D 1 _ _ _ Z Z Z Z (zCH Z (zBA hc));show _=Value.bool x27;rw [q28,hc];exact a1) (fun hc=>by show _=Value.bool x27;rw [q28,hc];exact Z))<|ov<|gm 18 true h2<|gm 18 true h11<|og 18 true (fun G Q U W H D=>zMi (D.h 0 G Z) (D.h 1 G Z) (gd e29 G))<|og 18 true (fun G Q U W H D=>zKs (D.h 0 G Z) Z)<|og 18 true (fun G Q U W H D=>zDA (D.h 0 G Z) Z)<|og 18 true (fun G Q U W H D=>zA6 ((H 10 Z).trans h10) zFM sizeOf4 (by decide) Z)<|og 18 true (fun G Q U W H D=>OpF.bool (zA7 ((q.fr W).ok 1 _ Z).1 (D.h 0 G Z) zCw Z isAgg4 sizeOf4))<|og 18 true (fun G Q U W H D=>zKQ underlying4 (D.h 0 G Z) (D.h 1 G Z))<|op (fun Q U W H D=>zAl x27 (D.g 0 Z) (fun hc=>by have a1:Q 71=.bool (((bitI (fun u v=>u &&& v) .i64 (p2 / 2 ^ min y23.toNat 64) 1)==1)==((gtD (gtD p0 y5) y11).2.2)):=D 1 _ _ _ Z Z Z Z (zCH Z (zBA hc));show _=Value.bool x30;rw [q31,hc];exact a1) (fun hc=>by show _=Value.bool x30;rw [q31,hc];exact Z))<|oz
 intro R w m n p
 obtain ⟨h1,h2,h3,h7,h8,h9⟩:=k6 n h1 h2 h3 h7 h8 h9
 obtain ⟨h10,h11⟩:=k2 n h10 h11
 have h72:=p.r 27 Z
 replace f_v1:=f_v1.fr m
 replace q:=q.fr m
 replace d:=d.fr m.size
 replace j:=j.trans m
 refine zPt x30 h72 (fun c32=>?_) (fun c32=>?_)
 have c:=zAh c32 c
 refine HT.u d j (eB false::[]) ?_ ?_
 exact op (fun Q U W H D=>zA9 Z)<|oz
 intro R w m n p d j
 obtain ⟨h1,h2,h3,h7,h9,h10⟩:=k6 n h1 h2 h3 h7 h9 h10
 replace h11:=k1 n h11
 have h8:=p.r 0 Z
 replace f_v1:=f_v1.fr m
 replace q:=q.fr m
 obtain ⟨e33,c⟩:=zAC c
 refine HT.u d j (eI y23::eI (y23+1)::eI (y23+1)::[]) ?_ ?_
 exact om h11<|op (fun Q U W H D=>zAi (D.g 0 Z) Z e33)<|oa<|oz
 intro R w m n p d j
 obtain ⟨h1,h2,h3,h7,h8,h9⟩:=k6 n h1 h2 h3 h7 h8 h9
 replace h10:=k1 n h10
 have h11:=p.r 2 Z
 replace f_v1:=f_v1.fr m
 replace q:=q.fr m
 exact ei k (And.intro (Nat.lt_succ_self k) ⟨_,_,_,c,d,j,B,q,h1,h2,h3,h7,h8,h9,h10,h11,f_v1⟩)
 have c:=zAg c32 c
 refine HT.skip ?_
 obtain ⟨e34,c⟩:=zAC c
 refine HT.u d j (eI y23::eI (y23+1)::eI (y23+1)::[]) ?_ ?_
 exact om h11<|op (fun Q U W H D=>zAi (D.g 0 Z) Z e34)<|oa<|oz
 intro R w m n p d j
 obtain ⟨h1,h2,h3,h7,h8,h9⟩:=k6 n h1 h2 h3 h7 h8 h9
 replace h10:=k1 n h10
 have h11:=p.r 2 Z
 replace f_v1:=f_v1.fr m
 replace q:=q.fr m
 exact ei k (And.intro (Nat.lt_succ_self k) ⟨_,_,_,c,d,j,B,q,h1,h2,h3,h7,h8,h9,h10,h11,f_v1⟩)
 have c:=zAg c24 c
 refine zPy ?_
 obtain rfl:=si c
 replace q:IniOK [ob (.pointer (some ⟨b3_0,0,none⟩)) (.box w0.heap.size 26 zA2 p0)] A w:=q.sub [(0,ob (.pointer (some ⟨b3_0,0,none⟩)) (.box w0.heap.size 26 zA2 p0))] ⟨Z,Z,N⟩
 exact ei _ ⟨_,Z,d,j,B,q,h1,h2,h3,h7,h8,h9,f_v1⟩
 rintro R w ⟨A,s21,es,d,j,B,q,h1,h2,h3,h7,h8,h9,f_v1⟩
 obtain rfl:=es.symm
 obtain ⟨e35,c⟩:=zAC c
 refine HT.u d j (eI y11::eI (y11+1)::eI (y11+1)::[]) ?_ ?_
 exact om h9<|op (fun Q U W H D=>zAi (D.g 0 Z) Z e35)<|oa<|oz
 intro R w m n p d j
 obtain ⟨h1,h2,h3,h7,h8⟩:=k5 n h1 h2 h3 h7 h8
 have h9:=p.r 2 Z
 replace f_v1:=f_v1.fr m
 replace q:=q.fr m
 exact ei k (And.intro (Nat.lt_succ_self k) ⟨_,_,_,c,d,j,B,q,h1,h2,h3,h7,h8,h9,f_v1⟩)
 have c:=zAg c13 c
 refine zPy ?_
 obtain rfl:=si c
 exact ei _ ⟨_,Z,d,j,B,q,h1,h2,h3,h7,h8,f_v1⟩
 rintro R w ⟨A,s9,es,d,j,B,q,h1,h2,h3,h7,h8,f_v1⟩
 obtain rfl:=es.symm
 refine zQ1 d j (eB s9::[]) ?_ ?_
 exact om h8<|oz
 intro R w m n p d j
 obtain ⟨h1,h2,h3,h7⟩:=k4 n h1 h2 h3 h7
 have h73:=p.r 0 Z
 replace f_v1:=f_v1.fr m
 replace q:=q.fr m
 refine zPt s9 h73 (fun c36=>?_) (fun c36=>?_)
 have c:=zAh c36 c
 refine zQ1 d j (eB true::[]) ?_ ?_
 exact op (fun Q U W H D=>zA9 Z)<|oz
 intro R w m n p d j
 have h6:=p.r 0 Z
 replace q:=q.fr m
 replace q:IniOK [] A w:=q.sub [] N
 refine HT.ret ?_
 obtain rfl:=si c
 have c:=hr0
 replace c:some _=some _:=c
 obtain rfl:=si c
 exact ⟨.inr Z,[R 6],⟨Z,N⟩,h6,j⟩
 have c:=zAg c36 c
 refine HT.skip ?_
 obtain ⟨e37,c⟩:=zAC c
 refine HT.u d j (eI y5::eI (y5+1)::eI (y5+1)::[]) ?_ ?_
 exact om h7<|op (fun Q U W H D=>zAi (D.g 0 Z) Z e37)<|oa<|oz
 intro R w m n p d j
 obtain ⟨h1,h2,h3⟩:=k3 n h1 h2 h3
 have h7:=p.r 2 Z
 replace f_v1:=f_v1.fr m
 replace q:=q.fr m
 exact ei k (And.intro (Nat.lt_succ_self k) ⟨_,_,c,d,j,B,q,h1,h2,h3,h7,f_v1⟩)
 have c:=zAg c6 c
 refine zPy ?_
 obtain rfl:=si c
 replace q:IniOK [] A w:=q.sub [] N
 exact ei _ ⟨_,Z,d,j,B,q⟩
 rintro R w ⟨A,s4,rfl,d,j,B,q⟩
 have c:=zEG c
 refine zQ1 d j (eB false::[]) ?_ ?_
 exact op (fun Q U W H D=>zA9 Z)<|oz
 intro R w m n p d j
 have h6:=p.r 0 Z
 replace q:=q.fr m
 refine HT.ret ?_
 obtain rfl:=si c
 exact ⟨.inr Z,[R 6],⟨Z,N⟩,h6,j⟩
def zCF (fu : Nat) (p1 : List zAA) (p2 : Int) (x101 : Int × zAG) (x109 : Int × zAG) : Nat -> Int -> Option (Ex (Int × zAG) Unit)
 | 0,_=>none
 | k+1,y124=>
 bif (decide (y124<(x109.2.2.length:Int))) then (
 ck (inR y124 x109.2.2.length) <|
 bif ((gtD x109.2.2 y124)==((gtD p1 p2).1,(gtD p1 p2).2.1,x101.1,x109.1)) then (
 ck (i64B (y124+2)) <|
 some (Ex.ret ((y124+2),x109.2))
 ) else (
 ck (i64B (y124+1)) <|
 zCF fu p1 p2 x101 x109 k (y124+1)
 )
 ) else (
 some (Ex.go ())
 )
def zC5 : Nat -> Nat -> zAD -> (List zAA) -> Int -> Int -> zAG -> Option (Int × zAG)
 | 0,_,_,_,_,_,_=>none
 | q+1,fu,p0,p1,p2,p3,p4=>
 bif (p2==(p1.length:Int)) then (
 cl true (zE9 fu p0 p1 p3) fun x97=>
 bif x97 then (
 some (1,p4)
 ) else (
 some (0,p4)
 )
 ) else (
 ck (i64B (p2+1)) <|
 cl true (zC5 q fu p0 p1 (p2+1) p3 p4) fun x101=>
 ck (i64B (p2+1)) <|
 ck (decide (0<=p2)) <|
 cl true (zC5 q fu p0 p1 (p2+1) (bitI (fun u v=>u ||| v) .i64 p3 (IntKind.i64.wrap ((1:Int)*2 ^ min p2.toNat 64))) x101.2) fun x109=>
 bif (x101.1==x109.1) then (
 some (x101.1,x109.2)
 ) else (
 ck (inR p2 p1.length) <|
 ck (inR p2 p1.length) <|
 cl true (zCF fu p1 p2 x101 x109 fu 0) fun rl121=>
 exM rl121 (fun r=>some r) fun s123=>
 ck (zBu (x109.2.2.length+([((gtD p1 p2).1,(gtD p1 p2).2.1,x101.1,x109.1)]:List zA4).length)) <|
 ck (i64B (((x109.2.1,(x109.2.2++([((gtD p1 p2).1,(gtD p1 p2).2.1,x101.1,x109.1)]:List zA4))).2.length:Int)+1)) <|
 some ((((x109.2.1,(x109.2.2++([((gtD p1 p2).1,(gtD p1 p2).2.1,x101.1,x109.1)]:List zA4))).2.length:Int)+1),(x109.2.1,(x109.2.2++([((gtD p1 p2).1,(gtD p1 p2).2.1,x101.1,x109.1)]:List zA4))))
 )
 )
set_option linter.unusedSimpArgs false in
theorem zGp (q : Nat) : ∀ {fu : Nat} {A0 : Av} {p0 : zAD} {p1 : List zAA} {p2 : Int} {p3 : Int} {p4 : zAG} {r : Int × zAG} (c : zC5 q fu p0 p1 p2 p3 p4 = some r) {w : World} {v0 : Value} {v1 : Value} {v2 : Value} {v3 : Value} {v4 : Value} {S0 : Nat -> Prop} (d : AvOK A0 w) (K : ∀ b o, A0 b o -> ¬ S0 b) (h0 : Rep zA2 (addS A0 S0) w v0 p0) (h1 : Rep (eSl zA0) (addS A0 S0) w v1 p1) (h2 : v2=.int .i64 p2) (h3 : v3=.int .i64 p3) (h4 : (trP (oPt 32 (oPr (oRd (eInt .i64)) (oSl 60 (oRd zA1)))) p4 []).P (addS A0 S0) w S0 v4),
 Calls prog 28 #[v0,v1,v2,v3,v4] w fun e w'=>∃ v,e=.returned v/\(v=.int .i64 r.1/\Gave (oPt 32 (oPr (oRd (eInt .i64)) (oSl 60 (oRd zA1)))) A0 S0 w v4 r.2 w'):=by
 induction q with
 | zero=>intro fu A0 p0 p1 p2 p3 p4 r c w v0 v1 v2 v3 v4 S0 d K h0 h1 h2 h3 h4;rw [zC5] at c;cases c
 | succ q IH=>
 intro fu A0 p0 p1 p2 p3 p4 r c w v0 v1 v2 v3 v4 S0 d K h0 h1 h2 h3 h4
 rw [zC5] at c
 obtain ⟨w0,hw0,C⟩:=pc d
 have j:Ch S0 w0 w:=hw0 ▸ Ch.refl _ _
 have hA00:AvOK A0 w0:=C
 rw [show Gave (oPt 32 (oPr (oRd (eInt .i64)) (oSl 60 (oRd zA1)))) A0 S0 w=Gave (oPt 32 (oPr (oRd (eInt .i64)) (oSl 60 (oRd zA1)))) A0 S0 w0 from hw0 ▸ Z]
 have hw0s:w.heap.size=w0.heap.size:=hw0 ▸ Z
 have q:=IniOK.oneT h4
 have hA1:=d.oneT h4
 rw [show w.heap.size=w0.heap.size from hw0s] at q
 obtain ⟨A,hAe⟩:∃ A,A=addS A0 S0:=⟨_,Z⟩
 have B:∀ b o,A0 b o->A b o:=fun b o h=>hAe ▸ .inl h
 replace d:AvOK A w:=hAe ▸ hA1
 replace q:IniOK [⟨v4,S0,trR (fun k=>w0.heap.size<=k\/S0 k) (oPt 32 (oPr (oRd (eInt .i64)) (oSl 60 (oRd zA1)))) p4 []⟩] A w:=hAe ▸ q
 refine zAE [.tmp 10] func28 ntmps28 (by decide) Z Z (nb Z) ?_
 intro R hR
 have f_v0:Rep zA2 A w v0 p0:=hAe ▸ h0
 replace h0:R 0=v0:=hR 0 _ Z
 have f_v1:Rep (eSl zA0) A w v1 p1:=hAe ▸ h1
 replace h1:R 1=v1:=hR 1 _ Z
 replace h2:R 2=.int .i64 p2:=(hR 2 _ Z).trans h2
 replace h3:R 3=.int .i64 p3:=(hR 3 _ Z).trans h3
 replace h4:R 4=v4:=hR 4 _ Z
 refine zQ2 [⟨v4,S0,trR (fun k=>w0.heap.size<=k\/S0 k) (oPt 32 (oPr (oRd (eInt .i64)) (oSl 60 (oRd zA1)))) p4 []⟩] (⟨_,true,[],some (.box w0.heap.size 26 zA2 p0),true,fun A=>.any⟩::rI 0::[]) (ua (ur (UAll.nil))) q d ?_ ?_
 exact rc (OblR.made _ Z Z Z Z fun V Q U O D=>by have a0:Q 0=v0:=(O.old 0 Z).trans h0;have ra0:=(f_v0.stp O.stp).eq a0;exact zAx ra0 (Nat.le_trans j.size O.ch.size))<|rp (fun V Q U O D=>zA9 Z)<|rz
 intro done ρ σ A R w y s
 obtain ⟨h1,h2,h3,h4⟩:=k4 s.rg h1 h2 h3 h4
 have z94:=s.inivR 0 Z
 obtain ⟨b5_94,e_b5_94⟩:=s.boxv y 1 Z Z
 have h5:=s.ov y 1 0 e_b5_94
 have eS_v4:=s.inisR 0 Z
 replace f_v1:=f_v1.stp s.stp
 replace B:=s.lowK B C K (q.geK (⟨fun _ h=>h,N⟩))
 replace j:Ch S0 w0 w:=j.tr s.ch (q.geK (⟨fun _ h=>h,N⟩))
 replace q:=s.left y [(0,⟨v4,S0,trR (fun k=>w0.heap.size<=k\/S0 k) (oPt 32 (oPr (oRd (eInt .i64)) (oSl 60 (oRd zA1)))) p4 []⟩),(1,ob (.pointer (some ⟨b5_94,0,none⟩)) (.box w0.heap.size 26 zA2 p0))] ⟨Z,Z,z94,eS_v4,Z,⟨Z,Z,e_b5_94,Z,Z,N⟩⟩
 replace d:=s.avok
 refine zQ0 ?_
 refine zQ0 ?_
 refine zQ3 (eI p2::eR v1::eI (p1.length:Int)::eB (p2==(p1.length:Int))::[]) ?_ ?_
 exact om h2<|om h1<|op (fun Q U W H D=>zAY (aT:=#[]) ((f_v1.fr W).eq (D.g 0 Z)) underlying44)<|op (fun Q U W H D=>zDA (D.g 0 Z) (D.g 1 Z))<|oz
 intro R w m n p
 obtain ⟨h1,h2,h3,h4,h5⟩:=k5 n h1 h2 h3 h4 h5
 have h18:=p.r 3 Z
 replace f_v1:=f_v1.fr m
 replace q:=q.fr m
 replace d:=d.fr m.size
 replace j:=j.tr (m.ch noB) fun _ h=>False.elim h
 refine zPt (p2==(p1.length:Int)) h18 (fun c96=>?_) (fun c96=>?_)
 have c:=zAh c96 c
 refine zQ0 ?_
 refine zQ0 ?_
 obtain ⟨x97,q98,c⟩:=zAB c
 refine zQ3 (eF (.rep zA2 A p0)::eR v1::eI p3::eB x97::[]) ?_ ?_
 exact op (fun Q U W H D=>(zA7 ((q.fr W).ok 1 _ Z).1 ((H 5 Z).trans h5) (Fld.id _) Z isAgg26 sizeOf26))<|om h1<|om h3<|op (fun Q U W H D=>zAN call63 (zHH (q98 Z) (d.fr W.size) (D.g 0 Z) ((f_v1.fr W).eq (D.g 1 Z)) (D.g 2 Z)))<|oz
 intro R w m n p
 have h22:=p.r 3 Z
 replace q:=q.fr m
 replace q:IniOK [⟨v4,S0,trR (fun k=>w0.heap.size<=k\/S0 k) (oPt 32 (oPr (oRd (eInt .i64)) (oSl 60 (oRd zA1)))) p4 []⟩] A w:=q.sub [(0,⟨v4,S0,trR (fun k=>w0.heap.size<=k\/S0 k) (oPt 32 (oPr (oRd (eInt .i64)) (oSl 60 (oRd zA1)))) p4 []⟩)] ⟨Z,Z,N⟩
 replace d:=d.fr m.size
 replace j:=j.tr (m.ch noB) fun _ h=>False.elim h
 refine zPt x97 h22 (fun c99=>?_) (fun c99=>?_)
 have c:=zAh c99 c
 refine zQ0 ?_
 refine zQ3 (eI 1::[]) ?_ ?_
 exact op (fun Q U W H D=>zA9 Z)<|oz
 intro R w m n p
 have h10:=p.r 0 Z
 replace q:=q.fr m
 replace d:=d.fr m.size
 replace j:=j.tr (m.ch noB) fun _ h=>False.elim h
 refine HT.ret ?_
 obtain rfl:=si c
 exact ⟨.inr Z,[R 10],⟨Z,N⟩,h10,zEl Z (q.own 0 _ Z) (q.ok 0 _ Z).2 B j⟩
 have c:=zAg c99 c
 refine HT.skip<|zQ0 ?_
 refine zQ3 (eI 0::[]) ?_ ?_
 exact op (fun Q U W H D=>zA9 Z)<|oz
 intro R w m n p
 have h10:=p.r 0 Z
 replace q:=q.fr m
 replace d:=d.fr m.size
 replace j:=j.tr (m.ch noB) fun _ h=>False.elim h
 refine HT.ret ?_
 obtain rfl:=si c
 exact ⟨.inr Z,[R 10],⟨Z,N⟩,h10,zEl Z (q.own 0 _ Z) (q.ok 0 _ Z).2 B j⟩
 have c:=zAg c96 c
 refine HT.skip ?_
 obtain ⟨e100,c⟩:=zAC c
 obtain ⟨x101,q102,c⟩:=zAB c
 refine zQ2 [⟨v4,S0,trR (fun k=>w0.heap.size<=k\/S0 k) (oPt 32 (oPr (oRd (eInt .i64)) (oSl 60 (oRd zA1)))) p4 []⟩,ob (.pointer (some ⟨b5_94,0,none⟩)) (.box w0.heap.size 26 zA2 p0)] ((rF fun A=>.rep zA2 A p0)::rR v1::rI p2::rI (p2+1)::rI p3::rR v4::⟨_,true,[0],some (trR (fun k=>w0.heap.size<=k\/S0 k) (oPt 32 (oPr (oRd (eInt .i64)) (oSl 60 (oRd zA1)))) x101.2 []),false,fun A=>.raw (.int .i64 x101.1)⟩::rI x101.1::[]) (up (ur (ur (ur (ur (ur (ur (ur (UAll.nil))))))))) q d ?_ ?_
 exact rp (fun V Q U O D=>(zA7 (O.rd 1 _ Z Z) ((O.old 5 Z).trans h5) (Fld.id _) Z isAgg26 sizeOf26))<|rm h1<|rm h2<|rp (fun V Q U O D=>zAi (D.g 0 Z) Z e100)<|rm h3<|rm h4<|rc (zQ9 0 _ _ Z Z Z Z Z fun V Q U O D u S X I Y J L M=>by have a0:Rep zA2 V U (Q 23) p0:=D.g 0 Z;have a1:Q 24=v1:=D.g 1 Z;have ra1:=(f_v1.stp O.stp).eq a1;have a2:Q 26=.int .i64 (p2+1):=D.g 2 Z;have a3:Q 27=.int .i64 p3:=D.g 3 Z;have a4:Q 28=v4:=D.g 4 Z;have e0:=(J _ Z).1;rw [e0] at I ⊢;have hu0:zAM Q (.tmp 28)=v4:=a4;exact zFB call28 (zAJ I.2) Y I.1 (fun k hk=>.inl (Nat.le_trans (Nat.le_trans j.size O.ch.size) hk)) (fun k hk=>SP.lt _ I.2 hk) (fun S1 hS1 hP=>by simp only [List.map,hu0];exact IH (q102 Z) (O.av.subS _) (fun b o h=>h.2) (a0.less fun b o h=>h.elim (fun h=>h.1) fun h=>Y b (hS1 b h) o) (ra1.less fun b o h=>h.elim (fun h=>h.1) fun h=>Y b (hS1 b h) o) a2 a3 hP) (fun _ _ _ h=>h))<|ra<|rz
 intro done ρ σ A R w y s
 obtain ⟨h1,h2,h3,h4,h5⟩:=k5 s.rg h1 h2 h3 h4 h5
 have z103:=s.inivR 0 Z
 have z104:=s.on y 8 6 Z Z Z Z Z z103
 have z105:=s.inivR 1 Z
 obtain ⟨S106,eS_v4⟩:∃ S,σ 8=S:=⟨_,Z⟩
 have h11:=s.r y 7 Z
 replace f_v1:=f_v1.stp s.stp
 replace B:=s.lowK B C K (q.geK (⟨fun _ h=>h,⟨.inl Z,N⟩⟩))
 replace j:Ch S0 w0 w:=j.tr s.ch (q.geK (⟨fun _ h=>h,⟨.inl Z,N⟩⟩))
 replace q:=s.left y [(8,⟨v4,S106,trR (fun k=>w0.heap.size<=k\/S0 k) (oPt 32 (oPr (oRd (eInt .i64)) (oSl 60 (oRd zA1)))) x101.2 []⟩),(1,ob (.pointer (some ⟨b5_94,0,none⟩)) (.box w0.heap.size 26 zA2 p0))] ⟨Z,Z,z104,eS_v4,Z,⟨Z,Z,z105,Z,Z,N⟩⟩
 replace d:=s.avok
 refine zQ0 ?_
 obtain ⟨e107,e108,c⟩:=ck2 c
 obtain ⟨x109,q110,c⟩:=zAB c
 refine zPx [⟨v4,S106,trR (fun k=>w0.heap.size<=k\/S0 k) (oPt 32 (oPr (oRd (eInt .i64)) (oSl 60 (oRd zA1)))) x101.2 []⟩,ob (.pointer (some ⟨b5_94,0,none⟩)) (.box w0.heap.size 26 zA2 p0)] ((rF fun A=>.rep zA2 A p0)::rR v1::rI p2::rI (p2+1)::rI p3::rI p2::rI (IntKind.i64.wrap ((1:Int)*2 ^ min p2.toNat 64))::rI (bitI (fun u v=>u ||| v) .i64 p3 (IntKind.i64.wrap ((1:Int)*2 ^ min p2.toNat 64)))::rR v4::⟨_,true,[0],some (trR (fun k=>w0.heap.size<=k\/S0 k) (oPt 32 (oPr (oRd (eInt .i64)) (oSl 60 (oRd zA1)))) x109.2 []),false,fun A=>.raw (.int .i64 x109.1)⟩::rI x109.1::[]) (by kernel_rfl) (by kernel_rfl) (by kernel_rfl) (Wf.mk' (by kernel_rfl) (up (ur (ur (ur (ur (ur (ur (ur (ur (ur (ur (UAll.nil)))))))))))) (by kernel_rfl) (by kernel_rfl)) q d ?_ ?_
 exact rp (fun V Q U O D=>(zA7 (O.rd 1 _ Z Z) ((O.old 5 Z).trans h5) (Fld.id _) Z isAgg26 sizeOf26))<|rm h1<|rm h2<|rp (fun V Q U O D=>zAi (D.g 0 Z) Z e107)<|rm h3<|rm h2<|rp (fun V Q U O D=>zPC Z (D.g 0 Z) e108)<|rp (fun V Q U O D=>zPi (D.g 0 Z) (D.g 1 Z))<|rm h4<|rc (zQ9 0 _ _ Z Z Z Z Z fun V Q U O D u S X I Y J L M=>by have a0:Rep zA2 V U (Q 30) p0:=D.g 0 Z;have a1:Q 31=v1:=D.g 1 Z;have ra1:=(f_v1.stp O.stp).eq a1;have a2:Q 33=.int .i64 (p2+1):=D.g 2 Z;have a3:Q 37=.int .i64 (bitI (fun u v=>u ||| v) .i64 p3 (IntKind.i64.wrap ((1:Int)*2 ^ min p2.toNat 64))):=D.g 3 Z;have a4:Q 38=v4:=D.g 4 Z;have e0:=(J _ Z).1;rw [e0] at I ⊢;have hu0:zAM Q (.tmp 38)=v4:=a4;exact zFB call28 (zAJ I.2) Y I.1 (fun k hk=>.inl (Nat.le_trans (Nat.le_trans j.size O.ch.size) hk)) (fun k hk=>SP.lt _ I.2 hk) (fun S1 hS1 hP=>by simp only [List.map,hu0];exact IH (q110 Z) (O.av.subS _) (fun b o h=>h.2) (a0.less fun b o h=>h.elim (fun h=>h.1) fun h=>Y b (hS1 b h) o) (ra1.less fun b o h=>h.elim (fun h=>h.1) fun h=>Y b (hS1 b h) o) a2 a3 hP) (fun _ _ _ h=>h))<|ra<|rz
 intro done ρ σ A R w y s
 obtain ⟨h1,h2,h4,h11⟩:=k4 s.rg h1 h2 h4 h11
 have z111:=s.inivR 0 Z
 have z112:=s.on y 11 9 Z Z Z Z Z z111
 have z113:=s.inivR 1 Z
 obtain ⟨S114,eS_v4⟩:∃ S,σ 11=S:=⟨_,Z⟩
 have h12:=s.r y 10 Z
 replace f_v1:=f_v1.stp s.stp
 replace B:=s.lowK B C K (q.geK (⟨fun _ h=>h,⟨.inl Z,N⟩⟩))
 replace j:Ch S0 w0 w:=j.tr s.ch (q.geK (⟨fun _ h=>h,⟨.inl Z,N⟩⟩))
 replace q:=s.left y [(11,⟨v4,S114,trR (fun k=>w0.heap.size<=k\/S0 k) (oPt 32 (oPr (oRd (eInt .i64)) (oSl 60 (oRd zA1)))) x109.2 []⟩)] ⟨Z,Z,z112,eS_v4,Z,N⟩
 replace d:=s.avok
 refine zQ0 ?_
 refine zQ0 ?_
 refine zQ3 (eI x101.1::eI x109.1::eB (x101.1==x109.1)::[]) ?_ ?_
 exact om h11<|om h12<|op (fun Q U W H D=>zDA (D.g 0 Z) (D.g 1 Z))<|oz
 intro R w m n p
 obtain ⟨h1,h2,h4,h11,h12⟩:=k5 n h1 h2 h4 h11 h12
 have h42:=p.r 2 Z
 replace f_v1:=f_v1.fr m
 replace q:=q.fr m
 replace d:=d.fr m.size
 replace j:=j.tr (m.ch noB) fun _ h=>False.elim h
 refine zPt (x101.1==x109.1) h42 (fun c115=>?_) (fun c115=>?_)
 have c:=zAh c115 c
 refine zQ0 ?_
 refine zQ3 (eI x101.1::eI x101.1::[]) ?_ ?_
 exact om h11<|oa<|oz
 intro R w m n p
 have h10:=p.r 1 Z
 replace q:=q.fr m
 replace d:=d.fr m.size
 replace j:=j.tr (m.ch noB) fun _ h=>False.elim h
 refine HT.ret ?_
 obtain rfl:=si c
 exact ⟨.inr Z,[R 10],⟨Z,N⟩,h10,zEl Z (q.own 0 _ Z) (q.ok 0 _ Z).2 B j⟩
 have c:=zAg c115 c
 refine HT.skip<|zQ0 ?_
 obtain ⟨e116,e117,c⟩:=ck2 c
 refine zPx [⟨v4,S114,trR (fun k=>w0.heap.size<=k\/S0 k) (oPt 32 (oPr (oRd (eInt .i64)) (oSl 60 (oRd zA1)))) x109.2 []⟩] (rR v1::rI p2::(rF fun A=>.qtr zA0 A (gtD p1 p2))::(rF fun A=>.qtr (eInt .i64) A ((gtD p1 p2).1))::rI ((gtD p1 p2).1)::rR v1::rI p2::(rF fun A=>.qtr zA0 A (gtD p1 p2))::(rF fun A=>.qtr (eInt .i64) A ((gtD p1 p2).2.1))::rI ((gtD p1 p2).2.1)::rI x101.1::rI x109.1::(rF fun A=>.rep zA1 A ((gtD p1 p2).1,(gtD p1 p2).2.1,x101.1,x109.1))::⟨_,true,[],some (.box w0.heap.size 60 zA1 (0,(0,(0,0)))),true,fun A=>.any⟩::⟨_,true,[14],some (.box w0.heap.size 60 zA1 ((gtD p1 p2).1,(gtD p1 p2).2.1,x101.1,x109.1)),false,fun A=>.any⟩::[]) (by kernel_rfl) (by kernel_rfl) (by kernel_rfl) (Wf.mk' (by kernel_rfl) (ur (ur (UAll.cons zCA (UAll.cons zCA (ur (ur (ur (UAll.cons zCA (UAll.cons zCA (ur (ur (ur (up (ua (ua (UAll.nil)))))))))))))))) (by kernel_rfl) (by kernel_rfl)) q d ?_ ?_
 exact rm h1<|rm h2<|rp (fun V Q U O D=>zAL ((f_v1.stp O.stp).eq (D.g 0 Z)) (D.g 1 Z) underlying44 sizeOf69 e116)<|rp (fun V Q U O D=>zAr (qt (D.g 0 Z)) zDH sizeOf3 (by decide) zAo Z)<|rp (fun V Q U O D=>OpF.int (zAb (QRep.ptr (D.g 0 Z)) isAgg3 sizeOf3))<|rm h1<|rm h2<|rp (fun V Q U O D=>zAL ((f_v1.stp O.stp).eq (D.g 0 Z)) (D.g 1 Z) underlying44 sizeOf69 e117)<|rp (fun V Q U O D=>zAr (qt (D.g 0 Z)) zDU sizeOf3 (by decide) zAv Z)<|rp (fun V Q U O D=>OpF.int (zAb (QRep.ptr (D.g 0 Z)) isAgg3 sizeOf3))<|rm h11<|rm h12<|rp (fun V Q U O D=>by have a0:Q 48=.int .i64 ((gtD p1 p2).1):=D.g 0 Z;have a1:Q 53=.int .i64 ((gtD p1 p2).2.1):=D.g 1 Z;have a2:Q 54=.int .i64 x101.1:=D.g 2 Z;have a3:Q 55=.int .i64 x109.1:=D.g 3 Z;exact zDK (v:=.agg #[.int .i64 ((gtD p1 p2).1),.int .i64 ((gtD p1 p2).2.1),.int .i64 x101.1,.int .i64 x109.1]) (by simp [execOp,Instr.build,zAM,a0,a1,a2,a3,underlying,underlying60,zeroValue60,sizeOf3,go_sem,Instr.fill]) ⟨_,Z,zAy zAP (zAy zAP (zAy zAP zAP))⟩)<|rc (OblR.made _ Z Z Z Z fun V Q U O D=>by exact zBP zeroValue60 (fun A w=>zAy zAP (zAy zAP (zAy zAP zAP))) (Nat.le_trans j.size O.ch.size))<|rc (OblR.took 14 _ _ Z Z Z Z Z fun V Q U O D u X Y J L M=>by have a1:Rep zA1 V U (Q 56) ((gtD p1 p2).1,(gtD p1 p2).2.1,x101.1,x109.1):=D.g 1 Z;obtain ⟨b,hb,hB',hbx⟩:=X;have hop':=L _ _ Z Z Z Z;exact zAp a1 (hop'.symm.trans hb) hb ⟨b,hb,hB',hbx⟩ Y (FldS.id _) sizeOf60 Z)<|rz
 intro done ρ σ A R w y s
 replace h4:=k1 s.rg h4
 have z118:=s.inivR 0 Z
 obtain ⟨b13_118,e_b13_118⟩:=s.boxv y 15 Z Z
 have z120:=(s.opnR y 15 14 Z Z Z Z Z).symm.trans e_b13_118
 have h13:=s.ov y 14 13 z120
 have eS_v4:=s.inisR 0 Z
 replace B:=s.lowK B C K (q.geK (⟨fun _ h=>h,N⟩))
 replace j:Ch S0 w0 w:=j.tr s.ch (q.geK (⟨fun _ h=>h,N⟩))
 replace q:=s.left y [(0,⟨v4,S114,trR (fun k=>w0.heap.size<=k\/S0 k) (oPt 32 (oPr (oRd (eInt .i64)) (oSl 60 (oRd zA1)))) x109.2 []⟩),(15,ob (.pointer (some ⟨b13_118,0,none⟩)) (.box w0.heap.size 60 zA1 ((gtD p1 p2).1,(gtD p1 p2).2.1,x101.1,x109.1)))] ⟨Z,Z,z118,eS_v4,Z,⟨Z,Z,e_b13_118,Z,Z,N⟩⟩
 replace d:=s.avok
 refine zQ0 ?_
 refine zQ0 ?_
 refine zQ3 (eI 0::[]) ?_ ?_
 exact op (fun Q U W H D=>zA9 Z)<|oz
 intro R w m n p
 obtain ⟨h4,h13⟩:=k2 n h4 h13
 have h14:=p.r 0 Z
 replace q:=q.fr m
 replace d:=d.fr m.size
 replace j:=j.tr (m.ch noB) fun _ h=>False.elim h
 obtain ⟨rl121,q122,c⟩:=zAB c
 replace q122:=q122 Z
 refine zPv (fun R w=>∃ A:Av,∃ (s123:Unit),rl121=Ex.go s123/\AvOK A w/\Ch S0 w0 w/\(∀ b o,A0 b o->A b o)/\IniOK [⟨v4,S114,trR (fun k=>w0.heap.size<=k\/S0 k) (oPt 32 (oPr (oRd (eInt .i64)) (oSl 60 (oRd zA1)))) x109.2 []⟩,ob (.pointer (some ⟨b13_118,0,none⟩)) (.box w0.heap.size 60 zA1 ((gtD p1 p2).1,(gtD p1 p2).2.1,x101.1,x109.1))] A w/\R 4=v4/\R 13=(.pointer (some ⟨b13_118,0,none⟩))) ?_ ?_
 refine HT.block<|zPz (fun k R w=>∃ A:Av,∃ (y124:Int),zCF fu p1 p2 x101 x109 k y124=some rl121/\AvOK A w/\Ch S0 w0 w/\(∀ b o,A0 b o->A b o)/\IniOK [⟨v4,S114,trR (fun k=>w0.heap.size<=k\/S0 k) (oPt 32 (oPr (oRd (eInt .i64)) (oSl 60 (oRd zA1)))) x109.2 []⟩,ob (.pointer (some ⟨b13_118,0,none⟩)) (.box w0.heap.size 60 zA1 ((gtD p1 p2).1,(gtD p1 p2).2.1,x101.1,x109.1))] A w/\R 4=v4/\R 13=(.pointer (some ⟨b13_118,0,none⟩))/\R 14=.int .i64 y124) fu ⟨_,_,q122,d,j,B,q,h4,h13,h14⟩ ?_
 have hr0:=c;clear c q122
 rintro k R w ⟨A,y124,c,d,j,B,q,h4,h13,h14⟩
 rcases k with _ | k
 cases (show none=some _ from c)
 rw [zCF] at c
 refine zQ0 ?_
 refine zQ0 ?_
 obtain ⟨h125,p_h125⟩:=((((zAJ (q.own 0 _ Z).2).ptr).snd Z)).open1 Z
 replace q:IniOK [⟨v4,S114,trR (fun k=>w0.heap.size<=k\/S0 k) (oPt 32 (oPr (oRd (eInt .i64)) (oSl 60 (oRd zA1)))) x109.2 [((padd v4 1),[h125])]⟩,ob (.pointer (some ⟨b13_118,0,none⟩)) (.box w0.heap.size 60 zA1 ((gtD p1 p2).1,(gtD p1 p2).2.1,x101.1,x109.1))] A w:=q.repin 0 Z (trP.pin p_h125)
 refine zQ3 (eI y124::eR v4::eR v4::eR (padd v4 1)::eR h125::eI (x109.2.2.length:Int)::eB (decide (y124<(x109.2.2.length:Int)))::[]) ?_ ?_
 exact om h14<|om h4<|op (fun Q U W H D=>zBT (zAJ (q.own 0 _ Z).2).ptr.ad (D.g 0 Z))<|op (fun Q U W H D=>zAQ ((zAJ (q.own 0 _ Z).2).ptr).ad (D.g 0 Z) zCr sizeOf30 (by decide) Z)<|op (fun Q U W H D=>zBX (((q.fr W).own 0 _ Z).2.2 _ (.head _)) (D.g 0 Z) isAgg30 sizeOf30)<|op (fun Q U W H D=>zGE (((((zAJ (q.own 0 _ Z).2).ptr).snd Z)).pin ((q.own 0 _ Z).2.2 _ (.head _)) Z) (D.g 0 Z) underlying30)<|op (fun Q U W H D=>zBS (D.g 0 Z) (D.g 1 Z))<|oz
 intro R w m n p
 obtain ⟨h4,h13,h14⟩:=k3 n h4 h13 h14
 have h63:=p.r 6 Z
 replace q:=q.fr m
 replace d:=d.fr m.size
 replace j:=j.tr (m.ch noB) fun _ h=>False.elim h
 replace q:IniOK [⟨v4,S114,trR (fun k=>w0.heap.size<=k\/S0 k) (oPt 32 (oPr (oRd (eInt .i64)) (oSl 60 (oRd zA1)))) x109.2 []⟩,ob (.pointer (some ⟨b13_118,0,none⟩)) (.box w0.heap.size 60 zA1 ((gtD p1 p2).1,(gtD p1 p2).2.1,x101.1,x109.1))] A w:=q.repin 0 Z trP.nopin
 refine zPt (decide (y124<(x109.2.2.length:Int))) h63 (fun c127=>?_) (fun c127=>?_)
 have c:=zAh c127 c
 refine HT.skip<|zQ0 ?_
 refine HT.block<|zQ0 ?_
 obtain ⟨h128,p_h128⟩:=((((zAJ (q.own 0 _ Z).2).ptr).snd Z)).open1 Z
 replace q:IniOK [⟨v4,S114,trR (fun k=>w0.heap.size<=k\/S0 k) (oPt 32 (oPr (oRd (eInt .i64)) (oSl 60 (oRd zA1)))) x109.2 [((padd v4 1),[h128])]⟩,ob (.pointer (some ⟨b13_118,0,none⟩)) (.box w0.heap.size 60 zA1 ((gtD p1 p2).1,(gtD p1 p2).2.1,x101.1,x109.1))] A w:=q.repin 0 Z (trP.pin p_h128)
 obtain ⟨e130,c⟩:=zAC c
 refine zPw (by kernel_rfl) (l:=eR v4::eR v4::eR (padd v4 1)::eR h128::eI y124::eR (vptr h128 (y124.toNat*4))::eF (.rep zA1 A (gtD x109.2.2 y124))::eF (.rep zA1 A ((gtD p1 p2).1,(gtD p1 p2).2.1,x101.1,x109.1))::eB ((gtD x109.2.2 y124)==((gtD p1 p2).1,(gtD p1 p2).2.1,x101.1,x109.1))::[]) (tl:=[]) (by kernel_rfl) (by kernel_rfl) (by kernel_rfl) (by kernel_rfl) ?_ ?_
 exact om h4<|op (fun Q U W H D=>zBT (zAJ (q.own 0 _ Z).2).ptr.ad (D.g 0 Z))<|op (fun Q U W H D=>zAQ ((zAJ (q.own 0 _ Z).2).ptr).ad (D.g 0 Z) zCr sizeOf30 (by decide) Z)<|op (fun Q U W H D=>zBX (((q.fr W).own 0 _ Z).2.2 _ (.head _)) (D.g 0 Z) isAgg30 sizeOf30)<|om h14<|op (fun Q U W H D=>zDO (((((zAJ (q.own 0 _ Z).2).ptr).snd Z)).pin ((q.own 0 _ Z).2.2 _ (.head _)) Z) (D.g 0 Z) (D.g 1 Z) underlying30 sizeOf60 e130 Z)<|op (fun Q U W H D=>(zGZ (((((((zAJ ((q.fr W).own 0 _ Z).2).ptr).snd Z)).pin (((q.fr W).own 0 _ Z).2.2 _ (.head _)) Z).elem e130 Z)) (D.g 0 Z) isAgg60 sizeOf60))<|op (fun Q U W H D=>(zA7 ((q.fr W).ok 1 _ Z).1 ((H 13 Z).trans h13) (Fld.id _) Z isAgg60 sizeOf60))<|op (fun Q U W H D=>zEg eqGuardType60 (zBx (D.g 0 Z)) (zBx (D.g 1 Z)) (zMS (gtD x109.2.2 y124) ((gtD p1 p2).1,(gtD p1 p2).2.1,x101.1,x109.1) _))<|oz
 intro R w m n p
 obtain ⟨h4,h13,h14⟩:=k3 n h4 h13 h14
 have h74:=p.r 8 Z
 replace q:=q.fr m
 replace d:=d.fr m.size
 replace j:=j.tr (m.ch noB) fun _ h=>False.elim h
 replace q:IniOK [⟨v4,S114,trR (fun k=>w0.heap.size<=k\/S0 k) (oPt 32 (oPr (oRd (eInt .i64)) (oSl 60 (oRd zA1)))) x109.2 []⟩,ob (.pointer (some ⟨b13_118,0,none⟩)) (.box w0.heap.size 60 zA1 ((gtD p1 p2).1,(gtD p1 p2).2.1,x101.1,x109.1))] A w:=q.repin 0 Z trP.nopin
 refine zPt ((gtD x109.2.2 y124)==((gtD p1 p2).1,(gtD p1 p2).2.1,x101.1,x109.1)) h74 (fun c131=>?_) (fun c131=>?_)
 have c:=zAh c131 c
 refine zQ0 ?_
 obtain ⟨e132,c⟩:=zAC c
 refine zQ3 (eI y124::eI (y124+2)::eI (y124+2)::[]) ?_ ?_
 exact om h14<|op (fun Q U W H D=>zAi (D.g 0 Z) Z e132)<|oa<|oz
 intro R w m n p
 have h10:=p.r 2 Z
 replace q:=q.fr m
 replace q:IniOK [⟨v4,S114,trR (fun k=>w0.heap.size<=k\/S0 k) (oPt 32 (oPr (oRd (eInt .i64)) (oSl 60 (oRd zA1)))) x109.2 []⟩] A w:=q.sub [(0,⟨v4,S114,trR (fun k=>w0.heap.size<=k\/S0 k) (oPt 32 (oPr (oRd (eInt .i64)) (oSl 60 (oRd zA1)))) x109.2 []⟩)] ⟨Z,Z,N⟩
 replace d:=d.fr m.size
 replace j:=j.tr (m.ch noB) fun _ h=>False.elim h
 refine HT.ret ?_
 obtain rfl:=si c
 have c:=hr0
 replace c:some _=some _:=c
 obtain rfl:=si c
 exact ⟨.inr Z,[R 10],⟨Z,N⟩,h10,zEl Z (q.own 0 _ Z) (q.ok 0 _ Z).2 B j⟩
 have c:=zAg c131 c
 refine HT.skip ?_
 obtain ⟨e133,c⟩:=zAC c
 refine zQ3 (eI y124::eI (y124+1)::eI (y124+1)::[]) ?_ ?_
 exact om h14<|op (fun Q U W H D=>zAi (D.g 0 Z) Z e133)<|oa<|oz
 intro R w m n p
 obtain ⟨h4,h13⟩:=k2 n h4 h13
 have h14:=p.r 2 Z
 replace q:=q.fr m
 replace d:=d.fr m.size
 replace j:=j.tr (m.ch noB) fun _ h=>False.elim h
 exact ei k (And.intro (Nat.lt_succ_self k) ⟨_,_,c,d,j,B,q,h4,h13,h14⟩)
 have c:=zAg c127 c
 refine zPy ?_
 obtain rfl:=si c
 exact ei _ ⟨_,Z,d,j,B,q,h4,h13⟩
 rintro R w ⟨A,s123,rfl,d,j,B,q,h4,h13⟩
 have c:=zEG c
 refine zQ0 ?_
 obtain ⟨h134,p_h134⟩:=((((zAJ (q.own 0 _ Z).2).ptr).snd Z)).open1 Z
 replace q:IniOK [⟨v4,S114,trR (fun k=>w0.heap.size<=k\/S0 k) (oPt 32 (oPr (oRd (eInt .i64)) (oSl 60 (oRd zA1)))) x109.2 [((padd v4 1),[h134])]⟩,ob (.pointer (some ⟨b13_118,0,none⟩)) (.box w0.heap.size 60 zA1 ((gtD p1 p2).1,(gtD p1 p2).2.1,x101.1,x109.1))] A w:=q.repin 0 Z (trP.pin p_h134)
 obtain ⟨e136,c⟩:=zAC c
 refine zPx [⟨v4,S114,trR (fun k=>w0.heap.size<=k\/S0 k) (oPt 32 (oPr (oRd (eInt .i64)) (oSl 60 (oRd zA1)))) x109.2 [((padd v4 1),[h134])]⟩,ob (.pointer (some ⟨b13_118,0,none⟩)) (.box w0.heap.size 60 zA1 ((gtD p1 p2).1,(gtD p1 p2).2.1,x101.1,x109.1))] (rR v4::rR v4::rR v4::rR (padd v4 1)::rR h134::(rF fun A=>.rep zA1 A ((gtD p1 p2).1,(gtD p1 p2).2.1,x101.1,x109.1))::(rF fun A=>.rep (eSl zA1) A ([((gtD p1 p2).1,(gtD p1 p2).2.1,x101.1,x109.1)]:List zA4))::⟨_,true,[0],some (.gen (fun k=>w0.heap.size<=k\/S0 k) (pdP (oSl 60 (oRd zA1)) (padd v4 1) (fun z A w S=>(trP (oPt 32 (oPr (oRd (eInt .i64)) (oSl 60 (oRd zA1)))) (x109.2.1,z) []).P A w S v4) (x109.2.2++([((gtD p1 p2).1,(gtD p1 p2).2.1,x101.1,x109.1)]:List zA4)))),true,fun A=>.any⟩::rR v4::rR (padd v4 1)::⟨_,true,[9],some (.gen (fun k=>w0.heap.size<=k\/S0 k) (fixP v4 (trP (oPt 32 (oPr (oRd (eInt .i64)) (oSl 60 (oRd zA1)))) (x109.2.1,(x109.2.2++([((gtD p1 p2).1,(gtD p1 p2).2.1,x101.1,x109.1)]:List zA4))) []))),false,fun A=>.any⟩::[]) (by kernel_rfl) (by kernel_rfl) (by kernel_rfl) (Wf.mk' (by kernel_rfl) (ur (ur (ur (ur (ur (up (up (ua (ur (ur (ua (UAll.nil)))))))))))) (by kernel_rfl) (by kernel_rfl)) q d ?_ ?_
 exact rm h4<|rm h4<|rp (fun V Q U O D=>zBT (zAJ (q.own 0 _ Z).2).ptr.ad (D.g 0 Z))<|rp (fun V Q U O D=>zAQ ((zAJ (q.own 0 _ Z).2).ptr).ad (D.g 0 Z) zCr sizeOf30 (by decide) Z)<|rp (fun V Q U O D=>zBX ((O.rdo 0 _ Z Z).2.2 _ (.head _)) (D.g 0 Z) isAgg30 sizeOf30)<|rp (fun V Q U O D=>(zA7 (O.rd 1 _ Z Z) ((O.old 13 Z).trans h13) (Fld.id _) Z isAgg60 sizeOf60))<|rp (fun V Q U O D=>zCj [_] (E:=zA1) ⟨(D.g 0 Z),N⟩ underlying30 sizeOf60 zeroValue60 Z Z Z O.av)<|rc (zQ9 0 _ _ Z Z Z Z Z fun V Q U O D u S X I Y J L M=>by have a0:Q 81=h134:=D.g 0 Z;have a1:Rep (eSl zA1) V U (Q 83) ([((gtD p1 p2).1,(gtD p1 p2).2.1,x101.1,x109.1)]:List zA4):=D.g 1 Z;have e0:=(J _ Z).1;rw [e0] at I ⊢;exact zF0 (((zAJ I.2).ptr).snd Z) (I.2.2 _ (.head _)) a0 Y I.1 (fun k hk=>.inl (Nat.le_trans (Nat.le_trans j.size O.ch.size) hk)) (fun k hk=>SP.lt _ I.2 hk) a1 underlying30 zO2 e136)<|rp (fun V Q U O D=>zBT (zAJ (q.own 0 _ Z).2).ptr.ad (D.g 0 Z))<|rp (fun V Q U O D=>zAQ ((zAJ (q.own 0 _ Z).2).ptr).ad (D.g 0 Z) zCr sizeOf30 (by decide) Z)<|rc (zQ9 9 _ _ Z Z Z Z Z fun V Q U O D u S X I Y J L M=>by have a0:Q 86=(padd v4 1):=D.g 0 Z;exact zEy I.2 (L _ _ Z Z Z Z).symm a0 Y I.1 sizeOf30 (fun _ _ _ h=>h))<|rz
 intro done ρ σ A R w y s
 replace h4:=k1 s.rg h4
 obtain ⟨u137,e_u137⟩:∃ u,ρ 12=u:=⟨_,Z⟩
 have z138:=s.inivR 1 Z
 obtain ⟨S139,eS_v4⟩:∃ S,σ 12=S:=⟨_,Z⟩
 replace B:=s.lowK B C K (q.geK (⟨fun _ h=>h,⟨.inl Z,N⟩⟩))
 replace j:Ch S0 w0 w:=j.tr s.ch (q.geK (⟨fun _ h=>h,⟨.inl Z,N⟩⟩))
 replace q:=s.left y [(12,⟨u137,S139,.gen (fun k=>w0.heap.size<=k\/S0 k) (fixP v4 (trP (oPt 32 (oPr (oRd (eInt .i64)) (oSl 60 (oRd zA1)))) (x109.2.1,(x109.2.2++([((gtD p1 p2).1,(gtD p1 p2).2.1,x101.1,x109.1)]:List zA4))) []))⟩)] ⟨Z,Z,e_u137,eS_v4,Z,N⟩
 replace d:=s.avok
 replace q:IniOK [⟨v4,S139,trR (fun k=>w0.heap.size<=k\/S0 k) (oPt 32 (oPr (oRd (eInt .i64)) (oSl 60 (oRd zA1)))) (x109.2.1,(x109.2.2++([((gtD p1 p2).1,(gtD p1 p2).2.1,x101.1,x109.1)]:List zA4))) []⟩] A w:=q.refix 0 Z
 obtain ⟨Yg139,g_Yg139⟩:∃ z:zAG,z=(x109.2.1,(x109.2.2++([((gtD p1 p2).1,(gtD p1 p2).2.1,x101.1,x109.1)]:List zA4))):=⟨_,Z⟩
 rw [<- g_Yg139] at q
 try rw [<- g_Yg139] at c
 refine zQ0 ?_
 obtain ⟨h141,p_h141⟩:=((((zAJ (q.own 0 _ Z).2).ptr).snd Z)).open1 Z
 replace q:IniOK [⟨v4,S139,trR (fun k=>w0.heap.size<=k\/S0 k) (oPt 32 (oPr (oRd (eInt .i64)) (oSl 60 (oRd zA1)))) Yg139 [((padd v4 1),[h141])]⟩] A w:=q.repin 0 Z (trP.pin p_h141)
 obtain ⟨e143,c⟩:=zAC c
 refine zQ3 (eR v4::eR v4::eR (padd v4 1)::eR h141::eI (Yg139.2.length:Int)::eI ((Yg139.2.length:Int)+1)::eI ((Yg139.2.length:Int)+1)::[]) ?_ ?_
 exact om h4<|op (fun Q U W H D=>zBT (zAJ (q.own 0 _ Z).2).ptr.ad (D.g 0 Z))<|op (fun Q U W H D=>zAQ ((zAJ (q.own 0 _ Z).2).ptr).ad (D.g 0 Z) zCr sizeOf30 (by decide) Z)<|op (fun Q U W H D=>zBX (((q.fr W).own 0 _ Z).2.2 _ (.head _)) (D.g 0 Z) isAgg30 sizeOf30)<|op (fun Q U W H D=>zGE (((((zAJ (q.own 0 _ Z).2).ptr).snd Z)).pin ((q.own 0 _ Z).2.2 _ (.head _)) Z) (D.g 0 Z) underlying30)<|op (fun Q U W H D=>zAi (D.g 0 Z) Z e143)<|oa<|oz
 intro R w m n p
 have h10:=p.r 6 Z
 replace q:=q.fr m
 replace d:=d.fr m.size
 replace j:=j.tr (m.ch noB) fun _ h=>False.elim h
 replace q:IniOK [⟨v4,S139,trR (fun k=>w0.heap.size<=k\/S0 k) (oPt 32 (oPr (oRd (eInt .i64)) (oSl 60 (oRd zA1)))) Yg139 []⟩] A w:=q.repin 0 Z trP.nopin
 refine HT.ret ?_
 obtain rfl:=si c
 exact ⟨.inr Z,[R 10],⟨Z,N⟩,h10,zEl Z (q.own 0 _ Z) (q.ok 0 _ Z).2 B j⟩
theorem zHD {q : Nat} {fu : Nat} {A0 : Av} {p0 : zAD} {p1 : List zAA} {p2 : Int} {p3 : Int} {p4 : zAG} {r : Int × zAG} (c : zC5 q fu p0 p1 p2 p3 p4 = some r) {w : World} {v0 : Value} {v1 : Value} {v2 : Value} {v3 : Value} {v4 : Value} {S0 : Nat -> Prop} (d : AvOK A0 w) (K : ∀ b o, A0 b o -> ¬ S0 b) (h0 : Rep zA2 (addS A0 S0) w v0 p0) (h1 : Rep (eSl zA0) (addS A0 S0) w v1 p1) (h2 : v2=.int .i64 p2) (h3 : v3=.int .i64 p3) (h4 : (trP (oPt 32 (oPr (oRd (eInt .i64)) (oSl 60 (oRd zA1)))) p4 []).P (addS A0 S0) w S0 v4) :
 Calls prog 28 #[v0,v1,v2,v3,v4] w fun e w'=>∃ v,e=.returned v/\(v=.int .i64 r.1/\Gave (oPt 32 (oPr (oRd (eInt .i64)) (oSl 60 (oRd zA1)))) A0 S0 w v4 r.2 w'):=zGp q c d K h0 h1 h2 h3 h4
def zC4 (fu:Nat) (p0:zAD):Option (zAG × Bool):=
 cl true (zC8 fu p0) fun x4=>
 bif (!x4) then (
 some ((0,([]:List zA4)),false)
 ) else (
 cl true (zBo fu p0) fun x16=>
 cl true (zC5 fu fu p0 x16 0 0 (0,([]:List zA4))) fun x18=>
 some ((x18.1,x18.2.2),true)
 )
set_option linter.unusedSimpArgs false in
theorem zEn {fu : Nat} {A0 : Av} {p0 : zAD} {r : zAG × Bool} (c : zC4 fu p0 = some r) {w : World} {v0 : Value} (d : AvOK A0 w) (h0 : Rep zA2 A0 w v0 p0) :
 Calls prog 7 #[v0] w fun e w'=>∃ v,e=.returned v/\(∃ (u0:Value) (S0:Nat->Prop) (A1:Av),GPost A0 (fun _=>False) w [⟨u0,S0,trR (geB w.heap.size) (oPr (oRd (eInt .i64)) (oSl 60 (oRd zA1))) r.1 []⟩] A1 w'/\(Fact.tup2 (.raw u0) (.raw (.bool r.2))).ok v w'):=by
 unfold zC4 at c
 obtain ⟨w0,hw0,j,C⟩:=pw d
 have hA00:AvOK A0 w0:=C
 rw [show GPost A0 (fun _=>False) w=GPost A0 (fun _=>False) w0 from by rw [hw0]]
 rw [show w.heap.size=w0.heap.size from by rw [hw0]]
 obtain ⟨A,hAe,B,d,q⟩:=pa d
 refine zAE [.cell 2 32,.tmp 3] func7 ntmps7 (by decide) Z Z (nb Z) ?_
 intro R hR
 have f_v0:Rep zA2 A w v0 p0:=hAe ▸ h0
 replace h0:R 0=v0:=hR 0 _ Z
 refine zQ2 [] (⟨_,true,[],some (.box w0.heap.size 26 zA2 p0),true,fun A=>.any⟩::⟨_,true,[],some (trR (geB w0.heap.size) (oPt 32 (oPr (oRd (eInt .i64)) (oSl 60 (oRd zA1)))) (0,([]:List zA4)) []),true,fun A=>.any⟩::rB false::[]) (ua (ua (ur (UAll.nil)))) q d ?_ ?_
 exact rc (OblR.made _ Z Z Z Z fun V Q U O D=>by have a0:Q 0=v0:=(O.old 0 Z).trans h0;have ra0:=(f_v0.stp O.stp).eq a0;exact zAx ra0 (Nat.le_trans j.size O.ch.size))<|rc (zQ6 _ Z Z Z Z fun V Q U O D=>by exact zCp zeroValue32 (fun A w=>zI7 (zGj zAP) zDF) (fun k hk=>Nat.le_trans (Nat.le_trans j.size O.ch.size) hk))<|rp (fun V Q U O D=>zA9 Z)<|rz
 intro done ρ σ A R w y s
 obtain ⟨b1_0,e_b1_0⟩:=s.boxv y 0 Z Z
 have h1:=s.ov y 0 0 e_b1_0
 obtain ⟨u2,e_u2⟩:∃ u,ρ 1=u:=⟨_,Z⟩
 have h2:=s.ov y 1 1 e_u2
 obtain ⟨S3,eS_u2⟩:∃ S,σ 1=S:=⟨_,Z⟩
 obtain ⟨B,j,d⟩:=s.s B C j q N
 replace q:=s.left y [(0,ob (.pointer (some ⟨b1_0,0,none⟩)) (.box w0.heap.size 26 zA2 p0)),(1,⟨u2,S3,trR (geB w0.heap.size) (oPt 32 (oPr (oRd (eInt .i64)) (oSl 60 (oRd zA1)))) (0,([]:List zA4)) []⟩)] ⟨Z,Z,e_b1_0,Z,Z,⟨Z,Z,e_u2,eS_u2,Z,N⟩⟩
 refine zQ0 ?_
 obtain ⟨x4,q5,c⟩:=zAB c
 refine zQ1 d j (eF (.rep zA2 A p0)::eB x4::eB (!x4)::[]) ?_ ?_
 exact op (fun Q U W H D=>(zA7 ((q.fr W).ok 0 _ Z).1 ((H 1 Z).trans h1) (Fld.id _) Z isAgg26 sizeOf26))<|op (fun Q U W H D=>zAN call27 (zDT (q5 Z) (d.fr W.size) (D.g 0 Z)))<|op (fun Q U W H D=>zCM (D.g 0 Z))<|oz
 intro R w m n p d j
 obtain ⟨h1,h2⟩:=k2 n h1 h2
 have h7:=p.r 2 Z
 replace q:=q.fr m
 refine zPt (!x4) h7 (fun c6=>?_) (fun c6=>?_)
 have c:=zAh c6 c
 refine zQ2 [ob (.pointer (some ⟨b1_0,0,none⟩)) (.box w0.heap.size 26 zA2 p0),⟨u2,S3,trR (geB w0.heap.size) (oPt 32 (oPr (oRd (eInt .i64)) (oSl 60 (oRd zA1)))) (0,([]:List zA4)) []⟩] (⟨_,true,[],some (trR (geB w0.heap.size) (oPr (oRd (eInt .i64)) (oSl 60 (oRd zA1))) (0,([]:List zA4)) []),true,fun A=>.any⟩::⟨_,true,[1,2],some (trR (geB w0.heap.size) (oPt 32 (oPr (oRd (eInt .i64)) (oSl 60 (oRd zA1)))) (0,([]:List zA4)) []),false,fun A=>.any⟩::rB false::[]) (ua (ua (ur (UAll.nil)))) q d ?_ ?_
 exact rc (zQ6 _ Z Z Z Z fun V Q U O D=>by exact zEL (v:=.agg #[.int .i64 0,.slice none 0 0]) (by simp [execOp,Instr.build,zAM,underlying,underlying32,zeroValue32,sizeOf3,sizeOf30,go_sem,Instr.fill]) ⟨⟨_,Z,zI7 (zGj zAP) zDF⟩,fun q hq=>by cases hq⟩ (fun k hk=>Nat.le_trans (Nat.le_trans j.size O.ch.size) hk))<|rc (zQ7 1 [2] _ Z Z Z Z fun V Q U O D ρ σ X Y J L M hdd=>by have a0:Q 2=u2:=(O.old 2 Z).trans h2;have k1:=X 1 (.head _) _ Z;have e0:=(J 1 (.head _) _ Z).1;rw [e0] at k1 ⊢;exact zCz Z (zAJ k1.2.2).ptr (X 2 (.tail _ (.head _)) _ Z).2.2.1 (L 2 (.tail _ (.head _)) _ _ Z Z Z Z).symm a0 Y hdd k1.2.1 (X 2 (.tail _ (.head _)) _ Z).2.1 sizeOf32 (fun _ _ _ h=>h))<|rp (fun V Q U O D=>zA9 Z)<|rz
 intro done ρ σ A R w y s
 replace h2:=k1 s.rg h2
 have z7:=s.inivR 0 Z
 have z8:=s.inivR 1 Z
 have z9:=s.on y 3 1 Z Z Z Z Z z8
 obtain ⟨S10,eS_u2⟩:∃ S,σ 3=S:=⟨_,Z⟩
 have h3:=s.r y 2 Z
 obtain ⟨B,j,d⟩:=s.s B C j q ⟨Z,⟨fun _ h=>h,N⟩⟩
 replace q:=s.left y [(3,⟨u2,S10,trR (geB w0.heap.size) (oPt 32 (oPr (oRd (eInt .i64)) (oSl 60 (oRd zA1)))) (0,([]:List zA4)) []⟩)] ⟨Z,Z,z9,eS_u2,Z,N⟩
 refine HT.ret ?_
 obtain rfl:=si c
 obtain ⟨v_2,S_2,e_2,q⟩:=q.unbox 0 Z h2 isAgg32 sizeOf32
 obtain ⟨A1,hA1,hG1⟩:=GPost.of q d B (fun k hk=>.inl (q.ge (⟨fun _ h=>h,N⟩) k hk)) (j.ch (fun _=>False))
 exact ⟨.inr Z,[v_2,R 3],⟨e_2,⟨Z,N⟩⟩,v_2,S_2,A1,hG1,⟨_,_,Z,Z,h3⟩⟩
 have c:=zAg c6 c
 refine HT.skip<|zQ2 [ob (.pointer (some ⟨b1_0,0,none⟩)) (.box w0.heap.size 26 zA2 p0),⟨u2,S3,trR (geB w0.heap.size) (oPt 32 (oPr (oRd (eInt .i64)) (oSl 60 (oRd zA1)))) (0,([]:List zA4)) []⟩] (⟨_,true,[],some (trR (geB w0.heap.size) (oPr (oRd (eInt .i64)) (oSl 60 (oRd zA1))) (0,([]:List zA4)) []),true,fun A=>.any⟩::⟨_,true,[],some (trR (geB w0.heap.size) (oPt 32 (oPr (oRd (eInt .i64)) (oSl 60 (oRd zA1)))) (0,([]:List zA4)) []),true,fun A=>.any⟩::⟨_,true,[3,2],some (trR (geB w0.heap.size) (oPt 32 (oPr (oRd (eInt .i64)) (oSl 60 (oRd zA1)))) (0,([]:List zA4)) []),false,fun A=>.any⟩::[]) (ua (ua (ua (UAll.nil)))) q d ?_ ?_
 exact rc (zQ6 _ Z Z Z Z fun V Q U O D=>by exact zEL (v:=.agg #[.int .i64 0,.slice none 0 0]) (by simp [execOp,Instr.build,zAM,underlying,underlying32,zeroValue32,sizeOf3,sizeOf30,go_sem,Instr.fill]) ⟨⟨_,Z,zI7 (zGj zAP) zDF⟩,fun q hq=>by cases hq⟩ (fun k hk=>Nat.le_trans (Nat.le_trans j.size O.ch.size) hk))<|rc (zQ6 _ Z Z Z Z fun V Q U O D=>by exact zCp zeroValue32 (fun A w=>zI7 (zGj zAP) zDF) (fun k hk=>Nat.le_trans (Nat.le_trans j.size O.ch.size) hk))<|rc (zQ7 3 [2] _ Z Z Z Z fun V Q U O D ρ σ X Y J L M hdd=>by have k1:=X 3 (.head _) _ Z;exact zCz Z (zAJ k1.2.2).ptr (X 2 (.tail _ (.head _)) _ Z).2.2.1 (L 2 (.tail _ (.head _)) _ _ Z Z Z Z).symm (L 3 (.head _) _ _ Z Z Z Z).symm Y hdd k1.2.1 (X 2 (.tail _ (.head _)) _ Z).2.1 sizeOf32 (fun _ _ _ h=>h))<|rz
 intro done ρ σ A R w y s
 obtain ⟨h1,h2⟩:=k2 s.rg h1 h2
 have z11:=s.inivR 0 Z
 have z12:=s.inivR 1 Z
 obtain ⟨u13,e_u13⟩:∃ u,ρ 4=u:=⟨_,Z⟩
 have z14:=(s.opnR y 4 2 Z Z Z Z Z).symm.trans e_u13
 have h4:=s.ov y 3 1 z14
 have eS_u2:=s.inisR 1 Z
 obtain ⟨S15,eS_u13⟩:∃ S,σ 4=S:=⟨_,Z⟩
 obtain ⟨B,j,d⟩:=s.s B C j q ⟨Z,⟨fun _ h=>h,N⟩⟩
 replace q:=s.left y [(0,ob (.pointer (some ⟨b1_0,0,none⟩)) (.box w0.heap.size 26 zA2 p0)),(1,⟨u2,S3,trR (geB w0.heap.size) (oPt 32 (oPr (oRd (eInt .i64)) (oSl 60 (oRd zA1)))) (0,([]:List zA4)) []⟩),(4,⟨u13,S15,trR (geB w0.heap.size) (oPt 32 (oPr (oRd (eInt .i64)) (oSl 60 (oRd zA1)))) (0,([]:List zA4)) []⟩)] ⟨Z,Z,z11,Z,Z,⟨Z,Z,z12,eS_u2,Z,⟨Z,Z,e_u13,eS_u13,Z,N⟩⟩⟩
 refine zQ0 ?_
 obtain ⟨x16,q17,c⟩:=zAB c
 obtain ⟨x18,q19,c⟩:=zAB c
 refine zPx [ob (.pointer (some ⟨b1_0,0,none⟩)) (.box w0.heap.size 26 zA2 p0),⟨u2,S3,trR (geB w0.heap.size) (oPt 32 (oPr (oRd (eInt .i64)) (oSl 60 (oRd zA1)))) (0,([]:List zA4)) []⟩,⟨u13,S15,trR (geB w0.heap.size) (oPt 32 (oPr (oRd (eInt .i64)) (oSl 60 (oRd zA1)))) (0,([]:List zA4)) []⟩] ((rF fun A=>.rep zA2 A p0)::(rF fun A=>.rep zA2 A p0)::(rF fun A=>.rep (eSl zA0) A x16)::⟨_,true,[2],some (trR (geB w0.heap.size) (oPt 32 (oPr (oRd (eInt .i64)) (oSl 60 (oRd zA1)))) x18.2 []),false,fun A=>.raw (.int .i64 x18.1)⟩::rR u13::⟨_,true,[6],some (trR (geB w0.heap.size) (oPt 32 (oPr (oRd (eInt .i64)) (oSl 60 (oRd zA1)))) (x18.1,x18.2.2) []),false,fun A=>.any⟩::[]) (by kernel_rfl) (by kernel_rfl) (by kernel_rfl) (Wf.mk' (by kernel_rfl) (up (up (up (ur (ur (ua (UAll.nil))))))) (by kernel_rfl) (by kernel_rfl)) q d ?_ ?_
 exact rp (fun V Q U O D=>(zA7 (O.rd 0 _ Z Z) ((O.old 1 Z).trans h1) (Fld.id _) Z isAgg26 sizeOf26))<|rp (fun V Q U O D=>(zA7 (O.rd 0 _ Z Z) ((O.old 1 Z).trans h1) (Fld.id _) Z isAgg26 sizeOf26))<|rp (fun V Q U O D=>zAN call29 (zFK (q17 Z) O.av (D.g 0 Z)))<|rc (zQ9 2 _ _ Z Z Z Z Z fun V Q U O D u S X I Y J L M=>by have a0:Rep zA2 V U (Q 10) p0:=D.g 0 Z;have a1:Rep (eSl zA0) V U (Q 12) x16:=D.g 1 Z;have a4:Q 4=u13:=(O.old 4 Z).trans h4;have e0:=(J _ Z).1;rw [e0] at I ⊢;have hu0:zAM Q (.tmp 4)=u13:=a4;exact zFB call28 (zAJ I.2) Y I.1 (fun k hk=>Nat.le_trans (Nat.le_trans j.size O.ch.size) hk) (fun k hk=>SP.lt _ I.2 hk) (fun S1 hS1 hP=>by simp only [List.map,hu0];exact zHD (q19 Z) (O.av.subS _) (fun b o h=>h.2) (a0.less fun b o h=>h.elim (fun h=>h.1) fun h=>Y b (hS1 b h) o) (a1.less fun b o h=>h.elim (fun h=>h.1) fun h=>Y b (hS1 b h) o) Z Z hP) (fun _ _ _ h=>h))<|rp (fun V Q U O D=>zAQ ((zAJ (q.own 2 _ Z).2).ptr).ad ((O.old 4 Z).trans h4) zFc sizeOf3 (by decide) (zCc ((zAJ (q.own 2 _ Z).2).ptr).ad))<|rc (zQ8 6 _ _ Z Z Z Z Z fun V Q U O D u S X I Y J L M hrt=>by have a0:Q 14=u13:=D.g 0 Z;have a1:Q 13=.int .i64 x18.1:=D.g 1 Z;have e0:=hrt 7 2 _ Z Z;rw [e0] at I ⊢;exact zEp ((zAJ I.2).ptr).fst (zBZ.eq a1) a0 Y I.1 sizeOf3 (fun _ _ _ h=>h))<|rz
 intro done ρ σ A R w y s
 obtain ⟨h2,h4⟩:=k2 s.rg h2 h4
 have z20:=s.inivR 0 Z
 have z21:=s.inivR 1 Z
 have z22:=s.inivR 2 Z
 have z23:=s.on y 6 3 Z Z Z Z Z z22
 have z24:=s.on y 8 5 Z Z Z Z Z z23
 have eS_u2:=s.inisR 1 Z
 obtain ⟨S25,eS_u13⟩:∃ S,σ 8=S:=⟨_,Z⟩
 obtain ⟨B,j,d⟩:=s.s B C j q ⟨Z,⟨fun _ h=>h,⟨fun _ h=>h,N⟩⟩⟩
 replace q:=s.left y [(1,⟨u2,S3,trR (geB w0.heap.size) (oPt 32 (oPr (oRd (eInt .i64)) (oSl 60 (oRd zA1)))) (0,([]:List zA4)) []⟩),(8,⟨u13,S25,trR (geB w0.heap.size) (oPt 32 (oPr (oRd (eInt .i64)) (oSl 60 (oRd zA1)))) (x18.1,x18.2.2) []⟩)] ⟨Z,Z,z21,eS_u2,Z,⟨Z,Z,z24,eS_u13,Z,N⟩⟩
 refine zQ2 [⟨u2,S3,trR (geB w0.heap.size) (oPt 32 (oPr (oRd (eInt .i64)) (oSl 60 (oRd zA1)))) (0,([]:List zA4)) []⟩,⟨u13,S25,trR (geB w0.heap.size) (oPt 32 (oPr (oRd (eInt .i64)) (oSl 60 (oRd zA1)))) (x18.1,x18.2.2) []⟩] (⟨_,true,[1],some (trR (geB w0.heap.size) (oPr (oRd (eInt .i64)) (oSl 60 (oRd zA1))) (x18.1,x18.2.2) []),true,fun A=>.any⟩::⟨_,true,[0,2],some (trR (geB w0.heap.size) (oPt 32 (oPr (oRd (eInt .i64)) (oSl 60 (oRd zA1)))) (x18.1,x18.2.2) []),false,fun A=>.any⟩::rB true::[]) (ua (ua (ur (UAll.nil)))) q d ?_ ?_
 exact rc (zQ9 1 _ _ Z Z Z Z Z fun V Q U O D u S X I Y J L M=>by have a0:Q 4=u13:=(O.old 4 Z).trans h4;exact zFj I.2 (a0.trans (J _ Z).1.symm) Y I.1 isAgg32 sizeOf32)<|rc (zQ7 0 [2] _ Z Z Z Z fun V Q U O D ρ σ X Y J L M hdd=>by have a0:Q 2=u2:=(O.old 2 Z).trans h2;have k1:=X 0 (.head _) _ Z;have e0:=(J 0 (.head _) _ Z).1;rw [e0] at k1 ⊢;exact zCz Z (zAJ k1.2.2).ptr (X 2 (.tail _ (.head _)) _ Z).2.2.1 (L 2 (.tail _ (.head _)) _ _ Z Z Z Z).symm a0 Y hdd k1.2.1 (X 2 (.tail _ (.head _)) _ Z).2.1 sizeOf32 (fun _ _ _ h=>h))<|rp (fun V Q U O D=>zA9 Z)<|rz
 intro done ρ σ A R w y s
 replace h2:=k1 s.rg h2
 have z26:=s.inivR 0 Z
 have z27:=s.on y 3 1 Z Z Z Z Z z26
 obtain ⟨S28,eS_u2⟩:∃ S,σ 3=S:=⟨_,Z⟩
 have h3:=s.r y 2 Z
 obtain ⟨B,j,d⟩:=s.s B C j q ⟨fun _ h=>h,⟨fun _ h=>h,N⟩⟩
 replace q:=s.left y [(3,⟨u2,S28,trR (geB w0.heap.size) (oPt 32 (oPr (oRd (eInt .i64)) (oSl 60 (oRd zA1)))) (x18.1,x18.2.2) []⟩)] ⟨Z,Z,z27,eS_u2,Z,N⟩
 refine HT.ret ?_
 obtain rfl:=si c
 obtain ⟨v_2,S_2,e_2,q⟩:=q.unbox 0 Z h2 isAgg32 sizeOf32
 obtain ⟨A1,hA1,hG1⟩:=GPost.of q d B (fun k hk=>.inl (q.ge (⟨fun _ h=>h,N⟩) k hk)) (j.ch (fun _=>False))
 exact ⟨.inr Z,[v_2,R 3],⟨e_2,⟨Z,N⟩⟩,v_2,S_2,A1,hG1,⟨_,_,Z,Z,h3⟩⟩
theorem zG2 {fu : Nat} {A0 : Av} {p0 : zAD} {r : zAG × Bool} (c : zC4 fu p0 = some r) {w : World} {v0 : Value} (d : AvOK A0 w) (h0 : Rep zA2 A0 w v0 p0) :
 Calls prog 7 #[v0] w fun e w'=>∃ v,e=.returned v/\((∃ a b,v=.tuple #[a,b]/\Rep zA5 A0 w' a r.1/\b=.bool r.2)/\Fr w w'):=by
 refine Calls.mono (zEn c d h0) ?_
 rintro e w' ⟨v,he,u0,S0,A1,hG,a0,a1,hv,e0,e1⟩
 exact ⟨v,he,⟨a0,a1,hv,(zKx (hG.ini.own 0 _ Z).2 hG.low (fun k o hk ha=>Nat.not_lt.2 ((hG.ini.own 0 _ Z).1 k hk) (d k o ha))).eq e0,e1⟩,hG.ch.no⟩
def zAS (fu : Nat) (p0 : List zA4) (p1 : List zA4) : Nat -> Int -> Option (Ex Bool Unit)
 | 0,_=>none
 | k+1,y5=>
 bif (decide (y5<(p0.length:Int))) then (
 ck (inR y5 p0.length) <|
 ck (inR y5 p1.length) <|
 bif (!((gtD p0 y5)==(gtD p1 y5))) then (
 some (Ex.ret false)
 ) else (
 ck (i64B (y5+1)) <|
 zAS fu p0 p1 k (y5+1)
 )
 ) else (
 some (Ex.go ())
 )
def zAm (fu:Nat) (p0:List zA4) (p1:List zA4):Option Bool:=
 bif ((p0.length:Int) != (p1.length:Int)) then (
 some false
 ) else (
 cl true (zAS fu p0 p1 fu 0) fun rl2=>
 exM rl2 (fun r=>some r) fun s4=>
 some true
 )
theorem zDN {fu : Nat} {A : Av} {p0 : List zA4} {p1 : List zA4} {r : Bool} (c : zAm fu p0 p1 = some r) {w : World} {v0 : Value} {v1 : Value} (d : AvOK A w) (h0 : Rep (eSl zA1) A w v0 p0) (h1 : Rep (eSl zA1) A w v1 p1) :
 Calls prog 30 #[v0,v1] w fun e w'=>∃ v,e=.returned v/\(v=.bool r/\Fr w w'):=by
 unfold zAm at c
 obtain ⟨w0,hw0,j⟩:=pf w
 rw [fw hw0]
 refine zAE [.tmp 4] func30 ntmps30 (by decide) Z Z (nb Z) ?_
 intro R hR
 have f_v0:=h0
 replace h0:R 0=v0:=hR 0 _ Z
 have f_v1:=h1
 replace h1:R 1=v1:=hR 1 _ Z
 refine zQ1 d j (eB false::[]) ?_ ?_
 exact op (fun Q U W H D=>zA9 Z)<|oz
 intro R w m n p d j
 obtain ⟨h0,h1⟩:=k2 n h0 h1
 replace f_v0:=f_v0.fr m
 replace f_v1:=f_v1.fr m
 refine zQ0 ?_
 refine zQ1 d j (eR v0::eI (p0.length:Int)::eR v1::eI (p1.length:Int)::eB ((p0.length:Int) != (p1.length:Int))::[]) ?_ ?_
 exact om h0<|op (fun Q U W H D=>zAY (aT:=#[]) ((f_v0.fr W).eq (D.g 0 Z)) underlying30)<|om h1<|op (fun Q U W H D=>zAY (aT:=#[]) ((f_v1.fr W).eq (D.g 0 Z)) underlying30)<|op (fun Q U W H D=>zIn (D.g 0 Z) (D.g 1 Z))<|oz
 intro R w m n p d j
 obtain ⟨h0,h1⟩:=k2 n h0 h1
 have h10:=p.r 4 Z
 replace f_v0:=f_v0.fr m
 replace f_v1:=f_v1.fr m
 refine zPt ((p0.length:Int) != (p1.length:Int)) h10 (fun c1=>?_) (fun c1=>?_)
 have c:=zAh c1 c
 refine zQ1 d j (eB false::[]) ?_ ?_
 exact op (fun Q U W H D=>zA9 Z)<|oz
 intro R w m n p d j
 have h4:=p.r 0 Z
 refine HT.ret ?_
 obtain rfl:=si c
 exact ⟨.inr Z,[R 4],⟨Z,N⟩,h4,j⟩
 have c:=zAg c1 c
 refine HT.skip<|zQ0 ?_
 refine zQ1 d j (eR v0::eI (p0.length:Int)::eI 0::[]) ?_ ?_
 exact om h0<|op (fun Q U W H D=>zAY (aT:=#[]) ((f_v0.fr W).eq (D.g 0 Z)) underlying30)<|op (fun Q U W H D=>zBd Z)<|oz
 intro R w m n p d j
 obtain ⟨h0,h1⟩:=k2 n h0 h1
 have h12:=p.r 1 Z
 have h13:=p.r 2 Z
 replace f_v0:=f_v0.fr m
 replace f_v1:=f_v1.fr m
 obtain ⟨rl2,q3,c⟩:=zAB c
 replace q3:=q3 Z
 refine zPv (fun R w=>∃ (s4:Unit),rl2=Ex.go s4/\AvOK A w/\Fr w0 w) ?_ ?_
 refine HT.block<|zPz (fun k R w=>∃ (y5:Int),zAS fu p0 p1 k y5=some rl2/\AvOK A w/\Fr w0 w/\R 0=v0/\R 1=v1/\R 12=.int .i64 (p0.length:Int)/\R 13=.int .i64 y5/\Rep (eSl zA1) A w v0 p0/\Rep (eSl zA1) A w v1 p1) fu ⟨_,q3,d,j,h0,h1,h12,h13,f_v0,f_v1⟩ ?_
 have hr0:=c;clear c q3
 rintro k R w ⟨y5,c,d,j,h0,h1,h12,h13,f_v0,f_v1⟩
 rcases k with _ | k
 cases (show none=some _ from c)
 rw [zAS] at c
 refine zQ1 d j (eB (decide (y5<(p0.length:Int)))::[]) ?_ ?_
 exact op (fun Q U W H D=>zBS ((H 13 Z).trans h13) ((H 12 Z).trans h12))<|oz
 intro R w m n p d j
 obtain ⟨h0,h1,h12,h13⟩:=k4 n h0 h1 h12 h13
 have h14:=p.r 0 Z
 replace f_v0:=f_v0.fr m
 replace f_v1:=f_v1.fr m
 refine zQ0 ?_
 refine zPt (decide (y5<(p0.length:Int))) h14 (fun c6=>?_) (fun c6=>?_)
 have c:=zAh c6 c
 refine HT.skip<|zQ0 ?_
 refine HT.block<|zQ1 d j (eI y5::eI y5::[]) ?_ ?_
 exact om h13<|oa<|oz
 intro R w m n p d j
 obtain ⟨h0,h1,h12,h13⟩:=k4 n h0 h1 h12 h13
 have h5:=p.r 1 Z
 replace f_v0:=f_v0.fr m
 replace f_v1:=f_v1.fr m
 refine zQ0 ?_
 obtain ⟨e7,e8,c⟩:=ck2 c
 refine zPw (by kernel_rfl) (l:=eR v0::eI y5::eF (.qtr zA1 A (gtD p0 y5))::eF (.rep zA1 A (gtD p0 y5))::eR v1::eI y5::eF (.qtr zA1 A (gtD p1 y5))::eF (.rep zA1 A (gtD p1 y5))::eB (!((gtD p0 y5)==(gtD p1 y5)))::[]) (tl:=[]) (by kernel_rfl) (by kernel_rfl) (by kernel_rfl) (by kernel_rfl) ?_ ?_
 exact om h0<|om h5<|op (fun Q U W H D=>zAL ((f_v0.fr W).eq (D.g 0 Z)) (D.g 1 Z) underlying30 sizeOf60 e7)<|op (fun Q U W H D=>(zAb (QRep.ptr (D.g 0 Z)) isAgg60 sizeOf60))<|om h1<|om h5<|op (fun Q U W H D=>zAL ((f_v1.fr W).eq (D.g 0 Z)) (D.g 1 Z) underlying30 sizeOf60 e8)<|op (fun Q U W H D=>(zAb (QRep.ptr (D.g 0 Z)) isAgg60 sizeOf60))<|op (fun Q U W H D=>zHJ eqGuardType60 (zBx (D.g 0 Z)) (zBx (D.g 1 Z)) (zP9 (gtD p0 y5) (gtD p1 y5) _))<|oz
 intro R w m n p
 obtain ⟨h0,h1,h12,h13⟩:=k4 n h0 h1 h12 h13
 have h24:=p.r 8 Z
 replace f_v0:=f_v0.fr m
 replace f_v1:=f_v1.fr m
 replace d:=d.fr m.size
 replace j:=j.trans m
 refine zPt (!((gtD p0 y5)==(gtD p1 y5))) h24 (fun c9=>?_) (fun c9=>?_)
 have c:=zAh c9 c
 refine zQ1 d j (eB false::[]) ?_ ?_
 exact op (fun Q U W H D=>zA9 Z)<|oz
 intro R w m n p d j
 have h4:=p.r 0 Z
 refine HT.ret ?_
 obtain rfl:=si c
 have c:=hr0
 replace c:some _=some _:=c
 obtain rfl:=si c
 exact ⟨.inr Z,[R 4],⟨Z,N⟩,h4,j⟩
 have c:=zAg c9 c
 refine HT.skip ?_
 obtain ⟨e10,c⟩:=zAC c
 refine HT.u d j (eI (y5+1)::eI (y5+1)::[]) ?_ ?_
 exact op (fun Q U W H D=>zAi ((H 13 Z).trans h13) Z e10)<|ov<|oz
 intro R w m n p d j
 obtain ⟨h0,h1,h12⟩:=k3 n h0 h1 h12
 have h13:=p.r 1 Z
 replace f_v0:=f_v0.fr m
 replace f_v1:=f_v1.fr m
 exact ei k (And.intro (Nat.lt_succ_self k) ⟨_,c,d,j,h0,h1,h12,h13,f_v0,f_v1⟩)
 have c:=zAg c6 c
 refine zPy ?_
 obtain rfl:=si c
 exact ei _ ⟨Z,d,j⟩
 rintro R w ⟨s4,rfl,d,j⟩
 have c:=zEG c
 refine zQ1 d j (eB true::[]) ?_ ?_
 exact op (fun Q U W H D=>zA9 Z)<|oz
 intro R w m n p d j
 have h4:=p.r 0 Z
 refine HT.ret ?_
 obtain rfl:=si c
 exact ⟨.inr Z,[R 4],⟨Z,N⟩,h4,j⟩
def zDD (fu:Nat) (p0:zAG) (p1:zAG):Option Bool:=
 cl (true&&((p0.1==p1.1)==true)) (zAm fu p0.2 p1.2) fun x3=>
 bd ((p0.1==p1.1)&&x3) fun x5=>
 some x5
theorem zFt {fu : Nat} {A0 : Av} {p0 : zAG} {p1 : zAG} {r : Bool} (c : zDD fu p0 p1 = some r) {w : World} {v0 : Value} {v1 : Value} (d : AvOK A0 w) (h0 : Rep zA5 A0 w v0 p0) (h1 : Rep zA5 A0 w v1 p1) :
 Calls prog 8 #[v0,v1] w fun e w'=>∃ v,e=.returned v/\(v=.bool r/\Fr w w'):=by
 unfold zDD at c
 obtain ⟨w0,hw0,j,C⟩:=pw d
 have hA00:AvOK A0 w0:=C
 rw [fw hw0]
 obtain ⟨A,hAe,B,d,q⟩:=pa d
 refine zAE [.tmp 4] func8 ntmps8 (by decide) Z Z (nb Z) ?_
 intro R hR
 have f_v0:Rep zA5 A w v0 p0:=hAe ▸ h0
 replace h0:R 0=v0:=hR 0 _ Z
 have f_v1:Rep zA5 A w v1 p1:=hAe ▸ h1
 replace h1:R 1=v1:=hR 1 _ Z
 refine zQ2 [] (⟨_,true,[],some (.box w0.heap.size 32 zA5 p0),true,fun A=>.any⟩::⟨_,true,[],some (.box w0.heap.size 32 zA5 p1),true,fun A=>.any⟩::rB false::[]) (ua (ua (ur (UAll.nil)))) q d ?_ ?_
 exact rc (OblR.made _ Z Z Z Z fun V Q U O D=>by have a0:Q 0=v0:=(O.old 0 Z).trans h0;have ra0:=(f_v0.stp O.stp).eq a0;exact zAx ra0 (Nat.le_trans j.size O.ch.size))<|rc (OblR.made _ Z Z Z Z fun V Q U O D=>by have a0:Q 1=v1:=(O.old 1 Z).trans h1;have ra0:=(f_v1.stp O.stp).eq a0;exact zAx ra0 (Nat.le_trans j.size O.ch.size))<|rp (fun V Q U O D=>zA9 Z)<|rz
 intro done ρ σ A R w y s
 obtain ⟨b2_0,e_b2_0⟩:=s.boxv y 0 Z Z
 have h2:=s.ov y 0 0 e_b2_0
 obtain ⟨b3_1,e_b3_1⟩:=s.boxv y 1 Z Z
 have h3:=s.ov y 1 1 e_b3_1
 obtain ⟨B,j,d⟩:=s.s B C j q N
 replace q:=s.left y [(0,ob (.pointer (some ⟨b2_0,0,none⟩)) (.box w0.heap.size 32 zA5 p0)),(1,ob (.pointer (some ⟨b3_1,0,none⟩)) (.box w0.heap.size 32 zA5 p1))] ⟨Z,Z,e_b2_0,Z,Z,⟨Z,Z,e_b3_1,Z,Z,N⟩⟩
 refine zQ0 ?_
 obtain ⟨x3,q4,c⟩:=zAB c
 obtain ⟨x5,q6,c⟩:=zAf c
 refine HT.u d j (eR (.pointer (some ⟨b2_0,0,none⟩))::eI p0.1::eR (.pointer (some ⟨b3_1,0,none⟩))::eI p1.1::eB (p0.1==p1.1)::eB (p0.1==p1.1)::gR (true&&((p0.1==p1.1)==true)) (.pointer (some ⟨b2_0,1,none⟩))::gF (true&&((p0.1==p1.1)==true)) (.rep (eSl zA1) A p0.2)::gR (true&&((p0.1==p1.1)==true)) (.pointer (some ⟨b3_1,1,none⟩))::gF (true&&((p0.1==p1.1)==true)) (.rep (eSl zA1) A p1.2)::gB (true&&((p0.1==p1.1)==true)) x3::eB x5::eB x5::[]) ?_ ?_
 exact op (fun Q U W H D=>zA6 ((H 2 Z).trans h2) zFc sizeOf3 (by decide) Z)<|op (fun Q U W H D=>OpF.int (zA7 ((q.fr W).ok 0 _ Z).1 (D.g 0 Z) zCV Z isAgg3 sizeOf3))<|op (fun Q U W H D=>zA6 ((H 3 Z).trans h3) zFc sizeOf3 (by decide) Z)<|op (fun Q U W H D=>OpF.int (zA7 ((q.fr W).ok 1 _ Z).1 (D.g 0 Z) zCV Z isAgg3 sizeOf3))<|op (fun Q U W H D=>zDA (D.g 0 Z) (D.g 1 Z))<|ov<|og 5 true (fun G Q U W H D=>zA6 ((H 2 Z).trans h2) zCr sizeOf30 (by decide) Z)<|og 5 true (fun G Q U W H D=>(zA7 ((q.fr W).ok 0 _ Z).1 (D.h 0 G Z) zAc Z isAgg30 sizeOf30))<|og 5 true (fun G Q U W H D=>zA6 ((H 3 Z).trans h3) zCr sizeOf30 (by decide) Z)<|og 5 true (fun G Q U W H D=>(zA7 ((q.fr W).ok 1 _ Z).1 (D.h 0 G Z) zAc Z isAgg30 sizeOf30))<|og 5 true (fun G Q U W H D=>zAN call30 (zDN (q4 G) (d.fr W.size) (D.h 0 G Z) (D.h 1 G Z)))<|op (fun Q U W H D=>zAl (p0.1==p1.1) (D.g 0 Z) (fun hc=>by have a1:Q 15=.bool x3:=D 1 _ _ _ Z Z Z Z (zCH Z (zBA hc));show _=Value.bool x5;rw [q6,hc];exact a1) (fun hc=>by show _=Value.bool x5;rw [q6,hc];exact Z))<|oa<|oz
 intro R w m n p d j
 have h4:=p.r 12 Z
 replace q:=q.fr m
 replace q:IniOK [] A w:=q.sub [] N
 refine HT.ret ?_
 obtain rfl:=si c
 exact ⟨.inr Z,[R 4],⟨Z,N⟩,h4,j⟩
def zB6 (fu : Nat) (p0 : List Int) (p1 : Int -> Option Bool) : Nat -> Int -> Option (Ex Int Unit)
 | 0,_=>none
 | k+1,y4=>
 bif (decide (y4<(p0.length:Int))) then (
 ck (inR y4 p0.length) <|
 cl true (p1 (gtD p0 y4)) fun x7=>
 bif x7 then (
 some (Ex.ret y4)
 ) else (
 ck (i64B (y4+1)) <|
 zB6 fu p0 p1 k (y4+1)
 )
 ) else (
 some (Ex.go ())
 )
def zCk (fu:Nat) (p0:List Int) (p1:Int->Option Bool):Option Int:=
 cl true (zB6 fu p0 p1 fu 0) fun rl1=>
 exM rl1 (fun r=>some r) fun s3=>
 some (-1)
theorem zF4 {fu : Nat} {A : Av} {p0 : List Int} {p1 : Int -> Option Bool} {r : Int} (c : zCk fu p0 p1 = some r) {w : World} {v0 : Value} {v1 : Value} (d : AvOK A w) (h0 : Rep (eSl (eInt .i64)) A w v0 p0) (h1 : FnB1 prog (eInt .i64) (fun r => .raw (.bool r)) A w v1 p1) :
 Calls prog 84 #[v0,v1] w fun e w'=>∃ v,e=.returned v/\(v=.int .i64 r/\Fr w w'):=by
 unfold zCk at c
 obtain ⟨w0,hw0,j⟩:=pf w
 rw [fw hw0]
 have f_v1:FnB1 prog (eInt .i64) (fun r=>.raw (.bool r)) A w0 v1 p1:=hw0 ▸ h1
 refine zAE [.tmp 4] func84 ntmps84 (by decide) Z Z (nb Z) ?_
 intro R hR
 have f_v0:=h0
 replace h0:R 0=v0:=hR 0 _ Z
 replace h1:R 1=v1:=hR 1 _ Z
 refine zQ1 d j (eI 0::[]) ?_ ?_
 exact op (fun Q U W H D=>zA9 Z)<|oz
 intro R w m n p d j
 obtain ⟨h0,h1⟩:=k2 n h0 h1
 replace f_v0:=f_v0.fr m
 refine zQ0 ?_
 refine zQ1 d j (eR v0::eI (p0.length:Int)::eI 0::[]) ?_ ?_
 exact om h0<|op (fun Q U W H D=>zAY (aT:=#[]) ((f_v0.fr W).eq (D.g 0 Z)) underlying27)<|op (fun Q U W H D=>zBd Z)<|oz
 intro R w m n p d j
 obtain ⟨h0,h1⟩:=k2 n h0 h1
 have h7:=p.r 1 Z
 have h8:=p.r 2 Z
 replace f_v0:=f_v0.fr m
 obtain ⟨rl1,q2,c⟩:=zAB c
 replace q2:=q2 Z
 refine zPv (fun R w=>∃ (s3:Unit),rl1=Ex.go s3/\AvOK A w/\Fr w0 w) ?_ ?_
 refine HT.block<|zPz (fun k R w=>∃ (y4:Int),zB6 fu p0 p1 k y4=some rl1/\AvOK A w/\Fr w0 w/\R 0=v0/\R 1=v1/\R 7=.int .i64 (p0.length:Int)/\R 8=.int .i64 y4/\Rep (eSl (eInt .i64)) A w v0 p0) fu ⟨_,q2,d,j,h0,h1,h7,h8,f_v0⟩ ?_
 have hr0:=c;clear c q2
 rintro k R w ⟨y4,c,d,j,h0,h1,h7,h8,f_v0⟩
 rcases k with _ | k
 cases (show none=some _ from c)
 rw [zB6] at c
 refine zQ1 d j (eB (decide (y4<(p0.length:Int)))::[]) ?_ ?_
 exact op (fun Q U W H D=>zBS ((H 8 Z).trans h8) ((H 7 Z).trans h7))<|oz
 intro R w m n p d j
 obtain ⟨h0,h1,h7,h8⟩:=k4 n h0 h1 h7 h8
 have h9:=p.r 0 Z
 replace f_v0:=f_v0.fr m
 refine zQ0 ?_
 refine zPt (decide (y4<(p0.length:Int))) h9 (fun c5=>?_) (fun c5=>?_)
 have c:=zAh c5 c
 refine HT.skip<|zQ0 ?_
 refine HT.block<|zQ1 d j (eI y4::eI y4::[]) ?_ ?_
 exact om h8<|oa<|oz
 intro R w m n p d j
 obtain ⟨h0,h1,h7,h8⟩:=k4 n h0 h1 h7 h8
 have h5:=p.r 1 Z
 replace f_v0:=f_v0.fr m
 obtain ⟨e6,c⟩:=zAC c
 obtain ⟨x7,q8,c⟩:=zAB c
 refine zQ1 d j (eR v1::eR v0::eI y4::eF (.qtr (eInt .i64) A (gtD p0 y4))::eI (gtD p0 y4)::eB x7::[]) ?_ ?_
 exact om h1<|om h0<|om h5<|op (fun Q U W H D=>zAL ((f_v0.fr W).eq (D.g 0 Z)) (D.g 1 Z) underlying27 sizeOf3 e6)<|op (fun Q U W H D=>OpF.int (zAb (QRep.ptr (D.g 0 Z)) isAgg3 sizeOf3))<|op (fun Q U W H D=>zJI (D.g 0 Z) (f_v1 _ _ (q8 Z) _ _ ((j.trans W).ch _) (d.fr W.size) (zBZ.eq (D.g 1 Z))))<|oz
 intro R w m n p d j
 obtain ⟨h0,h1,h5,h7,h8⟩:=k5 n h0 h1 h5 h7 h8
 have h16:=p.r 5 Z
 replace f_v0:=f_v0.fr m
 refine zPt x7 h16 (fun c9=>?_) (fun c9=>?_)
 have c:=zAh c9 c
 refine zQ1 d j (eI y4::eI y4::[]) ?_ ?_
 exact om h5<|oa<|oz
 intro R w m n p d j
 have h4:=p.r 1 Z
 refine HT.ret ?_
 obtain rfl:=si c
 have c:=hr0
 replace c:some _=some _:=c
 obtain rfl:=si c
 exact ⟨.inr Z,[R 4],⟨Z,N⟩,h4,j⟩
 have c:=zAg c9 c
 refine HT.skip ?_
 obtain ⟨e10,c⟩:=zAC c
 refine HT.u d j (eI (y4+1)::eI (y4+1)::[]) ?_ ?_
 exact op (fun Q U W H D=>zAi ((H 8 Z).trans h8) Z e10)<|ov<|oz
 intro R w m n p d j
 obtain ⟨h0,h1,h7⟩:=k3 n h0 h1 h7
 have h8:=p.r 1 Z
 replace f_v0:=f_v0.fr m
 exact ei k (And.intro (Nat.lt_succ_self k) ⟨_,c,d,j,h0,h1,h7,h8,f_v0⟩)
 have c:=zAg c5 c
 refine zPy ?_
 obtain rfl:=si c
 exact ei _ ⟨Z,d,j⟩
 rintro R w ⟨s3,rfl,d,j⟩
 have c:=zEG c
 refine zQ1 d j (eI (-1)::[]) ?_ ?_
 exact op (fun Q U W H D=>zA9 Z)<|oz
 intro R w m n p d j
 have h4:=p.r 0 Z
 refine HT.ret ?_
 obtain rfl:=si c
 exact ⟨.inr Z,[R 4],⟨Z,N⟩,h4,j⟩
def zBs (fu:Nat) (p0:List Int) (p1:Int->Option Bool):Option Bool:=
 cl true (zCk fu p0 p1) fun x1=>
 some (decide (0<=x1))
theorem zEm {fu : Nat} {A : Av} {p0 : List Int} {p1 : Int -> Option Bool} {r : Bool} (c : zBs fu p0 p1 = some r) {w : World} {v0 : Value} {v1 : Value} (d : AvOK A w) (h0 : Rep (eSl (eInt .i64)) A w v0 p0) (h1 : FnB1 prog (eInt .i64) (fun r => .raw (.bool r)) A w v1 p1) :
 Calls prog 70 #[v0,v1] w fun e w'=>∃ v,e=.returned v/\(v=.bool r/\Fr w w'):=by
 unfold zBs at c
 obtain ⟨w0,hw0,j⟩:=pf w
 rw [fw hw0]
 have f_v1:FnB1 prog (eInt .i64) (fun r=>.raw (.bool r)) A w0 v1 p1:=hw0 ▸ h1
 refine zAE [.tmp 4] func70 ntmps70 (by decide) Z Z (nb Z) ?_
 intro R hR
 have f_v0:=h0
 replace h0:R 0=v0:=hR 0 _ Z
 replace h1:R 1=v1:=hR 1 _ Z
 refine zQ1 d j (eB false::[]) ?_ ?_
 exact op (fun Q U W H D=>zA9 Z)<|oz
 intro R w m n p d j
 obtain ⟨h0,h1⟩:=k2 n h0 h1
 replace f_v0:=f_v0.fr m
 obtain ⟨x1,q2,c⟩:=zAB c
 refine zQ1 d j (eR v0::eR v1::eI x1::eB (decide (0<=x1))::eB (decide (0<=x1))::[]) ?_ ?_
 exact om h0<|om h1<|op (fun Q U W H D=>zAN call84 (zF4 (q2 Z) (d.fr W.size) ((f_v0.fr W).eq (D.g 0 Z)) ((f_v1.on (j.trans W) (fun _ _ h=>h)).eq (D.g 1 Z))))<|op (fun Q U W H D=>zFq (D.g 0 Z) Z)<|oa<|oz
 intro R w m n p d j
 have h4:=p.r 4 Z
 refine HT.ret ?_
 obtain rfl:=si c
 exact ⟨.inr Z,[R 4],⟨Z,N⟩,h4,j⟩
def zD4 (fu:Nat) (p0:Int):Option Bool:=
 cl true (zCa fu p0 0 1000) fun x1=>
 some (!x1)
theorem zFN {fu : Nat} {A : Av} {p0 : Int} {r : Bool} (c : zD4 fu p0 = some r) {w : World} {v0 : Value} (d : AvOK A w) (h0 : v0=.int .i64 p0) :
 Calls prog 71 #[v0] w fun e w'=>∃ v,e=.returned v/\(v=.bool r/\Fr w w'):=by
 unfold zD4 at c
 obtain ⟨w0,hw0,j⟩:=pf w
 rw [fw hw0]
 refine zAE [.tmp 2] func71 ntmps71 (by decide) Z Z (nb Z) ?_
 intro R hR
 replace h0:R 0=.int .i64 p0:=(hR 0 _ Z).trans h0
 refine zQ1 d j (eB false::[]) ?_ ?_
 exact op (fun Q U W H D=>zA9 Z)<|oz
 intro R w m n p d j
 replace h0:=k1 n h0
 obtain ⟨x1,q2,c⟩:=zAB c
 refine zQ1 d j (eI p0::eB x1::eB (!x1)::eB (!x1)::[]) ?_ ?_
 exact om h0<|op (fun Q U W H D=>zAN call44 (zD6 (q2 Z) (d.fr W.size) (D.g 0 Z) Z Z))<|op (fun Q U W H D=>zCM (D.g 0 Z))<|oa<|oz
 intro R w m n p d j
 have h2:=p.r 3 Z
 refine HT.ret ?_
 obtain rfl:=si c
 exact ⟨.inr Z,[R 2],⟨Z,N⟩,h2,j⟩
def zBb (fu:Nat) (p0:List Int):Option Bool:=
 cl (true&&(((p0.length:Int)==6)==true)) (zBs fu p0 (fun x=>zD4 fu x)) fun x1=>
 bd (((p0.length:Int)==6)&&(!x1)) fun x3=>
 some x3
theorem zCv {fu : Nat} {A : Av} {p0 : List Int} {r : Bool} (c : zBb fu p0 = some r) {w : World} {v0 : Value} (d : AvOK A w) (h0 : Rep (eSl (eInt .i64)) A w v0 p0) :
 Calls prog 40 #[v0] w fun e w'=>∃ v,e=.returned v/\(v=.bool r/\Fr w w'):=by
 unfold zBb at c
 obtain ⟨w0,hw0,j⟩:=pf w
 rw [fw hw0]
 refine zAE [.tmp 2] func40 ntmps40 (by decide) Z Z (nb Z) ?_
 intro R hR
 have f_v0:=h0
 replace h0:R 0=v0:=hR 0 _ Z
 refine zQ1 d j (eB false::[]) ?_ ?_
 exact op (fun Q U W H D=>zA9 Z)<|oz
 intro R w m n p d j
 replace h0:=k1 n h0
 replace f_v0:=f_v0.fr m
 refine zQ0 ?_
 obtain ⟨x1,q2,c⟩:=zAB c
 obtain ⟨x3,q4,c⟩:=zAf c
 refine HT.u d j (eR v0::eI (p0.length:Int)::eB ((p0.length:Int)==6)::eB ((p0.length:Int)==6)::gR (true&&(((p0.length:Int)==6)==true)) v0::gB (true&&(((p0.length:Int)==6)==true)) x1::gB (true&&(((p0.length:Int)==6)==true)) (!x1)::eB x3::eB x3::[]) ?_ ?_
 exact om h0<|op (fun Q U W H D=>zAY (aT:=#[]) ((f_v0.fr W).eq (D.g 0 Z)) underlying27)<|op (fun Q U W H D=>zDA (D.g 0 Z) Z)<|ov<|gm 3 true h0<|og 3 true (fun G Q U W H D=>zAN call70 (zEm (q2 G) (d.fr W.size) ((f_v0.fr W).eq (D.h 0 G Z)) (zJ5 [] Z call71 (fun x r hr' w'' a p hA' ha=>zFN hr' hA' (zLf ha)))))<|og 3 true (fun G Q U W H D=>zCM (D.h 0 G Z))<|op (fun Q U W H D=>zAl ((p0.length:Int)==6) (D.g 0 Z) (fun hc=>by have a1:Q 9=.bool (!x1):=D 1 _ _ _ Z Z Z Z (zCH Z (zBA hc));show _=Value.bool x3;rw [q4,hc];exact a1) (fun hc=>by show _=Value.bool x3;rw [q4,hc];exact Z))<|oa<|oz
 intro R w m n p d j
 have h2:=p.r 8 Z
 refine HT.ret ?_
 obtain rfl:=si c
 exact ⟨.inr Z,[R 2],⟨Z,N⟩,h2,j⟩
def zDm (fu:Nat) (p0:zAA) (p1:List Int):Option Bool:=
 cl true (zBb fu p1) fun x2=>
 cl (true&&(x2==true)) (zCg fu p0.1) fun x4=>
 bd (x2&&x4) fun x6=>
 ck (!(true&&(x6==true)) || inR p0.1 p1.length) <|
 bd (x6&&((decide ((gtD p1 p0.1)<p0.2.1))==p0.2.2)) fun x9=>
 some x9
theorem zGq {fu : Nat} {A0 : Av} {p0 : zAA} {p1 : List Int} {r : Bool} (c : zDm fu p0 p1 = some r) {w : World} {v0 : Value} {v1 : Value} (d : AvOK A0 w) (h0 : Rep zA0 A0 w v0 p0) (h1 : Rep (eSl (eInt .i64)) A0 w v1 p1) :
 Calls prog 67 #[v0,v1] w fun e w'=>∃ v,e=.returned v/\(v=.bool r/\Fr w w'):=by
 unfold zDm at c
 obtain ⟨w0,hw0,j,C⟩:=pw d
 have hA00:AvOK A0 w0:=C
 rw [fw hw0]
 obtain ⟨A,hAe,B,d,q⟩:=pa d
 refine zAE [.tmp 4] func67 ntmps67 (by decide) Z Z (nb Z) ?_
 intro R hR
 have f_v0:Rep zA0 A w v0 p0:=hAe ▸ h0
 replace h0:R 0=v0:=hR 0 _ Z
 have f_v1:Rep (eSl (eInt .i64)) A w v1 p1:=hAe ▸ h1
 replace h1:R 1=v1:=hR 1 _ Z
 refine zQ2 [] (⟨_,true,[],some (.box w0.heap.size 69 zA0 p0),true,fun A=>.any⟩::rB false::[]) (ua (ur (UAll.nil))) q d ?_ ?_
 exact rc (OblR.made _ Z Z Z Z fun V Q U O D=>by have a0:Q 0=v0:=(O.old 0 Z).trans h0;have ra0:=(f_v0.stp O.stp).eq a0;exact zAx ra0 (Nat.le_trans j.size O.ch.size))<|rp (fun V Q U O D=>zA9 Z)<|rz
 intro done ρ σ A R w y s
 replace h1:=k1 s.rg h1
 obtain ⟨b2_0,e_b2_0⟩:=s.boxv y 0 Z Z
 have h2:=s.ov y 0 0 e_b2_0
 replace f_v1:=f_v1.stp s.stp
 obtain ⟨B,j,d⟩:=s.s B C j q N
 replace q:=s.left y [(0,ob (.pointer (some ⟨b2_0,0,none⟩)) (.box w0.heap.size 69 zA0 p0))] ⟨Z,Z,e_b2_0,Z,Z,N⟩
 refine zQ0 ?_
 obtain ⟨x2,q3,c⟩:=zAB c
 obtain ⟨x4,q5,c⟩:=zAB c
 obtain ⟨x6,q7,c⟩:=zAf c
 obtain ⟨e8,c⟩:=zAC c
 obtain ⟨x9,q10,c⟩:=zAf c
 refine zPw (by kernel_rfl) (l:=eR v1::eB x2::eB x2::gR (true&&(x2==true)) (.pointer (some ⟨b2_0,0,none⟩))::gI (true&&(x2==true)) p0.1::gB (true&&(x2==true)) x4::eB x6::eB x6::gR (true&&(x6==true)) v1::gR (true&&(x6==true)) (.pointer (some ⟨b2_0,0,none⟩))::gI (true&&(x6==true)) p0.1::gF (true&&(x6==true)) (.qtr (eInt .i64) A (gtD p1 p0.1))::gI (true&&(x6==true)) (gtD p1 p0.1)::gR (true&&(x6==true)) (.pointer (some ⟨b2_0,1,none⟩))::gI (true&&(x6==true)) p0.2.1::gB (true&&(x6==true)) (decide ((gtD p1 p0.1)<p0.2.1))::gR (true&&(x6==true)) (.pointer (some ⟨b2_0,2,none⟩))::gB (true&&(x6==true)) p0.2.2::gB (true&&(x6==true)) ((decide ((gtD p1 p0.1)<p0.2.1))==p0.2.2)::eB x9::eB x9::[]) (tl:=[]) (by kernel_rfl) (by kernel_rfl) (by kernel_rfl) (by kernel_rfl) ?_ ?_
 exact om h1<|op (fun Q U W H D=>zAN call40 (zCv (q3 Z) (d.fr W.size) ((f_v1.fr W).eq (D.g 0 Z))))<|ov<|og 2 true (fun G Q U W H D=>zA6 ((H 2 Z).trans h2) zDH sizeOf3 (by decide) Z)<|og 2 true (fun G Q U W H D=>OpF.int (zA7 ((q.fr W).ok 0 _ Z).1 (D.h 0 G Z) zAo Z isAgg3 sizeOf3))<|og 2 true (fun G Q U W H D=>zAN call45 (zEV (q5 G) (d.fr W.size) (D.h 0 G Z)))<|op (fun Q U W H D=>zAl x2 (D.g 0 Z) (fun hc=>by have a1:Q 10=.bool x4:=D 1 _ _ _ Z Z Z Z (zCH Z (zBA hc));show _=Value.bool x6;rw [q7,hc];exact a1) (fun hc=>by show _=Value.bool x6;rw [q7,hc];exact Z))<|ov<|gm 7 true h1<|og 7 true (fun G Q U W H D=>zA6 ((H 2 Z).trans h2) zDH sizeOf3 (by decide) Z)<|og 7 true (fun G Q U W H D=>OpF.int (zA7 ((q.fr W).ok 0 _ Z).1 (D.h 0 G Z) zAo Z isAgg3 sizeOf3))<|og 7 true (fun G Q U W H D=>zAL ((f_v1.fr W).eq (D.h 0 G Z)) (D.h 1 G Z) underlying27 sizeOf3 (gd e8 G))<|og 7 true (fun G Q U W H D=>OpF.int (zAb (QRep.ptr (D.h 0 G Z)) isAgg3 sizeOf3))<|og 7 true (fun G Q U W H D=>zA6 ((H 2 Z).trans h2) zDU sizeOf3 (by decide) Z)<|og 7 true (fun G Q U W H D=>OpF.int (zA7 ((q.fr W).ok 0 _ Z).1 (D.h 0 G Z) zAv Z isAgg3 sizeOf3))<|og 7 true (fun G Q U W H D=>zBS (D.h 0 G Z) (D.h 1 G Z))<|og 7 true (fun G Q U W H D=>zA6 ((H 2 Z).trans h2) zFM sizeOf4 (by decide) Z)<|og 7 true (fun G Q U W H D=>OpF.bool (zA7 ((q.fr W).ok 0 _ Z).1 (D.h 0 G Z) zCw Z isAgg4 sizeOf4))<|og 7 true (fun G Q U W H D=>zKQ underlying4 (D.h 0 G Z) (D.h 1 G Z))<|op (fun Q U W H D=>zAl x6 (D.g 0 Z) (fun hc=>by have a1:Q 23=.bool ((decide ((gtD p1 p0.1)<p0.2.1))==p0.2.2):=D 1 _ _ _ Z Z Z Z (zCH Z (zBA hc));show _=Value.bool x9;rw [q10,hc];exact a1) (fun hc=>by show _=Value.bool x9;rw [q10,hc];exact Z))<|oa<|oz
 intro R w m n p
 have h4:=p.r 20 Z
 replace q:=q.fr m
 replace q:IniOK [] A w:=q.sub [] N
 replace d:=d.fr m.size
 replace j:=j.trans m
 refine HT.ret ?_
 obtain rfl:=si c
 exact ⟨.inr Z,[R 4],⟨Z,N⟩,h4,j⟩
def zDZ (fu:Nat) (p0:zAA) (p1:List Int):Option Bool:=
 cl true (zDm fu p0 p1) fun x2=>
 some (!x2)
theorem zGL {fu : Nat} {A0 : Av} {p0 : zAA} {p1 : List Int} {r : Bool} (c : zDZ fu p0 p1 = some r) {w : World} {v0 : Value} {v1 : Value} (d : AvOK A0 w) (h0 : Rep zA0 A0 w v0 p0) (h1 : PRep (eSl (eInt .i64)) A0 w v1 p1) :
 Calls prog 66 #[v0,v1] w fun e w'=>∃ v,e=.returned v/\(v=.bool r/\Fr w w'):=by
 unfold zDZ at c
 obtain ⟨w0,hw0,j,C⟩:=pw d
 have hA00:AvOK A0 w0:=C
 rw [fw hw0]
 have f_v1:CRep (eSl (eInt .i64)) A0 w w0.heap.size v1 p1:=by subst hw0;exact CRep.mk' h1
 obtain ⟨A,hAe,B,d,q⟩:=pa d
 refine zAE [.tmp 3] func66 ntmps66 (by decide) Z Z (nb Z) ?_
 intro R hR
 have f_v0:Rep zA0 A w v0 p0:=hAe ▸ h0
 replace h0:R 0=v0:=hR 0 _ Z
 replace f_v1:CRep (eSl (eInt .i64)) A w w0.heap.size v1 p1:=hAe ▸ f_v1
 replace h1:R 1=v1:=hR 1 _ Z
 refine zQ2 [] (⟨_,true,[],some (.box w0.heap.size 69 zA0 p0),true,fun A=>.any⟩::rB false::[]) (ua (ur (UAll.nil))) q d ?_ ?_
 exact rc (OblR.made _ Z Z Z Z fun V Q U O D=>by have a0:Q 0=v0:=(O.old 0 Z).trans h0;have ra0:=(f_v0.stp O.stp).eq a0;exact zAx ra0 (Nat.le_trans j.size O.ch.size))<|rp (fun V Q U O D=>zA9 Z)<|rz
 intro done ρ σ A R w y s
 replace h1:=k1 s.rg h1
 obtain ⟨b2_0,e_b2_0⟩:=s.boxv y 0 Z Z
 have h2:=s.ov y 0 0 e_b2_0
 replace f_v1:=f_v1.stp s.stp (s.ch.below j.size (q.ge (N)))
 obtain ⟨B,j,d⟩:=s.s B C j q N
 replace q:=s.left y [(0,ob (.pointer (some ⟨b2_0,0,none⟩)) (.box w0.heap.size 69 zA0 p0))] ⟨Z,Z,e_b2_0,Z,Z,N⟩
 obtain ⟨x2,q3,c⟩:=zAB c
 refine zQ1 d j (eF (.rep zA0 A p0)::eF (.rep (eSl (eInt .i64)) A p1)::eB x2::eB (!x2)::eB (!x2)::[]) ?_ ?_
 exact op (fun Q U W H D=>(zA7 ((q.fr W).ok 0 _ Z).1 ((H 2 Z).trans h2) (Fld.id _) Z isAgg69 sizeOf69))<|op (fun Q U W H D=>(zAb ((f_v1.fr W).ptr ((H 1 Z).trans h1)) isAgg27 sizeOf27))<|op (fun Q U W H D=>zAN call67 (zGq (q3 Z) (d.fr W.size) (D.g 0 Z) (D.g 1 Z)))<|op (fun Q U W H D=>zCM (D.g 0 Z))<|oa<|oz
 intro R w m n p d j
 have h3:=p.r 4 Z
 replace q:=q.fr m
 replace q:IniOK [] A w:=q.sub [] N
 refine HT.ret ?_
 obtain rfl:=si c
 exact ⟨.inr Z,[R 3],⟨Z,N⟩,h3,j⟩
def zDo (fu:Nat) (p0:zA8) (p1:List Int):Option Bool:=
 cl true (zBb fu p1) fun x3=>
 cl (true&&(x3==true)) (zAT fu p0 (fun x=>zDZ fu x p1)) fun x5=>
 bd (x3&&(!x5)) fun x7=>
 some x7
theorem zH4 {fu : Nat} {A0 : Av} {p0 : zA8} {p1 : List Int} {r : Bool} (c : zDo fu p0 p1 = some r) {w : World} {v0 : Value} {v1 : Value} (d : AvOK A0 w) (h0 : Rep zAF A0 w v0 p0) (h1 : Rep (eSl (eInt .i64)) A0 w v1 p1) :
 Calls prog 33 #[v0,v1] w fun e w'=>∃ v,e=.returned v/\(v=.bool r/\Fr w w'):=by
 unfold zDo at c
 obtain ⟨w0,hw0,j,C⟩:=pw d
 have hA00:AvOK A0 w0:=C
 rw [fw hw0]
 obtain ⟨A,hAe,B,d,q⟩:=pa d
 refine zAE [.tmp 4] func33 ntmps33 (by decide) Z Z (nb Z) ?_
 intro R hR
 have f_v0:Rep zAF A w v0 p0:=hAe ▸ h0
 replace h0:R 0=v0:=hR 0 _ Z
 have f_v1:Rep (eSl (eInt .i64)) A w v1 p1:=hAe ▸ h1
 replace h1:R 1=v1:=hR 1 _ Z
 refine zQ2 [] (⟨_,true,[],some (.box w0.heap.size 63 zAF p0),true,fun A=>.any⟩::⟨_,true,[],some (.box w0.heap.size 27 (eSl (eInt .i64)) p1),true,fun A=>.any⟩::rB false::[]) (ua (ua (ur (UAll.nil)))) q d ?_ ?_
 exact rc (OblR.made _ Z Z Z Z fun V Q U O D=>by have a0:Q 0=v0:=(O.old 0 Z).trans h0;have ra0:=(f_v0.stp O.stp).eq a0;exact zAx ra0 (Nat.le_trans j.size O.ch.size))<|rc (OblR.made _ Z Z Z Z fun V Q U O D=>by have a0:Q 1=v1:=(O.old 1 Z).trans h1;have ra0:=(f_v1.stp O.stp).eq a0;exact zAx ra0 (Nat.le_trans j.size O.ch.size))<|rp (fun V Q U O D=>zA9 Z)<|rz
 intro done ρ σ A R w y s
 obtain ⟨b2_0,e_b2_0⟩:=s.boxv y 0 Z Z
 have h2:=s.ov y 0 0 e_b2_0
 obtain ⟨b3_1,e_b3_1⟩:=s.boxv y 1 Z Z
 have h3:=s.ov y 1 1 e_b3_1
 obtain ⟨B,j,d⟩:=s.s B C j q N
 replace q:=s.left y [(0,ob (.pointer (some ⟨b2_0,0,none⟩)) (.box w0.heap.size 63 zAF p0)),(1,ob (.pointer (some ⟨b3_1,0,none⟩)) (.box w0.heap.size 27 (eSl (eInt .i64)) p1))] ⟨Z,Z,e_b2_0,Z,Z,⟨Z,Z,e_b3_1,Z,Z,N⟩⟩
 refine zQ0 ?_
 obtain ⟨x3,q4,c⟩:=zAB c
 obtain ⟨x5,q6,c⟩:=zAB c
 obtain ⟨x7,q8,c⟩:=zAf c
 refine HT.u d j (eF (.rep (eSl (eInt .i64)) A p1)::eB x3::eB x3::gR (true&&(x3==true)) (.pointer (some ⟨b2_0,0,none⟩))::gF (true&&(x3==true)) (.rep (eSl zA0) A p0)::gR (true&&(x3==true)) (.func (.func 66) #[] #[(.pointer (some ⟨b3_1,0,none⟩))])::gB (true&&(x3==true)) x5::gB (true&&(x3==true)) (!x5)::eB x7::eB x7::[]) ?_ ?_
 exact op (fun Q U W H D=>(zA7 ((q.fr W).ok 1 _ Z).1 ((H 3 Z).trans h3) (Fld.id _) Z isAgg27 sizeOf27))<|op (fun Q U W H D=>zAN call40 (zCv (q4 Z) (d.fr W.size) (D.g 0 Z)))<|ov<|og 2 true (fun G Q U W H D=>zA6 ((H 2 Z).trans h2) zDI sizeOf44 (by decide) Z)<|og 2 true (fun G Q U W H D=>(zA7 ((q.fr W).ok 0 _ Z).1 (D.h 0 G Z) zBQ Z isAgg44 sizeOf44))<|og 2 true (fun G Q U W H D=>by have a0:Q 3=(.pointer (some ⟨b3_1,0,none⟩)):=(H 3 Z).trans h3;exact zIC (c:=[(.pointer (some ⟨b3_1,0,none⟩))]) (by simp only [List.map,zAM];rw [a0]))<|og 2 true (fun G Q U W H D=>zAN call65 (zCX (q6 G) (d.fr W.size) (D.h 0 G Z) (zJ5 [(.pointer (some ⟨b3_1,0,none⟩))] (D.h 1 G Z) call66 (fun x r hr' w'' a p hA' ha=>zGL hr' hA' ha ((zL2 ((q.fr W).ok 1 _ Z).1).fr p)))))<|og 2 true (fun G Q U W H D=>zCM (D.h 0 G Z))<|op (fun Q U W H D=>zAl x3 (D.g 0 Z) (fun hc=>by have a1:Q 12=.bool (!x5):=D 1 _ _ _ Z Z Z Z (zCH Z (zBA hc));show _=Value.bool x7;rw [q8,hc];exact a1) (fun hc=>by show _=Value.bool x7;rw [q8,hc];exact Z))<|oa<|oz
 intro R w m n p d j
 have h4:=p.r 9 Z
 replace q:=q.fr m
 replace q:IniOK [] A w:=q.sub [] N
 refine HT.ret ?_
 obtain rfl:=si c
 exact ⟨.inr Z,[R 4],⟨Z,N⟩,h4,j⟩
def zD3 (fu:Nat) (p0:zA8) (p1:List Int):Option Bool:=
 cl true (zDo fu p0 p1) fun x2=>
 some x2
theorem zGH {fu : Nat} {A0 : Av} {p0 : zA8} {p1 : List Int} {r : Bool} (c : zD3 fu p0 p1 = some r) {w : World} {v0 : Value} {v1 : Value} (d : AvOK A0 w) (h0 : Rep zAF A0 w v0 p0) (h1 : PRep (eSl (eInt .i64)) A0 w v1 p1) :
 Calls prog 32 #[v0,v1] w fun e w'=>∃ v,e=.returned v/\(v=.bool r/\Fr w w'):=by
 unfold zD3 at c
 obtain ⟨w0,hw0,j,C⟩:=pw d
 have hA00:AvOK A0 w0:=C
 rw [fw hw0]
 have f_v1:CRep (eSl (eInt .i64)) A0 w w0.heap.size v1 p1:=by subst hw0;exact CRep.mk' h1
 obtain ⟨A,hAe,B,d,q⟩:=pa d
 refine zAE [.tmp 3] func32 ntmps32 (by decide) Z Z (nb Z) ?_
 intro R hR
 have f_v0:Rep zAF A w v0 p0:=hAe ▸ h0
 replace h0:R 0=v0:=hR 0 _ Z
 replace f_v1:CRep (eSl (eInt .i64)) A w w0.heap.size v1 p1:=hAe ▸ f_v1
 replace h1:R 1=v1:=hR 1 _ Z
 refine zQ2 [] (⟨_,true,[],some (.box w0.heap.size 63 zAF p0),true,fun A=>.any⟩::rB false::[]) (ua (ur (UAll.nil))) q d ?_ ?_
 exact rc (OblR.made _ Z Z Z Z fun V Q U O D=>by have a0:Q 0=v0:=(O.old 0 Z).trans h0;have ra0:=(f_v0.stp O.stp).eq a0;exact zAx ra0 (Nat.le_trans j.size O.ch.size))<|rp (fun V Q U O D=>zA9 Z)<|rz
 intro done ρ σ A R w y s
 replace h1:=k1 s.rg h1
 obtain ⟨b2_0,e_b2_0⟩:=s.boxv y 0 Z Z
 have h2:=s.ov y 0 0 e_b2_0
 replace f_v1:=f_v1.stp s.stp (s.ch.below j.size (q.ge (N)))
 obtain ⟨B,j,d⟩:=s.s B C j q N
 replace q:=s.left y [(0,ob (.pointer (some ⟨b2_0,0,none⟩)) (.box w0.heap.size 63 zAF p0))] ⟨Z,Z,e_b2_0,Z,Z,N⟩
 obtain ⟨x2,q3,c⟩:=zAB c
 refine zQ1 d j (eF (.rep zAF A p0)::eF (.rep (eSl (eInt .i64)) A p1)::eB x2::eB x2::[]) ?_ ?_
 exact op (fun Q U W H D=>(zA7 ((q.fr W).ok 0 _ Z).1 ((H 2 Z).trans h2) (Fld.id _) Z isAgg63 sizeOf63))<|op (fun Q U W H D=>(zAb ((f_v1.fr W).ptr ((H 1 Z).trans h1)) isAgg27 sizeOf27))<|op (fun Q U W H D=>zAN call33 (zH4 (q3 Z) (d.fr W.size) (D.g 0 Z) (D.g 1 Z)))<|oa<|oz
 intro R w m n p d j
 have h3:=p.r 3 Z
 replace q:=q.fr m
 replace q:IniOK [] A w:=q.sub [] N
 refine HT.ret ?_
 obtain rfl:=si c
 exact ⟨.inr Z,[R 3],⟨Z,N⟩,h3,j⟩
def zAZ (fu : Nat) (p0 : List zA8) (p1 : zA8 -> Option Bool) : Nat -> Int -> Option (Ex Int Unit)
 | 0,_=>none
 | k+1,y4=>
 bif (decide (y4<(p0.length:Int))) then (
 ck (inR y4 p0.length) <|
 cl true (p1 (gtD p0 y4)) fun x7=>
 bif x7 then (
 some (Ex.ret y4)
 ) else (
 ck (i64B (y4+1)) <|
 zAZ fu p0 p1 k (y4+1)
 )
 ) else (
 some (Ex.go ())
 )
def zBY (fu:Nat) (p0:List zA8) (p1:zA8->Option Bool):Option Int:=
 cl true (zAZ fu p0 p1 fu 0) fun rl1=>
 exM rl1 (fun r=>some r) fun s3=>
 some (-1)
theorem zDy {fu : Nat} {A : Av} {p0 : List zA8} {p1 : zA8 -> Option Bool} {r : Int} (c : zBY fu p0 p1 = some r) {w : World} {v0 : Value} {v1 : Value} (d : AvOK A w) (h0 : Rep (eSl zAF) A w v0 p0) (h1 : FnB1 prog zAF (fun r => .raw (.bool r)) A w v1 p1) :
 Calls prog 31 #[v0,v1] w fun e w'=>∃ v,e=.returned v/\(v=.int .i64 r/\Fr w w'):=by
 unfold zBY at c
 obtain ⟨w0,hw0,j⟩:=pf w
 rw [fw hw0]
 have f_v1:FnB1 prog zAF (fun r=>.raw (.bool r)) A w0 v1 p1:=hw0 ▸ h1
 refine zAE [.tmp 4] func31 ntmps31 (by decide) Z Z (nb Z) ?_
 intro R hR
 have f_v0:=h0
 replace h0:R 0=v0:=hR 0 _ Z
 replace h1:R 1=v1:=hR 1 _ Z
 refine zQ1 d j (eI 0::[]) ?_ ?_
 exact op (fun Q U W H D=>zA9 Z)<|oz
 intro R w m n p d j
 obtain ⟨h0,h1⟩:=k2 n h0 h1
 replace f_v0:=f_v0.fr m
 refine zQ0 ?_
 refine zQ1 d j (eR v0::eI (p0.length:Int)::eI 0::[]) ?_ ?_
 exact om h0<|op (fun Q U W H D=>zAY (aT:=#[]) ((f_v0.fr W).eq (D.g 0 Z)) underlying24)<|op (fun Q U W H D=>zBd Z)<|oz
 intro R w m n p d j
 obtain ⟨h0,h1⟩:=k2 n h0 h1
 have h7:=p.r 1 Z
 have h8:=p.r 2 Z
 replace f_v0:=f_v0.fr m
 obtain ⟨rl1,q2,c⟩:=zAB c
 replace q2:=q2 Z
 refine zPv (fun R w=>∃ (s3:Unit),rl1=Ex.go s3/\AvOK A w/\Fr w0 w) ?_ ?_
 refine HT.block<|zPz (fun k R w=>∃ (y4:Int),zAZ fu p0 p1 k y4=some rl1/\AvOK A w/\Fr w0 w/\R 0=v0/\R 1=v1/\R 7=.int .i64 (p0.length:Int)/\R 8=.int .i64 y4/\Rep (eSl zAF) A w v0 p0) fu ⟨_,q2,d,j,h0,h1,h7,h8,f_v0⟩ ?_
 have hr0:=c;clear c q2
 rintro k R w ⟨y4,c,d,j,h0,h1,h7,h8,f_v0⟩
 rcases k with _ | k
 cases (show none=some _ from c)
 rw [zAZ] at c
 refine zQ1 d j (eB (decide (y4<(p0.length:Int)))::[]) ?_ ?_
 exact op (fun Q U W H D=>zBS ((H 8 Z).trans h8) ((H 7 Z).trans h7))<|oz
 intro R w m n p d j
 obtain ⟨h0,h1,h7,h8⟩:=k4 n h0 h1 h7 h8
 have h9:=p.r 0 Z
 replace f_v0:=f_v0.fr m
 refine zQ0 ?_
 refine zPt (decide (y4<(p0.length:Int))) h9 (fun c5=>?_) (fun c5=>?_)
 have c:=zAh c5 c
 refine HT.skip<|zQ0 ?_
 refine HT.block<|zQ1 d j (eI y4::eI y4::[]) ?_ ?_
 exact om h8<|oa<|oz
 intro R w m n p d j
 obtain ⟨h0,h1,h7,h8⟩:=k4 n h0 h1 h7 h8
 have h5:=p.r 1 Z
 replace f_v0:=f_v0.fr m
 obtain ⟨e6,c⟩:=zAC c
 obtain ⟨x7,q8,c⟩:=zAB c
 refine zQ1 d j (eR v1::eR v0::eI y4::eF (.qtr zAF A (gtD p0 y4))::eF (.rep zAF A (gtD p0 y4))::eB x7::[]) ?_ ?_
 exact om h1<|om h0<|om h5<|op (fun Q U W H D=>zAL ((f_v0.fr W).eq (D.g 0 Z)) (D.g 1 Z) underlying24 sizeOf63 e6)<|op (fun Q U W H D=>(zAb (QRep.ptr (D.g 0 Z)) isAgg63 sizeOf63))<|op (fun Q U W H D=>zJI (D.g 0 Z) (f_v1 _ _ (q8 Z) _ _ ((j.trans W).ch _) (d.fr W.size) (D.g 1 Z)))<|oz
 intro R w m n p d j
 obtain ⟨h0,h1,h5,h7,h8⟩:=k5 n h0 h1 h5 h7 h8
 have h16:=p.r 5 Z
 replace f_v0:=f_v0.fr m
 refine zPt x7 h16 (fun c9=>?_) (fun c9=>?_)
 have c:=zAh c9 c
 refine zQ1 d j (eI y4::eI y4::[]) ?_ ?_
 exact om h5<|oa<|oz
 intro R w m n p d j
 have h4:=p.r 1 Z
 refine HT.ret ?_
 obtain rfl:=si c
 have c:=hr0
 replace c:some _=some _:=c
 obtain rfl:=si c
 exact ⟨.inr Z,[R 4],⟨Z,N⟩,h4,j⟩
 have c:=zAg c9 c
 refine HT.skip ?_
 obtain ⟨e10,c⟩:=zAC c
 refine HT.u d j (eI (y4+1)::eI (y4+1)::[]) ?_ ?_
 exact op (fun Q U W H D=>zAi ((H 8 Z).trans h8) Z e10)<|ov<|oz
 intro R w m n p d j
 obtain ⟨h0,h1,h7⟩:=k3 n h0 h1 h7
 have h8:=p.r 1 Z
 replace f_v0:=f_v0.fr m
 exact ei k (And.intro (Nat.lt_succ_self k) ⟨_,c,d,j,h0,h1,h7,h8,f_v0⟩)
 have c:=zAg c5 c
 refine zPy ?_
 obtain rfl:=si c
 exact ei _ ⟨Z,d,j⟩
 rintro R w ⟨s3,rfl,d,j⟩
 have c:=zEG c
 refine zQ1 d j (eI (-1)::[]) ?_ ?_
 exact op (fun Q U W H D=>zA9 Z)<|oz
 intro R w m n p d j
 have h4:=p.r 0 Z
 refine HT.ret ?_
 obtain rfl:=si c
 exact ⟨.inr Z,[R 4],⟨Z,N⟩,h4,j⟩
def zDu (fu:Nat) (p0:zAD) (p1:List Int):Option Int:=
 cl true (zCO fu p0) fun x3=>
 bif (!x3) then (
 some (-1)
 ) else (
 cl true (zBY fu p0 (fun x=>zD3 fu x p1)) fun x6=>
 some x6
 )
theorem zH6 {fu : Nat} {A0 : Av} {p0 : zAD} {p1 : List Int} {r : Int} (c : zDu fu p0 p1 = some r) {w : World} {v0 : Value} {v1 : Value} (d : AvOK A0 w) (h0 : Rep zA2 A0 w v0 p0) (h1 : Rep (eSl (eInt .i64)) A0 w v1 p1) :
 Calls prog 9 #[v0,v1] w fun e w'=>∃ v,e=.returned v/\(v=.int .i64 r/\Fr w w'):=by
 unfold zDu at c
 obtain ⟨w0,hw0,j,C⟩:=pw d
 have hA00:AvOK A0 w0:=C
 rw [fw hw0]
 obtain ⟨A,hAe,B,d,q⟩:=pa d
 refine zAE [.tmp 4] func9 ntmps9 (by decide) Z Z (nb Z) ?_
 intro R hR
 have f_v0:Rep zA2 A w v0 p0:=hAe ▸ h0
 replace h0:R 0=v0:=hR 0 _ Z
 have f_v1:Rep (eSl (eInt .i64)) A w v1 p1:=hAe ▸ h1
 replace h1:R 1=v1:=hR 1 _ Z
 refine zQ2 [] (⟨_,true,[],some (.box w0.heap.size 26 zA2 p0),true,fun A=>.any⟩::⟨_,true,[],some (.box w0.heap.size 27 (eSl (eInt .i64)) p1),true,fun A=>.any⟩::rI 0::[]) (ua (ua (ur (UAll.nil)))) q d ?_ ?_
 exact rc (OblR.made _ Z Z Z Z fun V Q U O D=>by have a0:Q 0=v0:=(O.old 0 Z).trans h0;have ra0:=(f_v0.stp O.stp).eq a0;exact zAx ra0 (Nat.le_trans j.size O.ch.size))<|rc (OblR.made _ Z Z Z Z fun V Q U O D=>by have a0:Q 1=v1:=(O.old 1 Z).trans h1;have ra0:=(f_v1.stp O.stp).eq a0;exact zAx ra0 (Nat.le_trans j.size O.ch.size))<|rp (fun V Q U O D=>zA9 Z)<|rz
 intro done ρ σ A R w y s
 obtain ⟨b2_0,e_b2_0⟩:=s.boxv y 0 Z Z
 have h2:=s.ov y 0 0 e_b2_0
 obtain ⟨b3_1,e_b3_1⟩:=s.boxv y 1 Z Z
 have h3:=s.ov y 1 1 e_b3_1
 obtain ⟨B,j,d⟩:=s.s B C j q N
 replace q:=s.left y [(0,ob (.pointer (some ⟨b2_0,0,none⟩)) (.box w0.heap.size 26 zA2 p0)),(1,ob (.pointer (some ⟨b3_1,0,none⟩)) (.box w0.heap.size 27 (eSl (eInt .i64)) p1))] ⟨Z,Z,e_b2_0,Z,Z,⟨Z,Z,e_b3_1,Z,Z,N⟩⟩
 refine zQ0 ?_
 obtain ⟨x3,q4,c⟩:=zAB c
 refine zQ1 d j (eF (.rep zA2 A p0)::eB x3::eB (!x3)::[]) ?_ ?_
 exact op (fun Q U W H D=>(zA7 ((q.fr W).ok 0 _ Z).1 ((H 2 Z).trans h2) (Fld.id _) Z isAgg26 sizeOf26))<|op (fun Q U W H D=>zAN call25 (zDz (q4 Z) (d.fr W.size) (D.g 0 Z)))<|op (fun Q U W H D=>zCM (D.g 0 Z))<|oz
 intro R w m n p d j
 obtain ⟨h2,h3⟩:=k2 n h2 h3
 have h7:=p.r 2 Z
 replace q:=q.fr m
 refine zPt (!x3) h7 (fun c5=>?_) (fun c5=>?_)
 have c:=zAh c5 c
 refine zQ1 d j (eI (-1)::[]) ?_ ?_
 exact op (fun Q U W H D=>zA9 Z)<|oz
 intro R w m n p d j
 have h4:=p.r 0 Z
 replace q:=q.fr m
 replace q:IniOK [] A w:=q.sub [] N
 refine HT.ret ?_
 obtain rfl:=si c
 exact ⟨.inr Z,[R 4],⟨Z,N⟩,h4,j⟩
 have c:=zAg c5 c
 refine HT.skip ?_
 obtain ⟨x6,q7,c⟩:=zAB c
 refine zQ1 d j (eR (.pointer (some ⟨b2_0,0,none⟩))::eF (.rep (eSl zAF) A p0)::eR (.func (.func 32) #[] #[(.pointer (some ⟨b3_1,0,none⟩))])::eI x6::eI x6::[]) ?_ ?_
 exact op (fun Q U W H D=>zA6 ((H 2 Z).trans h2) zCh sizeOf24 (by decide) Z)<|op (fun Q U W H D=>(zA7 ((q.fr W).ok 0 _ Z).1 (D.g 0 Z) zAd Z isAgg24 sizeOf24))<|op (fun Q U W H D=>zIC (c:=[(.pointer (some ⟨b3_1,0,none⟩))]) (by simp only [List.map,zAM];rw [((H 3 Z).trans h3)]))<|op (fun Q U W H D=>zAN call31 (zDy (q7 Z) (d.fr W.size) (D.g 0 Z) (zJ5 [(.pointer (some ⟨b3_1,0,none⟩))] (D.g 1 Z) call32 (fun x r hr' w'' a p hA' ha=>zGH hr' hA' ha ((zL2 ((q.fr W).ok 1 _ Z).1).fr p)))))<|oa<|oz
 intro R w m n p d j
 have h4:=p.r 4 Z
 replace q:=q.fr m
 replace q:IniOK [] A w:=q.sub [] N
 refine HT.ret ?_
 obtain rfl:=si c
 exact ⟨.inr Z,[R 4],⟨Z,N⟩,h4,j⟩
def zBV (fu : Nat) (p0 : List Int) : Nat -> Int -> Option (Ex Bool Unit)
 | 0,_=>none
 | k+1,y4=>
 bif (decide (y4<(p0.length:Int))) then (
 ck (inR y4 p0.length) <|
 cl true (zC7 fu (gtD p0 y4) 0 1000) fun x7=>
 bif (!x7) then (
 some (Ex.ret false)
 ) else (
 ck (i64B (y4+1)) <|
 zBV fu p0 k (y4+1)
 )
 ) else (
 some (Ex.go ())
 )
def zBc (fu:Nat) (p0:List Int):Option Bool:=
 cl true (zBV fu p0 fu 0) fun rl1=>
 exM rl1 (fun r=>some r) fun s3=>
 some ((p0.length:Int)==6)
theorem zCu {fu : Nat} {A : Av} {p0 : List Int} {r : Bool} (c : zBc fu p0 = some r) {w : World} {v0 : Value} (d : AvOK A w) (h0 : Rep (eSl (eInt .i64)) A w v0 p0) :
 Calls prog 42 #[v0] w fun e w'=>∃ v,e=.returned v/\(v=.bool r/\Fr w w'):=by
 unfold zBc at c
 obtain ⟨w0,hw0,j⟩:=pf w
 rw [fw hw0]
 refine zAE [.tmp 2] func42 ntmps42 (by decide) Z Z (nb Z) ?_
 intro R hR
 have f_v0:=h0
 replace h0:R 0=v0:=hR 0 _ Z
 refine zQ1 d j (eB false::[]) ?_ ?_
 exact op (fun Q U W H D=>zA9 Z)<|oz
 intro R w m n p d j
 replace h0:=k1 n h0
 replace f_v0:=f_v0.fr m
 refine zQ0 ?_
 refine zQ1 d j (eI 0::[]) ?_ ?_
 exact op (fun Q U W H D=>zA9 Z)<|oz
 intro R w m n p d j
 replace h0:=k1 n h0
 have h3:=p.r 0 Z
 replace f_v0:=f_v0.fr m
 obtain ⟨rl1,q2,c⟩:=zAB c
 replace q2:=q2 Z
 refine zPv (fun R w=>∃ (s3:Unit),rl1=Ex.go s3/\AvOK A w/\Fr w0 w/\R 0=v0/\Rep (eSl (eInt .i64)) A w v0 p0) ?_ ?_
 refine HT.block<|zPz (fun k R w=>∃ (y4:Int),zBV fu p0 k y4=some rl1/\AvOK A w/\Fr w0 w/\R 0=v0/\R 3=.int .i64 y4/\Rep (eSl (eInt .i64)) A w v0 p0) fu ⟨_,q2,d,j,h0,h3,f_v0⟩ ?_
 have hr0:=c;clear c q2
 rintro k R w ⟨y4,c,d,j,h0,h3,f_v0⟩
 rcases k with _ | k
 cases (show none=some _ from c)
 rw [zBV] at c
 refine zQ0 ?_
 refine zQ1 d j (eI y4::eR v0::eI (p0.length:Int)::eB (decide (y4<(p0.length:Int)))::[]) ?_ ?_
 exact om h3<|om h0<|op (fun Q U W H D=>zAY (aT:=#[]) ((f_v0.fr W).eq (D.g 0 Z)) underlying27)<|op (fun Q U W H D=>zBS (D.g 0 Z) (D.g 1 Z))<|oz
 intro R w m n p d j
 obtain ⟨h0,h3⟩:=k2 n h0 h3
 have h7:=p.r 3 Z
 replace f_v0:=f_v0.fr m
 refine zPt (decide (y4<(p0.length:Int))) h7 (fun c5=>?_) (fun c5=>?_)
 have c:=zAh c5 c
 refine HT.skip<|zQ0 ?_
 refine HT.block ?_
 obtain ⟨e6,c⟩:=zAC c
 obtain ⟨x7,q8,c⟩:=zAB c
 refine zQ1 d j (eR v0::eI y4::eF (.qtr (eInt .i64) A (gtD p0 y4))::eI (gtD p0 y4)::eB x7::eB (!x7)::[]) ?_ ?_
 exact om h0<|om h3<|op (fun Q U W H D=>zAL ((f_v0.fr W).eq (D.g 0 Z)) (D.g 1 Z) underlying27 sizeOf3 e6)<|op (fun Q U W H D=>OpF.int (zAb (QRep.ptr (D.g 0 Z)) isAgg3 sizeOf3))<|op (fun Q U W H D=>zAN call49 (zCB (q8 Z) (d.fr W.size) (D.g 0 Z) Z Z))<|op (fun Q U W H D=>zCM (D.g 0 Z))<|oz
 intro R w m n p d j
 obtain ⟨h0,h3⟩:=k2 n h0 h3
 have h15:=p.r 5 Z
 replace f_v0:=f_v0.fr m
 refine zPt (!x7) h15 (fun c9=>?_) (fun c9=>?_)
 have c:=zAh c9 c
 refine zQ1 d j (eB false::[]) ?_ ?_
 exact op (fun Q U W H D=>zA9 Z)<|oz
 intro R w m n p d j
 have h2:=p.r 0 Z
 refine HT.ret ?_
 obtain rfl:=si c
 have c:=hr0
 replace c:some _=some _:=c
 obtain rfl:=si c
 exact ⟨.inr Z,[R 2],⟨Z,N⟩,h2,j⟩
 have c:=zAg c9 c
 refine HT.skip ?_
 obtain ⟨e10,c⟩:=zAC c
 refine HT.u d j (eI y4::eI (y4+1)::eI (y4+1)::[]) ?_ ?_
 exact om h3<|op (fun Q U W H D=>zAi (D.g 0 Z) Z e10)<|oa<|oz
 intro R w m n p d j
 replace h0:=k1 n h0
 have h3:=p.r 2 Z
 replace f_v0:=f_v0.fr m
 exact ei k (And.intro (Nat.lt_succ_self k) ⟨_,c,d,j,h0,h3,f_v0⟩)
 have c:=zAg c5 c
 refine zPy ?_
 obtain rfl:=si c
 exact ei _ ⟨Z,d,j,h0,f_v0⟩
 rintro R w ⟨s3,rfl,d,j,h0,f_v0⟩
 have c:=zEG c
 refine zQ1 d j (eR v0::eI (p0.length:Int)::eB ((p0.length:Int)==6)::eB ((p0.length:Int)==6)::[]) ?_ ?_
 exact om h0<|op (fun Q U W H D=>zAY (aT:=#[]) ((f_v0.fr W).eq (D.g 0 Z)) underlying27)<|op (fun Q U W H D=>zDA (D.g 0 Z) Z)<|oa<|oz
 intro R w m n p d j
 have h2:=p.r 3 Z
 refine HT.ret ?_
 obtain rfl:=si c
 exact ⟨.inr Z,[R 2],⟨Z,N⟩,h2,j⟩
def zDq (fu:Nat) (p0:zAA) (p1:List Int):Option Bool:=
 cl true (zBc fu p1) fun x2=>
 cl (true&&(x2==true)) (zC7 fu p0.1 0 5) fun x4=>
 bd (x2&&x4) fun x6=>
 ck (!(true&&(x6==true)) || inR p0.1 p1.length) <|
 bd (x6&&((decide (p0.2.1<=(gtD p1 p0.1))) != p0.2.2)) fun x9=>
 some x9
theorem zGz {fu : Nat} {A0 : Av} {p0 : zAA} {p1 : List Int} {r : Bool} (c : zDq fu p0 p1 = some r) {w : World} {v0 : Value} {v1 : Value} (d : AvOK A0 w) (h0 : Rep zA0 A0 w v0 p0) (h1 : Rep (eSl (eInt .i64)) A0 w v1 p1) :
 Calls prog 68 #[v0,v1] w fun e w'=>∃ v,e=.returned v/\(v=.bool r/\Fr w w'):=by
 unfold zDq at c
 obtain ⟨w0,hw0,j,C⟩:=pw d
 have hA00:AvOK A0 w0:=C
 rw [fw hw0]
 obtain ⟨A,hAe,B,d,q⟩:=pa d
 refine zAE [.tmp 4] func68 ntmps68 (by decide) Z Z (nb Z) ?_
 intro R hR
 have f_v0:Rep zA0 A w v0 p0:=hAe ▸ h0
 replace h0:R 0=v0:=hR 0 _ Z
 have f_v1:Rep (eSl (eInt .i64)) A w v1 p1:=hAe ▸ h1
 replace h1:R 1=v1:=hR 1 _ Z
 refine zQ2 [] (⟨_,true,[],some (.box w0.heap.size 69 zA0 p0),true,fun A=>.any⟩::rB false::[]) (ua (ur (UAll.nil))) q d ?_ ?_
 exact rc (OblR.made _ Z Z Z Z fun V Q U O D=>by have a0:Q 0=v0:=(O.old 0 Z).trans h0;have ra0:=(f_v0.stp O.stp).eq a0;exact zAx ra0 (Nat.le_trans j.size O.ch.size))<|rp (fun V Q U O D=>zA9 Z)<|rz
 intro done ρ σ A R w y s
 replace h1:=k1 s.rg h1
 obtain ⟨b2_0,e_b2_0⟩:=s.boxv y 0 Z Z
 have h2:=s.ov y 0 0 e_b2_0
 replace f_v1:=f_v1.stp s.stp
 obtain ⟨B,j,d⟩:=s.s B C j q N
 replace q:=s.left y [(0,ob (.pointer (some ⟨b2_0,0,none⟩)) (.box w0.heap.size 69 zA0 p0))] ⟨Z,Z,e_b2_0,Z,Z,N⟩
 refine zQ0 ?_
 obtain ⟨x2,q3,c⟩:=zAB c
 obtain ⟨x4,q5,c⟩:=zAB c
 obtain ⟨x6,q7,c⟩:=zAf c
 obtain ⟨e8,c⟩:=zAC c
 obtain ⟨x9,q10,c⟩:=zAf c
 refine zPw (by kernel_rfl) (l:=eR v1::eB x2::eB x2::gR (true&&(x2==true)) (.pointer (some ⟨b2_0,0,none⟩))::gI (true&&(x2==true)) p0.1::gB (true&&(x2==true)) x4::eB x6::eB x6::gR (true&&(x6==true)) v1::gR (true&&(x6==true)) (.pointer (some ⟨b2_0,0,none⟩))::gI (true&&(x6==true)) p0.1::gF (true&&(x6==true)) (.qtr (eInt .i64) A (gtD p1 p0.1))::gI (true&&(x6==true)) (gtD p1 p0.1)::gR (true&&(x6==true)) (.pointer (some ⟨b2_0,1,none⟩))::gI (true&&(x6==true)) p0.2.1::gB (true&&(x6==true)) (decide (p0.2.1<=(gtD p1 p0.1)))::gR (true&&(x6==true)) (.pointer (some ⟨b2_0,2,none⟩))::gB (true&&(x6==true)) p0.2.2::gB (true&&(x6==true)) ((decide (p0.2.1<=(gtD p1 p0.1))) != p0.2.2)::eB x9::eB x9::[]) (tl:=[]) (by kernel_rfl) (by kernel_rfl) (by kernel_rfl) (by kernel_rfl) ?_ ?_
 exact om h1<|op (fun Q U W H D=>zAN call42 (zCu (q3 Z) (d.fr W.size) ((f_v1.fr W).eq (D.g 0 Z))))<|ov<|og 2 true (fun G Q U W H D=>zA6 ((H 2 Z).trans h2) zDH sizeOf3 (by decide) Z)<|og 2 true (fun G Q U W H D=>OpF.int (zA7 ((q.fr W).ok 0 _ Z).1 (D.h 0 G Z) zAo Z isAgg3 sizeOf3))<|og 2 true (fun G Q U W H D=>zAN call49 (zCB (q5 G) (d.fr W.size) (D.h 0 G Z) Z Z))<|op (fun Q U W H D=>zAl x2 (D.g 0 Z) (fun hc=>by have a1:Q 10=.bool x4:=D 1 _ _ _ Z Z Z Z (zCH Z (zBA hc));show _=Value.bool x6;rw [q7,hc];exact a1) (fun hc=>by show _=Value.bool x6;rw [q7,hc];exact Z))<|ov<|gm 7 true h1<|og 7 true (fun G Q U W H D=>zA6 ((H 2 Z).trans h2) zDH sizeOf3 (by decide) Z)<|og 7 true (fun G Q U W H D=>OpF.int (zA7 ((q.fr W).ok 0 _ Z).1 (D.h 0 G Z) zAo Z isAgg3 sizeOf3))<|og 7 true (fun G Q U W H D=>zAL ((f_v1.fr W).eq (D.h 0 G Z)) (D.h 1 G Z) underlying27 sizeOf3 (gd e8 G))<|og 7 true (fun G Q U W H D=>OpF.int (zAb (QRep.ptr (D.h 0 G Z)) isAgg3 sizeOf3))<|og 7 true (fun G Q U W H D=>zA6 ((H 2 Z).trans h2) zDU sizeOf3 (by decide) Z)<|og 7 true (fun G Q U W H D=>OpF.int (zA7 ((q.fr W).ok 0 _ Z).1 (D.h 0 G Z) zAv Z isAgg3 sizeOf3))<|og 7 true (fun G Q U W H D=>zFq (D.h 0 G Z) (D.h 1 G Z))<|og 7 true (fun G Q U W H D=>zA6 ((H 2 Z).trans h2) zFM sizeOf4 (by decide) Z)<|og 7 true (fun G Q U W H D=>OpF.bool (zA7 ((q.fr W).ok 0 _ Z).1 (D.h 0 G Z) zCw Z isAgg4 sizeOf4))<|og 7 true (fun G Q U W H D=>zIM underlying4 (D.h 0 G Z) (D.h 1 G Z))<|op (fun Q U W H D=>zAl x6 (D.g 0 Z) (fun hc=>by have a1:Q 23=.bool ((decide (p0.2.1<=(gtD p1 p0.1))) != p0.2.2):=D 1 _ _ _ Z Z Z Z (zCH Z (zBA hc));show _=Value.bool x9;rw [q10,hc];exact a1) (fun hc=>by show _=Value.bool x9;rw [q10,hc];exact Z))<|oa<|oz
 intro R w m n p
 have h4:=p.r 20 Z
 replace q:=q.fr m
 replace q:IniOK [] A w:=q.sub [] N
 replace d:=d.fr m.size
 replace j:=j.trans m
 refine HT.ret ?_
 obtain rfl:=si c
 exact ⟨.inr Z,[R 4],⟨Z,N⟩,h4,j⟩
def zCP (fu : Nat) (p0 : zA8) (p1 : List Int) : Nat -> Int -> Option (Ex Bool Unit)
 | 0,_=>none
 | k+1,y5=>
 bif (decide (y5<(p0.length:Int))) then (
 ck (inR y5 p0.length) <|
 cl true (zDq fu (gtD p0 y5) p1) fun x8=>
 bif (!x8) then (
 some (Ex.ret false)
 ) else (
 ck (i64B (y5+1)) <|
 zCP fu p0 p1 k (y5+1)
 )
 ) else (
 some (Ex.go ())
 )
def zDn (fu:Nat) (p0:zA8) (p1:List Int):Option Bool:=
 cl true (zCP fu p0 p1 fu 0) fun rl2=>
 exM rl2 (fun r=>some r) fun s4=>
 cl true (zBc fu p1) fun x12=>
 some x12
theorem zGs {fu : Nat} {A0 : Av} {p0 : zA8} {p1 : List Int} {r : Bool} (c : zDn fu p0 p1 = some r) {w : World} {v0 : Value} {v1 : Value} (d : AvOK A0 w) (h0 : Rep zAF A0 w v0 p0) (h1 : Rep (eSl (eInt .i64)) A0 w v1 p1) :
 Calls prog 34 #[v0,v1] w fun e w'=>∃ v,e=.returned v/\(v=.bool r/\Fr w w'):=by
 unfold zDn at c
 obtain ⟨w0,hw0,j,C⟩:=pw d
 have hA00:AvOK A0 w0:=C
 rw [fw hw0]
 obtain ⟨A,hAe,B,d,q⟩:=pa d
 refine zAE [.tmp 4] func34 ntmps34 (by decide) Z Z (nb Z) ?_
 intro R hR
 have f_v0:Rep zAF A w v0 p0:=hAe ▸ h0
 replace h0:R 0=v0:=hR 0 _ Z
 have f_v1:Rep (eSl (eInt .i64)) A w v1 p1:=hAe ▸ h1
 replace h1:R 1=v1:=hR 1 _ Z
 refine zQ2 [] (⟨_,true,[],some (.box w0.heap.size 63 zAF p0),true,fun A=>.any⟩::rB false::[]) (ua (ur (UAll.nil))) q d ?_ ?_
 exact rc (OblR.made _ Z Z Z Z fun V Q U O D=>by have a0:Q 0=v0:=(O.old 0 Z).trans h0;have ra0:=(f_v0.stp O.stp).eq a0;exact zAx ra0 (Nat.le_trans j.size O.ch.size))<|rp (fun V Q U O D=>zA9 Z)<|rz
 intro done ρ σ A R w y s
 replace h1:=k1 s.rg h1
 obtain ⟨b2_0,e_b2_0⟩:=s.boxv y 0 Z Z
 have h2:=s.ov y 0 0 e_b2_0
 replace f_v1:=f_v1.stp s.stp
 obtain ⟨B,j,d⟩:=s.s B C j q N
 replace q:=s.left y [(0,ob (.pointer (some ⟨b2_0,0,none⟩)) (.box w0.heap.size 63 zAF p0))] ⟨Z,Z,e_b2_0,Z,Z,N⟩
 refine zQ0 ?_
 refine zQ1 d j (eI 0::[]) ?_ ?_
 exact op (fun Q U W H D=>zA9 Z)<|oz
 intro R w m n p d j
 obtain ⟨h1,h2⟩:=k2 n h1 h2
 have h5:=p.r 0 Z
 replace f_v1:=f_v1.fr m
 replace q:=q.fr m
 obtain ⟨rl2,q3,c⟩:=zAB c
 replace q3:=q3 Z
 refine zPv (fun R w=>∃ A:Av,∃ (s4:Unit),rl2=Ex.go s4/\AvOK A w/\Fr w0 w/\(∀ b o,A0 b o->A b o)/\IniOK [] A w/\R 1=v1/\Rep (eSl (eInt .i64)) A w v1 p1) ?_ ?_
 refine HT.block<|zPz (fun k R w=>∃ A:Av,∃ (y5:Int),zCP fu p0 p1 k y5=some rl2/\AvOK A w/\Fr w0 w/\(∀ b o,A0 b o->A b o)/\IniOK [ob (.pointer (some ⟨b2_0,0,none⟩)) (.box w0.heap.size 63 zAF p0)] A w/\R 1=v1/\R 2=(.pointer (some ⟨b2_0,0,none⟩))/\R 5=.int .i64 y5/\Rep (eSl (eInt .i64)) A w v1 p1) fu ⟨_,_,q3,d,j,B,q,h1,h2,h5,f_v1⟩ ?_
 have hr0:=c;clear c q3
 rintro k R w ⟨A,y5,c,d,j,B,q,h1,h2,h5,f_v1⟩
 rcases k with _ | k
 cases (show none=some _ from c)
 rw [zCP] at c
 refine zQ0 ?_
 refine zQ1 d j (eI y5::eR (.pointer (some ⟨b2_0,0,none⟩))::eF (.rep (eSl zA0) A p0)::eI (p0.length:Int)::eB (decide (y5<(p0.length:Int)))::[]) ?_ ?_
 exact om h5<|op (fun Q U W H D=>zA6 ((H 2 Z).trans h2) zDI sizeOf44 (by decide) Z)<|op (fun Q U W H D=>(zA7 ((q.fr W).ok 0 _ Z).1 (D.g 0 Z) zBQ Z isAgg44 sizeOf44))<|op (fun Q U W H D=>zAY (aT:=#[]) (D.g 0 Z) underlying44)<|op (fun Q U W H D=>zBS (D.g 0 Z) (D.g 1 Z))<|oz
 intro R w m n p d j
 obtain ⟨h1,h2,h5⟩:=k3 n h1 h2 h5
 have h10:=p.r 4 Z
 replace f_v1:=f_v1.fr m
 replace q:=q.fr m
 refine zPt (decide (y5<(p0.length:Int))) h10 (fun c6=>?_) (fun c6=>?_)
 have c:=zAh c6 c
 refine HT.skip<|zQ0 ?_
 refine HT.block ?_
 obtain ⟨e7,c⟩:=zAC c
 obtain ⟨x8,q9,c⟩:=zAB c
 refine zQ1 d j (eR (.pointer (some ⟨b2_0,0,none⟩))::eF (.rep (eSl zA0) A p0)::eI y5::eF (.qtr zA0 A (gtD p0 y5))::eF (.rep zA0 A (gtD p0 y5))::eR v1::eB x8::eB (!x8)::[]) ?_ ?_
 exact op (fun Q U W H D=>zA6 ((H 2 Z).trans h2) zDI sizeOf44 (by decide) Z)<|op (fun Q U W H D=>(zA7 ((q.fr W).ok 0 _ Z).1 (D.g 0 Z) zBQ Z isAgg44 sizeOf44))<|om h5<|op (fun Q U W H D=>zAL (D.g 0 Z) (D.g 1 Z) underlying44 sizeOf69 e7)<|op (fun Q U W H D=>(zAb (QRep.ptr (D.g 0 Z)) isAgg69 sizeOf69))<|om h1<|op (fun Q U W H D=>zAN call68 (zGz (q9 Z) (d.fr W.size) (D.g 0 Z) ((f_v1.fr W).eq (D.g 1 Z))))<|op (fun Q U W H D=>zCM (D.g 0 Z))<|oz
 intro R w m n p d j
 obtain ⟨h1,h2,h5⟩:=k3 n h1 h2 h5
 have h20:=p.r 7 Z
 replace f_v1:=f_v1.fr m
 replace q:=q.fr m
 refine zPt (!x8) h20 (fun c10=>?_) (fun c10=>?_)
 have c:=zAh c10 c
 refine zQ1 d j (eB false::[]) ?_ ?_
 exact op (fun Q U W H D=>zA9 Z)<|oz
 intro R w m n p d j
 have h4:=p.r 0 Z
 replace q:=q.fr m
 replace q:IniOK [] A w:=q.sub [] N
 refine HT.ret ?_
 obtain rfl:=si c
 have c:=hr0
 replace c:some _=some _:=c
 obtain rfl:=si c
 exact ⟨.inr Z,[R 4],⟨Z,N⟩,h4,j⟩
 have c:=zAg c10 c
 refine HT.skip ?_
 obtain ⟨e11,c⟩:=zAC c
 refine HT.u d j (eI y5::eI (y5+1)::eI (y5+1)::[]) ?_ ?_
 exact om h5<|op (fun Q U W H D=>zAi (D.g 0 Z) Z e11)<|oa<|oz
 intro R w m n p d j
 obtain ⟨h1,h2⟩:=k2 n h1 h2
 have h5:=p.r 2 Z
 replace f_v1:=f_v1.fr m
 replace q:=q.fr m
 exact ei k (And.intro (Nat.lt_succ_self k) ⟨_,_,c,d,j,B,q,h1,h2,h5,f_v1⟩)
 have c:=zAg c6 c
 refine zPy ?_
 obtain rfl:=si c
 replace q:IniOK [] A w:=q.sub [] N
 exact ei _ ⟨_,Z,d,j,B,q,h1,f_v1⟩
 rintro R w ⟨A,s4,rfl,d,j,B,q,h1,f_v1⟩
 have c:=zEG c
 obtain ⟨x12,q13,c⟩:=zAB c
 refine zQ1 d j (eR v1::eB x12::eB x12::[]) ?_ ?_
 exact om h1<|op (fun Q U W H D=>zAN call42 (zCu (q13 Z) (d.fr W.size) ((f_v1.fr W).eq (D.g 0 Z))))<|oa<|oz
 intro R w m n p d j
 have h4:=p.r 2 Z
 replace q:=q.fr m
 refine HT.ret ?_
 obtain rfl:=si c
 exact ⟨.inr Z,[R 4],⟨Z,N⟩,h4,j⟩
def zC6 (fu : Nat) (p0 : zAD) (p1 : List Int) : Nat -> Int -> Option (Ex Int Unit)
 | 0,_=>none
 | k+1,y5=>
 cl (true&&((decide (y5<(p0.length:Int)))==true)) (zC8 fu p0) fun x6=>
 bd ((decide (y5<(p0.length:Int)))&&x6) fun x8=>
 bif x8 then (
 ck (inR y5 p0.length) <|
 cl true (zDn fu (gtD p0 y5) p1) fun x12=>
 bif x12 then (
 some (Ex.ret y5)
 ) else (
 ck (i64B (y5+1)) <|
 zC6 fu p0 p1 k (y5+1)
 )
 ) else (
 some (Ex.go ())
 )
def zDW (fu:Nat) (p0:zAD) (p1:List Int):Option Int:=
 cl true (zC6 fu p0 p1 fu 0) fun rl2=>
 exM rl2 (fun r=>some r) fun s4=>
 some (-1)
theorem zFE {fu : Nat} {A0 : Av} {p0 : zAD} {p1 : List Int} {r : Int} (c : zDW fu p0 p1 = some r) {w : World} {v0 : Value} {v1 : Value} (d : AvOK A0 w) (h0 : Rep zA2 A0 w v0 p0) (h1 : Rep (eSl (eInt .i64)) A0 w v1 p1) :
 Calls prog 10 #[v0,v1] w fun e w'=>∃ v,e=.returned v/\(v=.int .i64 r/\Fr w w'):=by
 unfold zDW at c
 obtain ⟨w0,hw0,j,C⟩:=pw d
 have hA00:AvOK A0 w0:=C
 rw [fw hw0]
 obtain ⟨A,hAe,B,d,q⟩:=pa d
 refine zAE [.tmp 4] func10 ntmps10 (by decide) Z Z (nb Z) ?_
 intro R hR
 have f_v0:Rep zA2 A w v0 p0:=hAe ▸ h0
 replace h0:R 0=v0:=hR 0 _ Z
 have f_v1:Rep (eSl (eInt .i64)) A w v1 p1:=hAe ▸ h1
 replace h1:R 1=v1:=hR 1 _ Z
 refine zQ2 [] (⟨_,true,[],some (.box w0.heap.size 26 zA2 p0),true,fun A=>.any⟩::rI 0::[]) (ua (ur (UAll.nil))) q d ?_ ?_
 exact rc (OblR.made _ Z Z Z Z fun V Q U O D=>by have a0:Q 0=v0:=(O.old 0 Z).trans h0;have ra0:=(f_v0.stp O.stp).eq a0;exact zAx ra0 (Nat.le_trans j.size O.ch.size))<|rp (fun V Q U O D=>zA9 Z)<|rz
 intro done ρ σ A R w y s
 replace h1:=k1 s.rg h1
 obtain ⟨b2_0,e_b2_0⟩:=s.boxv y 0 Z Z
 have h2:=s.ov y 0 0 e_b2_0
 replace f_v1:=f_v1.stp s.stp
 obtain ⟨B,j,d⟩:=s.s B C j q N
 replace q:=s.left y [(0,ob (.pointer (some ⟨b2_0,0,none⟩)) (.box w0.heap.size 26 zA2 p0))] ⟨Z,Z,e_b2_0,Z,Z,N⟩
 refine zQ0 ?_
 refine zQ1 d j (eI 0::[]) ?_ ?_
 exact op (fun Q U W H D=>zA9 Z)<|oz
 intro R w m n p d j
 obtain ⟨h1,h2⟩:=k2 n h1 h2
 have h5:=p.r 0 Z
 replace f_v1:=f_v1.fr m
 replace q:=q.fr m
 obtain ⟨rl2,q3,c⟩:=zAB c
 replace q3:=q3 Z
 refine zPv (fun R w=>∃ A:Av,∃ (s4:Unit),rl2=Ex.go s4/\AvOK A w/\Fr w0 w/\(∀ b o,A0 b o->A b o)/\IniOK [] A w) ?_ ?_
 refine HT.block<|zPz (fun k R w=>∃ A:Av,∃ (y5:Int),zC6 fu p0 p1 k y5=some rl2/\AvOK A w/\Fr w0 w/\(∀ b o,A0 b o->A b o)/\IniOK [ob (.pointer (some ⟨b2_0,0,none⟩)) (.box w0.heap.size 26 zA2 p0)] A w/\R 1=v1/\R 2=(.pointer (some ⟨b2_0,0,none⟩))/\R 5=.int .i64 y5/\Rep (eSl (eInt .i64)) A w v1 p1) fu ⟨_,_,q3,d,j,B,q,h1,h2,h5,f_v1⟩ ?_
 have hr0:=c;clear c q3
 rintro k R w ⟨A,y5,c,d,j,B,q,h1,h2,h5,f_v1⟩
 rcases k with _ | k
 cases (show none=some _ from c)
 rw [zC6] at c
 refine zQ0 ?_
 refine zQ0 ?_
 obtain ⟨x6,q7,c⟩:=zAB c
 obtain ⟨x8,q9,c⟩:=zAf c
 refine HT.u d j (eI y5::eR (.pointer (some ⟨b2_0,0,none⟩))::eF (.rep (eSl zAF) A p0)::eI (p0.length:Int)::eB (decide (y5<(p0.length:Int)))::eB (decide (y5<(p0.length:Int)))::gF (true&&((decide (y5<(p0.length:Int)))==true)) (.rep zA2 A p0)::gB (true&&((decide (y5<(p0.length:Int)))==true)) x6::eB x8::[]) ?_ ?_
 exact om h5<|op (fun Q U W H D=>zA6 ((H 2 Z).trans h2) zCh sizeOf24 (by decide) Z)<|op (fun Q U W H D=>(zA7 ((q.fr W).ok 0 _ Z).1 (D.g 0 Z) zAd Z isAgg24 sizeOf24))<|op (fun Q U W H D=>zAY (aT:=#[]) (D.g 0 Z) underlying24)<|op (fun Q U W H D=>zBS (D.g 0 Z) (D.g 1 Z))<|ov<|og 5 true (fun G Q U W H D=>(zA7 ((q.fr W).ok 0 _ Z).1 ((H 2 Z).trans h2) (Fld.id _) Z isAgg26 sizeOf26))<|og 5 true (fun G Q U W H D=>zAN call27 (zDT (q7 G) (d.fr W.size) (D.h 0 G Z)))<|op (fun Q U W H D=>zAl (decide (y5<(p0.length:Int))) (D.g 0 Z) (fun hc=>by have a1:Q 13=.bool x6:=D 1 _ _ _ Z Z Z Z (zCH Z (zBA hc));show _=Value.bool x8;rw [q9,hc];exact a1) (fun hc=>by show _=Value.bool x8;rw [q9,hc];exact Z))<|oz
 intro R w m n p d j
 obtain ⟨h1,h2,h5⟩:=k3 n h1 h2 h5
 have h14:=p.r 8 Z
 replace f_v1:=f_v1.fr m
 replace q:=q.fr m
 refine zPt x8 h14 (fun c10=>?_) (fun c10=>?_)
 have c:=zAh c10 c
 refine HT.skip<|zQ0 ?_
 refine HT.block ?_
 obtain ⟨e11,c⟩:=zAC c
 obtain ⟨x12,q13,c⟩:=zAB c
 refine zQ1 d j (eR (.pointer (some ⟨b2_0,0,none⟩))::eF (.rep (eSl zAF) A p0)::eI y5::eF (.qtr zAF A (gtD p0 y5))::eF (.rep zAF A (gtD p0 y5))::eR v1::eB x12::[]) ?_ ?_
 exact op (fun Q U W H D=>zA6 ((H 2 Z).trans h2) zCh sizeOf24 (by decide) Z)<|op (fun Q U W H D=>(zA7 ((q.fr W).ok 0 _ Z).1 (D.g 0 Z) zAd Z isAgg24 sizeOf24))<|om h5<|op (fun Q U W H D=>zAL (D.g 0 Z) (D.g 1 Z) underlying24 sizeOf63 e11)<|op (fun Q U W H D=>(zAb (QRep.ptr (D.g 0 Z)) isAgg63 sizeOf63))<|om h1<|op (fun Q U W H D=>zAN call34 (zGs (q13 Z) (d.fr W.size) (D.g 0 Z) ((f_v1.fr W).eq (D.g 1 Z))))<|oz
 intro R w m n p d j
 obtain ⟨h1,h2,h5⟩:=k3 n h1 h2 h5
 have h23:=p.r 6 Z
 replace f_v1:=f_v1.fr m
 replace q:=q.fr m
 refine zPt x12 h23 (fun c14=>?_) (fun c14=>?_)
 have c:=zAh c14 c
 refine zQ1 d j (eI y5::eI y5::[]) ?_ ?_
 exact om h5<|oa<|oz
 intro R w m n p d j
 have h4:=p.r 1 Z
 replace q:=q.fr m
 replace q:IniOK [] A w:=q.sub [] N
 refine HT.ret ?_
 obtain rfl:=si c
 have c:=hr0
 replace c:some _=some _:=c
 obtain rfl:=si c
 exact ⟨.inr Z,[R 4],⟨Z,N⟩,h4,j⟩
 have c:=zAg c14 c
 refine HT.skip ?_
 obtain ⟨e15,c⟩:=zAC c
 refine HT.u d j (eI y5::eI (y5+1)::eI (y5+1)::[]) ?_ ?_
 exact om h5<|op (fun Q U W H D=>zAi (D.g 0 Z) Z e15)<|oa<|oz
 intro R w m n p d j
 obtain ⟨h1,h2⟩:=k2 n h1 h2
 have h5:=p.r 2 Z
 replace f_v1:=f_v1.fr m
 replace q:=q.fr m
 exact ei k (And.intro (Nat.lt_succ_self k) ⟨_,_,c,d,j,B,q,h1,h2,h5,f_v1⟩)
 have c:=zAg c10 c
 refine zPy ?_
 obtain rfl:=si c
 replace q:IniOK [] A w:=q.sub [] N
 exact ei _ ⟨_,Z,d,j,B,q⟩
 rintro R w ⟨A,s4,rfl,d,j,B,q⟩
 have c:=zEG c
 refine zQ1 d j (eI (-1)::[]) ?_ ?_
 exact op (fun Q U W H D=>zA9 Z)<|oz
 intro R w m n p d j
 have h4:=p.r 0 Z
 replace q:=q.fr m
 refine HT.ret ?_
 obtain rfl:=si c
 exact ⟨.inr Z,[R 4],⟨Z,N⟩,h4,j⟩
def zAe (fu:Nat) (p0:List zA4) (p1:zA4):Option Bool:=
 cl true (zAU fu p0 p1) fun x2=>
 some (decide (0<=x2))
theorem zDB {fu : Nat} {A0 : Av} {p0 : List zA4} {p1 : zA4} {r : Bool} (c : zAe fu p0 p1 = some r) {w : World} {v0 : Value} {v1 : Value} (d : AvOK A0 w) (h0 : Rep (eSl zA1) A0 w v0 p0) (h1 : Rep zA1 A0 w v1 p1) :
 Calls prog 47 #[v0,v1] w fun e w'=>∃ v,e=.returned v/\(v=.bool r/\Fr w w'):=by
 unfold zAe at c
 obtain ⟨w0,hw0,j,C⟩:=pw d
 have hA00:AvOK A0 w0:=C
 rw [fw hw0]
 obtain ⟨A,hAe,B,d,q⟩:=pa d
 refine zAE [.tmp 4] func47 ntmps47 (by decide) Z Z (nb Z) ?_
 intro R hR
 have f_v0:Rep (eSl zA1) A w v0 p0:=hAe ▸ h0
 replace h0:R 0=v0:=hR 0 _ Z
 have f_v1:Rep zA1 A w v1 p1:=hAe ▸ h1
 replace h1:R 1=v1:=hR 1 _ Z
 refine zQ2 [] (⟨_,true,[],some (.box w0.heap.size 60 zA1 p1),true,fun A=>.any⟩::rB false::[]) (ua (ur (UAll.nil))) q d ?_ ?_
 exact rc (OblR.made _ Z Z Z Z fun V Q U O D=>by have a0:Q 1=v1:=(O.old 1 Z).trans h1;have ra0:=(f_v1.stp O.stp).eq a0;exact zAx ra0 (Nat.le_trans j.size O.ch.size))<|rp (fun V Q U O D=>zA9 Z)<|rz
 intro done ρ σ A R w y s
 replace h0:=k1 s.rg h0
 obtain ⟨b3_0,e_b3_0⟩:=s.boxv y 0 Z Z
 have h3:=s.ov y 0 0 e_b3_0
 replace f_v0:=f_v0.stp s.stp
 obtain ⟨B,j,d⟩:=s.s B C j q N
 replace q:=s.left y [(0,ob (.pointer (some ⟨b3_0,0,none⟩)) (.box w0.heap.size 60 zA1 p1))] ⟨Z,Z,e_b3_0,Z,Z,N⟩
 obtain ⟨x2,q3,c⟩:=zAB c
 refine zQ1 d j (eR v0::eF (.rep zA1 A p1)::eI x2::eB (decide (0<=x2))::eB (decide (0<=x2))::[]) ?_ ?_
 exact om h0<|op (fun Q U W H D=>(zA7 ((q.fr W).ok 0 _ Z).1 ((H 3 Z).trans h3) (Fld.id _) Z isAgg60 sizeOf60))<|op (fun Q U W H D=>zAN call62 (zC9 (q3 Z) (d.fr W.size) ((f_v0.fr W).eq (D.g 0 Z)) (D.g 1 Z)))<|op (fun Q U W H D=>zFq (D.g 0 Z) Z)<|oa<|oz
 intro R w m n p d j
 have h4:=p.r 4 Z
 replace q:=q.fr m
 replace q:IniOK [] A w:=q.sub [] N
 refine HT.ret ?_
 obtain rfl:=si c
 exact ⟨.inr Z,[R 4],⟨Z,N⟩,h4,j⟩
def zCI (fu:Nat) (p0:zAG) (p1:Int) (p2:Int):Option Bool:=
 ck (i64B (p1+1)) <|
 cl true (zCa fu p2 0 (p1+1)) fun x3=>
 bif (!x3) then (
 some false
 ) else (
 bif (decide (p2<2)) then (
 some true
 ) else (
 ck (inR p1 p0.2.length) <|
 ck (i64B (p2-2)) <|
 ck (inR (p2-2) p0.2.length) <|
 bd ((((gtD p0.2 (p2-2)).1)==((gtD p0.2 p1).1))&&(decide (((gtD p0.2 p1).2.1)<((gtD p0.2 (p2-2)).2.1)))) fun x15=>
 bd ((decide (((gtD p0.2 p1).1)<((gtD p0.2 (p2-2)).1))) || x15) fun x17=>
 some x17
 )
 )
theorem zEI {fu : Nat} {A0 : Av} {p0 : zAG} {p1 : Int} {p2 : Int} {r : Bool} (c : zCI fu p0 p1 p2 = some r) {w : World} {v0 : Value} {v1 : Value} {v2 : Value} (d : AvOK A0 w) (h0 : Rep zA5 A0 w v0 p0) (h1 : v1=.int .i64 p1) (h2 : v2=.int .i64 p2) :
 Calls prog 48 #[v0,v1,v2] w fun e w'=>∃ v,e=.returned v/\(v=.bool r/\Fr w w'):=by
 unfold zCI at c
 obtain ⟨w0,hw0,j,C⟩:=pw d
 have hA00:AvOK A0 w0:=C
 rw [fw hw0]
 obtain ⟨A,hAe,B,d,q⟩:=pa d
 refine zAE [.tmp 6] func48 ntmps48 (by decide) Z Z (nb Z) ?_
 intro R hR
 have f_v0:Rep zA5 A w v0 p0:=hAe ▸ h0
 replace h0:R 0=v0:=hR 0 _ Z
 replace h1:R 1=.int .i64 p1:=(hR 1 _ Z).trans h1
 replace h2:R 2=.int .i64 p2:=(hR 2 _ Z).trans h2
 refine zQ2 [] (⟨_,true,[],some (.box w0.heap.size 32 zA5 p0),true,fun A=>.any⟩::rB false::[]) (ua (ur (UAll.nil))) q d ?_ ?_
 exact rc (OblR.made _ Z Z Z Z fun V Q U O D=>by have a0:Q 0=v0:=(O.old 0 Z).trans h0;have ra0:=(f_v0.stp O.stp).eq a0;exact zAx ra0 (Nat.le_trans j.size O.ch.size))<|rp (fun V Q U O D=>zA9 Z)<|rz
 intro done ρ σ A R w y s
 obtain ⟨h1,h2⟩:=k2 s.rg h1 h2
 obtain ⟨b3_0,e_b3_0⟩:=s.boxv y 0 Z Z
 have h3:=s.ov y 0 0 e_b3_0
 obtain ⟨B,j,d⟩:=s.s B C j q N
 replace q:=s.left y [(0,ob (.pointer (some ⟨b3_0,0,none⟩)) (.box w0.heap.size 32 zA5 p0))] ⟨Z,Z,e_b3_0,Z,Z,N⟩
 refine zQ0 ?_
 obtain ⟨e2,c⟩:=zAC c
 obtain ⟨x3,q4,c⟩:=zAB c
 refine zQ1 d j (eI p2::eI p1::eI (p1+1)::eB x3::eB (!x3)::[]) ?_ ?_
 exact om h2<|om h1<|op (fun Q U W H D=>zAi (D.g 0 Z) Z e2)<|op (fun Q U W H D=>zAN call44 (zD6 (q4 Z) (d.fr W.size) (D.g 0 Z) Z (D.g 1 Z)))<|op (fun Q U W H D=>zCM (D.g 0 Z))<|oz
 intro R w m n p d j
 obtain ⟨h1,h2,h3⟩:=k3 n h1 h2 h3
 have h13:=p.r 4 Z
 replace q:=q.fr m
 refine zPt (!x3) h13 (fun c5=>?_) (fun c5=>?_)
 have c:=zAh c5 c
 refine zQ1 d j (eB false::[]) ?_ ?_
 exact op (fun Q U W H D=>zA9 Z)<|oz
 intro R w m n p d j
 have h6:=p.r 0 Z
 replace q:=q.fr m
 replace q:IniOK [] A w:=q.sub [] N
 refine HT.ret ?_
 obtain rfl:=si c
 exact ⟨.inr Z,[R 6],⟨Z,N⟩,h6,j⟩
 have c:=zAg c5 c
 refine HT.skip<|zQ0 ?_
 refine zQ1 d j (eI p2::eB (decide (p2<2))::[]) ?_ ?_
 exact om h2<|op (fun Q U W H D=>zBS (D.g 0 Z) Z)<|oz
 intro R w m n p d j
 obtain ⟨h1,h2,h3⟩:=k3 n h1 h2 h3
 have h15:=p.r 1 Z
 replace q:=q.fr m
 refine zPt (decide (p2<2)) h15 (fun c6=>?_) (fun c6=>?_)
 have c:=zAh c6 c
 refine zQ1 d j (eB true::[]) ?_ ?_
 exact op (fun Q U W H D=>zA9 Z)<|oz
 intro R w m n p d j
 have h6:=p.r 0 Z
 replace q:=q.fr m
 replace q:IniOK [] A w:=q.sub [] N
 refine HT.ret ?_
 obtain rfl:=si c
 exact ⟨.inr Z,[R 6],⟨Z,N⟩,h6,j⟩
 have c:=zAg c6 c
 refine HT.skip<|zQ0 ?_
 obtain ⟨e7,e8,e9,c⟩:=ck3 c
 refine zPx [ob (.pointer (some ⟨b3_0,0,none⟩)) (.box w0.heap.size 32 zA5 p0)] (rR (.pointer (some ⟨b3_0,1,none⟩))::(rF fun A=>.rep (eSl zA1) A p0.2)::rI p1::(rF fun A=>.qtr zA1 A (gtD p0.2 p1))::(rF fun A=>.rep zA1 A (gtD p0.2 p1))::rR (.pointer (some ⟨b3_0,1,none⟩))::(rF fun A=>.rep (eSl zA1) A p0.2)::rI p2::rI (p2-2)::(rF fun A=>.qtr zA1 A (gtD p0.2 (p2-2)))::(rF fun A=>.rep zA1 A (gtD p0.2 (p2-2)))::⟨_,true,[],some (.box w0.heap.size 60 zA1 (0,(0,(0,0)))),true,fun A=>.any⟩::⟨_,true,[],some (.box w0.heap.size 60 zA1 (0,(0,(0,0)))),true,fun A=>.any⟩::⟨_,true,[12],some (.box w0.heap.size 60 zA1 (gtD p0.2 p1)),false,fun A=>.any⟩::⟨_,true,[13],some (.box w0.heap.size 60 zA1 (gtD p0.2 (p2-2))),false,fun A=>.any⟩::[]) (by kernel_rfl) (by kernel_rfl) (by kernel_rfl) (Wf.mk' (by kernel_rfl) (ur (up (ur (UAll.cons zCA (up (ur (up (ur (ur (UAll.cons zCA (up (ua (ua (ua (ua (UAll.nil)))))))))))))))) (by kernel_rfl) (by kernel_rfl)) q d ?_ ?_
 exact rp (fun V Q U O D=>zA6 ((O.old 3 Z).trans h3) zCr sizeOf30 (by decide) Z)<|rp (fun V Q U O D=>(zA7 (O.rd 0 _ Z Z) (D.g 0 Z) zAc Z isAgg30 sizeOf30))<|rm h1<|rp (fun V Q U O D=>zAL (D.g 0 Z) (D.g 1 Z) underlying30 sizeOf60 e7)<|rp (fun V Q U O D=>(zAb (QRep.ptr (D.g 0 Z)) isAgg60 sizeOf60))<|rp (fun V Q U O D=>zA6 ((O.old 3 Z).trans h3) zCr sizeOf30 (by decide) Z)<|rp (fun V Q U O D=>(zA7 (O.rd 0 _ Z Z) (D.g 0 Z) zAc Z isAgg30 sizeOf30))<|rm h2<|rp (fun V Q U O D=>zGm (D.g 0 Z) Z e8)<|rp (fun V Q U O D=>zAL (D.g 0 Z) (D.g 1 Z) underlying30 sizeOf60 e9)<|rp (fun V Q U O D=>(zAb (QRep.ptr (D.g 0 Z)) isAgg60 sizeOf60))<|rc (OblR.made _ Z Z Z Z fun V Q U O D=>by exact zBP zeroValue60 (fun A w=>zAy zAP (zAy zAP (zAy zAP zAP))) (Nat.le_trans j.size O.ch.size))<|rc (OblR.made _ Z Z Z Z fun V Q U O D=>by exact zBP zeroValue60 (fun A w=>zAy zAP (zAy zAP (zAy zAP zAP))) (Nat.le_trans j.size O.ch.size))<|rc (OblR.took 12 _ _ Z Z Z Z Z fun V Q U O D u X Y J L M=>by have a1:Rep zA1 V U (Q 20) (gtD p0.2 p1):=D.g 1 Z;obtain ⟨b,hb,hB',hbx⟩:=X;have hop':=L _ _ Z Z Z Z;exact zAp a1 (hop'.symm.trans hb) hb ⟨b,hb,hB',hbx⟩ Y (FldS.id _) sizeOf60 Z)<|rc (OblR.took 13 _ _ Z Z Z Z Z fun V Q U O D u X Y J L M=>by have a1:Rep zA1 V U (Q 26) (gtD p0.2 (p2-2)):=D.g 1 Z;obtain ⟨b,hb,hB',hbx⟩:=X;have hop':=L _ _ Z Z Z Z;exact zAp a1 (hop'.symm.trans hb) hb ⟨b,hb,hB',hbx⟩ Y (FldS.id _) sizeOf60 Z)<|rz
 intro done ρ σ A R w y s
 have z10:=s.inivR 0 Z
 obtain ⟨b7_10,e_b7_10⟩:=s.boxv y 14 Z Z
 have z12:=(s.opnR y 14 13 Z Z Z Z Z).symm.trans e_b7_10
 have h7:=s.ov y 12 11 z12
 obtain ⟨b8_12,e_b8_12⟩:=s.boxv y 15 Z Z
 have z14:=(s.opnR y 15 14 Z Z Z Z Z).symm.trans e_b8_12
 have h8:=s.ov y 13 12 z14
 obtain ⟨B,j,d⟩:=s.s B C j q ⟨Z,N⟩
 replace q:=s.left y [(14,ob (.pointer (some ⟨b7_10,0,none⟩)) (.box w0.heap.size 60 zA1 (gtD p0.2 p1))),(15,ob (.pointer (some ⟨b8_12,0,none⟩)) (.box w0.heap.size 60 zA1 (gtD p0.2 (p2-2))))] ⟨Z,Z,e_b7_10,Z,Z,⟨Z,Z,e_b8_12,Z,Z,N⟩⟩
 refine zQ0 ?_
 obtain ⟨x15,q16,c⟩:=zAf c
 obtain ⟨x17,q18,c⟩:=zAf c
 refine HT.u d j (eR (.pointer (some ⟨b8_12,0,none⟩))::eI ((gtD p0.2 (p2-2)).1)::eR (.pointer (some ⟨b7_10,0,none⟩))::eI ((gtD p0.2 p1).1)::eB (decide (((gtD p0.2 p1).1)<((gtD p0.2 (p2-2)).1)))::eB (decide (((gtD p0.2 p1).1)<((gtD p0.2 (p2-2)).1)))::gR (true&&((decide (((gtD p0.2 p1).1)<((gtD p0.2 (p2-2)).1)))==false)) (.pointer (some ⟨b8_12,0,none⟩))::gI (true&&((decide (((gtD p0.2 p1).1)<((gtD p0.2 (p2-2)).1)))==false)) ((gtD p0.2 (p2-2)).1)::gR (true&&((decide (((gtD p0.2 p1).1)<((gtD p0.2 (p2-2)).1)))==false)) (.pointer (some ⟨b7_10,0,none⟩))::gI (true&&((decide (((gtD p0.2 p1).1)<((gtD p0.2 (p2-2)).1)))==false)) ((gtD p0.2 p1).1)::gB (true&&((decide (((gtD p0.2 p1).1)<((gtD p0.2 (p2-2)).1)))==false)) (((gtD p0.2 (p2-2)).1)==((gtD p0.2 p1).1))::gB (true&&((decide (((gtD p0.2 p1).1)<((gtD p0.2 (p2-2)).1)))==false)) (((gtD p0.2 (p2-2)).1)==((gtD p0.2 p1).1))::gR ((true&&((decide (((gtD p0.2 p1).1)<((gtD p0.2 (p2-2)).1)))==false))&&((((gtD p0.2 (p2-2)).1)==((gtD p0.2 p1).1))==true)) (.pointer (some ⟨b8_12,1,none⟩))::gI ((true&&((decide (((gtD p0.2 p1).1)<((gtD p0.2 (p2-2)).1)))==false))&&((((gtD p0.2 (p2-2)).1)==((gtD p0.2 p1).1))==true)) ((gtD p0.2 (p2-2)).2.1)::gR ((true&&((decide (((gtD p0.2 p1).1)<((gtD p0.2 (p2-2)).1)))==false))&&((((gtD p0.2 (p2-2)).1)==((gtD p0.2 p1).1))==true)) (.pointer (some ⟨b7_10,1,none⟩))::gI ((true&&((decide (((gtD p0.2 p1).1)<((gtD p0.2 (p2-2)).1)))==false))&&((((gtD p0.2 (p2-2)).1)==((gtD p0.2 p1).1))==true)) ((gtD p0.2 p1).2.1)::gB ((true&&((decide (((gtD p0.2 p1).1)<((gtD p0.2 (p2-2)).1)))==false))&&((((gtD p0.2 (p2-2)).1)==((gtD p0.2 p1).1))==true)) (decide (((gtD p0.2 p1).2.1)<((gtD p0.2 (p2-2)).2.1)))::gB (true&&((decide (((gtD p0.2 p1).1)<((gtD p0.2 (p2-2)).1)))==false)) x15::eB x17::eB x17::[]) ?_ ?_
 exact op (fun Q U W H D=>zA6 ((H 8 Z).trans h8) zEk sizeOf3 (by decide) Z)<|op (fun Q U W H D=>OpF.int (zA7 ((q.fr W).ok 1 _ Z).1 (D.g 0 Z) zAn Z isAgg3 sizeOf3))<|op (fun Q U W H D=>zA6 ((H 7 Z).trans h7) zEk sizeOf3 (by decide) Z)<|op (fun Q U W H D=>OpF.int (zA7 ((q.fr W).ok 0 _ Z).1 (D.g 0 Z) zAn Z isAgg3 sizeOf3))<|op (fun Q U W H D=>zEJ (D.g 0 Z) (D.g 1 Z))<|ov<|og 5 false (fun G Q U W H D=>zA6 ((H 8 Z).trans h8) zEk sizeOf3 (by decide) Z)<|og 5 false (fun G Q U W H D=>OpF.int (zA7 ((q.fr W).ok 1 _ Z).1 (D.h 0 G Z) zAn Z isAgg3 sizeOf3))<|og 5 false (fun G Q U W H D=>zA6 ((H 7 Z).trans h7) zEk sizeOf3 (by decide) Z)<|og 5 false (fun G Q U W H D=>OpF.int (zA7 ((q.fr W).ok 0 _ Z).1 (D.h 0 G Z) zAn Z isAgg3 sizeOf3))<|og 5 false (fun G Q U W H D=>zDA (D.h 0 G Z) (D.h 1 G Z))<|og 5 false (fun G Q U W H D=>zBd (D.h 0 G Z))<|og 11 true (fun G Q U W H D=>zA6 ((H 8 Z).trans h8) zFe sizeOf3 (by decide) Z)<|og 11 true (fun G Q U W H D=>OpF.int (zA7 ((q.fr W).ok 1 _ Z).1 (D.h 0 G Z) zBE Z isAgg3 sizeOf3))<|og 11 true (fun G Q U W H D=>zA6 ((H 7 Z).trans h7) zFe sizeOf3 (by decide) Z)<|og 11 true (fun G Q U W H D=>OpF.int (zA7 ((q.fr W).ok 0 _ Z).1 (D.h 0 G Z) zBE Z isAgg3 sizeOf3))<|og 11 true (fun G Q U W H D=>zEJ (D.h 0 G Z) (D.h 1 G Z))<|og 5 false (fun G Q U W H D=>zAl (((gtD p0.2 (p2-2)).1)==((gtD p0.2 p1).1)) (D.h 0 G Z) (fun hc=>by have a1:Q 43=.bool (decide (((gtD p0.2 p1).2.1)<((gtD p0.2 (p2-2)).2.1))):=D 1 _ _ _ Z Z Z Z (zCH G (zBA hc));show _=Value.bool x15;rw [q16,hc];exact a1) (fun hc=>by show _=Value.bool x15;rw [q16,hc];exact Z))<|op (fun Q U W H D=>zAl (decide (((gtD p0.2 p1).1)<((gtD p0.2 (p2-2)).1))) (D.g 0 Z) (fun hc=>by show _=Value.bool x17;rw [q18,hc];exact Z) (fun hc=>by have a2:Q 44=.bool x15:=D 1 _ _ _ Z Z Z Z (zCH Z (zBA hc));show _=Value.bool x17;rw [q18,hc];exact a2))<|oa<|oz
 intro R w m n p d j
 have h6:=p.r 19 Z
 replace q:=q.fr m
 replace q:IniOK [] A w:=q.sub [] N
 refine HT.ret ?_
 obtain rfl:=si c
 exact ⟨.inr Z,[R 6],⟨Z,N⟩,h6,j⟩
def zB2 (fu : Nat) (p0 : zAG) : Nat -> Int -> Option (Ex Bool Unit)
 | 0,_=>none
 | k+1,y12=>
 bif (decide (y12<(p0.2.length:Int))) then (
 ck (inR y12 p0.2.length) <|
 cl true (zCg fu ((gtD p0.2 y12).1)) fun x18=>
 cl (true&&((!x18)==false)) (zD1 fu ((gtD p0.2 y12).2.1)) fun x20=>
 bd ((!x18) || (!x20)) fun x22=>
 bd (x22 || (((gtD p0.2 y12).2.2.1)==((gtD p0.2 y12).2.2.2))) fun x24=>
 ck (!(true&&(x24==false)) || subR 0 y12 p0.2.length) <|
 cl (true&&(x24==false)) (zAe fu (subL p0.2 0 y12) (gtD p0.2 y12)) fun x27=>
 bd (x24 || x27) fun x29=>
 bif x29 then (
 some (Ex.ret false)
 ) else (
 cl true (zCI fu p0 y12 ((gtD p0.2 y12).2.2.1)) fun x32=>
 cl (true&&((!x32)==false)) (zCI fu p0 y12 ((gtD p0.2 y12).2.2.2)) fun x34=>
 bd ((!x32) || (!x34)) fun x36=>
 bif x36 then (
 some (Ex.ret false)
 ) else (
 ck (i64B (y12+1)) <|
 zB2 fu p0 k (y12+1)
 )
 )
 ) else (
 some (Ex.go ())
 )
def zBF (fu:Nat) (p0:zAG):Option Bool:=
 ck (!(true&&((decide (200<(p0.2.length:Int)))==false)) || i64B ((p0.2.length:Int)+1)) <|
 cl (true&&((decide (200<(p0.2.length:Int)))==false)) (zCa fu p0.1 0 ((p0.2.length:Int)+1)) fun x3=>
 bd ((decide (200<(p0.2.length:Int))) || (!x3)) fun x5=>
 bif x5 then (
 some false
 ) else (
 cl true (zB2 fu p0 fu 0) fun rl9=>
 exM rl9 (fun r=>some r) fun s11=>
 some true
 )
theorem zCT {fu : Nat} {A0 : Av} {p0 : zAG} {r : Bool} (c : zBF fu p0 = some r) {w : World} {v0 : Value} (d : AvOK A0 w) (h0 : Rep zA5 A0 w v0 p0) :
 Calls prog 18 #[v0] w fun e w'=>∃ v,e=.returned v/\(v=.bool r/\Fr w w'):=by
 unfold zBF at c
 obtain ⟨w0,hw0,j,C⟩:=pw d
 have hA00:AvOK A0 w0:=C
 rw [fw hw0]
 obtain ⟨A,hAe,B,d,q⟩:=pa d
 refine zAE [.tmp 2] func18 ntmps18 (by decide) Z Z (nb Z) ?_
 intro R hR
 have f_v0:Rep zA5 A w v0 p0:=hAe ▸ h0
 replace h0:R 0=v0:=hR 0 _ Z
 refine zQ2 [] (⟨_,true,[],some (.box w0.heap.size 32 zA5 p0),true,fun A=>.any⟩::rB false::[]) (ua (ur (UAll.nil))) q d ?_ ?_
 exact rc (OblR.made _ Z Z Z Z fun V Q U O D=>by have a0:Q 0=v0:=(O.old 0 Z).trans h0;have ra0:=(f_v0.stp O.stp).eq a0;exact zAx ra0 (Nat.le_trans j.size O.ch.size))<|rp (fun V Q U O D=>zA9 Z)<|rz
 intro done ρ σ A R w y s
 obtain ⟨b1_0,e_b1_0⟩:=s.boxv y 0 Z Z
 have h1:=s.ov y 0 0 e_b1_0
 obtain ⟨B,j,d⟩:=s.s B C j q N
 replace q:=s.left y [(0,ob (.pointer (some ⟨b1_0,0,none⟩)) (.box w0.heap.size 32 zA5 p0))] ⟨Z,Z,e_b1_0,Z,Z,N⟩
 refine zQ0 ?_
 refine zQ0 ?_
 obtain ⟨e2,c⟩:=zAC c
 obtain ⟨x3,q4,c⟩:=zAB c
 obtain ⟨x5,q6,c⟩:=zAf c
 refine HT.u d j (eR (.pointer (some ⟨b1_0,1,none⟩))::eF (.rep (eSl zA1) A p0.2)::eI (p0.2.length:Int)::eB (decide (200<(p0.2.length:Int)))::eB (decide (200<(p0.2.length:Int)))::gR (true&&((decide (200<(p0.2.length:Int)))==false)) (.pointer (some ⟨b1_0,0,none⟩))::gI (true&&((decide (200<(p0.2.length:Int)))==false)) p0.1::gR (true&&((decide (200<(p0.2.length:Int)))==false)) (.pointer (some ⟨b1_0,1,none⟩))::gF (true&&((decide (200<(p0.2.length:Int)))==false)) (.rep (eSl zA1) A p0.2)::gI (true&&((decide (200<(p0.2.length:Int)))==false)) (p0.2.length:Int)::gI (true&&((decide (200<(p0.2.length:Int)))==false)) ((p0.2.length:Int)+1)::gB (true&&((decide (200<(p0.2.length:Int)))==false)) x3::gB (true&&((decide (200<(p0.2.length:Int)))==false)) (!x3)::eB x5::[]) ?_ ?_
 exact op (fun Q U W H D=>zA6 ((H 1 Z).trans h1) zCr sizeOf30 (by decide) Z)<|op (fun Q U W H D=>(zA7 ((q.fr W).ok 0 _ Z).1 (D.g 0 Z) zAc Z isAgg30 sizeOf30))<|op (fun Q U W H D=>zAY (aT:=#[]) (D.g 0 Z) underlying30)<|op (fun Q U W H D=>zEJ (D.g 0 Z) Z)<|ov<|og 4 false (fun G Q U W H D=>zA6 ((H 1 Z).trans h1) zFc sizeOf3 (by decide) Z)<|og 4 false (fun G Q U W H D=>OpF.int (zA7 ((q.fr W).ok 0 _ Z).1 (D.h 0 G Z) zCV Z isAgg3 sizeOf3))<|og 4 false (fun G Q U W H D=>zA6 ((H 1 Z).trans h1) zCr sizeOf30 (by decide) Z)<|og 4 false (fun G Q U W H D=>(zA7 ((q.fr W).ok 0 _ Z).1 (D.h 0 G Z) zAc Z isAgg30 sizeOf30))<|og 4 false (fun G Q U W H D=>zAY (aT:=#[]) (D.h 0 G Z) underlying30)<|og 4 false (fun G Q U W H D=>zAi (D.h 0 G Z) Z (gd e2 G))<|og 4 false (fun G Q U W H D=>zAN call44 (zD6 (q4 G) (d.fr W.size) (D.h 0 G Z) Z (D.h 1 G Z)))<|og 4 false (fun G Q U W H D=>zCM (D.h 0 G Z))<|op (fun Q U W H D=>zAl (decide (200<(p0.2.length:Int))) (D.g 0 Z) (fun hc=>by show _=Value.bool x5;rw [q6,hc];exact Z) (fun hc=>by have a2:Q 17=.bool (!x3):=D 1 _ _ _ Z Z Z Z (zCH Z (zBA hc));show _=Value.bool x5;rw [q6,hc];exact a2))<|oz
 intro R w m n p d j
 replace h1:=k1 n h1
 have h18:=p.r 13 Z
 replace q:=q.fr m
 refine zPt x5 h18 (fun c7=>?_) (fun c7=>?_)
 have c:=zAh c7 c
 refine zQ1 d j (eB false::[]) ?_ ?_
 exact op (fun Q U W H D=>zA9 Z)<|oz
 intro R w m n p d j
 have h2:=p.r 0 Z
 replace q:=q.fr m
 replace q:IniOK [] A w:=q.sub [] N
 refine HT.ret ?_
 obtain rfl:=si c
 exact ⟨.inr Z,[R 2],⟨Z,N⟩,h2,j⟩
 have c:=zAg c7 c
 refine HT.skip<|zQ0 ?_
 refine zQ1 d j (eR (.pointer (some ⟨b1_0,1,none⟩))::eF (.rep (eSl zA1) A p0.2)::eI (p0.2.length:Int)::eI 0::[]) ?_ ?_
 exact op (fun Q U W H D=>zA6 ((H 1 Z).trans h1) zCr sizeOf30 (by decide) Z)<|op (fun Q U W H D=>(zA7 ((q.fr W).ok 0 _ Z).1 (D.g 0 Z) zAc Z isAgg30 sizeOf30))<|op (fun Q U W H D=>zAY (aT:=#[]) (D.g 0 Z) underlying30)<|op (fun Q U W H D=>zBd Z)<|oz
 intro R w m n p d j
 replace h1:=k1 n h1
 obtain ⟨u8,h20,f_u8⟩:∃ u,R 20=u/\Rep (eSl zA1) A w u p0.2:=⟨_,Z,p 1 _ _ Z Z Z⟩
 have h21:=p.r 2 Z
 have h22:=p.r 3 Z
 replace q:=q.fr m
 obtain ⟨rl9,q10,c⟩:=zAB c
 replace q10:=q10 Z
 refine zPv (fun R w=>∃ A:Av,∃ (s11:Unit),rl9=Ex.go s11/\AvOK A w/\Fr w0 w/\(∀ b o,A0 b o->A b o)/\IniOK [] A w) ?_ ?_
 refine HT.block<|zPz (fun k R w=>∃ A:Av,∃ (y12:Int),zB2 fu p0 k y12=some rl9/\AvOK A w/\Fr w0 w/\(∀ b o,A0 b o->A b o)/\IniOK [ob (.pointer (some ⟨b1_0,0,none⟩)) (.box w0.heap.size 32 zA5 p0)] A w/\R 1=(.pointer (some ⟨b1_0,0,none⟩))/\R 20=u8/\R 21=.int .i64 (p0.2.length:Int)/\R 22=.int .i64 y12/\Rep (eSl zA1) A w u8 p0.2) fu ⟨_,_,q10,d,j,B,q,h1,h20,h21,h22,f_u8⟩ ?_
 have hr0:=c;clear c q10
 rintro k R w ⟨A,y12,c,d,j,B,q,h1,h20,h21,h22,f_u8⟩
 rcases k with _ | k
 cases (show none=some _ from c)
 rw [zB2] at c
 refine zQ1 d j (eB (decide (y12<(p0.2.length:Int)))::[]) ?_ ?_
 exact op (fun Q U W H D=>zBS ((H 22 Z).trans h22) ((H 21 Z).trans h21))<|oz
 intro R w m n p d j
 obtain ⟨h1,h20,h21,h22⟩:=k4 n h1 h20 h21 h22
 have h23:=p.r 0 Z
 replace f_u8:=f_u8.fr m
 replace q:=q.fr m
 refine zQ0 ?_
 refine zPt (decide (y12<(p0.2.length:Int))) h23 (fun c13=>?_) (fun c13=>?_)
 have c:=zAh c13 c
 refine HT.skip<|zQ0 ?_
 refine HT.block ?_
 obtain ⟨e14,c⟩:=zAC c
 refine zQ2 [ob (.pointer (some ⟨b1_0,0,none⟩)) (.box w0.heap.size 32 zA5 p0)] (rI y12::(rF fun A=>.qtr zA1 A (gtD p0.2 y12))::(rF fun A=>.rep zA1 A (gtD p0.2 y12))::⟨_,true,[],some (.box w0.heap.size 60 zA1 (0,(0,(0,0)))),true,fun A=>.any⟩::rI y12::⟨_,true,[4],some (.box w0.heap.size 60 zA1 (gtD p0.2 y12)),false,fun A=>.any⟩::[]) (ur (UAll.cons zCA (up (ua (ur (ua (UAll.nil))))))) q d ?_ ?_
 exact rm h22<|rp (fun V Q U O D=>zAL ((f_u8.stp O.stp).eq ((O.old 20 Z).trans h20)) ((O.old 22 Z).trans h22) underlying30 sizeOf60 e14)<|rp (fun V Q U O D=>(zAb (QRep.ptr (D.g 0 Z)) isAgg60 sizeOf60))<|rc (OblR.made _ Z Z Z Z fun V Q U O D=>by exact zBP zeroValue60 (fun A w=>zAy zAP (zAy zAP (zAy zAP zAP))) (Nat.le_trans j.size O.ch.size))<|ra<|rc (OblR.took 4 _ _ Z Z Z Z Z fun V Q U O D u X Y J L M=>by have a1:Rep zA1 V U (Q 26) (gtD p0.2 y12):=D.g 1 Z;obtain ⟨b,hb,hB',hbx⟩:=X;have hop':=L _ _ Z Z Z Z;exact zAp a1 (hop'.symm.trans hb) hb ⟨b,hb,hB',hbx⟩ Y (FldS.id _) sizeOf60 Z)<|rz
 intro done ρ σ A R w y s
 obtain ⟨h1,h20,h21,h22⟩:=k4 s.rg h1 h20 h21 h22
 have z15:=s.inivR 0 Z
 obtain ⟨b4_15,e_b4_15⟩:=s.boxv y 6 Z Z
 have z17:=(s.opnR y 6 5 Z Z Z Z Z).symm.trans e_b4_15
 have h4:=s.ov y 4 3 z17
 have h3:=s.r y 4 Z
 replace f_u8:=f_u8.stp s.stp
 obtain ⟨B,j,d⟩:=s.s B C j q ⟨Z,N⟩
 replace q:=s.left y [(0,ob (.pointer (some ⟨b1_0,0,none⟩)) (.box w0.heap.size 32 zA5 p0)),(6,ob (.pointer (some ⟨b4_15,0,none⟩)) (.box w0.heap.size 60 zA1 (gtD p0.2 y12)))] ⟨Z,Z,z15,Z,Z,⟨Z,Z,e_b4_15,Z,Z,N⟩⟩
 refine zQ0 ?_
 refine zQ0 ?_
 obtain ⟨x18,q19,c⟩:=zAB c
 obtain ⟨x20,q21,c⟩:=zAB c
 obtain ⟨x22,q23,c⟩:=zAf c
 obtain ⟨x24,q25,c⟩:=zAf c
 obtain ⟨e26,c⟩:=zAC c
 obtain ⟨x27,q28,c⟩:=zAB c
 obtain ⟨x29,q30,c⟩:=zAf c
 refine zPw (by kernel_rfl) (l:=eR (.pointer (some ⟨b4_15,0,none⟩))::eI ((gtD p0.2 y12).1)::eB x18::eB (!x18)::eB (!x18)::gR (true&&((!x18)==false)) (.pointer (some ⟨b4_15,1,none⟩))::gI (true&&((!x18)==false)) ((gtD p0.2 y12).2.1)::gB (true&&((!x18)==false)) x20::gB (true&&((!x18)==false)) (!x20)::eB x22::eB x22::gR (true&&(x22==false)) (.pointer (some ⟨b4_15,2,none⟩))::gI (true&&(x22==false)) ((gtD p0.2 y12).2.2.1)::gR (true&&(x22==false)) (.pointer (some ⟨b4_15,3,none⟩))::gI (true&&(x22==false)) ((gtD p0.2 y12).2.2.2)::gB (true&&(x22==false)) (((gtD p0.2 y12).2.2.1)==((gtD p0.2 y12).2.2.2))::eB x24::eB x24::gR (true&&(x24==false)) (.pointer (some ⟨b1_0,1,none⟩))::gF (true&&(x24==false)) (.rep (eSl zA1) A p0.2)::gI (true&&(x24==false)) y12::gF (true&&(x24==false)) (.rep (eSl zA1) A (subL p0.2 0 y12))::gF (true&&(x24==false)) (.rep zA1 A (gtD p0.2 y12))::gB (true&&(x24==false)) x27::eB x29::[]) (tl:=[]) (by kernel_rfl) (by kernel_rfl) (by kernel_rfl) (by kernel_rfl) ?_ ?_
 exact op (fun Q U W H D=>zA6 ((H 4 Z).trans h4) zEk sizeOf3 (by decide) Z)<|op (fun Q U W H D=>OpF.int (zA7 ((q.fr W).ok 1 _ Z).1 (D.g 0 Z) zAn Z isAgg3 sizeOf3))<|op (fun Q U W H D=>zAN call45 (zEV (q19 Z) (d.fr W.size) (D.g 0 Z)))<|op (fun Q U W H D=>zCM (D.g 0 Z))<|ov<|og 4 false (fun G Q U W H D=>zA6 ((H 4 Z).trans h4) zFe sizeOf3 (by decide) Z)<|og 4 false (fun G Q U W H D=>OpF.int (zA7 ((q.fr W).ok 1 _ Z).1 (D.h 0 G Z) zBE Z isAgg3 sizeOf3))<|og 4 false (fun G Q U W H D=>zAN call46 (zEx (q21 G) (d.fr W.size) (D.h 0 G Z)))<|og 4 false (fun G Q U W H D=>zCM (D.h 0 G Z))<|op (fun Q U W H D=>zAl (!x18) (D.g 0 Z) (fun hc=>by show _=Value.bool x22;rw [q23,hc];exact Z) (fun hc=>by have a2:Q 35=.bool (!x20):=D 1 _ _ _ Z Z Z Z (zCH Z (zBA hc));show _=Value.bool x22;rw [q23,hc];exact a2))<|ov<|og 10 false (fun G Q U W H D=>zA6 ((H 4 Z).trans h4) zFg sizeOf3 (by decide) Z)<|og 10 false (fun G Q U W H D=>OpF.int (zA7 ((q.fr W).ok 1 _ Z).1 (D.h 0 G Z) zBB Z isAgg3 sizeOf3))<|og 10 false (fun G Q U W H D=>zA6 ((H 4 Z).trans h4) zFb sizeOf3 (by decide) Z)<|og 10 false (fun G Q U W H D=>OpF.int (zA7 ((q.fr W).ok 1 _ Z).1 (D.h 0 G Z) zBC Z isAgg3 sizeOf3))<|og 10 false (fun G Q U W H D=>zDA (D.h 0 G Z) (D.h 1 G Z))<|op (fun Q U W H D=>zAl x22 (D.g 0 Z) (fun hc=>by show _=Value.bool x24;rw [q25,hc];exact Z) (fun hc=>by have a2:Q 42=.bool (((gtD p0.2 y12).2.2.1)==((gtD p0.2 y12).2.2.2)):=D 1 _ _ _ Z Z Z Z (zCH Z (zBA hc));show _=Value.bool x24;rw [q25,hc];exact a2))<|ov<|og 17 false (fun G Q U W H D=>zA6 ((H 1 Z).trans h1) zCr sizeOf30 (by decide) Z)<|og 17 false (fun G Q U W H D=>(zA7 ((q.fr W).ok 0 _ Z).1 (D.h 0 G Z) zAc Z isAgg30 sizeOf30))<|gm 17 false h3<|og 17 false (fun G Q U W H D=>zIY (D.h 0 G Z) (D.h 1 G Z) underlying30 sizeOf60 (gd e26 G))<|og 17 false (fun G Q U W H D=>(zA7 ((q.fr W).ok 1 _ Z).1 ((H 4 Z).trans h4) (Fld.id _) Z isAgg60 sizeOf60))<|og 17 false (fun G Q U W H D=>zAN call47 (zDB (q28 G) (d.fr W.size) (D.h 0 G Z) (D.h 1 G Z)))<|op (fun Q U W H D=>zAl x24 (D.g 0 Z) (fun hc=>by show _=Value.bool x29;rw [q30,hc];exact Z) (fun hc=>by have a2:Q 50=.bool x27:=D 1 _ _ _ Z Z Z Z (zCH Z (zBA hc));show _=Value.bool x29;rw [q30,hc];exact a2))<|oz
 intro R w m n p
 obtain ⟨h1,h3,h4,h20,h21,h22⟩:=k6 n h1 h3 h4 h20 h21 h22
 have h51:=p.r 24 Z
 replace f_u8:=f_u8.fr m
 replace q:=q.fr m
 replace d:=d.fr m.size
 replace j:=j.trans m
 refine zPt x29 h51 (fun c31=>?_) (fun c31=>?_)
 have c:=zAh c31 c
 refine zQ1 d j (eB false::[]) ?_ ?_
 exact op (fun Q U W H D=>zA9 Z)<|oz
 intro R w m n p d j
 have h2:=p.r 0 Z
 replace q:=q.fr m
 replace q:IniOK [] A w:=q.sub [] N
 refine HT.ret ?_
 obtain rfl:=si c
 have c:=hr0
 replace c:some _=some _:=c
 obtain rfl:=si c
 exact ⟨.inr Z,[R 2],⟨Z,N⟩,h2,j⟩
 have c:=zAg c31 c
 refine HT.skip<|zQ0 ?_
 obtain ⟨x32,q33,c⟩:=zAB c
 obtain ⟨x34,q35,c⟩:=zAB c
 obtain ⟨x36,q37,c⟩:=zAf c
 refine HT.u d j (eF (.rep zA5 A p0)::eI y12::eR (.pointer (some ⟨b4_15,2,none⟩))::eI ((gtD p0.2 y12).2.2.1)::eB x32::eB (!x32)::eB (!x32)::gF (true&&((!x32)==false)) (.rep zA5 A p0)::gI (true&&((!x32)==false)) y12::gR (true&&((!x32)==false)) (.pointer (some ⟨b4_15,3,none⟩))::gI (true&&((!x32)==false)) ((gtD p0.2 y12).2.2.2)::gB (true&&((!x32)==false)) x34::gB (true&&((!x32)==false)) (!x34)::eB x36::[]) ?_ ?_
 exact op (fun Q U W H D=>(zA7 ((q.fr W).ok 0 _ Z).1 ((H 1 Z).trans h1) (Fld.id _) Z isAgg32 sizeOf32))<|om h3<|op (fun Q U W H D=>zA6 ((H 4 Z).trans h4) zFg sizeOf3 (by decide) Z)<|op (fun Q U W H D=>OpF.int (zA7 ((q.fr W).ok 1 _ Z).1 (D.g 0 Z) zBB Z isAgg3 sizeOf3))<|op (fun Q U W H D=>zAN call48 (zEI (q33 Z) (d.fr W.size) (D.g 0 Z) (D.g 1 Z) (D.g 2 Z)))<|op (fun Q U W H D=>zCM (D.g 0 Z))<|ov<|og 6 false (fun G Q U W H D=>(zA7 ((q.fr W).ok 0 _ Z).1 ((H 1 Z).trans h1) (Fld.id _) Z isAgg32 sizeOf32))<|gm 6 false h3<|og 6 false (fun G Q U W H D=>zA6 ((H 4 Z).trans h4) zFb sizeOf3 (by decide) Z)<|og 6 false (fun G Q U W H D=>OpF.int (zA7 ((q.fr W).ok 1 _ Z).1 (D.h 0 G Z) zBC Z isAgg3 sizeOf3))<|og 6 false (fun G Q U W H D=>zAN call48 (zEI (q35 G) (d.fr W.size) (D.h 0 G Z) (D.h 1 G Z) (D.h 2 G Z)))<|og 6 false (fun G Q U W H D=>zCM (D.h 0 G Z))<|op (fun Q U W H D=>zAl (!x32) (D.g 0 Z) (fun hc=>by show _=Value.bool x36;rw [q37,hc];exact Z) (fun hc=>by have a2:Q 64=.bool (!x34):=D 1 _ _ _ Z Z Z Z (zCH Z (zBA hc));show _=Value.bool x36;rw [q37,hc];exact a2))<|oz
 intro R w m n p d j
 obtain ⟨h1,h20,h21,h22⟩:=k4 n h1 h20 h21 h22
 have h65:=p.r 13 Z
 replace f_u8:=f_u8.fr m
 replace q:=q.fr m
 replace q:IniOK [ob (.pointer (some ⟨b1_0,0,none⟩)) (.box w0.heap.size 32 zA5 p0)] A w:=q.sub [(0,ob (.pointer (some ⟨b1_0,0,none⟩)) (.box w0.heap.size 32 zA5 p0))] ⟨Z,Z,N⟩
 refine zPt x36 h65 (fun c38=>?_) (fun c38=>?_)
 have c:=zAh c38 c
 refine zQ1 d j (eB false::[]) ?_ ?_
 exact op (fun Q U W H D=>zA9 Z)<|oz
 intro R w m n p d j
 have h2:=p.r 0 Z
 replace q:=q.fr m
 replace q:IniOK [] A w:=q.sub [] N
 refine HT.ret ?_
 obtain rfl:=si c
 have c:=hr0
 replace c:some _=some _:=c
 obtain rfl:=si c
 exact ⟨.inr Z,[R 2],⟨Z,N⟩,h2,j⟩
 have c:=zAg c38 c
 refine HT.skip ?_
 obtain ⟨e39,c⟩:=zAC c
 refine HT.u d j (eI (y12+1)::eI (y12+1)::[]) ?_ ?_
 exact op (fun Q U W H D=>zAi ((H 22 Z).trans h22) Z e39)<|ov<|oz
 intro R w m n p d j
 obtain ⟨h1,h20,h21⟩:=k3 n h1 h20 h21
 have h22:=p.r 1 Z
 replace f_u8:=f_u8.fr m
 replace q:=q.fr m
 exact ei k (And.intro (Nat.lt_succ_self k) ⟨_,_,c,d,j,B,q,h1,h20,h21,h22,f_u8⟩)
 have c:=zAg c13 c
 refine zPy ?_
 obtain rfl:=si c
 replace q:IniOK [] A w:=q.sub [] N
 exact ei _ ⟨_,Z,d,j,B,q⟩
 rintro R w ⟨A,s11,rfl,d,j,B,q⟩
 have c:=zEG c
 refine zQ1 d j (eB true::[]) ?_ ?_
 exact op (fun Q U W H D=>zA9 Z)<|oz
 intro R w m n p d j
 have h2:=p.r 0 Z
 replace q:=q.fr m
 refine HT.ret ?_
 obtain rfl:=si c
 exact ⟨.inr Z,[R 2],⟨Z,N⟩,h2,j⟩
def zCC (fu:Nat) (p0:Int):Option (List UInt8):=
 cl true (zMN fu p0) fun x1=>
 some x1
theorem zCs {fu : Nat} {A : Av} {p0 : Int} {r : List UInt8} (c : zCC fu p0 = some r) {w : World} {v0 : Value} (d : AvOK A w) (hG : GTab w) (h0 : v0=.int .i64 p0) :
 Calls prog 35 #[v0] w fun e w'=>∃ v,e=.returned v/\(Rep eStr A w' v r/\Fr w w'):=by
 unfold zCC at c
 obtain ⟨w0,hw0,j⟩:=pf w
 rw [fw hw0]
 have hG0:GTab w0:=hw0 ▸ hG
 refine zAE [.tmp 2] func35 ntmps35 (by decide) Z Z (nb Z) ?_
 intro R hR
 replace h0:R 0=.int .i64 p0:=(hR 0 _ Z).trans h0
 refine zQ1 d j (eF (.rep eStr A ([]:List UInt8))::[]) ?_ ?_
 exact op (fun Q U W H D=>zA9 ⟨_,Z,⟨_,Z,Z,by decide⟩⟩)<|oz
 intro R w m n p d j
 replace h0:=k1 n h0
 obtain ⟨x1,q2,c⟩:=zAB c
 refine zQ1 d j (eI p0::eF (.rep eStr A x1)::eF (.rep eStr A x1)::[]) ?_ ?_
 exact om h0<|op (fun Q U W H D=>zAN call69 (zLj (q2 Z) (d.fr W.size) (hG0.fr (j.trans W)) (D.g 0 Z)))<|op (fun Q U W H D=>zA9 (D.g 0 Z))<|oz
 intro R w m n p d j
 obtain ⟨u3,h2,f_u3⟩:∃ u,R 2=u/\Rep eStr A w u x1:=⟨_,Z,p 2 _ _ Z Z Z⟩
 refine HT.ret ?_
 obtain rfl:=si c
 exact ⟨.inr Z,[R 2],⟨Z,N⟩,(f_u3.eq h2),j⟩
def zE4 (fu:Nat) (p0:zAA):Option (List UInt8):=
 bif p0.2.2 then (
 ck (inR p0.1 zCU.length) <|
 ck (zBu ((gtD zCU p0.1)++([60]:List UInt8)).length) <|
 cl true (zCC fu p0.2.1) fun x7=>
 ck (zBu (((gtD zCU p0.1)++([60]:List UInt8))++x7).length) <|
 some (((gtD zCU p0.1)++([60]:List UInt8))++x7)
 ) else (
 ck (inR p0.1 zCU.length) <|
 ck (zBu ((gtD zCU p0.1)++([62,61]:List UInt8)).length) <|
 cl true (zCC fu p0.2.1) fun x13=>
 ck (zBu (((gtD zCU p0.1)++([62,61]:List UInt8))++x13).length) <|
 some (((gtD zCU p0.1)++([62,61]:List UInt8))++x13)
 )
theorem zHC {fu : Nat} {A0 : Av} {p0 : zAA} {r : List UInt8} (c : zE4 fu p0 = some r) {w : World} {v0 : Value} (d : AvOK A0 w) (hG : GTab w) (h0 : Rep zA0 A0 w v0 p0) :
 Calls prog 36 #[v0] w fun e w'=>∃ v,e=.returned v/\(Rep eStr A0 w' v r/\Fr w w'):=by
 unfold zE4 at c
 obtain ⟨w0,hw0,j,C⟩:=pw d
 have hA00:AvOK A0 w0:=C
 rw [fw hw0]
 have hG0:GTab w0:=hw0 ▸ hG
 obtain ⟨A,hAe,B,d,q⟩:=pa d
 refine zAE [.tmp 2] func36 ntmps36 (by decide) Z Z (nb Z) ?_
 intro R hR
 have f_v0:Rep zA0 A w v0 p0:=hAe ▸ h0
 replace h0:R 0=v0:=hR 0 _ Z
 refine zQ2 [] (⟨_,true,[],some (.box w0.heap.size 69 zA0 p0),true,fun A=>.any⟩::(rF fun A=>.rep eStr A ([]:List UInt8))::[]) (ua (up (UAll.nil))) q d ?_ ?_
 exact rc (OblR.made _ Z Z Z Z fun V Q U O D=>by have a0:Q 0=v0:=(O.old 0 Z).trans h0;have ra0:=(f_v0.stp O.stp).eq a0;exact zAx ra0 (Nat.le_trans j.size O.ch.size))<|rp (fun V Q U O D=>zA9 ⟨_,Z,⟨_,Z,Z,by decide⟩⟩)<|rz
 intro done ρ σ A R w y s
 obtain ⟨b1_0,e_b1_0⟩:=s.boxv y 0 Z Z
 have h1:=s.ov y 0 0 e_b1_0
 obtain ⟨B,j,d⟩:=s.s B C j q N
 replace q:=s.left y [(0,ob (.pointer (some ⟨b1_0,0,none⟩)) (.box w0.heap.size 69 zA0 p0))] ⟨Z,Z,e_b1_0,Z,Z,N⟩
 refine zQ1 d j (eF (.rep eStr A ([62,61]:List UInt8))::[]) ?_ ?_
 exact op (fun Q U W H D=>zA9 ⟨_,Z,⟨_,Z,Z,by decide⟩⟩)<|oz
 intro R w m n p d j
 replace h1:=k1 n h1
 obtain ⟨u2,h3,f_u2⟩:∃ u,R 3=u/\Rep eStr A w u ([62,61]:List UInt8):=⟨_,Z,p 0 _ _ Z Z Z⟩
 replace q:=q.fr m
 refine zQ0 ?_
 refine zQ1 d j (eR (.pointer (some ⟨b1_0,2,none⟩))::eB p0.2.2::[]) ?_ ?_
 exact op (fun Q U W H D=>zA6 ((H 1 Z).trans h1) zFM sizeOf4 (by decide) Z)<|op (fun Q U W H D=>OpF.bool (zA7 ((q.fr W).ok 0 _ Z).1 (D.g 0 Z) zCw Z isAgg4 sizeOf4))<|oz
 intro R w m n p d j
 obtain ⟨h1,h3⟩:=k2 n h1 h3
 have h5:=p.r 1 Z
 replace f_u2:=f_u2.fr m
 replace q:=q.fr m
 refine zPt p0.2.2 h5 (fun c3=>?_) (fun c3=>?_)
 have c:=zAh c3 c
 refine HT.u d j (eF (.rep eStr A ([60]:List UInt8))::[]) ?_ ?_
 exact op (fun Q U W H D=>zA9 ⟨_,Z,⟨_,Z,Z,by decide⟩⟩)<|oz
 intro R w m n p d j
 replace h1:=k1 n h1
 obtain ⟨u4,h3,f_u4⟩:∃ u,R 3=u/\Rep eStr A w u ([60]:List UInt8):=⟨_,Z,p 0 _ _ Z Z Z⟩
 replace q:=q.fr m
 refine zQ0 ?_
 obtain ⟨e5,e6,c⟩:=ck2 c
 obtain ⟨x7,q8,c⟩:=zAB c
 obtain ⟨e9,c⟩:=zAC c
 refine zPw (by kernel_rfl) (l:=eR (.pointer (some ⟨b1_0,0,none⟩))::eI p0.1::eR (.pointer (some ⟨0,p0.1.toNat,none⟩))::eF (.rep eStr A (gtD zCU p0.1))::eR u4::eF (.rep eStr A ((gtD zCU p0.1)++([60]:List UInt8)))::eR (.pointer (some ⟨b1_0,1,none⟩))::eI p0.2.1::eF (.rep eStr A x7)::eF (.rep eStr A (((gtD zCU p0.1)++([60]:List UInt8))++x7))::eF (.rep eStr A (((gtD zCU p0.1)++([60]:List UInt8))++x7))::[]) (tl:=[]) (by kernel_rfl) (by kernel_rfl) (by kernel_rfl) (by kernel_rfl) ?_ ?_
 exact op (fun Q U W H D=>zA6 ((H 1 Z).trans h1) zDH sizeOf3 (by decide) Z)<|op (fun Q U W H D=>OpF.int (zA7 ((q.fr W).ok 0 _ Z).1 (D.g 0 Z) zAo Z isAgg3 sizeOf3))<|op (fun Q U W H D=>zGi (D.g 0 Z) underlying96 sizeOf9 e5)<|op (fun Q U W H D=>(zAb ((hG0.fr (j.trans W)).featAt e5 ((D.g 0 Z))) isAgg9 sizeOf9))<|om h3<|op (fun Q U W H D=>zBy (D.g 0 Z) ((f_u4.fr W).eq (D.g 1 Z)) e6)<|op (fun Q U W H D=>zA6 ((H 1 Z).trans h1) zDU sizeOf3 (by decide) Z)<|op (fun Q U W H D=>OpF.int (zA7 ((q.fr W).ok 0 _ Z).1 (D.g 0 Z) zAv Z isAgg3 sizeOf3))<|op (fun Q U W H D=>zAN call35 (zCs (q8 Z) (d.fr W.size) (hG0.fr (j.trans W)) (D.g 0 Z)))<|op (fun Q U W H D=>zBy (D.g 0 Z) (D.g 1 Z) e9)<|op (fun Q U W H D=>zA9 (D.g 0 Z))<|oz
 intro R w m n p
 obtain ⟨u10,h2,f_u10⟩:∃ u,R 2=u/\Rep eStr A w u (((gtD zCU p0.1)++([60]:List UInt8))++x7):=⟨_,Z,p 10 _ _ Z Z Z⟩
 replace q:=q.fr m
 replace q:IniOK [] A w:=q.sub [] N
 replace d:=d.fr m.size
 replace j:=j.trans m
 refine HT.ret ?_
 obtain rfl:=si c
 exact ⟨.inr Z,[R 2],⟨Z,N⟩,(f_u10.eq h2).down B,j⟩
 have c:=zAg c3 c
 refine HT.skip<|zQ0 ?_
 obtain ⟨e11,e12,c⟩:=ck2 c
 obtain ⟨x13,q14,c⟩:=zAB c
 obtain ⟨e15,c⟩:=zAC c
 refine zPw (by kernel_rfl) (l:=eR (.pointer (some ⟨b1_0,0,none⟩))::eI p0.1::eR (.pointer (some ⟨0,p0.1.toNat,none⟩))::eF (.rep eStr A (gtD zCU p0.1))::eR u2::eF (.rep eStr A ((gtD zCU p0.1)++([62,61]:List UInt8)))::eR (.pointer (some ⟨b1_0,1,none⟩))::eI p0.2.1::eF (.rep eStr A x13)::eF (.rep eStr A (((gtD zCU p0.1)++([62,61]:List UInt8))++x13))::eF (.rep eStr A (((gtD zCU p0.1)++([62,61]:List UInt8))++x13))::[]) (tl:=[]) (by kernel_rfl) (by kernel_rfl) (by kernel_rfl) (by kernel_rfl) ?_ ?_
 exact op (fun Q U W H D=>zA6 ((H 1 Z).trans h1) zDH sizeOf3 (by decide) Z)<|op (fun Q U W H D=>OpF.int (zA7 ((q.fr W).ok 0 _ Z).1 (D.g 0 Z) zAo Z isAgg3 sizeOf3))<|op (fun Q U W H D=>zGi (D.g 0 Z) underlying96 sizeOf9 e11)<|op (fun Q U W H D=>(zAb ((hG0.fr (j.trans W)).featAt e11 ((D.g 0 Z))) isAgg9 sizeOf9))<|om h3<|op (fun Q U W H D=>zBy (D.g 0 Z) ((f_u2.fr W).eq (D.g 1 Z)) e12)<|op (fun Q U W H D=>zA6 ((H 1 Z).trans h1) zDU sizeOf3 (by decide) Z)<|op (fun Q U W H D=>OpF.int (zA7 ((q.fr W).ok 0 _ Z).1 (D.g 0 Z) zAv Z isAgg3 sizeOf3))<|op (fun Q U W H D=>zAN call35 (zCs (q14 Z) (d.fr W.size) (hG0.fr (j.trans W)) (D.g 0 Z)))<|op (fun Q U W H D=>zBy (D.g 0 Z) (D.g 1 Z) e15)<|op (fun Q U W H D=>zA9 (D.g 0 Z))<|oz
 intro R w m n p
 obtain ⟨u16,h2,f_u16⟩:∃ u,R 2=u/\Rep eStr A w u (((gtD zCU p0.1)++([62,61]:List UInt8))++x13):=⟨_,Z,p 10 _ _ Z Z Z⟩
 replace q:=q.fr m
 replace q:IniOK [] A w:=q.sub [] N
 replace d:=d.fr m.size
 replace j:=j.trans m
 refine HT.ret ?_
 obtain rfl:=si c
 exact ⟨.inr Z,[R 2],⟨Z,N⟩,(f_u16.eq h2).down B,j⟩
def zAz (fu : Nat) (p0 : zAG) : Nat -> (List UInt8) -> Int -> Option (List UInt8)
 | 0,_,_=>none
 | k+1,y14,y15=>
 bif (decide (y15<(p0.2.length:Int))) then (
 ck (inR y15 p0.2.length) <|
 ck (i64B (y15+2)) <|
 cl true (zCC fu (y15+2)) fun x21=>
 ck (zBu (([59,32]:List UInt8)++x21).length) <|
 ck (zBu ((([59,32]:List UInt8)++x21)++([58,32]:List UInt8)).length) <|
 cl true (zE4 fu ((gtD p0.2 y15).1,(gtD p0.2 y15).2.1,false)) fun x25=>
 ck (zBu (((([59,32]:List UInt8)++x21)++([58,32]:List UInt8))++x25).length) <|
 ck (zBu ((((([59,32]:List UInt8)++x21)++([58,32]:List UInt8))++x25)++([32]:List UInt8)).length) <|
 cl true (zCC fu ((gtD p0.2 y15).2.2.2)) fun x29=>
 ck (zBu (((((([59,32]:List UInt8)++x21)++([58,32]:List UInt8))++x25)++([32]:List UInt8))++x29).length) <|
 ck (zBu ((((((([59,32]:List UInt8)++x21)++([58,32]:List UInt8))++x25)++([32]:List UInt8))++x29)++([32]:List UInt8)).length) <|
 cl true (zCC fu ((gtD p0.2 y15).2.2.1)) fun x33=>
 ck (zBu (((((((([59,32]:List UInt8)++x21)++([58,32]:List UInt8))++x25)++([32]:List UInt8))++x29)++([32]:List UInt8))++x33).length) <|
 ck (zBu (y14++(((((((([59,32]:List UInt8)++x21)++([58,32]:List UInt8))++x25)++([32]:List UInt8))++x29)++([32]:List UInt8))++x33)).length) <|
 ck (i64B (y15+1)) <|
 zAz fu p0 k (y14++(((((((([59,32]:List UInt8)++x21)++([58,32]:List UInt8))++x25)++([32]:List UInt8))++x29)++([32]:List UInt8))++x33)) (y15+1)
 ) else (
 some y14
 )
def zCf (fu:Nat) (p0:zAG):Option (List UInt8):=
 cl true (zBF fu p0) fun x2=>
 bif (!x2) then (
 some ([]:List UInt8)
 ) else (
 cl true (zCC fu p0.1) fun x6=>
 ck (zBu (([114,111,111,116,32]:List UInt8)++x6).length) <|
 cl true (zAz fu p0 fu (([114,111,111,116,32]:List UInt8)++x6) 0) fun s13=>
 some s13
 )
set_option linter.unusedSimpArgs false in
theorem zG4 {fu : Nat} {A0 : Av} {p0 : zAG} {r : List UInt8} (c : zCf fu p0 = some r) {w : World} {v0 : Value} (d : AvOK A0 w) (hG : GTab w) (h0 : Rep zA5 A0 w v0 p0) :
 Calls prog 11 #[v0] w fun e w'=>∃ v,e=.returned v/\(Rep eStr A0 w' v r/\Fr w w'):=by
 unfold zCf at c
 obtain ⟨w0,hw0,j,C⟩:=pw d
 have hA00:AvOK A0 w0:=C
 rw [fw hw0]
 have hG0:GTab w0:=hw0 ▸ hG
 obtain ⟨A,hAe,B,d,q⟩:=pa d
 refine zAE [.tmp 2] func11 ntmps11 (by decide) Z Z (nb Z) ?_
 intro R hR
 have f_v0:Rep zA5 A w v0 p0:=hAe ▸ h0
 replace h0:R 0=v0:=hR 0 _ Z
 refine zQ2 [] (⟨_,true,[],some (.box w0.heap.size 32 zA5 p0),true,fun A=>.any⟩::(rF fun A=>.rep eStr A ([]:List UInt8))::[]) (ua (up (UAll.nil))) q d ?_ ?_
 exact rc (OblR.made _ Z Z Z Z fun V Q U O D=>by have a0:Q 0=v0:=(O.old 0 Z).trans h0;have ra0:=(f_v0.stp O.stp).eq a0;exact zAx ra0 (Nat.le_trans j.size O.ch.size))<|rp (fun V Q U O D=>zA9 ⟨_,Z,⟨_,Z,Z,by decide⟩⟩)<|rz
 intro done ρ σ A R w y s
 obtain ⟨b1_0,e_b1_0⟩:=s.boxv y 0 Z Z
 have h1:=s.ov y 0 0 e_b1_0
 obtain ⟨B,j,d⟩:=s.s B C j q N
 replace q:=s.left y [(0,ob (.pointer (some ⟨b1_0,0,none⟩)) (.box w0.heap.size 32 zA5 p0))] ⟨Z,Z,e_b1_0,Z,Z,N⟩
 refine zQ0 ?_
 obtain ⟨x2,q3,c⟩:=zAB c
 refine zQ1 d j (eF (.rep zA5 A p0)::eB x2::eB (!x2)::[]) ?_ ?_
 exact op (fun Q U W H D=>(zA7 ((q.fr W).ok 0 _ Z).1 ((H 1 Z).trans h1) (Fld.id _) Z isAgg32 sizeOf32))<|op (fun Q U W H D=>zAN call18 (zCT (q3 Z) (d.fr W.size) (D.g 0 Z)))<|op (fun Q U W H D=>zCM (D.g 0 Z))<|oz
 intro R w m n p d j
 replace h1:=k1 n h1
 have h8:=p.r 2 Z
 replace q:=q.fr m
 refine zPt (!x2) h8 (fun c4=>?_) (fun c4=>?_)
 have c:=zAh c4 c
 refine zQ1 d j (eF (.rep eStr A ([]:List UInt8))::[]) ?_ ?_
 exact op (fun Q U W H D=>zA9 ⟨_,Z,⟨_,Z,Z,by decide⟩⟩)<|oz
 intro R w m n p d j
 obtain ⟨u5,h2,f_u5⟩:∃ u,R 2=u/\Rep eStr A w u ([]:List UInt8):=⟨_,Z,p 0 _ _ Z Z Z⟩
 replace q:=q.fr m
 replace q:IniOK [] A w:=q.sub [] N
 refine HT.ret ?_
 obtain rfl:=si c
 exact ⟨.inr Z,[R 2],⟨Z,N⟩,(f_u5.eq h2).down B,j⟩
 have c:=zAg c4 c
 refine HT.skip ?_
 obtain ⟨x6,q7,c⟩:=zAB c
 obtain ⟨e8,c⟩:=zAC c
 refine zQ1 d j (eR (.pointer (some ⟨b1_0,0,none⟩))::eI p0.1::eF (.rep eStr A x6)::eF (.rep eStr A (([114,111,111,116,32]:List UInt8)++x6))::eF (.rep eStr A (([114,111,111,116,32]:List UInt8)++x6))::[]) ?_ ?_
 exact op (fun Q U W H D=>zA6 ((H 1 Z).trans h1) zFc sizeOf3 (by decide) Z)<|op (fun Q U W H D=>OpF.int (zA7 ((q.fr W).ok 0 _ Z).1 (D.g 0 Z) zCV Z isAgg3 sizeOf3))<|op (fun Q U W H D=>zAN call35 (zCs (q7 Z) (d.fr W.size) (hG0.fr (j.trans W)) (D.g 0 Z)))<|op (fun Q U W H D=>zBy ⟨_,Z,⟨_,Z,Z,by decide⟩⟩ (D.g 0 Z) e8)<|op (fun Q U W H D=>zA9 (D.g 0 Z))<|oz
 intro R w m n p d j
 replace h1:=k1 n h1
 obtain ⟨u9,h3,f_u9⟩:∃ u,R 3=u/\Rep eStr A w u (([114,111,111,116,32]:List UInt8)++x6):=⟨_,Z,p 4 _ _ Z Z Z⟩
 replace q:=q.fr m
 refine zQ0 ?_
 refine zQ1 d j (eR (.pointer (some ⟨b1_0,1,none⟩))::eF (.rep (eSl zA1) A p0.2)::eI (p0.2.length:Int)::eI 0::[]) ?_ ?_
 exact op (fun Q U W H D=>zA6 ((H 1 Z).trans h1) zCr sizeOf30 (by decide) Z)<|op (fun Q U W H D=>(zA7 ((q.fr W).ok 0 _ Z).1 (D.g 0 Z) zAc Z isAgg30 sizeOf30))<|op (fun Q U W H D=>zAY (aT:=#[]) (D.g 0 Z) underlying30)<|op (fun Q U W H D=>zBd Z)<|oz
 intro R w m n p d j
 replace h3:=k1 n h3
 obtain ⟨u10,h14,f_u10⟩:∃ u,R 14=u/\Rep (eSl zA1) A w u p0.2:=⟨_,Z,p 1 _ _ Z Z Z⟩
 have h15:=p.r 2 Z
 have h16:=p.r 3 Z
 replace f_u9:=f_u9.fr m
 replace q:=q.fr m
 replace q:IniOK [] A w:=q.sub [] N
 obtain ⟨rl11,q12,c⟩:=zAB c
 replace q12:=q12 Z
 refine zPv (fun R w=>∃ A:Av,∃ (s13:(List UInt8)) (wo_3:Value),rl11=s13/\AvOK A w/\Fr w0 w/\(∀ b o,A0 b o->A b o)/\IniOK [] A w/\R 3=wo_3/\Rep eStr A w wo_3 s13) ?_ ?_
 refine HT.block<|zPz (fun k R w=>∃ A:Av,∃ (y14:List UInt8) (y15:Int) (wl_3:Value),zAz fu p0 k y14 y15=some rl11/\AvOK A w/\Fr w0 w/\(∀ b o,A0 b o->A b o)/\IniOK [] A w/\R 3=wl_3/\R 14=u10/\R 15=.int .i64 (p0.2.length:Int)/\R 16=.int .i64 y15/\Rep (eSl zA1) A w u10 p0.2/\Rep eStr A w wl_3 y14) fu ⟨_,_,_,u9,q12,d,j,B,q,h3,h14,h15,h16,f_u10,f_u9⟩ ?_
 have hr0:=c;clear c q12
 rintro k R w ⟨A,y14,y15,wl_3,c,d,j,B,q,h3,h14,h15,h16,f_u10,f_wl_3⟩
 rcases k with _ | k
 cases (show none=some _ from c)
 rw [zAz] at c
 refine zQ1 d j (eB (decide (y15<(p0.2.length:Int)))::[]) ?_ ?_
 exact op (fun Q U W H D=>zBS ((H 16 Z).trans h16) ((H 15 Z).trans h15))<|oz
 intro R w m n p d j
 obtain ⟨h3,h14,h15,h16⟩:=k4 n h3 h14 h15 h16
 have h17:=p.r 0 Z
 replace f_u10:=f_u10.fr m
 replace f_wl_3:=f_wl_3.fr m
 replace q:=q.fr m
 refine zQ0 ?_
 refine zPt (decide (y15<(p0.2.length:Int))) h17 (fun c16=>?_) (fun c16=>?_)
 have c:=zAh c16 c
 refine HT.skip<|zQ0 ?_
 refine HT.block ?_
 obtain ⟨e17,c⟩:=zAC c
 refine zQ2 [] (rI y15::(rF fun A=>.qtr zA1 A (gtD p0.2 y15))::(rF fun A=>.rep zA1 A (gtD p0.2 y15))::⟨_,true,[],some (.box w0.heap.size 60 zA1 (0,(0,(0,0)))),true,fun A=>.any⟩::rI y15::⟨_,true,[3],some (.box w0.heap.size 60 zA1 (gtD p0.2 y15)),false,fun A=>.any⟩::[]) (ur (UAll.cons zCA (up (ua (ur (ua (UAll.nil))))))) q d ?_ ?_
 exact rm h16<|rp (fun V Q U O D=>zAL ((f_u10.stp O.stp).eq ((O.old 14 Z).trans h14)) ((O.old 16 Z).trans h16) underlying30 sizeOf60 e17)<|rp (fun V Q U O D=>(zAb (QRep.ptr (D.g 0 Z)) isAgg60 sizeOf60))<|rc (OblR.made _ Z Z Z Z fun V Q U O D=>by exact zBP zeroValue60 (fun A w=>zAy zAP (zAy zAP (zAy zAP zAP))) (Nat.le_trans j.size O.ch.size))<|ra<|rc (OblR.took 3 _ _ Z Z Z Z Z fun V Q U O D u X Y J L M=>by have a1:Rep zA1 V U (Q 20) (gtD p0.2 y15):=D.g 1 Z;obtain ⟨b,hb,hB',hbx⟩:=X;have hop':=L _ _ Z Z Z Z;exact zAp a1 (hop'.symm.trans hb) hb ⟨b,hb,hB',hbx⟩ Y (FldS.id _) sizeOf60 Z)<|rz
 intro done ρ σ A R w y s
 obtain ⟨h3,h14,h15,h16⟩:=k4 s.rg h3 h14 h15 h16
 obtain ⟨b5_17,e_b5_17⟩:=s.boxv y 5 Z Z
 have z19:=(s.opnR y 5 5 Z Z Z Z Z).symm.trans e_b5_17
 have h5:=s.ov y 3 3 z19
 have h4:=s.r y 4 Z
 replace f_u10:=f_u10.stp s.stp
 replace f_wl_3:=f_wl_3.stp s.stp
 obtain ⟨B,j,d⟩:=s.s B C j q N
 replace q:=s.left y [(5,ob (.pointer (some ⟨b5_17,0,none⟩)) (.box w0.heap.size 60 zA1 (gtD p0.2 y15)))] ⟨Z,Z,e_b5_17,Z,Z,N⟩
 obtain ⟨e20,c⟩:=zAC c
 obtain ⟨x21,q22,c⟩:=zAB c
 obtain ⟨e23,e24,c⟩:=ck2 c
 obtain ⟨x25,q26,c⟩:=zAB c
 obtain ⟨e27,e28,c⟩:=ck2 c
 obtain ⟨x29,q30,c⟩:=zAB c
 obtain ⟨e31,e32,c⟩:=ck2 c
 obtain ⟨x33,q34,c⟩:=zAB c
 obtain ⟨e35,e36,c⟩:=ck2 c
 refine zPw (by kernel_rfl) (l:=eR wl_3::eI y15::eI (y15+2)::eF (.rep eStr A x21)::eF (.rep eStr A (([59,32]:List UInt8)++x21))::eF (.rep eStr A ((([59,32]:List UInt8)++x21)++([58,32]:List UInt8)))::eR (.pointer (some ⟨b5_17,0,none⟩))::eI ((gtD p0.2 y15).1)::eR (.pointer (some ⟨b5_17,1,none⟩))::eI ((gtD p0.2 y15).2.1)::eF (.rep zA0 A ((gtD p0.2 y15).1,(gtD p0.2 y15).2.1,false))::eF (.rep eStr A x25)::eF (.rep eStr A (((([59,32]:List UInt8)++x21)++([58,32]:List UInt8))++x25))::eF (.rep eStr A ((((([59,32]:List UInt8)++x21)++([58,32]:List UInt8))++x25)++([32]:List UInt8)))::eR (.pointer (some ⟨b5_17,3,none⟩))::eI ((gtD p0.2 y15).2.2.2)::eF (.rep eStr A x29)::eF (.rep eStr A (((((([59,32]:List UInt8)++x21)++([58,32]:List UInt8))++x25)++([32]:List UInt8))++x29))::eF (.rep eStr A ((((((([59,32]:List UInt8)++x21)++([58,32]:List UInt8))++x25)++([32]:List UInt8))++x29)++([32]:List UInt8)))::eR (.pointer (some ⟨b5_17,2,none⟩))::eI ((gtD p0.2 y15).2.2.1)::eF (.rep eStr A x33)::eF (.rep eStr A (((((((([59,32]:List UInt8)++x21)++([58,32]:List UInt8))++x25)++([32]:List UInt8))++x29)++([32]:List UInt8))++x33))::eF (.rep eStr A (y14++(((((((([59,32]:List UInt8)++x21)++([58,32]:List UInt8))++x25)++([32]:List UInt8))++x29)++([32]:List UInt8))++x33)))::eF (.rep eStr A (y14++(((((((([59,32]:List UInt8)++x21)++([58,32]:List UInt8))++x25)++([32]:List UInt8))++x29)++([32]:List UInt8))++x33)))::[]) (tl:=[]) (by kernel_rfl) (by kernel_rfl) (by kernel_rfl) (by kernel_rfl) ?_ ?_
 exact om h3<|om h4<|op (fun Q U W H D=>zAi (D.g 0 Z) Z e20)<|op (fun Q U W H D=>zAN call35 (zCs (q22 Z) (d.fr W.size) (hG0.fr (j.trans W)) (D.g 0 Z)))<|op (fun Q U W H D=>zBy ⟨_,Z,⟨_,Z,Z,by decide⟩⟩ (D.g 0 Z) e23)<|op (fun Q U W H D=>zBy (D.g 0 Z) ⟨_,Z,⟨_,Z,Z,by decide⟩⟩ e24)<|op (fun Q U W H D=>zA6 ((H 5 Z).trans h5) zEk sizeOf3 (by decide) Z)<|op (fun Q U W H D=>OpF.int (zA7 ((q.fr W).ok 0 _ Z).1 (D.g 0 Z) zAn Z isAgg3 sizeOf3))<|op (fun Q U W H D=>zA6 ((H 5 Z).trans h5) zFe sizeOf3 (by decide) Z)<|op (fun Q U W H D=>OpF.int (zA7 ((q.fr W).ok 0 _ Z).1 (D.g 0 Z) zBE Z isAgg3 sizeOf3))<|op (fun Q U W H D=>by have a0:Q 28=.int .i64 ((gtD p0.2 y15).1):=D.g 0 Z;have a1:Q 30=.int .i64 ((gtD p0.2 y15).2.1):=D.g 1 Z;exact zDK (v:=.agg #[.int .i64 ((gtD p0.2 y15).1),.int .i64 ((gtD p0.2 y15).2.1),.bool false]) (by simp [execOp,Instr.build,zAM,a0,a1,underlying,underlying69,zeroValue69,sizeOf3,sizeOf4,go_sem,Instr.fill]) ⟨_,Z,zAy zAP (zAy zAP zDQ)⟩)<|op (fun Q U W H D=>zAN call36 (zHC (q26 Z) (d.fr W.size) (hG0.fr (j.trans W)) (D.g 0 Z)))<|op (fun Q U W H D=>zBy (D.g 0 Z) (D.g 1 Z) e27)<|op (fun Q U W H D=>zBy (D.g 0 Z) ⟨_,Z,⟨_,Z,Z,by decide⟩⟩ e28)<|op (fun Q U W H D=>zA6 ((H 5 Z).trans h5) zFb sizeOf3 (by decide) Z)<|op (fun Q U W H D=>OpF.int (zA7 ((q.fr W).ok 0 _ Z).1 (D.g 0 Z) zBC Z isAgg3 sizeOf3))<|op (fun Q U W H D=>zAN call35 (zCs (q30 Z) (d.fr W.size) (hG0.fr (j.trans W)) (D.g 0 Z)))<|op (fun Q U W H D=>zBy (D.g 0 Z) (D.g 1 Z) e31)<|op (fun Q U W H D=>zBy (D.g 0 Z) ⟨_,Z,⟨_,Z,Z,by decide⟩⟩ e32)<|op (fun Q U W H D=>zA6 ((H 5 Z).trans h5) zFg sizeOf3 (by decide) Z)<|op (fun Q U W H D=>OpF.int (zA7 ((q.fr W).ok 0 _ Z).1 (D.g 0 Z) zBB Z isAgg3 sizeOf3))<|op (fun Q U W H D=>zAN call35 (zCs (q34 Z) (d.fr W.size) (hG0.fr (j.trans W)) (D.g 0 Z)))<|op (fun Q U W H D=>zBy (D.g 0 Z) (D.g 1 Z) e35)<|op (fun Q U W H D=>zBy ((f_wl_3.fr W).eq (D.g 0 Z)) (D.g 1 Z) e36)<|op (fun Q U W H D=>zA9 (D.g 0 Z))<|oz
 intro R w m n p
 obtain ⟨h14,h15,h16⟩:=k3 n h14 h15 h16
 obtain ⟨u37,h3,f_u37⟩:∃ u,R 3=u/\Rep eStr A w u (y14++(((((((([59,32]:List UInt8)++x21)++([58,32]:List UInt8))++x25)++([32]:List UInt8))++x29)++([32]:List UInt8))++x33)):=⟨_,Z,p 24 _ _ Z Z Z⟩
 replace f_u10:=f_u10.fr m
 replace q:=q.fr m
 replace q:IniOK [] A w:=q.sub [] N
 replace d:=d.fr m.size
 replace j:=j.trans m
 obtain ⟨e38,c⟩:=zAC c
 refine HT.u d j (eI (y15+1)::eI (y15+1)::[]) ?_ ?_
 exact op (fun Q U W H D=>zAi ((H 16 Z).trans h16) Z e38)<|ov<|oz
 intro R w m n p d j
 obtain ⟨h3,h14,h15⟩:=k3 n h3 h14 h15
 have h16:=p.r 1 Z
 replace f_u10:=f_u10.fr m
 replace f_u37:=f_u37.fr m
 replace q:=q.fr m
 exact ei k (And.intro (Nat.lt_succ_self k) ⟨_,_,_,u37,c,d,j,B,q,h3,h14,h15,h16,f_u10,f_u37⟩)
 have c:=zAg c16 c
 refine zPy ?_
 obtain rfl:=si c
 exact ei _ ⟨_,wl_3,Z,d,j,B,q,h3,f_wl_3⟩
 rintro R w ⟨A,s13,wo_3,es,d,j,B,q,h3,f_wo_3⟩
 obtain rfl:=es.symm
 refine zQ1 d j (eR wo_3::eR wo_3::[]) ?_ ?_
 exact om h3<|oa<|oz
 intro R w m n p d j
 have h2:=p.r 1 Z
 replace f_wo_3:=f_wo_3.fr m
 replace q:=q.fr m
 refine HT.ret ?_
 obtain rfl:=si c
 exact ⟨.inr Z,[R 2],⟨Z,N⟩,(f_wo_3.eq h2).down B,j⟩
def zDr (fu:Nat) (p0:zA4) (p1:zA4):Option Bool:=
 bd ((p0.1==p1.1)&&(decide (p0.2.1<p1.2.1))) fun x3=>
 bd ((decide (p0.1<p1.1)) || x3) fun x5=>
 some x5
theorem zFG {fu : Nat} {A0 : Av} {p0 : zA4} {p1 : zA4} {r : Bool} (c : zDr fu p0 p1 = some r) {w : World} {v0 : Value} {v1 : Value} (d : AvOK A0 w) (h0 : Rep zA1 A0 w v0 p0) (h1 : Rep zA1 A0 w v1 p1) :
 Calls prog 50 #[v0,v1] w fun e w'=>∃ v,e=.returned v/\(v=.bool r/\Fr w w'):=by
 unfold zDr at c
 obtain ⟨w0,hw0,j,C⟩:=pw d
 have hA00:AvOK A0 w0:=C
 rw [fw hw0]
 obtain ⟨A,hAe,B,d,q⟩:=pa d
 refine zAE [.tmp 4] func50 ntmps50 (by decide) Z Z (nb Z) ?_
 intro R hR
 have f_v0:Rep zA1 A w v0 p0:=hAe ▸ h0
 replace h0:R 0=v0:=hR 0 _ Z
 have f_v1:Rep zA1 A w v1 p1:=hAe ▸ h1
 replace h1:R 1=v1:=hR 1 _ Z
 refine zQ2 [] (⟨_,true,[],some (.box w0.heap.size 60 zA1 p0),true,fun A=>.any⟩::⟨_,true,[],some (.box w0.heap.size 60 zA1 p1),true,fun A=>.any⟩::rB false::[]) (ua (ua (ur (UAll.nil)))) q d ?_ ?_
 exact rc (OblR.made _ Z Z Z Z fun V Q U O D=>by have a0:Q 0=v0:=(O.old 0 Z).trans h0;have ra0:=(f_v0.stp O.stp).eq a0;exact zAx ra0 (Nat.le_trans j.size O.ch.size))<|rc (OblR.made _ Z Z Z Z fun V Q U O D=>by have a0:Q 1=v1:=(O.old 1 Z).trans h1;have ra0:=(f_v1.stp O.stp).eq a0;exact zAx ra0 (Nat.le_trans j.size O.ch.size))<|rp (fun V Q U O D=>zA9 Z)<|rz
 intro done ρ σ A R w y s
 obtain ⟨b2_0,e_b2_0⟩:=s.boxv y 0 Z Z
 have h2:=s.ov y 0 0 e_b2_0
 obtain ⟨b3_1,e_b3_1⟩:=s.boxv y 1 Z Z
 have h3:=s.ov y 1 1 e_b3_1
 obtain ⟨B,j,d⟩:=s.s B C j q N
 replace q:=s.left y [(0,ob (.pointer (some ⟨b2_0,0,none⟩)) (.box w0.heap.size 60 zA1 p0)),(1,ob (.pointer (some ⟨b3_1,0,none⟩)) (.box w0.heap.size 60 zA1 p1))] ⟨Z,Z,e_b2_0,Z,Z,⟨Z,Z,e_b3_1,Z,Z,N⟩⟩
 refine zQ0 ?_
 obtain ⟨x3,q4,c⟩:=zAf c
 obtain ⟨x5,q6,c⟩:=zAf c
 refine HT.u d j (eR (.pointer (some ⟨b2_0,0,none⟩))::eI p0.1::eR (.pointer (some ⟨b3_1,0,none⟩))::eI p1.1::eB (decide (p0.1<p1.1))::eB (decide (p0.1<p1.1))::gR (true&&((decide (p0.1<p1.1))==false)) (.pointer (some ⟨b2_0,0,none⟩))::gI (true&&((decide (p0.1<p1.1))==false)) p0.1::gR (true&&((decide (p0.1<p1.1))==false)) (.pointer (some ⟨b3_1,0,none⟩))::gI (true&&((decide (p0.1<p1.1))==false)) p1.1::gB (true&&((decide (p0.1<p1.1))==false)) (p0.1==p1.1)::gB (true&&((decide (p0.1<p1.1))==false)) (p0.1==p1.1)::gR ((true&&((decide (p0.1<p1.1))==false))&&((p0.1==p1.1)==true)) (.pointer (some ⟨b2_0,1,none⟩))::gI ((true&&((decide (p0.1<p1.1))==false))&&((p0.1==p1.1)==true)) p0.2.1::gR ((true&&((decide (p0.1<p1.1))==false))&&((p0.1==p1.1)==true)) (.pointer (some ⟨b3_1,1,none⟩))::gI ((true&&((decide (p0.1<p1.1))==false))&&((p0.1==p1.1)==true)) p1.2.1::gB ((true&&((decide (p0.1<p1.1))==false))&&((p0.1==p1.1)==true)) (decide (p0.2.1<p1.2.1))::gB (true&&((decide (p0.1<p1.1))==false)) x3::eB x5::eB x5::[]) ?_ ?_
 exact op (fun Q U W H D=>zA6 ((H 2 Z).trans h2) zEk sizeOf3 (by decide) Z)<|op (fun Q U W H D=>OpF.int (zA7 ((q.fr W).ok 0 _ Z).1 (D.g 0 Z) zAn Z isAgg3 sizeOf3))<|op (fun Q U W H D=>zA6 ((H 3 Z).trans h3) zEk sizeOf3 (by decide) Z)<|op (fun Q U W H D=>OpF.int (zA7 ((q.fr W).ok 1 _ Z).1 (D.g 0 Z) zAn Z isAgg3 sizeOf3))<|op (fun Q U W H D=>zBS (D.g 0 Z) (D.g 1 Z))<|ov<|og 5 false (fun G Q U W H D=>zA6 ((H 2 Z).trans h2) zEk sizeOf3 (by decide) Z)<|og 5 false (fun G Q U W H D=>OpF.int (zA7 ((q.fr W).ok 0 _ Z).1 (D.h 0 G Z) zAn Z isAgg3 sizeOf3))<|og 5 false (fun G Q U W H D=>zA6 ((H 3 Z).trans h3) zEk sizeOf3 (by decide) Z)<|og 5 false (fun G Q U W H D=>OpF.int (zA7 ((q.fr W).ok 1 _ Z).1 (D.h 0 G Z) zAn Z isAgg3 sizeOf3))<|og 5 false (fun G Q U W H D=>zDA (D.h 0 G Z) (D.h 1 G Z))<|og 5 false (fun G Q U W H D=>zBd (D.h 0 G Z))<|og 11 true (fun G Q U W H D=>zA6 ((H 2 Z).trans h2) zFe sizeOf3 (by decide) Z)<|og 11 true (fun G Q U W H D=>OpF.int (zA7 ((q.fr W).ok 0 _ Z).1 (D.h 0 G Z) zBE Z isAgg3 sizeOf3))<|og 11 true (fun G Q U W H D=>zA6 ((H 3 Z).trans h3) zFe sizeOf3 (by decide) Z)<|og 11 true (fun G Q U W H D=>OpF.int (zA7 ((q.fr W).ok 1 _ Z).1 (D.h 0 G Z) zBE Z isAgg3 sizeOf3))<|og 11 true (fun G Q U W H D=>zBS (D.h 0 G Z) (D.h 1 G Z))<|og 5 false (fun G Q U W H D=>zAl (p0.1==p1.1) (D.h 0 G Z) (fun hc=>by have a1:Q 21=.bool (decide (p0.2.1<p1.2.1)):=D 1 _ _ _ Z Z Z Z (zCH G (zBA hc));show _=Value.bool x3;rw [q4,hc];exact a1) (fun hc=>by show _=Value.bool x3;rw [q4,hc];exact Z))<|op (fun Q U W H D=>zAl (decide (p0.1<p1.1)) (D.g 0 Z) (fun hc=>by show _=Value.bool x5;rw [q6,hc];exact Z) (fun hc=>by have a2:Q 22=.bool x3:=D 1 _ _ _ Z Z Z Z (zCH Z (zBA hc));show _=Value.bool x5;rw [q6,hc];exact a2))<|oa<|oz
 intro R w m n p d j
 have h4:=p.r 19 Z
 replace q:=q.fr m
 replace q:IniOK [] A w:=q.sub [] N
 refine HT.ret ?_
 obtain rfl:=si c
 exact ⟨.inr Z,[R 4],⟨Z,N⟩,h4,j⟩
end Go.Proofs.YtmgiijdejigdhaaGreatDoor
