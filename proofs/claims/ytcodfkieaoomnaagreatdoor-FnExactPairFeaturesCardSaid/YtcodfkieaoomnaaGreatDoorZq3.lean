/- Own texts laid together. No statement of the seat is proved here. -/
import Derived.Test.YtcodfkieaoomnaaGreatDoorZq2
namespace Go.Proofs.YtcodfkieaoomnaaGreatDoor
open Go.RowKit
set_option linter.unusedVariables false
open _root_.Go.Proofs.Tryz
set_option maxRecDepth 100000
set_option maxHeartbeats 4000000
def zBT (fu : Nat) (p0 : List (List UInt8)) : Nat → Int → Int → Option (Ex Int Int)
 | 0,_,_=>none
 | k+1,y6,y7=>
 bif (decide (y7<(p0.length:Int))) then (
 ck (inR y7 p0.length) <|
 ck (i64B (y6-((gtD p0 y7).length:Int))) <|
 bif (decide ((y6-((gtD p0 y7).length:Int))<0)) then (
 some (Ex.ret (-1))
 ) else (
 ck (i64B (y7+1)) <|
 zBT fu p0 k (y6-((gtD p0 y7).length:Int)) (y7+1)
 )
 ) else (
 some (Ex.go y6)
 )
def zD3 (fu:Nat) (p0:List (List UInt8)) (p1:Int):Option Int:=
 ck (i64B (p1-(p0.length:Int))) <|
 bif (decide ((p1-(p0.length:Int))<0)) then (
 some (-1)
 ) else (
 cl true (zBT fu p0 fu (p1-(p0.length:Int)) 0) fun rl3=>
 exM rl3 (fun r=>some r) fun s5=>
 some s5
 )
theorem zGW {fu : Nat} {A : Av} {p0 : List (List UInt8)} {p1 : Int} {r : Int} (c : zD3 fu p0 p1 = some r) {w : World} {v0 : Value} {v1 : Value} (d : AvOK A w) (h0 : Rep (eSl eStr) A w v0 p0) (h1 : v1 = .int .i64 p1) :
 Calls prog 107 #[v0,v1] w fun e w'=>∃ v,e = .returned v∧(v = .int .i64 r∧Fr w w'):=by
 unfold zD3 at c
 obtain ⟨w0,hw0⟩:∃ w0,w0=w:=⟨_,Z⟩
 have j:Fr w0 w:=hw0 ▸ Fr.refl _
 rw [show Fr w=Fr w0 from hw0 ▸ Z]
 clear hw0
 refine zA2 [.tmp 4] func107 ntmps107 (by decide) Z Z (nb Z) ?_
 intro R hR
 have f_v0:=h0
 replace h0:R 0=v0:=hR 0 _ Z
 replace h1:R 1 = .int .i64 p1:=(hR 1 _ Z).trans h1
 clear hR
 refine HT.su d j (eI 0::[]) ?_ ?_
 exact op (fun Q U W H D=>zA0 Z)<|oz
 intro R w m n p d j
 obtain ⟨h0,h1⟩:=k2 n h0 h1
 replace f_v0:=f_v0.fr m
 obtain ⟨e1,c⟩:=zA4 c
 refine HT.su d j (eI p1::eR v0::eI (p0.length:Int)::eI (p1-(p0.length:Int))::eI (p1-(p0.length:Int))::[]) ?_ ?_
 exact om h1<|om h0<|op (fun Q U W H D=>zAb (aT:=#[]) ((f_v0.fr W).eq (D.g 0 Z)) underlying46)<|op (fun Q U W H D=>zAX (D.g 0 Z) (D.g 1 Z) e1)<|oa<|oz
 intro R w m n p d j
 replace h0:=k1 n h0
 have h1:=p.r 4 Z
 replace f_v0:=f_v0.fr m
 refine HT.seq ?_
 refine HT.su d j (eI (p1-(p0.length:Int))::eB (decide ((p1-(p0.length:Int))<0))::[]) ?_ ?_
 exact om h1<|op (fun Q U W H D=>zAf (D.g 0 Z) Z)<|oz
 intro R w m n p d j
 obtain ⟨h0,h1⟩:=k2 n h0 h1
 have h11:=p.r 1 Z
 replace f_v0:=f_v0.fr m
 refine HT.cond (decide ((p1-(p0.length:Int))<0)) h11 (fun c2=>?_) (fun c2=>?_)
 have c:=zAK c2 c
 refine HT.su d j (eI (-1)::[]) ?_ ?_
 exact op (fun Q U W H D=>zA0 Z)<|oz
 intro R w m n p d j
 have h4:=p.r 0 Z
 refine HT.ret ?_
 obtain rfl:=si c
 exact ⟨.inr Z,[R 4],⟨Z,N⟩,h4,j⟩
 have c:=zAL c2 c
 refine HT.skip ?_
 refine HT.seq ?_
 refine HT.su d j (eI 0::[]) ?_ ?_
 exact op (fun Q U W H D=>zA0 Z)<|oz
 intro R w m n p d j
 obtain ⟨h0,h1⟩:=k2 n h0 h1
 have h5:=p.r 0 Z
 replace f_v0:=f_v0.fr m
 obtain ⟨rl3,q4,c⟩:=zA3 c
 replace q4:=q4 Z
 refine HT.cut0 (fun R w=>∃ (s5:Int),rl3=Ex.go s5∧AvOK A w∧Fr w0 w∧R 1 = .int .i64 s5) ?_ ?_
 refine HT.block ?_
 refine HT.loop (fun k R w=>∃ (y6:Int) (y7:Int),zBT fu p0 k y6 y7=some rl3∧AvOK A w∧Fr w0 w∧R 0=v0∧R 1 = .int .i64 y6∧R 5 = .int .i64 y7∧Rep (eSl eStr) A w v0 p0) fu ⟨_,_,q4,d,j,h0,h1,h5,f_v0⟩ ?_
 have hr0:=c;clear c q4
 rintro k R w ⟨y6,y7,c,d,j,h0,h1,h5,f_v0⟩
 rcases k with _ | k
 cases (show none=some _ from c)
 rw [zBT] at c
 refine HT.seq ?_
 refine HT.su d j (eI y7::eR v0::eI (p0.length:Int)::eB (decide (y7<(p0.length:Int)))::[]) ?_ ?_
 exact om h5<|om h0<|op (fun Q U W H D=>zAb (aT:=#[]) ((f_v0.fr W).eq (D.g 0 Z)) underlying46)<|op (fun Q U W H D=>zAf (D.g 0 Z) (D.g 1 Z))<|oz
 intro R w m n p d j
 obtain ⟨h0,h1,h5⟩:=k3 n h0 h1 h5
 have h15:=p.r 3 Z
 replace f_v0:=f_v0.fr m
 refine HT.cond (decide (y7<(p0.length:Int))) h15 (fun c8=>?_) (fun c8=>?_)
 have c:=zAK c8 c
 refine HT.skip ?_
 refine HT.seq ?_
 refine HT.block ?_
 obtain ⟨e9,e10,c⟩:=ck2 c
 refine HT.su d j (eI y6::eR v0::eI y7::eF (.qtr eStr A (gtD p0 y7))::eF (.rep eStr A (gtD p0 y7))::eI ((gtD p0 y7).length:Int)::eI (y6-((gtD p0 y7).length:Int))::eI (y6-((gtD p0 y7).length:Int))::[]) ?_ ?_
 exact om h1<|om h0<|om h5<|op (fun Q U W H D=>zA7 ((f_v0.fr W).eq (D.g 0 Z)) (D.g 1 Z) underlying46 sizeOf9 e9)<|op (fun Q U W H D=>(zAQ (QRep.ptr (D.g 0 Z)) isAgg9 sizeOf9))<|op (fun Q U W H D=>zAG (D.g 0 Z) underlying9)<|op (fun Q U W H D=>zAX (D.g 0 Z) (D.g 1 Z) e10)<|oa<|oz
 intro R w m n p d j
 obtain ⟨h0,h5⟩:=k2 n h0 h5
 have h1:=p.r 7 Z
 replace f_v0:=f_v0.fr m
 refine HT.su d j (eI (y6-((gtD p0 y7).length:Int))::eB (decide ((y6-((gtD p0 y7).length:Int))<0))::[]) ?_ ?_
 exact om h1<|op (fun Q U W H D=>zAf (D.g 0 Z) Z)<|oz
 intro R w m n p d j
 obtain ⟨h0,h1,h5⟩:=k3 n h0 h1 h5
 have h26:=p.r 1 Z
 replace f_v0:=f_v0.fr m
 refine HT.cond (decide ((y6-((gtD p0 y7).length:Int))<0)) h26 (fun c11=>?_) (fun c11=>?_)
 have c:=zAK c11 c
 refine HT.su d j (eI (-1)::[]) ?_ ?_
 exact op (fun Q U W H D=>zA0 Z)<|oz
 intro R w m n p d j
 have h4:=p.r 0 Z
 refine HT.ret ?_
 obtain rfl:=si c
 have c:=hr0
 replace c:some _=some _:=c
 obtain rfl:=si c
 exact ⟨.inr Z,[R 4],⟨Z,N⟩,h4,j⟩
 have c:=zAL c11 c
 refine HT.skip ?_
 obtain ⟨e12,c⟩:=zA4 c
 refine HT.u d j (eI y7::eI (y7+1)::eI (y7+1)::[]) ?_ ?_
 exact om h5<|op (fun Q U W H D=>zAN (D.g 0 Z) Z e12)<|oa<|oz
 intro R w m n p d j
 obtain ⟨h0,h1⟩:=k2 n h0 h1
 have h5:=p.r 2 Z
 replace f_v0:=f_v0.fr m
 exact ei k (And.intro (Nat.lt_succ_self k) ⟨_,_,c,d,j,h0,h1,h5,f_v0⟩)
 have c:=zAL c8 c
 refine HT.exit ?_
 obtain rfl:=si c
 exact ei _ ⟨Z,d,j,h1⟩
 rintro R w ⟨s5,rfl,d,j,h1⟩
 have c:=zEP c
 refine HT.su d j (eI s5::eI s5::[]) ?_ ?_
 exact om h1<|oa<|oz
 intro R w m n p d j
 have h4:=p.r 1 Z
 refine HT.ret ?_
 obtain rfl:=si c
 exact ⟨.inr Z,[R 4],⟨Z,N⟩,h4,j⟩
def zCq (fu:Nat) (p0:zAA) (p1:Int):Option Int:=
 cl true (zD3 fu p0.2.2.2 p1) fun x2=>
 bif (decide (x2<0)) then (
 some (-1)
 ) else (
 some x2
 )
theorem zF1 {fu : Nat} {A0 : Av} {p0 : zAA} {p1 : Int} {r : Int} (c : zCq fu p0 p1 = some r) {w : World} {v0 : Value} {v1 : Value} (d : AvOK A0 w) (h0 : Rep zA1 A0 w v0 p0) (h1 : v1 = .int .i64 p1) :
 Calls prog 31 #[v0,v1] w fun e w'=>∃ v,e = .returned v∧(v = .int .i64 r∧Fr w w'):=by
 unfold zCq at c
 obtain ⟨w0,hw0⟩:∃ w0,w0=w:=⟨_,Z⟩
 have j:Fr w0 w:=hw0 ▸ Fr.refl _
 have C:∀ b o,A0 b o→b<w0.heap.size:=fun b o h=>hw0 ▸ d b o h
 have hA00:AvOK A0 w0:=C
 rw [show Fr w=Fr w0 from hw0 ▸ Z]
 clear hw0
 obtain ⟨A,hAe⟩:∃ A,A=A0:=⟨_,Z⟩
 have B:∀ b o,A0 b o→A b o:=fun b o h=>hAe ▸ h
 replace d:AvOK A w:=hAe ▸ d
 have q:IniOK [] A w:=IniOK.nil
 refine zA2 [.tmp 4] func31 ntmps31 (by decide) Z Z (nb Z) ?_
 intro R hR
 have f_v0:Rep zA1 A w v0 p0:=hAe ▸ h0
 replace h0:R 0=v0:=hR 0 _ Z
 replace h1:R 1 = .int .i64 p1:=(hR 1 _ Z).trans h1
 clear hR hAe
 refine HT.sx [] (⟨_,true,[],some (.box w0.heap.size 48 zA1 p0),true,fun A=>.any⟩::rI 0::[]) (ua (ur (UAll.nil))) q d ?_ ?_
 exact rc (OblR.made _ Z Z Z Z fun V Q U O D=>by have a0:Q 0=v0:=(O.old 0 Z).trans h0;have ra0:=(f_v0.stp O.stp).eq a0;exact zDE ra0 (Nat.le_trans j.size O.ch.size))<|rp (fun V Q U O D=>zA0 Z)<|rz
 intro done ρ σ A R w y s
 replace h1:=k1 s.rg h1
 obtain ⟨b2_0,e_b2_0⟩:=s.boxv y 0 Z Z
 have h2:=s.ov y 0 0 e_b2_0
 obtain ⟨B,j,d⟩:=s.s B C j q N
 replace q:=s.left y [(0,ob (.pointer (some ⟨b2_0,0,none⟩)) (.box w0.heap.size 48 zA1 p0))] ⟨Z,Z,e_b2_0,Z,Z,N⟩
 obtain ⟨x2,q3,c⟩:=zA3 c
 refine HT.su d j (eR (.pointer (some ⟨b2_0,3,none⟩))::eF (.rep (eSl eStr) A p0.2.2.2)::eI p1::eI x2::eI x2::[]) ?_ ?_
 exact op (fun Q U W H D=>zA9 ((H 2 Z).trans h2) zMR sizeOf46 (by decide) Z)<|op (fun Q U W H D=>(zAE ((q.fr W).ok 0 _ Z).1 (D.g 0 Z) zAO Z isAgg46 sizeOf46))<|om h1<|op (fun Q U W H D=>zA6 call107 (zGW (q3 Z) (d.fr W.size) (D.g 0 Z) (D.g 1 Z)))<|oa<|oz
 intro R w m n p d j
 have h1:=p.r 4 Z
 replace q:=q.fr m
 replace q:IniOK [] A w:=q.sub [] N
 refine HT.seq ?_
 refine HT.su d j (eI x2::eB (decide (x2<0))::[]) ?_ ?_
 exact om h1<|op (fun Q U W H D=>zAf (D.g 0 Z) Z)<|oz
 intro R w m n p d j
 replace h1:=k1 n h1
 have h10:=p.r 1 Z
 replace q:=q.fr m
 refine HT.cond (decide (x2<0)) h10 (fun c4=>?_) (fun c4=>?_)
 have c:=zAK c4 c
 refine HT.su d j (eI (-1)::[]) ?_ ?_
 exact op (fun Q U W H D=>zA0 Z)<|oz
 intro R w m n p d j
 have h4:=p.r 0 Z
 replace q:=q.fr m
 refine HT.ret ?_
 obtain rfl:=si c
 exact ⟨.inr Z,[R 4],⟨Z,N⟩,h4,j⟩
 have c:=zAL c4 c
 refine HT.skip ?_
 refine HT.su d j (eI x2::eI x2::[]) ?_ ?_
 exact om h1<|oa<|oz
 intro R w m n p d j
 have h4:=p.r 1 Z
 replace q:=q.fr m
 refine HT.ret ?_
 obtain rfl:=si c
 exact ⟨.inr Z,[R 4],⟨Z,N⟩,h4,j⟩
def zBS (fu : Nat) (p0 : List (List UInt8)) : Nat → Int → (List (List UInt8)) → Option (List (List UInt8))
 | 0,_,_=>none
 | k+1,y6,y7=>
 bif (decide (y6<(p0.length:Int))) then (
 ck (inR y6 p0.length) <|
 ck (inR y6 y7.length) <|
 ck (i64B (y6+1)) <|
 zBS fu p0 k (y6+1) (y7.set y6.toNat (gtD p0 y6))
 ) else (
 some y7
 )
def zD4 (fu:Nat) (p0:List (List UInt8)):Option (List (List UInt8)):=
 ck (mkOK (p0.length:Int)) <|
 cl true (zBS fu p0 fu 0 (List.replicate (p0.length:Int).toNat ([]:List UInt8))) fun s5=>
 some s5
theorem zGZ {fu : Nat} {A0 : Av} {p0 : List (List UInt8)} {r : List (List UInt8)} (c : zD4 fu p0 = some r) {w : World} {v0 : Value} (d : AvOK A0 w) (h0 : Rep (eSl eStr) A0 w v0 p0) :
 Calls prog 112 #[v0] w fun e w'=>∃ v,e = .returned v∧((Res.vec w.heap.size 9 eStr r).ok (addA A0 v) v w'∧Fr w w'):=by
 unfold zD4 at c
 obtain ⟨w0,hw0⟩:∃ w0,w0=w:=⟨_,Z⟩
 have j:Fr w0 w:=hw0 ▸ Fr.refl _
 have C:∀ b o,A0 b o→b<w0.heap.size:=fun b o h=>hw0 ▸ d b o h
 have hA00:AvOK A0 w0:=C
 rw [show w.heap.size=w0.heap.size from hw0 ▸ Z]
 rw [show Fr w=Fr w0 from hw0 ▸ Z]
 clear hw0
 obtain ⟨A,hAe⟩:∃ A,A=A0:=⟨_,Z⟩
 have B:∀ b o,A0 b o→A b o:=fun b o h=>hAe ▸ h
 replace d:AvOK A w:=hAe ▸ d
 have q:IniOK [] A w:=IniOK.nil
 refine zA2 [.tmp 2] func112 ntmps112 (by decide) Z Z (nb Z) ?_
 intro R hR
 have f_v0:Rep (eSl eStr) A w v0 p0:=hAe ▸ h0
 replace h0:R 0=v0:=hR 0 _ Z
 clear hR hAe
 refine HT.su d j (eA::[]) ?_ ?_
 exact op (fun Q U W H D=>zA0 N)<|oz
 intro R w m n p d j
 replace h0:=k1 n h0
 replace f_v0:=f_v0.fr m
 replace q:=q.fr m
 obtain ⟨e1,c⟩:=zA4 c
 refine HT.sx [] (rR v0::rI (p0.length:Int)::⟨_,true,[],some (.vec w0.heap.size 9 eStr (List.replicate (p0.length:Int).toNat ([]:List UInt8))),true,fun A=>.any⟩::⟨_,true,[2],some (.vec w0.heap.size 9 eStr (List.replicate (p0.length:Int).toNat ([]:List UInt8))),true,fun A=>.any⟩::[]) (ur (ur (ua (ua (UAll.nil))))) q d ?_ ?_
 exact rm h0<|rp (fun V Q U O D=>zAb (aT:=#[]) ((f_v0.stp O.stp).eq (D.g 0 Z)) underlying46)<|rc (OblR.made _ Z Z Z Z fun V Q U O D=>by have a0:Q 6 = .int .i64 (p0.length:Int):=D.g 0 Z;have a1:Q 6 = .int .i64 (p0.length:Int):=D.g 0 Z;exact zI7 a0 a1 e1 underlying46 el_9 zeroValue9 (fun A w=>(zKr Z (by decide))) (Nat.le_trans j.size O.ch.size))<|rc (OblR.took 2 _ _ Z Z Z Z Z fun V Q U O D u hok hav hin hop hds=>by exact zAH (hop _ _ Z Z Z Z).symm hok hav)<|rz
 intro done ρ σ A R w y s
 replace h0:=k1 s.rg h0
 obtain ⟨u2,e_u2⟩:∃ u,ρ 3=u:=⟨_,Z⟩
 have h3:=s.ov y 3 3 e_u2
 replace f_v0:=f_v0.stp s.stp
 obtain ⟨B,j,d⟩:=s.s B C j q N
 replace q:=s.left y [(3,ob u2 (.vec w0.heap.size 9 eStr (List.replicate (p0.length:Int).toNat ([]:List UInt8))))] ⟨Z,Z,e_u2,Z,Z,N⟩
 refine HT.seq ?_
 refine HT.su d j (eI 0::[]) ?_ ?_
 exact op (fun Q U W H D=>zA0 Z)<|oz
 intro R w m n p d j
 obtain ⟨h0,h3⟩:=k2 n h0 h3
 have h4:=p.r 0 Z
 replace f_v0:=f_v0.fr m
 replace q:=q.fr m
 obtain ⟨rl3,q4,c⟩:=zA3 c
 replace q4:=q4 Z
 refine HT.cut0 (fun R w=>∃ A:Av,∃ (s5:(List (List UInt8))),rl3=s5∧AvOK A w∧Fr w0 w∧(∀ b o,A0 b o→A b o)∧IniOK [ob u2 (.vec w0.heap.size 9 eStr s5)] A w∧R 3=u2) ?_ ?_
 refine HT.block ?_
 refine HT.loop (fun k R w=>∃ A:Av,∃ (y6:Int) (y7:List (List UInt8)),zBS fu p0 k y6 y7=some rl3∧AvOK A w∧Fr w0 w∧(∀ b o,A0 b o→A b o)∧IniOK [ob u2 (.vec w0.heap.size 9 eStr y7)] A w∧R 0=v0∧R 3=u2∧R 4 = .int .i64 y6∧Rep (eSl eStr) A w v0 p0) fu ⟨_,_,_,q4,d,j,B,q,h0,h3,h4,f_v0⟩ ?_
 have hr0:=c;clear c q4
 rintro k R w ⟨A,y6,y7,c,d,j,B,q,h0,h3,h4,f_v0⟩
 rcases k with _ | k
 cases (show none=some _ from c)
 rw [zBS] at c
 refine HT.seq ?_
 refine HT.su d j (eI y6::eR v0::eI (p0.length:Int)::eB (decide (y6<(p0.length:Int)))::[]) ?_ ?_
 exact om h4<|om h0<|op (fun Q U W H D=>zAb (aT:=#[]) ((f_v0.fr W).eq (D.g 0 Z)) underlying46)<|op (fun Q U W H D=>zAf (D.g 0 Z) (D.g 1 Z))<|oz
 intro R w m n p d j
 obtain ⟨h0,h3,h4⟩:=k3 n h0 h3 h4
 have h11:=p.r 3 Z
 replace f_v0:=f_v0.fr m
 replace q:=q.fr m
 refine HT.cond (decide (y6<(p0.length:Int))) h11 (fun c8=>?_) (fun c8=>?_)
 have c:=zAK c8 c
 refine HT.skip ?_
 refine HT.seq ?_
 refine HT.block ?_
 obtain ⟨e9,e10,c⟩:=ck2 c
 refine HT.x [ob u2 (.vec w0.heap.size 9 eStr y7)] (rR u2::rI y6::rR v0::rI y6::(rF fun A=>.qtr eStr A (gtD p0 y6))::(rF fun A=>.rep eStr A (gtD p0 y6))::rR (vptr u2 (y6.toNat*1))::⟨_,true,[0],some (.vec w0.heap.size 9 eStr (y7.set y6.toNat (gtD p0 y6))),false,fun A=>.any⟩::[]) (ur (ur (ur (ur (UAll.cons zBG (up (ur (ua (UAll.nil))))))))) q d ?_ ?_
 exact rm h3<|rm h4<|rm h0<|rm h4<|rp (fun V Q U O D=>zA7 ((f_v0.stp O.stp).eq (D.g 0 Z)) (D.g 1 Z) underlying46 sizeOf9 e9)<|rp (fun V Q U O D=>(zAQ (QRep.ptr (D.g 0 Z)) isAgg9 sizeOf9))<|rp (fun V Q U O D=>zAF (q.ok 0 _ Z).1 (D.g 0 Z) (D.g 1 Z) underlying46 sizeOf9 e10 Z)<|rc (OblR.took 0 _ _ Z Z Z Z Z fun V Q U O D u hok hav hin hop hds=>by have a0:Q 20=(vptr u2 (y6.toNat*1)):=D.g 0 Z;have a1:Rep eStr V U (Q 19) (gtD p0 y6):=D.g 1 Z;obtain rfl:=hin _ Z;exact zBY a1 hok hav a0 e10 Z (FldS.id _) sizeOf9 Z)<|rz
 intro done ρ σ A R w y s
 obtain ⟨h0,h3,h4⟩:=k3 s.rg h0 h3 h4
 have z11:=s.inivR 0 Z
 have z12:=s.on y 8 7 Z Z Z Z Z z11
 replace f_v0:=f_v0.stp s.stp
 obtain ⟨B,j,d⟩:=s.s B C j q ⟨Z,N⟩
 replace q:=s.left y [(8,ob u2 (.vec w0.heap.size 9 eStr (y7.set y6.toNat (gtD p0 y6))))] ⟨Z,Z,z12,Z,Z,N⟩
 obtain ⟨e13,c⟩:=zA4 c
 refine HT.u d j (eI y6::eI (y6+1)::eI (y6+1)::[]) ?_ ?_
 exact om h4<|op (fun Q U W H D=>zAN (D.g 0 Z) Z e13)<|oa<|oz
 intro R w m n p d j
 obtain ⟨h0,h3⟩:=k2 n h0 h3
 have h4:=p.r 2 Z
 replace f_v0:=f_v0.fr m
 replace q:=q.fr m
 exact ei k (And.intro (Nat.lt_succ_self k) ⟨_,_,_,c,d,j,B,q,h0,h3,h4,f_v0⟩)
 have c:=zAL c8 c
 refine HT.exit ?_
 obtain rfl:=si c
 exact ei _ ⟨_,Z,d,j,B,q,h3⟩
 rintro R w ⟨A,s5,es,d,j,B,q,h3⟩
 obtain rfl:=es.symm
 refine HT.su d j (eR u2::eR u2::[]) ?_ ?_
 exact om h3<|oa<|oz
 intro R w m n p d j
 have h2:=p.r 1 Z
 replace q:=q.fr m
 refine HT.ret ?_
 obtain rfl:=si c
 exact ⟨.inr Z,[R 2],⟨Z,N⟩,(zCT (q.ok 0 _ Z) B h2),j⟩
def zAj (fu:Nat) (p0:zAA):Option zAA:=
 cl true (zD4 fu p0.2.2.2) fun x23=>
 some (p0.1,p0.2.1,p0.2.2.1,x23)
theorem zDz {fu : Nat} {A0 : Av} {p0 : zAA} {r : zAA} (c : zAj fu p0 = some r) {w : World} {v0 : Value} (d : AvOK A0 w) (h0 : Rep zA1 A0 w v0 p0) :
 Calls prog 33 #[v0] w fun e w'=>∃ v,e = .returned v∧(zFN A0 (trR (geB w.heap.size) (oPr (oRd (eInt .i64)) (oPr (oRd (eInt .i64)) (oPr (oRd (eInt .i64)) (oSl 9 (oRd eStr))))) r []) (fun _=>.any) w v w'):=by
 unfold zAj at c
 obtain ⟨w0,hw0⟩:∃ w0,w0=w:=⟨_,Z⟩
 have j:Fr w0 w:=hw0 ▸ Fr.refl _
 have C:∀ b o,A0 b o→b<w0.heap.size:=fun b o h=>hw0 ▸ d b o h
 have hA00:AvOK A0 w0:=C
 rw [show zFN A0 (trR (geB w.heap.size) (oPr (oRd (eInt .i64)) (oPr (oRd (eInt .i64)) (oPr (oRd (eInt .i64)) (oSl 9 (oRd eStr))))) r []) (fun _=>.any) w=zFN A0 (trR (geB w0.heap.size) (oPr (oRd (eInt .i64)) (oPr (oRd (eInt .i64)) (oPr (oRd (eInt .i64)) (oSl 9 (oRd eStr))))) r []) (fun _=>.any) w0 from hw0 ▸ Z]
 clear hw0
 obtain ⟨A,hAe⟩:∃ A,A=A0:=⟨_,Z⟩
 have B:∀ b o,A0 b o→A b o:=fun b o h=>hAe ▸ h
 replace d:AvOK A w:=hAe ▸ d
 have q:IniOK [] A w:=IniOK.nil
 refine zA2 [.cell 2 51] func33 ntmps33 (by decide) Z Z (nb Z) ?_
 intro R hR
 have f_v0:Rep zA1 A w v0 p0:=hAe ▸ h0
 replace h0:R 0=v0:=hR 0 _ Z
 clear hR hAe
 refine HT.sx [] (⟨_,true,[],some (.box w0.heap.size 48 zA1 p0),true,fun A=>.any⟩::⟨_,true,[],some (trR (geB w0.heap.size) (oPt 51 (oPr (oRd (eInt .i64)) (oPr (oRd (eInt .i64)) (oPr (oRd (eInt .i64)) (oSl 9 (oRd eStr)))))) (0,(0,(0,([]:List (List UInt8))))) []),true,fun A=>.any⟩::[]) (ua (ua (UAll.nil))) q d ?_ ?_
 exact rc (OblR.made _ Z Z Z Z fun V Q U O D=>by have a0:Q 0=v0:=(O.old 0 Z).trans h0;have ra0:=(f_v0.stp O.stp).eq a0;exact zDE ra0 (Nat.le_trans j.size O.ch.size))<|rc (OblR.madeS _ Z Z Z Z fun V Q U O D=>by exact zFZ zeroValue51 (fun A w=>zFf (zFh zDJ) (zFf (zFh zDJ) (zFf (zFh zDJ) zHo))) (fun k hk=>Nat.le_trans (Nat.le_trans j.size O.ch.size) hk))<|rz
 intro done ρ σ A R w y s
 obtain ⟨b1_0,e_b1_0⟩:=s.boxv y 0 Z Z
 have h1:=s.ov y 0 0 e_b1_0
 obtain ⟨u2,e_u2⟩:∃ u,ρ 1=u:=⟨_,Z⟩
 have h2:=s.ov y 1 1 e_u2
 obtain ⟨S3,eS_u2⟩:∃ S,σ 1=S:=⟨_,Z⟩
 obtain ⟨B,j,d⟩:=s.s B C j q N
 replace q:=s.left y [(0,ob (.pointer (some ⟨b1_0,0,none⟩)) (.box w0.heap.size 48 zA1 p0)),(1,⟨u2,S3,trR (geB w0.heap.size) (oPt 51 (oPr (oRd (eInt .i64)) (oPr (oRd (eInt .i64)) (oPr (oRd (eInt .i64)) (oSl 9 (oRd eStr)))))) (0,(0,(0,([]:List (List UInt8))))) []⟩)] ⟨Z,Z,e_b1_0,Z,Z,⟨Z,Z,e_u2,eS_u2,Z,N⟩⟩
 refine HT.sx [ob (.pointer (some ⟨b1_0,0,none⟩)) (.box w0.heap.size 48 zA1 p0),⟨u2,S3,trR (geB w0.heap.size) (oPt 51 (oPr (oRd (eInt .i64)) (oPr (oRd (eInt .i64)) (oPr (oRd (eInt .i64)) (oSl 9 (oRd eStr)))))) (0,(0,(0,([]:List (List UInt8))))) []⟩] (⟨_,true,[],some (trR (geB w0.heap.size) (oPt 51 (oPr (oRd (eInt .i64)) (oPr (oRd (eInt .i64)) (oPr (oRd (eInt .i64)) (oSl 9 (oRd eStr)))))) (0,(0,(0,([]:List (List UInt8))))) []),true,fun A=>.any⟩::[]) (ua (UAll.nil)) q d ?_ ?_
 exact rc (OblR.madeS _ Z Z Z Z fun V Q U O D=>by exact zFZ zeroValue51 (fun A w=>zFf (zFh zDJ) (zFf (zFh zDJ) (zFf (zFh zDJ) zHo))) (fun k hk=>Nat.le_trans (Nat.le_trans j.size O.ch.size) hk))<|rz
 intro done ρ σ A R w y s
 obtain ⟨h1,h2⟩:=k2 s.rg h1 h2
 have z4:=s.inivR 0 Z
 have z5:=s.inivR 1 Z
 obtain ⟨u6,e_u6⟩:∃ u,ρ 2=u:=⟨_,Z⟩
 have h3:=s.ov y 2 0 e_u6
 have eS_u2:=s.inisR 1 Z
 obtain ⟨S7,eS_u6⟩:∃ S,σ 2=S:=⟨_,Z⟩
 obtain ⟨B,j,d⟩:=s.s B C j q ⟨Z,⟨fun _ h=>h,N⟩⟩
 replace q:=s.left y [(0,ob (.pointer (some ⟨b1_0,0,none⟩)) (.box w0.heap.size 48 zA1 p0)),(1,⟨u2,S3,trR (geB w0.heap.size) (oPt 51 (oPr (oRd (eInt .i64)) (oPr (oRd (eInt .i64)) (oPr (oRd (eInt .i64)) (oSl 9 (oRd eStr)))))) (0,(0,(0,([]:List (List UInt8))))) []⟩),(2,⟨u6,S7,trR (geB w0.heap.size) (oPt 51 (oPr (oRd (eInt .i64)) (oPr (oRd (eInt .i64)) (oPr (oRd (eInt .i64)) (oSl 9 (oRd eStr)))))) (0,(0,(0,([]:List (List UInt8))))) []⟩)] ⟨Z,Z,z4,Z,Z,⟨Z,Z,z5,eS_u2,Z,⟨Z,Z,e_u6,eS_u6,Z,N⟩⟩⟩
 refine HT.sx [ob (.pointer (some ⟨b1_0,0,none⟩)) (.box w0.heap.size 48 zA1 p0),⟨u2,S3,trR (geB w0.heap.size) (oPt 51 (oPr (oRd (eInt .i64)) (oPr (oRd (eInt .i64)) (oPr (oRd (eInt .i64)) (oSl 9 (oRd eStr)))))) (0,(0,(0,([]:List (List UInt8))))) []⟩,⟨u6,S7,trR (geB w0.heap.size) (oPt 51 (oPr (oRd (eInt .i64)) (oPr (oRd (eInt .i64)) (oPr (oRd (eInt .i64)) (oSl 9 (oRd eStr)))))) (0,(0,(0,([]:List (List UInt8))))) []⟩] (rR (.pointer (some ⟨b1_0,0,none⟩))::rI p0.1::rR u6::⟨_,true,[2],some (trR (geB w0.heap.size) (oPt 51 (oPr (oRd (eInt .i64)) (oPr (oRd (eInt .i64)) (oPr (oRd (eInt .i64)) (oSl 9 (oRd eStr)))))) (p0.1,0,0,([]:List (List UInt8))) []),false,fun A=>.any⟩::[]) (ur (ur (ur (ua (UAll.nil))))) q d ?_ ?_
 exact rp (fun V Q U O D=>zA9 ((O.old 1 Z).trans h1) zOd sizeOf3 (by decide) Z)<|rp (fun V Q U O D=>OpF.int (zAE (O.rd 0 _ Z Z) (D.g 0 Z) zD5 Z isAgg3 sizeOf3))<|rp (fun V Q U O D=>zDL ((zAJ (q.own 2 _ Z).2).ptr).ad ((O.old 3 Z).trans h3) zI3 sizeOf3 (by decide) (zMJ ((zAJ (q.own 2 _ Z).2).ptr).ad))<|rc (OblR.tookS 2 _ _ Z Z Z Z Z fun V Q U O D u S hok hown hav hin hop hds=>by have a0:Q 6=u6:=D.g 0 Z;have a1:Q 5 = .int .i64 p0.1:=D.g 1 Z;have e0:=(hin _ Z).1;rw [e0] at hown ⊢;exact zCy ((zAJ hown.2).ptr).fst (zAe.eq a1) a0 hav hown.1 sizeOf3 (fun _ _ _ h=>h))<|rz
 intro done ρ σ A R w y s
 obtain ⟨h1,h2,h3⟩:=k3 s.rg h1 h2 h3
 have z8:=s.inivR 0 Z
 have z9:=s.inivR 1 Z
 have z10:=s.inivR 2 Z
 have z11:=s.on y 6 3 Z Z Z Z Z z10
 have eS_u2:=s.inisR 1 Z
 obtain ⟨S12,eS_u6⟩:∃ S,σ 6=S:=⟨_,Z⟩
 obtain ⟨B,j,d⟩:=s.s B C j q ⟨Z,⟨fun _ h=>h,⟨fun _ h=>h,N⟩⟩⟩
 replace q:=s.left y [(0,ob (.pointer (some ⟨b1_0,0,none⟩)) (.box w0.heap.size 48 zA1 p0)),(1,⟨u2,S3,trR (geB w0.heap.size) (oPt 51 (oPr (oRd (eInt .i64)) (oPr (oRd (eInt .i64)) (oPr (oRd (eInt .i64)) (oSl 9 (oRd eStr)))))) (0,(0,(0,([]:List (List UInt8))))) []⟩),(6,⟨u6,S12,trR (geB w0.heap.size) (oPt 51 (oPr (oRd (eInt .i64)) (oPr (oRd (eInt .i64)) (oPr (oRd (eInt .i64)) (oSl 9 (oRd eStr)))))) (p0.1,0,0,([]:List (List UInt8))) []⟩)] ⟨Z,Z,z8,Z,Z,⟨Z,Z,z9,eS_u2,Z,⟨Z,Z,z11,eS_u6,Z,N⟩⟩⟩
 refine HT.sx [ob (.pointer (some ⟨b1_0,0,none⟩)) (.box w0.heap.size 48 zA1 p0),⟨u2,S3,trR (geB w0.heap.size) (oPt 51 (oPr (oRd (eInt .i64)) (oPr (oRd (eInt .i64)) (oPr (oRd (eInt .i64)) (oSl 9 (oRd eStr)))))) (0,(0,(0,([]:List (List UInt8))))) []⟩,⟨u6,S12,trR (geB w0.heap.size) (oPt 51 (oPr (oRd (eInt .i64)) (oPr (oRd (eInt .i64)) (oPr (oRd (eInt .i64)) (oSl 9 (oRd eStr)))))) (p0.1,0,0,([]:List (List UInt8))) []⟩] (rR (.pointer (some ⟨b1_0,1,none⟩))::rI p0.2.1::rR (padd u6 1)::⟨_,true,[2],some (trR (geB w0.heap.size) (oPt 51 (oPr (oRd (eInt .i64)) (oPr (oRd (eInt .i64)) (oPr (oRd (eInt .i64)) (oSl 9 (oRd eStr)))))) (p0.1,p0.2.1,0,([]:List (List UInt8))) []),false,fun A=>.any⟩::[]) (ur (ur (ur (ua (UAll.nil))))) q d ?_ ?_
 exact rp (fun V Q U O D=>zA9 ((O.old 1 Z).trans h1) zOK sizeOf3 (by decide) Z)<|rp (fun V Q U O D=>OpF.int (zAE (O.rd 0 _ Z Z) (D.g 0 Z) zD7 Z isAgg3 sizeOf3))<|rp (fun V Q U O D=>zDL ((zAJ (q.own 2 _ Z).2).ptr).ad ((O.old 3 Z).trans h3) zIF sizeOf3 (by decide) Z)<|rc (OblR.tookS 2 _ _ Z Z Z Z Z fun V Q U O D u S hok hown hav hin hop hds=>by have a0:Q 9=(padd u6 1):=D.g 0 Z;have a1:Q 8 = .int .i64 p0.2.1:=D.g 1 Z;have e0:=(hin _ Z).1;rw [e0] at hown ⊢;exact zCy (((zAJ hown.2).ptr).snd Z).fst (zAe.eq a1) a0 hav hown.1 sizeOf3 (fun _ _ _ h=>h))<|rz
 intro done ρ σ A R w y s
 obtain ⟨h1,h2,h3⟩:=k3 s.rg h1 h2 h3
 have z13:=s.inivR 0 Z
 have z14:=s.inivR 1 Z
 have z15:=s.inivR 2 Z
 have z16:=s.on y 6 3 Z Z Z Z Z z15
 have eS_u2:=s.inisR 1 Z
 obtain ⟨S17,eS_u6⟩:∃ S,σ 6=S:=⟨_,Z⟩
 obtain ⟨B,j,d⟩:=s.s B C j q ⟨Z,⟨fun _ h=>h,⟨fun _ h=>h,N⟩⟩⟩
 replace q:=s.left y [(0,ob (.pointer (some ⟨b1_0,0,none⟩)) (.box w0.heap.size 48 zA1 p0)),(1,⟨u2,S3,trR (geB w0.heap.size) (oPt 51 (oPr (oRd (eInt .i64)) (oPr (oRd (eInt .i64)) (oPr (oRd (eInt .i64)) (oSl 9 (oRd eStr)))))) (0,(0,(0,([]:List (List UInt8))))) []⟩),(6,⟨u6,S17,trR (geB w0.heap.size) (oPt 51 (oPr (oRd (eInt .i64)) (oPr (oRd (eInt .i64)) (oPr (oRd (eInt .i64)) (oSl 9 (oRd eStr)))))) (p0.1,p0.2.1,0,([]:List (List UInt8))) []⟩)] ⟨Z,Z,z13,Z,Z,⟨Z,Z,z14,eS_u2,Z,⟨Z,Z,z16,eS_u6,Z,N⟩⟩⟩
 refine HT.sx [ob (.pointer (some ⟨b1_0,0,none⟩)) (.box w0.heap.size 48 zA1 p0),⟨u2,S3,trR (geB w0.heap.size) (oPt 51 (oPr (oRd (eInt .i64)) (oPr (oRd (eInt .i64)) (oPr (oRd (eInt .i64)) (oSl 9 (oRd eStr)))))) (0,(0,(0,([]:List (List UInt8))))) []⟩,⟨u6,S17,trR (geB w0.heap.size) (oPt 51 (oPr (oRd (eInt .i64)) (oPr (oRd (eInt .i64)) (oPr (oRd (eInt .i64)) (oSl 9 (oRd eStr)))))) (p0.1,p0.2.1,0,([]:List (List UInt8))) []⟩] (rR (.pointer (some ⟨b1_0,2,none⟩))::rI p0.2.2.1::rR (padd u6 2)::⟨_,true,[2],some (trR (geB w0.heap.size) (oPt 51 (oPr (oRd (eInt .i64)) (oPr (oRd (eInt .i64)) (oPr (oRd (eInt .i64)) (oSl 9 (oRd eStr)))))) (p0.1,p0.2.1,p0.2.2.1,([]:List (List UInt8))) []),false,fun A=>.any⟩::[]) (ur (ur (ur (ua (UAll.nil))))) q d ?_ ?_
 exact rp (fun V Q U O D=>zA9 ((O.old 1 Z).trans h1) zOb sizeOf3 (by decide) Z)<|rp (fun V Q U O D=>OpF.int (zAE (O.rd 0 _ Z Z) (D.g 0 Z) zD9 Z isAgg3 sizeOf3))<|rp (fun V Q U O D=>zDL ((zAJ (q.own 2 _ Z).2).ptr).ad ((O.old 3 Z).trans h3) zHp sizeOf3 (by decide) Z)<|rc (OblR.tookS 2 _ _ Z Z Z Z Z fun V Q U O D u S hok hown hav hin hop hds=>by have a0:Q 12=(padd u6 2):=D.g 0 Z;have a1:Q 11 = .int .i64 p0.2.2.1:=D.g 1 Z;have e0:=(hin _ Z).1;rw [e0] at hown ⊢;exact zCy ((((zAJ hown.2).ptr).snd Z).snd (zEp _ _ _)).fst (zAe.eq a1) a0 hav hown.1 sizeOf3 (fun _ _ _ h=>h))<|rz
 intro done ρ σ A R w y s
 obtain ⟨h1,h2,h3⟩:=k3 s.rg h1 h2 h3
 have z18:=s.inivR 0 Z
 have z19:=s.inivR 1 Z
 have z20:=s.inivR 2 Z
 have z21:=s.on y 6 3 Z Z Z Z Z z20
 have eS_u2:=s.inisR 1 Z
 obtain ⟨S22,eS_u6⟩:∃ S,σ 6=S:=⟨_,Z⟩
 obtain ⟨B,j,d⟩:=s.s B C j q ⟨Z,⟨fun _ h=>h,⟨fun _ h=>h,N⟩⟩⟩
 replace q:=s.left y [(0,ob (.pointer (some ⟨b1_0,0,none⟩)) (.box w0.heap.size 48 zA1 p0)),(1,⟨u2,S3,trR (geB w0.heap.size) (oPt 51 (oPr (oRd (eInt .i64)) (oPr (oRd (eInt .i64)) (oPr (oRd (eInt .i64)) (oSl 9 (oRd eStr)))))) (0,(0,(0,([]:List (List UInt8))))) []⟩),(6,⟨u6,S22,trR (geB w0.heap.size) (oPt 51 (oPr (oRd (eInt .i64)) (oPr (oRd (eInt .i64)) (oPr (oRd (eInt .i64)) (oSl 9 (oRd eStr)))))) (p0.1,p0.2.1,p0.2.2.1,([]:List (List UInt8))) []⟩)] ⟨Z,Z,z18,Z,Z,⟨Z,Z,z19,eS_u2,Z,⟨Z,Z,z21,eS_u6,Z,N⟩⟩⟩
 obtain ⟨x23,q24,c⟩:=zA3 c
 refine HT.sx [ob (.pointer (some ⟨b1_0,0,none⟩)) (.box w0.heap.size 48 zA1 p0),⟨u2,S3,trR (geB w0.heap.size) (oPt 51 (oPr (oRd (eInt .i64)) (oPr (oRd (eInt .i64)) (oPr (oRd (eInt .i64)) (oSl 9 (oRd eStr)))))) (0,(0,(0,([]:List (List UInt8))))) []⟩,⟨u6,S22,trR (geB w0.heap.size) (oPt 51 (oPr (oRd (eInt .i64)) (oPr (oRd (eInt .i64)) (oPr (oRd (eInt .i64)) (oSl 9 (oRd eStr)))))) (p0.1,p0.2.1,p0.2.2.1,([]:List (List UInt8))) []⟩] (rR (.pointer (some ⟨b1_0,3,none⟩))::(rF fun A=>.rep (eSl eStr) A p0.2.2.2)::⟨_,true,[],some (.vec w0.heap.size 9 eStr x23),true,fun A=>.any⟩::rR (padd u6 3)::⟨_,true,[2,5],some (trR (geB w0.heap.size) (oPt 51 (oPr (oRd (eInt .i64)) (oPr (oRd (eInt .i64)) (oPr (oRd (eInt .i64)) (oSl 9 (oRd eStr)))))) (p0.1,p0.2.1,p0.2.2.1,x23) []),false,fun A=>.any⟩::[]) (ur (up (ua (ur (ua (UAll.nil)))))) q d ?_ ?_
 exact rp (fun V Q U O D=>zA9 ((O.old 1 Z).trans h1) zMR sizeOf46 (by decide) Z)<|rp (fun V Q U O D=>(zAE (O.rd 0 _ Z Z) (D.g 0 Z) zAO Z isAgg46 sizeOf46))<|rc (OblR.made _ Z Z Z Z fun V Q U O D=>by have a0:Rep (eSl eStr) V U (Q 14) p0.2.2.2:=D.g 0 Z;exact zEi call112 (zGZ (q24 Z) O.av a0) (Nat.le_trans j.size O.ch.size))<|rp (fun V Q U O D=>zDL ((zAJ (q.own 2 _ Z).2).ptr).ad ((O.old 3 Z).trans h3) zCR sizeOf46 (by decide) Z)<|rc (OblR.tookM 2 [5] _ Z Z Z Z fun V Q U O D ρ σ hok hav hin hop hds hdd=>by have a0:Q 16=(padd u6 3):=D.g 0 Z;have k1:=hok 2 (.head _) _ Z;have e0:=(hin 2 (.head _) _ Z).1;rw [e0] at k1 ⊢;exact zG8 Z (((((zAJ k1.2.2).ptr).snd Z).snd (zEp _ _ _)).snd (zEp _ _ _)) (zHr (hok 5 (.tail _ (.head _)) _ Z).1 (hok 5 (.tail _ (.head _)) _ Z).2) (hop 5 (.tail _ (.head _)) _ _ Z Z Z Z).symm a0 hav hdd k1.2.1 (zOA (hok 5 (.tail _ (.head _)) _ Z).1 (hok 5 (.tail _ (.head _)) _ Z).2) sizeOf46 (fun _ _ _ h=>h))<|rz
 intro done ρ σ A R w y s
 obtain ⟨h2,h3⟩:=k2 s.rg h2 h3
 have z25:=s.inivR 0 Z
 have z26:=s.inivR 1 Z
 have z27:=s.inivR 2 Z
 have z28:=s.on y 7 4 Z Z Z Z Z z27
 have eS_u2:=s.inisR 1 Z
 obtain ⟨S29,eS_u6⟩:∃ S,σ 7=S:=⟨_,Z⟩
 obtain ⟨B,j,d⟩:=s.s B C j q ⟨Z,⟨fun _ h=>h,⟨fun _ h=>h,N⟩⟩⟩
 replace q:=s.left y [(1,⟨u2,S3,trR (geB w0.heap.size) (oPt 51 (oPr (oRd (eInt .i64)) (oPr (oRd (eInt .i64)) (oPr (oRd (eInt .i64)) (oSl 9 (oRd eStr)))))) (0,(0,(0,([]:List (List UInt8))))) []⟩),(7,⟨u6,S29,trR (geB w0.heap.size) (oPt 51 (oPr (oRd (eInt .i64)) (oPr (oRd (eInt .i64)) (oPr (oRd (eInt .i64)) (oSl 9 (oRd eStr)))))) (p0.1,p0.2.1,p0.2.2.1,x23) []⟩)] ⟨Z,Z,z26,eS_u2,Z,⟨Z,Z,z28,eS_u6,Z,N⟩⟩
 refine HT.sx [⟨u2,S3,trR (geB w0.heap.size) (oPt 51 (oPr (oRd (eInt .i64)) (oPr (oRd (eInt .i64)) (oPr (oRd (eInt .i64)) (oSl 9 (oRd eStr)))))) (0,(0,(0,([]:List (List UInt8))))) []⟩,⟨u6,S29,trR (geB w0.heap.size) (oPt 51 (oPr (oRd (eInt .i64)) (oPr (oRd (eInt .i64)) (oPr (oRd (eInt .i64)) (oSl 9 (oRd eStr)))))) (p0.1,p0.2.1,p0.2.2.1,x23) []⟩] (⟨_,true,[1],some (trR (geB w0.heap.size) (oPr (oRd (eInt .i64)) (oPr (oRd (eInt .i64)) (oPr (oRd (eInt .i64)) (oSl 9 (oRd eStr))))) (p0.1,p0.2.1,p0.2.2.1,x23) []),true,fun A=>.any⟩::⟨_,true,[0,2],some (trR (geB w0.heap.size) (oPt 51 (oPr (oRd (eInt .i64)) (oPr (oRd (eInt .i64)) (oPr (oRd (eInt .i64)) (oSl 9 (oRd eStr)))))) (p0.1,p0.2.1,p0.2.2.1,x23) []),false,fun A=>.any⟩::[]) (ua (ua (UAll.nil))) q d ?_ ?_
 exact rc (OblR.tookS 1 _ _ Z Z Z Z Z fun V Q U O D u S hok hown hav hin hop hds=>by have a0:Q 3=u6:=(O.old 3 Z).trans h3;exact zLn hown.2 (a0.trans (hin _ Z).1.symm) hav hown.1 isAgg51 sizeOf51)<|rc (OblR.tookM 0 [2] _ Z Z Z Z fun V Q U O D ρ σ hok hav hin hop hds hdd=>by have a0:Q 2=u2:=(O.old 2 Z).trans h2;have k1:=hok 0 (.head _) _ Z;have e0:=(hin 0 (.head _) _ Z).1;rw [e0] at k1 ⊢;exact zG8 Z (zAJ k1.2.2).ptr (hok 2 (.tail _ (.head _)) _ Z).2.2.1 (hop 2 (.tail _ (.head _)) _ _ Z Z Z Z).symm a0 hav hdd k1.2.1 (hok 2 (.tail _ (.head _)) _ Z).2.1 sizeOf51 (fun _ _ _ h=>h))<|rz
 intro done ρ σ A R w y s
 replace h2:=k1 s.rg h2
 have z30:=s.inivR 0 Z
 have z31:=s.on y 3 1 Z Z Z Z Z z30
 obtain ⟨S32,eS_u2⟩:∃ S,σ 3=S:=⟨_,Z⟩
 obtain ⟨B,j,d⟩:=s.s B C j q ⟨fun _ h=>h,⟨fun _ h=>h,N⟩⟩
 replace q:=s.left y [(3,⟨u2,S32,trR (geB w0.heap.size) (oPt 51 (oPr (oRd (eInt .i64)) (oPr (oRd (eInt .i64)) (oPr (oRd (eInt .i64)) (oSl 9 (oRd eStr)))))) (p0.1,p0.2.1,p0.2.2.1,x23) []⟩)] ⟨Z,Z,z31,eS_u2,Z,N⟩
 refine HT.ret ?_
 obtain rfl:=si c
 obtain ⟨v_,e_,p_⟩:=zIO (T:=51) (f:=fun _=>.any) Z (q.own 0 _ Z) (q.ok 0 _ Z).2 B j h2 isAgg51 sizeOf51 (fun _ _=>N)
 exact ⟨.inr Z,[v_],⟨e_,N⟩,p_⟩
theorem zBl {fu : Nat} {A0 : Av} {p0 : zAA} {r : zAA} (c : zAj fu p0 = some r) {w : World} {v0 : Value} (d : AvOK A0 w) (h0 : Rep zA1 A0 w v0 p0) :
 Calls prog 33 #[v0] w fun e w'=>∃ v,e = .returned v∧(Rep zA1 A0 w' v r∧Fr w w'):=by
 refine Calls.mono (zDz c d h0) ?_
 rintro e w' ⟨v,he,h⟩
 exact ⟨v,he,zJn h d⟩
def zC3 (fu : Nat) (p0 : List UInt8) : Nat → Int → Option (Ex Bool Unit)
 | 0,_=>none
 | k+1,y4=>
 bif (decide (y4<(p0.length:Int))) then (
 ck (inR y4 p0.length) <|
 ck (!(true&&((decide ((bAt p0 y4)<32))==false)) || inR y4 p0.length) <|
 bd ((decide ((bAt p0 y4)<32)) || (decide (126<(bAt p0 y4)))) fun x8=>
 bif x8 then (
 some (Ex.ret false)
 ) else (
 ck (i64B (y4+1)) <|
 zC3 fu p0 k (y4+1)
 )
 ) else (
 some (Ex.go ())
 )
def zE3 (fu:Nat) (p0:List UInt8):Option Bool:=
 cl true (zC3 fu p0 fu 0) fun rl1=>
 exM rl1 (fun r=>some r) fun s3=>
 some (decide ((p0.length:Int)≤40))
theorem zHb {fu : Nat} {A : Av} {p0 : List UInt8} {r : Bool} (c : zE3 fu p0 = some r) {w : World} {v0 : Value} (d : AvOK A w) (h0 : Rep eStr A w v0 p0) :
 Calls prog 187 #[v0] w fun e w'=>∃ v,e = .returned v∧(v = .bool r∧Fr w w'):=by
 unfold zE3 at c
 obtain ⟨w0,hw0⟩:∃ w0,w0=w:=⟨_,Z⟩
 have j:Fr w0 w:=hw0 ▸ Fr.refl _
 rw [show Fr w=Fr w0 from hw0 ▸ Z]
 clear hw0
 refine zA2 [.tmp 2] func187 ntmps187 (by decide) Z Z (nb Z) ?_
 intro R hR
 have f_v0:=h0
 replace h0:R 0=v0:=hR 0 _ Z
 clear hR
 refine HT.su d j (eB false::[]) ?_ ?_
 exact op (fun Q U W H D=>zA0 Z)<|oz
 intro R w m n p d j
 replace h0:=k1 n h0
 replace f_v0:=f_v0.fr m
 refine HT.seq ?_
 refine HT.su d j (eI 0::[]) ?_ ?_
 exact op (fun Q U W H D=>zA0 Z)<|oz
 intro R w m n p d j
 replace h0:=k1 n h0
 have h3:=p.r 0 Z
 replace f_v0:=f_v0.fr m
 obtain ⟨rl1,q2,c⟩:=zA3 c
 replace q2:=q2 Z
 refine HT.cut0 (fun R w=>∃ (s3:Unit),rl1=Ex.go s3∧AvOK A w∧Fr w0 w∧R 0=v0∧Rep eStr A w v0 p0) ?_ ?_
 refine HT.block ?_
 refine HT.loop (fun k R w=>∃ (y4:Int),zC3 fu p0 k y4=some rl1∧AvOK A w∧Fr w0 w∧R 0=v0∧R 3 = .int .i64 y4∧Rep eStr A w v0 p0) fu ⟨_,q2,d,j,h0,h3,f_v0⟩ ?_
 have hr0:=c;clear c q2
 rintro k R w ⟨y4,c,d,j,h0,h3,f_v0⟩
 rcases k with _ | k
 cases (show none=some _ from c)
 rw [zC3] at c
 refine HT.seq ?_
 refine HT.su d j (eI y4::eR v0::eI (p0.length:Int)::eB (decide (y4<(p0.length:Int)))::[]) ?_ ?_
 exact om h3<|om h0<|op (fun Q U W H D=>zAG ((f_v0.fr W).eq (D.g 0 Z)) underlying9)<|op (fun Q U W H D=>zAf (D.g 0 Z) (D.g 1 Z))<|oz
 intro R w m n p d j
 obtain ⟨h0,h3⟩:=k2 n h0 h3
 have h7:=p.r 3 Z
 replace f_v0:=f_v0.fr m
 refine HT.cond (decide (y4<(p0.length:Int))) h7 (fun c5=>?_) (fun c5=>?_)
 have c:=zAK c5 c
 refine HT.skip ?_
 refine HT.seq ?_
 refine HT.block ?_
 refine HT.seq ?_
 obtain ⟨e6,e7,c⟩:=ck2 c
 obtain ⟨x8,q9,c⟩:=zAB c
 refine HT.u d j (eR v0::eI y4::eU (bAt p0 y4)::eB (decide ((bAt p0 y4)<32))::eB (decide ((bAt p0 y4)<32))::gR (true&&((decide ((bAt p0 y4)<32))==false)) v0::gI (true&&((decide ((bAt p0 y4)<32))==false)) y4::gU (true&&((decide ((bAt p0 y4)<32))==false)) (bAt p0 y4)::gB (true&&((decide ((bAt p0 y4)<32))==false)) (decide (126<(bAt p0 y4)))::eB x8::[]) ?_ ?_
 exact om h0<|om h3<|op (fun Q U W H D=>zA8 ((f_v0.fr W).eq (D.g 0 Z)) (D.g 1 Z) underlying9 e6)<|op (fun Q U W H D=>zAf (D.g 0 Z) Z)<|ov<|gm 4 false h0<|gm 4 false h3<|og 4 false (fun G Q U W H D=>zA8 ((f_v0.fr W).eq (D.h 0 G Z)) (D.h 1 G Z) underlying9 (gd e7 G))<|og 4 false (fun G Q U W H D=>zCM (D.h 0 G Z) Z)<|op (fun Q U W H D=>zAC (decide ((bAt p0 y4)<32)) (D.g 0 Z) (fun hc=>by show _=Value.bool x8;rw [q9,hc];exact Z) (fun hc=>by have a2:Q 18 = .bool (decide (126<(bAt p0 y4))):=D 1 _ _ _ Z Z Z Z (zAZ Z (zAM hc));show _=Value.bool x8;rw [q9,hc];exact a2))<|oz
 intro R w m n p d j
 obtain ⟨h0,h3⟩:=k2 n h0 h3
 have h19:=p.r 9 Z
 replace f_v0:=f_v0.fr m
 refine HT.cond x8 h19 (fun c10=>?_) (fun c10=>?_)
 have c:=zAK c10 c
 refine HT.su d j (eB false::[]) ?_ ?_
 exact op (fun Q U W H D=>zA0 Z)<|oz
 intro R w m n p d j
 have h2:=p.r 0 Z
 refine HT.ret ?_
 obtain rfl:=si c
 have c:=hr0
 replace c:some _=some _:=c
 obtain rfl:=si c
 exact ⟨.inr Z,[R 2],⟨Z,N⟩,h2,j⟩
 have c:=zAL c10 c
 refine HT.skip ?_
 obtain ⟨e11,c⟩:=zA4 c
 refine HT.u d j (eI y4::eI (y4+1)::eI (y4+1)::[]) ?_ ?_
 exact om h3<|op (fun Q U W H D=>zAN (D.g 0 Z) Z e11)<|oa<|oz
 intro R w m n p d j
 replace h0:=k1 n h0
 have h3:=p.r 2 Z
 replace f_v0:=f_v0.fr m
 exact ei k (And.intro (Nat.lt_succ_self k) ⟨_,c,d,j,h0,h3,f_v0⟩)
 have c:=zAL c5 c
 refine HT.exit ?_
 obtain rfl:=si c
 exact ei _ ⟨Z,d,j,h0,f_v0⟩
 rintro R w ⟨s3,rfl,d,j,h0,f_v0⟩
 have c:=zEP c
 refine HT.su d j (eR v0::eI (p0.length:Int)::eB (decide ((p0.length:Int)≤40))::eB (decide ((p0.length:Int)≤40))::[]) ?_ ?_
 exact om h0<|op (fun Q U W H D=>zAG ((f_v0.fr W).eq (D.g 0 Z)) underlying9)<|op (fun Q U W H D=>zDu (D.g 0 Z) Z)<|oa<|oz
 intro R w m n p d j
 have h2:=p.r 3 Z
 refine HT.ret ?_
 obtain rfl:=si c
 exact ⟨.inr Z,[R 2],⟨Z,N⟩,h2,j⟩
def zBn (fu : Nat) (p0 : List UInt8) : Nat → Int → Option (Ex Bool Unit)
 | 0,_=>none
 | k+1,y4=>
 bif (decide (y4<(p0.length:Int))) then (
 ck (inR y4 p0.length) <|
 ck (!(true&&(((bAt p0 y4)==124)==false)) || inR y4 p0.length) <|
 bd (((bAt p0 y4)==124) || ((bAt p0 y4)==59)) fun x8=>
 bif x8 then (
 some (Ex.ret false)
 ) else (
 ck (i64B (y4+1)) <|
 zBn fu p0 k (y4+1)
 )
 ) else (
 some (Ex.go ())
 )
def zDc (fu:Nat) (p0:List UInt8):Option Bool:=
 cl true (zBn fu p0 fu 0) fun rl1=>
 exM rl1 (fun r=>some r) fun s3=>
 cl true (zE3 fu p0) fun x12=>
 some x12
theorem zHJ {fu : Nat} {A : Av} {p0 : List UInt8} {r : Bool} (c : zDc fu p0 = some r) {w : World} {v0 : Value} (d : AvOK A w) (h0 : Rep eStr A w v0 p0) :
 Calls prog 130 #[v0] w fun e w'=>∃ v,e = .returned v∧(v = .bool r∧Fr w w'):=by
 unfold zDc at c
 obtain ⟨w0,hw0⟩:∃ w0,w0=w:=⟨_,Z⟩
 have j:Fr w0 w:=hw0 ▸ Fr.refl _
 rw [show Fr w=Fr w0 from hw0 ▸ Z]
 clear hw0
 refine zA2 [.tmp 2] func130 ntmps130 (by decide) Z Z (nb Z) ?_
 intro R hR
 have f_v0:=h0
 replace h0:R 0=v0:=hR 0 _ Z
 clear hR
 refine HT.su d j (eB false::[]) ?_ ?_
 exact op (fun Q U W H D=>zA0 Z)<|oz
 intro R w m n p d j
 replace h0:=k1 n h0
 replace f_v0:=f_v0.fr m
 refine HT.seq ?_
 refine HT.su d j (eI 0::[]) ?_ ?_
 exact op (fun Q U W H D=>zA0 Z)<|oz
 intro R w m n p d j
 replace h0:=k1 n h0
 have h3:=p.r 0 Z
 replace f_v0:=f_v0.fr m
 obtain ⟨rl1,q2,c⟩:=zA3 c
 replace q2:=q2 Z
 refine HT.cut0 (fun R w=>∃ (s3:Unit),rl1=Ex.go s3∧AvOK A w∧Fr w0 w∧R 0=v0∧Rep eStr A w v0 p0) ?_ ?_
 refine HT.block ?_
 refine HT.loop (fun k R w=>∃ (y4:Int),zBn fu p0 k y4=some rl1∧AvOK A w∧Fr w0 w∧R 0=v0∧R 3 = .int .i64 y4∧Rep eStr A w v0 p0) fu ⟨_,q2,d,j,h0,h3,f_v0⟩ ?_
 have hr0:=c;clear c q2
 rintro k R w ⟨y4,c,d,j,h0,h3,f_v0⟩
 rcases k with _ | k
 cases (show none=some _ from c)
 rw [zBn] at c
 refine HT.seq ?_
 refine HT.su d j (eI y4::eR v0::eI (p0.length:Int)::eB (decide (y4<(p0.length:Int)))::[]) ?_ ?_
 exact om h3<|om h0<|op (fun Q U W H D=>zAG ((f_v0.fr W).eq (D.g 0 Z)) underlying9)<|op (fun Q U W H D=>zAf (D.g 0 Z) (D.g 1 Z))<|oz
 intro R w m n p d j
 obtain ⟨h0,h3⟩:=k2 n h0 h3
 have h7:=p.r 3 Z
 replace f_v0:=f_v0.fr m
 refine HT.cond (decide (y4<(p0.length:Int))) h7 (fun c5=>?_) (fun c5=>?_)
 have c:=zAK c5 c
 refine HT.skip ?_
 refine HT.seq ?_
 refine HT.block ?_
 refine HT.seq ?_
 obtain ⟨e6,e7,c⟩:=ck2 c
 obtain ⟨x8,q9,c⟩:=zAB c
 refine HT.u d j (eR v0::eI y4::eU (bAt p0 y4)::eB ((bAt p0 y4)==124)::eB ((bAt p0 y4)==124)::gR (true&&(((bAt p0 y4)==124)==false)) v0::gI (true&&(((bAt p0 y4)==124)==false)) y4::gU (true&&(((bAt p0 y4)==124)==false)) (bAt p0 y4)::gB (true&&(((bAt p0 y4)==124)==false)) ((bAt p0 y4)==59)::eB x8::[]) ?_ ?_
 exact om h0<|om h3<|op (fun Q U W H D=>zA8 ((f_v0.fr W).eq (D.g 0 Z)) (D.g 1 Z) underlying9 e6)<|op (fun Q U W H D=>zBA (D.g 0 Z) Z)<|ov<|gm 4 false h0<|gm 4 false h3<|og 4 false (fun G Q U W H D=>zA8 ((f_v0.fr W).eq (D.h 0 G Z)) (D.h 1 G Z) underlying9 (gd e7 G))<|og 4 false (fun G Q U W H D=>zBA (D.h 0 G Z) Z)<|op (fun Q U W H D=>zAC ((bAt p0 y4)==124) (D.g 0 Z) (fun hc=>by show _=Value.bool x8;rw [q9,hc];exact Z) (fun hc=>by have a2:Q 18 = .bool ((bAt p0 y4)==59):=D 1 _ _ _ Z Z Z Z (zAZ Z (zAM hc));show _=Value.bool x8;rw [q9,hc];exact a2))<|oz
 intro R w m n p d j
 obtain ⟨h0,h3⟩:=k2 n h0 h3
 have h19:=p.r 9 Z
 replace f_v0:=f_v0.fr m
 refine HT.cond x8 h19 (fun c10=>?_) (fun c10=>?_)
 have c:=zAK c10 c
 refine HT.su d j (eB false::[]) ?_ ?_
 exact op (fun Q U W H D=>zA0 Z)<|oz
 intro R w m n p d j
 have h2:=p.r 0 Z
 refine HT.ret ?_
 obtain rfl:=si c
 have c:=hr0
 replace c:some _=some _:=c
 obtain rfl:=si c
 exact ⟨.inr Z,[R 2],⟨Z,N⟩,h2,j⟩
 have c:=zAL c10 c
 refine HT.skip ?_
 obtain ⟨e11,c⟩:=zA4 c
 refine HT.u d j (eI y4::eI (y4+1)::eI (y4+1)::[]) ?_ ?_
 exact om h3<|op (fun Q U W H D=>zAN (D.g 0 Z) Z e11)<|oa<|oz
 intro R w m n p d j
 replace h0:=k1 n h0
 have h3:=p.r 2 Z
 replace f_v0:=f_v0.fr m
 exact ei k (And.intro (Nat.lt_succ_self k) ⟨_,c,d,j,h0,h3,f_v0⟩)
 have c:=zAL c5 c
 refine HT.exit ?_
 obtain rfl:=si c
 exact ei _ ⟨Z,d,j,h0,f_v0⟩
 rintro R w ⟨s3,rfl,d,j,h0,f_v0⟩
 have c:=zEP c
 obtain ⟨x12,q13,c⟩:=zA3 c
 refine HT.su d j (eR v0::eB x12::eB x12::[]) ?_ ?_
 exact om h0<|op (fun Q U W H D=>zA6 call187 (zHb (q13 Z) (d.fr W.size) ((f_v0.fr W).eq (D.g 0 Z))))<|oa<|oz
 intro R w m n p d j
 have h2:=p.r 2 Z
 refine HT.ret ?_
 obtain rfl:=si c
 exact ⟨.inr Z,[R 2],⟨Z,N⟩,h2,j⟩
def zCz (fu:Nat) (p0:Int) (p1:Int) (p2:Int):Option Bool:=
 bd ((decide (p1≤p0))&&(decide (p0≤p2))) fun x1=>
 some x1
theorem zDB {fu : Nat} {A : Av} {p0 : Int} {p1 : Int} {p2 : Int} {r : Bool} (c : zCz fu p0 p1 p2 = some r) {w : World} {v0 : Value} {v1 : Value} {v2 : Value} (d : AvOK A w) (h0 : v0 = .int .i64 p0) (h1 : v1 = .int .i64 p1) (h2 : v2 = .int .i64 p2) :
 Calls prog 99 #[v0,v1,v2] w fun e w'=>∃ v,e = .returned v∧(v = .bool r∧Fr w w'):=by
 unfold zCz at c
 obtain ⟨w0,hw0⟩:∃ w0,w0=w:=⟨_,Z⟩
 have j:Fr w0 w:=hw0 ▸ Fr.refl _
 rw [show Fr w=Fr w0 from hw0 ▸ Z]
 clear hw0
 refine zA2 [.tmp 6] func99 ntmps99 (by decide) Z Z (nb Z) ?_
 intro R hR
 replace h0:R 0 = .int .i64 p0:=(hR 0 _ Z).trans h0
 replace h1:R 1 = .int .i64 p1:=(hR 1 _ Z).trans h1
 replace h2:R 2 = .int .i64 p2:=(hR 2 _ Z).trans h2
 clear hR
 refine HT.su d j (eB false::[]) ?_ ?_
 exact op (fun Q U W H D=>zA0 Z)<|oz
 intro R w m n p d j
 obtain ⟨h0,h1,h2⟩:=k3 n h0 h1 h2
 refine HT.seq ?_
 obtain ⟨x1,q2,c⟩:=zAB c
 refine HT.u d j (eI p0::eI p1::eB (decide (p1≤p0))::eB (decide (p1≤p0))::gI (true&&((decide (p1≤p0))==true)) p0::gI (true&&((decide (p1≤p0))==true)) p2::gB (true&&((decide (p1≤p0))==true)) (decide (p0≤p2))::eB x1::eB x1::[]) ?_ ?_
 exact om h0<|om h1<|op (fun Q U W H D=>zDt (D.g 0 Z) (D.g 1 Z))<|ov<|gm 3 true h0<|gm 3 true h2<|og 3 true (fun G Q U W H D=>zDu (D.h 0 G Z) (D.h 1 G Z))<|op (fun Q U W H D=>zAC (decide (p1≤p0)) (D.g 0 Z) (fun hc=>by have a1:Q 13 = .bool (decide (p0≤p2)):=D 1 _ _ _ Z Z Z Z (zAZ Z (zAM hc));show _=Value.bool x1;rw [q2,hc];exact a1) (fun hc=>by show _=Value.bool x1;rw [q2,hc];exact Z))<|oa<|oz
 intro R w m n p d j
 have h6:=p.r 8 Z
 refine HT.ret ?_
 obtain rfl:=si c
 exact ⟨.inr Z,[R 6],⟨Z,N⟩,h6,j⟩
def zB2 (fu : Nat) (p0 : zAA) : Nat → Int → Option (Ex Bool Unit)
 | 0,_=>none
 | k+1,y5=>
 bif (decide (y5<(p0.2.2.2.length:Int))) then (
 ck (inR y5 p0.2.2.2.length) <|
 cl true (zDc fu (gtD p0.2.2.2 y5)) fun x8=>
 bif (!x8) then (
 some (Ex.ret false)
 ) else (
 ck (i64B (y5+1)) <|
 zB2 fu p0 k (y5+1)
 )
 ) else (
 some (Ex.go ())
 )
def zBd (fu:Nat) (p0:zAA):Option Bool:=
 cl true (zB2 fu p0 fu 0) fun rl2=>
 exM rl2 (fun r=>some r) fun s4=>
 cl true (zCz fu p0.1 0 3) fun x12=>
 cl (true&&(x12==true)) (zCz fu p0.2.1 1 99) fun x14=>
 bd (x12&&x14) fun x16=>
 cl (true&&(x16==true)) (zCz fu p0.2.2.1 1 999) fun x18=>
 bd (x16&&x18) fun x20=>
 bd (x20&&((p0.2.2.2.length:Int)==4)) fun x22=>
 some x22
theorem zE8 {fu : Nat} {A0 : Av} {p0 : zAA} {r : Bool} (c : zBd fu p0 = some r) {w : World} {v0 : Value} (d : AvOK A0 w) (h0 : Rep zA1 A0 w v0 p0) :
 Calls prog 59 #[v0] w fun e w'=>∃ v,e = .returned v∧(v = .bool r∧Fr w w'):=by
 unfold zBd at c
 obtain ⟨w0,hw0⟩:∃ w0,w0=w:=⟨_,Z⟩
 have j:Fr w0 w:=hw0 ▸ Fr.refl _
 have C:∀ b o,A0 b o→b<w0.heap.size:=fun b o h=>hw0 ▸ d b o h
 have hA00:AvOK A0 w0:=C
 rw [show Fr w=Fr w0 from hw0 ▸ Z]
 clear hw0
 obtain ⟨A,hAe⟩:∃ A,A=A0:=⟨_,Z⟩
 have B:∀ b o,A0 b o→A b o:=fun b o h=>hAe ▸ h
 replace d:AvOK A w:=hAe ▸ d
 have q:IniOK [] A w:=IniOK.nil
 refine zA2 [.tmp 2] func59 ntmps59 (by decide) Z Z (nb Z) ?_
 intro R hR
 have f_v0:Rep zA1 A w v0 p0:=hAe ▸ h0
 replace h0:R 0=v0:=hR 0 _ Z
 clear hR hAe
 refine HT.sx [] (⟨_,true,[],some (.box w0.heap.size 51 zA1 p0),true,fun A=>.any⟩::rB false::[]) (ua (ur (UAll.nil))) q d ?_ ?_
 exact rc (OblR.made _ Z Z Z Z fun V Q U O D=>by have a0:Q 0=v0:=(O.old 0 Z).trans h0;have ra0:=(f_v0.stp O.stp).eq a0;exact zDE ra0 (Nat.le_trans j.size O.ch.size))<|rp (fun V Q U O D=>zA0 Z)<|rz
 intro done ρ σ A R w y s
 obtain ⟨b1_0,e_b1_0⟩:=s.boxv y 0 Z Z
 have h1:=s.ov y 0 0 e_b1_0
 obtain ⟨B,j,d⟩:=s.s B C j q N
 replace q:=s.left y [(0,ob (.pointer (some ⟨b1_0,0,none⟩)) (.box w0.heap.size 51 zA1 p0))] ⟨Z,Z,e_b1_0,Z,Z,N⟩
 refine HT.seq ?_
 refine HT.su d j (eI 0::[]) ?_ ?_
 exact op (fun Q U W H D=>zA0 Z)<|oz
 intro R w m n p d j
 replace h1:=k1 n h1
 have h3:=p.r 0 Z
 replace q:=q.fr m
 obtain ⟨rl2,q3,c⟩:=zA3 c
 replace q3:=q3 Z
 refine HT.cut0 (fun R w=>∃ A:Av,∃ (s4:Unit),rl2=Ex.go s4∧AvOK A w∧Fr w0 w∧(∀ b o,A0 b o→A b o)∧IniOK [ob (.pointer (some ⟨b1_0,0,none⟩)) (.box w0.heap.size 51 zA1 p0)] A w∧R 1=(.pointer (some ⟨b1_0,0,none⟩))) ?_ ?_
 refine HT.block ?_
 refine HT.loop (fun k R w=>∃ A:Av,∃ (y5:Int),zB2 fu p0 k y5=some rl2∧AvOK A w∧Fr w0 w∧(∀ b o,A0 b o→A b o)∧IniOK [ob (.pointer (some ⟨b1_0,0,none⟩)) (.box w0.heap.size 51 zA1 p0)] A w∧R 1=(.pointer (some ⟨b1_0,0,none⟩))∧R 3 = .int .i64 y5) fu ⟨_,_,q3,d,j,B,q,h1,h3⟩ ?_
 have hr0:=c;clear c q3
 rintro k R w ⟨A,y5,c,d,j,B,q,h1,h3⟩
 rcases k with _ | k
 cases (show none=some _ from c)
 rw [zB2] at c
 refine HT.seq ?_
 refine HT.su d j (eI y5::eR (.pointer (some ⟨b1_0,3,none⟩))::eF (.rep (eSl eStr) A p0.2.2.2)::eI (p0.2.2.2.length:Int)::eB (decide (y5<(p0.2.2.2.length:Int)))::[]) ?_ ?_
 exact om h3<|op (fun Q U W H D=>zA9 ((H 1 Z).trans h1) zCR sizeOf46 (by decide) Z)<|op (fun Q U W H D=>(zAE ((q.fr W).ok 0 _ Z).1 (D.g 0 Z) zAO Z isAgg46 sizeOf46))<|op (fun Q U W H D=>zAb (aT:=#[]) (D.g 0 Z) underlying46)<|op (fun Q U W H D=>zAf (D.g 0 Z) (D.g 1 Z))<|oz
 intro R w m n p d j
 obtain ⟨h1,h3⟩:=k2 n h1 h3
 have h8:=p.r 4 Z
 replace q:=q.fr m
 refine HT.cond (decide (y5<(p0.2.2.2.length:Int))) h8 (fun c6=>?_) (fun c6=>?_)
 have c:=zAK c6 c
 refine HT.skip ?_
 refine HT.seq ?_
 refine HT.block ?_
 obtain ⟨e7,c⟩:=zA4 c
 obtain ⟨x8,q9,c⟩:=zA3 c
 refine HT.su d j (eR (.pointer (some ⟨b1_0,3,none⟩))::eF (.rep (eSl eStr) A p0.2.2.2)::eI y5::eF (.qtr eStr A (gtD p0.2.2.2 y5))::eF (.rep eStr A (gtD p0.2.2.2 y5))::eB x8::eB (!x8)::[]) ?_ ?_
 exact op (fun Q U W H D=>zA9 ((H 1 Z).trans h1) zCR sizeOf46 (by decide) Z)<|op (fun Q U W H D=>(zAE ((q.fr W).ok 0 _ Z).1 (D.g 0 Z) zAO Z isAgg46 sizeOf46))<|om h3<|op (fun Q U W H D=>zA7 (D.g 0 Z) (D.g 1 Z) underlying46 sizeOf9 e7)<|op (fun Q U W H D=>(zAQ (QRep.ptr (D.g 0 Z)) isAgg9 sizeOf9))<|op (fun Q U W H D=>zA6 call130 (zHJ (q9 Z) (d.fr W.size) (D.g 0 Z)))<|op (fun Q U W H D=>zBh (D.g 0 Z))<|oz
 intro R w m n p d j
 obtain ⟨h1,h3⟩:=k2 n h1 h3
 have h17:=p.r 6 Z
 replace q:=q.fr m
 refine HT.cond (!x8) h17 (fun c10=>?_) (fun c10=>?_)
 have c:=zAK c10 c
 refine HT.su d j (eB false::[]) ?_ ?_
 exact op (fun Q U W H D=>zA0 Z)<|oz
 intro R w m n p d j
 have h2:=p.r 0 Z
 replace q:=q.fr m
 replace q:IniOK [] A w:=q.sub [] N
 refine HT.ret ?_
 obtain rfl:=si c
 have c:=hr0
 replace c:some _=some _:=c
 obtain rfl:=si c
 exact ⟨.inr Z,[R 2],⟨Z,N⟩,h2,j⟩
 have c:=zAL c10 c
 refine HT.skip ?_
 obtain ⟨e11,c⟩:=zA4 c
 refine HT.u d j (eI y5::eI (y5+1)::eI (y5+1)::[]) ?_ ?_
 exact om h3<|op (fun Q U W H D=>zAN (D.g 0 Z) Z e11)<|oa<|oz
 intro R w m n p d j
 replace h1:=k1 n h1
 have h3:=p.r 2 Z
 replace q:=q.fr m
 exact ei k (And.intro (Nat.lt_succ_self k) ⟨_,_,c,d,j,B,q,h1,h3⟩)
 have c:=zAL c6 c
 refine HT.exit ?_
 obtain rfl:=si c
 exact ei _ ⟨_,Z,d,j,B,q,h1⟩
 rintro R w ⟨A,s4,rfl,d,j,B,q,h1⟩
 have c:=zEP c
 refine HT.seq ?_
 obtain ⟨x12,q13,c⟩:=zA3 c
 obtain ⟨x14,q15,c⟩:=zA3 c
 obtain ⟨x16,q17,c⟩:=zAB c
 obtain ⟨x18,q19,c⟩:=zA3 c
 obtain ⟨x20,q21,c⟩:=zAB c
 obtain ⟨x22,q23,c⟩:=zAB c
 refine HT.u d j (eR (.pointer (some ⟨b1_0,0,none⟩))::eI p0.1::eB x12::eB x12::gR (true&&(x12==true)) (.pointer (some ⟨b1_0,1,none⟩))::gI (true&&(x12==true)) p0.2.1::gB (true&&(x12==true)) x14::eB x16::eB x16::gR (true&&(x16==true)) (.pointer (some ⟨b1_0,2,none⟩))::gI (true&&(x16==true)) p0.2.2.1::gB (true&&(x16==true)) x18::eB x20::eB x20::gR (true&&(x20==true)) (.pointer (some ⟨b1_0,3,none⟩))::gF (true&&(x20==true)) (.rep (eSl eStr) A p0.2.2.2)::gI (true&&(x20==true)) (p0.2.2.2.length:Int)::gB (true&&(x20==true)) ((p0.2.2.2.length:Int)==4)::eB x22::eB x22::[]) ?_ ?_
 exact op (fun Q U W H D=>zA9 ((H 1 Z).trans h1) zI3 sizeOf3 (by decide) Z)<|op (fun Q U W H D=>OpF.int (zAE ((q.fr W).ok 0 _ Z).1 (D.g 0 Z) zD5 Z isAgg3 sizeOf3))<|op (fun Q U W H D=>zA6 call99 (zDB (q13 Z) (d.fr W.size) (D.g 0 Z) Z Z))<|ov<|og 3 true (fun G Q U W H D=>zA9 ((H 1 Z).trans h1) zIF sizeOf3 (by decide) Z)<|og 3 true (fun G Q U W H D=>OpF.int (zAE ((q.fr W).ok 0 _ Z).1 (D.h 0 G Z) zD7 Z isAgg3 sizeOf3))<|og 3 true (fun G Q U W H D=>zA6 call99 (zDB (q15 G) (d.fr W.size) (D.h 0 G Z) Z Z))<|op (fun Q U W H D=>zAC x12 (D.g 0 Z) (fun hc=>by have a1:Q 24 = .bool x14:=D 1 _ _ _ Z Z Z Z (zAZ Z (zAM hc));show _=Value.bool x16;rw [q17,hc];exact a1) (fun hc=>by show _=Value.bool x16;rw [q17,hc];exact Z))<|ov<|og 8 true (fun G Q U W H D=>zA9 ((H 1 Z).trans h1) zHp sizeOf3 (by decide) Z)<|og 8 true (fun G Q U W H D=>OpF.int (zAE ((q.fr W).ok 0 _ Z).1 (D.h 0 G Z) zD9 Z isAgg3 sizeOf3))<|og 8 true (fun G Q U W H D=>zA6 call99 (zDB (q19 G) (d.fr W.size) (D.h 0 G Z) Z Z))<|op (fun Q U W H D=>zAC x16 (D.g 0 Z) (fun hc=>by have a1:Q 29 = .bool x18:=D 1 _ _ _ Z Z Z Z (zAZ Z (zAM hc));show _=Value.bool x20;rw [q21,hc];exact a1) (fun hc=>by show _=Value.bool x20;rw [q21,hc];exact Z))<|ov<|og 13 true (fun G Q U W H D=>zA9 ((H 1 Z).trans h1) zCR sizeOf46 (by decide) Z)<|og 13 true (fun G Q U W H D=>(zAE ((q.fr W).ok 0 _ Z).1 (D.h 0 G Z) zAO Z isAgg46 sizeOf46))<|og 13 true (fun G Q U W H D=>zAb (aT:=#[]) (D.h 0 G Z) underlying46)<|og 13 true (fun G Q U W H D=>zBA (D.h 0 G Z) Z)<|op (fun Q U W H D=>zAC x20 (D.g 0 Z) (fun hc=>by have a1:Q 35 = .bool ((p0.2.2.2.length:Int)==4):=D 1 _ _ _ Z Z Z Z (zAZ Z (zAM hc));show _=Value.bool x22;rw [q23,hc];exact a1) (fun hc=>by show _=Value.bool x22;rw [q23,hc];exact Z))<|oa<|oz
 intro R w m n p d j
 have h2:=p.r 19 Z
 replace q:=q.fr m
 replace q:IniOK [] A w:=q.sub [] N
 refine HT.ret ?_
 obtain rfl:=si c
 exact ⟨.inr Z,[R 2],⟨Z,N⟩,h2,j⟩
def zBM (fu : Nat) (p0 : List UInt8) : Nat → Int → (List Int) → Option (List Int)
 | 0,_,_=>none
 | k+1,y5,y6=>
 bif (decide (y5<(p0.length:Int))) then (
 ck (inR y5 p0.length) <|
 bd ((decide (65≤(bAt p0 y5)))&&(decide ((bAt p0 y5)≤90))) fun x9=>
 bif x9 then (
 ck (zCV (y6.length+([(IntKind.u8.wrap ((bAt p0 y5)+32))]:List Int).length)) <|
 ck (i64B (y5+1)) <|
 zBM fu p0 k (y5+1) (y6++([(IntKind.u8.wrap ((bAt p0 y5)+32))]:List Int))
 ) else (
 ck (zCV (y6.length+([(bAt p0 y5)]:List Int).length)) <|
 ck (i64B (y5+1)) <|
 zBM fu p0 k (y5+1) (y6++([(bAt p0 y5)]:List Int))
 )
 ) else (
 some y6
 )
def zBX (fu:Nat) (p0:List UInt8):Option (List UInt8):=
 cl true (zBM fu p0 fu 0 ([]:List Int)) fun s4=>
 some (strB s4)
theorem zDI {fu : Nat} {A0 : Av} {p0 : List UInt8} {r : List UInt8} (c : zBX fu p0 = some r) {w : World} {v0 : Value} (d : AvOK A0 w) (h0 : Rep eStr A0 w v0 p0) :
 Calls prog 133 #[v0] w fun e w'=>∃ v,e = .returned v∧(Rep eStr A0 w' v r∧Fr w w'):=by
 unfold zBX at c
 obtain ⟨w0,hw0⟩:∃ w0,w0=w:=⟨_,Z⟩
 have j:Fr w0 w:=hw0 ▸ Fr.refl _
 have C:∀ b o,A0 b o→b<w0.heap.size:=fun b o h=>hw0 ▸ d b o h
 have hA00:AvOK A0 w0:=C
 rw [show Fr w=Fr w0 from hw0 ▸ Z]
 clear hw0
 obtain ⟨A,hAe⟩:∃ A,A=A0:=⟨_,Z⟩
 have B:∀ b o,A0 b o→A b o:=fun b o h=>hAe ▸ h
 replace d:AvOK A w:=hAe ▸ d
 have q:IniOK [] A w:=IniOK.nil
 refine zA2 [.tmp 2] func133 ntmps133 (by decide) Z Z (nb Z) ?_
 intro R hR
 have f_v0:Rep eStr A w v0 p0:=hAe ▸ h0
 replace h0:R 0=v0:=hR 0 _ Z
 clear hR hAe
 refine HT.su d j (eF (.rep eStr A ([]:List UInt8))::[]) ?_ ?_
 exact op (fun Q U W H D=>zA0 ⟨_,Z,⟨_,Z,Z,by decide⟩⟩)<|oz
 intro R w m n p d j
 replace h0:=k1 n h0
 replace f_v0:=f_v0.fr m
 replace q:=q.fr m
 refine HT.sx [] (⟨_,true,[],some (.vec w0.heap.size 5 (eInt .u8) ([]:List Int)),true,fun A=>.any⟩::⟨_,true,[0],some (.vec w0.heap.size 5 (eInt .u8) ([]:List Int)),true,fun A=>.any⟩::[]) (ua (ua (UAll.nil))) q d ?_ ?_
 exact rc (OblR.made _ Z Z Z Z fun V Q U O D=>by exact zBb [] (E:=eInt .u8) N underlying22 sizeOf5 zeroValue5 Z Z Z (Nat.le_trans j.size O.ch.size))<|rc (OblR.took 0 _ _ Z Z Z Z Z fun V Q U O D u hok hav hin hop hds=>by exact zAH (hop _ _ Z Z Z Z).symm hok hav)<|rz
 intro done ρ σ A R w y s
 replace h0:=k1 s.rg h0
 obtain ⟨u1,e_u1⟩:∃ u,ρ 1=u:=⟨_,Z⟩
 have h3:=s.ov y 1 1 e_u1
 replace f_v0:=f_v0.stp s.stp
 obtain ⟨B,j,d⟩:=s.s B C j q N
 replace q:=s.left y [(1,ob u1 (.vec w0.heap.size 5 (eInt .u8) ([]:List Int)))] ⟨Z,Z,e_u1,Z,Z,N⟩
 refine HT.seq ?_
 refine HT.su d j (eI 0::[]) ?_ ?_
 exact op (fun Q U W H D=>zA0 Z)<|oz
 intro R w m n p d j
 obtain ⟨h0,h3⟩:=k2 n h0 h3
 have h4:=p.r 0 Z
 replace f_v0:=f_v0.fr m
 replace q:=q.fr m
 obtain ⟨rl2,q3,c⟩:=zA3 c
 replace q3:=q3 Z
 refine HT.cut0 (fun R w=>∃ A:Av,∃ (s4:(List Int)) (uo_u1:Value),rl2=s4∧AvOK A w∧Fr w0 w∧(∀ b o,A0 b o→A b o)∧IniOK [ob uo_u1 (.vec w0.heap.size 5 (eInt .u8) s4)] A w∧R 3=uo_u1) ?_ ?_
 refine HT.block ?_
 refine HT.loop (fun k R w=>∃ A:Av,∃ (y5:Int) (y6:List Int) (ul_u1:Value),zBM fu p0 k y5 y6=some rl2∧AvOK A w∧Fr w0 w∧(∀ b o,A0 b o→A b o)∧IniOK [ob ul_u1 (.vec w0.heap.size 5 (eInt .u8) y6)] A w∧R 0=v0∧R 3=ul_u1∧R 4 = .int .i64 y5∧Rep eStr A w v0 p0) fu ⟨_,_,_,u1,q3,d,j,B,q,h0,h3,h4,f_v0⟩ ?_
 have hr0:=c;clear c q3
 rintro k R w ⟨A,y5,y6,ul_u1,c,d,j,B,q,h0,h3,h4,f_v0⟩
 rcases k with _ | k
 cases (show none=some _ from c)
 rw [zBM] at c
 refine HT.seq ?_
 refine HT.su d j (eI y5::eR v0::eI (p0.length:Int)::eB (decide (y5<(p0.length:Int)))::[]) ?_ ?_
 exact om h4<|om h0<|op (fun Q U W H D=>zAG ((f_v0.fr W).eq (D.g 0 Z)) underlying9)<|op (fun Q U W H D=>zAf (D.g 0 Z) (D.g 1 Z))<|oz
 intro R w m n p d j
 obtain ⟨h0,h3,h4⟩:=k3 n h0 h3 h4
 have h10:=p.r 3 Z
 replace f_v0:=f_v0.fr m
 replace q:=q.fr m
 refine HT.cond (decide (y5<(p0.length:Int))) h10 (fun c7=>?_) (fun c7=>?_)
 have c:=zAK c7 c
 refine HT.skip ?_
 refine HT.seq ?_
 refine HT.block ?_
 obtain ⟨e8,c⟩:=zA4 c
 refine HT.su d j (eR v0::eI y5::eU (bAt p0 y5)::eU (bAt p0 y5)::[]) ?_ ?_
 exact om h0<|om h4<|op (fun Q U W H D=>zA8 ((f_v0.fr W).eq (D.g 0 Z)) (D.g 1 Z) underlying9 e8)<|oa<|oz
 intro R w m n p d j
 obtain ⟨h0,h3,h4⟩:=k3 n h0 h3 h4
 have h5:=p.r 3 Z
 replace f_v0:=f_v0.fr m
 replace q:=q.fr m
 refine HT.seq ?_
 refine HT.seq ?_
 obtain ⟨x9,q10,c⟩:=zAB c
 refine HT.u d j (eU (bAt p0 y5)::eB (decide (65≤(bAt p0 y5)))::eB (decide (65≤(bAt p0 y5)))::gU (true&&((decide (65≤(bAt p0 y5)))==true)) (bAt p0 y5)::gB (true&&((decide (65≤(bAt p0 y5)))==true)) (decide ((bAt p0 y5)≤90))::eB x9::[]) ?_ ?_
 exact om h5<|op (fun Q U W H D=>zDt (D.g 0 Z) Z)<|ov<|gm 2 true h5<|og 2 true (fun G Q U W H D=>zDu (D.h 0 G Z) Z)<|op (fun Q U W H D=>zAC (decide (65≤(bAt p0 y5))) (D.g 0 Z) (fun hc=>by have a1:Q 20 = .bool (decide ((bAt p0 y5)≤90)):=D 1 _ _ _ Z Z Z Z (zAZ Z (zAM hc));show _=Value.bool x9;rw [q10,hc];exact a1) (fun hc=>by show _=Value.bool x9;rw [q10,hc];exact Z))<|oz
 intro R w m n p d j
 obtain ⟨h0,h3,h4,h5⟩:=k4 n h0 h3 h4 h5
 have h21:=p.r 5 Z
 replace f_v0:=f_v0.fr m
 replace q:=q.fr m
 refine HT.cond x9 h21 (fun c11=>?_) (fun c11=>?_)
 have c:=zAK c11 c
 refine HT.u d j (eU (bAt p0 y5)::eU (IntKind.u8.wrap ((bAt p0 y5)+32))::eU (IntKind.u8.wrap ((bAt p0 y5)+32))::[]) ?_ ?_
 exact om h5<|op (fun Q U W H D=>zJ6 (D.g 0 Z) Z)<|oa<|oz
 intro R w m n p d j
 obtain ⟨h0,h3,h4⟩:=k3 n h0 h3 h4
 have h5:=p.r 2 Z
 replace f_v0:=f_v0.fr m
 replace q:=q.fr m
 obtain ⟨e12,c⟩:=zA4 c
 refine HT.x [ob ul_u1 (.vec w0.heap.size 5 (eInt .u8) y6)] (rR ul_u1::rU (IntKind.u8.wrap ((bAt p0 y5)+32))::(rF fun A=>.rep (eSl (eInt .u8)) A ([(IntKind.u8.wrap ((bAt p0 y5)+32))]:List Int))::⟨_,true,[0],some (.vec w0.heap.size 5 (eInt .u8) (y6++([(IntKind.u8.wrap ((bAt p0 y5)+32))]:List Int))),true,fun A=>.any⟩::⟨_,true,[4],some (.vec w0.heap.size 5 (eInt .u8) (y6++([(IntKind.u8.wrap ((bAt p0 y5)+32))]:List Int))),true,fun A=>.any⟩::[]) (ur (ur (up (ua (ua (UAll.nil)))))) q d ?_ ?_
 exact rm h3<|rm h5<|rp (fun V Q U O D=>zBZ [_] (E:=eInt .u8) ⟨(zAe.eq (D.g 0 Z)),N⟩ underlying22 sizeOf5 zeroValue5 Z Z Z O.av)<|rc (OblR.took 0 _ _ Z Z Z Z Z fun V Q U O D u hok hav hin hop hds=>by have a0:Q 24=ul_u1:=D.g 0 Z;have a1:Rep (eSl (eInt .u8)) V U (Q 26) ([(IntKind.u8.wrap ((bAt p0 y5)+32))]:List Int):=D.g 1 Z;exact zAw (a0.trans (hin _ Z).symm) hok hav (Nat.le_trans j.size O.ch.size) a1 underlying22 el_5 e12)<|rc (OblR.took 4 _ _ Z Z Z Z Z fun V Q U O D u hok hav hin hop hds=>by exact zAH (hop _ _ Z Z Z Z).symm hok hav)<|rz
 intro done ρ σ A R w y s
 obtain ⟨h0,h4⟩:=k2 s.rg h0 h4
 obtain ⟨u13,e_u13⟩:∃ u,ρ 5=u:=⟨_,Z⟩
 have h3:=s.ov y 5 4 e_u13
 replace f_v0:=f_v0.stp s.stp
 obtain ⟨B,j,d⟩:=s.s B C j q ⟨Z,N⟩
 replace q:=s.left y [(5,ob u13 (.vec w0.heap.size 5 (eInt .u8) (y6++([(IntKind.u8.wrap ((bAt p0 y5)+32))]:List Int))))] ⟨Z,Z,e_u13,Z,Z,N⟩
 obtain ⟨e14,c⟩:=zA4 c
 refine HT.u d j (eI y5::eI (y5+1)::eI (y5+1)::[]) ?_ ?_
 exact om h4<|op (fun Q U W H D=>zAN (D.g 0 Z) Z e14)<|oa<|oz
 intro R w m n p d j
 obtain ⟨h0,h3⟩:=k2 n h0 h3
 have h4:=p.r 2 Z
 replace f_v0:=f_v0.fr m
 replace q:=q.fr m
 exact ei k (And.intro (Nat.lt_succ_self k) ⟨_,_,_,u13,c,d,j,B,q,h0,h3,h4,f_v0⟩)
 have c:=zAL c11 c
 refine HT.skip ?_
 obtain ⟨e15,c⟩:=zA4 c
 refine HT.x [ob ul_u1 (.vec w0.heap.size 5 (eInt .u8) y6)] (rR ul_u1::rU (bAt p0 y5)::(rF fun A=>.rep (eSl (eInt .u8)) A ([(bAt p0 y5)]:List Int))::⟨_,true,[0],some (.vec w0.heap.size 5 (eInt .u8) (y6++([(bAt p0 y5)]:List Int))),true,fun A=>.any⟩::⟨_,true,[4],some (.vec w0.heap.size 5 (eInt .u8) (y6++([(bAt p0 y5)]:List Int))),true,fun A=>.any⟩::[]) (ur (ur (up (ua (ua (UAll.nil)))))) q d ?_ ?_
 exact rm h3<|rm h5<|rp (fun V Q U O D=>zBZ [_] (E:=eInt .u8) ⟨(zAe.eq (D.g 0 Z)),N⟩ underlying22 sizeOf5 zeroValue5 Z Z Z O.av)<|rc (OblR.took 0 _ _ Z Z Z Z Z fun V Q U O D u hok hav hin hop hds=>by have a0:Q 24=ul_u1:=D.g 0 Z;have a1:Rep (eSl (eInt .u8)) V U (Q 26) ([(bAt p0 y5)]:List Int):=D.g 1 Z;exact zAw (a0.trans (hin _ Z).symm) hok hav (Nat.le_trans j.size O.ch.size) a1 underlying22 el_5 e15)<|rc (OblR.took 4 _ _ Z Z Z Z Z fun V Q U O D u hok hav hin hop hds=>by exact zAH (hop _ _ Z Z Z Z).symm hok hav)<|rz
 intro done ρ σ A R w y s
 obtain ⟨h0,h4⟩:=k2 s.rg h0 h4
 obtain ⟨u16,e_u16⟩:∃ u,ρ 5=u:=⟨_,Z⟩
 have h3:=s.ov y 5 4 e_u16
 replace f_v0:=f_v0.stp s.stp
 obtain ⟨B,j,d⟩:=s.s B C j q ⟨Z,N⟩
 replace q:=s.left y [(5,ob u16 (.vec w0.heap.size 5 (eInt .u8) (y6++([(bAt p0 y5)]:List Int))))] ⟨Z,Z,e_u16,Z,Z,N⟩
 obtain ⟨e17,c⟩:=zA4 c
 refine HT.u d j (eI y5::eI (y5+1)::eI (y5+1)::[]) ?_ ?_
 exact om h4<|op (fun Q U W H D=>zAN (D.g 0 Z) Z e17)<|oa<|oz
 intro R w m n p d j
 obtain ⟨h0,h3⟩:=k2 n h0 h3
 have h4:=p.r 2 Z
 replace f_v0:=f_v0.fr m
 replace q:=q.fr m
 exact ei k (And.intro (Nat.lt_succ_self k) ⟨_,_,_,u16,c,d,j,B,q,h0,h3,h4,f_v0⟩)
 have c:=zAL c7 c
 refine HT.exit ?_
 obtain rfl:=si c
 exact ei _ ⟨_,ul_u1,Z,d,j,B,q,h3⟩
 rintro R w ⟨A,s4,uo_u1,es,d,j,B,q,h3⟩
 obtain rfl:=es.symm
 refine HT.su d j (eR uo_u1::eF (.rep eStr A (strB s4))::eF (.rep eStr A (strB s4))::[]) ?_ ?_
 exact om h3<|op (fun Q U W H D=>zBF ((zCD ((q.fr W).ok 0 _ Z).1 B C).eq (D.g 0 Z)) underlying22 underlying5 underlying9)<|op (fun Q U W H D=>zA0 (D.g 0 Z))<|oz
 intro R w m n p d j
 obtain ⟨u18,h2,f_u18⟩:∃ u,R 2=u∧Rep eStr A w u (strB s4):=⟨_,Z,p 2 _ _ Z Z Z⟩
 replace q:=q.fr m
 replace q:IniOK [] A w:=q.sub [] N
 refine HT.ret ?_
 obtain rfl:=si c
 exact ⟨.inr Z,[R 2],⟨Z,N⟩,(f_u18.eq h2).down B,j⟩
def zD1 (fu:Nat) (p0:Int):Option Bool:=
 bd ((decide (97≤p0))&&(decide (p0≤122))) fun x1=>
 bd ((decide (65≤p0))&&(decide (p0≤90))) fun x3=>
 bd (x1 || x3) fun x5=>
 bd ((decide (48≤p0))&&(decide (p0≤57))) fun x7=>
 bd (x5 || x7) fun x9=>
 some x9
theorem zFk {fu : Nat} {A : Av} {p0 : Int} {r : Bool} (c : zD1 fu p0 = some r) {w : World} {v0 : Value} (d : AvOK A w) (h0 : v0 = .int .u8 p0) :
 Calls prog 188 #[v0] w fun e w'=>∃ v,e = .returned v∧(v = .bool r∧Fr w w'):=by
 unfold zD1 at c
 obtain ⟨w0,hw0⟩:∃ w0,w0=w:=⟨_,Z⟩
 have j:Fr w0 w:=hw0 ▸ Fr.refl _
 rw [show Fr w=Fr w0 from hw0 ▸ Z]
 clear hw0
 refine zA2 [.tmp 2] func188 ntmps188 (by decide) Z Z (nb Z) ?_
 intro R hR
 replace h0:R 0 = .int .u8 p0:=(hR 0 _ Z).trans h0
 clear hR
 refine HT.su d j (eB false::[]) ?_ ?_
 exact op (fun Q U W H D=>zA0 Z)<|oz
 intro R w m n p d j
 replace h0:=k1 n h0
 refine HT.seq ?_
 obtain ⟨x1,q2,c⟩:=zAB c
 obtain ⟨x3,q4,c⟩:=zAB c
 obtain ⟨x5,q6,c⟩:=zAB c
 obtain ⟨x7,q8,c⟩:=zAB c
 obtain ⟨x9,q10,c⟩:=zAB c
 refine HT.u d j (eU p0::eB (decide (97≤p0))::eB (decide (97≤p0))::gU (true&&((decide (97≤p0))==true)) p0::gB (true&&((decide (97≤p0))==true)) (decide (p0≤122))::eB x1::eB x1::gU (true&&(x1==false)) p0::gB (true&&(x1==false)) (decide (65≤p0))::gB (true&&(x1==false)) (decide (65≤p0))::gU ((true&&(x1==false))&&((decide (65≤p0))==true)) p0::gB ((true&&(x1==false))&&((decide (65≤p0))==true)) (decide (p0≤90))::gB (true&&(x1==false)) x3::eB x5::eB x5::gU (true&&(x5==false)) p0::gB (true&&(x5==false)) (decide (48≤p0))::gB (true&&(x5==false)) (decide (48≤p0))::gU ((true&&(x5==false))&&((decide (48≤p0))==true)) p0::gB ((true&&(x5==false))&&((decide (48≤p0))==true)) (decide (p0≤57))::gB (true&&(x5==false)) x7::eB x9::eB x9::[]) ?_ ?_
 exact om h0<|op (fun Q U W H D=>zDt (D.g 0 Z) Z)<|ov<|gm 2 true h0<|og 2 true (fun G Q U W H D=>zDu (D.h 0 G Z) Z)<|op (fun Q U W H D=>zAC (decide (97≤p0)) (D.g 0 Z) (fun hc=>by have a1:Q 7 = .bool (decide (p0≤122)):=D 1 _ _ _ Z Z Z Z (zAZ Z (zAM hc));show _=Value.bool x1;rw [q2,hc];exact a1) (fun hc=>by show _=Value.bool x1;rw [q2,hc];exact Z))<|ov<|gm 6 false h0<|og 6 false (fun G Q U W H D=>zDt (D.h 0 G Z) Z)<|og 6 false (fun G Q U W H D=>zCE (D.h 0 G Z))<|gm 9 true h0<|og 9 true (fun G Q U W H D=>zDu (D.h 0 G Z) Z)<|og 6 false (fun G Q U W H D=>zAC (decide (65≤p0)) (D.h 0 G Z) (fun hc=>by have a1:Q 14 = .bool (decide (p0≤90)):=D 1 _ _ _ Z Z Z Z (zAZ G (zAM hc));show _=Value.bool x3;rw [q4,hc];exact a1) (fun hc=>by show _=Value.bool x3;rw [q4,hc];exact Z))<|op (fun Q U W H D=>zAC x1 (D.g 0 Z) (fun hc=>by show _=Value.bool x5;rw [q6,hc];exact Z) (fun hc=>by have a2:Q 15 = .bool x3:=D 1 _ _ _ Z Z Z Z (zAZ Z (zAM hc));show _=Value.bool x5;rw [q6,hc];exact a2))<|ov<|gm 14 false h0<|og 14 false (fun G Q U W H D=>zDt (D.h 0 G Z) Z)<|og 14 false (fun G Q U W H D=>zCE (D.h 0 G Z))<|gm 17 true h0<|og 17 true (fun G Q U W H D=>zDu (D.h 0 G Z) Z)<|og 14 false (fun G Q U W H D=>zAC (decide (48≤p0)) (D.h 0 G Z) (fun hc=>by have a1:Q 22 = .bool (decide (p0≤57)):=D 1 _ _ _ Z Z Z Z (zAZ G (zAM hc));show _=Value.bool x7;rw [q8,hc];exact a1) (fun hc=>by show _=Value.bool x7;rw [q8,hc];exact Z))<|op (fun Q U W H D=>zAC x5 (D.g 0 Z) (fun hc=>by show _=Value.bool x9;rw [q10,hc];exact Z) (fun hc=>by have a2:Q 23 = .bool x7:=D 1 _ _ _ Z Z Z Z (zAZ Z (zAM hc));show _=Value.bool x9;rw [q10,hc];exact a2))<|oa<|oz
 intro R w m n p d j
 have h2:=p.r 22 Z
 refine HT.ret ?_
 obtain rfl:=si c
 exact ⟨.inr Z,[R 2],⟨Z,N⟩,h2,j⟩
def zAt (fu : Nat) (p0 : List UInt8) : Nat → Int → (List Int) → Option (List Int)
 | 0,_,_=>none
 | k+1,y5,y6=>
 bif (decide (y5<(p0.length:Int))) then (
 ck (inR y5 p0.length) <|
 cl true (zD1 fu (bAt p0 y5)) fun x9=>
 ck (!(true&&(x9==false)) || inR y5 p0.length) <|
 bd (x9 || ((bAt p0 y5)==32)) fun x12=>
 bif x12 then (
 ck (inR y5 p0.length) <|
 ck (zCV (y6.length+([(bAt p0 y5)]:List Int).length)) <|
 ck (i64B (y5+1)) <|
 zAt fu p0 k (y5+1) (y6++([(bAt p0 y5)]:List Int))
 ) else (
 ck (inR y5 p0.length) <|
 bif ((bAt p0 y5) != 39) then (
 ck (zCV (y6.length+([32]:List Int).length)) <|
 ck (i64B (y5+1)) <|
 zAt fu p0 k (y5+1) (y6++([32]:List Int))
 ) else (
 ck (i64B (y5+1)) <|
 zAt fu p0 k (y5+1) y6
 )
 )
 ) else (
 some y6
 )
def zCk (fu:Nat) (p0:List UInt8):Option (List UInt8):=
 cl true (zAt fu p0 fu 0 ([]:List Int)) fun s4=>
 some (strB s4)
theorem zGM {fu : Nat} {A0 : Av} {p0 : List UInt8} {r : List UInt8} (c : zCk fu p0 = some r) {w : World} {v0 : Value} (d : AvOK A0 w) (h0 : Rep eStr A0 w v0 p0) :
 Calls prog 132 #[v0] w fun e w'=>∃ v,e = .returned v∧(Rep eStr A0 w' v r∧Fr w w'):=by
 unfold zCk at c
 obtain ⟨w0,hw0⟩:∃ w0,w0=w:=⟨_,Z⟩
 have j:Fr w0 w:=hw0 ▸ Fr.refl _
 have C:∀ b o,A0 b o→b<w0.heap.size:=fun b o h=>hw0 ▸ d b o h
 have hA00:AvOK A0 w0:=C
 rw [show Fr w=Fr w0 from hw0 ▸ Z]
 clear hw0
 obtain ⟨A,hAe⟩:∃ A,A=A0:=⟨_,Z⟩
 have B:∀ b o,A0 b o→A b o:=fun b o h=>hAe ▸ h
 replace d:AvOK A w:=hAe ▸ d
 have q:IniOK [] A w:=IniOK.nil
 refine zA2 [.tmp 2] func132 ntmps132 (by decide) Z Z (nb Z) ?_
 intro R hR
 have f_v0:Rep eStr A w v0 p0:=hAe ▸ h0
 replace h0:R 0=v0:=hR 0 _ Z
 clear hR hAe
 refine HT.su d j (eF (.rep eStr A ([]:List UInt8))::[]) ?_ ?_
 exact op (fun Q U W H D=>zA0 ⟨_,Z,⟨_,Z,Z,by decide⟩⟩)<|oz
 intro R w m n p d j
 replace h0:=k1 n h0
 replace f_v0:=f_v0.fr m
 replace q:=q.fr m
 refine HT.sx [] (⟨_,true,[],some (.vec w0.heap.size 5 (eInt .u8) ([]:List Int)),true,fun A=>.any⟩::⟨_,true,[0],some (.vec w0.heap.size 5 (eInt .u8) ([]:List Int)),true,fun A=>.any⟩::[]) (ua (ua (UAll.nil))) q d ?_ ?_
 exact rc (OblR.made _ Z Z Z Z fun V Q U O D=>by exact zBb [] (E:=eInt .u8) N underlying22 sizeOf5 zeroValue5 Z Z Z (Nat.le_trans j.size O.ch.size))<|rc (OblR.took 0 _ _ Z Z Z Z Z fun V Q U O D u hok hav hin hop hds=>by exact zAH (hop _ _ Z Z Z Z).symm hok hav)<|rz
 intro done ρ σ A R w y s
 replace h0:=k1 s.rg h0
 obtain ⟨u1,e_u1⟩:∃ u,ρ 1=u:=⟨_,Z⟩
 have h3:=s.ov y 1 1 e_u1
 replace f_v0:=f_v0.stp s.stp
 obtain ⟨B,j,d⟩:=s.s B C j q N
 replace q:=s.left y [(1,ob u1 (.vec w0.heap.size 5 (eInt .u8) ([]:List Int)))] ⟨Z,Z,e_u1,Z,Z,N⟩
 refine HT.seq ?_
 refine HT.su d j (eI 0::[]) ?_ ?_
 exact op (fun Q U W H D=>zA0 Z)<|oz
 intro R w m n p d j
 obtain ⟨h0,h3⟩:=k2 n h0 h3
 have h4:=p.r 0 Z
 replace f_v0:=f_v0.fr m
 replace q:=q.fr m
 obtain ⟨rl2,q3,c⟩:=zA3 c
 replace q3:=q3 Z
 refine HT.cut0 (fun R w=>∃ A:Av,∃ (s4:(List Int)) (uo_u1:Value),rl2=s4∧AvOK A w∧Fr w0 w∧(∀ b o,A0 b o→A b o)∧IniOK [ob uo_u1 (.vec w0.heap.size 5 (eInt .u8) s4)] A w∧R 3=uo_u1) ?_ ?_
 refine HT.block ?_
 refine HT.loop (fun k R w=>∃ A:Av,∃ (y5:Int) (y6:List Int) (ul_u1:Value),zAt fu p0 k y5 y6=some rl2∧AvOK A w∧Fr w0 w∧(∀ b o,A0 b o→A b o)∧IniOK [ob ul_u1 (.vec w0.heap.size 5 (eInt .u8) y6)] A w∧R 0=v0∧R 3=ul_u1∧R 4 = .int .i64 y5∧Rep eStr A w v0 p0) fu ⟨_,_,_,u1,q3,d,j,B,q,h0,h3,h4,f_v0⟩ ?_
 have hr0:=c;clear c q3
 rintro k R w ⟨A,y5,y6,ul_u1,c,d,j,B,q,h0,h3,h4,f_v0⟩
 rcases k with _ | k
 cases (show none=some _ from c)
 rw [zAt] at c
 refine HT.seq ?_
 refine HT.su d j (eI y5::eR v0::eI (p0.length:Int)::eB (decide (y5<(p0.length:Int)))::[]) ?_ ?_
 exact om h4<|om h0<|op (fun Q U W H D=>zAG ((f_v0.fr W).eq (D.g 0 Z)) underlying9)<|op (fun Q U W H D=>zAf (D.g 0 Z) (D.g 1 Z))<|oz
 intro R w m n p d j
 obtain ⟨h0,h3,h4⟩:=k3 n h0 h3 h4
 have h9:=p.r 3 Z
 replace f_v0:=f_v0.fr m
 replace q:=q.fr m
 refine HT.cond (decide (y5<(p0.length:Int))) h9 (fun c7=>?_) (fun c7=>?_)
 have c:=zAK c7 c
 refine HT.skip ?_
 refine HT.seq ?_
 refine HT.block ?_
 refine HT.block ?_
 refine HT.seq ?_
 obtain ⟨e8,c⟩:=zA4 c
 obtain ⟨x9,q10,c⟩:=zA3 c
 obtain ⟨e11,c⟩:=zA4 c
 obtain ⟨x12,q13,c⟩:=zAB c
 refine HT.u d j (eR v0::eI y5::eU (bAt p0 y5)::eB x9::eB x9::gR (true&&(x9==false)) v0::gI (true&&(x9==false)) y5::gU (true&&(x9==false)) (bAt p0 y5)::gB (true&&(x9==false)) ((bAt p0 y5)==32)::eB x12::eB x12::[]) ?_ ?_
 exact om h0<|om h4<|op (fun Q U W H D=>zA8 ((f_v0.fr W).eq (D.g 0 Z)) (D.g 1 Z) underlying9 e8)<|op (fun Q U W H D=>zA6 call188 (zFk (q10 Z) (d.fr W.size) (D.g 0 Z)))<|ov<|gm 4 false h0<|gm 4 false h4<|og 4 false (fun G Q U W H D=>zA8 ((f_v0.fr W).eq (D.h 0 G Z)) (D.h 1 G Z) underlying9 (gd e11 G))<|og 4 false (fun G Q U W H D=>zBA (D.h 0 G Z) Z)<|op (fun Q U W H D=>zAC x9 (D.g 0 Z) (fun hc=>by show _=Value.bool x12;rw [q13,hc];exact Z) (fun hc=>by have a2:Q 21 = .bool ((bAt p0 y5)==32):=D 1 _ _ _ Z Z Z Z (zAZ Z (zAM hc));show _=Value.bool x12;rw [q13,hc];exact a2))<|oa<|oz
 intro R w m n p d j
 obtain ⟨h0,h3,h4⟩:=k3 n h0 h3 h4
 have h12:=p.r 10 Z
 replace f_v0:=f_v0.fr m
 replace q:=q.fr m
 refine HT.cond x12 h12 (fun c14=>?_) (fun c14=>?_)
 have c:=zAK c14 c
 obtain ⟨e15,e16,c⟩:=ck2 c
 refine HT.x [ob ul_u1 (.vec w0.heap.size 5 (eInt .u8) y6)] (rR ul_u1::rR v0::rI y5::rU (bAt p0 y5)::(rF fun A=>.rep (eSl (eInt .u8)) A ([(bAt p0 y5)]:List Int))::⟨_,true,[0],some (.vec w0.heap.size 5 (eInt .u8) (y6++([(bAt p0 y5)]:List Int))),true,fun A=>.any⟩::⟨_,true,[6],some (.vec w0.heap.size 5 (eInt .u8) (y6++([(bAt p0 y5)]:List Int))),true,fun A=>.any⟩::[]) (ur (ur (ur (ur (up (ua (ua (UAll.nil)))))))) q d ?_ ?_
 exact rm h3<|rm h0<|rm h4<|rp (fun V Q U O D=>zA8 ((f_v0.stp O.stp).eq (D.g 0 Z)) (D.g 1 Z) underlying9 e15)<|rp (fun V Q U O D=>zBZ [_] (E:=eInt .u8) ⟨(zAe.eq (D.g 0 Z)),N⟩ underlying22 sizeOf5 zeroValue5 Z Z Z O.av)<|rc (OblR.took 0 _ _ Z Z Z Z Z fun V Q U O D u hok hav hin hop hds=>by have a0:Q 23=ul_u1:=D.g 0 Z;have a1:Rep (eSl (eInt .u8)) V U (Q 27) ([(bAt p0 y5)]:List Int):=D.g 1 Z;exact zAw (a0.trans (hin _ Z).symm) hok hav (Nat.le_trans j.size O.ch.size) a1 underlying22 el_5 e16)<|rc (OblR.took 6 _ _ Z Z Z Z Z fun V Q U O D u hok hav hin hop hds=>by exact zAH (hop _ _ Z Z Z Z).symm hok hav)<|rz
 intro done ρ σ A R w y s
 obtain ⟨h0,h4⟩:=k2 s.rg h0 h4
 obtain ⟨u17,e_u17⟩:∃ u,ρ 7=u:=⟨_,Z⟩
 have h3:=s.ov y 7 6 e_u17
 replace f_v0:=f_v0.stp s.stp
 obtain ⟨B,j,d⟩:=s.s B C j q ⟨Z,N⟩
 replace q:=s.left y [(7,ob u17 (.vec w0.heap.size 5 (eInt .u8) (y6++([(bAt p0 y5)]:List Int))))] ⟨Z,Z,e_u17,Z,Z,N⟩
 obtain ⟨e18,c⟩:=zA4 c
 refine HT.u d j (eI y5::eI (y5+1)::eI (y5+1)::[]) ?_ ?_
 exact om h4<|op (fun Q U W H D=>zAN (D.g 0 Z) Z e18)<|oa<|oz
 intro R w m n p d j
 obtain ⟨h0,h3⟩:=k2 n h0 h3
 have h4:=p.r 2 Z
 replace f_v0:=f_v0.fr m
 replace q:=q.fr m
 exact ei k (And.intro (Nat.lt_succ_self k) ⟨_,_,_,u17,c,d,j,B,q,h0,h3,h4,f_v0⟩)
 have c:=zAL c14 c
 obtain ⟨e19,c⟩:=zA4 c
 refine HT.su d j (eR v0::eI y5::eU (bAt p0 y5)::eB ((bAt p0 y5) != 39)::eB ((bAt p0 y5) != 39)::[]) ?_ ?_
 exact om h0<|om h4<|op (fun Q U W H D=>zA8 ((f_v0.fr W).eq (D.g 0 Z)) (D.g 1 Z) underlying9 e19)<|op (fun Q U W H D=>zEc (D.g 0 Z) Z)<|oa<|oz
 intro R w m n p d j
 obtain ⟨h0,h3,h4⟩:=k3 n h0 h3 h4
 have h29:=p.r 4 Z
 replace f_v0:=f_v0.fr m
 replace q:=q.fr m
 refine HT.cond ((bAt p0 y5) != 39) h29 (fun c20=>?_) (fun c20=>?_)
 have c:=zAK c20 c
 obtain ⟨e21,c⟩:=zA4 c
 refine HT.x [ob ul_u1 (.vec w0.heap.size 5 (eInt .u8) y6)] (rR ul_u1::(rF fun A=>.rep (eSl (eInt .u8)) A ([32]:List Int))::⟨_,true,[0],some (.vec w0.heap.size 5 (eInt .u8) (y6++([32]:List Int))),true,fun A=>.any⟩::⟨_,true,[3],some (.vec w0.heap.size 5 (eInt .u8) (y6++([32]:List Int))),true,fun A=>.any⟩::[]) (ur (up (ua (ua (UAll.nil))))) q d ?_ ?_
 exact rm h3<|rp (fun V Q U O D=>zBZ [_] (E:=eInt .u8) ⟨(zAe.eq Z),N⟩ underlying22 sizeOf5 zeroValue5 Z Z Z O.av)<|rc (OblR.took 0 _ _ Z Z Z Z Z fun V Q U O D u hok hav hin hop hds=>by have a0:Q 34=ul_u1:=D.g 0 Z;have a1:Rep (eSl (eInt .u8)) V U (Q 35) ([32]:List Int):=D.g 1 Z;exact zAw (a0.trans (hin _ Z).symm) hok hav (Nat.le_trans j.size O.ch.size) a1 underlying22 el_5 e21)<|rc (OblR.took 3 _ _ Z Z Z Z Z fun V Q U O D u hok hav hin hop hds=>by exact zAH (hop _ _ Z Z Z Z).symm hok hav)<|rz
 intro done ρ σ A R w y s
 obtain ⟨h0,h4⟩:=k2 s.rg h0 h4
 obtain ⟨u22,e_u22⟩:∃ u,ρ 4=u:=⟨_,Z⟩
 have h3:=s.ov y 4 3 e_u22
 replace f_v0:=f_v0.stp s.stp
 obtain ⟨B,j,d⟩:=s.s B C j q ⟨Z,N⟩
 replace q:=s.left y [(4,ob u22 (.vec w0.heap.size 5 (eInt .u8) (y6++([32]:List Int))))] ⟨Z,Z,e_u22,Z,Z,N⟩
 obtain ⟨e23,c⟩:=zA4 c
 refine HT.u d j (eI y5::eI (y5+1)::eI (y5+1)::[]) ?_ ?_
 exact om h4<|op (fun Q U W H D=>zAN (D.g 0 Z) Z e23)<|oa<|oz
 intro R w m n p d j
 obtain ⟨h0,h3⟩:=k2 n h0 h3
 have h4:=p.r 2 Z
 replace f_v0:=f_v0.fr m
 replace q:=q.fr m
 exact ei k (And.intro (Nat.lt_succ_self k) ⟨_,_,_,u22,c,d,j,B,q,h0,h3,h4,f_v0⟩)
 have c:=zAL c20 c
 refine HT.skip ?_
 obtain ⟨e24,c⟩:=zA4 c
 refine HT.u d j (eI y5::eI (y5+1)::eI (y5+1)::[]) ?_ ?_
 exact om h4<|op (fun Q U W H D=>zAN (D.g 0 Z) Z e24)<|oa<|oz
 intro R w m n p d j
 obtain ⟨h0,h3⟩:=k2 n h0 h3
 have h4:=p.r 2 Z
 replace f_v0:=f_v0.fr m
 replace q:=q.fr m
 exact ei k (And.intro (Nat.lt_succ_self k) ⟨_,_,_,ul_u1,c,d,j,B,q,h0,h3,h4,f_v0⟩)
 have c:=zAL c7 c
 refine HT.exit ?_
 obtain rfl:=si c
 exact ei _ ⟨_,ul_u1,Z,d,j,B,q,h3⟩
 rintro R w ⟨A,s4,uo_u1,es,d,j,B,q,h3⟩
 obtain rfl:=es.symm
 refine HT.su d j (eR uo_u1::eF (.rep eStr A (strB s4))::eF (.rep eStr A (strB s4))::[]) ?_ ?_
 exact om h3<|op (fun Q U W H D=>zBF ((zCD ((q.fr W).ok 0 _ Z).1 B C).eq (D.g 0 Z)) underlying22 underlying5 underlying9)<|op (fun Q U W H D=>zA0 (D.g 0 Z))<|oz
 intro R w m n p d j
 obtain ⟨u25,h2,f_u25⟩:∃ u,R 2=u∧Rep eStr A w u (strB s4):=⟨_,Z,p 2 _ _ Z Z Z⟩
 replace q:=q.fr m
 replace q:IniOK [] A w:=q.sub [] N
 refine HT.ret ?_
 obtain rfl:=si c
 exact ⟨.inr Z,[R 2],⟨Z,N⟩,(f_u25.eq h2).down B,j⟩
def zAc (fu : Nat) (p0 : List UInt8) : Nat → Int → (List Int) → Option (List Int)
 | 0,_,_=>none
 | k+1,y5,y6=>
 bif (decide (y5<(p0.length:Int))) then (
 ck (inR y5 p0.length) <|
 bif ((bAt p0 y5) != 32) then (
 ck (!(true&&((decide (0<(y6.length:Int)))==true)) || i64B (y5-1)) <|
 ck (!(true&&((decide (0<(y6.length:Int)))==true)) || inR (y5-1) p0.length) <|
 bd ((decide (0<(y6.length:Int)))&&((bAt p0 (y5-1))==32)) fun x12=>
 bif x12 then (
 ck (zCV (y6.length+([32]:List Int).length)) <|
 ck (inR y5 p0.length) <|
 ck (zCV ((y6++([32]:List Int)).length+([(bAt p0 y5)]:List Int).length)) <|
 ck (i64B (y5+1)) <|
 zAc fu p0 k (y5+1) ((y6++([32]:List Int))++([(bAt p0 y5)]:List Int))
 ) else (
 ck (inR y5 p0.length) <|
 ck (zCV (y6.length+([(bAt p0 y5)]:List Int).length)) <|
 ck (i64B (y5+1)) <|
 zAc fu p0 k (y5+1) (y6++([(bAt p0 y5)]:List Int))
 )
 ) else (
 ck (i64B (y5+1)) <|
 zAc fu p0 k (y5+1) y6
 )
 ) else (
 some y6
 )
def zBt (fu:Nat) (p0:List UInt8):Option (List UInt8):=
 cl true (zAc fu p0 fu 0 ([]:List Int)) fun s4=>
 some (strB s4)
theorem zFM {fu : Nat} {A0 : Av} {p0 : List UInt8} {r : List UInt8} (c : zBt fu p0 = some r) {w : World} {v0 : Value} (d : AvOK A0 w) (h0 : Rep eStr A0 w v0 p0) :
 Calls prog 131 #[v0] w fun e w'=>∃ v,e = .returned v∧(Rep eStr A0 w' v r∧Fr w w'):=by
 unfold zBt at c
 obtain ⟨w0,hw0⟩:∃ w0,w0=w:=⟨_,Z⟩
 have j:Fr w0 w:=hw0 ▸ Fr.refl _
 have C:∀ b o,A0 b o→b<w0.heap.size:=fun b o h=>hw0 ▸ d b o h
 have hA00:AvOK A0 w0:=C
 rw [show Fr w=Fr w0 from hw0 ▸ Z]
 clear hw0
 obtain ⟨A,hAe⟩:∃ A,A=A0:=⟨_,Z⟩
 have B:∀ b o,A0 b o→A b o:=fun b o h=>hAe ▸ h
 replace d:AvOK A w:=hAe ▸ d
 have q:IniOK [] A w:=IniOK.nil
 refine zA2 [.tmp 2] func131 ntmps131 (by decide) Z Z (nb Z) ?_
 intro R hR
 have f_v0:Rep eStr A w v0 p0:=hAe ▸ h0
 replace h0:R 0=v0:=hR 0 _ Z
 clear hR hAe
 refine HT.su d j (eF (.rep eStr A ([]:List UInt8))::[]) ?_ ?_
 exact op (fun Q U W H D=>zA0 ⟨_,Z,⟨_,Z,Z,by decide⟩⟩)<|oz
 intro R w m n p d j
 replace h0:=k1 n h0
 replace f_v0:=f_v0.fr m
 replace q:=q.fr m
 refine HT.sx [] (⟨_,true,[],some (.vec w0.heap.size 5 (eInt .u8) ([]:List Int)),true,fun A=>.any⟩::⟨_,true,[0],some (.vec w0.heap.size 5 (eInt .u8) ([]:List Int)),true,fun A=>.any⟩::[]) (ua (ua (UAll.nil))) q d ?_ ?_
 exact rc (OblR.made _ Z Z Z Z fun V Q U O D=>by exact zBb [] (E:=eInt .u8) N underlying22 sizeOf5 zeroValue5 Z Z Z (Nat.le_trans j.size O.ch.size))<|rc (OblR.took 0 _ _ Z Z Z Z Z fun V Q U O D u hok hav hin hop hds=>by exact zAH (hop _ _ Z Z Z Z).symm hok hav)<|rz
 intro done ρ σ A R w y s
 replace h0:=k1 s.rg h0
 obtain ⟨u1,e_u1⟩:∃ u,ρ 1=u:=⟨_,Z⟩
 have h3:=s.ov y 1 1 e_u1
 replace f_v0:=f_v0.stp s.stp
 obtain ⟨B,j,d⟩:=s.s B C j q N
 replace q:=s.left y [(1,ob u1 (.vec w0.heap.size 5 (eInt .u8) ([]:List Int)))] ⟨Z,Z,e_u1,Z,Z,N⟩
 refine HT.seq ?_
 refine HT.su d j (eI 0::[]) ?_ ?_
 exact op (fun Q U W H D=>zA0 Z)<|oz
 intro R w m n p d j
 obtain ⟨h0,h3⟩:=k2 n h0 h3
 have h4:=p.r 0 Z
 replace f_v0:=f_v0.fr m
 replace q:=q.fr m
 obtain ⟨rl2,q3,c⟩:=zA3 c
 replace q3:=q3 Z
 refine HT.cut0 (fun R w=>∃ A:Av,∃ (s4:(List Int)) (uo_u1:Value),rl2=s4∧AvOK A w∧Fr w0 w∧(∀ b o,A0 b o→A b o)∧IniOK [ob uo_u1 (.vec w0.heap.size 5 (eInt .u8) s4)] A w∧R 3=uo_u1) ?_ ?_
 refine HT.block ?_
 refine HT.loop (fun k R w=>∃ A:Av,∃ (y5:Int) (y6:List Int) (ul_u1:Value),zAc fu p0 k y5 y6=some rl2∧AvOK A w∧Fr w0 w∧(∀ b o,A0 b o→A b o)∧IniOK [ob ul_u1 (.vec w0.heap.size 5 (eInt .u8) y6)] A w∧R 0=v0∧R 3=ul_u1∧R 4 = .int .i64 y5∧Rep eStr A w v0 p0) fu ⟨_,_,_,u1,q3,d,j,B,q,h0,h3,h4,f_v0⟩ ?_
 have hr0:=c;clear c q3
 rintro k R w ⟨A,y5,y6,ul_u1,c,d,j,B,q,h0,h3,h4,f_v0⟩
 rcases k with _ | k
 cases (show none=some _ from c)
 rw [zAc] at c
 refine HT.seq ?_
 refine HT.su d j (eI y5::eR v0::eI (p0.length:Int)::eB (decide (y5<(p0.length:Int)))::[]) ?_ ?_
 exact om h4<|om h0<|op (fun Q U W H D=>zAG ((f_v0.fr W).eq (D.g 0 Z)) underlying9)<|op (fun Q U W H D=>zAf (D.g 0 Z) (D.g 1 Z))<|oz
 intro R w m n p d j
 obtain ⟨h0,h3,h4⟩:=k3 n h0 h3 h4
 have h9:=p.r 3 Z
 replace f_v0:=f_v0.fr m
 replace q:=q.fr m
 refine HT.cond (decide (y5<(p0.length:Int))) h9 (fun c7=>?_) (fun c7=>?_)
 have c:=zAK c7 c
 refine HT.skip ?_
 refine HT.seq ?_
 refine HT.block ?_
 obtain ⟨e8,c⟩:=zA4 c
 refine HT.su d j (eR v0::eI y5::eU (bAt p0 y5)::eB ((bAt p0 y5) != 32)::[]) ?_ ?_
 exact om h0<|om h4<|op (fun Q U W H D=>zA8 ((f_v0.fr W).eq (D.g 0 Z)) (D.g 1 Z) underlying9 e8)<|op (fun Q U W H D=>zEc (D.g 0 Z) Z)<|oz
 intro R w m n p d j
 obtain ⟨h0,h3,h4⟩:=k3 n h0 h3 h4
 have h15:=p.r 3 Z
 replace f_v0:=f_v0.fr m
 replace q:=q.fr m
 refine HT.cond ((bAt p0 y5) != 32) h15 (fun c9=>?_) (fun c9=>?_)
 have c:=zAK c9 c
 refine HT.seq ?_
 refine HT.seq ?_
 obtain ⟨e10,e11,c⟩:=ck2 c
 obtain ⟨x12,q13,c⟩:=zAB c
 refine HT.u d j (eR ul_u1::eI (y6.length:Int)::eB (decide (0<(y6.length:Int)))::eB (decide (0<(y6.length:Int)))::gR (true&&((decide (0<(y6.length:Int)))==true)) v0::gI (true&&((decide (0<(y6.length:Int)))==true)) y5::gI (true&&((decide (0<(y6.length:Int)))==true)) (y5-1)::gU (true&&((decide (0<(y6.length:Int)))==true)) (bAt p0 (y5-1))::gB (true&&((decide (0<(y6.length:Int)))==true)) ((bAt p0 (y5-1))==32)::eB x12::[]) ?_ ?_
 exact om h3<|op (fun Q U W H D=>zCG (q.ok 0 _ Z).1 (D.g 0 Z) underlying22)<|op (fun Q U W H D=>zCM (D.g 0 Z) Z)<|ov<|gm 3 true h0<|gm 3 true h4<|og 3 true (fun G Q U W H D=>zAX (D.h 0 G Z) Z (gd e10 G))<|og 3 true (fun G Q U W H D=>zA8 ((f_v0.fr W).eq (D.h 0 G Z)) (D.h 1 G Z) underlying9 (gd e11 G))<|og 3 true (fun G Q U W H D=>zBA (D.h 0 G Z) Z)<|op (fun Q U W H D=>zAC (decide (0<(y6.length:Int))) (D.g 0 Z) (fun hc=>by have a1:Q 24 = .bool ((bAt p0 (y5-1))==32):=D 1 _ _ _ Z Z Z Z (zAZ Z (zAM hc));show _=Value.bool x12;rw [q13,hc];exact a1) (fun hc=>by show _=Value.bool x12;rw [q13,hc];exact Z))<|oz
 intro R w m n p d j
 obtain ⟨h0,h3,h4⟩:=k3 n h0 h3 h4
 have h25:=p.r 9 Z
 replace f_v0:=f_v0.fr m
 replace q:=q.fr m
 refine HT.cond x12 h25 (fun c14=>?_) (fun c14=>?_)
 have c:=zAK c14 c
 obtain ⟨e15,c⟩:=zA4 c
 refine HT.x [ob ul_u1 (.vec w0.heap.size 5 (eInt .u8) y6)] (rR ul_u1::(rF fun A=>.rep (eSl (eInt .u8)) A ([32]:List Int))::⟨_,true,[0],some (.vec w0.heap.size 5 (eInt .u8) (y6++([32]:List Int))),true,fun A=>.any⟩::⟨_,true,[3],some (.vec w0.heap.size 5 (eInt .u8) (y6++([32]:List Int))),true,fun A=>.any⟩::[]) (ur (up (ua (ua (UAll.nil))))) q d ?_ ?_
 exact rm h3<|rp (fun V Q U O D=>zBZ [_] (E:=eInt .u8) ⟨(zAe.eq Z),N⟩ underlying22 sizeOf5 zeroValue5 Z Z Z O.av)<|rc (OblR.took 0 _ _ Z Z Z Z Z fun V Q U O D u hok hav hin hop hds=>by have a0:Q 26=ul_u1:=D.g 0 Z;have a1:Rep (eSl (eInt .u8)) V U (Q 27) ([32]:List Int):=D.g 1 Z;exact zAw (a0.trans (hin _ Z).symm) hok hav (Nat.le_trans j.size O.ch.size) a1 underlying22 el_5 e15)<|rc (OblR.took 3 _ _ Z Z Z Z Z fun V Q U O D u hok hav hin hop hds=>by exact zAH (hop _ _ Z Z Z Z).symm hok hav)<|rz
 intro done ρ σ A R w y s
 obtain ⟨h0,h4⟩:=k2 s.rg h0 h4
 obtain ⟨u16,e_u16⟩:∃ u,ρ 4=u:=⟨_,Z⟩
 have h3:=s.ov y 4 3 e_u16
 replace f_v0:=f_v0.stp s.stp
 obtain ⟨B,j,d⟩:=s.s B C j q ⟨Z,N⟩
 replace q:=s.left y [(4,ob u16 (.vec w0.heap.size 5 (eInt .u8) (y6++([32]:List Int))))] ⟨Z,Z,e_u16,Z,Z,N⟩
 obtain ⟨e17,e18,c⟩:=ck2 c
 refine HT.x [ob u16 (.vec w0.heap.size 5 (eInt .u8) (y6++([32]:List Int)))] (rR u16::rR v0::rI y5::rU (bAt p0 y5)::(rF fun A=>.rep (eSl (eInt .u8)) A ([(bAt p0 y5)]:List Int))::⟨_,true,[0],some (.vec w0.heap.size 5 (eInt .u8) ((y6++([32]:List Int))++([(bAt p0 y5)]:List Int))),true,fun A=>.any⟩::⟨_,true,[6],some (.vec w0.heap.size 5 (eInt .u8) ((y6++([32]:List Int))++([(bAt p0 y5)]:List Int))),true,fun A=>.any⟩::[]) (ur (ur (ur (ur (up (ua (ua (UAll.nil)))))))) q d ?_ ?_
 exact rm h3<|rm h0<|rm h4<|rp (fun V Q U O D=>zA8 ((f_v0.stp O.stp).eq (D.g 0 Z)) (D.g 1 Z) underlying9 e17)<|rp (fun V Q U O D=>zBZ [_] (E:=eInt .u8) ⟨(zAe.eq (D.g 0 Z)),N⟩ underlying22 sizeOf5 zeroValue5 Z Z Z O.av)<|rc (OblR.took 0 _ _ Z Z Z Z Z fun V Q U O D u hok hav hin hop hds=>by have a0:Q 29=u16:=D.g 0 Z;have a1:Rep (eSl (eInt .u8)) V U (Q 33) ([(bAt p0 y5)]:List Int):=D.g 1 Z;exact zAw (a0.trans (hin _ Z).symm) hok hav (Nat.le_trans j.size O.ch.size) a1 underlying22 el_5 e18)<|rc (OblR.took 6 _ _ Z Z Z Z Z fun V Q U O D u hok hav hin hop hds=>by exact zAH (hop _ _ Z Z Z Z).symm hok hav)<|rz
 intro done ρ σ A R w y s
 obtain ⟨h0,h4⟩:=k2 s.rg h0 h4
 obtain ⟨u19,e_u19⟩:∃ u,ρ 7=u:=⟨_,Z⟩
 have h3:=s.ov y 7 6 e_u19
 replace f_v0:=f_v0.stp s.stp
 obtain ⟨B,j,d⟩:=s.s B C j q ⟨Z,N⟩
 replace q:=s.left y [(7,ob u19 (.vec w0.heap.size 5 (eInt .u8) ((y6++([32]:List Int))++([(bAt p0 y5)]:List Int))))] ⟨Z,Z,e_u19,Z,Z,N⟩
 obtain ⟨e20,c⟩:=zA4 c
 refine HT.u d j (eI y5::eI (y5+1)::eI (y5+1)::[]) ?_ ?_
 exact om h4<|op (fun Q U W H D=>zAN (D.g 0 Z) Z e20)<|oa<|oz
 intro R w m n p d j
 obtain ⟨h0,h3⟩:=k2 n h0 h3
 have h4:=p.r 2 Z
 replace f_v0:=f_v0.fr m
 replace q:=q.fr m
 exact ei k (And.intro (Nat.lt_succ_self k) ⟨_,_,_,u19,c,d,j,B,q,h0,h3,h4,f_v0⟩)
 have c:=zAL c14 c
 refine HT.skip ?_
 obtain ⟨e21,e22,c⟩:=ck2 c
 refine HT.x [ob ul_u1 (.vec w0.heap.size 5 (eInt .u8) y6)] (rR ul_u1::rR v0::rI y5::rU (bAt p0 y5)::(rF fun A=>.rep (eSl (eInt .u8)) A ([(bAt p0 y5)]:List Int))::⟨_,true,[0],some (.vec w0.heap.size 5 (eInt .u8) (y6++([(bAt p0 y5)]:List Int))),true,fun A=>.any⟩::⟨_,true,[6],some (.vec w0.heap.size 5 (eInt .u8) (y6++([(bAt p0 y5)]:List Int))),true,fun A=>.any⟩::[]) (ur (ur (ur (ur (up (ua (ua (UAll.nil)))))))) q d ?_ ?_
 exact rm h3<|rm h0<|rm h4<|rp (fun V Q U O D=>zA8 ((f_v0.stp O.stp).eq (D.g 0 Z)) (D.g 1 Z) underlying9 e21)<|rp (fun V Q U O D=>zBZ [_] (E:=eInt .u8) ⟨(zAe.eq (D.g 0 Z)),N⟩ underlying22 sizeOf5 zeroValue5 Z Z Z O.av)<|rc (OblR.took 0 _ _ Z Z Z Z Z fun V Q U O D u hok hav hin hop hds=>by have a0:Q 29=ul_u1:=D.g 0 Z;have a1:Rep (eSl (eInt .u8)) V U (Q 33) ([(bAt p0 y5)]:List Int):=D.g 1 Z;exact zAw (a0.trans (hin _ Z).symm) hok hav (Nat.le_trans j.size O.ch.size) a1 underlying22 el_5 e22)<|rc (OblR.took 6 _ _ Z Z Z Z Z fun V Q U O D u hok hav hin hop hds=>by exact zAH (hop _ _ Z Z Z Z).symm hok hav)<|rz
 intro done ρ σ A R w y s
 obtain ⟨h0,h4⟩:=k2 s.rg h0 h4
 obtain ⟨u23,e_u23⟩:∃ u,ρ 7=u:=⟨_,Z⟩
 have h3:=s.ov y 7 6 e_u23
 replace f_v0:=f_v0.stp s.stp
 obtain ⟨B,j,d⟩:=s.s B C j q ⟨Z,N⟩
 replace q:=s.left y [(7,ob u23 (.vec w0.heap.size 5 (eInt .u8) (y6++([(bAt p0 y5)]:List Int))))] ⟨Z,Z,e_u23,Z,Z,N⟩
 obtain ⟨e24,c⟩:=zA4 c
 refine HT.u d j (eI y5::eI (y5+1)::eI (y5+1)::[]) ?_ ?_
 exact om h4<|op (fun Q U W H D=>zAN (D.g 0 Z) Z e24)<|oa<|oz
 intro R w m n p d j
 obtain ⟨h0,h3⟩:=k2 n h0 h3
 have h4:=p.r 2 Z
 replace f_v0:=f_v0.fr m
 replace q:=q.fr m
 exact ei k (And.intro (Nat.lt_succ_self k) ⟨_,_,_,u23,c,d,j,B,q,h0,h3,h4,f_v0⟩)
 have c:=zAL c9 c
 refine HT.skip ?_
 obtain ⟨e25,c⟩:=zA4 c
 refine HT.u d j (eI y5::eI (y5+1)::eI (y5+1)::[]) ?_ ?_
 exact om h4<|op (fun Q U W H D=>zAN (D.g 0 Z) Z e25)<|oa<|oz
 intro R w m n p d j
 obtain ⟨h0,h3⟩:=k2 n h0 h3
 have h4:=p.r 2 Z
 replace f_v0:=f_v0.fr m
 replace q:=q.fr m
 exact ei k (And.intro (Nat.lt_succ_self k) ⟨_,_,_,ul_u1,c,d,j,B,q,h0,h3,h4,f_v0⟩)
 have c:=zAL c7 c
 refine HT.exit ?_
 obtain rfl:=si c
 exact ei _ ⟨_,ul_u1,Z,d,j,B,q,h3⟩
 rintro R w ⟨A,s4,uo_u1,es,d,j,B,q,h3⟩
 obtain rfl:=es.symm
 refine HT.su d j (eR uo_u1::eF (.rep eStr A (strB s4))::eF (.rep eStr A (strB s4))::[]) ?_ ?_
 exact om h3<|op (fun Q U W H D=>zBF ((zCD ((q.fr W).ok 0 _ Z).1 B C).eq (D.g 0 Z)) underlying22 underlying5 underlying9)<|op (fun Q U W H D=>zA0 (D.g 0 Z))<|oz
 intro R w m n p d j
 obtain ⟨u26,h2,f_u26⟩:∃ u,R 2=u∧Rep eStr A w u (strB s4):=⟨_,Z,p 2 _ _ Z Z Z⟩
 replace q:=q.fr m
 replace q:IniOK [] A w:=q.sub [] N
 refine HT.ret ?_
 obtain rfl:=si c
 exact ⟨.inr Z,[R 2],⟨Z,N⟩,(f_u26.eq h2).down B,j⟩
def zC4 (fu:Nat) (p0:List UInt8):Option (List UInt8):=
 cl true (zBX fu p0) fun x1=>
 cl true (zCk fu x1) fun x3=>
 cl true (zBt fu x3) fun x5=>
 some x5
theorem zDq {fu : Nat} {A : Av} {p0 : List UInt8} {r : List UInt8} (c : zC4 fu p0 = some r) {w : World} {v0 : Value} (d : AvOK A w) (h0 : Rep eStr A w v0 p0) :
 Calls prog 60 #[v0] w fun e w'=>∃ v,e = .returned v∧(Rep eStr A w' v r∧Fr w w'):=by
 unfold zC4 at c
 obtain ⟨w0,hw0⟩:∃ w0,w0=w:=⟨_,Z⟩
 have j:Fr w0 w:=hw0 ▸ Fr.refl _
 rw [show Fr w=Fr w0 from hw0 ▸ Z]
 clear hw0
 refine zA2 [.tmp 2] func60 ntmps60 (by decide) Z Z (nb Z) ?_
 intro R hR
 have f_v0:=h0
 replace h0:R 0=v0:=hR 0 _ Z
 clear hR
 refine HT.su d j (eF (.rep eStr A ([]:List UInt8))::[]) ?_ ?_
 exact op (fun Q U W H D=>zA0 ⟨_,Z,⟨_,Z,Z,by decide⟩⟩)<|oz
 intro R w m n p d j
 replace h0:=k1 n h0
 replace f_v0:=f_v0.fr m
 obtain ⟨x1,q2,c⟩:=zA3 c
 obtain ⟨x3,q4,c⟩:=zA3 c
 obtain ⟨x5,q6,c⟩:=zA3 c
 refine HT.su d j (eR v0::eF (.rep eStr A x1)::eF (.rep eStr A x3)::eF (.rep eStr A x5)::eF (.rep eStr A x5)::[]) ?_ ?_
 exact om h0<|op (fun Q U W H D=>zA6 call133 (zDI (q2 Z) (d.fr W.size) ((f_v0.fr W).eq (D.g 0 Z))))<|op (fun Q U W H D=>zA6 call132 (zGM (q4 Z) (d.fr W.size) (D.g 0 Z)))<|op (fun Q U W H D=>zA6 call131 (zFM (q6 Z) (d.fr W.size) (D.g 0 Z)))<|op (fun Q U W H D=>zA0 (D.g 0 Z))<|oz
 intro R w m n p d j
 obtain ⟨u7,h2,f_u7⟩:∃ u,R 2=u∧Rep eStr A w u x5:=⟨_,Z,p 4 _ _ Z Z Z⟩
 refine HT.ret ?_
 obtain rfl:=si c
 exact ⟨.inr Z,[R 2],⟨Z,N⟩,(f_u7.eq h2),j⟩
def zBx (fu : Nat) (p0 : List UInt8) (p1 : Int) : Nat → Int → Int → (List (List UInt8)) → Option (Int × (List (List UInt8)))
 | 0,_,_,_=>none
 | k+1,y5,y6,y7=>
 bif (decide (y6<(p0.length:Int))) then (
 ck (inR y6 p0.length) <|
 bif ((bAt p0 y6)==p1) then (
 ck (subR y5 y6 p0.length) <|
 ck (zCV (y7.length+([(subL p0 y5 y6)]:List (List UInt8)).length)) <|
 ck (i64B (y6+1)) <|
 ck (i64B (y6+1)) <|
 zBx fu p0 p1 k (y6+1) (y6+1) (y7++([(subL p0 y5 y6)]:List (List UInt8)))
 ) else (
 ck (i64B (y6+1)) <|
 zBx fu p0 p1 k y5 (y6+1) y7
 )
 ) else (
 some (y5,y7)
 )
def zDR (fu:Nat) (p0:List UInt8) (p1:Int):Option (List (List UInt8)):=
 cl true (zBx fu p0 p1 fu 0 0 ([]:List (List UInt8))) fun s4=>
 ck (subR s4.1 (p0.length:Int) p0.length) <|
 ck (zCV (s4.2.length+([(subL p0 s4.1 (p0.length:Int))]:List (List UInt8)).length)) <|
 some (s4.2++([(subL p0 s4.1 (p0.length:Int))]:List (List UInt8)))
theorem zI0 {fu : Nat} {A0 : Av} {p0 : List UInt8} {p1 : Int} {r : List (List UInt8)} (c : zDR fu p0 p1 = some r) {w : World} {v0 : Value} {v1 : Value} (d : AvOK A0 w) (h0 : Rep eStr A0 w v0 p0) (h1 : v1 = .int .u8 p1) :
 Calls prog 160 #[v0,v1] w fun e w'=>∃ v,e = .returned v∧((Res.vec w.heap.size 9 eStr r).ok (addA A0 v) v w'∧Fr w w'):=by
 unfold zDR at c
 obtain ⟨w0,hw0⟩:∃ w0,w0=w:=⟨_,Z⟩
 have j:Fr w0 w:=hw0 ▸ Fr.refl _
 have C:∀ b o,A0 b o→b<w0.heap.size:=fun b o h=>hw0 ▸ d b o h
 have hA00:AvOK A0 w0:=C
 rw [show w.heap.size=w0.heap.size from hw0 ▸ Z]
 rw [show Fr w=Fr w0 from hw0 ▸ Z]
 clear hw0
 obtain ⟨A,hAe⟩:∃ A,A=A0:=⟨_,Z⟩
 have B:∀ b o,A0 b o→A b o:=fun b o h=>hAe ▸ h
 replace d:AvOK A w:=hAe ▸ d
 have q:IniOK [] A w:=IniOK.nil
 refine zA2 [.tmp 4] func160 ntmps160 (by decide) Z Z (nb Z) ?_
 intro R hR
 have f_v0:Rep eStr A w v0 p0:=hAe ▸ h0
 replace h0:R 0=v0:=hR 0 _ Z
 replace h1:R 1 = .int .u8 p1:=(hR 1 _ Z).trans h1
 clear hR hAe
 refine HT.su d j (eA::[]) ?_ ?_
 exact op (fun Q U W H D=>zA0 N)<|oz
 intro R w m n p d j
 obtain ⟨h0,h1⟩:=k2 n h0 h1
 replace f_v0:=f_v0.fr m
 replace q:=q.fr m
 refine HT.sx [] (⟨_,true,[],some (.vec w0.heap.size 9 eStr ([]:List (List UInt8))),true,fun A=>.any⟩::⟨_,true,[0],some (.vec w0.heap.size 9 eStr ([]:List (List UInt8))),true,fun A=>.any⟩::[]) (ua (ua (UAll.nil))) q d ?_ ?_
 exact rc (OblR.made _ Z Z Z Z fun V Q U O D=>by exact zBb [] (E:=eStr) N underlying46 sizeOf9 zeroValue9 Z Z Z (Nat.le_trans j.size O.ch.size))<|rc (OblR.took 0 _ _ Z Z Z Z Z fun V Q U O D u hok hav hin hop hds=>by exact zAH (hop _ _ Z Z Z Z).symm hok hav)<|rz
 intro done ρ σ A R w y s
 obtain ⟨h0,h1⟩:=k2 s.rg h0 h1
 obtain ⟨u1,e_u1⟩:∃ u,ρ 1=u:=⟨_,Z⟩
 have h5:=s.ov y 1 1 e_u1
 replace f_v0:=f_v0.stp s.stp
 obtain ⟨B,j,d⟩:=s.s B C j q N
 replace q:=s.left y [(1,ob u1 (.vec w0.heap.size 9 eStr ([]:List (List UInt8))))] ⟨Z,Z,e_u1,Z,Z,N⟩
 refine HT.su d j (eI 0::[]) ?_ ?_
 exact op (fun Q U W H D=>zA0 Z)<|oz
 intro R w m n p d j
 obtain ⟨h0,h1,h5⟩:=k3 n h0 h1 h5
 have h6:=p.r 0 Z
 replace f_v0:=f_v0.fr m
 replace q:=q.fr m
 refine HT.seq ?_
 refine HT.su d j (eI 0::[]) ?_ ?_
 exact op (fun Q U W H D=>zA0 Z)<|oz
 intro R w m n p d j
 obtain ⟨h0,h1,h5,h6⟩:=k4 n h0 h1 h5 h6
 have h7:=p.r 0 Z
 replace f_v0:=f_v0.fr m
 replace q:=q.fr m
 obtain ⟨rl2,q3,c⟩:=zA3 c
 replace q3:=q3 Z
 refine HT.cut0 (fun R w=>∃ A:Av,∃ (s4:Int × (List (List UInt8))) (uo_u1:Value),rl2=s4∧AvOK A w∧Fr w0 w∧(∀ b o,A0 b o→A b o)∧IniOK [ob uo_u1 (.vec w0.heap.size 9 eStr s4.2)] A w∧R 0=v0∧R 5=uo_u1∧R 6 = .int .i64 s4.1∧Rep eStr A w v0 p0) ?_ ?_
 refine HT.block ?_
 refine HT.loop (fun k R w=>∃ A:Av,∃ (y5:Int) (y6:Int) (y7:List (List UInt8)) (ul_u1:Value),zBx fu p0 p1 k y5 y6 y7=some rl2∧AvOK A w∧Fr w0 w∧(∀ b o,A0 b o→A b o)∧IniOK [ob ul_u1 (.vec w0.heap.size 9 eStr y7)] A w∧R 0=v0∧R 1 = .int .u8 p1∧R 5=ul_u1∧R 6 = .int .i64 y5∧R 7 = .int .i64 y6∧Rep eStr A w v0 p0) fu ⟨_,_,_,_,u1,q3,d,j,B,q,h0,h1,h5,h6,h7,f_v0⟩ ?_
 have hr0:=c;clear c q3
 rintro k R w ⟨A,y5,y6,y7,ul_u1,c,d,j,B,q,h0,h1,h5,h6,h7,f_v0⟩
 rcases k with _ | k
 cases (show none=some _ from c)
 rw [zBx] at c
 refine HT.seq ?_
 refine HT.su d j (eI y6::eR v0::eI (p0.length:Int)::eB (decide (y6<(p0.length:Int)))::[]) ?_ ?_
 exact om h7<|om h0<|op (fun Q U W H D=>zAG ((f_v0.fr W).eq (D.g 0 Z)) underlying9)<|op (fun Q U W H D=>zAf (D.g 0 Z) (D.g 1 Z))<|oz
 intro R w m n p d j
 obtain ⟨h0,h1,h5,h6,h7⟩:=k5 n h0 h1 h5 h6 h7
 have h12:=p.r 3 Z
 replace f_v0:=f_v0.fr m
 replace q:=q.fr m
 refine HT.cond (decide (y6<(p0.length:Int))) h12 (fun c8=>?_) (fun c8=>?_)
 have c:=zAK c8 c
 refine HT.skip ?_
 refine HT.seq ?_
 refine HT.block ?_
 obtain ⟨e9,c⟩:=zA4 c
 refine HT.su d j (eR v0::eI y6::eU (bAt p0 y6)::eU p1::eB ((bAt p0 y6)==p1)::[]) ?_ ?_
 exact om h0<|om h7<|op (fun Q U W H D=>zA8 ((f_v0.fr W).eq (D.g 0 Z)) (D.g 1 Z) underlying9 e9)<|om h1<|op (fun Q U W H D=>zBA (D.g 0 Z) (D.g 1 Z))<|oz
 intro R w m n p d j
 obtain ⟨h0,h1,h5,h6,h7⟩:=k5 n h0 h1 h5 h6 h7
 have h19:=p.r 4 Z
 replace f_v0:=f_v0.fr m
 replace q:=q.fr m
 refine HT.cond ((bAt p0 y6)==p1) h19 (fun c10=>?_) (fun c10=>?_)
 have c:=zAK c10 c
 obtain ⟨e11,e12,c⟩:=ck2 c
 refine HT.sx [ob ul_u1 (.vec w0.heap.size 9 eStr y7)] (rR ul_u1::rR v0::rI y5::rI y6::(rF fun A=>.rep eStr A (subL p0 y5 y6))::(rF fun A=>.rep (eSl eStr) A ([(subL p0 y5 y6)]:List (List UInt8)))::⟨_,true,[0],some (.vec w0.heap.size 9 eStr (y7++([(subL p0 y5 y6)]:List (List UInt8)))),true,fun A=>.any⟩::⟨_,true,[7],some (.vec w0.heap.size 9 eStr (y7++([(subL p0 y5 y6)]:List (List UInt8)))),true,fun A=>.any⟩::[]) (ur (ur (ur (ur (up (up (ua (ua (UAll.nil))))))))) q d ?_ ?_
 exact rm h5<|rm h0<|rm h6<|rm h7<|rp (fun V Q U O D=>zJe ((f_v0.stp O.stp).eq (D.g 0 Z)) (D.g 1 Z) (D.g 2 Z) underlying9  e11)<|rp (fun V Q U O D=>zBZ [_] (E:=eStr) ⟨(D.g 0 Z),N⟩ underlying46 sizeOf9 zeroValue9 Z Z Z O.av)<|rc (OblR.took 0 _ _ Z Z Z Z Z fun V Q U O D u hok hav hin hop hds=>by have a0:Q 20=ul_u1:=D.g 0 Z;have a1:Rep (eSl eStr) V U (Q 25) ([(subL p0 y5 y6)]:List (List UInt8)):=D.g 1 Z;exact zAw (a0.trans (hin _ Z).symm) hok hav (Nat.le_trans j.size O.ch.size) a1 underlying46 el_9 e12)<|rc (OblR.took 7 _ _ Z Z Z Z Z fun V Q U O D u hok hav hin hop hds=>by exact zAH (hop _ _ Z Z Z Z).symm hok hav)<|rz
 intro done ρ σ A R w y s
 obtain ⟨h0,h1,h7⟩:=k3 s.rg h0 h1 h7
 obtain ⟨u13,e_u13⟩:∃ u,ρ 8=u:=⟨_,Z⟩
 have h5:=s.ov y 8 7 e_u13
 replace f_v0:=f_v0.stp s.stp
 obtain ⟨B,j,d⟩:=s.s B C j q ⟨Z,N⟩
 replace q:=s.left y [(8,ob u13 (.vec w0.heap.size 9 eStr (y7++([(subL p0 y5 y6)]:List (List UInt8)))))] ⟨Z,Z,e_u13,Z,Z,N⟩
 obtain ⟨e14,c⟩:=zA4 c
 refine HT.u d j (eI y6::eI (y6+1)::eI (y6+1)::[]) ?_ ?_
 exact om h7<|op (fun Q U W H D=>zAN (D.g 0 Z) Z e14)<|oa<|oz
 intro R w m n p d j
 obtain ⟨h0,h1,h5,h7⟩:=k4 n h0 h1 h5 h7
 have h6:=p.r 2 Z
 replace f_v0:=f_v0.fr m
 replace q:=q.fr m
 obtain ⟨e15,c⟩:=zA4 c
 refine HT.u d j (eI y6::eI (y6+1)::eI (y6+1)::[]) ?_ ?_
 exact om h7<|op (fun Q U W H D=>zAN (D.g 0 Z) Z e15)<|oa<|oz
 intro R w m n p d j
 obtain ⟨h0,h1,h5,h6⟩:=k4 n h0 h1 h5 h6
 have h7:=p.r 2 Z
 replace f_v0:=f_v0.fr m
 replace q:=q.fr m
 exact ei k (And.intro (Nat.lt_succ_self k) ⟨_,_,_,_,u13,c,d,j,B,q,h0,h1,h5,h6,h7,f_v0⟩)
 have c:=zAL c10 c
 refine HT.skip ?_
 obtain ⟨e16,c⟩:=zA4 c
 refine HT.u d j (eI y6::eI (y6+1)::eI (y6+1)::[]) ?_ ?_
 exact om h7<|op (fun Q U W H D=>zAN (D.g 0 Z) Z e16)<|oa<|oz
 intro R w m n p d j
 obtain ⟨h0,h1,h5,h6⟩:=k4 n h0 h1 h5 h6
 have h7:=p.r 2 Z
 replace f_v0:=f_v0.fr m
 replace q:=q.fr m
 exact ei k (And.intro (Nat.lt_succ_self k) ⟨_,_,_,_,ul_u1,c,d,j,B,q,h0,h1,h5,h6,h7,f_v0⟩)
 have c:=zAL c8 c
 refine HT.exit ?_
 obtain rfl:=si c
 exact ei _ ⟨_,ul_u1,Z,d,j,B,q,h0,h5,h6,f_v0⟩
 rintro R w ⟨A,s4,uo_u1,es,d,j,B,q,h0,h5,h6,f_v0⟩
 obtain rfl:=es.symm
 obtain ⟨e17,e18,c⟩:=ck2 c
 refine HT.sx [ob uo_u1 (.vec w0.heap.size 9 eStr s4.2)] (rR uo_u1::rR v0::rI s4.1::(rF fun A=>.rep eStr A (subL p0 s4.1 (p0.length:Int)))::(rF fun A=>.rep (eSl eStr) A ([(subL p0 s4.1 (p0.length:Int))]:List (List UInt8)))::⟨_,true,[0],some (.vec w0.heap.size 9 eStr (s4.2++([(subL p0 s4.1 (p0.length:Int))]:List (List UInt8)))),true,fun A=>.any⟩::⟨_,true,[6],some (.vec w0.heap.size 9 eStr (s4.2++([(subL p0 s4.1 (p0.length:Int))]:List (List UInt8)))),true,fun A=>.any⟩::[]) (ur (ur (ur (up (up (ua (ua (UAll.nil)))))))) q d ?_ ?_
 exact rm h5<|rm h0<|rm h6<|rp (fun V Q U O D=>zG4 ((f_v0.stp O.stp).eq (D.g 0 Z)) (D.g 1 Z) underlying9  e17)<|rp (fun V Q U O D=>zBZ [_] (E:=eStr) ⟨(D.g 0 Z),N⟩ underlying46 sizeOf9 zeroValue9 Z Z Z O.av)<|rc (OblR.took 0 _ _ Z Z Z Z Z fun V Q U O D u hok hav hin hop hds=>by have a0:Q 29=uo_u1:=D.g 0 Z;have a1:Rep (eSl eStr) V U (Q 33) ([(subL p0 s4.1 (p0.length:Int))]:List (List UInt8)):=D.g 1 Z;exact zAw (a0.trans (hin _ Z).symm) hok hav (Nat.le_trans j.size O.ch.size) a1 underlying46 el_9 e18)<|rc (OblR.took 6 _ _ Z Z Z Z Z fun V Q U O D u hok hav hin hop hds=>by exact zAH (hop _ _ Z Z Z Z).symm hok hav)<|rz
 intro done ρ σ A R w y s
 obtain ⟨u19,e_u19⟩:∃ u,ρ 7=u:=⟨_,Z⟩
 have h4:=s.ov y 7 6 e_u19
 obtain ⟨B,j,d⟩:=s.s B C j q ⟨Z,N⟩
 replace q:=s.left y [(7,ob u19 (.vec w0.heap.size 9 eStr (s4.2++([(subL p0 s4.1 (p0.length:Int))]:List (List UInt8)))))] ⟨Z,Z,e_u19,Z,Z,N⟩
 refine HT.ret ?_
 obtain rfl:=si c
 exact ⟨.inr Z,[R 4],⟨Z,N⟩,(zCT (q.ok 0 _ Z) B h4),j⟩
theorem zHe {fu : Nat} {A0 : Av} {p0 : List UInt8} {p1 : Int} {r : List (List UInt8)} (c : zDR fu p0 p1 = some r) {w : World} {v0 : Value} {v1 : Value} (d : AvOK A0 w) (h0 : Rep eStr A0 w v0 p0) (h1 : v1 = .int .u8 p1) :
 Calls prog 160 #[v0,v1] w fun e w'=>∃ v,e = .returned v∧(Rep (eSl eStr) A0 w' v r∧Fr w w'):=by
 refine Calls.mono (zI0 c d h0 h1) ?_
 rintro e w' ⟨v,he,hv,hf⟩
 exact ⟨v,he,zCD hv (fun b o h=>.inl h) d,hf⟩
def zCN (fu : Nat) (p0 : List (List UInt8)) (p1 : List UInt8) : Nat → Int → Option Int
 | 0,_=>none
 | k+1,y4=>
 ck (!(true&&((decide (y4<(p0.length:Int)))==true)) || inR y4 p0.length) <|
 bd ((decide (y4<(p0.length:Int)))&&(bLt (gtD p0 y4) p1)) fun x6=>
 bif x6 then (
 ck (i64B (y4+1)) <|
 zCN fu p0 p1 k (y4+1)
 ) else (
 some y4
 )
def zCc (fu:Nat) (p0:List (List UInt8)) (p1:List UInt8) (p2:Bool):Option (List (List UInt8)):=
 cl true (zCN fu p0 p1 fu 0) fun s3=>
 bd ((!p2)&&(decide (s3<(p0.length:Int)))) fun x10=>
 ck (!(true&&(x10==true)) || inR s3 p0.length) <|
 bd (x10&&((gtD p0 s3)==p1)) fun x13=>
 bif x13 then (
 some p0
 ) else (
 ck (subR 0 s3 p0.length) <|
 bd (s3.toNat-(0:Int).toNat) fun x17=>
 ck (zCV (([]:List (List UInt8)).length+(subL p0 0 s3).length)) <|
 ck (zCV ((([]:List (List UInt8))++(subL p0 0 s3)).length+([p1]:List (List UInt8)).length)) <|
 ck (subR s3 (p0.length:Int) p0.length) <|
 bd ((p0.length:Int).toNat-s3.toNat) fun x22=>
 ck (zCV (((([]:List (List UInt8))++(subL p0 0 s3))++([p1]:List (List UInt8))).length+(subL p0 s3 (p0.length:Int)).length)) <|
 some (((([]:List (List UInt8))++(subL p0 0 s3))++([p1]:List (List UInt8)))++(subL p0 s3 (p0.length:Int)))
 )
theorem zDN {fu : Nat} {A0 : Av} {p0 : List (List UInt8)} {p1 : List UInt8} {p2 : Bool} {r : List (List UInt8)} (c : zCc fu p0 p1 p2 = some r) {w : World} {v0 : Value} {v1 : Value} {v2 : Value} {B0 : Nat} (d : AvOK A0 w) (K : ∀ b o, A0 b o → ¬ zAW v0 b) (hB0 : B0 ≤ w.heap.size) (h0 : (Res.vec B0 9 eStr p0).ok A0 v0 w) (h1 : Rep eStr A0 w v1 p1) (h2 : v2 = .bool p2) :
 Calls prog 109 #[v0,v1,v2] w fun e w'=>∃ v,e = .returned v∧Took (addA A0 v0) true v0 (.vec B0 9 eStr r) (fun _=>.any) w v w':=by
 unfold zCc at c
 obtain ⟨w0,hw0⟩:∃ w0,w0=w:=⟨_,Z⟩
 have j:Ch (zAW v0) w0 w:=hw0 ▸ Ch.refl _ _
 replace hB0:B0≤w0.heap.size:=hw0 ▸ hB0
 have C:∀ b o,A0 b o→b<w0.heap.size:=fun b o h=>hw0 ▸ d b o h
 have hA00:AvOK A0 w0:=C
 rw [show Took (addA A0 v0) true v0 (.vec B0 9 eStr r) (fun _=>.any) w=Took (addA A0 v0) true v0 (.vec B0 9 eStr r) (fun _=>.any) w0 from hw0 ▸ Z]
 clear hw0
 obtain ⟨A,hAe⟩:∃ A,A=addA A0 v0:=⟨_,Z⟩
 have B:∀ b o,A0 b o→A b o:=fun b o h=>hAe ▸ .inl h
 replace d:AvOK A w:=hAe ▸ d.one h0
 have q:IniOK [ob v0 (.vec B0 9 eStr p0)] A w:=hAe ▸ IniOK.one h0 (fun _ _ _ _ _ h=>h)
 refine zA2 [.tmp 6] func109 ntmps109 (by decide) Z Z (nb Z) ?_
 intro R hR
 replace h0:R 0=v0:=hR 0 _ Z
 have f_v1:Rep eStr A w v1 p1:=h1
 replace h1:R 1=v1:=hR 1 _ Z
 replace h2:R 2 = .bool p2:=(hR 2 _ Z).trans h2
 clear hR hAe
 refine HT.seq ?_
 refine HT.t (eA::[]) ?_ ?_
 exact op (fun Q U W H D=>zA0 N)<|oz
 intro R w m n p
 obtain ⟨h0,h1,h2⟩:=k3 n h0 h1 h2
 replace f_v1:=f_v1.fr m
 replace q:=q.fr m
 replace d:=d.fr m.size
 replace j:=j.tr (m.ch noB) fun _ h=>False.elim h
 refine HT.seq ?_
 refine HT.t (eI 0::[]) ?_ ?_
 exact op (fun Q U W H D=>zA0 Z)<|oz
 intro R w m n p
 obtain ⟨h0,h1,h2⟩:=k3 n h0 h1 h2
 have h7:=p.r 0 Z
 replace f_v1:=f_v1.fr m
 replace q:=q.fr m
 replace d:=d.fr m.size
 replace j:=j.tr (m.ch noB) fun _ h=>False.elim h
 obtain ⟨rl1,q2,c⟩:=zA3 c
 replace q2:=q2 Z
 refine HT.cut (fun R w=>∃ A:Av,∃ (s3:Int),rl1=s3∧AvOK A w∧Ch (zAW v0) w0 w∧(∀ b o,A0 b o→A b o)∧IniOK [ob v0 (.vec B0 9 eStr p0)] A w∧R 0=v0∧R 1=v1∧R 2 = .bool p2∧R 7 = .int .i64 s3∧Rep eStr A w v1 p1) ?_ ?_
 refine HT.block ?_
 refine HT.loop (fun k R w=>∃ A:Av,∃ (y4:Int),zCN fu p0 p1 k y4=some rl1∧AvOK A w∧Ch (zAW v0) w0 w∧(∀ b o,A0 b o→A b o)∧IniOK [ob v0 (.vec B0 9 eStr p0)] A w∧R 0=v0∧R 1=v1∧R 2 = .bool p2∧R 7 = .int .i64 y4∧Rep eStr A w v1 p1) fu ⟨_,_,q2,d,j,B,q,h0,h1,h2,h7,f_v1⟩ ?_
 have hr0:=c;clear c q2
 rintro k R w ⟨A,y4,c,d,j,B,q,h0,h1,h2,h7,f_v1⟩
 rcases k with _ | k
 cases (show none=some _ from c)
 rw [zCN] at c
 refine HT.seq ?_
 refine HT.seq ?_
 obtain ⟨e5,c⟩:=zA4 c
 obtain ⟨x6,q7,c⟩:=zAB c
 refine HT.t (eI y4::eR v0::eI (p0.length:Int)::eB (decide (y4<(p0.length:Int)))::eB (decide (y4<(p0.length:Int)))::gR (true&&((decide (y4<(p0.length:Int)))==true)) v0::gI (true&&((decide (y4<(p0.length:Int)))==true)) y4::gR (true&&((decide (y4<(p0.length:Int)))==true)) (vptr v0 (y4.toNat*1))::gF (true&&((decide (y4<(p0.length:Int)))==true)) (.rep eStr A (gtD p0 y4))::gR (true&&((decide (y4<(p0.length:Int)))==true)) v1::gB (true&&((decide (y4<(p0.length:Int)))==true)) (bLt (gtD p0 y4) p1)::eB x6::[]) ?_ ?_
 exact om h7<|om h0<|op (fun Q U W H D=>zCG (q.ok 0 _ Z).1 (D.g 0 Z) underlying46)<|op (fun Q U W H D=>zAf (D.g 0 Z) (D.g 1 Z))<|ov<|gm 4 true h0<|gm 4 true h7<|og 4 true (fun G Q U W H D=>zAF (q.ok 0 _ Z).1 (D.h 0 G Z) (D.h 1 G Z) underlying46 sizeOf9 (gd e5 G) Z)<|og 4 true (fun G Q U W H D=>(zAs ((q.fr W).ok 0 _ Z).1 (D.h 0 G Z) (gd e5 G) Z (Fld.id _) Z isAgg9 sizeOf9))<|gm 4 true h1<|og 4 true (fun G Q U W H D=>zKA (D.h 0 G Z) ((f_v1.fr W).eq (D.h 1 G Z)))<|op (fun Q U W H D=>zAC (decide (y4<(p0.length:Int))) (D.g 0 Z) (fun hc=>by have a1:Q 18 = .bool (bLt (gtD p0 y4) p1):=D 1 _ _ _ Z Z Z Z (zAZ Z (zAM hc));show _=Value.bool x6;rw [q7,hc];exact a1) (fun hc=>by show _=Value.bool x6;rw [q7,hc];exact Z))<|oz
 intro R w m n p
 obtain ⟨h0,h1,h2,h7⟩:=k4 n h0 h1 h2 h7
 have h19:=p.r 11 Z
 replace f_v1:=f_v1.fr m
 replace q:=q.fr m
 replace d:=d.fr m.size
 replace j:=j.tr (m.ch noB) fun _ h=>False.elim h
 refine HT.cond x6 h19 (fun c8=>?_) (fun c8=>?_)
 have c:=zAK c8 c
 refine HT.skip ?_
 refine HT.block ?_
 obtain ⟨e9,c⟩:=zA4 c
 refine HT.t (eI y4::eI (y4+1)::eI (y4+1)::[]) ?_ ?_
 exact om h7<|op (fun Q U W H D=>zAN (D.g 0 Z) Z e9)<|oa<|oz
 intro R w m n p
 obtain ⟨h0,h1,h2⟩:=k3 n h0 h1 h2
 have h7:=p.r 2 Z
 replace f_v1:=f_v1.fr m
 replace q:=q.fr m
 replace d:=d.fr m.size
 replace j:=j.tr (m.ch noB) fun _ h=>False.elim h
 exact ei k (And.intro (Nat.lt_succ_self k) ⟨_,_,c,d,j,B,q,h0,h1,h2,h7,f_v1⟩)
 have c:=zAL c8 c
 refine HT.exit ?_
 obtain rfl:=si c
 exact ei _ ⟨_,Z,d,j,B,q,h0,h1,h2,h7,f_v1⟩
 rintro R w ⟨A,s3,es,d,j,B,q,h0,h1,h2,h7,f_v1⟩
 obtain rfl:=es.symm
 refine HT.seq ?_
 refine HT.seq ?_
 obtain ⟨x10,q11,c⟩:=zAB c
 obtain ⟨e12,c⟩:=zA4 c
 obtain ⟨x13,q14,c⟩:=zAB c
 refine HT.t (eB p2::eB (!p2)::eB (!p2)::gI (true&&((!p2)==true)) s3::gR (true&&((!p2)==true)) v0::gI (true&&((!p2)==true)) (p0.length:Int)::gB (true&&((!p2)==true)) (decide (s3<(p0.length:Int)))::eB x10::eB x10::gR (true&&(x10==true)) v0::gI (true&&(x10==true)) s3::gR (true&&(x10==true)) (vptr v0 (s3.toNat*1))::gF (true&&(x10==true)) (.rep eStr A (gtD p0 s3))::gR (true&&(x10==true)) v1::gB (true&&(x10==true)) ((gtD p0 s3)==p1)::eB x13::[]) ?_ ?_
 exact om h2<|op (fun Q U W H D=>zBh (D.g 0 Z))<|ov<|gm 2 true h7<|gm 2 true h0<|og 2 true (fun G Q U W H D=>zCG (q.ok 0 _ Z).1 (D.h 0 G Z) underlying46)<|og 2 true (fun G Q U W H D=>zAf (D.h 0 G Z) (D.h 1 G Z))<|op (fun Q U W H D=>zAC (!p2) (D.g 0 Z) (fun hc=>by have a1:Q 28 = .bool (decide (s3<(p0.length:Int))):=D 1 _ _ _ Z Z Z Z (zAZ Z (zAM hc));show _=Value.bool x10;rw [q11,hc];exact a1) (fun hc=>by show _=Value.bool x10;rw [q11,hc];exact Z))<|ov<|gm 8 true h0<|gm 8 true h7<|og 8 true (fun G Q U W H D=>zAF (q.ok 0 _ Z).1 (D.h 0 G Z) (D.h 1 G Z) underlying46 sizeOf9 (gd e12 G) Z)<|og 8 true (fun G Q U W H D=>(zAs ((q.fr W).ok 0 _ Z).1 (D.h 0 G Z) (gd e12 G) Z (Fld.id _) Z isAgg9 sizeOf9))<|gm 8 true h1<|og 8 true (fun G Q U W H D=>zB4 (D.h 0 G Z) ((f_v1.fr W).eq (D.h 1 G Z)))<|op (fun Q U W H D=>zAC x10 (D.g 0 Z) (fun hc=>by have a1:Q 36 = .bool ((gtD p0 s3)==p1):=D 1 _ _ _ Z Z Z Z (zAZ Z (zAM hc));show _=Value.bool x13;rw [q14,hc];exact a1) (fun hc=>by show _=Value.bool x13;rw [q14,hc];exact Z))<|oz
 intro R w m n p
 obtain ⟨h0,h1,h7⟩:=k3 n h0 h1 h7
 have h37:=p.r 15 Z
 replace f_v1:=f_v1.fr m
 replace q:=q.fr m
 replace d:=d.fr m.size
 replace j:=j.tr (m.ch noB) fun _ h=>False.elim h
 refine HT.cond x13 h37 (fun c15=>?_) (fun c15=>?_)
 have c:=zAK c15 c
 refine HT.seq ?_
 refine HT.t (eR v0::eR v0::[]) ?_ ?_
 exact om h0<|oa<|oz
 intro R w m n p
 have h6:=p.r 1 Z
 replace q:=q.fr m
 replace d:=d.fr m.size
 replace j:=j.tr (m.ch noB) fun _ h=>False.elim h
 refine HT.ret ?_
 obtain rfl:=si c
 exact ⟨.inr Z,[R 6],⟨Z,N⟩,by show Took _ true _ _ _ w0 (R 6) w;rw [h6];exact zGC (fun k h o=>.inr h) j (q.ok 0 _ Z).1 (q.own_ge (⟨.inr (fun k h=>.inr h),N⟩) (i:=0) Z) (fun _ _ _ _ _ h=>h)⟩
 have c:=zAL c15 c
 refine HT.skip ?_
 refine HT.seq ?_
 obtain ⟨e16,c⟩:=zA4 c
 obtain ⟨x17,q18,c⟩:=zAB c
 obtain ⟨e19,e20,e21,c⟩:=ck3 c
 obtain ⟨x22,q23,c⟩:=zAB c
 obtain ⟨e24,c⟩:=zA4 c
 refine HT.drawR [ob v0 (.vec B0 9 eStr p0)] (⟨_,true,[],some (.vec w0.heap.size 9 eStr ([]:List (List UInt8))),true,fun A=>.any⟩::rR v0::rI s3::rR (vsub v0 (0:Int).toNat x17 1)::⟨_,true,[1],some (.vec w0.heap.size 9 eStr (([]:List (List UInt8))++(subL p0 0 s3))),true,fun A=>.any⟩::rR v1::(rF fun A=>.rep (eSl eStr) A ([p1]:List (List UInt8)))::⟨_,true,[5],some (.vec w0.heap.size 9 eStr ((([]:List (List UInt8))++(subL p0 0 s3))++([p1]:List (List UInt8)))),true,fun A=>.any⟩::rR v0::rI s3::rR (vsub v0 s3.toNat x22 1)::⟨_,true,[8],some (.vec w0.heap.size 9 eStr (((([]:List (List UInt8))++(subL p0 0 s3))++([p1]:List (List UInt8)))++(subL p0 s3 (p0.length:Int)))),true,fun A=>.any⟩::⟨_,true,[12],some (.vec w0.heap.size 9 eStr (((([]:List (List UInt8))++(subL p0 0 s3))++([p1]:List (List UInt8)))++(subL p0 s3 (p0.length:Int)))),true,fun A=>.any⟩::[]) (by kernel_rfl) (by kernel_rfl) (by kernel_rfl) (Wf.mk' (by kernel_rfl) (ua (ur (ur (ur (ua (ur (up (ua (ur (ur (ur (ua (ua (UAll.nil)))))))))))))) (by kernel_rfl) (by kernel_rfl)) q d ?_ ?_
 exact rc (OblR.made _ Z Z Z Z fun V Q U O D=>by exact zBb [] (E:=eStr) N underlying46 sizeOf9 zeroValue9 Z Z Z (Nat.le_trans j.size O.ch.size))<|rm h0<|rm h7<|rp (fun V Q U O D=>(q18 ▸ zLa (q.ok 0 _ Z).1 (D.g 0 Z) (D.g 1 Z) underlying46 sizeOf9 e16))<|rc (OblR.took 1 _ _ Z Z Z Z Z fun V Q U O D u hok hav hin hop hds=>by have a1:Q 42=(vsub v0 (0:Int).toNat x17 1):=D.g 1 Z;have ra1:Rep (eSl eStr) A0 U (Q 42) _:=(zKw (zLT (O.rd 0 _ Z Z) (O.lowK B C K (q.geK (⟨.inr (fun k h=>.inr h),N⟩))) C K (fun k h=>.inr h)) e16 q18 Z).eq a1;exact zFu (hop _ _ Z Z Z Z).symm hok hav (Nat.le_trans j.size O.ch.size) ra1 underlying46 el_9 e19 (fun _ _ h=>h))<|rm h1<|rp (fun V Q U O D=>zBZ [_] (E:=eStr) ⟨((f_v1.stp O.stp).eq (D.g 0 Z)),N⟩ underlying46 sizeOf9 zeroValue9 Z Z Z O.av)<|rc (OblR.took 5 _ _ Z Z Z Z Z fun V Q U O D u hok hav hin hop hds=>by have a1:Rep (eSl eStr) V U (Q 45) ([p1]:List (List UInt8)):=D.g 1 Z;exact zAw (hop _ _ Z Z Z Z).symm hok hav (Nat.le_trans j.size O.ch.size) a1 underlying46 el_9 e20)<|rm h0<|rm h7<|rp (fun V Q U O D=>(q23 ▸ zKY (q.ok 0 _ Z).1 (D.g 0 Z) (D.g 1 Z) underlying46 sizeOf9 e21))<|rc (OblR.took 8 _ _ Z Z Z Z Z fun V Q U O D u hok hav hin hop hds=>by have a1:Q 49=(vsub v0 s3.toNat x22 1):=D.g 1 Z;have ra1:Rep (eSl eStr) A0 U (Q 49) _:=(zKw (zLT (O.rd 0 _ Z Z) (O.lowK B C K (q.geK (⟨.inr (fun k h=>.inr h),N⟩))) C K (fun k h=>.inr h)) e21 q23 Z).eq a1;exact zFu (hop _ _ Z Z Z Z).symm hok hav (Nat.le_trans j.size O.ch.size) ra1 underlying46 el_9 e24 (fun _ _ h=>h))<|rc (OblR.took 12 _ _ Z Z Z Z Z fun V Q U O D u hok hav hin hop hds=>by exact zAH (hop _ _ Z Z Z Z).symm hok hav)<|rz
 intro done ρ σ A R w y s
 have z25:=s.inivR 0 Z
 obtain ⟨u26,e_u26⟩:∃ u,ρ 13=u:=⟨_,Z⟩
 have h6:=s.ov y 13 12 e_u26
 replace B:=s.lowK B C K (q.geK (⟨.inr (fun k h=>.inr h),N⟩))
 replace j:Ch (zAW v0) w0 w:=j.tr s.ch (q.geK (⟨.inr (fun k h=>.inr h),N⟩))
 replace q:=s.left y [(13,ob u26 (.vec w0.heap.size 9 eStr (((([]:List (List UInt8))++(subL p0 0 s3))++([p1]:List (List UInt8)))++(subL p0 s3 (p0.length:Int)))))] ⟨Z,Z,e_u26,Z,Z,N⟩
 replace d:=s.avok
 obtain ⟨Yg26,g_Yg26⟩:∃ z,z=(((([]:List (List UInt8))++(subL p0 0 s3))++([p1]:List (List UInt8)))++(subL p0 s3 (p0.length:Int))):=⟨_,Z⟩
 rw [← g_Yg26] at q
 try rw [← g_Yg26] at c
 refine HT.ret ?_
 obtain rfl:=si c
 exact ⟨.inr Z,[R 6],⟨Z,N⟩,by show Took _ true _ _ _ w0 (R 6) w;rw [h6];exact zGC (fun k h o=>.inr h) j (zN2 hB0 (q.ok 0 _ Z).1) (q.own_ge (⟨.inl Z,N⟩) (i:=0) Z) (fun _ _ _ _ _ h=>h)⟩
def zBe (fu : Nat) (x4 : List (List UInt8)) : Nat → Int → (List (List UInt8)) → Option (List (List UInt8))
 | 0,_,_=>none
 | k+1,y10,y11=>
 bif (decide (y10<(x4.length:Int))) then (
 ck (inR y10 x4.length) <|
 bif (!((gtD x4 y10)==([]:List UInt8))) then (
 ck (inR y10 x4.length) <|
 cl true (zCc fu y11 (gtD x4 y10) false) fun x16=>
 ck (i64B (y10+1)) <|
 zBe fu x4 k (y10+1) x16
 ) else (
 ck (i64B (y10+1)) <|
 zBe fu x4 k (y10+1) y11
 )
 ) else (
 some y11
 )
def zCf (fu:Nat) (p0:List UInt8):Option (List (List UInt8)):=
 cl true (zC4 fu p0) fun x2=>
 cl true (zDR fu x2 32) fun x4=>
 cl true (zBe fu x4 fu 0 ([]:List (List UInt8))) fun s9=>
 some s9
theorem zHa {fu : Nat} {A0 : Av} {p0 : List UInt8} {r : List (List UInt8)} (c : zCf fu p0 = some r) {w : World} {v0 : Value} (d : AvOK A0 w) (h0 : Rep eStr A0 w v0 p0) :
 Calls prog 111 #[v0] w fun e w'=>∃ v,e = .returned v∧((Res.vec w.heap.size 9 eStr r).ok (addA A0 v) v w'∧Fr w w'):=by
 unfold zCf at c
 obtain ⟨w0,hw0⟩:∃ w0,w0=w:=⟨_,Z⟩
 have j:Fr w0 w:=hw0 ▸ Fr.refl _
 have C:∀ b o,A0 b o→b<w0.heap.size:=fun b o h=>hw0 ▸ d b o h
 have hA00:AvOK A0 w0:=C
 rw [show w.heap.size=w0.heap.size from hw0 ▸ Z]
 rw [show Fr w=Fr w0 from hw0 ▸ Z]
 clear hw0
 obtain ⟨A,hAe⟩:∃ A,A=A0:=⟨_,Z⟩
 have B:∀ b o,A0 b o→A b o:=fun b o h=>hAe ▸ h
 replace d:AvOK A w:=hAe ▸ d
 have q:IniOK [] A w:=IniOK.nil
 refine zA2 [.tmp 2] func111 ntmps111 (by decide) Z Z (nb Z) ?_
 intro R hR
 have f_v0:Rep eStr A w v0 p0:=hAe ▸ h0
 replace h0:R 0=v0:=hR 0 _ Z
 clear hR hAe
 refine HT.su d j (eA::[]) ?_ ?_
 exact op (fun Q U W H D=>zA0 N)<|oz
 intro R w m n p d j
 replace h0:=k1 n h0
 replace f_v0:=f_v0.fr m
 replace q:=q.fr m
 refine HT.sx [] (⟨_,true,[],some (.vec w0.heap.size 9 eStr ([]:List (List UInt8))),true,fun A=>.any⟩::⟨_,true,[0],some (.vec w0.heap.size 9 eStr ([]:List (List UInt8))),true,fun A=>.any⟩::[]) (ua (ua (UAll.nil))) q d ?_ ?_
 exact rc (OblR.made _ Z Z Z Z fun V Q U O D=>by exact zBb [] (E:=eStr) N underlying46 sizeOf9 zeroValue9 Z Z Z (Nat.le_trans j.size O.ch.size))<|rc (OblR.took 0 _ _ Z Z Z Z Z fun V Q U O D u hok hav hin hop hds=>by exact zAH (hop _ _ Z Z Z Z).symm hok hav)<|rz
 intro done ρ σ A R w y s
 replace h0:=k1 s.rg h0
 obtain ⟨u1,e_u1⟩:∃ u,ρ 1=u:=⟨_,Z⟩
 have h3:=s.ov y 1 1 e_u1
 replace f_v0:=f_v0.stp s.stp
 obtain ⟨B,j,d⟩:=s.s B C j q N
 replace q:=s.left y [(1,ob u1 (.vec w0.heap.size 9 eStr ([]:List (List UInt8))))] ⟨Z,Z,e_u1,Z,Z,N⟩
 obtain ⟨x2,q3,c⟩:=zA3 c
 obtain ⟨x4,q5,c⟩:=zA3 c
 refine HT.su d j (eR v0::eF (.rep eStr A x2)::eF (.rep (eSl eStr) A x4)::eF (.rep (eSl eStr) A x4)::[]) ?_ ?_
 exact om h0<|op (fun Q U W H D=>zA6 call60 (zDq (q3 Z) (d.fr W.size) ((f_v0.fr W).eq (D.g 0 Z))))<|op (fun Q U W H D=>zA6 call160 (zHe (q5 Z) (d.fr W.size) (D.g 0 Z) Z))<|op (fun Q U W H D=>zA0 (D.g 0 Z))<|oz
 intro R w m n p d j
 replace h3:=k1 n h3
 obtain ⟨u6,h4,f_u6⟩:∃ u,R 4=u∧Rep (eSl eStr) A w u x4:=⟨_,Z,p 3 _ _ Z Z Z⟩
 replace q:=q.fr m
 refine HT.seq ?_
 refine HT.su d j (eI 0::[]) ?_ ?_
 exact op (fun Q U W H D=>zA0 Z)<|oz
 intro R w m n p d j
 obtain ⟨h3,h4⟩:=k2 n h3 h4
 have h5:=p.r 0 Z
 replace f_u6:=f_u6.fr m
 replace q:=q.fr m
 obtain ⟨rl7,q8,c⟩:=zA3 c
 replace q8:=q8 Z
 refine HT.cut0 (fun R w=>∃ A:Av,∃ (s9:(List (List UInt8))) (uo_u1:Value),rl7=s9∧AvOK A w∧Fr w0 w∧(∀ b o,A0 b o→A b o)∧IniOK [ob uo_u1 (.vec w0.heap.size 9 eStr s9)] A w∧R 3=uo_u1) ?_ ?_
 refine HT.block ?_
 refine HT.loop (fun k R w=>∃ A:Av,∃ (y10:Int) (y11:List (List UInt8)) (ul_u1:Value),zBe fu x4 k y10 y11=some rl7∧AvOK A w∧Fr w0 w∧(∀ b o,A0 b o→A b o)∧IniOK [ob ul_u1 (.vec w0.heap.size 9 eStr y11)] A w∧R 3=ul_u1∧R 4=u6∧R 5 = .int .i64 y10∧Rep (eSl eStr) A w u6 x4) fu ⟨_,_,_,u1,q8,d,j,B,q,h3,h4,h5,f_u6⟩ ?_
 have hr0:=c;clear c q8
 rintro k R w ⟨A,y10,y11,ul_u1,c,d,j,B,q,h3,h4,h5,f_u6⟩
 rcases k with _ | k
 cases (show none=some _ from c)
 rw [zBe] at c
 refine HT.seq ?_
 refine HT.su d j (eI y10::eR u6::eI (x4.length:Int)::eB (decide (y10<(x4.length:Int)))::[]) ?_ ?_
 exact om h5<|om h4<|op (fun Q U W H D=>zAb (aT:=#[]) ((f_u6.fr W).eq (D.g 0 Z)) underlying46)<|op (fun Q U W H D=>zAf (D.g 0 Z) (D.g 1 Z))<|oz
 intro R w m n p d j
 obtain ⟨h3,h4,h5⟩:=k3 n h3 h4 h5
 have h13:=p.r 3 Z
 replace f_u6:=f_u6.fr m
 replace q:=q.fr m
 refine HT.cond (decide (y10<(x4.length:Int))) h13 (fun c12=>?_) (fun c12=>?_)
 have c:=zAK c12 c
 refine HT.skip ?_
 refine HT.seq ?_
 refine HT.block ?_
 obtain ⟨e13,c⟩:=zA4 c
 refine HT.su d j (eR u6::eI y10::eF (.qtr eStr A (gtD x4 y10))::eF (.rep eStr A (gtD x4 y10))::eB (!((gtD x4 y10)==([]:List UInt8)))::[]) ?_ ?_
 exact om h4<|om h5<|op (fun Q U W H D=>zA7 ((f_u6.fr W).eq (D.g 0 Z)) (D.g 1 Z) underlying46 sizeOf9 e13)<|op (fun Q U W H D=>(zAQ (QRep.ptr (D.g 0 Z)) isAgg9 sizeOf9))<|op (fun Q U W H D=>zFW (D.g 0 Z) ⟨_,Z,⟨_,Z,Z,by decide⟩⟩)<|oz
 intro R w m n p d j
 obtain ⟨h3,h4,h5⟩:=k3 n h3 h4 h5
 have h20:=p.r 4 Z
 replace f_u6:=f_u6.fr m
 replace q:=q.fr m
 refine HT.cond (!((gtD x4 y10)==([]:List UInt8))) h20 (fun c14=>?_) (fun c14=>?_)
 have c:=zAK c14 c
 obtain ⟨e15,c⟩:=zA4 c
 obtain ⟨x16,q17,c⟩:=zA3 c
 refine HT.x [ob ul_u1 (.vec w0.heap.size 9 eStr y11)] (rR ul_u1::rR u6::rI y10::(rF fun A=>.qtr eStr A (gtD x4 y10))::(rF fun A=>.rep eStr A (gtD x4 y10))::⟨_,true,[0],some (.vec w0.heap.size 9 eStr x16),true,fun A=>.any⟩::⟨_,true,[6],some (.vec w0.heap.size 9 eStr x16),true,fun A=>.any⟩::[]) (ur (ur (ur (UAll.cons zBG (up (ua (ua (UAll.nil)))))))) q d ?_ ?_
 exact rm h3<|rm h4<|rm h5<|rp (fun V Q U O D=>zA7 ((f_u6.stp O.stp).eq (D.g 0 Z)) (D.g 1 Z) underlying46 sizeOf9 e15)<|rp (fun V Q U O D=>(zAQ (QRep.ptr (D.g 0 Z)) isAgg9 sizeOf9))<|rc (OblR.took 0 _ _ Z Z Z Z Z fun V Q U O D u hok hav hin hop hds=>by have a0:Q 21=ul_u1:=D.g 0 Z;have a1:Rep eStr V U (Q 25) (gtD x4 y10):=D.g 1 Z;have hu0:zAD Q (.tmp 21)=u:=a0.trans (hin _ Z).symm;exact zEh call109 hav (by simp only [List.map,hu0];exact zDN (q17 Z) (O.av.sub _) (fun b o h=>h.2) (Nat.le_trans j.size O.ch.size) (Vec.flat hok (fun _ _ _ _ _ h=>h)) (a1.less fun b o h=>h.1) Z))<|rc (OblR.took 6 _ _ Z Z Z Z Z fun V Q U O D u hok hav hin hop hds=>by exact zAH (hop _ _ Z Z Z Z).symm hok hav)<|rz
 intro done ρ σ A R w y s
 obtain ⟨h4,h5⟩:=k2 s.rg h4 h5
 obtain ⟨u18,e_u18⟩:∃ u,ρ 7=u:=⟨_,Z⟩
 have h3:=s.ov y 7 6 e_u18
 replace f_u6:=f_u6.stp s.stp
 obtain ⟨B,j,d⟩:=s.s B C j q ⟨Z,N⟩
 replace q:=s.left y [(7,ob u18 (.vec w0.heap.size 9 eStr x16))] ⟨Z,Z,e_u18,Z,Z,N⟩
 obtain ⟨e19,c⟩:=zA4 c
 refine HT.u d j (eI y10::eI (y10+1)::eI (y10+1)::[]) ?_ ?_
 exact om h5<|op (fun Q U W H D=>zAN (D.g 0 Z) Z e19)<|oa<|oz
 intro R w m n p d j
 obtain ⟨h3,h4⟩:=k2 n h3 h4
 have h5:=p.r 2 Z
 replace f_u6:=f_u6.fr m
 replace q:=q.fr m
 exact ei k (And.intro (Nat.lt_succ_self k) ⟨_,_,_,u18,c,d,j,B,q,h3,h4,h5,f_u6⟩)
 have c:=zAL c14 c
 refine HT.skip ?_
 obtain ⟨e20,c⟩:=zA4 c
 refine HT.u d j (eI y10::eI (y10+1)::eI (y10+1)::[]) ?_ ?_
 exact om h5<|op (fun Q U W H D=>zAN (D.g 0 Z) Z e20)<|oa<|oz
 intro R w m n p d j
 obtain ⟨h3,h4⟩:=k2 n h3 h4
 have h5:=p.r 2 Z
 replace f_u6:=f_u6.fr m
 replace q:=q.fr m
 exact ei k (And.intro (Nat.lt_succ_self k) ⟨_,_,_,ul_u1,c,d,j,B,q,h3,h4,h5,f_u6⟩)
 have c:=zAL c12 c
 refine HT.exit ?_
 obtain rfl:=si c
 exact ei _ ⟨_,ul_u1,Z,d,j,B,q,h3⟩
 rintro R w ⟨A,s9,uo_u1,es,d,j,B,q,h3⟩
 obtain rfl:=es.symm
 refine HT.su d j (eR uo_u1::eR uo_u1::[]) ?_ ?_
 exact om h3<|oa<|oz
 intro R w m n p d j
 have h2:=p.r 1 Z
 replace q:=q.fr m
 refine HT.ret ?_
 obtain rfl:=si c
 exact ⟨.inr Z,[R 2],⟨Z,N⟩,(zCT (q.ok 0 _ Z) B h2),j⟩
theorem zEI {fu : Nat} {A0 : Av} {p0 : List UInt8} {r : List (List UInt8)} (c : zCf fu p0 = some r) {w : World} {v0 : Value} (d : AvOK A0 w) (h0 : Rep eStr A0 w v0 p0) :
 Calls prog 111 #[v0] w fun e w'=>∃ v,e = .returned v∧(Rep (eSl eStr) A0 w' v r∧Fr w w'):=by
 refine Calls.mono (zHa c d h0) ?_
 rintro e w' ⟨v,he,hv,hf⟩
 exact ⟨v,he,zCD hv (fun b o h=>.inl h) d,hf⟩
def zD8 (fu:Nat) (p0:Int):Option Int:=
 cl true (zBX fu (strB ([p0]:List Int))) fun x1=>
 bif (x1==([98]:List UInt8)) then (
 some 1
 ) else (
 bif (x1==([102]:List UInt8)) then (
 some 1
 ) else (
 bif (x1==([112]:List UInt8)) then (
 some 1
 ) else (
 bif (x1==([118]:List UInt8)) then (
 some 1
 ) else (
 bif (x1==([99]:List UInt8)) then (
 some 2
 ) else (
 bif (x1==([103]:List UInt8)) then (
 some 2
 ) else (
 bif (x1==([106]:List UInt8)) then (
 some 2
 ) else (
 bif (x1==([107]:List UInt8)) then (
 some 2
 ) else (
 bif (x1==([113]:List UInt8)) then (
 some 2
 ) else (
 bif (x1==([115]:List UInt8)) then (
 some 2
 ) else (
 bif (x1==([120]:List UInt8)) then (
 some 2
 ) else (
 bif (x1==([122]:List UInt8)) then (
 some 2
 ) else (
 bif (x1==([100]:List UInt8)) then (
 some 3
 ) else (
 bif (x1==([116]:List UInt8)) then (
 some 3
 ) else (
 bif (x1==([108]:List UInt8)) then (
 some 4
 ) else (
 bif (x1==([109]:List UInt8)) then (
 some 5
 ) else (
 bif (x1==([110]:List UInt8)) then (
 some 5
 ) else (
 bif (x1==([114]:List UInt8)) then (
 some 6
 ) else (
 bif (x1==([97]:List UInt8)) then (
 some 0
 ) else (
 bif (x1==([101]:List UInt8)) then (
 some 0
 ) else (
 bif (x1==([105]:List UInt8)) then (
 some 0
 ) else (
 bif (x1==([111]:List UInt8)) then (
 some 0
 ) else (
 bif (x1==([117]:List UInt8)) then (
 some 0
 ) else (
 bif (x1==([121]:List UInt8)) then (
 some 0
 ) else (
 bif (x1==([104]:List UInt8)) then (
 some (-1)
 ) else (
 bif (x1==([119]:List UInt8)) then (
 some (-1)
 ) else (
 some (-2)
 )
 )
 )
 )
 )
 )
 )
 )
 )
 )
 )
 )
 )
 )
 )
 )
 )
 )
 )
 )
 )
 )
 )
 )
 )
 )
theorem zGe {fu : Nat} {A : Av} {p0 : Int} {r : Int} (c : zD8 fu p0 = some r) {w : World} {v0 : Value} (d : AvOK A w) (h0 : v0 = .int .u8 p0) :
 Calls prog 210 #[v0] w fun e w'=>∃ v,e = .returned v∧(v = .int .i64 r∧Fr w w'):=by
 unfold zD8 at c
 obtain ⟨w0,hw0⟩:∃ w0,w0=w:=⟨_,Z⟩
 have j:Fr w0 w:=hw0 ▸ Fr.refl _
 rw [show Fr w=Fr w0 from hw0 ▸ Z]
 clear hw0
 refine zA2 [.tmp 2] func210 ntmps210 (by decide) Z Z (nb Z) ?_
 intro R hR
 replace h0:R 0 = .int .u8 p0:=(hR 0 _ Z).trans h0
 clear hR
 refine HT.su d j (eI 0::[]) ?_ ?_
 exact op (fun Q U W H D=>zA0 Z)<|oz
 intro R w m n p d j
 replace h0:=k1 n h0
 refine HT.seq ?_
 obtain ⟨x1,q2,c⟩:=zA3 c
 refine HT.su d j (eU p0::eF (.rep (eSl (eInt .u8)) A ([p0]:List Int))::eF (.rep eStr A (strB ([p0]:List Int)))::eF (.rep eStr A x1)::[]) ?_ ?_
 exact om h0<|op (fun Q U W H D=>zBZ [_] (E:=eInt .u8) ⟨(zAe.eq (D.g 0 Z)),N⟩ underlying22 sizeOf5 zeroValue5 Z Z Z (d.fr W.size))<|op (fun Q U W H D=>zBF (D.g 0 Z) underlying22 underlying5 underlying9)<|op (fun Q U W H D=>zA6 call133 (zDI (q2 Z) (d.fr W.size) (D.g 0 Z)))<|oz
 intro R w m n p d j
 obtain ⟨u3,h6,f_u3⟩:∃ u,R 6=u∧Rep eStr A w u x1:=⟨_,Z,p 3 _ _ Z Z Z⟩
 refine HT.block ?_
 refine HT.seq ?_
 refine HT.su d j (eB (x1==([98]:List UInt8))::eB (x1==([98]:List UInt8))::[]) ?_ ?_
 exact op (fun Q U W H D=>zB4 ((f_u3.fr W).eq ((H 6 Z).trans h6)) ⟨_,Z,⟨_,Z,Z,by decide⟩⟩)<|oa<|oz
 intro R w m n p d j
 replace h6:=k1 n h6
 have h7:=p.r 1 Z
 replace f_u3:=f_u3.fr m
 refine HT.cond (x1==([98]:List UInt8)) h7 (fun c4=>?_) (fun c4=>?_)
 have c:=zAK c4 c
 refine HT.skip ?_
 refine HT.cond (x1==([98]:List UInt8)) h7 (fun c5=>?_) (fun c5=>absurd (c4.symm.trans c5) (by decide))
 refine HT.su d j (eI 1::[]) ?_ ?_
 exact op (fun Q U W H D=>zA0 Z)<|oz
 intro R w m n p d j
 have h2:=p.r 0 Z
 refine HT.ret ?_
 obtain rfl:=si c
 exact ⟨.inr Z,[R 2],⟨Z,N⟩,h2,j⟩
 have c:=zAL c4 c
 refine HT.su d j (eB (x1==([102]:List UInt8))::eB (x1==([102]:List UInt8))::[]) ?_ ?_
 exact op (fun Q U W H D=>zB4 ((f_u3.fr W).eq ((H 6 Z).trans h6)) ⟨_,Z,⟨_,Z,Z,by decide⟩⟩)<|oa<|oz
 intro R w m n p d j
 replace h6:=k1 n h6
 have h7:=p.r 1 Z
 replace f_u3:=f_u3.fr m
 refine HT.cond (x1==([102]:List UInt8)) h7 (fun c6=>?_) (fun c6=>?_)
 have c:=zAK c6 c
 refine HT.skip ?_
 refine HT.cond (x1==([102]:List UInt8)) h7 (fun c7=>?_) (fun c7=>absurd (c6.symm.trans c7) (by decide))
 refine HT.su d j (eI 1::[]) ?_ ?_
 exact op (fun Q U W H D=>zA0 Z)<|oz
 intro R w m n p d j
 have h2:=p.r 0 Z
 refine HT.ret ?_
 obtain rfl:=si c
 exact ⟨.inr Z,[R 2],⟨Z,N⟩,h2,j⟩
 have c:=zAL c6 c
 refine HT.su d j (eB (x1==([112]:List UInt8))::eB (x1==([112]:List UInt8))::[]) ?_ ?_
 exact op (fun Q U W H D=>zB4 ((f_u3.fr W).eq ((H 6 Z).trans h6)) ⟨_,Z,⟨_,Z,Z,by decide⟩⟩)<|oa<|oz
 intro R w m n p d j
 replace h6:=k1 n h6
 have h7:=p.r 1 Z
 replace f_u3:=f_u3.fr m
 refine HT.cond (x1==([112]:List UInt8)) h7 (fun c8=>?_) (fun c8=>?_)
 have c:=zAK c8 c
 refine HT.skip ?_
 refine HT.cond (x1==([112]:List UInt8)) h7 (fun c9=>?_) (fun c9=>absurd (c8.symm.trans c9) (by decide))
 refine HT.su d j (eI 1::[]) ?_ ?_
 exact op (fun Q U W H D=>zA0 Z)<|oz
 intro R w m n p d j
 have h2:=p.r 0 Z
 refine HT.ret ?_
 obtain rfl:=si c
 exact ⟨.inr Z,[R 2],⟨Z,N⟩,h2,j⟩
 have c:=zAL c8 c
 refine HT.u d j (eB (x1==([118]:List UInt8))::eB (x1==([118]:List UInt8))::[]) ?_ ?_
 exact op (fun Q U W H D=>zB4 ((f_u3.fr W).eq ((H 6 Z).trans h6)) ⟨_,Z,⟨_,Z,Z,by decide⟩⟩)<|oa<|oz
 intro R w m n p d j
 replace h6:=k1 n h6
 have h7:=p.r 1 Z
 replace f_u3:=f_u3.fr m
 refine HT.cond (x1==([118]:List UInt8)) h7 (fun c10=>?_) (fun c10=>?_)
 have c:=zAK c10 c
 refine HT.su d j (eI 1::[]) ?_ ?_
 exact op (fun Q U W H D=>zA0 Z)<|oz
 intro R w m n p d j
 have h2:=p.r 0 Z
 refine HT.ret ?_
 obtain rfl:=si c
 exact ⟨.inr Z,[R 2],⟨Z,N⟩,h2,j⟩
 have c:=zAL c10 c
 refine HT.seq ?_
 refine HT.su d j (eB (x1==([99]:List UInt8))::eB (x1==([99]:List UInt8))::[]) ?_ ?_
 exact op (fun Q U W H D=>zB4 ((f_u3.fr W).eq ((H 6 Z).trans h6)) ⟨_,Z,⟨_,Z,Z,by decide⟩⟩)<|oa<|oz
 intro R w m n p d j
 replace h6:=k1 n h6
 have h12:=p.r 1 Z
 replace f_u3:=f_u3.fr m
 refine HT.cond (x1==([99]:List UInt8)) h12 (fun c11=>?_) (fun c11=>?_)
 have c:=zAK c11 c
 refine HT.skip ?_
 refine HT.cond (x1==([99]:List UInt8)) h12 (fun c12=>?_) (fun c12=>absurd (c11.symm.trans c12) (by decide))
 refine HT.su d j (eI 2::[]) ?_ ?_
 exact op (fun Q U W H D=>zA0 Z)<|oz
 intro R w m n p d j
 have h2:=p.r 0 Z
 refine HT.ret ?_
 obtain rfl:=si c
 exact ⟨.inr Z,[R 2],⟨Z,N⟩,h2,j⟩
 have c:=zAL c11 c
 refine HT.su d j (eB (x1==([103]:List UInt8))::eB (x1==([103]:List UInt8))::[]) ?_ ?_
 exact op (fun Q U W H D=>zB4 ((f_u3.fr W).eq ((H 6 Z).trans h6)) ⟨_,Z,⟨_,Z,Z,by decide⟩⟩)<|oa<|oz
 intro R w m n p d j
 replace h6:=k1 n h6
 have h12:=p.r 1 Z
 replace f_u3:=f_u3.fr m
 refine HT.cond (x1==([103]:List UInt8)) h12 (fun c13=>?_) (fun c13=>?_)
 have c:=zAK c13 c
 refine HT.skip ?_
 refine HT.cond (x1==([103]:List UInt8)) h12 (fun c14=>?_) (fun c14=>absurd (c13.symm.trans c14) (by decide))
 refine HT.su d j (eI 2::[]) ?_ ?_
 exact op (fun Q U W H D=>zA0 Z)<|oz
 intro R w m n p d j
 have h2:=p.r 0 Z
 refine HT.ret ?_
 obtain rfl:=si c
 exact ⟨.inr Z,[R 2],⟨Z,N⟩,h2,j⟩
 have c:=zAL c13 c
 refine HT.su d j (eB (x1==([106]:List UInt8))::eB (x1==([106]:List UInt8))::[]) ?_ ?_
 exact op (fun Q U W H D=>zB4 ((f_u3.fr W).eq ((H 6 Z).trans h6)) ⟨_,Z,⟨_,Z,Z,by decide⟩⟩)<|oa<|oz
 intro R w m n p d j
 replace h6:=k1 n h6
 have h12:=p.r 1 Z
 replace f_u3:=f_u3.fr m
 refine HT.cond (x1==([106]:List UInt8)) h12 (fun c15=>?_) (fun c15=>?_)
 have c:=zAK c15 c
 refine HT.skip ?_
 refine HT.cond (x1==([106]:List UInt8)) h12 (fun c16=>?_) (fun c16=>absurd (c15.symm.trans c16) (by decide))
 refine HT.su d j (eI 2::[]) ?_ ?_
 exact op (fun Q U W H D=>zA0 Z)<|oz
 intro R w m n p d j
 have h2:=p.r 0 Z
 refine HT.ret ?_
 obtain rfl:=si c
 exact ⟨.inr Z,[R 2],⟨Z,N⟩,h2,j⟩
 have c:=zAL c15 c
 refine HT.su d j (eB (x1==([107]:List UInt8))::eB (x1==([107]:List UInt8))::[]) ?_ ?_
 exact op (fun Q U W H D=>zB4 ((f_u3.fr W).eq ((H 6 Z).trans h6)) ⟨_,Z,⟨_,Z,Z,by decide⟩⟩)<|oa<|oz
 intro R w m n p d j
 replace h6:=k1 n h6
 have h12:=p.r 1 Z
 replace f_u3:=f_u3.fr m
 refine HT.cond (x1==([107]:List UInt8)) h12 (fun c17=>?_) (fun c17=>?_)
 have c:=zAK c17 c
 refine HT.skip ?_
 refine HT.cond (x1==([107]:List UInt8)) h12 (fun c18=>?_) (fun c18=>absurd (c17.symm.trans c18) (by decide))
 refine HT.su d j (eI 2::[]) ?_ ?_
 exact op (fun Q U W H D=>zA0 Z)<|oz
 intro R w m n p d j
 have h2:=p.r 0 Z
 refine HT.ret ?_
 obtain rfl:=si c
 exact ⟨.inr Z,[R 2],⟨Z,N⟩,h2,j⟩
 have c:=zAL c17 c
 refine HT.su d j (eB (x1==([113]:List UInt8))::eB (x1==([113]:List UInt8))::[]) ?_ ?_
 exact op (fun Q U W H D=>zB4 ((f_u3.fr W).eq ((H 6 Z).trans h6)) ⟨_,Z,⟨_,Z,Z,by decide⟩⟩)<|oa<|oz
 intro R w m n p d j
 replace h6:=k1 n h6
 have h12:=p.r 1 Z
 replace f_u3:=f_u3.fr m
 refine HT.cond (x1==([113]:List UInt8)) h12 (fun c19=>?_) (fun c19=>?_)
 have c:=zAK c19 c
 refine HT.skip ?_
 refine HT.cond (x1==([113]:List UInt8)) h12 (fun c20=>?_) (fun c20=>absurd (c19.symm.trans c20) (by decide))
 refine HT.su d j (eI 2::[]) ?_ ?_
 exact op (fun Q U W H D=>zA0 Z)<|oz
 intro R w m n p d j
 have h2:=p.r 0 Z
 refine HT.ret ?_
 obtain rfl:=si c
 exact ⟨.inr Z,[R 2],⟨Z,N⟩,h2,j⟩
 have c:=zAL c19 c
 refine HT.su d j (eB (x1==([115]:List UInt8))::eB (x1==([115]:List UInt8))::[]) ?_ ?_
 exact op (fun Q U W H D=>zB4 ((f_u3.fr W).eq ((H 6 Z).trans h6)) ⟨_,Z,⟨_,Z,Z,by decide⟩⟩)<|oa<|oz
 intro R w m n p d j
 replace h6:=k1 n h6
 have h12:=p.r 1 Z
 replace f_u3:=f_u3.fr m
 refine HT.cond (x1==([115]:List UInt8)) h12 (fun c21=>?_) (fun c21=>?_)
 have c:=zAK c21 c
 refine HT.skip ?_
 refine HT.cond (x1==([115]:List UInt8)) h12 (fun c22=>?_) (fun c22=>absurd (c21.symm.trans c22) (by decide))
 refine HT.su d j (eI 2::[]) ?_ ?_
 exact op (fun Q U W H D=>zA0 Z)<|oz
 intro R w m n p d j
 have h2:=p.r 0 Z
 refine HT.ret ?_
 obtain rfl:=si c
 exact ⟨.inr Z,[R 2],⟨Z,N⟩,h2,j⟩
 have c:=zAL c21 c
 refine HT.su d j (eB (x1==([120]:List UInt8))::eB (x1==([120]:List UInt8))::[]) ?_ ?_
 exact op (fun Q U W H D=>zB4 ((f_u3.fr W).eq ((H 6 Z).trans h6)) ⟨_,Z,⟨_,Z,Z,by decide⟩⟩)<|oa<|oz
 intro R w m n p d j
 replace h6:=k1 n h6
 have h12:=p.r 1 Z
 replace f_u3:=f_u3.fr m
 refine HT.cond (x1==([120]:List UInt8)) h12 (fun c23=>?_) (fun c23=>?_)
 have c:=zAK c23 c
 refine HT.skip ?_
 refine HT.cond (x1==([120]:List UInt8)) h12 (fun c24=>?_) (fun c24=>absurd (c23.symm.trans c24) (by decide))
 refine HT.su d j (eI 2::[]) ?_ ?_
 exact op (fun Q U W H D=>zA0 Z)<|oz
 intro R w m n p d j
 have h2:=p.r 0 Z
 refine HT.ret ?_
 obtain rfl:=si c
 exact ⟨.inr Z,[R 2],⟨Z,N⟩,h2,j⟩
 have c:=zAL c23 c
 refine HT.u d j (eB (x1==([122]:List UInt8))::eB (x1==([122]:List UInt8))::[]) ?_ ?_
 exact op (fun Q U W H D=>zB4 ((f_u3.fr W).eq ((H 6 Z).trans h6)) ⟨_,Z,⟨_,Z,Z,by decide⟩⟩)<|oa<|oz
 intro R w m n p d j
 replace h6:=k1 n h6
 have h12:=p.r 1 Z
 replace f_u3:=f_u3.fr m
 refine HT.cond (x1==([122]:List UInt8)) h12 (fun c25=>?_) (fun c25=>?_)
 have c:=zAK c25 c
 refine HT.su d j (eI 2::[]) ?_ ?_
 exact op (fun Q U W H D=>zA0 Z)<|oz
 intro R w m n p d j
 have h2:=p.r 0 Z
 refine HT.ret ?_
 obtain rfl:=si c
 exact ⟨.inr Z,[R 2],⟨Z,N⟩,h2,j⟩
 have c:=zAL c25 c
 refine HT.seq ?_
 refine HT.su d j (eB (x1==([100]:List UInt8))::eB (x1==([100]:List UInt8))::[]) ?_ ?_
 exact op (fun Q U W H D=>zB4 ((f_u3.fr W).eq ((H 6 Z).trans h6)) ⟨_,Z,⟨_,Z,Z,by decide⟩⟩)<|oa<|oz
 intro R w m n p d j
 replace h6:=k1 n h6
 have h21:=p.r 1 Z
 replace f_u3:=f_u3.fr m
 refine HT.cond (x1==([100]:List UInt8)) h21 (fun c26=>?_) (fun c26=>?_)
 have c:=zAK c26 c
 refine HT.skip ?_
 refine HT.cond (x1==([100]:List UInt8)) h21 (fun c27=>?_) (fun c27=>absurd (c26.symm.trans c27) (by decide))
 refine HT.su d j (eI 3::[]) ?_ ?_
 exact op (fun Q U W H D=>zA0 Z)<|oz
 intro R w m n p d j
 have h2:=p.r 0 Z
 refine HT.ret ?_
 obtain rfl:=si c
 exact ⟨.inr Z,[R 2],⟨Z,N⟩,h2,j⟩
 have c:=zAL c26 c
 refine HT.u d j (eB (x1==([116]:List UInt8))::eB (x1==([116]:List UInt8))::[]) ?_ ?_
 exact op (fun Q U W H D=>zB4 ((f_u3.fr W).eq ((H 6 Z).trans h6)) ⟨_,Z,⟨_,Z,Z,by decide⟩⟩)<|oa<|oz
 intro R w m n p d j
 replace h6:=k1 n h6
 have h21:=p.r 1 Z
 replace f_u3:=f_u3.fr m
 refine HT.cond (x1==([116]:List UInt8)) h21 (fun c28=>?_) (fun c28=>?_)
 have c:=zAK c28 c
 refine HT.su d j (eI 3::[]) ?_ ?_
 exact op (fun Q U W H D=>zA0 Z)<|oz
 intro R w m n p d j
 have h2:=p.r 0 Z
 refine HT.ret ?_
 obtain rfl:=si c
 exact ⟨.inr Z,[R 2],⟨Z,N⟩,h2,j⟩
 have c:=zAL c28 c
 refine HT.su d j (eB (x1==([108]:List UInt8))::eB (x1==([108]:List UInt8))::[]) ?_ ?_
 exact op (fun Q U W H D=>zB4 ((f_u3.fr W).eq ((H 6 Z).trans h6)) ⟨_,Z,⟨_,Z,Z,by decide⟩⟩)<|oa<|oz
 intro R w m n p d j
 replace h6:=k1 n h6
 have h24:=p.r 1 Z
 replace f_u3:=f_u3.fr m
 refine HT.cond (x1==([108]:List UInt8)) h24 (fun c29=>?_) (fun c29=>?_)
 have c:=zAK c29 c
 refine HT.su d j (eI 4::[]) ?_ ?_
 exact op (fun Q U W H D=>zA0 Z)<|oz
 intro R w m n p d j
 have h2:=p.r 0 Z
 refine HT.ret ?_
 obtain rfl:=si c
 exact ⟨.inr Z,[R 2],⟨Z,N⟩,h2,j⟩
 have c:=zAL c29 c
 refine HT.seq ?_
 refine HT.su d j (eB (x1==([109]:List UInt8))::eB (x1==([109]:List UInt8))::[]) ?_ ?_
 exact op (fun Q U W H D=>zB4 ((f_u3.fr W).eq ((H 6 Z).trans h6)) ⟨_,Z,⟨_,Z,Z,by decide⟩⟩)<|oa<|oz
 intro R w m n p d j
 replace h6:=k1 n h6
 have h26:=p.r 1 Z
 replace f_u3:=f_u3.fr m
 refine HT.cond (x1==([109]:List UInt8)) h26 (fun c30=>?_) (fun c30=>?_)
 have c:=zAK c30 c
 refine HT.skip ?_
 refine HT.cond (x1==([109]:List UInt8)) h26 (fun c31=>?_) (fun c31=>absurd (c30.symm.trans c31) (by decide))
 refine HT.su d j (eI 5::[]) ?_ ?_
 exact op (fun Q U W H D=>zA0 Z)<|oz
 intro R w m n p d j
 have h2:=p.r 0 Z
 refine HT.ret ?_
 obtain rfl:=si c
 exact ⟨.inr Z,[R 2],⟨Z,N⟩,h2,j⟩
 have c:=zAL c30 c
 refine HT.u d j (eB (x1==([110]:List UInt8))::eB (x1==([110]:List UInt8))::[]) ?_ ?_
 exact op (fun Q U W H D=>zB4 ((f_u3.fr W).eq ((H 6 Z).trans h6)) ⟨_,Z,⟨_,Z,Z,by decide⟩⟩)<|oa<|oz
 intro R w m n p d j
 replace h6:=k1 n h6
 have h26:=p.r 1 Z
 replace f_u3:=f_u3.fr m
 refine HT.cond (x1==([110]:List UInt8)) h26 (fun c32=>?_) (fun c32=>?_)
 have c:=zAK c32 c
 refine HT.su d j (eI 5::[]) ?_ ?_
 exact op (fun Q U W H D=>zA0 Z)<|oz
 intro R w m n p d j
 have h2:=p.r 0 Z
 refine HT.ret ?_
 obtain rfl:=si c
 exact ⟨.inr Z,[R 2],⟨Z,N⟩,h2,j⟩
 have c:=zAL c32 c
 refine HT.su d j (eB (x1==([114]:List UInt8))::eB (x1==([114]:List UInt8))::[]) ?_ ?_
 exact op (fun Q U W H D=>zB4 ((f_u3.fr W).eq ((H 6 Z).trans h6)) ⟨_,Z,⟨_,Z,Z,by decide⟩⟩)<|oa<|oz
 intro R w m n p d j
 replace h6:=k1 n h6
 have h29:=p.r 1 Z
 replace f_u3:=f_u3.fr m
 refine HT.cond (x1==([114]:List UInt8)) h29 (fun c33=>?_) (fun c33=>?_)
 have c:=zAK c33 c
 refine HT.su d j (eI 6::[]) ?_ ?_
 exact op (fun Q U W H D=>zA0 Z)<|oz
 intro R w m n p d j
 have h2:=p.r 0 Z
 refine HT.ret ?_
 obtain rfl:=si c
 exact ⟨.inr Z,[R 2],⟨Z,N⟩,h2,j⟩
 have c:=zAL c33 c
 refine HT.seq ?_
 refine HT.su d j (eB (x1==([97]:List UInt8))::eB (x1==([97]:List UInt8))::[]) ?_ ?_
 exact op (fun Q U W H D=>zB4 ((f_u3.fr W).eq ((H 6 Z).trans h6)) ⟨_,Z,⟨_,Z,Z,by decide⟩⟩)<|oa<|oz
 intro R w m n p d j
 replace h6:=k1 n h6
 have h31:=p.r 1 Z
 replace f_u3:=f_u3.fr m
 refine HT.cond (x1==([97]:List UInt8)) h31 (fun c34=>?_) (fun c34=>?_)
 have c:=zAK c34 c
 refine HT.skip ?_
 refine HT.cond (x1==([97]:List UInt8)) h31 (fun c35=>?_) (fun c35=>absurd (c34.symm.trans c35) (by decide))
 refine HT.su d j (eI 0::[]) ?_ ?_
 exact op (fun Q U W H D=>zA0 Z)<|oz
 intro R w m n p d j
 have h2:=p.r 0 Z
 refine HT.ret ?_
 obtain rfl:=si c
 exact ⟨.inr Z,[R 2],⟨Z,N⟩,h2,j⟩
 have c:=zAL c34 c
 refine HT.su d j (eB (x1==([101]:List UInt8))::eB (x1==([101]:List UInt8))::[]) ?_ ?_
 exact op (fun Q U W H D=>zB4 ((f_u3.fr W).eq ((H 6 Z).trans h6)) ⟨_,Z,⟨_,Z,Z,by decide⟩⟩)<|oa<|oz
 intro R w m n p d j
 replace h6:=k1 n h6
 have h31:=p.r 1 Z
 replace f_u3:=f_u3.fr m
 refine HT.cond (x1==([101]:List UInt8)) h31 (fun c36=>?_) (fun c36=>?_)
 have c:=zAK c36 c
 refine HT.skip ?_
 refine HT.cond (x1==([101]:List UInt8)) h31 (fun c37=>?_) (fun c37=>absurd (c36.symm.trans c37) (by decide))
 refine HT.su d j (eI 0::[]) ?_ ?_
 exact op (fun Q U W H D=>zA0 Z)<|oz
 intro R w m n p d j
 have h2:=p.r 0 Z
 refine HT.ret ?_
 obtain rfl:=si c
 exact ⟨.inr Z,[R 2],⟨Z,N⟩,h2,j⟩
 have c:=zAL c36 c
 refine HT.su d j (eB (x1==([105]:List UInt8))::eB (x1==([105]:List UInt8))::[]) ?_ ?_
 exact op (fun Q U W H D=>zB4 ((f_u3.fr W).eq ((H 6 Z).trans h6)) ⟨_,Z,⟨_,Z,Z,by decide⟩⟩)<|oa<|oz
 intro R w m n p d j
 replace h6:=k1 n h6
 have h31:=p.r 1 Z
 replace f_u3:=f_u3.fr m
 refine HT.cond (x1==([105]:List UInt8)) h31 (fun c38=>?_) (fun c38=>?_)
 have c:=zAK c38 c
 refine HT.skip ?_
 refine HT.cond (x1==([105]:List UInt8)) h31 (fun c39=>?_) (fun c39=>absurd (c38.symm.trans c39) (by decide))
 refine HT.su d j (eI 0::[]) ?_ ?_
 exact op (fun Q U W H D=>zA0 Z)<|oz
 intro R w m n p d j
 have h2:=p.r 0 Z
 refine HT.ret ?_
 obtain rfl:=si c
 exact ⟨.inr Z,[R 2],⟨Z,N⟩,h2,j⟩
 have c:=zAL c38 c
 refine HT.su d j (eB (x1==([111]:List UInt8))::eB (x1==([111]:List UInt8))::[]) ?_ ?_
 exact op (fun Q U W H D=>zB4 ((f_u3.fr W).eq ((H 6 Z).trans h6)) ⟨_,Z,⟨_,Z,Z,by decide⟩⟩)<|oa<|oz
 intro R w m n p d j
 replace h6:=k1 n h6
 have h31:=p.r 1 Z
 replace f_u3:=f_u3.fr m
 refine HT.cond (x1==([111]:List UInt8)) h31 (fun c40=>?_) (fun c40=>?_)
 have c:=zAK c40 c
 refine HT.skip ?_
 refine HT.cond (x1==([111]:List UInt8)) h31 (fun c41=>?_) (fun c41=>absurd (c40.symm.trans c41) (by decide))
 refine HT.su d j (eI 0::[]) ?_ ?_
 exact op (fun Q U W H D=>zA0 Z)<|oz
 intro R w m n p d j
 have h2:=p.r 0 Z
 refine HT.ret ?_
 obtain rfl:=si c
 exact ⟨.inr Z,[R 2],⟨Z,N⟩,h2,j⟩
 have c:=zAL c40 c
 refine HT.su d j (eB (x1==([117]:List UInt8))::eB (x1==([117]:List UInt8))::[]) ?_ ?_
 exact op (fun Q U W H D=>zB4 ((f_u3.fr W).eq ((H 6 Z).trans h6)) ⟨_,Z,⟨_,Z,Z,by decide⟩⟩)<|oa<|oz
 intro R w m n p d j
 replace h6:=k1 n h6
 have h31:=p.r 1 Z
 replace f_u3:=f_u3.fr m
 refine HT.cond (x1==([117]:List UInt8)) h31 (fun c42=>?_) (fun c42=>?_)
 have c:=zAK c42 c
 refine HT.skip ?_
 refine HT.cond (x1==([117]:List UInt8)) h31 (fun c43=>?_) (fun c43=>absurd (c42.symm.trans c43) (by decide))
 refine HT.su d j (eI 0::[]) ?_ ?_
 exact op (fun Q U W H D=>zA0 Z)<|oz
 intro R w m n p d j
 have h2:=p.r 0 Z
 refine HT.ret ?_
 obtain rfl:=si c
 exact ⟨.inr Z,[R 2],⟨Z,N⟩,h2,j⟩
 have c:=zAL c42 c
 refine HT.u d j (eB (x1==([121]:List UInt8))::eB (x1==([121]:List UInt8))::[]) ?_ ?_
 exact op (fun Q U W H D=>zB4 ((f_u3.fr W).eq ((H 6 Z).trans h6)) ⟨_,Z,⟨_,Z,Z,by decide⟩⟩)<|oa<|oz
 intro R w m n p d j
 replace h6:=k1 n h6
 have h31:=p.r 1 Z
 replace f_u3:=f_u3.fr m
 refine HT.cond (x1==([121]:List UInt8)) h31 (fun c44=>?_) (fun c44=>?_)
 have c:=zAK c44 c
 refine HT.su d j (eI 0::[]) ?_ ?_
 exact op (fun Q U W H D=>zA0 Z)<|oz
 intro R w m n p d j
 have h2:=p.r 0 Z
 refine HT.ret ?_
 obtain rfl:=si c
 exact ⟨.inr Z,[R 2],⟨Z,N⟩,h2,j⟩
 have c:=zAL c44 c
 refine HT.seq ?_
 refine HT.su d j (eB (x1==([104]:List UInt8))::eB (x1==([104]:List UInt8))::[]) ?_ ?_
 exact op (fun Q U W H D=>zB4 ((f_u3.fr W).eq ((H 6 Z).trans h6)) ⟨_,Z,⟨_,Z,Z,by decide⟩⟩)<|oa<|oz
 intro R w m n p d j
 replace h6:=k1 n h6
 have h38:=p.r 1 Z
 replace f_u3:=f_u3.fr m
 refine HT.cond (x1==([104]:List UInt8)) h38 (fun c45=>?_) (fun c45=>?_)
 have c:=zAK c45 c
 refine HT.skip ?_
 refine HT.cond (x1==([104]:List UInt8)) h38 (fun c46=>?_) (fun c46=>absurd (c45.symm.trans c46) (by decide))
 refine HT.su d j (eI (-1)::[]) ?_ ?_
 exact op (fun Q U W H D=>zA0 Z)<|oz
 intro R w m n p d j
 have h2:=p.r 0 Z
 refine HT.ret ?_
 obtain rfl:=si c
 exact ⟨.inr Z,[R 2],⟨Z,N⟩,h2,j⟩
 have c:=zAL c45 c
 refine HT.u d j (eB (x1==([119]:List UInt8))::eB (x1==([119]:List UInt8))::[]) ?_ ?_
 exact op (fun Q U W H D=>zB4 ((f_u3.fr W).eq ((H 6 Z).trans h6)) ⟨_,Z,⟨_,Z,Z,by decide⟩⟩)<|oa<|oz
 intro R w m n p d j
 have h38:=p.r 1 Z
 refine HT.cond (x1==([119]:List UInt8)) h38 (fun c47=>?_) (fun c47=>?_)
 have c:=zAK c47 c
 refine HT.su d j (eI (-1)::[]) ?_ ?_
 exact op (fun Q U W H D=>zA0 Z)<|oz
 intro R w m n p d j
 have h2:=p.r 0 Z
 refine HT.ret ?_
 obtain rfl:=si c
 exact ⟨.inr Z,[R 2],⟨Z,N⟩,h2,j⟩
 have c:=zAL c47 c
 refine HT.skip ?_
 refine HT.su d j (eI (-2)::[]) ?_ ?_
 exact op (fun Q U W H D=>zA0 Z)<|oz
 intro R w m n p d j
 have h2:=p.r 0 Z
 refine HT.ret ?_
 obtain rfl:=si c
 exact ⟨.inr Z,[R 2],⟨Z,N⟩,h2,j⟩
def zAh (fu : Nat) (p0 : List UInt8) : Nat → Int → Int → (List Int) → Option (Ex (List UInt8) (List Int))
 | 0,_,_,_=>none
 | k+1,y5,y6,y7=>
 bif (decide (y6<(p0.length:Int))) then (
 ck (inR y6 p0.length) <|
 cl true (zD8 fu (bAt p0 y6)) fun x10=>
 bif (x10==(-2)) then (
 some (Ex.ret ([]:List UInt8))
 ) else (
 bif (y6==0) then (
 ck (subR 0 1 p0.length) <|
 cl true (zBX fu (subL p0 0 1)) fun x16=>
 ck (inR 0 x16.length) <|
 ck (zCV (y7.length+([(bAt x16 0)]:List Int).length)) <|
 ck (i64B (y6+1)) <|
 zAh fu p0 k x10 (y6+1) (y7++([(bAt x16 0)]:List Int))
 ) else (
 bd ((decide (0<x10))&&(x10 != y5)) fun x22=>
 bd (x22&&(decide ((y7.length:Int)<4))) fun x24=>
 bif x24 then (
 ck (i64B (48+x10)) <|
 ck (zCV (y7.length+([(IntKind.u8.wrap (48+x10))]:List Int).length)) <|
 bif (decide (0≤x10)) then (
 ck (i64B (y6+1)) <|
 zAh fu p0 k x10 (y6+1) (y7++([(IntKind.u8.wrap (48+x10))]:List Int))
 ) else (
 ck (i64B (y6+1)) <|
 zAh fu p0 k y5 (y6+1) (y7++([(IntKind.u8.wrap (48+x10))]:List Int))
 )
 ) else (
 bif (decide (0≤x10)) then (
 ck (i64B (y6+1)) <|
 zAh fu p0 k x10 (y6+1) y7
 ) else (
 ck (i64B (y6+1)) <|
 zAh fu p0 k y5 (y6+1) y7
 )
 )
 )
 )
 ) else (
 some (Ex.go y7)
 )
def zBk (fu : Nat) : Nat → (List Int) → Option (List Int)
 | 0,_=>none
 | k+1,y41=>
 bif (decide ((y41.length:Int)<4)) then (
 ck (zCV (y41.length+([48]:List Int).length)) <|
 zBk fu k (y41++([48]:List Int))
 ) else (
 some y41
 )
def zDZ (fu:Nat) (p0:List UInt8):Option (List UInt8):=
 cl true (zAh fu p0 fu 0 0 ([]:List Int)) fun rl2=>
 exM rl2 (fun r=>some r) fun s4=>
 bif ((s4.length:Int)==0) then (
 some ([]:List UInt8)
 ) else (
 cl true (zBk fu fu s4) fun s40=>
 some (strB s40)
 )
theorem zHR {fu : Nat} {A0 : Av} {p0 : List UInt8} {r : List UInt8} (c : zDZ fu p0 = some r) {w : World} {v0 : Value} (d : AvOK A0 w) (h0 : Rep eStr A0 w v0 p0) :
 Calls prog 159 #[v0] w fun e w'=>∃ v,e = .returned v∧(Rep eStr A0 w' v r∧Fr w w'):=by
 unfold zDZ at c
 obtain ⟨w0,hw0⟩:∃ w0,w0=w:=⟨_,Z⟩
 have j:Fr w0 w:=hw0 ▸ Fr.refl _
 have C:∀ b o,A0 b o→b<w0.heap.size:=fun b o h=>hw0 ▸ d b o h
 have hA00:AvOK A0 w0:=C
 rw [show Fr w=Fr w0 from hw0 ▸ Z]
 clear hw0
 obtain ⟨A,hAe⟩:∃ A,A=A0:=⟨_,Z⟩
 have B:∀ b o,A0 b o→A b o:=fun b o h=>hAe ▸ h
 replace d:AvOK A w:=hAe ▸ d
 have q:IniOK [] A w:=IniOK.nil
 refine zA2 [.tmp 2] func159 ntmps159 (by decide) Z Z (nb Z) ?_
 intro R hR
 have f_v0:Rep eStr A w v0 p0:=hAe ▸ h0
 replace h0:R 0=v0:=hR 0 _ Z
 clear hR hAe
 refine HT.su d j (eF (.rep eStr A ([]:List UInt8))::[]) ?_ ?_
 exact op (fun Q U W H D=>zA0 ⟨_,Z,⟨_,Z,Z,by decide⟩⟩)<|oz
 intro R w m n p d j
 replace h0:=k1 n h0
 replace f_v0:=f_v0.fr m
 replace q:=q.fr m
 refine HT.sx [] (⟨_,true,[],some (.vec w0.heap.size 5 (eInt .u8) ([]:List Int)),true,fun A=>.any⟩::⟨_,true,[0],some (.vec w0.heap.size 5 (eInt .u8) ([]:List Int)),true,fun A=>.any⟩::[]) (ua (ua (UAll.nil))) q d ?_ ?_
 exact rc (OblR.made _ Z Z Z Z fun V Q U O D=>by exact zBb [] (E:=eInt .u8) N underlying22 sizeOf5 zeroValue5 Z Z Z (Nat.le_trans j.size O.ch.size))<|rc (OblR.took 0 _ _ Z Z Z Z Z fun V Q U O D u hok hav hin hop hds=>by exact zAH (hop _ _ Z Z Z Z).symm hok hav)<|rz
 intro done ρ σ A R w y s
 replace h0:=k1 s.rg h0
 obtain ⟨u1,e_u1⟩:∃ u,ρ 1=u:=⟨_,Z⟩
 have h3:=s.ov y 1 1 e_u1
 replace f_v0:=f_v0.stp s.stp
 obtain ⟨B,j,d⟩:=s.s B C j q N
 replace q:=s.left y [(1,ob u1 (.vec w0.heap.size 5 (eInt .u8) ([]:List Int)))] ⟨Z,Z,e_u1,Z,Z,N⟩
 refine HT.su d j (eI 0::[]) ?_ ?_
 exact op (fun Q U W H D=>zA0 Z)<|oz
 intro R w m n p d j
 obtain ⟨h0,h3⟩:=k2 n h0 h3
 have h4:=p.r 0 Z
 replace f_v0:=f_v0.fr m
 replace q:=q.fr m
 refine HT.seq ?_
 refine HT.su d j (eI 0::[]) ?_ ?_
 exact op (fun Q U W H D=>zA0 Z)<|oz
 intro R w m n p d j
 obtain ⟨h0,h3,h4⟩:=k3 n h0 h3 h4
 have h5:=p.r 0 Z
 replace f_v0:=f_v0.fr m
 replace q:=q.fr m
 obtain ⟨rl2,q3,c⟩:=zA3 c
 replace q3:=q3 Z
 refine HT.cut0 (fun R w=>∃ A:Av,∃ (s4:(List Int)) (uo_u1:Value),rl2=Ex.go s4∧AvOK A w∧Fr w0 w∧(∀ b o,A0 b o→A b o)∧IniOK [ob uo_u1 (.vec w0.heap.size 5 (eInt .u8) s4)] A w∧R 3=uo_u1) ?_ ?_
 refine HT.block ?_
 refine HT.loop (fun k R w=>∃ A:Av,∃ (y5:Int) (y6:Int) (y7:List Int) (ul_u1:Value),zAh fu p0 k y5 y6 y7=some rl2∧AvOK A w∧Fr w0 w∧(∀ b o,A0 b o→A b o)∧IniOK [ob ul_u1 (.vec w0.heap.size 5 (eInt .u8) y7)] A w∧R 0=v0∧R 3=ul_u1∧R 4 = .int .i64 y5∧R 5 = .int .i64 y6∧Rep eStr A w v0 p0) fu ⟨_,_,_,_,u1,q3,d,j,B,q,h0,h3,h4,h5,f_v0⟩ ?_
 have hr0:=c;clear c q3
 rintro k R w ⟨A,y5,y6,y7,ul_u1,c,d,j,B,q,h0,h3,h4,h5,f_v0⟩
 rcases k with _ | k
 cases (show none=some _ from c)
 rw [zAh] at c
 refine HT.seq ?_
 refine HT.su d j (eI y6::eR v0::eI (p0.length:Int)::eB (decide (y6<(p0.length:Int)))::[]) ?_ ?_
 exact om h5<|om h0<|op (fun Q U W H D=>zAG ((f_v0.fr W).eq (D.g 0 Z)) underlying9)<|op (fun Q U W H D=>zAf (D.g 0 Z) (D.g 1 Z))<|oz
 intro R w m n p d j
 obtain ⟨h0,h3,h4,h5⟩:=k4 n h0 h3 h4 h5
 have h11:=p.r 3 Z
 replace f_v0:=f_v0.fr m
 replace q:=q.fr m
 refine HT.cond (decide (y6<(p0.length:Int))) h11 (fun c8=>?_) (fun c8=>?_)
 have c:=zAK c8 c
 refine HT.skip ?_
 refine HT.seq ?_
 refine HT.block ?_
 obtain ⟨e9,c⟩:=zA4 c
 obtain ⟨x10,q11,c⟩:=zA3 c
 refine HT.su d j (eR v0::eI y6::eU (bAt p0 y6)::eI x10::eI x10::[]) ?_ ?_
 exact om h0<|om h5<|op (fun Q U W H D=>zA8 ((f_v0.fr W).eq (D.g 0 Z)) (D.g 1 Z) underlying9 e9)<|op (fun Q U W H D=>zA6 call210 (zGe (q11 Z) (d.fr W.size) (D.g 0 Z)))<|oa<|oz
 intro R w m n p d j
 obtain ⟨h0,h3,h4,h5⟩:=k4 n h0 h3 h4 h5
 have h6:=p.r 4 Z
 replace f_v0:=f_v0.fr m
 replace q:=q.fr m
 refine HT.seq ?_
 refine HT.su d j (eI x10::eB (x10==(-2))::[]) ?_ ?_
 exact om h6<|op (fun Q U W H D=>zBA (D.g 0 Z) Z)<|oz
 intro R w m n p d j
 obtain ⟨h0,h3,h4,h5,h6⟩:=k5 n h0 h3 h4 h5 h6
 have h19:=p.r 1 Z
 replace f_v0:=f_v0.fr m
 replace q:=q.fr m
 refine HT.cond (x10==(-2)) h19 (fun c12=>?_) (fun c12=>?_)
 have c:=zAK c12 c
 refine HT.su d j (eF (.rep eStr A ([]:List UInt8))::[]) ?_ ?_
 exact op (fun Q U W H D=>zA0 ⟨_,Z,⟨_,Z,Z,by decide⟩⟩)<|oz
 intro R w m n p d j
 obtain ⟨u13,h2,f_u13⟩:∃ u,R 2=u∧Rep eStr A w u ([]:List UInt8):=⟨_,Z,p 0 _ _ Z Z Z⟩
 replace q:=q.fr m
 replace q:IniOK [] A w:=q.sub [] N
 refine HT.ret ?_
 obtain rfl:=si c
 have c:=hr0
 replace c:some _=some _:=c
 obtain rfl:=si c
 exact ⟨.inr Z,[R 2],⟨Z,N⟩,(f_u13.eq h2).down B,j⟩
 have c:=zAL c12 c
 refine HT.skip ?_
 refine HT.seq ?_
 refine HT.su d j (eI y6::eB (y6==0)::[]) ?_ ?_
 exact om h5<|op (fun Q U W H D=>zBA (D.g 0 Z) Z)<|oz
 intro R w m n p d j
 obtain ⟨h0,h3,h4,h5,h6⟩:=k5 n h0 h3 h4 h5 h6
 have h21:=p.r 1 Z
 replace f_v0:=f_v0.fr m
 replace q:=q.fr m
 refine HT.cond (y6==0) h21 (fun c14=>?_) (fun c14=>?_)
 have c:=zAK c14 c
 obtain ⟨e15,c⟩:=zA4 c
 obtain ⟨x16,q17,c⟩:=zA3 c
 obtain ⟨e18,e19,c⟩:=ck2 c
 refine HT.sx [ob ul_u1 (.vec w0.heap.size 5 (eInt .u8) y7)] (rR ul_u1::rR v0::(rF fun A=>.rep eStr A (subL p0 0 1))::(rF fun A=>.rep eStr A x16)::rU (bAt x16 0)::(rF fun A=>.rep (eSl (eInt .u8)) A ([(bAt x16 0)]:List Int))::⟨_,true,[0],some (.vec w0.heap.size 5 (eInt .u8) (y7++([(bAt x16 0)]:List Int))),true,fun A=>.any⟩::⟨_,true,[7],some (.vec w0.heap.size 5 (eInt .u8) (y7++([(bAt x16 0)]:List Int))),true,fun A=>.any⟩::[]) (ur (ur (up (up (ur (up (ua (ua (UAll.nil))))))))) q d ?_ ?_
 exact rm h3<|rm h0<|rp (fun V Q U O D=>zE4 ((f_v0.stp O.stp).eq (D.g 0 Z)) Z underlying9  e15)<|rp (fun V Q U O D=>zA6 call133 (zDI (q17 Z) O.av (D.g 0 Z)))<|rp (fun V Q U O D=>zA8 (D.g 0 Z) Z underlying9 e18)<|rp (fun V Q U O D=>zBZ [_] (E:=eInt .u8) ⟨(zAe.eq (D.g 0 Z)),N⟩ underlying22 sizeOf5 zeroValue5 Z Z Z O.av)<|rc (OblR.took 0 _ _ Z Z Z Z Z fun V Q U O D u hok hav hin hop hds=>by have a0:Q 22=ul_u1:=D.g 0 Z;have a1:Rep (eSl (eInt .u8)) V U (Q 27) ([(bAt x16 0)]:List Int):=D.g 1 Z;exact zAw (a0.trans (hin _ Z).symm) hok hav (Nat.le_trans j.size O.ch.size) a1 underlying22 el_5 e19)<|rc (OblR.took 7 _ _ Z Z Z Z Z fun V Q U O D u hok hav hin hop hds=>by exact zAH (hop _ _ Z Z Z Z).symm hok hav)<|rz
 intro done ρ σ A R w y s
 obtain ⟨h0,h5,h6⟩:=k3 s.rg h0 h5 h6
 obtain ⟨u20,e_u20⟩:∃ u,ρ 8=u:=⟨_,Z⟩
 have h3:=s.ov y 8 7 e_u20
 replace f_v0:=f_v0.stp s.stp
 obtain ⟨B,j,d⟩:=s.s B C j q ⟨Z,N⟩
 replace q:=s.left y [(8,ob u20 (.vec w0.heap.size 5 (eInt .u8) (y7++([(bAt x16 0)]:List Int))))] ⟨Z,Z,e_u20,Z,Z,N⟩
 refine HT.su d j (eI x10::eI x10::[]) ?_ ?_
 exact om h6<|oa<|oz
 intro R w m n p d j
 obtain ⟨h0,h3,h5⟩:=k3 n h0 h3 h5
 have h4:=p.r 1 Z
 replace f_v0:=f_v0.fr m
 replace q:=q.fr m
 refine HT.exit ?_
 obtain ⟨e21,c⟩:=zA4 c
 refine HT.u d j (eI y6::eI (y6+1)::eI (y6+1)::[]) ?_ ?_
 exact om h5<|op (fun Q U W H D=>zAN (D.g 0 Z) Z e21)<|oa<|oz
 intro R w m n p d j
 obtain ⟨h0,h3,h4⟩:=k3 n h0 h3 h4
 have h5:=p.r 2 Z
 replace f_v0:=f_v0.fr m
 replace q:=q.fr m
 exact ei k (And.intro (Nat.lt_succ_self k) ⟨_,_,_,_,u20,c,d,j,B,q,h0,h3,h4,h5,f_v0⟩)
 have c:=zAL c14 c
 refine HT.skip ?_
 refine HT.seq ?_
 refine HT.seq ?_
 obtain ⟨x22,q23,c⟩:=zAB c
 obtain ⟨x24,q25,c⟩:=zAB c
 refine HT.u d j (eI x10::eB (decide (0<x10))::eB (decide (0<x10))::gI (true&&((decide (0<x10))==true)) x10::gI (true&&((decide (0<x10))==true)) y5::gB (true&&((decide (0<x10))==true)) (x10 != y5)::eB x22::eB x22::gR (true&&(x22==true)) ul_u1::gI (true&&(x22==true)) (y7.length:Int)::gB (true&&(x22==true)) (decide ((y7.length:Int)<4))::eB x24::[]) ?_ ?_
 exact om h6<|op (fun Q U W H D=>zCM (D.g 0 Z) Z)<|ov<|gm 2 true h6<|gm 2 true h4<|og 2 true (fun G Q U W H D=>zEc (D.h 0 G Z) (D.h 1 G Z))<|op (fun Q U W H D=>zAC (decide (0<x10)) (D.g 0 Z) (fun hc=>by have a1:Q 35 = .bool (x10 != y5):=D 1 _ _ _ Z Z Z Z (zAZ Z (zAM hc));show _=Value.bool x22;rw [q23,hc];exact a1) (fun hc=>by show _=Value.bool x22;rw [q23,hc];exact Z))<|ov<|gm 7 true h3<|og 7 true (fun G Q U W H D=>zCG (q.ok 0 _ Z).1 (D.h 0 G Z) underlying22)<|og 7 true (fun G Q U W H D=>zAf (D.h 0 G Z) Z)<|op (fun Q U W H D=>zAC x22 (D.g 0 Z) (fun hc=>by have a1:Q 40 = .bool (decide ((y7.length:Int)<4)):=D 1 _ _ _ Z Z Z Z (zAZ Z (zAM hc));show _=Value.bool x24;rw [q25,hc];exact a1) (fun hc=>by show _=Value.bool x24;rw [q25,hc];exact Z))<|oz
 intro R w m n p d j
 obtain ⟨h0,h3,h4,h5,h6⟩:=k5 n h0 h3 h4 h5 h6
 have h41:=p.r 11 Z
 replace f_v0:=f_v0.fr m
 replace q:=q.fr m
 refine HT.cond x24 h41 (fun c26=>?_) (fun c26=>?_)
 have c:=zAK c26 c
 obtain ⟨e27,e28,c⟩:=ck2 c
 refine HT.x [ob ul_u1 (.vec w0.heap.size 5 (eInt .u8) y7)] (rR ul_u1::rI x10::rI (48+x10)::rU (IntKind.u8.wrap (48+x10))::(rF fun A=>.rep (eSl (eInt .u8)) A ([(IntKind.u8.wrap (48+x10))]:List Int))::⟨_,true,[0],some (.vec w0.heap.size 5 (eInt .u8) (y7++([(IntKind.u8.wrap (48+x10))]:List Int))),true,fun A=>.any⟩::⟨_,true,[6],some (.vec w0.heap.size 5 (eInt .u8) (y7++([(IntKind.u8.wrap (48+x10))]:List Int))),true,fun A=>.any⟩::[]) (ur (ur (ur (ur (up (ua (ua (UAll.nil)))))))) q d ?_ ?_
 exact rm h3<|rm h6<|rp (fun V Q U O D=>zAN Z (D.g 0 Z) e27)<|rp (fun V Q U O D=>zDn (D.g 0 Z) underlying3 underlying5)<|rp (fun V Q U O D=>zBZ [_] (E:=eInt .u8) ⟨(zAe.eq (D.g 0 Z)),N⟩ underlying22 sizeOf5 zeroValue5 Z Z Z O.av)<|rc (OblR.took 0 _ _ Z Z Z Z Z fun V Q U O D u hok hav hin hop hds=>by have a0:Q 42=ul_u1:=D.g 0 Z;have a1:Rep (eSl (eInt .u8)) V U (Q 46) ([(IntKind.u8.wrap (48+x10))]:List Int):=D.g 1 Z;exact zAw (a0.trans (hin _ Z).symm) hok hav (Nat.le_trans j.size O.ch.size) a1 underlying22 el_5 e28)<|rc (OblR.took 6 _ _ Z Z Z Z Z fun V Q U O D u hok hav hin hop hds=>by exact zAH (hop _ _ Z Z Z Z).symm hok hav)<|rz
 intro done ρ σ A R w y s
 obtain ⟨h0,h4,h5,h6⟩:=k4 s.rg h0 h4 h5 h6
 obtain ⟨u29,e_u29⟩:∃ u,ρ 7=u:=⟨_,Z⟩
 have h3:=s.ov y 7 6 e_u29
 replace f_v0:=f_v0.stp s.stp
 obtain ⟨B,j,d⟩:=s.s B C j q ⟨Z,N⟩
 replace q:=s.left y [(7,ob u29 (.vec w0.heap.size 5 (eInt .u8) (y7++([(IntKind.u8.wrap (48+x10))]:List Int))))] ⟨Z,Z,e_u29,Z,Z,N⟩
 refine HT.su d j (eI x10::eB (decide (0≤x10))::[]) ?_ ?_
 exact om h6<|op (fun Q U W H D=>zDt (D.g 0 Z) Z)<|oz
 intro R w m n p d j
 obtain ⟨h0,h3,h4,h5,h6⟩:=k5 n h0 h3 h4 h5 h6
 have h49:=p.r 1 Z
 replace f_v0:=f_v0.fr m
 replace q:=q.fr m
 refine HT.cond (decide (0≤x10)) h49 (fun c30=>?_) (fun c30=>?_)
 have c:=zAK c30 c
 refine HT.u d j (eI x10::eI x10::[]) ?_ ?_
 exact om h6<|oa<|oz
 intro R w m n p d j
 obtain ⟨h0,h3,h5⟩:=k3 n h0 h3 h5
 have h4:=p.r 1 Z
 replace f_v0:=f_v0.fr m
 replace q:=q.fr m
 obtain ⟨e31,c⟩:=zA4 c
 refine HT.u d j (eI y6::eI (y6+1)::eI (y6+1)::[]) ?_ ?_
 exact om h5<|op (fun Q U W H D=>zAN (D.g 0 Z) Z e31)<|oa<|oz
 intro R w m n p d j
 obtain ⟨h0,h3,h4⟩:=k3 n h0 h3 h4
 have h5:=p.r 2 Z
 replace f_v0:=f_v0.fr m
 replace q:=q.fr m
 exact ei k (And.intro (Nat.lt_succ_self k) ⟨_,_,_,_,u29,c,d,j,B,q,h0,h3,h4,h5,f_v0⟩)
 have c:=zAL c30 c
 refine HT.skip ?_
 obtain ⟨e32,c⟩:=zA4 c
 refine HT.u d j (eI y6::eI (y6+1)::eI (y6+1)::[]) ?_ ?_
 exact om h5<|op (fun Q U W H D=>zAN (D.g 0 Z) Z e32)<|oa<|oz
 intro R w m n p d j
 obtain ⟨h0,h3,h4⟩:=k3 n h0 h3 h4
 have h5:=p.r 2 Z
 replace f_v0:=f_v0.fr m
 replace q:=q.fr m
 exact ei k (And.intro (Nat.lt_succ_self k) ⟨_,_,_,_,u29,c,d,j,B,q,h0,h3,h4,h5,f_v0⟩)
 have c:=zAL c26 c
 refine HT.skip ?_
 refine HT.su d j (eI x10::eB (decide (0≤x10))::[]) ?_ ?_
 exact om h6<|op (fun Q U W H D=>zDt (D.g 0 Z) Z)<|oz
 intro R w m n p d j
 obtain ⟨h0,h3,h4,h5,h6⟩:=k5 n h0 h3 h4 h5 h6
 have h49:=p.r 1 Z
 replace f_v0:=f_v0.fr m
 replace q:=q.fr m
 refine HT.cond (decide (0≤x10)) h49 (fun c33=>?_) (fun c33=>?_)
 have c:=zAK c33 c
 refine HT.u d j (eI x10::eI x10::[]) ?_ ?_
 exact om h6<|oa<|oz
 intro R w m n p d j
 obtain ⟨h0,h3,h5⟩:=k3 n h0 h3 h5
 have h4:=p.r 1 Z
 replace f_v0:=f_v0.fr m
 replace q:=q.fr m
 obtain ⟨e34,c⟩:=zA4 c
 refine HT.u d j (eI y6::eI (y6+1)::eI (y6+1)::[]) ?_ ?_
 exact om h5<|op (fun Q U W H D=>zAN (D.g 0 Z) Z e34)<|oa<|oz
 intro R w m n p d j
 obtain ⟨h0,h3,h4⟩:=k3 n h0 h3 h4
 have h5:=p.r 2 Z
 replace f_v0:=f_v0.fr m
 replace q:=q.fr m
 exact ei k (And.intro (Nat.lt_succ_self k) ⟨_,_,_,_,ul_u1,c,d,j,B,q,h0,h3,h4,h5,f_v0⟩)
 have c:=zAL c33 c
 refine HT.skip ?_
 obtain ⟨e35,c⟩:=zA4 c
 refine HT.u d j (eI y6::eI (y6+1)::eI (y6+1)::[]) ?_ ?_
 exact om h5<|op (fun Q U W H D=>zAN (D.g 0 Z) Z e35)<|oa<|oz
 intro R w m n p d j
 obtain ⟨h0,h3,h4⟩:=k3 n h0 h3 h4
 have h5:=p.r 2 Z
 replace f_v0:=f_v0.fr m
 replace q:=q.fr m
 exact ei k (And.intro (Nat.lt_succ_self k) ⟨_,_,_,_,ul_u1,c,d,j,B,q,h0,h3,h4,h5,f_v0⟩)
 have c:=zAL c8 c
 refine HT.exit ?_
 obtain rfl:=si c
 exact ei _ ⟨_,ul_u1,Z,d,j,B,q,h3⟩
 rintro R w ⟨A,s4,uo_u1,rfl,d,j,B,q,h3⟩
 have c:=zEP c
 refine HT.seq ?_
 refine HT.su d j (eR uo_u1::eI (s4.length:Int)::eB ((s4.length:Int)==0)::[]) ?_ ?_
 exact om h3<|op (fun Q U W H D=>zCG (q.ok 0 _ Z).1 (D.g 0 Z) underlying22)<|op (fun Q U W H D=>zBA (D.g 0 Z) Z)<|oz
 intro R w m n p d j
 replace h3:=k1 n h3
 have h53:=p.r 2 Z
 replace q:=q.fr m
 refine HT.cond ((s4.length:Int)==0) h53 (fun c36=>?_) (fun c36=>?_)
 have c:=zAK c36 c
 refine HT.su d j (eF (.rep eStr A ([]:List UInt8))::[]) ?_ ?_
 exact op (fun Q U W H D=>zA0 ⟨_,Z,⟨_,Z,Z,by decide⟩⟩)<|oz
 intro R w m n p d j
 obtain ⟨u37,h2,f_u37⟩:∃ u,R 2=u∧Rep eStr A w u ([]:List UInt8):=⟨_,Z,p 0 _ _ Z Z Z⟩
 replace q:=q.fr m
 replace q:IniOK [] A w:=q.sub [] N
 refine HT.ret ?_
 obtain rfl:=si c
 exact ⟨.inr Z,[R 2],⟨Z,N⟩,(f_u37.eq h2).down B,j⟩
 have c:=zAL c36 c
 refine HT.skip ?_
 obtain ⟨rl38,q39,c⟩:=zA3 c
 replace q39:=q39 Z
 refine HT.cut (fun R w=>∃ A:Av,∃ (s40:(List Int)) (uo_uo_u1:Value),rl38=s40∧AvOK A w∧Fr w0 w∧(∀ b o,A0 b o→A b o)∧IniOK [ob uo_uo_u1 (.vec w0.heap.size 5 (eInt .u8) s40)] A w∧R 3=uo_uo_u1) ?_ ?_
 refine HT.block ?_
 refine HT.loop (fun k R w=>∃ A:Av,∃ (y41:List Int) (ul_uo_u1:Value),zBk fu k y41=some rl38∧AvOK A w∧Fr w0 w∧(∀ b o,A0 b o→A b o)∧IniOK [ob ul_uo_u1 (.vec w0.heap.size 5 (eInt .u8) y41)] A w∧R 3=ul_uo_u1) fu ⟨_,_,uo_u1,q39,d,j,B,q,h3⟩ ?_
 have hr0:=c;clear c q39
 rintro k R w ⟨A,y41,ul_uo_u1,c,d,j,B,q,h3⟩
 rcases k with _ | k
 cases (show none=some _ from c)
 rw [zBk] at c
 refine HT.seq ?_
 refine HT.su d j (eR ul_uo_u1::eI (y41.length:Int)::eB (decide ((y41.length:Int)<4))::[]) ?_ ?_
 exact om h3<|op (fun Q U W H D=>zCG (q.ok 0 _ Z).1 (D.g 0 Z) underlying22)<|op (fun Q U W H D=>zAf (D.g 0 Z) Z)<|oz
 intro R w m n p d j
 replace h3:=k1 n h3
 have h56:=p.r 2 Z
 replace q:=q.fr m
 refine HT.cond (decide ((y41.length:Int)<4)) h56 (fun c42=>?_) (fun c42=>?_)
 have c:=zAK c42 c
 refine HT.skip ?_
 refine HT.block ?_
 obtain ⟨e43,c⟩:=zA4 c
 refine HT.x [ob ul_uo_u1 (.vec w0.heap.size 5 (eInt .u8) y41)] (rR ul_uo_u1::(rF fun A=>.rep (eSl (eInt .u8)) A ([48]:List Int))::⟨_,true,[0],some (.vec w0.heap.size 5 (eInt .u8) (y41++([48]:List Int))),true,fun A=>.any⟩::⟨_,true,[3],some (.vec w0.heap.size 5 (eInt .u8) (y41++([48]:List Int))),true,fun A=>.any⟩::[]) (ur (up (ua (ua (UAll.nil))))) q d ?_ ?_
 exact rm h3<|rp (fun V Q U O D=>zBZ [_] (E:=eInt .u8) ⟨(zAe.eq Z),N⟩ underlying22 sizeOf5 zeroValue5 Z Z Z O.av)<|rc (OblR.took 0 _ _ Z Z Z Z Z fun V Q U O D u hok hav hin hop hds=>by have a0:Q 57=ul_uo_u1:=D.g 0 Z;have a1:Rep (eSl (eInt .u8)) V U (Q 58) ([48]:List Int):=D.g 1 Z;exact zAw (a0.trans (hin _ Z).symm) hok hav (Nat.le_trans j.size O.ch.size) a1 underlying22 el_5 e43)<|rc (OblR.took 3 _ _ Z Z Z Z Z fun V Q U O D u hok hav hin hop hds=>by exact zAH (hop _ _ Z Z Z Z).symm hok hav)<|rz
 intro done ρ σ A R w y s
 obtain ⟨u44,e_u44⟩:∃ u,ρ 4=u:=⟨_,Z⟩
 have h3:=s.ov y 4 3 e_u44
 obtain ⟨B,j,d⟩:=s.s B C j q ⟨Z,N⟩
 replace q:=s.left y [(4,ob u44 (.vec w0.heap.size 5 (eInt .u8) (y41++([48]:List Int))))] ⟨Z,Z,e_u44,Z,Z,N⟩
 exact ei k (And.intro (Nat.lt_succ_self k) ⟨_,_,u44,c,d,j,B,q,h3⟩)
 have c:=zAL c42 c
 refine HT.exit ?_
 obtain rfl:=si c
 exact ei _ ⟨_,ul_uo_u1,Z,d,j,B,q,h3⟩
 rintro R w ⟨A,s40,uo_uo_u1,es,d,j,B,q,h3⟩
 obtain rfl:=es.symm
 refine HT.su d j (eR uo_uo_u1::eF (.rep eStr A (strB s40))::eF (.rep eStr A (strB s40))::[]) ?_ ?_
 exact om h3<|op (fun Q U W H D=>zBF ((zCD ((q.fr W).ok 0 _ Z).1 B C).eq (D.g 0 Z)) underlying22 underlying5 underlying9)<|op (fun Q U W H D=>zA0 (D.g 0 Z))<|oz
 intro R w m n p d j
 obtain ⟨u45,h2,f_u45⟩:∃ u,R 2=u∧Rep eStr A w u (strB s40):=⟨_,Z,p 2 _ _ Z Z Z⟩
 replace q:=q.fr m
 replace q:IniOK [] A w:=q.sub [] N
 refine HT.ret ?_
 obtain rfl:=si c
 exact ⟨.inr Z,[R 2],⟨Z,N⟩,(f_u45.eq h2).down B,j⟩
def zBE (fu : Nat) (x2 : List (List UInt8)) : Nat → Int → (List (List UInt8)) → Option (List (List UInt8))
 | 0,_,_=>none
 | k+1,y8,y9=>
 bif (decide (y8<(x2.length:Int))) then (
 ck (inR y8 x2.length) <|
 cl true (zDZ fu (gtD x2 y8)) fun x12=>
 bif (!(x12==([]:List UInt8))) then (
 cl true (zCc fu y9 x12 false) fun x16=>
 ck (i64B (y8+1)) <|
 zBE fu x2 k (y8+1) x16
 ) else (
 ck (i64B (y8+1)) <|
 zBE fu x2 k (y8+1) y9
 )
 ) else (
 some y9
 )
def zC8 (fu:Nat) (p0:List UInt8):Option (List (List UInt8)):=
 cl true (zCf fu p0) fun x2=>
 cl true (zBE fu x2 fu 0 ([]:List (List UInt8))) fun s7=>
 some s7
theorem zGc {fu : Nat} {A0 : Av} {p0 : List UInt8} {r : List (List UInt8)} (c : zC8 fu p0 = some r) {w : World} {v0 : Value} (d : AvOK A0 w) (h0 : Rep eStr A0 w v0 p0) :
 Calls prog 108 #[v0] w fun e w'=>∃ v,e = .returned v∧((Res.vec w.heap.size 9 eStr r).ok (addA A0 v) v w'∧Fr w w'):=by
 unfold zC8 at c
 obtain ⟨w0,hw0⟩:∃ w0,w0=w:=⟨_,Z⟩
 have j:Fr w0 w:=hw0 ▸ Fr.refl _
 have C:∀ b o,A0 b o→b<w0.heap.size:=fun b o h=>hw0 ▸ d b o h
 have hA00:AvOK A0 w0:=C
 rw [show w.heap.size=w0.heap.size from hw0 ▸ Z]
 rw [show Fr w=Fr w0 from hw0 ▸ Z]
 clear hw0
 obtain ⟨A,hAe⟩:∃ A,A=A0:=⟨_,Z⟩
 have B:∀ b o,A0 b o→A b o:=fun b o h=>hAe ▸ h
 replace d:AvOK A w:=hAe ▸ d
 have q:IniOK [] A w:=IniOK.nil
 refine zA2 [.tmp 2] func108 ntmps108 (by decide) Z Z (nb Z) ?_
 intro R hR
 have f_v0:Rep eStr A w v0 p0:=hAe ▸ h0
 replace h0:R 0=v0:=hR 0 _ Z
 clear hR hAe
 refine HT.su d j (eA::[]) ?_ ?_
 exact op (fun Q U W H D=>zA0 N)<|oz
 intro R w m n p d j
 replace h0:=k1 n h0
 replace f_v0:=f_v0.fr m
 replace q:=q.fr m
 refine HT.sx [] (⟨_,true,[],some (.vec w0.heap.size 9 eStr ([]:List (List UInt8))),true,fun A=>.any⟩::⟨_,true,[0],some (.vec w0.heap.size 9 eStr ([]:List (List UInt8))),true,fun A=>.any⟩::[]) (ua (ua (UAll.nil))) q d ?_ ?_
 exact rc (OblR.made _ Z Z Z Z fun V Q U O D=>by exact zBb [] (E:=eStr) N underlying46 sizeOf9 zeroValue9 Z Z Z (Nat.le_trans j.size O.ch.size))<|rc (OblR.took 0 _ _ Z Z Z Z Z fun V Q U O D u hok hav hin hop hds=>by exact zAH (hop _ _ Z Z Z Z).symm hok hav)<|rz
 intro done ρ σ A R w y s
 replace h0:=k1 s.rg h0
 obtain ⟨u1,e_u1⟩:∃ u,ρ 1=u:=⟨_,Z⟩
 have h3:=s.ov y 1 1 e_u1
 replace f_v0:=f_v0.stp s.stp
 obtain ⟨B,j,d⟩:=s.s B C j q N
 replace q:=s.left y [(1,ob u1 (.vec w0.heap.size 9 eStr ([]:List (List UInt8))))] ⟨Z,Z,e_u1,Z,Z,N⟩
 obtain ⟨x2,q3,c⟩:=zA3 c
 refine HT.su d j (eR v0::eF (.rep (eSl eStr) A x2)::eF (.rep (eSl eStr) A x2)::[]) ?_ ?_
 exact om h0<|op (fun Q U W H D=>zA6 call111 (zEI (q3 Z) (d.fr W.size) ((f_v0.fr W).eq (D.g 0 Z))))<|op (fun Q U W H D=>zA0 (D.g 0 Z))<|oz
 intro R w m n p d j
 replace h3:=k1 n h3
 obtain ⟨u4,h4,f_u4⟩:∃ u,R 4=u∧Rep (eSl eStr) A w u x2:=⟨_,Z,p 2 _ _ Z Z Z⟩
 replace q:=q.fr m
 refine HT.seq ?_
 refine HT.su d j (eI 0::[]) ?_ ?_
 exact op (fun Q U W H D=>zA0 Z)<|oz
 intro R w m n p d j
 obtain ⟨h3,h4⟩:=k2 n h3 h4
 have h5:=p.r 0 Z
 replace f_u4:=f_u4.fr m
 replace q:=q.fr m
 obtain ⟨rl5,q6,c⟩:=zA3 c
 replace q6:=q6 Z
 refine HT.cut0 (fun R w=>∃ A:Av,∃ (s7:(List (List UInt8))) (uo_u1:Value),rl5=s7∧AvOK A w∧Fr w0 w∧(∀ b o,A0 b o→A b o)∧IniOK [ob uo_u1 (.vec w0.heap.size 9 eStr s7)] A w∧R 3=uo_u1) ?_ ?_
 refine HT.block ?_
 refine HT.loop (fun k R w=>∃ A:Av,∃ (y8:Int) (y9:List (List UInt8)) (ul_u1:Value),zBE fu x2 k y8 y9=some rl5∧AvOK A w∧Fr w0 w∧(∀ b o,A0 b o→A b o)∧IniOK [ob ul_u1 (.vec w0.heap.size 9 eStr y9)] A w∧R 3=ul_u1∧R 4=u4∧R 5 = .int .i64 y8∧Rep (eSl eStr) A w u4 x2) fu ⟨_,_,_,u1,q6,d,j,B,q,h3,h4,h5,f_u4⟩ ?_
 have hr0:=c;clear c q6
 rintro k R w ⟨A,y8,y9,ul_u1,c,d,j,B,q,h3,h4,h5,f_u4⟩
 rcases k with _ | k
 cases (show none=some _ from c)
 rw [zBE] at c
 refine HT.seq ?_
 refine HT.su d j (eI y8::eR u4::eI (x2.length:Int)::eB (decide (y8<(x2.length:Int)))::[]) ?_ ?_
 exact om h5<|om h4<|op (fun Q U W H D=>zAb (aT:=#[]) ((f_u4.fr W).eq (D.g 0 Z)) underlying46)<|op (fun Q U W H D=>zAf (D.g 0 Z) (D.g 1 Z))<|oz
 intro R w m n p d j
 obtain ⟨h3,h4,h5⟩:=k3 n h3 h4 h5
 have h13:=p.r 3 Z
 replace f_u4:=f_u4.fr m
 replace q:=q.fr m
 refine HT.cond (decide (y8<(x2.length:Int))) h13 (fun c10=>?_) (fun c10=>?_)
 have c:=zAK c10 c
 refine HT.skip ?_
 refine HT.seq ?_
 refine HT.block ?_
 obtain ⟨e11,c⟩:=zA4 c
 obtain ⟨x12,q13,c⟩:=zA3 c
 refine HT.su d j (eR u4::eI y8::eF (.qtr eStr A (gtD x2 y8))::eF (.rep eStr A (gtD x2 y8))::eF (.rep eStr A x12)::eF (.rep eStr A x12)::[]) ?_ ?_
 exact om h4<|om h5<|op (fun Q U W H D=>zA7 ((f_u4.fr W).eq (D.g 0 Z)) (D.g 1 Z) underlying46 sizeOf9 e11)<|op (fun Q U W H D=>(zAQ (QRep.ptr (D.g 0 Z)) isAgg9 sizeOf9))<|op (fun Q U W H D=>zA6 call159 (zHR (q13 Z) (d.fr W.size) (D.g 0 Z)))<|op (fun Q U W H D=>zA0 (D.g 0 Z))<|oz
 intro R w m n p d j
 obtain ⟨h3,h4,h5⟩:=k3 n h3 h4 h5
 obtain ⟨u14,h6,f_u14⟩:∃ u,R 6=u∧Rep eStr A w u x12:=⟨_,Z,p 5 _ _ Z Z Z⟩
 replace f_u4:=f_u4.fr m
 replace q:=q.fr m
 refine HT.su d j (eR u14::eB (!(x12==([]:List UInt8)))::[]) ?_ ?_
 exact om h6<|op (fun Q U W H D=>zFW ((f_u14.fr W).eq (D.g 0 Z)) ⟨_,Z,⟨_,Z,Z,by decide⟩⟩)<|oz
 intro R w m n p d j
 obtain ⟨h3,h4,h5,h6⟩:=k4 n h3 h4 h5 h6
 have h22:=p.r 1 Z
 replace f_u14:=f_u14.fr m
 replace f_u4:=f_u4.fr m
 replace q:=q.fr m
 refine HT.cond (!(x12==([]:List UInt8))) h22 (fun c15=>?_) (fun c15=>?_)
 have c:=zAK c15 c
 obtain ⟨x16,q17,c⟩:=zA3 c
 refine HT.x [ob ul_u1 (.vec w0.heap.size 9 eStr y9)] (rR ul_u1::rR u14::⟨_,true,[0],some (.vec w0.heap.size 9 eStr x16),true,fun A=>.any⟩::⟨_,true,[3],some (.vec w0.heap.size 9 eStr x16),true,fun A=>.any⟩::[]) (ur (ur (ua (ua (UAll.nil))))) q d ?_ ?_
 exact rm h3<|rm h6<|rc (OblR.took 0 _ _ Z Z Z Z Z fun V Q U O D u hok hav hin hop hds=>by have a0:Q 23=ul_u1:=D.g 0 Z;have a1:Q 24=u14:=D.g 1 Z;have ra1:=(f_u14.stp O.stp).eq a1;have hu0:zAD Q (.tmp 23)=u:=a0.trans (hin _ Z).symm;exact zEh call109 hav (by simp only [List.map,hu0];exact zDN (q17 Z) (O.av.sub _) (fun b o h=>h.2) (Nat.le_trans j.size O.ch.size) (Vec.flat hok (fun _ _ _ _ _ h=>h)) (ra1.less fun b o h=>h.1) Z))<|rc (OblR.took 3 _ _ Z Z Z Z Z fun V Q U O D u hok hav hin hop hds=>by exact zAH (hop _ _ Z Z Z Z).symm hok hav)<|rz
 intro done ρ σ A R w y s
 obtain ⟨h4,h5⟩:=k2 s.rg h4 h5
 obtain ⟨u18,e_u18⟩:∃ u,ρ 4=u:=⟨_,Z⟩
 have h3:=s.ov y 4 3 e_u18
 replace f_u4:=f_u4.stp s.stp
 obtain ⟨B,j,d⟩:=s.s B C j q ⟨Z,N⟩
 replace q:=s.left y [(4,ob u18 (.vec w0.heap.size 9 eStr x16))] ⟨Z,Z,e_u18,Z,Z,N⟩
 obtain ⟨e19,c⟩:=zA4 c
 refine HT.u d j (eI y8::eI (y8+1)::eI (y8+1)::[]) ?_ ?_
 exact om h5<|op (fun Q U W H D=>zAN (D.g 0 Z) Z e19)<|oa<|oz
 intro R w m n p d j
 obtain ⟨h3,h4⟩:=k2 n h3 h4
 have h5:=p.r 2 Z
 replace f_u4:=f_u4.fr m
 replace q:=q.fr m
 exact ei k (And.intro (Nat.lt_succ_self k) ⟨_,_,_,u18,c,d,j,B,q,h3,h4,h5,f_u4⟩)
 have c:=zAL c15 c
 refine HT.skip ?_
 obtain ⟨e20,c⟩:=zA4 c
 refine HT.u d j (eI y8::eI (y8+1)::eI (y8+1)::[]) ?_ ?_
 exact om h5<|op (fun Q U W H D=>zAN (D.g 0 Z) Z e20)<|oa<|oz
 intro R w m n p d j
 obtain ⟨h3,h4⟩:=k2 n h3 h4
 have h5:=p.r 2 Z
 replace f_u4:=f_u4.fr m
 replace q:=q.fr m
 exact ei k (And.intro (Nat.lt_succ_self k) ⟨_,_,_,ul_u1,c,d,j,B,q,h3,h4,h5,f_u4⟩)
 have c:=zAL c10 c
 refine HT.exit ?_
 obtain rfl:=si c
 exact ei _ ⟨_,ul_u1,Z,d,j,B,q,h3⟩
 rintro R w ⟨A,s7,uo_u1,es,d,j,B,q,h3⟩
 obtain rfl:=es.symm
 refine HT.su d j (eR uo_u1::eR uo_u1::[]) ?_ ?_
 exact om h3<|oa<|oz
 intro R w m n p d j
 have h2:=p.r 1 Z
 replace q:=q.fr m
 refine HT.ret ?_
 obtain rfl:=si c
 exact ⟨.inr Z,[R 2],⟨Z,N⟩,(zCT (q.ok 0 _ Z) B h2),j⟩
theorem zEW {fu : Nat} {A0 : Av} {p0 : List UInt8} {r : List (List UInt8)} (c : zC8 fu p0 = some r) {w : World} {v0 : Value} (d : AvOK A0 w) (h0 : Rep eStr A0 w v0 p0) :
 Calls prog 108 #[v0] w fun e w'=>∃ v,e = .returned v∧(Rep (eSl eStr) A0 w' v r∧Fr w w'):=by
 refine Calls.mono (zGc c d h0) ?_
 rintro e w' ⟨v,he,hv,hf⟩
 exact ⟨v,he,zCD hv (fun b o h=>.inl h) d,hf⟩
def zAy (fu : Nat) (p0 : List UInt8) : Nat → Int → (List Int) → Option (List Int)
 | 0,_,_=>none
 | k+1,y5,y6=>
 bif (decide (y5<(p0.length:Int))) then (
 ck (inR y5 p0.length) <|
 ck (!(true&&((decide (48≤(bAt p0 y5)))==true)) || inR y5 p0.length) <|
 bd ((decide (48≤(bAt p0 y5)))&&(decide ((bAt p0 y5)≤57))) fun x10=>
 bif x10 then (
 ck (inR y5 p0.length) <|
 ck (zCV (y6.length+([(bAt p0 y5)]:List Int).length)) <|
 ck (i64B (y5+1)) <|
 zAy fu p0 k (y5+1) (y6++([(bAt p0 y5)]:List Int))
 ) else (
 ck (i64B (y5+1)) <|
 zAy fu p0 k (y5+1) y6
 )
 ) else (
 some y6
 )
def zCj (fu:Nat) (p0:List UInt8):Option (List UInt8):=
 cl true (zAy fu p0 fu 0 ([]:List Int)) fun s4=>
 some (strB s4)
theorem zF7 {fu : Nat} {A0 : Av} {p0 : List UInt8} {r : List UInt8} (c : zCj fu p0 = some r) {w : World} {v0 : Value} (d : AvOK A0 w) (h0 : Rep eStr A0 w v0 p0) :
 Calls prog 110 #[v0] w fun e w'=>∃ v,e = .returned v∧(Rep eStr A0 w' v r∧Fr w w'):=by
 unfold zCj at c
 obtain ⟨w0,hw0⟩:∃ w0,w0=w:=⟨_,Z⟩
 have j:Fr w0 w:=hw0 ▸ Fr.refl _
 have C:∀ b o,A0 b o→b<w0.heap.size:=fun b o h=>hw0 ▸ d b o h
 have hA00:AvOK A0 w0:=C
 rw [show Fr w=Fr w0 from hw0 ▸ Z]
 clear hw0
 obtain ⟨A,hAe⟩:∃ A,A=A0:=⟨_,Z⟩
 have B:∀ b o,A0 b o→A b o:=fun b o h=>hAe ▸ h
 replace d:AvOK A w:=hAe ▸ d
 have q:IniOK [] A w:=IniOK.nil
 refine zA2 [.tmp 2] func110 ntmps110 (by decide) Z Z (nb Z) ?_
 intro R hR
 have f_v0:Rep eStr A w v0 p0:=hAe ▸ h0
 replace h0:R 0=v0:=hR 0 _ Z
 clear hR hAe
 refine HT.su d j (eF (.rep eStr A ([]:List UInt8))::[]) ?_ ?_
 exact op (fun Q U W H D=>zA0 ⟨_,Z,⟨_,Z,Z,by decide⟩⟩)<|oz
 intro R w m n p d j
 replace h0:=k1 n h0
 replace f_v0:=f_v0.fr m
 replace q:=q.fr m
 refine HT.sx [] (⟨_,true,[],some (.vec w0.heap.size 5 (eInt .u8) ([]:List Int)),true,fun A=>.any⟩::⟨_,true,[0],some (.vec w0.heap.size 5 (eInt .u8) ([]:List Int)),true,fun A=>.any⟩::[]) (ua (ua (UAll.nil))) q d ?_ ?_
 exact rc (OblR.made _ Z Z Z Z fun V Q U O D=>by exact zBb [] (E:=eInt .u8) N underlying22 sizeOf5 zeroValue5 Z Z Z (Nat.le_trans j.size O.ch.size))<|rc (OblR.took 0 _ _ Z Z Z Z Z fun V Q U O D u hok hav hin hop hds=>by exact zAH (hop _ _ Z Z Z Z).symm hok hav)<|rz
 intro done ρ σ A R w y s
 replace h0:=k1 s.rg h0
 obtain ⟨u1,e_u1⟩:∃ u,ρ 1=u:=⟨_,Z⟩
 have h3:=s.ov y 1 1 e_u1
 replace f_v0:=f_v0.stp s.stp
 obtain ⟨B,j,d⟩:=s.s B C j q N
 replace q:=s.left y [(1,ob u1 (.vec w0.heap.size 5 (eInt .u8) ([]:List Int)))] ⟨Z,Z,e_u1,Z,Z,N⟩
 refine HT.seq ?_
 refine HT.su d j (eI 0::[]) ?_ ?_
 exact op (fun Q U W H D=>zA0 Z)<|oz
 intro R w m n p d j
 obtain ⟨h0,h3⟩:=k2 n h0 h3
 have h4:=p.r 0 Z
 replace f_v0:=f_v0.fr m
 replace q:=q.fr m
 obtain ⟨rl2,q3,c⟩:=zA3 c
 replace q3:=q3 Z
 refine HT.cut0 (fun R w=>∃ A:Av,∃ (s4:(List Int)) (uo_u1:Value),rl2=s4∧AvOK A w∧Fr w0 w∧(∀ b o,A0 b o→A b o)∧IniOK [ob uo_u1 (.vec w0.heap.size 5 (eInt .u8) s4)] A w∧R 3=uo_u1) ?_ ?_
 refine HT.block ?_
 refine HT.loop (fun k R w=>∃ A:Av,∃ (y5:Int) (y6:List Int) (ul_u1:Value),zAy fu p0 k y5 y6=some rl2∧AvOK A w∧Fr w0 w∧(∀ b o,A0 b o→A b o)∧IniOK [ob ul_u1 (.vec w0.heap.size 5 (eInt .u8) y6)] A w∧R 0=v0∧R 3=ul_u1∧R 4 = .int .i64 y5∧Rep eStr A w v0 p0) fu ⟨_,_,_,u1,q3,d,j,B,q,h0,h3,h4,f_v0⟩ ?_
 have hr0:=c;clear c q3
 rintro k R w ⟨A,y5,y6,ul_u1,c,d,j,B,q,h0,h3,h4,f_v0⟩
 rcases k with _ | k
 cases (show none=some _ from c)
 rw [zAy] at c
 refine HT.seq ?_
 refine HT.su d j (eI y5::eR v0::eI (p0.length:Int)::eB (decide (y5<(p0.length:Int)))::[]) ?_ ?_
 exact om h4<|om h0<|op (fun Q U W H D=>zAG ((f_v0.fr W).eq (D.g 0 Z)) underlying9)<|op (fun Q U W H D=>zAf (D.g 0 Z) (D.g 1 Z))<|oz
 intro R w m n p d j
 obtain ⟨h0,h3,h4⟩:=k3 n h0 h3 h4
 have h9:=p.r 3 Z
 replace f_v0:=f_v0.fr m
 replace q:=q.fr m
 refine HT.cond (decide (y5<(p0.length:Int))) h9 (fun c7=>?_) (fun c7=>?_)
 have c:=zAK c7 c
 refine HT.skip ?_
 refine HT.seq ?_
 refine HT.block ?_
 refine HT.seq ?_
 obtain ⟨e8,e9,c⟩:=ck2 c
 obtain ⟨x10,q11,c⟩:=zAB c
 refine HT.u d j (eR v0::eI y5::eU (bAt p0 y5)::eB (decide (48≤(bAt p0 y5)))::eB (decide (48≤(bAt p0 y5)))::gR (true&&((decide (48≤(bAt p0 y5)))==true)) v0::gI (true&&((decide (48≤(bAt p0 y5)))==true)) y5::gU (true&&((decide (48≤(bAt p0 y5)))==true)) (bAt p0 y5)::gB (true&&((decide (48≤(bAt p0 y5)))==true)) (decide ((bAt p0 y5)≤57))::eB x10::[]) ?_ ?_
 exact om h0<|om h4<|op (fun Q U W H D=>zA8 ((f_v0.fr W).eq (D.g 0 Z)) (D.g 1 Z) underlying9 e8)<|op (fun Q U W H D=>zDt (D.g 0 Z) Z)<|ov<|gm 4 true h0<|gm 4 true h4<|og 4 true (fun G Q U W H D=>zA8 ((f_v0.fr W).eq (D.h 0 G Z)) (D.h 1 G Z) underlying9 (gd e9 G))<|og 4 true (fun G Q U W H D=>zDu (D.h 0 G Z) Z)<|op (fun Q U W H D=>zAC (decide (48≤(bAt p0 y5))) (D.g 0 Z) (fun hc=>by have a1:Q 20 = .bool (decide ((bAt p0 y5)≤57)):=D 1 _ _ _ Z Z Z Z (zAZ Z (zAM hc));show _=Value.bool x10;rw [q11,hc];exact a1) (fun hc=>by show _=Value.bool x10;rw [q11,hc];exact Z))<|oz
 intro R w m n p d j
 obtain ⟨h0,h3,h4⟩:=k3 n h0 h3 h4
 have h21:=p.r 9 Z
 replace f_v0:=f_v0.fr m
 replace q:=q.fr m
 refine HT.cond x10 h21 (fun c12=>?_) (fun c12=>?_)
 have c:=zAK c12 c
 obtain ⟨e13,e14,c⟩:=ck2 c
 refine HT.x [ob ul_u1 (.vec w0.heap.size 5 (eInt .u8) y6)] (rR ul_u1::rR v0::rI y5::rU (bAt p0 y5)::(rF fun A=>.rep (eSl (eInt .u8)) A ([(bAt p0 y5)]:List Int))::⟨_,true,[0],some (.vec w0.heap.size 5 (eInt .u8) (y6++([(bAt p0 y5)]:List Int))),true,fun A=>.any⟩::⟨_,true,[6],some (.vec w0.heap.size 5 (eInt .u8) (y6++([(bAt p0 y5)]:List Int))),true,fun A=>.any⟩::[]) (ur (ur (ur (ur (up (ua (ua (UAll.nil)))))))) q d ?_ ?_
 exact rm h3<|rm h0<|rm h4<|rp (fun V Q U O D=>zA8 ((f_v0.stp O.stp).eq (D.g 0 Z)) (D.g 1 Z) underlying9 e13)<|rp (fun V Q U O D=>zBZ [_] (E:=eInt .u8) ⟨(zAe.eq (D.g 0 Z)),N⟩ underlying22 sizeOf5 zeroValue5 Z Z Z O.av)<|rc (OblR.took 0 _ _ Z Z Z Z Z fun V Q U O D u hok hav hin hop hds=>by have a0:Q 22=ul_u1:=D.g 0 Z;have a1:Rep (eSl (eInt .u8)) V U (Q 26) ([(bAt p0 y5)]:List Int):=D.g 1 Z;exact zAw (a0.trans (hin _ Z).symm) hok hav (Nat.le_trans j.size O.ch.size) a1 underlying22 el_5 e14)<|rc (OblR.took 6 _ _ Z Z Z Z Z fun V Q U O D u hok hav hin hop hds=>by exact zAH (hop _ _ Z Z Z Z).symm hok hav)<|rz
 intro done ρ σ A R w y s
 obtain ⟨h0,h4⟩:=k2 s.rg h0 h4
 obtain ⟨u15,e_u15⟩:∃ u,ρ 7=u:=⟨_,Z⟩
 have h3:=s.ov y 7 6 e_u15
 replace f_v0:=f_v0.stp s.stp
 obtain ⟨B,j,d⟩:=s.s B C j q ⟨Z,N⟩
 replace q:=s.left y [(7,ob u15 (.vec w0.heap.size 5 (eInt .u8) (y6++([(bAt p0 y5)]:List Int))))] ⟨Z,Z,e_u15,Z,Z,N⟩
 obtain ⟨e16,c⟩:=zA4 c
 refine HT.u d j (eI y5::eI (y5+1)::eI (y5+1)::[]) ?_ ?_
 exact om h4<|op (fun Q U W H D=>zAN (D.g 0 Z) Z e16)<|oa<|oz
 intro R w m n p d j
 obtain ⟨h0,h3⟩:=k2 n h0 h3
 have h4:=p.r 2 Z
 replace f_v0:=f_v0.fr m
 replace q:=q.fr m
 exact ei k (And.intro (Nat.lt_succ_self k) ⟨_,_,_,u15,c,d,j,B,q,h0,h3,h4,f_v0⟩)
 have c:=zAL c12 c
 refine HT.skip ?_
 obtain ⟨e17,c⟩:=zA4 c
 refine HT.u d j (eI y5::eI (y5+1)::eI (y5+1)::[]) ?_ ?_
 exact om h4<|op (fun Q U W H D=>zAN (D.g 0 Z) Z e17)<|oa<|oz
 intro R w m n p d j
 obtain ⟨h0,h3⟩:=k2 n h0 h3
 have h4:=p.r 2 Z
 replace f_v0:=f_v0.fr m
 replace q:=q.fr m
 exact ei k (And.intro (Nat.lt_succ_self k) ⟨_,_,_,ul_u1,c,d,j,B,q,h0,h3,h4,f_v0⟩)
 have c:=zAL c7 c
 refine HT.exit ?_
 obtain rfl:=si c
 exact ei _ ⟨_,ul_u1,Z,d,j,B,q,h3⟩
 rintro R w ⟨A,s4,uo_u1,es,d,j,B,q,h3⟩
 obtain rfl:=es.symm
 refine HT.su d j (eR uo_u1::eF (.rep eStr A (strB s4))::eF (.rep eStr A (strB s4))::[]) ?_ ?_
 exact om h3<|op (fun Q U W H D=>zBF ((zCD ((q.fr W).ok 0 _ Z).1 B C).eq (D.g 0 Z)) underlying22 underlying5 underlying9)<|op (fun Q U W H D=>zA0 (D.g 0 Z))<|oz
 intro R w m n p d j
 obtain ⟨u18,h2,f_u18⟩:∃ u,R 2=u∧Rep eStr A w u (strB s4):=⟨_,Z,p 2 _ _ Z Z Z⟩
 replace q:=q.fr m
 replace q:IniOK [] A w:=q.sub [] N
 refine HT.ret ?_
 obtain rfl:=si c
 exact ⟨.inr Z,[R 2],⟨Z,N⟩,(f_u18.eq h2).down B,j⟩
def zB3 (fu : Nat) : Nat → Int → (List UInt8) → Option (List UInt8)
 | 0,_,_=>none
 | k+1,y7,y8=>
 bif (y7 != 0) then (
 ck ((10:Int) != 0) <|
 bif (decide ((y7.tmod 10)<0)) then (
 ck (i64B (0-(y7.tmod 10))) <|
 ck (i64B (48+(0-(y7.tmod 10)))) <|
 ck (zCV ((strB ([(IntKind.u8.wrap (48+(0-(y7.tmod 10))))]:List Int))++y8).length) <|
 ck ((10:Int) != 0) <|
 ck (i64B (y7.tdiv 10)) <|
 zB3 fu k (y7.tdiv 10) ((strB ([(IntKind.u8.wrap (48+(0-(y7.tmod 10))))]:List Int))++y8)
 ) else (
 ck (i64B (48+(y7.tmod 10))) <|
 ck (zCV ((strB ([(IntKind.u8.wrap (48+(y7.tmod 10)))]:List Int))++y8).length) <|
 ck ((10:Int) != 0) <|
 ck (i64B (y7.tdiv 10)) <|
 zB3 fu k (y7.tdiv 10) ((strB ([(IntKind.u8.wrap (48+(y7.tmod 10)))]:List Int))++y8)
 )
 ) else (
 some y8
 )
def zC6 (fu:Nat) (p0:Int):Option (List UInt8):=
 bif (p0==0) then (
 some ([48]:List UInt8)
 ) else (
 cl true (zB3 fu fu p0 ([]:List UInt8)) fun s6=>
 bif (decide (p0<0)) then (
 ck (zCV (([45]:List UInt8)++s6).length) <|
 some (([45]:List UInt8)++s6)
 ) else (
 some s6
 )
 )
theorem zEt {fu : Nat} {A : Av} {p0 : Int} {r : List UInt8} (c : zC6 fu p0 = some r) {w : World} {v0 : Value} (d : AvOK A w) (h0 : v0 = .int .i64 p0) :
 Calls prog 88 #[v0] w fun e w'=>∃ v,e = .returned v∧(Rep eStr A w' v r∧Fr w w'):=by
 unfold zC6 at c
 obtain ⟨w0,hw0⟩:∃ w0,w0=w:=⟨_,Z⟩
 have j:Fr w0 w:=hw0 ▸ Fr.refl _
 rw [show Fr w=Fr w0 from hw0 ▸ Z]
 clear hw0
 refine zA2 [.tmp 2] func88 ntmps88 (by decide) Z Z (nb Z) ?_
 intro R hR
 replace h0:R 0 = .int .i64 p0:=(hR 0 _ Z).trans h0
 clear hR
 refine HT.su d j (eF (.rep eStr A ([]:List UInt8))::[]) ?_ ?_
 exact op (fun Q U W H D=>zA0 ⟨_,Z,⟨_,Z,Z,by decide⟩⟩)<|oz
 intro R w m n p d j
 replace h0:=k1 n h0
 refine HT.seq ?_
 refine HT.su d j (eI p0::eB (p0==0)::[]) ?_ ?_
 exact om h0<|op (fun Q U W H D=>zBA (D.g 0 Z) Z)<|oz
 intro R w m n p d j
 replace h0:=k1 n h0
 have h7:=p.r 1 Z
 refine HT.cond (p0==0) h7 (fun c1=>?_) (fun c1=>?_)
 have c:=zAK c1 c
 refine HT.su d j (eF (.rep eStr A ([48]:List UInt8))::[]) ?_ ?_
 exact op (fun Q U W H D=>zA0 ⟨_,Z,⟨_,Z,Z,by decide⟩⟩)<|oz
 intro R w m n p d j
 obtain ⟨u2,h2,f_u2⟩:∃ u,R 2=u∧Rep eStr A w u ([48]:List UInt8):=⟨_,Z,p 0 _ _ Z Z Z⟩
 refine HT.ret ?_
 obtain rfl:=si c
 exact ⟨.inr Z,[R 2],⟨Z,N⟩,(f_u2.eq h2),j⟩
 have c:=zAL c1 c
 refine HT.skip ?_
 refine HT.su d j (eF (.rep eStr A ([]:List UInt8))::[]) ?_ ?_
 exact op (fun Q U W H D=>zA0 ⟨_,Z,⟨_,Z,Z,by decide⟩⟩)<|oz
 intro R w m n p d j
 replace h0:=k1 n h0
 obtain ⟨u3,h3,f_u3⟩:∃ u,R 3=u∧Rep eStr A w u ([]:List UInt8):=⟨_,Z,p 0 _ _ Z Z Z⟩
 refine HT.su d j (eI p0::eB (decide (p0<0))::eB (decide (p0<0))::[]) ?_ ?_
 exact om h0<|op (fun Q U W H D=>zAf (D.g 0 Z) Z)<|oa<|oz
 intro R w m n p d j
 obtain ⟨h0,h3⟩:=k2 n h0 h3
 have h4:=p.r 2 Z
 replace f_u3:=f_u3.fr m
 obtain ⟨rl4,q5,c⟩:=zA3 c
 replace q5:=q5 Z
 refine HT.cut (fun R w=>∃ (s6:(List UInt8)) (wo_3:Value),rl4=s6∧AvOK A w∧Fr w0 w∧R 3=wo_3∧R 4 = .bool (decide (p0<0))∧Rep eStr A w wo_3 s6) ?_ ?_
 refine HT.block ?_
 refine HT.loop (fun k R w=>∃ (y7:Int) (y8:List UInt8) (wl_3:Value),zB3 fu k y7 y8=some rl4∧AvOK A w∧Fr w0 w∧R 0 = .int .i64 y7∧R 3=wl_3∧R 4 = .bool (decide (p0<0))∧Rep eStr A w wl_3 y8) fu ⟨_,_,u3,q5,d,j,h0,h3,h4,f_u3⟩ ?_
 have hr0:=c;clear c q5
 rintro k R w ⟨y7,y8,wl_3,c,d,j,h0,h3,h4,f_wl_3⟩
 rcases k with _ | k
 cases (show none=some _ from c)
 rw [zB3] at c
 refine HT.seq ?_
 refine HT.su d j (eI y7::eB (y7 != 0)::[]) ?_ ?_
 exact om h0<|op (fun Q U W H D=>zEc (D.g 0 Z) Z)<|oz
 intro R w m n p d j
 obtain ⟨h0,h3,h4⟩:=k3 n h0 h3 h4
 have h11:=p.r 1 Z
 replace f_wl_3:=f_wl_3.fr m
 refine HT.cond (y7 != 0) h11 (fun c9=>?_) (fun c9=>?_)
 have c:=zAK c9 c
 refine HT.skip ?_
 refine HT.block ?_
 obtain ⟨e10,c⟩:=zA4 c
 refine HT.su d j (eI y7::eI (y7.tmod 10)::eI (y7.tmod 10)::[]) ?_ ?_
 exact om h0<|op (fun Q U W H D=>zOH (D.g 0 Z) Z e10)<|oa<|oz
 intro R w m n p d j
 obtain ⟨h0,h3,h4⟩:=k3 n h0 h3 h4
 have h5:=p.r 2 Z
 replace f_wl_3:=f_wl_3.fr m
 refine HT.seq ?_
 refine HT.su d j (eI (y7.tmod 10)::eB (decide ((y7.tmod 10)<0))::[]) ?_ ?_
 exact om h5<|op (fun Q U W H D=>zAf (D.g 0 Z) Z)<|oz
 intro R w m n p d j
 obtain ⟨h0,h3,h4,h5⟩:=k4 n h0 h3 h4 h5
 have h15:=p.r 1 Z
 replace f_wl_3:=f_wl_3.fr m
 refine HT.cond (decide ((y7.tmod 10)<0)) h15 (fun c11=>?_) (fun c11=>?_)
 have c:=zAK c11 c
 obtain ⟨e12,c⟩:=zA4 c
 refine HT.u d j (eI (y7.tmod 10)::eI (0-(y7.tmod 10))::eI (0-(y7.tmod 10))::[]) ?_ ?_
 exact om h5<|op (fun Q U W H D=>zO7 (D.g 0 Z) e12)<|oa<|oz
 intro R w m n p d j
 obtain ⟨h0,h3,h4⟩:=k3 n h0 h3 h4
 have h5:=p.r 2 Z
 replace f_wl_3:=f_wl_3.fr m
 obtain ⟨e13,e14,c⟩:=ck2 c
 refine HT.su d j (eI (0-(y7.tmod 10))::eI (48+(0-(y7.tmod 10)))::eU (IntKind.u8.wrap (48+(0-(y7.tmod 10))))::eF (.rep (eSl (eInt .u8)) A ([(IntKind.u8.wrap (48+(0-(y7.tmod 10))))]:List Int))::eF (.rep eStr A (strB ([(IntKind.u8.wrap (48+(0-(y7.tmod 10))))]:List Int)))::eR wl_3::eF (.rep eStr A ((strB ([(IntKind.u8.wrap (48+(0-(y7.tmod 10))))]:List Int))++y8))::eF (.rep eStr A ((strB ([(IntKind.u8.wrap (48+(0-(y7.tmod 10))))]:List Int))++y8))::[]) ?_ ?_
 exact om h5<|op (fun Q U W H D=>zAN Z (D.g 0 Z) e13)<|op (fun Q U W H D=>zDn (D.g 0 Z) underlying3 underlying5)<|op (fun Q U W H D=>zBZ [_] (E:=eInt .u8) ⟨(zAe.eq (D.g 0 Z)),N⟩ underlying22 sizeOf5 zeroValue5 Z Z Z (d.fr W.size))<|op (fun Q U W H D=>zBF (D.g 0 Z) underlying22 underlying5 underlying9)<|om h3<|op (fun Q U W H D=>zIT (D.g 0 Z) ((f_wl_3.fr W).eq (D.g 1 Z)) e14)<|op (fun Q U W H D=>zA0 (D.g 0 Z))<|oz
 intro R w m n p d j
 obtain ⟨h0,h4⟩:=k2 n h0 h4
 obtain ⟨u15,h3,f_u15⟩:∃ u,R 3=u∧Rep eStr A w u ((strB ([(IntKind.u8.wrap (48+(0-(y7.tmod 10))))]:List Int))++y8):=⟨_,Z,p 7 _ _ Z Z Z⟩
 obtain ⟨e16,e17,c⟩:=ck2 c
 refine HT.u d j (eI y7::eI (y7.tdiv 10)::eI (y7.tdiv 10)::[]) ?_ ?_
 exact om h0<|op (fun Q U W H D=>zH0 (D.g 0 Z) Z e16 e17)<|oa<|oz
 intro R w m n p d j
 obtain ⟨h3,h4⟩:=k2 n h3 h4
 have h0:=p.r 2 Z
 replace f_u15:=f_u15.fr m
 exact ei k (And.intro (Nat.lt_succ_self k) ⟨_,_,u15,c,d,j,h0,h3,h4,f_u15⟩)
 have c:=zAL c11 c
 refine HT.skip ?_
 obtain ⟨e18,e19,c⟩:=ck2 c
 refine HT.su d j (eI (y7.tmod 10)::eI (48+(y7.tmod 10))::eU (IntKind.u8.wrap (48+(y7.tmod 10)))::eF (.rep (eSl (eInt .u8)) A ([(IntKind.u8.wrap (48+(y7.tmod 10)))]:List Int))::eF (.rep eStr A (strB ([(IntKind.u8.wrap (48+(y7.tmod 10)))]:List Int)))::eR wl_3::eF (.rep eStr A ((strB ([(IntKind.u8.wrap (48+(y7.tmod 10)))]:List Int))++y8))::eF (.rep eStr A ((strB ([(IntKind.u8.wrap (48+(y7.tmod 10)))]:List Int))++y8))::[]) ?_ ?_
 exact om h5<|op (fun Q U W H D=>zAN Z (D.g 0 Z) e18)<|op (fun Q U W H D=>zDn (D.g 0 Z) underlying3 underlying5)<|op (fun Q U W H D=>zBZ [_] (E:=eInt .u8) ⟨(zAe.eq (D.g 0 Z)),N⟩ underlying22 sizeOf5 zeroValue5 Z Z Z (d.fr W.size))<|op (fun Q U W H D=>zBF (D.g 0 Z) underlying22 underlying5 underlying9)<|om h3<|op (fun Q U W H D=>zIT (D.g 0 Z) ((f_wl_3.fr W).eq (D.g 1 Z)) e19)<|op (fun Q U W H D=>zA0 (D.g 0 Z))<|oz
 intro R w m n p d j
 obtain ⟨h0,h4⟩:=k2 n h0 h4
 obtain ⟨u20,h3,f_u20⟩:∃ u,R 3=u∧Rep eStr A w u ((strB ([(IntKind.u8.wrap (48+(y7.tmod 10)))]:List Int))++y8):=⟨_,Z,p 7 _ _ Z Z Z⟩
 obtain ⟨e21,e22,c⟩:=ck2 c
 refine HT.u d j (eI y7::eI (y7.tdiv 10)::eI (y7.tdiv 10)::[]) ?_ ?_
 exact om h0<|op (fun Q U W H D=>zH0 (D.g 0 Z) Z e21 e22)<|oa<|oz
 intro R w m n p d j
 obtain ⟨h3,h4⟩:=k2 n h3 h4
 have h0:=p.r 2 Z
 replace f_u20:=f_u20.fr m
 exact ei k (And.intro (Nat.lt_succ_self k) ⟨_,_,u20,c,d,j,h0,h3,h4,f_u20⟩)
 have c:=zAL c9 c
 refine HT.exit ?_
 obtain rfl:=si c
 exact ei _ ⟨wl_3,Z,d,j,h3,h4,f_wl_3⟩
 rintro R w ⟨s6,wo_3,es,d,j,h3,h4,f_wo_3⟩
 obtain rfl:=es.symm
 refine HT.seq ?_
 refine HT.su d j (eB (decide (p0<0))::[]) ?_ ?_
 exact om h4<|oz
 intro R w m n p d j
 replace h3:=k1 n h3
 have h27:=p.r 0 Z
 replace f_wo_3:=f_wo_3.fr m
 refine HT.cond (decide (p0<0)) h27 (fun c23=>?_) (fun c23=>?_)
 have c:=zAK c23 c
 obtain ⟨e24,c⟩:=zA4 c
 refine HT.su d j (eR wo_3::eF (.rep eStr A (([45]:List UInt8)++s6))::eF (.rep eStr A (([45]:List UInt8)++s6))::[]) ?_ ?_
 exact om h3<|op (fun Q U W H D=>zIT ⟨_,Z,⟨_,Z,Z,by decide⟩⟩ ((f_wo_3.fr W).eq (D.g 0 Z)) e24)<|op (fun Q U W H D=>zA0 (D.g 0 Z))<|oz
 intro R w m n p d j
 obtain ⟨u25,h2,f_u25⟩:∃ u,R 2=u∧Rep eStr A w u (([45]:List UInt8)++s6):=⟨_,Z,p 2 _ _ Z Z Z⟩
 refine HT.ret ?_
 obtain rfl:=si c
 exact ⟨.inr Z,[R 2],⟨Z,N⟩,(f_u25.eq h2),j⟩
 have c:=zAL c23 c
 refine HT.skip ?_
 refine HT.su d j (eR wo_3::eR wo_3::[]) ?_ ?_
 exact om h3<|oa<|oz
 intro R w m n p d j
 have h2:=p.r 1 Z
 replace f_wo_3:=f_wo_3.fr m
 refine HT.ret ?_
 obtain rfl:=si c
 exact ⟨.inr Z,[R 2],⟨Z,N⟩,(f_wo_3.eq h2),j⟩
end Go.Proofs.YtcodfkieaoomnaaGreatDoor
