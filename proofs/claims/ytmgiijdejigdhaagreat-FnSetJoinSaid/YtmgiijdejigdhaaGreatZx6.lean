/- Own texts laid together. No statement of the seat is proved here. -/
import Derived.Test.YtmgiijdejigdhaaGreatZx5
import Derived.BigRegion
import Derived.Deep.RegionWith
import Derived.Laws.Rows
import Derived.LoopTactic
import Derived.OwnWalk
import Derived.Sort.Walk0
import Derived.Lib.Bytealg
namespace Go.Proofs.YtmgiijdejigdhaaGreat
open Go.RowKit
set_option linter.unusedVariables false
open _root_.Go.Proofs.Tryz
set_option maxRecDepth 100000
set_option maxHeartbeats 4000000
def zAq (fu : Nat) (p0 : List (List UInt8)) (p1 : List (List UInt8)) : Nat -> Int -> (List (List UInt8)) -> Option (List (List UInt8))
 | 0,_,_=>none
 | k+1,y5,y6=>
 bif (decide (y5<(p0.length:Int))) then (
 ck (inR y5 p0.length) <|
 cl true (zEE fu p1 (gtD p0 y5)) fun x9=>
 bif x9 then (
 ck (inR y5 p0.length) <|
 cl true (zDA fu y6 (gtD p0 y5) false) fun x13=>
 ck (i64B (y5+1)) <|
 zAq fu p0 p1 k (y5+1) x13
 ) else (
 ck (i64B (y5+1)) <|
 zAq fu p0 p1 k (y5+1) y6
 )
 ) else (
 some y6
 )
def zBx (fu:Nat) (p0:List (List UInt8)) (p1:List (List UInt8)):Option (List (List UInt8)):=
 cl true (zAq fu p0 p1 fu 0 ([]:List (List UInt8))) fun s4=>
 some s4
theorem zG4 {fu : Nat} {A0 : Av} {p0 : List (List UInt8)} {p1 : List (List UInt8)} {r : List (List UInt8)} (c : zBx fu p0 p1 = some r) {w : World} {v0 : Value} {v1 : Value} (d : AvOK A0 w) (h0 : Rep (eSl eStr) A0 w v0 p0) (h1 : Rep (eSl eStr) A0 w v1 p1) :
 Calls prog 60 #[v0,v1] w fun e w'=>∃ v,e=.returned v/\((Res.vec w.heap.size 9 eStr r).ok (addA A0 v) v w'/\Fr w w'):=by
 unfold zBx at c
 obtain ⟨w0,hw0,j,C⟩:=pw d
 have hA00:AvOK A0 w0:=C
 rw [fh hw0]
 rw [fw hw0]
 obtain ⟨A,hAe,B,d,q⟩:=pa d
 refine zAB [.tmp 4] func60 ntmps60 (by decide) Z Z (nb Z) ?_
 intro R hR
 have f_v0:Rep (eSl eStr) A w v0 p0:=hAe ▸ h0
 replace h0:R 0=v0:=hR 0 _ Z
 have f_v1:Rep (eSl eStr) A w v1 p1:=hAe ▸ h1
 replace h1:R 1=v1:=hR 1 _ Z
 refine zPR d j (eA::[]) ?_ ?_
 exact op (fun Q U W H D=>zA6 N)<|oz
 intro R w m n p d j
 obtain ⟨h0,h1⟩:=k2 n h0 h1
 replace f_v0:=f_v0.fr m
 replace f_v1:=f_v1.fr m
 replace q:=q.fr m
 refine zPS [] (⟨_,true,[],some (.vec w0.heap.size 9 eStr ([]:List (List UInt8))),true,fun A=>.any⟩::⟨_,true,[0],some (.vec w0.heap.size 9 eStr ([]:List (List UInt8))),true,fun A=>.any⟩::[]) (ua (ua (UAll.nil))) q d ?_ ?_
 exact rc (OblR.made _ Z Z Z Z fun V Q U O D=>by exact zBM [] (E:=eStr) N underlying28 sizeOf9 zeroValue9 Z Z Z (Nat.le_trans j.size O.ch.size))<|rc (OblR.took 0 _ _ Z Z Z Z Z fun V Q U O D u X Y J L M=>by exact zAP (L _ _ Z Z Z Z).symm X Y)<|rz
 intro done ρ σ A R w y s
 obtain ⟨h0,h1⟩:=k2 s.rg h0 h1
 obtain ⟨u1,e_u1⟩:∃ u,ρ 1=u:=⟨_,Z⟩
 have h5:=s.ov y 1 1 e_u1
 replace f_v0:=f_v0.stp s.stp
 replace f_v1:=f_v1.stp s.stp
 obtain ⟨B,j,d⟩:=s.s B C j q N
 replace q:=s.left y [(1,ob u1 (.vec w0.heap.size 9 eStr ([]:List (List UInt8))))] ⟨Z,Z,e_u1,Z,Z,N⟩
 refine zPQ ?_
 refine zPR d j (eI 0::[]) ?_ ?_
 exact op (fun Q U W H D=>zA6 Z)<|oz
 intro R w m n p d j
 obtain ⟨h0,h1,h5⟩:=k3 n h0 h1 h5
 have h6:=p.r 0 Z
 replace f_v0:=f_v0.fr m
 replace f_v1:=f_v1.fr m
 replace q:=q.fr m
 obtain ⟨rl2,q3,c⟩:=zA9 c
 replace q3:=q3 Z
 refine zPL (fun R w=>∃ A:Av,∃ (s4:(List (List UInt8))) (uo_u1:Value),rl2=s4/\AvOK A w/\Fr w0 w/\(∀ b o,A0 b o->A b o)/\IniOK [ob uo_u1 (.vec w0.heap.size 9 eStr s4)] A w/\R 5=uo_u1) ?_ ?_
 refine HT.block<|zPP (fun k R w=>∃ A:Av,∃ (y5:Int) (y6:List (List UInt8)) (ul_u1:Value),zAq fu p0 p1 k y5 y6=some rl2/\AvOK A w/\Fr w0 w/\(∀ b o,A0 b o->A b o)/\IniOK [ob ul_u1 (.vec w0.heap.size 9 eStr y6)] A w/\R 0=v0/\R 1=v1/\R 5=ul_u1/\R 6=.int .i64 y5/\Rep (eSl eStr) A w v0 p0/\Rep (eSl eStr) A w v1 p1) fu ⟨_,_,_,u1,q3,d,j,B,q,h0,h1,h5,h6,f_v0,f_v1⟩ ?_
 have hr0:=c;clear c q3
 rintro k R w ⟨A,y5,y6,ul_u1,c,d,j,B,q,h0,h1,h5,h6,f_v0,f_v1⟩
 rcases k with _ | k
 cases (show none=some _ from c)
 rw [zAq] at c
 refine zPQ ?_
 refine zPR d j (eI y5::eR v0::eI (p0.length:Int)::eB (decide (y5<(p0.length:Int)))::[]) ?_ ?_
 exact om h6<|om h0<|op (fun Q U W H D=>zAN (aT:=#[]) ((f_v0.fr W).eq (D.g 0 Z)) underlying28)<|op (fun Q U W H D=>zB8 (D.g 0 Z) (D.g 1 Z))<|oz
 intro R w m n p d j
 obtain ⟨h0,h1,h5,h6⟩:=k4 n h0 h1 h5 h6
 have h11:=p.r 3 Z
 replace f_v0:=f_v0.fr m
 replace f_v1:=f_v1.fr m
 replace q:=q.fr m
 refine zPJ (decide (y5<(p0.length:Int))) h11 (fun c7=>?_) (fun c7=>?_)
 have c:=zAe c7 c
 refine HT.skip<|zPQ ?_
 refine HT.block ?_
 obtain ⟨e8,c⟩:=zAG c
 obtain ⟨x9,q10,c⟩:=zA9 c
 refine zPR d j (eR v1::eR v0::eI y5::eF (.qtr eStr A (gtD p0 y5))::eF (.rep eStr A (gtD p0 y5))::eB x9::[]) ?_ ?_
 exact om h1<|om h0<|om h6<|op (fun Q U W H D=>zAC ((f_v0.fr W).eq (D.g 0 Z)) (D.g 1 Z) underlying28 sizeOf9 e8)<|op (fun Q U W H D=>(zAT (QRep.ptr (D.g 0 Z)) isAgg9 sizeOf9))<|op (fun Q U W H D=>zAM call84 (zGR (q10 Z) (d.fr W.size) ((f_v1.fr W).eq (D.g 0 Z)) (D.g 1 Z)))<|oz
 intro R w m n p d j
 obtain ⟨h0,h1,h5,h6⟩:=k4 n h0 h1 h5 h6
 have h19:=p.r 5 Z
 replace f_v0:=f_v0.fr m
 replace f_v1:=f_v1.fr m
 replace q:=q.fr m
 refine zPJ x9 h19 (fun c11=>?_) (fun c11=>?_)
 have c:=zAe c11 c
 obtain ⟨e12,c⟩:=zAG c
 obtain ⟨x13,q14,c⟩:=zA9 c
 refine zPV [ob ul_u1 (.vec w0.heap.size 9 eStr y6)] (rR ul_u1::rR v0::rI y5::(rF fun A=>.qtr eStr A (gtD p0 y5))::(rF fun A=>.rep eStr A (gtD p0 y5))::⟨_,true,[0],some (.vec w0.heap.size 9 eStr x13),true,fun A=>.any⟩::⟨_,true,[6],some (.vec w0.heap.size 9 eStr x13),true,fun A=>.any⟩::[]) (ur (ur (ur (UAll.cons zCM (up (ua (ua (UAll.nil)))))))) q d ?_ ?_
 exact rm h5<|rm h0<|rm h6<|rp (fun V Q U O D=>zAC ((f_v0.stp O.stp).eq (D.g 0 Z)) (D.g 1 Z) underlying28 sizeOf9 e12)<|rp (fun V Q U O D=>(zAT (QRep.ptr (D.g 0 Z)) isAgg9 sizeOf9))<|rc (OblR.took 0 _ _ Z Z Z Z Z fun V Q U O D u X Y J L M=>by have a0:Q 20=ul_u1:=D.g 0 Z;have a1:Rep eStr V U (Q 24) (gtD p0 y5):=D.g 1 Z;have hu0:zAL Q (.tmp 20)=u:=a0.trans (J _ Z).symm;exact zEg call74 Y (by simp only [List.map,hu0];exact zDh (q14 Z) (O.av.sub _) (fun b o h=>h.2) (Nat.le_trans j.size O.ch.size) (Vec.flat X (fun _ _ _ _ _ h=>h)) (a1.less fun b o h=>h.1) Z))<|rc (OblR.took 6 _ _ Z Z Z Z Z fun V Q U O D u X Y J L M=>by exact zAP (L _ _ Z Z Z Z).symm X Y)<|rz
 intro done ρ σ A R w y s
 obtain ⟨h0,h1,h6⟩:=k3 s.rg h0 h1 h6
 obtain ⟨u15,e_u15⟩:∃ u,ρ 7=u:=⟨_,Z⟩
 have h5:=s.ov y 7 6 e_u15
 replace f_v0:=f_v0.stp s.stp
 replace f_v1:=f_v1.stp s.stp
 obtain ⟨B,j,d⟩:=s.s B C j q ⟨Z,N⟩
 replace q:=s.left y [(7,ob u15 (.vec w0.heap.size 9 eStr x13))] ⟨Z,Z,e_u15,Z,Z,N⟩
 obtain ⟨e16,c⟩:=zAG c
 refine HT.u d j (eI y5::eI (y5+1)::eI (y5+1)::[]) ?_ ?_
 exact om h6<|op (fun Q U W H D=>zAi (D.g 0 Z) Z e16)<|oa<|oz
 intro R w m n p d j
 obtain ⟨h0,h1,h5⟩:=k3 n h0 h1 h5
 have h6:=p.r 2 Z
 replace f_v0:=f_v0.fr m
 replace f_v1:=f_v1.fr m
 replace q:=q.fr m
 exact ei k (And.intro (Nat.lt_succ_self k) ⟨_,_,_,u15,c,d,j,B,q,h0,h1,h5,h6,f_v0,f_v1⟩)
 have c:=zAd c11 c
 refine HT.skip ?_
 obtain ⟨e17,c⟩:=zAG c
 refine HT.u d j (eI y5::eI (y5+1)::eI (y5+1)::[]) ?_ ?_
 exact om h6<|op (fun Q U W H D=>zAi (D.g 0 Z) Z e17)<|oa<|oz
 intro R w m n p d j
 obtain ⟨h0,h1,h5⟩:=k3 n h0 h1 h5
 have h6:=p.r 2 Z
 replace f_v0:=f_v0.fr m
 replace f_v1:=f_v1.fr m
 replace q:=q.fr m
 exact ei k (And.intro (Nat.lt_succ_self k) ⟨_,_,_,ul_u1,c,d,j,B,q,h0,h1,h5,h6,f_v0,f_v1⟩)
 have c:=zAd c7 c
 refine zPO ?_
 obtain rfl:=si c
 exact ei _ ⟨_,ul_u1,Z,d,j,B,q,h5⟩
 rintro R w ⟨A,s4,uo_u1,es,d,j,B,q,h5⟩
 obtain rfl:=es.symm
 refine zPR d j (eR uo_u1::eR uo_u1::[]) ?_ ?_
 exact om h5<|oa<|oz
 intro R w m n p d j
 have h4:=p.r 1 Z
 replace q:=q.fr m
 refine HT.ret ?_
 obtain rfl:=si c
 exact ⟨.inr Z,[R 4],⟨Z,N⟩,(zBk (q.ok 0 _ Z) B h4),j⟩
theorem zEW {fu : Nat} {A0 : Av} {p0 : List (List UInt8)} {p1 : List (List UInt8)} {r : List (List UInt8)} (c : zBx fu p0 p1 = some r) {w : World} {v0 : Value} {v1 : Value} (d : AvOK A0 w) (h0 : Rep (eSl eStr) A0 w v0 p0) (h1 : Rep (eSl eStr) A0 w v1 p1) :
 Calls prog 60 #[v0,v1] w fun e w'=>∃ v,e=.returned v/\(Rep (eSl eStr) A0 w' v r/\Fr w w'):=by
 refine Calls.mono (zG4 c d h0 h1) ?_
 rintro e w' ⟨v,he,hv,hf⟩
 exact ⟨v,he,zDt hv (fun b o h=>.inl h) d,hf⟩
def zDJ (fu:Nat) (p0:List zA3) (p1:List (List UInt8)) (p2:List (List UInt8)) (p3:Int):Option Bool:=
 cl true (zBz fu p0 p1 p3) fun x1=>
 cl true (zBz fu p0 p2 p3) fun x3=>
 cl true (zBx fu x1 x3) fun x5=>
 some (decide (0<(x5.length:Int)))
theorem zGU {fu : Nat} {A : Av} {p0 : List zA3} {p1 : List (List UInt8)} {p2 : List (List UInt8)} {p3 : Int} {r : Bool} (c : zDJ fu p0 p1 p2 p3 = some r) {w : World} {v0 : Value} {v1 : Value} {v2 : Value} {v3 : Value} (d : AvOK A w) (h0 : Rep (eSl zA0) A w v0 p0) (h1 : Rep (eSl eStr) A w v1 p1) (h2 : Rep (eSl eStr) A w v2 p2) (h3 : v3=.int .i64 p3) :
 Calls prog 32 #[v0,v1,v2,v3] w fun e w'=>∃ v,e=.returned v/\(v=.bool r/\Fr w w'):=by
 unfold zDJ at c
 obtain ⟨w0,hw0,j⟩:=pf w
 rw [fw hw0]
 refine zAB [.tmp 8] func32 ntmps32 (by decide) Z Z (nb Z) ?_
 intro R hR
 have f_v0:=h0
 replace h0:R 0=v0:=hR 0 _ Z
 have f_v1:=h1
 replace h1:R 1=v1:=hR 1 _ Z
 have f_v2:=h2
 replace h2:R 2=v2:=hR 2 _ Z
 replace h3:R 3=.int .i64 p3:=(hR 3 _ Z).trans h3
 refine zPR d j (eB false::[]) ?_ ?_
 exact op (fun Q U W H D=>zA6 Z)<|oz
 intro R w m n p d j
 obtain ⟨h0,h1,h2,h3⟩:=k4 n h0 h1 h2 h3
 replace f_v0:=f_v0.fr m
 replace f_v1:=f_v1.fr m
 replace f_v2:=f_v2.fr m
 obtain ⟨x1,q2,c⟩:=zA9 c
 obtain ⟨x3,q4,c⟩:=zA9 c
 obtain ⟨x5,q6,c⟩:=zA9 c
 refine zPR d j (eR v0::eR v1::eI p3::eF (.rep (eSl eStr) A x1)::eR v0::eR v2::eI p3::eF (.rep (eSl eStr) A x3)::eF (.rep (eSl eStr) A x5)::eI (x5.length:Int)::eB (decide (0<(x5.length:Int)))::eB (decide (0<(x5.length:Int)))::[]) ?_ ?_
 exact om h0<|om h1<|om h3<|op (fun Q U W H D=>zAM call61 (zEU (q2 Z) (d.fr W.size) ((f_v0.fr W).eq (D.g 0 Z)) ((f_v1.fr W).eq (D.g 1 Z)) (D.g 2 Z)))<|om h0<|om h2<|om h3<|op (fun Q U W H D=>zAM call61 (zEU (q4 Z) (d.fr W.size) ((f_v0.fr W).eq (D.g 0 Z)) ((f_v2.fr W).eq (D.g 1 Z)) (D.g 2 Z)))<|op (fun Q U W H D=>zAM call60 (zEW (q6 Z) (d.fr W.size) (D.g 0 Z) (D.g 1 Z)))<|op (fun Q U W H D=>zAN (aT:=#[]) (D.g 0 Z) underlying28)<|op (fun Q U W H D=>zEH (D.g 0 Z) Z)<|oa<|oz
 intro R w m n p d j
 have h8:=p.r 11 Z
 refine HT.ret ?_
 obtain rfl:=si c
 exact ⟨.inr Z,[R 8],⟨Z,N⟩,h8,j⟩
def zB6 (fu : Nat) (p0 : zA7) (p1 : List (List UInt8)) (x13 : Int × Int) : Nat -> Int -> (List Int) -> Option (List Int)
 | 0,_,_=>none
 | k+1,y18,y19=>
 bif (decide (y18<(p0.2.2.length:Int))) then (
 ck (inR y18 p0.2.2.length) <|
 bd (((((gtD p0.2.2 y18).2).length:Int)==0)&&((p1.length:Int)==0)) fun x23=>
 cl (true&&(x23==false)) (zCe fu (((gtD p0.2.2 y18).2).length:Int) x13.1 x13.2) fun x25=>
 cl ((true&&(x23==false))&&(x25==true)) (zDJ fu p0.2.1 p1 ((gtD p0.2.2 y18).2) p0.1) fun x27=>
 bd (x25&&x27) fun x29=>
 bd (x23 || x29) fun x31=>
 bif x31 then (
 ck (inR y18 p0.2.2.length) <|
 ck (zD4 (y19.length+([(gtD p0.2.2 y18).1]:List Int).length)) <|
 ck (i64B (y18+1)) <|
 zB6 fu p0 p1 x13 k (y18+1) (y19++([(gtD p0.2.2 y18).1]:List Int))
 ) else (
 ck (i64B (y18+1)) <|
 zB6 fu p0 p1 x13 k (y18+1) y19
 )
 ) else (
 some y19
 )
def zCF (fu:Nat) (p0:zA7) (p1:List (List UInt8)):Option (List Int):=
 cl true (zAy fu p0) fun x4=>
 cl (true&&((!x4)==false)) (zBQ fu p1) fun x6=>
 bd ((!x4) || (!x6)) fun x8=>
 bd (x8 || (decide (1000<(p1.length:Int)))) fun x10=>
 bif x10 then (
 some ([]:List Int)
 ) else (
 cl true (zCS fu (p1.length:Int) p0.1) fun x13=>
 cl true (zB6 fu p0 p1 x13 fu 0 ([]:List Int)) fun s17=>
 some s17
 )
theorem zFm {fu : Nat} {A0 : Av} {p0 : zA7} {p1 : List (List UInt8)} {r : List Int} (c : zCF fu p0 p1 = some r) {w : World} {v0 : Value} {v1 : Value} (d : AvOK A0 w) (h0 : Rep zA2 A0 w v0 p0) (h1 : Rep (eSl eStr) A0 w v1 p1) :
 Calls prog 9 #[v0,v1] w fun e w'=>∃ v,e=.returned v/\((Res.vec w.heap.size 3 (eInt .i64) r).ok (addA A0 v) v w'/\Fr w w'):=by
 unfold zCF at c
 obtain ⟨w0,hw0,j,C⟩:=pw d
 have hA00:AvOK A0 w0:=C
 rw [fh hw0]
 rw [fw hw0]
 obtain ⟨A,hAe,B,d,q⟩:=pa d
 refine zAB [.tmp 4] func9 ntmps9 (by decide) Z Z (nb Z) ?_
 intro R hR
 have f_v0:Rep zA2 A w v0 p0:=hAe ▸ h0
 replace h0:R 0=v0:=hR 0 _ Z
 have f_v1:Rep (eSl eStr) A w v1 p1:=hAe ▸ h1
 replace h1:R 1=v1:=hR 1 _ Z
 refine zPS [] (⟨_,true,[],some (.box w0.heap.size 27 zA2 p0),true,fun A=>.any⟩::rA::[]) (ua (ua (UAll.nil))) q d ?_ ?_
 exact rc (OblR.made _ Z Z Z Z fun V Q U O D=>by have a0:Q 0=v0:=(O.old 0 Z).trans h0;have ra0:=(f_v0.stp O.stp).eq a0;exact zD0 ra0 (Nat.le_trans j.size O.ch.size))<|rp (fun V Q U O D=>zA6 N)<|rz
 intro done ρ σ A R w y s
 replace h1:=k1 s.rg h1
 obtain ⟨b2_0,e_b2_0⟩:=s.boxv y 0 Z Z
 have h2:=s.ov y 0 0 e_b2_0
 replace f_v1:=f_v1.stp s.stp
 obtain ⟨B,j,d⟩:=s.s B C j q N
 replace q:=s.left y [(0,ob (.pointer (some ⟨b2_0,0,none⟩)) (.box w0.heap.size 27 zA2 p0))] ⟨Z,Z,e_b2_0,Z,Z,N⟩
 refine zPS [ob (.pointer (some ⟨b2_0,0,none⟩)) (.box w0.heap.size 27 zA2 p0)] (⟨_,true,[],some (.vec w0.heap.size 3 (eInt .i64) ([]:List Int)),true,fun A=>.any⟩::⟨_,true,[1],some (.vec w0.heap.size 3 (eInt .i64) ([]:List Int)),true,fun A=>.any⟩::[]) (ua (ua (UAll.nil))) q d ?_ ?_
 exact rc (OblR.made _ Z Z Z Z fun V Q U O D=>by exact zBM [] (E:=eInt .i64) N underlying31 sizeOf3 zeroValue3 Z Z Z (Nat.le_trans j.size O.ch.size))<|rc (OblR.took 1 _ _ Z Z Z Z Z fun V Q U O D u X Y J L M=>by exact zAP (L _ _ Z Z Z Z).symm X Y)<|rz
 intro done ρ σ A R w y s
 obtain ⟨h1,h2⟩:=k2 s.rg h1 h2
 have z2:=s.inivR 0 Z
 obtain ⟨u3,e_u3⟩:∃ u,ρ 2=u:=⟨_,Z⟩
 have h5:=s.ov y 2 1 e_u3
 replace f_v1:=f_v1.stp s.stp
 obtain ⟨B,j,d⟩:=s.s B C j q ⟨Z,N⟩
 replace q:=s.left y [(0,ob (.pointer (some ⟨b2_0,0,none⟩)) (.box w0.heap.size 27 zA2 p0)),(2,ob u3 (.vec w0.heap.size 3 (eInt .i64) ([]:List Int)))] ⟨Z,Z,z2,Z,Z,⟨Z,Z,e_u3,Z,Z,N⟩⟩
 refine zPQ ?_
 refine zPQ ?_
 obtain ⟨x4,q5,c⟩:=zA9 c
 obtain ⟨x6,q7,c⟩:=zA9 c
 obtain ⟨x8,q9,c⟩:=zAO c
 obtain ⟨x10,q11,c⟩:=zAO c
 refine HT.u d j (eF (.rep zA2 A p0)::eB x4::eB (!x4)::eB (!x4)::gR (true&&((!x4)==false)) v1::gB (true&&((!x4)==false)) x6::gB (true&&((!x4)==false)) (!x6)::eB x8::eB x8::gR (true&&(x8==false)) v1::gI (true&&(x8==false)) (p1.length:Int)::gB (true&&(x8==false)) (decide (1000<(p1.length:Int)))::eB x10::[]) ?_ ?_
 exact op (fun Q U W H D=>(zAA ((q.fr W).ok 0 _ Z).1 ((H 2 Z).trans h2) (Fld.id _) Z isAgg27 sizeOf27))<|op (fun Q U W H D=>zAM call28 (zCX (q5 Z) (d.fr W.size) (D.g 0 Z)))<|op (fun Q U W H D=>zBY (D.g 0 Z))<|ov<|gm 3 false h1<|og 3 false (fun G Q U W H D=>zAM call29 (zCC (q7 G) (d.fr W.size) ((f_v1.fr W).eq (D.h 0 G Z))))<|og 3 false (fun G Q U W H D=>zBY (D.h 0 G Z))<|op (fun Q U W H D=>zAR (!x4) (D.g 0 Z) (fun hc=>by show _=Value.bool x8;rw [q9,hc];exact Z) (fun hc=>by have a2:Q 17=.bool (!x6):=D 1 _ _ _ Z Z Z Z (zBJ Z (zAf hc));show _=Value.bool x8;rw [q9,hc];exact a2))<|ov<|gm 8 false h1<|og 8 false (fun G Q U W H D=>zAN (aT:=#[]) ((f_v1.fr W).eq (D.h 0 G Z)) underlying28)<|og 8 false (fun G Q U W H D=>zEH (D.h 0 G Z) Z)<|op (fun Q U W H D=>zAR x8 (D.g 0 Z) (fun hc=>by show _=Value.bool x10;rw [q11,hc];exact Z) (fun hc=>by have a2:Q 22=.bool (decide (1000<(p1.length:Int))):=D 1 _ _ _ Z Z Z Z (zBJ Z (zAf hc));show _=Value.bool x10;rw [q11,hc];exact a2))<|oz
 intro R w m n p d j
 obtain ⟨h1,h2,h5⟩:=k3 n h1 h2 h5
 have h23:=p.r 12 Z
 replace f_v1:=f_v1.fr m
 replace q:=q.fr m
 refine zPJ x10 h23 (fun c12=>?_) (fun c12=>?_)
 have c:=zAe c12 c
 refine zPR d j (eR u3::eR u3::[]) ?_ ?_
 exact om h5<|oa<|oz
 intro R w m n p d j
 have h4:=p.r 1 Z
 replace q:=q.fr m
 replace q:IniOK [ob u3 (.vec w0.heap.size 3 (eInt .i64) ([]:List Int))] A w:=q.sub [(1,ob u3 (.vec w0.heap.size 3 (eInt .i64) ([]:List Int)))] ⟨Z,Z,N⟩
 refine HT.ret ?_
 obtain rfl:=si c
 exact ⟨.inr Z,[R 4],⟨Z,N⟩,(zBk (q.ok 0 _ Z) B h4),j⟩
 have c:=zAd c12 c
 refine HT.skip ?_
 obtain ⟨x13,q14,c⟩:=zA9 c
 refine zPR d j (eR v1::eI (p1.length:Int)::eR (.pointer (some ⟨b2_0,0,none⟩))::eI p0.1::eF (.tup2 (.raw (.int .i64 x13.1)) (.raw (.int .i64 x13.2)))::eF (.tup2 (.raw (.int .i64 x13.1)) (.raw (.int .i64 x13.2)))::eI x13.1::eI x13.2::eI x13.1::eI x13.2::[]) ?_ ?_
 exact om h1<|op (fun Q U W H D=>zAN (aT:=#[]) ((f_v1.fr W).eq (D.g 0 Z)) underlying28)<|op (fun Q U W H D=>zA8 ((H 2 Z).trans h2) zF0 sizeOf3 (by decide) Z)<|op (fun Q U W H D=>OpF.int (zAA ((q.fr W).ok 0 _ Z).1 (D.g 0 Z) zB4 Z isAgg3 sizeOf3))<|op (fun Q U W H D=>zAM call30 (zEb (q14 Z) (d.fr W.size) (D.g 0 Z) (D.g 1 Z)))<|op (fun Q U W H D=>zBI (D.g 0 Z))<|op (fun Q U W H D=>zBv (D.g 0 Z))<|op (fun Q U W H D=>zBj (D.g 0 Z))<|oa<|oa<|oz
 intro R w m n p d j
 obtain ⟨h1,h2,h5⟩:=k3 n h1 h2 h5
 have h6:=p.r 8 Z
 have h7:=p.r 9 Z
 replace f_v1:=f_v1.fr m
 replace q:=q.fr m
 refine zPQ ?_
 refine zPR d j (eI 0::[]) ?_ ?_
 exact op (fun Q U W H D=>zA6 Z)<|oz
 intro R w m n p d j
 obtain ⟨h1,h2,h5,h6,h7⟩:=k5 n h1 h2 h5 h6 h7
 have h8:=p.r 0 Z
 replace f_v1:=f_v1.fr m
 replace q:=q.fr m
 obtain ⟨rl15,q16,c⟩:=zA9 c
 replace q16:=q16 Z
 refine zPL (fun R w=>∃ A:Av,∃ (s17:(List Int)) (uo_u3:Value),rl15=s17/\AvOK A w/\Fr w0 w/\(∀ b o,A0 b o->A b o)/\IniOK [ob uo_u3 (.vec w0.heap.size 3 (eInt .i64) s17)] A w/\R 5=uo_u3) ?_ ?_
 refine HT.block<|zPP (fun k R w=>∃ A:Av,∃ (y18:Int) (y19:List Int) (ul_u3:Value),zB6 fu p0 p1 x13 k y18 y19=some rl15/\AvOK A w/\Fr w0 w/\(∀ b o,A0 b o->A b o)/\IniOK [ob (.pointer (some ⟨b2_0,0,none⟩)) (.box w0.heap.size 27 zA2 p0),ob ul_u3 (.vec w0.heap.size 3 (eInt .i64) y19)] A w/\R 1=v1/\R 2=(.pointer (some ⟨b2_0,0,none⟩))/\R 5=ul_u3/\R 6=.int .i64 x13.1/\R 7=.int .i64 x13.2/\R 8=.int .i64 y18/\Rep (eSl eStr) A w v1 p1) fu ⟨_,_,_,u3,q16,d,j,B,q,h1,h2,h5,h6,h7,h8,f_v1⟩ ?_
 have hr0:=c;clear c q16
 rintro k R w ⟨A,y18,y19,ul_u3,c,d,j,B,q,h1,h2,h5,h6,h7,h8,f_v1⟩
 rcases k with _ | k
 cases (show none=some _ from c)
 rw [zB6] at c
 refine zPQ ?_
 refine zPR d j (eI y18::eR (.pointer (some ⟨b2_0,2,none⟩))::eF (.rep (eSl zA1) A p0.2.2)::eI (p0.2.2.length:Int)::eB (decide (y18<(p0.2.2.length:Int)))::[]) ?_ ?_
 exact om h8<|op (fun Q U W H D=>zA8 ((H 2 Z).trans h2) zAv sizeOf25 (by decide) Z)<|op (fun Q U W H D=>(zAA ((q.fr W).ok 0 _ Z).1 (D.g 0 Z) zAJ Z isAgg25 sizeOf25))<|op (fun Q U W H D=>zAN (aT:=#[]) (D.g 0 Z) underlying25)<|op (fun Q U W H D=>zB8 (D.g 0 Z) (D.g 1 Z))<|oz
 intro R w m n p d j
 obtain ⟨h1,h2,h5,h6,h7,h8⟩:=k6 n h1 h2 h5 h6 h7 h8
 have h37:=p.r 4 Z
 replace f_v1:=f_v1.fr m
 replace q:=q.fr m
 refine zPJ (decide (y18<(p0.2.2.length:Int))) h37 (fun c20=>?_) (fun c20=>?_)
 have c:=zAe c20 c
 refine HT.skip<|zPQ ?_
 refine HT.block ?_
 obtain ⟨e21,c⟩:=zAG c
 refine zPR d j (eR (.pointer (some ⟨b2_0,2,none⟩))::eF (.rep (eSl zA1) A p0.2.2)::eI y18::eF (.qtr zA1 A (gtD p0.2.2 y18))::eF (.qtr (eSl eStr) A ((gtD p0.2.2 y18).2))::eF (.rep (eSl eStr) A ((gtD p0.2.2 y18).2))::eF (.rep (eSl eStr) A ((gtD p0.2.2 y18).2))::[]) ?_ ?_
 exact op (fun Q U W H D=>zA8 ((H 2 Z).trans h2) zAv sizeOf25 (by decide) Z)<|op (fun Q U W H D=>(zAA ((q.fr W).ok 0 _ Z).1 (D.g 0 Z) zAJ Z isAgg25 sizeOf25))<|om h8<|op (fun Q U W H D=>zAC (D.g 0 Z) (D.g 1 Z) underlying25 sizeOf54 e21)<|op (fun Q U W H D=>zAX (qt (D.g 0 Z)) zEi sizeOf28 (by decide) zAg Z)<|op (fun Q U W H D=>(zAT (QRep.ptr (D.g 0 Z)) isAgg28 sizeOf28))<|op (fun Q U W H D=>zA6 (D.g 0 Z))<|oz
 intro R w m n p d j
 obtain ⟨h1,h2,h5,h6,h7,h8⟩:=k6 n h1 h2 h5 h6 h7 h8
 obtain ⟨u22,h9,f_u22⟩:∃ u,R 9=u/\Rep (eSl eStr) A w u ((gtD p0.2.2 y18).2):=⟨_,Z,p 6 _ _ Z Z Z⟩
 replace f_v1:=f_v1.fr m
 replace q:=q.fr m
 refine zPQ ?_
 obtain ⟨x23,q24,c⟩:=zAO c
 obtain ⟨x25,q26,c⟩:=zA9 c
 obtain ⟨x27,q28,c⟩:=zA9 c
 obtain ⟨x29,q30,c⟩:=zAO c
 obtain ⟨x31,q32,c⟩:=zAO c
 refine HT.u d j (eR u22::eI (((gtD p0.2.2 y18).2).length:Int)::eB ((((gtD p0.2.2 y18).2).length:Int)==0)::eB ((((gtD p0.2.2 y18).2).length:Int)==0)::gR (true&&(((((gtD p0.2.2 y18).2).length:Int)==0)==true)) v1::gI (true&&(((((gtD p0.2.2 y18).2).length:Int)==0)==true)) (p1.length:Int)::gB (true&&(((((gtD p0.2.2 y18).2).length:Int)==0)==true)) ((p1.length:Int)==0)::eB x23::eB x23::gR (true&&(x23==false)) u22::gI (true&&(x23==false)) (((gtD p0.2.2 y18).2).length:Int)::gI (true&&(x23==false)) x13.1::gI (true&&(x23==false)) x13.2::gB (true&&(x23==false)) x25::gB (true&&(x23==false)) x25::gR ((true&&(x23==false))&&(x25==true)) (.pointer (some ⟨b2_0,1,none⟩))::gF ((true&&(x23==false))&&(x25==true)) (.rep (eSl zA0) A p0.2.1)::gR ((true&&(x23==false))&&(x25==true)) v1::gR ((true&&(x23==false))&&(x25==true)) u22::gR ((true&&(x23==false))&&(x25==true)) (.pointer (some ⟨b2_0,0,none⟩))::gI ((true&&(x23==false))&&(x25==true)) p0.1::gB ((true&&(x23==false))&&(x25==true)) x27::gB (true&&(x23==false)) x29::eB x31::[]) ?_ ?_
 exact om h9<|op (fun Q U W H D=>zAN (aT:=#[]) ((f_u22.fr W).eq (D.g 0 Z)) underlying28)<|op (fun Q U W H D=>zEt (D.g 0 Z) Z)<|ov<|gm 3 true h1<|og 3 true (fun G Q U W H D=>zAN (aT:=#[]) ((f_v1.fr W).eq (D.h 0 G Z)) underlying28)<|og 3 true (fun G Q U W H D=>zEt (D.h 0 G Z) Z)<|op (fun Q U W H D=>zAR ((((gtD p0.2.2 y18).2).length:Int)==0) (D.g 0 Z) (fun hc=>by have a1:Q 52=.bool ((p1.length:Int)==0):=D 1 _ _ _ Z Z Z Z (zBJ Z (zAf hc));show _=Value.bool x23;rw [q24,hc];exact a1) (fun hc=>by show _=Value.bool x23;rw [q24,hc];exact Z))<|ov<|gm 8 false h9<|og 8 false (fun G Q U W H D=>zAN (aT:=#[]) ((f_u22.fr W).eq (D.h 0 G Z)) underlying28)<|gm 8 false h6<|gm 8 false h7<|og 8 false (fun G Q U W H D=>zAM call31 (zCp (q26 G) (d.fr W.size) (D.h 0 G Z) (D.h 1 G Z) (D.h 2 G Z)))<|og 8 false (fun G Q U W H D=>zBI (D.h 0 G Z))<|og 14 true (fun G Q U W H D=>zA8 ((H 2 Z).trans h2) zIR sizeOf24 (by decide) Z)<|og 14 true (fun G Q U W H D=>(zAA ((q.fr W).ok 0 _ Z).1 (D.h 0 G Z) zDI Z isAgg24 sizeOf24))<|gm 14 true h1<|gm 14 true h9<|og 14 true (fun G Q U W H D=>zA8 ((H 2 Z).trans h2) zF0 sizeOf3 (by decide) Z)<|og 14 true (fun G Q U W H D=>OpF.int (zAA ((q.fr W).ok 0 _ Z).1 (D.h 0 G Z) zB4 Z isAgg3 sizeOf3))<|og 14 true (fun G Q U W H D=>zAM call32 (zGU (q28 G) (d.fr W.size) (D.h 0 G Z) ((f_v1.fr W).eq (D.h 1 G Z)) ((f_u22.fr W).eq (D.h 2 G Z)) (D.h 3 G Z)))<|og 8 false (fun G Q U W H D=>zAR x25 (D.h 0 G Z) (fun hc=>by have a1:Q 67=.bool x27:=D 1 _ _ _ Z Z Z Z (zBJ G (zAf hc));show _=Value.bool x29;rw [q30,hc];exact a1) (fun hc=>by show _=Value.bool x29;rw [q30,hc];exact Z))<|op (fun Q U W H D=>zAR x23 (D.g 0 Z) (fun hc=>by show _=Value.bool x31;rw [q32,hc];exact Z) (fun hc=>by have a2:Q 68=.bool x29:=D 1 _ _ _ Z Z Z Z (zBJ Z (zAf hc));show _=Value.bool x31;rw [q32,hc];exact a2))<|oz
 intro R w m n p d j
 obtain ⟨h1,h2,h5,h6,h7,h8⟩:=k6 n h1 h2 h5 h6 h7 h8
 have h69:=p.r 23 Z
 replace f_v1:=f_v1.fr m
 replace q:=q.fr m
 refine zPJ x31 h69 (fun c33=>?_) (fun c33=>?_)
 have c:=zAe c33 c
 obtain ⟨e34,e35,c⟩:=ck2 c
 refine zPV [ob (.pointer (some ⟨b2_0,0,none⟩)) (.box w0.heap.size 27 zA2 p0),ob ul_u3 (.vec w0.heap.size 3 (eInt .i64) y19)] (rR ul_u3::rR (.pointer (some ⟨b2_0,2,none⟩))::(rF fun A=>.rep (eSl zA1) A p0.2.2)::rI y18::(rF fun A=>.qtr zA1 A (gtD p0.2.2 y18))::(rF fun A=>.qtr (eInt .i64) A ((gtD p0.2.2 y18).1))::rI ((gtD p0.2.2 y18).1)::(rF fun A=>.rep (eSl (eInt .i64)) A ([(gtD p0.2.2 y18).1]:List Int))::⟨_,true,[1],some (.vec w0.heap.size 3 (eInt .i64) (y19++([(gtD p0.2.2 y18).1]:List Int))),true,fun A=>.any⟩::⟨_,true,[10],some (.vec w0.heap.size 3 (eInt .i64) (y19++([(gtD p0.2.2 y18).1]:List Int))),true,fun A=>.any⟩::[]) (ur (ur (up (ur (UAll.cons zCM (UAll.cons zCM (ur (up (ua (ua (UAll.nil))))))))))) q d ?_ ?_
 exact rm h5<|rp (fun V Q U O D=>zA8 ((O.old 2 Z).trans h2) zAv sizeOf25 (by decide) Z)<|rp (fun V Q U O D=>(zAA (O.rd 0 _ Z Z) (D.g 0 Z) zAJ Z isAgg25 sizeOf25))<|rm h8<|rp (fun V Q U O D=>zAC (D.g 0 Z) (D.g 1 Z) underlying25 sizeOf54 e34)<|rp (fun V Q U O D=>zAX (qt (D.g 0 Z)) zDc sizeOf3 (by decide) zAU Z)<|rp (fun V Q U O D=>OpF.int (zAT (QRep.ptr (D.g 0 Z)) isAgg3 sizeOf3))<|rp (fun V Q U O D=>zC7 [_] (E:=eInt .i64) ⟨(zBa.eq (D.g 0 Z)),N⟩ underlying31 sizeOf3 zeroValue3 Z Z Z O.av)<|rc (OblR.took 1 _ _ Z Z Z Z Z fun V Q U O D u X Y J L M=>by have a0:Q 70=ul_u3:=D.g 0 Z;have a1:Rep (eSl (eInt .i64)) V U (Q 77) ([(gtD p0.2.2 y18).1]:List Int):=D.g 1 Z;exact zAs (a0.trans (J _ Z).symm) X Y (Nat.le_trans j.size O.ch.size) a1 underlying31 el_3 e35)<|rc (OblR.took 10 _ _ Z Z Z Z Z fun V Q U O D u X Y J L M=>by exact zAP (L _ _ Z Z Z Z).symm X Y)<|rz
 intro done ρ σ A R w y s
 obtain ⟨h1,h2,h6,h7,h8⟩:=k5 s.rg h1 h2 h6 h7 h8
 have z36:=s.inivR 0 Z
 obtain ⟨u37,e_u37⟩:∃ u,ρ 11=u:=⟨_,Z⟩
 have h5:=s.ov y 11 9 e_u37
 replace f_v1:=f_v1.stp s.stp
 obtain ⟨B,j,d⟩:=s.s B C j q ⟨Z,⟨Z,N⟩⟩
 replace q:=s.left y [(0,ob (.pointer (some ⟨b2_0,0,none⟩)) (.box w0.heap.size 27 zA2 p0)),(11,ob u37 (.vec w0.heap.size 3 (eInt .i64) (y19++([(gtD p0.2.2 y18).1]:List Int))))] ⟨Z,Z,z36,Z,Z,⟨Z,Z,e_u37,Z,Z,N⟩⟩
 obtain ⟨e38,c⟩:=zAG c
 refine HT.u d j (eI y18::eI (y18+1)::eI (y18+1)::[]) ?_ ?_
 exact om h8<|op (fun Q U W H D=>zAi (D.g 0 Z) Z e38)<|oa<|oz
 intro R w m n p d j
 obtain ⟨h1,h2,h5,h6,h7⟩:=k5 n h1 h2 h5 h6 h7
 have h8:=p.r 2 Z
 replace f_v1:=f_v1.fr m
 replace q:=q.fr m
 exact ei k (And.intro (Nat.lt_succ_self k) ⟨_,_,_,u37,c,d,j,B,q,h1,h2,h5,h6,h7,h8,f_v1⟩)
 have c:=zAd c33 c
 refine HT.skip ?_
 obtain ⟨e39,c⟩:=zAG c
 refine HT.u d j (eI y18::eI (y18+1)::eI (y18+1)::[]) ?_ ?_
 exact om h8<|op (fun Q U W H D=>zAi (D.g 0 Z) Z e39)<|oa<|oz
 intro R w m n p d j
 obtain ⟨h1,h2,h5,h6,h7⟩:=k5 n h1 h2 h5 h6 h7
 have h8:=p.r 2 Z
 replace f_v1:=f_v1.fr m
 replace q:=q.fr m
 exact ei k (And.intro (Nat.lt_succ_self k) ⟨_,_,_,ul_u3,c,d,j,B,q,h1,h2,h5,h6,h7,h8,f_v1⟩)
 have c:=zAd c20 c
 refine zPO ?_
 obtain rfl:=si c
 replace q:IniOK [ob ul_u3 (.vec w0.heap.size 3 (eInt .i64) y19)] A w:=q.sub [(1,ob ul_u3 (.vec w0.heap.size 3 (eInt .i64) y19))] ⟨Z,Z,N⟩
 exact ei _ ⟨_,ul_u3,Z,d,j,B,q,h5⟩
 rintro R w ⟨A,s17,uo_u3,es,d,j,B,q,h5⟩
 obtain rfl:=es.symm
 refine zPR d j (eR uo_u3::eR uo_u3::[]) ?_ ?_
 exact om h5<|oa<|oz
 intro R w m n p d j
 have h4:=p.r 1 Z
 replace q:=q.fr m
 refine HT.ret ?_
 obtain rfl:=si c
 exact ⟨.inr Z,[R 4],⟨Z,N⟩,(zBk (q.ok 0 _ Z) B h4),j⟩
theorem zFZ {fu : Nat} {A0 : Av} {p0 : zA7} {p1 : List (List UInt8)} {r : List Int} (c : zCF fu p0 p1 = some r) {w : World} {v0 : Value} {v1 : Value} (d : AvOK A0 w) (h0 : Rep zA2 A0 w v0 p0) (h1 : Rep (eSl eStr) A0 w v1 p1) :
 Calls prog 9 #[v0,v1] w fun e w'=>∃ v,e=.returned v/\(Rep (eSl (eInt .i64)) A0 w' v r/\Fr w w'):=by
 refine Calls.mono (zFm c d h0 h1) ?_
 rintro e w' ⟨v,he,hv,hf⟩
 exact ⟨v,he,zDt hv (fun b o h=>.inl h) d,hf⟩
def zBp (fu : Nat) (p0 : List Int) (p1 : List Int) : Nat -> Int -> Option (Ex Bool Unit)
 | 0,_=>none
 | k+1,y5=>
 bif (decide (y5<(p0.length:Int))) then (
 ck (inR y5 p0.length) <|
 ck (inR y5 p1.length) <|
 bif ((gtD p0 y5) != (gtD p1 y5)) then (
 some (Ex.ret false)
 ) else (
 ck (i64B (y5+1)) <|
 zBp fu p0 p1 k (y5+1)
 )
 ) else (
 some (Ex.go ())
 )
def zCw (fu:Nat) (p0:List Int) (p1:List Int):Option Bool:=
 bif ((p0.length:Int) != (p1.length:Int)) then (
 some false
 ) else (
 cl true (zBp fu p0 p1 fu 0) fun rl2=>
 exM rl2 (fun r=>some r) fun s4=>
 some true
 )
theorem zER {fu : Nat} {A : Av} {p0 : List Int} {p1 : List Int} {r : Bool} (c : zCw fu p0 p1 = some r) {w : World} {v0 : Value} {v1 : Value} (d : AvOK A w) (h0 : Rep (eSl (eInt .i64)) A w v0 p0) (h1 : Rep (eSl (eInt .i64)) A w v1 p1) :
 Calls prog 8 #[v0,v1] w fun e w'=>∃ v,e=.returned v/\(v=.bool r/\Fr w w'):=by
 unfold zCw at c
 obtain ⟨w0,hw0,j⟩:=pf w
 rw [fw hw0]
 refine zAB [.tmp 4] func8 ntmps8 (by decide) Z Z (nb Z) ?_
 intro R hR
 have f_v0:=h0
 replace h0:R 0=v0:=hR 0 _ Z
 have f_v1:=h1
 replace h1:R 1=v1:=hR 1 _ Z
 refine zPR d j (eB false::[]) ?_ ?_
 exact op (fun Q U W H D=>zA6 Z)<|oz
 intro R w m n p d j
 obtain ⟨h0,h1⟩:=k2 n h0 h1
 replace f_v0:=f_v0.fr m
 replace f_v1:=f_v1.fr m
 refine zPQ ?_
 refine zPR d j (eR v0::eI (p0.length:Int)::eR v1::eI (p1.length:Int)::eB ((p0.length:Int) != (p1.length:Int))::[]) ?_ ?_
 exact om h0<|op (fun Q U W H D=>zAN (aT:=#[]) ((f_v0.fr W).eq (D.g 0 Z)) underlying31)<|om h1<|op (fun Q U W H D=>zAN (aT:=#[]) ((f_v1.fr W).eq (D.g 0 Z)) underlying31)<|op (fun Q U W H D=>zKQ (D.g 0 Z) (D.g 1 Z))<|oz
 intro R w m n p d j
 obtain ⟨h0,h1⟩:=k2 n h0 h1
 have h10:=p.r 4 Z
 replace f_v0:=f_v0.fr m
 replace f_v1:=f_v1.fr m
 refine zPJ ((p0.length:Int) != (p1.length:Int)) h10 (fun c1=>?_) (fun c1=>?_)
 have c:=zAe c1 c
 refine zPR d j (eB false::[]) ?_ ?_
 exact op (fun Q U W H D=>zA6 Z)<|oz
 intro R w m n p d j
 have h4:=p.r 0 Z
 refine HT.ret ?_
 obtain rfl:=si c
 exact ⟨.inr Z,[R 4],⟨Z,N⟩,h4,j⟩
 have c:=zAd c1 c
 refine HT.skip<|zPQ ?_
 refine zPR d j (eI 0::[]) ?_ ?_
 exact op (fun Q U W H D=>zA6 Z)<|oz
 intro R w m n p d j
 obtain ⟨h0,h1⟩:=k2 n h0 h1
 have h5:=p.r 0 Z
 replace f_v0:=f_v0.fr m
 replace f_v1:=f_v1.fr m
 obtain ⟨rl2,q3,c⟩:=zA9 c
 replace q3:=q3 Z
 refine zPL (fun R w=>∃ (s4:Unit),rl2=Ex.go s4/\AvOK A w/\Fr w0 w) ?_ ?_
 refine HT.block<|zPP (fun k R w=>∃ (y5:Int),zBp fu p0 p1 k y5=some rl2/\AvOK A w/\Fr w0 w/\R 0=v0/\R 1=v1/\R 5=.int .i64 y5/\Rep (eSl (eInt .i64)) A w v0 p0/\Rep (eSl (eInt .i64)) A w v1 p1) fu ⟨_,q3,d,j,h0,h1,h5,f_v0,f_v1⟩ ?_
 have hr0:=c;clear c q3
 rintro k R w ⟨y5,c,d,j,h0,h1,h5,f_v0,f_v1⟩
 rcases k with _ | k
 cases (show none=some _ from c)
 rw [zBp] at c
 refine zPQ ?_
 refine zPR d j (eI y5::eR v0::eI (p0.length:Int)::eB (decide (y5<(p0.length:Int)))::[]) ?_ ?_
 exact om h5<|om h0<|op (fun Q U W H D=>zAN (aT:=#[]) ((f_v0.fr W).eq (D.g 0 Z)) underlying31)<|op (fun Q U W H D=>zB8 (D.g 0 Z) (D.g 1 Z))<|oz
 intro R w m n p d j
 obtain ⟨h0,h1,h5⟩:=k3 n h0 h1 h5
 have h14:=p.r 3 Z
 replace f_v0:=f_v0.fr m
 replace f_v1:=f_v1.fr m
 refine zPJ (decide (y5<(p0.length:Int))) h14 (fun c6=>?_) (fun c6=>?_)
 have c:=zAe c6 c
 refine HT.skip<|zPQ ?_
 refine HT.block<|zPQ ?_
 obtain ⟨e7,e8,c⟩:=ck2 c
 refine zPM (by kernel_rfl) (l:=eR v0::eI y5::eF (.qtr (eInt .i64) A (gtD p0 y5))::eI (gtD p0 y5)::eR v1::eI y5::eF (.qtr (eInt .i64) A (gtD p1 y5))::eI (gtD p1 y5)::eB ((gtD p0 y5) != (gtD p1 y5))::[]) (tl:=[]) (by kernel_rfl) (by kernel_rfl) (by kernel_rfl) (by kernel_rfl) ?_ ?_
 exact om h0<|om h5<|op (fun Q U W H D=>zAC ((f_v0.fr W).eq (D.g 0 Z)) (D.g 1 Z) underlying31 sizeOf3 e7)<|op (fun Q U W H D=>OpF.int (zAT (QRep.ptr (D.g 0 Z)) isAgg3 sizeOf3))<|om h1<|om h5<|op (fun Q U W H D=>zAC ((f_v1.fr W).eq (D.g 0 Z)) (D.g 1 Z) underlying31 sizeOf3 e8)<|op (fun Q U W H D=>OpF.int (zAT (QRep.ptr (D.g 0 Z)) isAgg3 sizeOf3))<|op (fun Q U W H D=>zKQ (D.g 0 Z) (D.g 1 Z))<|oz
 intro R w m n p
 obtain ⟨h0,h1,h5⟩:=k3 n h0 h1 h5
 have h25:=p.r 8 Z
 replace f_v0:=f_v0.fr m
 replace f_v1:=f_v1.fr m
 replace d:=d.fr m.size
 replace j:=j.trans m
 refine zPJ ((gtD p0 y5) != (gtD p1 y5)) h25 (fun c9=>?_) (fun c9=>?_)
 have c:=zAe c9 c
 refine zPR d j (eB false::[]) ?_ ?_
 exact op (fun Q U W H D=>zA6 Z)<|oz
 intro R w m n p d j
 have h4:=p.r 0 Z
 refine HT.ret ?_
 obtain rfl:=si c
 have c:=hr0
 replace c:some _=some _:=c
 obtain rfl:=si c
 exact ⟨.inr Z,[R 4],⟨Z,N⟩,h4,j⟩
 have c:=zAd c9 c
 refine HT.skip ?_
 obtain ⟨e10,c⟩:=zAG c
 refine HT.u d j (eI y5::eI (y5+1)::eI (y5+1)::[]) ?_ ?_
 exact om h5<|op (fun Q U W H D=>zAi (D.g 0 Z) Z e10)<|oa<|oz
 intro R w m n p d j
 obtain ⟨h0,h1⟩:=k2 n h0 h1
 have h5:=p.r 2 Z
 replace f_v0:=f_v0.fr m
 replace f_v1:=f_v1.fr m
 exact ei k (And.intro (Nat.lt_succ_self k) ⟨_,c,d,j,h0,h1,h5,f_v0,f_v1⟩)
 have c:=zAd c6 c
 refine zPO ?_
 obtain rfl:=si c
 exact ei _ ⟨Z,d,j⟩
 rintro R w ⟨s4,rfl,d,j⟩
 have c:=zEK c
 refine zPR d j (eB true::[]) ?_ ?_
 exact op (fun Q U W H D=>zA6 Z)<|oz
 intro R w m n p d j
 have h4:=p.r 0 Z
 refine HT.ret ?_
 obtain rfl:=si c
 exact ⟨.inr Z,[R 4],⟨Z,N⟩,h4,j⟩
def zF3 (fu:Nat) (p0:List (List UInt8)) (p1:List (List UInt8)):Option Bool:=
 cl true (zBQ fu p0) fun x1=>
 cl (true&&(x1==true)) (zBQ fu p1) fun x3=>
 bd (x1&&x3) fun x5=>
 some x5
theorem zI8 {fu : Nat} {A : Av} {p0 : List (List UInt8)} {p1 : List (List UInt8)} {r : Bool} (c : zF3 fu p0 p1 = some r) {w : World} {v0 : Value} {v1 : Value} (d : AvOK A w) (h0 : Rep (eSl eStr) A w v0 p0) (h1 : Rep (eSl eStr) A w v1 p1) :
 Calls prog 62 #[v0,v1] w fun e w'=>∃ v,e=.returned v/\(v=.bool r/\Fr w w'):=by
 unfold zF3 at c
 obtain ⟨w0,hw0,j⟩:=pf w
 rw [fw hw0]
 refine zAB [.tmp 4] func62 ntmps62 (by decide) Z Z (nb Z) ?_
 intro R hR
 have f_v0:=h0
 replace h0:R 0=v0:=hR 0 _ Z
 have f_v1:=h1
 replace h1:R 1=v1:=hR 1 _ Z
 refine zPR d j (eB false::[]) ?_ ?_
 exact op (fun Q U W H D=>zA6 Z)<|oz
 intro R w m n p d j
 obtain ⟨h0,h1⟩:=k2 n h0 h1
 replace f_v0:=f_v0.fr m
 replace f_v1:=f_v1.fr m
 refine zPQ ?_
 obtain ⟨x1,q2,c⟩:=zA9 c
 obtain ⟨x3,q4,c⟩:=zA9 c
 obtain ⟨x5,q6,c⟩:=zAO c
 refine HT.u d j (eR v0::eB x1::eB x1::gR (true&&(x1==true)) v1::gB (true&&(x1==true)) x3::eB x5::eB x5::[]) ?_ ?_
 exact om h0<|op (fun Q U W H D=>zAM call29 (zCC (q2 Z) (d.fr W.size) ((f_v0.fr W).eq (D.g 0 Z))))<|ov<|gm 2 true h1<|og 2 true (fun G Q U W H D=>zAM call29 (zCC (q4 G) (d.fr W.size) ((f_v1.fr W).eq (D.h 0 G Z))))<|op (fun Q U W H D=>zAR x1 (D.g 0 Z) (fun hc=>by have a1:Q 9=.bool x3:=D 1 _ _ _ Z Z Z Z (zBJ Z (zAf hc));show _=Value.bool x5;rw [q6,hc];exact a1) (fun hc=>by show _=Value.bool x5;rw [q6,hc];exact Z))<|oa<|oz
 intro R w m n p d j
 have h4:=p.r 6 Z
 refine HT.ret ?_
 obtain rfl:=si c
 exact ⟨.inr Z,[R 4],⟨Z,N⟩,h4,j⟩
def zB1 (fu : Nat) (p0 : List (List UInt8)) : Nat -> Int -> (List (List UInt8)) -> Option (List (List UInt8))
 | 0,_,_=>none
 | k+1,y5,y6=>
 bif (decide (y5<(p0.length:Int))) then (
 ck (inR y5 p0.length) <|
 cl true (zDA fu y6 (gtD p0 y5) false) fun x9=>
 ck (i64B (y5+1)) <|
 zB1 fu p0 k (y5+1) x9
 ) else (
 some y6
 )
def zB0 (fu : Nat) (p1 : List (List UInt8)) : Nat -> Int -> (List (List UInt8)) -> Option (List (List UInt8))
 | 0,_,_=>none
 | k+1,y16,y17=>
 bif (decide (y16<(p1.length:Int))) then (
 ck (inR y16 p1.length) <|
 cl true (zDA fu y17 (gtD p1 y16) false) fun x20=>
 ck (i64B (y16+1)) <|
 zB0 fu p1 k (y16+1) x20
 ) else (
 some y17
 )
def zCc (fu:Nat) (p0:List (List UInt8)) (p1:List (List UInt8)):Option (List (List UInt8)):=
 cl true (zB1 fu p0 fu 0 ([]:List (List UInt8))) fun s4=>
 cl true (zB0 fu p1 fu 0 s4) fun s15=>
 some s15
theorem zGI {fu : Nat} {A0 : Av} {p0 : List (List UInt8)} {p1 : List (List UInt8)} {r : List (List UInt8)} (c : zCc fu p0 p1 = some r) {w : World} {v0 : Value} {v1 : Value} (d : AvOK A0 w) (h0 : Rep (eSl eStr) A0 w v0 p0) (h1 : Rep (eSl eStr) A0 w v1 p1) :
 Calls prog 63 #[v0,v1] w fun e w'=>∃ v,e=.returned v/\((Res.vec w.heap.size 9 eStr r).ok (addA A0 v) v w'/\Fr w w'):=by
 unfold zCc at c
 obtain ⟨w0,hw0,j,C⟩:=pw d
 have hA00:AvOK A0 w0:=C
 rw [fh hw0]
 rw [fw hw0]
 obtain ⟨A,hAe,B,d,q⟩:=pa d
 refine zAB [.tmp 4] func63 ntmps63 (by decide) Z Z (nb Z) ?_
 intro R hR
 have f_v0:Rep (eSl eStr) A w v0 p0:=hAe ▸ h0
 replace h0:R 0=v0:=hR 0 _ Z
 have f_v1:Rep (eSl eStr) A w v1 p1:=hAe ▸ h1
 replace h1:R 1=v1:=hR 1 _ Z
 refine zPR d j (eA::[]) ?_ ?_
 exact op (fun Q U W H D=>zA6 N)<|oz
 intro R w m n p d j
 obtain ⟨h0,h1⟩:=k2 n h0 h1
 replace f_v0:=f_v0.fr m
 replace f_v1:=f_v1.fr m
 replace q:=q.fr m
 refine zPS [] (⟨_,true,[],some (.vec w0.heap.size 9 eStr ([]:List (List UInt8))),true,fun A=>.any⟩::⟨_,true,[0],some (.vec w0.heap.size 9 eStr ([]:List (List UInt8))),true,fun A=>.any⟩::[]) (ua (ua (UAll.nil))) q d ?_ ?_
 exact rc (OblR.made _ Z Z Z Z fun V Q U O D=>by exact zBM [] (E:=eStr) N underlying28 sizeOf9 zeroValue9 Z Z Z (Nat.le_trans j.size O.ch.size))<|rc (OblR.took 0 _ _ Z Z Z Z Z fun V Q U O D u X Y J L M=>by exact zAP (L _ _ Z Z Z Z).symm X Y)<|rz
 intro done ρ σ A R w y s
 obtain ⟨h0,h1⟩:=k2 s.rg h0 h1
 obtain ⟨u1,e_u1⟩:∃ u,ρ 1=u:=⟨_,Z⟩
 have h5:=s.ov y 1 1 e_u1
 replace f_v0:=f_v0.stp s.stp
 replace f_v1:=f_v1.stp s.stp
 obtain ⟨B,j,d⟩:=s.s B C j q N
 replace q:=s.left y [(1,ob u1 (.vec w0.heap.size 9 eStr ([]:List (List UInt8))))] ⟨Z,Z,e_u1,Z,Z,N⟩
 refine zPQ ?_
 refine zPR d j (eI 0::[]) ?_ ?_
 exact op (fun Q U W H D=>zA6 Z)<|oz
 intro R w m n p d j
 obtain ⟨h0,h1,h5⟩:=k3 n h0 h1 h5
 have h6:=p.r 0 Z
 replace f_v0:=f_v0.fr m
 replace f_v1:=f_v1.fr m
 replace q:=q.fr m
 obtain ⟨rl2,q3,c⟩:=zA9 c
 replace q3:=q3 Z
 refine zPL (fun R w=>∃ A:Av,∃ (s4:(List (List UInt8))) (uo_u1:Value),rl2=s4/\AvOK A w/\Fr w0 w/\(∀ b o,A0 b o->A b o)/\IniOK [ob uo_u1 (.vec w0.heap.size 9 eStr s4)] A w/\R 1=v1/\R 5=uo_u1/\Rep (eSl eStr) A w v1 p1) ?_ ?_
 refine HT.block<|zPP (fun k R w=>∃ A:Av,∃ (y5:Int) (y6:List (List UInt8)) (ul_u1:Value),zB1 fu p0 k y5 y6=some rl2/\AvOK A w/\Fr w0 w/\(∀ b o,A0 b o->A b o)/\IniOK [ob ul_u1 (.vec w0.heap.size 9 eStr y6)] A w/\R 0=v0/\R 1=v1/\R 5=ul_u1/\R 6=.int .i64 y5/\Rep (eSl eStr) A w v0 p0/\Rep (eSl eStr) A w v1 p1) fu ⟨_,_,_,u1,q3,d,j,B,q,h0,h1,h5,h6,f_v0,f_v1⟩ ?_
 have hr0:=c;clear c q3
 rintro k R w ⟨A,y5,y6,ul_u1,c,d,j,B,q,h0,h1,h5,h6,f_v0,f_v1⟩
 rcases k with _ | k
 cases (show none=some _ from c)
 rw [zB1] at c
 refine zPQ ?_
 refine zPR d j (eI y5::eR v0::eI (p0.length:Int)::eB (decide (y5<(p0.length:Int)))::[]) ?_ ?_
 exact om h6<|om h0<|op (fun Q U W H D=>zAN (aT:=#[]) ((f_v0.fr W).eq (D.g 0 Z)) underlying28)<|op (fun Q U W H D=>zB8 (D.g 0 Z) (D.g 1 Z))<|oz
 intro R w m n p d j
 obtain ⟨h0,h1,h5,h6⟩:=k4 n h0 h1 h5 h6
 have h12:=p.r 3 Z
 replace f_v0:=f_v0.fr m
 replace f_v1:=f_v1.fr m
 replace q:=q.fr m
 refine zPJ (decide (y5<(p0.length:Int))) h12 (fun c7=>?_) (fun c7=>?_)
 have c:=zAe c7 c
 refine HT.skip<|zPQ ?_
 refine HT.block ?_
 obtain ⟨e8,c⟩:=zAG c
 obtain ⟨x9,q10,c⟩:=zA9 c
 refine zPV [ob ul_u1 (.vec w0.heap.size 9 eStr y6)] (rR ul_u1::rR v0::rI y5::(rF fun A=>.qtr eStr A (gtD p0 y5))::(rF fun A=>.rep eStr A (gtD p0 y5))::⟨_,true,[0],some (.vec w0.heap.size 9 eStr x9),true,fun A=>.any⟩::⟨_,true,[6],some (.vec w0.heap.size 9 eStr x9),true,fun A=>.any⟩::[]) (ur (ur (ur (UAll.cons zCM (up (ua (ua (UAll.nil)))))))) q d ?_ ?_
 exact rm h5<|rm h0<|rm h6<|rp (fun V Q U O D=>zAC ((f_v0.stp O.stp).eq (D.g 0 Z)) (D.g 1 Z) underlying28 sizeOf9 e8)<|rp (fun V Q U O D=>(zAT (QRep.ptr (D.g 0 Z)) isAgg9 sizeOf9))<|rc (OblR.took 0 _ _ Z Z Z Z Z fun V Q U O D u X Y J L M=>by have a0:Q 15=ul_u1:=D.g 0 Z;have a1:Rep eStr V U (Q 19) (gtD p0 y5):=D.g 1 Z;have hu0:zAL Q (.tmp 15)=u:=a0.trans (J _ Z).symm;exact zEg call74 Y (by simp only [List.map,hu0];exact zDh (q10 Z) (O.av.sub _) (fun b o h=>h.2) (Nat.le_trans j.size O.ch.size) (Vec.flat X (fun _ _ _ _ _ h=>h)) (a1.less fun b o h=>h.1) Z))<|rc (OblR.took 6 _ _ Z Z Z Z Z fun V Q U O D u X Y J L M=>by exact zAP (L _ _ Z Z Z Z).symm X Y)<|rz
 intro done ρ σ A R w y s
 obtain ⟨h0,h1,h6⟩:=k3 s.rg h0 h1 h6
 obtain ⟨u11,e_u11⟩:∃ u,ρ 7=u:=⟨_,Z⟩
 have h5:=s.ov y 7 6 e_u11
 replace f_v0:=f_v0.stp s.stp
 replace f_v1:=f_v1.stp s.stp
 obtain ⟨B,j,d⟩:=s.s B C j q ⟨Z,N⟩
 replace q:=s.left y [(7,ob u11 (.vec w0.heap.size 9 eStr x9))] ⟨Z,Z,e_u11,Z,Z,N⟩
 obtain ⟨e12,c⟩:=zAG c
 refine HT.u d j (eI y5::eI (y5+1)::eI (y5+1)::[]) ?_ ?_
 exact om h6<|op (fun Q U W H D=>zAi (D.g 0 Z) Z e12)<|oa<|oz
 intro R w m n p d j
 obtain ⟨h0,h1,h5⟩:=k3 n h0 h1 h5
 have h6:=p.r 2 Z
 replace f_v0:=f_v0.fr m
 replace f_v1:=f_v1.fr m
 replace q:=q.fr m
 exact ei k (And.intro (Nat.lt_succ_self k) ⟨_,_,_,u11,c,d,j,B,q,h0,h1,h5,h6,f_v0,f_v1⟩)
 have c:=zAd c7 c
 refine zPO ?_
 obtain rfl:=si c
 exact ei _ ⟨_,ul_u1,Z,d,j,B,q,h1,h5,f_v1⟩
 rintro R w ⟨A,s4,uo_u1,es,d,j,B,q,h1,h5,f_v1⟩
 obtain rfl:=es.symm
 refine zPQ ?_
 refine zPR d j (eI 0::[]) ?_ ?_
 exact op (fun Q U W H D=>zA6 Z)<|oz
 intro R w m n p d j
 obtain ⟨h1,h5⟩:=k2 n h1 h5
 have h7:=p.r 0 Z
 replace f_v1:=f_v1.fr m
 replace q:=q.fr m
 obtain ⟨rl13,q14,c⟩:=zA9 c
 replace q14:=q14 Z
 refine zPL (fun R w=>∃ A:Av,∃ (s15:(List (List UInt8))) (uo_uo_u1:Value),rl13=s15/\AvOK A w/\Fr w0 w/\(∀ b o,A0 b o->A b o)/\IniOK [ob uo_uo_u1 (.vec w0.heap.size 9 eStr s15)] A w/\R 5=uo_uo_u1) ?_ ?_
 refine HT.block<|zPP (fun k R w=>∃ A:Av,∃ (y16:Int) (y17:List (List UInt8)) (ul_uo_u1:Value),zB0 fu p1 k y16 y17=some rl13/\AvOK A w/\Fr w0 w/\(∀ b o,A0 b o->A b o)/\IniOK [ob ul_uo_u1 (.vec w0.heap.size 9 eStr y17)] A w/\R 1=v1/\R 5=ul_uo_u1/\R 7=.int .i64 y16/\Rep (eSl eStr) A w v1 p1) fu ⟨_,_,_,uo_u1,q14,d,j,B,q,h1,h5,h7,f_v1⟩ ?_
 have hr0:=c;clear c q14
 rintro k R w ⟨A,y16,y17,ul_uo_u1,c,d,j,B,q,h1,h5,h7,f_v1⟩
 rcases k with _ | k
 cases (show none=some _ from c)
 rw [zB0] at c
 refine zPQ ?_
 refine zPR d j (eI y16::eR v1::eI (p1.length:Int)::eB (decide (y16<(p1.length:Int)))::[]) ?_ ?_
 exact om h7<|om h1<|op (fun Q U W H D=>zAN (aT:=#[]) ((f_v1.fr W).eq (D.g 0 Z)) underlying28)<|op (fun Q U W H D=>zB8 (D.g 0 Z) (D.g 1 Z))<|oz
 intro R w m n p d j
 obtain ⟨h1,h5,h7⟩:=k3 n h1 h5 h7
 have h24:=p.r 3 Z
 replace f_v1:=f_v1.fr m
 replace q:=q.fr m
 refine zPJ (decide (y16<(p1.length:Int))) h24 (fun c18=>?_) (fun c18=>?_)
 have c:=zAe c18 c
 refine HT.skip<|zPQ ?_
 refine HT.block ?_
 obtain ⟨e19,c⟩:=zAG c
 obtain ⟨x20,q21,c⟩:=zA9 c
 refine zPV [ob ul_uo_u1 (.vec w0.heap.size 9 eStr y17)] (rR ul_uo_u1::rR v1::rI y16::(rF fun A=>.qtr eStr A (gtD p1 y16))::(rF fun A=>.rep eStr A (gtD p1 y16))::⟨_,true,[0],some (.vec w0.heap.size 9 eStr x20),true,fun A=>.any⟩::⟨_,true,[6],some (.vec w0.heap.size 9 eStr x20),true,fun A=>.any⟩::[]) (ur (ur (ur (UAll.cons zCM (up (ua (ua (UAll.nil)))))))) q d ?_ ?_
 exact rm h5<|rm h1<|rm h7<|rp (fun V Q U O D=>zAC ((f_v1.stp O.stp).eq (D.g 0 Z)) (D.g 1 Z) underlying28 sizeOf9 e19)<|rp (fun V Q U O D=>(zAT (QRep.ptr (D.g 0 Z)) isAgg9 sizeOf9))<|rc (OblR.took 0 _ _ Z Z Z Z Z fun V Q U O D u X Y J L M=>by have a0:Q 27=ul_uo_u1:=D.g 0 Z;have a1:Rep eStr V U (Q 31) (gtD p1 y16):=D.g 1 Z;have hu0:zAL Q (.tmp 27)=u:=a0.trans (J _ Z).symm;exact zEg call74 Y (by simp only [List.map,hu0];exact zDh (q21 Z) (O.av.sub _) (fun b o h=>h.2) (Nat.le_trans j.size O.ch.size) (Vec.flat X (fun _ _ _ _ _ h=>h)) (a1.less fun b o h=>h.1) Z))<|rc (OblR.took 6 _ _ Z Z Z Z Z fun V Q U O D u X Y J L M=>by exact zAP (L _ _ Z Z Z Z).symm X Y)<|rz
 intro done ρ σ A R w y s
 obtain ⟨h1,h7⟩:=k2 s.rg h1 h7
 obtain ⟨u22,e_u22⟩:∃ u,ρ 7=u:=⟨_,Z⟩
 have h5:=s.ov y 7 6 e_u22
 replace f_v1:=f_v1.stp s.stp
 obtain ⟨B,j,d⟩:=s.s B C j q ⟨Z,N⟩
 replace q:=s.left y [(7,ob u22 (.vec w0.heap.size 9 eStr x20))] ⟨Z,Z,e_u22,Z,Z,N⟩
 obtain ⟨e23,c⟩:=zAG c
 refine HT.u d j (eI y16::eI (y16+1)::eI (y16+1)::[]) ?_ ?_
 exact om h7<|op (fun Q U W H D=>zAi (D.g 0 Z) Z e23)<|oa<|oz
 intro R w m n p d j
 obtain ⟨h1,h5⟩:=k2 n h1 h5
 have h7:=p.r 2 Z
 replace f_v1:=f_v1.fr m
 replace q:=q.fr m
 exact ei k (And.intro (Nat.lt_succ_self k) ⟨_,_,_,u22,c,d,j,B,q,h1,h5,h7,f_v1⟩)
 have c:=zAd c18 c
 refine zPO ?_
 obtain rfl:=si c
 exact ei _ ⟨_,ul_uo_u1,Z,d,j,B,q,h5⟩
 rintro R w ⟨A,s15,uo_uo_u1,es,d,j,B,q,h5⟩
 obtain rfl:=es.symm
 refine zPR d j (eR uo_uo_u1::eR uo_uo_u1::[]) ?_ ?_
 exact om h5<|oa<|oz
 intro R w m n p d j
 have h4:=p.r 1 Z
 replace q:=q.fr m
 refine HT.ret ?_
 obtain rfl:=si c
 exact ⟨.inr Z,[R 4],⟨Z,N⟩,(zBk (q.ok 0 _ Z) B h4),j⟩
theorem zG9 {fu : Nat} {A0 : Av} {p0 : List (List UInt8)} {p1 : List (List UInt8)} {r : List (List UInt8)} (c : zCc fu p0 p1 = some r) {w : World} {v0 : Value} {v1 : Value} (d : AvOK A0 w) (h0 : Rep (eSl eStr) A0 w v0 p0) (h1 : Rep (eSl eStr) A0 w v1 p1) :
 Calls prog 63 #[v0,v1] w fun e w'=>∃ v,e=.returned v/\(Rep (eSl eStr) A0 w' v r/\Fr w w'):=by
 refine Calls.mono (zGI c d h0 h1) ?_
 rintro e w' ⟨v,he,hv,hf⟩
 exact ⟨v,he,zDt hv (fun b o h=>.inl h) d,hf⟩
def zCL (fu:Nat) (p0:List (List UInt8)) (p1:List (List UInt8)) (p2:Int):Option Bool:=
 cl true (zF3 fu p0 p1) fun x1=>
 cl (true&&((!x1)==false)) (zDC fu (p0.length:Int) (p1.length:Int) p2) fun x3=>
 bd ((!x1) || (!x3)) fun x5=>
 bif x5 then (
 some false
 ) else (
 cl true (zBx fu p0 p1) fun x8=>
 ck (i64B (1000*(x8.length:Int))) <|
 cl true (zCc fu p0 p1) fun x11=>
 ck (i64B (p2*(x11.length:Int))) <|
 some (decide ((p2*(x11.length:Int))<=(1000*(x8.length:Int))))
 )
theorem zEa {fu : Nat} {A : Av} {p0 : List (List UInt8)} {p1 : List (List UInt8)} {p2 : Int} {r : Bool} (c : zCL fu p0 p1 p2 = some r) {w : World} {v0 : Value} {v1 : Value} {v2 : Value} (d : AvOK A w) (h0 : Rep (eSl eStr) A w v0 p0) (h1 : Rep (eSl eStr) A w v1 p1) (h2 : v2=.int .i64 p2) :
 Calls prog 33 #[v0,v1,v2] w fun e w'=>∃ v,e=.returned v/\(v=.bool r/\Fr w w'):=by
 unfold zCL at c
 obtain ⟨w0,hw0,j⟩:=pf w
 rw [fw hw0]
 refine zAB [.tmp 6] func33 ntmps33 (by decide) Z Z (nb Z) ?_
 intro R hR
 have f_v0:=h0
 replace h0:R 0=v0:=hR 0 _ Z
 have f_v1:=h1
 replace h1:R 1=v1:=hR 1 _ Z
 replace h2:R 2=.int .i64 p2:=(hR 2 _ Z).trans h2
 refine zPR d j (eB false::[]) ?_ ?_
 exact op (fun Q U W H D=>zA6 Z)<|oz
 intro R w m n p d j
 obtain ⟨h0,h1,h2⟩:=k3 n h0 h1 h2
 replace f_v0:=f_v0.fr m
 replace f_v1:=f_v1.fr m
 refine zPQ ?_
 refine zPQ ?_
 obtain ⟨x1,q2,c⟩:=zA9 c
 obtain ⟨x3,q4,c⟩:=zA9 c
 obtain ⟨x5,q6,c⟩:=zAO c
 refine HT.u d j (eR v0::eR v1::eB x1::eB (!x1)::eB (!x1)::gR (true&&((!x1)==false)) v0::gI (true&&((!x1)==false)) (p0.length:Int)::gR (true&&((!x1)==false)) v1::gI (true&&((!x1)==false)) (p1.length:Int)::gI (true&&((!x1)==false)) p2::gB (true&&((!x1)==false)) x3::gB (true&&((!x1)==false)) (!x3)::eB x5::[]) ?_ ?_
 exact om h0<|om h1<|op (fun Q U W H D=>zAM call62 (zI8 (q2 Z) (d.fr W.size) ((f_v0.fr W).eq (D.g 0 Z)) ((f_v1.fr W).eq (D.g 1 Z))))<|op (fun Q U W H D=>zBY (D.g 0 Z))<|ov<|gm 4 false h0<|og 4 false (fun G Q U W H D=>zAN (aT:=#[]) ((f_v0.fr W).eq (D.h 0 G Z)) underlying28)<|gm 4 false h1<|og 4 false (fun G Q U W H D=>zAN (aT:=#[]) ((f_v1.fr W).eq (D.h 0 G Z)) underlying28)<|gm 4 false h2<|og 4 false (fun G Q U W H D=>zAM call59 (zEz (q4 G) (d.fr W.size) (D.h 0 G Z) (D.h 1 G Z) (D.h 2 G Z)))<|og 4 false (fun G Q U W H D=>zBY (D.h 0 G Z))<|op (fun Q U W H D=>zAR (!x1) (D.g 0 Z) (fun hc=>by show _=Value.bool x5;rw [q6,hc];exact Z) (fun hc=>by have a2:Q 18=.bool (!x3):=D 1 _ _ _ Z Z Z Z (zBJ Z (zAf hc));show _=Value.bool x5;rw [q6,hc];exact a2))<|oz
 intro R w m n p d j
 obtain ⟨h0,h1,h2⟩:=k3 n h0 h1 h2
 have h19:=p.r 12 Z
 replace f_v0:=f_v0.fr m
 replace f_v1:=f_v1.fr m
 refine zPJ x5 h19 (fun c7=>?_) (fun c7=>?_)
 have c:=zAe c7 c
 refine zPR d j (eB false::[]) ?_ ?_
 exact op (fun Q U W H D=>zA6 Z)<|oz
 intro R w m n p d j
 have h6:=p.r 0 Z
 refine HT.ret ?_
 obtain rfl:=si c
 exact ⟨.inr Z,[R 6],⟨Z,N⟩,h6,j⟩
 have c:=zAd c7 c
 refine HT.skip ?_
 obtain ⟨x8,q9,c⟩:=zA9 c
 obtain ⟨e10,c⟩:=zAG c
 obtain ⟨x11,q12,c⟩:=zA9 c
 obtain ⟨e13,c⟩:=zAG c
 refine zPR d j (eR v0::eR v1::eF (.rep (eSl eStr) A x8)::eI (x8.length:Int)::eI (1000*(x8.length:Int))::eI p2::eR v0::eR v1::eF (.rep (eSl eStr) A x11)::eI (x11.length:Int)::eI (p2*(x11.length:Int))::eB (decide ((p2*(x11.length:Int))<=(1000*(x8.length:Int))))::eB (decide ((p2*(x11.length:Int))<=(1000*(x8.length:Int))))::[]) ?_ ?_
 exact om h0<|om h1<|op (fun Q U W H D=>zAM call60 (zEW (q9 Z) (d.fr W.size) ((f_v0.fr W).eq (D.g 0 Z)) ((f_v1.fr W).eq (D.g 1 Z))))<|op (fun Q U W H D=>zAN (aT:=#[]) (D.g 0 Z) underlying28)<|op (fun Q U W H D=>zFx Z (D.g 0 Z) e10)<|om h2<|om h0<|om h1<|op (fun Q U W H D=>zAM call63 (zG9 (q12 Z) (d.fr W.size) ((f_v0.fr W).eq (D.g 0 Z)) ((f_v1.fr W).eq (D.g 1 Z))))<|op (fun Q U W H D=>zAN (aT:=#[]) (D.g 0 Z) underlying28)<|op (fun Q U W H D=>zFx (D.g 0 Z) (D.g 1 Z) e13)<|op (fun Q U W H D=>zFI (D.g 0 Z) (D.g 1 Z))<|oa<|oz
 intro R w m n p d j
 have h6:=p.r 12 Z
 refine HT.ret ?_
 obtain rfl:=si c
 exact ⟨.inr Z,[R 6],⟨Z,N⟩,h6,j⟩
def zBB (fu : Nat) (p0 : zA7) (p1 : List (List UInt8)) : Nat -> Int -> (List Int) -> Option (List Int)
 | 0,_,_=>none
 | k+1,y7,y8=>
 cl (true&&((decide (y7<(p0.2.2.length:Int)))==true)) (zAy fu p0) fun x9=>
 bd ((decide (y7<(p0.2.2.length:Int)))&&x9) fun x11=>
 bif x11 then (
 ck (inR y7 p0.2.2.length) <|
 cl true (zCL fu ((gtD p0.2.2 y7).2) p1 p0.1) fun x15=>
 bif x15 then (
 ck (inR y7 p0.2.2.length) <|
 ck (zD4 (y8.length+([(gtD p0.2.2 y7).1]:List Int).length)) <|
 ck (i64B (y7+1)) <|
 zBB fu p0 p1 k (y7+1) (y8++([(gtD p0.2.2 y7).1]:List Int))
 ) else (
 ck (i64B (y7+1)) <|
 zBB fu p0 p1 k (y7+1) y8
 )
 ) else (
 some y8
 )
def zCQ (fu:Nat) (p0:zA7) (p1:List (List UInt8)):Option (List Int):=
 cl true (zBB fu p0 p1 fu 0 ([]:List Int)) fun s6=>
 some s6
theorem zGp {fu : Nat} {A0 : Av} {p0 : zA7} {p1 : List (List UInt8)} {r : List Int} (c : zCQ fu p0 p1 = some r) {w : World} {v0 : Value} {v1 : Value} (d : AvOK A0 w) (h0 : Rep zA2 A0 w v0 p0) (h1 : Rep (eSl eStr) A0 w v1 p1) :
 Calls prog 10 #[v0,v1] w fun e w'=>∃ v,e=.returned v/\((Res.vec w.heap.size 3 (eInt .i64) r).ok (addA A0 v) v w'/\Fr w w'):=by
 unfold zCQ at c
 obtain ⟨w0,hw0,j,C⟩:=pw d
 have hA00:AvOK A0 w0:=C
 rw [fh hw0]
 rw [fw hw0]
 obtain ⟨A,hAe,B,d,q⟩:=pa d
 refine zAB [.tmp 4] func10 ntmps10 (by decide) Z Z (nb Z) ?_
 intro R hR
 have f_v0:Rep zA2 A w v0 p0:=hAe ▸ h0
 replace h0:R 0=v0:=hR 0 _ Z
 have f_v1:Rep (eSl eStr) A w v1 p1:=hAe ▸ h1
 replace h1:R 1=v1:=hR 1 _ Z
 refine zPS [] (⟨_,true,[],some (.box w0.heap.size 27 zA2 p0),true,fun A=>.any⟩::rA::[]) (ua (ua (UAll.nil))) q d ?_ ?_
 exact rc (OblR.made _ Z Z Z Z fun V Q U O D=>by have a0:Q 0=v0:=(O.old 0 Z).trans h0;have ra0:=(f_v0.stp O.stp).eq a0;exact zD0 ra0 (Nat.le_trans j.size O.ch.size))<|rp (fun V Q U O D=>zA6 N)<|rz
 intro done ρ σ A R w y s
 replace h1:=k1 s.rg h1
 obtain ⟨b2_0,e_b2_0⟩:=s.boxv y 0 Z Z
 have h2:=s.ov y 0 0 e_b2_0
 replace f_v1:=f_v1.stp s.stp
 obtain ⟨B,j,d⟩:=s.s B C j q N
 replace q:=s.left y [(0,ob (.pointer (some ⟨b2_0,0,none⟩)) (.box w0.heap.size 27 zA2 p0))] ⟨Z,Z,e_b2_0,Z,Z,N⟩
 refine zPS [ob (.pointer (some ⟨b2_0,0,none⟩)) (.box w0.heap.size 27 zA2 p0)] (⟨_,true,[],some (.vec w0.heap.size 3 (eInt .i64) ([]:List Int)),true,fun A=>.any⟩::⟨_,true,[1],some (.vec w0.heap.size 3 (eInt .i64) ([]:List Int)),true,fun A=>.any⟩::[]) (ua (ua (UAll.nil))) q d ?_ ?_
 exact rc (OblR.made _ Z Z Z Z fun V Q U O D=>by exact zBM [] (E:=eInt .i64) N underlying31 sizeOf3 zeroValue3 Z Z Z (Nat.le_trans j.size O.ch.size))<|rc (OblR.took 1 _ _ Z Z Z Z Z fun V Q U O D u X Y J L M=>by exact zAP (L _ _ Z Z Z Z).symm X Y)<|rz
 intro done ρ σ A R w y s
 obtain ⟨h1,h2⟩:=k2 s.rg h1 h2
 have z2:=s.inivR 0 Z
 obtain ⟨u3,e_u3⟩:∃ u,ρ 2=u:=⟨_,Z⟩
 have h5:=s.ov y 2 1 e_u3
 replace f_v1:=f_v1.stp s.stp
 obtain ⟨B,j,d⟩:=s.s B C j q ⟨Z,N⟩
 replace q:=s.left y [(0,ob (.pointer (some ⟨b2_0,0,none⟩)) (.box w0.heap.size 27 zA2 p0)),(2,ob u3 (.vec w0.heap.size 3 (eInt .i64) ([]:List Int)))] ⟨Z,Z,z2,Z,Z,⟨Z,Z,e_u3,Z,Z,N⟩⟩
 refine zPQ ?_
 refine zPR d j (eI 0::[]) ?_ ?_
 exact op (fun Q U W H D=>zA6 Z)<|oz
 intro R w m n p d j
 obtain ⟨h1,h2,h5⟩:=k3 n h1 h2 h5
 have h6:=p.r 0 Z
 replace f_v1:=f_v1.fr m
 replace q:=q.fr m
 obtain ⟨rl4,q5,c⟩:=zA9 c
 replace q5:=q5 Z
 refine zPL (fun R w=>∃ A:Av,∃ (s6:(List Int)) (uo_u3:Value),rl4=s6/\AvOK A w/\Fr w0 w/\(∀ b o,A0 b o->A b o)/\IniOK [ob uo_u3 (.vec w0.heap.size 3 (eInt .i64) s6)] A w/\R 5=uo_u3) ?_ ?_
 refine HT.block<|zPP (fun k R w=>∃ A:Av,∃ (y7:Int) (y8:List Int) (ul_u3:Value),zBB fu p0 p1 k y7 y8=some rl4/\AvOK A w/\Fr w0 w/\(∀ b o,A0 b o->A b o)/\IniOK [ob (.pointer (some ⟨b2_0,0,none⟩)) (.box w0.heap.size 27 zA2 p0),ob ul_u3 (.vec w0.heap.size 3 (eInt .i64) y8)] A w/\R 1=v1/\R 2=(.pointer (some ⟨b2_0,0,none⟩))/\R 5=ul_u3/\R 6=.int .i64 y7/\Rep (eSl eStr) A w v1 p1) fu ⟨_,_,_,u3,q5,d,j,B,q,h1,h2,h5,h6,f_v1⟩ ?_
 have hr0:=c;clear c q5
 rintro k R w ⟨A,y7,y8,ul_u3,c,d,j,B,q,h1,h2,h5,h6,f_v1⟩
 rcases k with _ | k
 cases (show none=some _ from c)
 rw [zBB] at c
 refine zPQ ?_
 refine zPQ ?_
 obtain ⟨x9,q10,c⟩:=zA9 c
 obtain ⟨x11,q12,c⟩:=zAO c
 refine HT.u d j (eI y7::eR (.pointer (some ⟨b2_0,2,none⟩))::eF (.rep (eSl zA1) A p0.2.2)::eI (p0.2.2.length:Int)::eB (decide (y7<(p0.2.2.length:Int)))::eB (decide (y7<(p0.2.2.length:Int)))::gF (true&&((decide (y7<(p0.2.2.length:Int)))==true)) (.rep zA2 A p0)::gB (true&&((decide (y7<(p0.2.2.length:Int)))==true)) x9::eB x11::[]) ?_ ?_
 exact om h6<|op (fun Q U W H D=>zA8 ((H 2 Z).trans h2) zAv sizeOf25 (by decide) Z)<|op (fun Q U W H D=>(zAA ((q.fr W).ok 0 _ Z).1 (D.g 0 Z) zAJ Z isAgg25 sizeOf25))<|op (fun Q U W H D=>zAN (aT:=#[]) (D.g 0 Z) underlying25)<|op (fun Q U W H D=>zB8 (D.g 0 Z) (D.g 1 Z))<|ov<|og 5 true (fun G Q U W H D=>(zAA ((q.fr W).ok 0 _ Z).1 ((H 2 Z).trans h2) (Fld.id _) Z isAgg27 sizeOf27))<|og 5 true (fun G Q U W H D=>zAM call28 (zCX (q10 G) (d.fr W.size) (D.h 0 G Z)))<|op (fun Q U W H D=>zAR (decide (y7<(p0.2.2.length:Int))) (D.g 0 Z) (fun hc=>by have a1:Q 15=.bool x9:=D 1 _ _ _ Z Z Z Z (zBJ Z (zAf hc));show _=Value.bool x11;rw [q12,hc];exact a1) (fun hc=>by show _=Value.bool x11;rw [q12,hc];exact Z))<|oz
 intro R w m n p d j
 obtain ⟨h1,h2,h5,h6⟩:=k4 n h1 h2 h5 h6
 have h16:=p.r 8 Z
 replace f_v1:=f_v1.fr m
 replace q:=q.fr m
 refine zPJ x11 h16 (fun c13=>?_) (fun c13=>?_)
 have c:=zAe c13 c
 refine HT.skip<|zPQ ?_
 refine HT.block<|zPQ ?_
 obtain ⟨e14,c⟩:=zAG c
 obtain ⟨x15,q16,c⟩:=zA9 c
 refine zPM (by kernel_rfl) (l:=eR (.pointer (some ⟨b2_0,2,none⟩))::eF (.rep (eSl zA1) A p0.2.2)::eI y7::eF (.qtr zA1 A (gtD p0.2.2 y7))::eF (.qtr (eSl eStr) A ((gtD p0.2.2 y7).2))::eF (.rep (eSl eStr) A ((gtD p0.2.2 y7).2))::eR v1::eR (.pointer (some ⟨b2_0,0,none⟩))::eI p0.1::eB x15::[]) (tl:=[]) (by kernel_rfl) (by kernel_rfl) (by kernel_rfl) (by kernel_rfl) ?_ ?_
 exact op (fun Q U W H D=>zA8 ((H 2 Z).trans h2) zAv sizeOf25 (by decide) Z)<|op (fun Q U W H D=>(zAA ((q.fr W).ok 0 _ Z).1 (D.g 0 Z) zAJ Z isAgg25 sizeOf25))<|om h6<|op (fun Q U W H D=>zAC (D.g 0 Z) (D.g 1 Z) underlying25 sizeOf54 e14)<|op (fun Q U W H D=>zAX (qt (D.g 0 Z)) zEi sizeOf28 (by decide) zAg Z)<|op (fun Q U W H D=>(zAT (QRep.ptr (D.g 0 Z)) isAgg28 sizeOf28))<|om h1<|op (fun Q U W H D=>zA8 ((H 2 Z).trans h2) zF0 sizeOf3 (by decide) Z)<|op (fun Q U W H D=>OpF.int (zAA ((q.fr W).ok 0 _ Z).1 (D.g 0 Z) zB4 Z isAgg3 sizeOf3))<|op (fun Q U W H D=>zAM call33 (zEa (q16 Z) (d.fr W.size) (D.g 0 Z) ((f_v1.fr W).eq (D.g 1 Z)) (D.g 2 Z)))<|oz
 intro R w m n p
 obtain ⟨h1,h2,h5,h6⟩:=k4 n h1 h2 h5 h6
 have h28:=p.r 9 Z
 replace f_v1:=f_v1.fr m
 replace q:=q.fr m
 replace d:=d.fr m.size
 replace j:=j.trans m
 refine zPJ x15 h28 (fun c17=>?_) (fun c17=>?_)
 have c:=zAe c17 c
 obtain ⟨e18,e19,c⟩:=ck2 c
 refine zPV [ob (.pointer (some ⟨b2_0,0,none⟩)) (.box w0.heap.size 27 zA2 p0),ob ul_u3 (.vec w0.heap.size 3 (eInt .i64) y8)] (rR ul_u3::rR (.pointer (some ⟨b2_0,2,none⟩))::(rF fun A=>.rep (eSl zA1) A p0.2.2)::rI y7::(rF fun A=>.qtr zA1 A (gtD p0.2.2 y7))::(rF fun A=>.qtr (eInt .i64) A ((gtD p0.2.2 y7).1))::rI ((gtD p0.2.2 y7).1)::(rF fun A=>.rep (eSl (eInt .i64)) A ([(gtD p0.2.2 y7).1]:List Int))::⟨_,true,[1],some (.vec w0.heap.size 3 (eInt .i64) (y8++([(gtD p0.2.2 y7).1]:List Int))),true,fun A=>.any⟩::⟨_,true,[10],some (.vec w0.heap.size 3 (eInt .i64) (y8++([(gtD p0.2.2 y7).1]:List Int))),true,fun A=>.any⟩::[]) (ur (ur (up (ur (UAll.cons zCM (UAll.cons zCM (ur (up (ua (ua (UAll.nil))))))))))) q d ?_ ?_
 exact rm h5<|rp (fun V Q U O D=>zA8 ((O.old 2 Z).trans h2) zAv sizeOf25 (by decide) Z)<|rp (fun V Q U O D=>(zAA (O.rd 0 _ Z Z) (D.g 0 Z) zAJ Z isAgg25 sizeOf25))<|rm h6<|rp (fun V Q U O D=>zAC (D.g 0 Z) (D.g 1 Z) underlying25 sizeOf54 e18)<|rp (fun V Q U O D=>zAX (qt (D.g 0 Z)) zDc sizeOf3 (by decide) zAU Z)<|rp (fun V Q U O D=>OpF.int (zAT (QRep.ptr (D.g 0 Z)) isAgg3 sizeOf3))<|rp (fun V Q U O D=>zC7 [_] (E:=eInt .i64) ⟨(zBa.eq (D.g 0 Z)),N⟩ underlying31 sizeOf3 zeroValue3 Z Z Z O.av)<|rc (OblR.took 1 _ _ Z Z Z Z Z fun V Q U O D u X Y J L M=>by have a0:Q 29=ul_u3:=D.g 0 Z;have a1:Rep (eSl (eInt .i64)) V U (Q 36) ([(gtD p0.2.2 y7).1]:List Int):=D.g 1 Z;exact zAs (a0.trans (J _ Z).symm) X Y (Nat.le_trans j.size O.ch.size) a1 underlying31 el_3 e19)<|rc (OblR.took 10 _ _ Z Z Z Z Z fun V Q U O D u X Y J L M=>by exact zAP (L _ _ Z Z Z Z).symm X Y)<|rz
 intro done ρ σ A R w y s
 obtain ⟨h1,h2,h6⟩:=k3 s.rg h1 h2 h6
 have z20:=s.inivR 0 Z
 obtain ⟨u21,e_u21⟩:∃ u,ρ 11=u:=⟨_,Z⟩
 have h5:=s.ov y 11 9 e_u21
 replace f_v1:=f_v1.stp s.stp
 obtain ⟨B,j,d⟩:=s.s B C j q ⟨Z,⟨Z,N⟩⟩
 replace q:=s.left y [(0,ob (.pointer (some ⟨b2_0,0,none⟩)) (.box w0.heap.size 27 zA2 p0)),(11,ob u21 (.vec w0.heap.size 3 (eInt .i64) (y8++([(gtD p0.2.2 y7).1]:List Int))))] ⟨Z,Z,z20,Z,Z,⟨Z,Z,e_u21,Z,Z,N⟩⟩
 obtain ⟨e22,c⟩:=zAG c
 refine HT.u d j (eI y7::eI (y7+1)::eI (y7+1)::[]) ?_ ?_
 exact om h6<|op (fun Q U W H D=>zAi (D.g 0 Z) Z e22)<|oa<|oz
 intro R w m n p d j
 obtain ⟨h1,h2,h5⟩:=k3 n h1 h2 h5
 have h6:=p.r 2 Z
 replace f_v1:=f_v1.fr m
 replace q:=q.fr m
 exact ei k (And.intro (Nat.lt_succ_self k) ⟨_,_,_,u21,c,d,j,B,q,h1,h2,h5,h6,f_v1⟩)
 have c:=zAd c17 c
 refine HT.skip ?_
 obtain ⟨e23,c⟩:=zAG c
 refine HT.u d j (eI y7::eI (y7+1)::eI (y7+1)::[]) ?_ ?_
 exact om h6<|op (fun Q U W H D=>zAi (D.g 0 Z) Z e23)<|oa<|oz
 intro R w m n p d j
 obtain ⟨h1,h2,h5⟩:=k3 n h1 h2 h5
 have h6:=p.r 2 Z
 replace f_v1:=f_v1.fr m
 replace q:=q.fr m
 exact ei k (And.intro (Nat.lt_succ_self k) ⟨_,_,_,ul_u3,c,d,j,B,q,h1,h2,h5,h6,f_v1⟩)
 have c:=zAd c13 c
 refine zPO ?_
 obtain rfl:=si c
 replace q:IniOK [ob ul_u3 (.vec w0.heap.size 3 (eInt .i64) y8)] A w:=q.sub [(1,ob ul_u3 (.vec w0.heap.size 3 (eInt .i64) y8))] ⟨Z,Z,N⟩
 exact ei _ ⟨_,ul_u3,Z,d,j,B,q,h5⟩
 rintro R w ⟨A,s6,uo_u3,es,d,j,B,q,h5⟩
 obtain rfl:=es.symm
 refine zPR d j (eR uo_u3::eR uo_u3::[]) ?_ ?_
 exact om h5<|oa<|oz
 intro R w m n p d j
 have h4:=p.r 1 Z
 replace q:=q.fr m
 refine HT.ret ?_
 obtain rfl:=si c
 exact ⟨.inr Z,[R 4],⟨Z,N⟩,(zBk (q.ok 0 _ Z) B h4),j⟩
theorem zEu {fu : Nat} {A0 : Av} {p0 : zA7} {p1 : List (List UInt8)} {r : List Int} (c : zCQ fu p0 p1 = some r) {w : World} {v0 : Value} {v1 : Value} (d : AvOK A0 w) (h0 : Rep zA2 A0 w v0 p0) (h1 : Rep (eSl eStr) A0 w v1 p1) :
 Calls prog 10 #[v0,v1] w fun e w'=>∃ v,e=.returned v/\(Rep (eSl (eInt .i64)) A0 w' v r/\Fr w w'):=by
 refine Calls.mono (zGp c d h0 h1) ?_
 rintro e w' ⟨v,he,hv,hf⟩
 exact ⟨v,he,zDt hv (fun b o h=>.inl h) d,hf⟩
def zDE (fu : Nat) (p0 : List Int) (p1 : Int) : Nat -> Int -> Option (Ex Bool Unit)
 | 0,_=>none
 | k+1,y4=>
 bif (decide (y4<(p0.length:Int))) then (
 ck (inR y4 p0.length) <|
 bif ((gtD p0 y4)==p1) then (
 some (Ex.ret true)
 ) else (
 ck (i64B (y4+1)) <|
 zDE fu p0 p1 k (y4+1)
 )
 ) else (
 some (Ex.go ())
 )
def zF6 (fu:Nat) (p0:List Int) (p1:Int):Option Bool:=
 cl true (zDE fu p0 p1 fu 0) fun rl1=>
 exM rl1 (fun r=>some r) fun s3=>
 some false
theorem zHP {fu : Nat} {A : Av} {p0 : List Int} {p1 : Int} {r : Bool} (c : zF6 fu p0 p1 = some r) {w : World} {v0 : Value} {v1 : Value} (d : AvOK A w) (h0 : Rep (eSl (eInt .i64)) A w v0 p0) (h1 : v1=.int .i64 p1) :
 Calls prog 11 #[v0,v1] w fun e w'=>∃ v,e=.returned v/\(v=.bool r/\Fr w w'):=by
 unfold zF6 at c
 obtain ⟨w0,hw0,j⟩:=pf w
 rw [fw hw0]
 refine zAB [.tmp 4] func11 ntmps11 (by decide) Z Z (nb Z) ?_
 intro R hR
 have f_v0:=h0
 replace h0:R 0=v0:=hR 0 _ Z
 replace h1:R 1=.int .i64 p1:=(hR 1 _ Z).trans h1
 refine zPR d j (eB false::[]) ?_ ?_
 exact op (fun Q U W H D=>zA6 Z)<|oz
 intro R w m n p d j
 obtain ⟨h0,h1⟩:=k2 n h0 h1
 replace f_v0:=f_v0.fr m
 refine zPQ ?_
 refine zPR d j (eI 0::[]) ?_ ?_
 exact op (fun Q U W H D=>zA6 Z)<|oz
 intro R w m n p d j
 obtain ⟨h0,h1⟩:=k2 n h0 h1
 have h5:=p.r 0 Z
 replace f_v0:=f_v0.fr m
 obtain ⟨rl1,q2,c⟩:=zA9 c
 replace q2:=q2 Z
 refine zPL (fun R w=>∃ (s3:Unit),rl1=Ex.go s3/\AvOK A w/\Fr w0 w) ?_ ?_
 refine HT.block<|zPP (fun k R w=>∃ (y4:Int),zDE fu p0 p1 k y4=some rl1/\AvOK A w/\Fr w0 w/\R 0=v0/\R 1=.int .i64 p1/\R 5=.int .i64 y4/\Rep (eSl (eInt .i64)) A w v0 p0) fu ⟨_,q2,d,j,h0,h1,h5,f_v0⟩ ?_
 have hr0:=c;clear c q2
 rintro k R w ⟨y4,c,d,j,h0,h1,h5,f_v0⟩
 rcases k with _ | k
 cases (show none=some _ from c)
 rw [zDE] at c
 refine zPQ ?_
 refine zPR d j (eI y4::eR v0::eI (p0.length:Int)::eB (decide (y4<(p0.length:Int)))::[]) ?_ ?_
 exact om h5<|om h0<|op (fun Q U W H D=>zAN (aT:=#[]) ((f_v0.fr W).eq (D.g 0 Z)) underlying31)<|op (fun Q U W H D=>zB8 (D.g 0 Z) (D.g 1 Z))<|oz
 intro R w m n p d j
 obtain ⟨h0,h1,h5⟩:=k3 n h0 h1 h5
 have h9:=p.r 3 Z
 replace f_v0:=f_v0.fr m
 refine zPJ (decide (y4<(p0.length:Int))) h9 (fun c5=>?_) (fun c5=>?_)
 have c:=zAe c5 c
 refine HT.skip<|zPQ ?_
 refine HT.block ?_
 obtain ⟨e6,c⟩:=zAG c
 refine zPR d j (eR v0::eI y4::eF (.qtr (eInt .i64) A (gtD p0 y4))::eI (gtD p0 y4)::eI p1::eB ((gtD p0 y4)==p1)::[]) ?_ ?_
 exact om h0<|om h5<|op (fun Q U W H D=>zAC ((f_v0.fr W).eq (D.g 0 Z)) (D.g 1 Z) underlying31 sizeOf3 e6)<|op (fun Q U W H D=>OpF.int (zAT (QRep.ptr (D.g 0 Z)) isAgg3 sizeOf3))<|om h1<|op (fun Q U W H D=>zEt (D.g 0 Z) (D.g 1 Z))<|oz
 intro R w m n p d j
 obtain ⟨h0,h1,h5⟩:=k3 n h0 h1 h5
 have h17:=p.r 5 Z
 replace f_v0:=f_v0.fr m
 refine zPJ ((gtD p0 y4)==p1) h17 (fun c7=>?_) (fun c7=>?_)
 have c:=zAe c7 c
 refine zPR d j (eB true::[]) ?_ ?_
 exact op (fun Q U W H D=>zA6 Z)<|oz
 intro R w m n p d j
 have h4:=p.r 0 Z
 refine HT.ret ?_
 obtain rfl:=si c
 have c:=hr0
 replace c:some _=some _:=c
 obtain rfl:=si c
 exact ⟨.inr Z,[R 4],⟨Z,N⟩,h4,j⟩
 have c:=zAd c7 c
 refine HT.skip ?_
 obtain ⟨e8,c⟩:=zAG c
 refine HT.u d j (eI y4::eI (y4+1)::eI (y4+1)::[]) ?_ ?_
 exact om h5<|op (fun Q U W H D=>zAi (D.g 0 Z) Z e8)<|oa<|oz
 intro R w m n p d j
 obtain ⟨h0,h1⟩:=k2 n h0 h1
 have h5:=p.r 2 Z
 replace f_v0:=f_v0.fr m
 exact ei k (And.intro (Nat.lt_succ_self k) ⟨_,c,d,j,h0,h1,h5,f_v0⟩)
 have c:=zAd c5 c
 refine zPO ?_
 obtain rfl:=si c
 exact ei _ ⟨Z,d,j⟩
 rintro R w ⟨s3,rfl,d,j⟩
 have c:=zEK c
 refine zPR d j (eB false::[]) ?_ ?_
 exact op (fun Q U W H D=>zA6 Z)<|oz
 intro R w m n p d j
 have h4:=p.r 0 Z
 refine HT.ret ?_
 obtain rfl:=si c
 exact ⟨.inr Z,[R 4],⟨Z,N⟩,h4,j⟩
def zBr (fu : Nat) (p0 : zA7) (y11 : Int) : Nat -> Int -> (List zAK) -> Option (List zAK)
 | 0,_,_=>none
 | k+1,y25,y26=>
 bif (decide (y25<((subL p0.2.2 (y11+1) (p0.2.2.length:Int)).length:Int))) then (
 ck (inR y25 (subL p0.2.2 (y11+1) (p0.2.2.length:Int)).length) <|
 cl true (zCU fu ((gtD p0.2.2 y11).2) ((gtD (subL p0.2.2 (y11+1) (p0.2.2.length:Int)) y25).2) p0.1) fun x34=>
 bif x34 then (
 ck (zD4 (y26.length+([((gtD p0.2.2 y11).1,(gtD (subL p0.2.2 (y11+1) (p0.2.2.length:Int)) y25).1)]:List zAK).length)) <|
 ck (i64B (y25+1)) <|
 zBr fu p0 y11 k (y25+1) (y26++([((gtD p0.2.2 y11).1,(gtD (subL p0.2.2 (y11+1) (p0.2.2.length:Int)) y25).1)]:List zAK))
 ) else (
 ck (i64B (y25+1)) <|
 zBr fu p0 y11 k (y25+1) y26
 )
 ) else (
 some y26
 )
def zCA (fu : Nat) (p0 : zA7) : Nat -> Int -> (List zAK) -> Option (List zAK)
 | 0,_,_=>none
 | k+1,y11,y12=>
 bif (decide (y11<(p0.2.2.length:Int))) then (
 ck (inR y11 p0.2.2.length) <|
 ck (i64B (y11+1)) <|
 ck (subR (y11+1) (p0.2.2.length:Int) p0.2.2.length) <|
 cl true (zBr fu p0 y11 fu 0 y12) fun s24=>
 ck (i64B (y11+1)) <|
 zCA fu p0 k (y11+1) s24
 ) else (
 some y12
 )
def zDQ (fu:Nat) (p0:zA7):Option (List zAK):=
 cl true (zAh fu p0) fun x2=>
 bif (!x2) then (
 some ([]:List zAK)
 ) else (
 cl true (zCA fu p0 fu 0 ([]:List zAK)) fun s10=>
 some s10
 )
set_option linter.unusedSimpArgs false in
theorem zHS {fu : Nat} {A0 : Av} {p0 : zA7} {r : List zAK} (c : zDQ fu p0 = some r) {w : World} {v0 : Value} (d : AvOK A0 w) (h0 : Rep zA2 A0 w v0 p0) :
 Calls prog 12 #[v0] w fun e w'=>∃ v,e=.returned v/\((Res.vec w.heap.size 38 zAF r).ok (addA A0 v) v w'/\Fr w w'):=by
 unfold zDQ at c
 obtain ⟨w0,hw0,j,C⟩:=pw d
 have hA00:AvOK A0 w0:=C
 rw [fh hw0]
 rw [fw hw0]
 obtain ⟨A,hAe,B,d,q⟩:=pa d
 refine zAB [.tmp 2] func12 ntmps12 (by decide) Z Z (nb Z) ?_
 intro R hR
 have f_v0:Rep zA2 A w v0 p0:=hAe ▸ h0
 replace h0:R 0=v0:=hR 0 _ Z
 refine zPS [] (⟨_,true,[],some (.box w0.heap.size 27 zA2 p0),true,fun A=>.any⟩::rA::[]) (ua (ua (UAll.nil))) q d ?_ ?_
 exact rc (OblR.made _ Z Z Z Z fun V Q U O D=>by have a0:Q 0=v0:=(O.old 0 Z).trans h0;have ra0:=(f_v0.stp O.stp).eq a0;exact zD0 ra0 (Nat.le_trans j.size O.ch.size))<|rp (fun V Q U O D=>zA6 N)<|rz
 intro done ρ σ A R w y s
 obtain ⟨b1_0,e_b1_0⟩:=s.boxv y 0 Z Z
 have h1:=s.ov y 0 0 e_b1_0
 obtain ⟨B,j,d⟩:=s.s B C j q N
 replace q:=s.left y [(0,ob (.pointer (some ⟨b1_0,0,none⟩)) (.box w0.heap.size 27 zA2 p0))] ⟨Z,Z,e_b1_0,Z,Z,N⟩
 refine zPQ ?_
 obtain ⟨x2,q3,c⟩:=zA9 c
 refine zPR d j (eF (.rep zA2 A p0)::eB x2::eB (!x2)::[]) ?_ ?_
 exact op (fun Q U W H D=>(zAA ((q.fr W).ok 0 _ Z).1 ((H 1 Z).trans h1) (Fld.id _) Z isAgg27 sizeOf27))<|op (fun Q U W H D=>zAM call18 (zBR (q3 Z) (d.fr W.size) (D.g 0 Z)))<|op (fun Q U W H D=>zBY (D.g 0 Z))<|oz
 intro R w m n p d j
 replace h1:=k1 n h1
 have h10:=p.r 2 Z
 replace q:=q.fr m
 refine zPJ (!x2) h10 (fun c4=>?_) (fun c4=>?_)
 have c:=zAe c4 c
 refine zPR d j (eR (.slice none 0 0)::[]) ?_ ?_
 exact op (fun Q U W H D=>zA6 Z)<|oz
 intro R w m n p d j
 obtain ⟨u5,n_u5⟩:∃ u,u=Value.slice none 0 0:=⟨_,Z⟩
 have h2:R 2=u5:=(p 0 _ _ Z Z Z).trans n_u5.symm
 replace q:=q.fr m
 replace q:IniOK [] A w:=q.sub [] N
 replace q:=q.nilcons (u:=u5) n_u5 w0.heap.size 38 zAF
 refine HT.ret ?_
 obtain rfl:=si c
 exact ⟨.inr Z,[R 2],⟨Z,N⟩,(zBk (q.ok 0 _ Z) B h2),j⟩
 have c:=zAd c4 c
 refine HT.skip<|zPR d j (eR (.slice none 0 0)::[]) ?_ ?_
 exact op (fun Q U W H D=>zA6 Z)<|oz
 intro R w m n p d j
 replace h1:=k1 n h1
 obtain ⟨u6,n_u6⟩:∃ u,u=Value.slice none 0 0:=⟨_,Z⟩
 have h3:R 3=u6:=(p 0 _ _ Z Z Z).trans n_u6.symm
 replace q:=q.fr m
 replace q:=q.nilcons (u:=u6) n_u6 w0.heap.size 38 zAF
 refine zPQ ?_
 refine zPR d j (eR (.pointer (some ⟨b1_0,2,none⟩))::eF (.rep (eSl zA1) A p0.2.2)::eI (p0.2.2.length:Int)::eI 0::[]) ?_ ?_
 exact op (fun Q U W H D=>zA8 ((H 1 Z).trans h1) zAv sizeOf25 (by decide) Z)<|op (fun Q U W H D=>(zAA ((q.fr W).ok 1 _ Z).1 (D.g 0 Z) zAJ Z isAgg25 sizeOf25))<|op (fun Q U W H D=>zAN (aT:=#[]) (D.g 0 Z) underlying25)<|op (fun Q U W H D=>zBI Z)<|oz
 intro R w m n p d j
 obtain ⟨h1,h3⟩:=k2 n h1 h3
 obtain ⟨u7,h12,f_u7⟩:∃ u,R 12=u/\Rep (eSl zA1) A w u p0.2.2:=⟨_,Z,p 1 _ _ Z Z Z⟩
 have h13:=p.r 2 Z
 have h14:=p.r 3 Z
 replace q:=q.fr m
 obtain ⟨rl8,q9,c⟩:=zA9 c
 replace q9:=q9 Z
 refine zPL (fun R w=>∃ A:Av,∃ (s10:(List zAK)) (uo_u6:Value),rl8=s10/\AvOK A w/\Fr w0 w/\(∀ b o,A0 b o->A b o)/\IniOK [ob uo_u6 (.vec w0.heap.size 38 zAF s10)] A w/\R 3=uo_u6) ?_ ?_
 refine HT.block<|zPP (fun k R w=>∃ A:Av,∃ (y11:Int) (y12:List zAK) (ul_u6:Value),zCA fu p0 k y11 y12=some rl8/\AvOK A w/\Fr w0 w/\(∀ b o,A0 b o->A b o)/\IniOK [ob ul_u6 (.vec w0.heap.size 38 zAF y12),ob (.pointer (some ⟨b1_0,0,none⟩)) (.box w0.heap.size 27 zA2 p0)] A w/\R 1=(.pointer (some ⟨b1_0,0,none⟩))/\R 3=ul_u6/\R 12=u7/\R 13=.int .i64 (p0.2.2.length:Int)/\R 14=.int .i64 y11/\Rep (eSl zA1) A w u7 p0.2.2) fu ⟨_,_,_,u6,q9,d,j,B,q,h1,h3,h12,h13,h14,f_u7⟩ ?_
 have hr0:=c;clear c q9
 rintro k R w ⟨A,y11,y12,ul_u6,c,d,j,B,q,h1,h3,h12,h13,h14,f_u7⟩
 rcases k with _ | k
 cases (show none=some _ from c)
 rw [zCA] at c
 refine zPR d j (eB (decide (y11<(p0.2.2.length:Int)))::[]) ?_ ?_
 exact op (fun Q U W H D=>zB8 ((H 14 Z).trans h14) ((H 13 Z).trans h13))<|oz
 intro R w m n p d j
 obtain ⟨h1,h3,h12,h13,h14⟩:=k5 n h1 h3 h12 h13 h14
 have h15:=p.r 0 Z
 replace f_u7:=f_u7.fr m
 replace q:=q.fr m
 refine zPQ ?_
 refine zPJ (decide (y11<(p0.2.2.length:Int))) h15 (fun c13=>?_) (fun c13=>?_)
 have c:=zAe c13 c
 refine HT.skip<|zPQ ?_
 refine HT.block ?_
 obtain ⟨e14,c⟩:=zAG c
 refine zPS [ob ul_u6 (.vec w0.heap.size 38 zAF y12),ob (.pointer (some ⟨b1_0,0,none⟩)) (.box w0.heap.size 27 zA2 p0)] (rI y11::(rF fun A=>.qtr zA1 A (gtD p0.2.2 y11))::(rF fun A=>.rep zA1 A (gtD p0.2.2 y11))::⟨_,true,[],some (.box w0.heap.size 54 zA1 (0,([]:List (List UInt8)))),true,fun A=>.any⟩::rI y11::⟨_,true,[5],some (.box w0.heap.size 54 zA1 (gtD p0.2.2 y11)),false,fun A=>.any⟩::[]) (ur (UAll.cons zCM (up (ua (ur (ua (UAll.nil))))))) q d ?_ ?_
 exact rm h14<|rp (fun V Q U O D=>zAC ((f_u7.stp O.stp).eq ((O.old 12 Z).trans h12)) ((O.old 14 Z).trans h14) underlying25 sizeOf54 e14)<|rp (fun V Q U O D=>(zAT (QRep.ptr (D.g 0 Z)) isAgg54 sizeOf54))<|rc (OblR.made _ Z Z Z Z fun V Q U O D=>by exact zCI zeroValue54 (fun A w=>zCo zAm zBD) (Nat.le_trans j.size O.ch.size))<|ra<|rc (OblR.took 5 _ _ Z Z Z Z Z fun V Q U O D u X Y J L M=>by have a1:Rep zA1 V U (Q 18) (gtD p0.2.2 y11):=D.g 1 Z;obtain ⟨b,hb,hB',hbx⟩:=X;have hop':=L _ _ Z Z Z Z;exact zBX a1 (hop'.symm.trans hb) hb ⟨b,hb,hB',hbx⟩ Y (FldS.id _) sizeOf54 Z)<|rz
 intro done ρ σ A R w y s
 obtain ⟨h1,h3,h12,h13,h14⟩:=k5 s.rg h1 h3 h12 h13 h14
 have z15:=s.inivR 0 Z
 have z16:=s.inivR 1 Z
 obtain ⟨b5_16,e_b5_16⟩:=s.boxv y 7 Z Z
 have z18:=(s.opnR y 7 5 Z Z Z Z Z).symm.trans e_b5_16
 have h5:=s.ov y 5 3 z18
 have h4:=s.r y 4 Z
 replace f_u7:=f_u7.stp s.stp
 obtain ⟨B,j,d⟩:=s.s B C j q ⟨Z,⟨Z,N⟩⟩
 replace q:=s.left y [(0,ob ul_u6 (.vec w0.heap.size 38 zAF y12)),(1,ob (.pointer (some ⟨b1_0,0,none⟩)) (.box w0.heap.size 27 zA2 p0)),(7,ob (.pointer (some ⟨b5_16,0,none⟩)) (.box w0.heap.size 54 zA1 (gtD p0.2.2 y11)))] ⟨Z,Z,z15,Z,Z,⟨Z,Z,z16,Z,Z,⟨Z,Z,e_b5_16,Z,Z,N⟩⟩⟩
 obtain ⟨e19,e20,c⟩:=ck2 c
 refine zPR d j (eR (.pointer (some ⟨b1_0,2,none⟩))::eF (.rep (eSl zA1) A p0.2.2)::eI y11::eI (y11+1)::eF (.rep (eSl zA1) A (subL p0.2.2 (y11+1) (p0.2.2.length:Int)))::eI ((subL p0.2.2 (y11+1) (p0.2.2.length:Int)).length:Int)::eI 0::[]) ?_ ?_
 exact op (fun Q U W H D=>zA8 ((H 1 Z).trans h1) zAv sizeOf25 (by decide) Z)<|op (fun Q U W H D=>(zAA ((q.fr W).ok 1 _ Z).1 (D.g 0 Z) zAJ Z isAgg25 sizeOf25))<|om h4<|op (fun Q U W H D=>zAi (D.g 0 Z) Z e19)<|op (fun Q U W H D=>zDb (D.g 0 Z) (D.g 1 Z) underlying25 sizeOf54 e20)<|op (fun Q U W H D=>zAN (aT:=#[]) (D.g 0 Z) underlying25)<|op (fun Q U W H D=>zBI Z)<|oz
 intro R w m n p d j
 obtain ⟨h1,h3,h5,h12,h13,h14⟩:=k6 n h1 h3 h5 h12 h13 h14
 obtain ⟨u21,h23,f_u21⟩:∃ u,R 23=u/\Rep (eSl zA1) A w u (subL p0.2.2 (y11+1) (p0.2.2.length:Int)):=⟨_,Z,p 4 _ _ Z Z Z⟩
 have h24:=p.r 5 Z
 have h25:=p.r 6 Z
 replace f_u7:=f_u7.fr m
 replace q:=q.fr m
 obtain ⟨rl22,q23,c⟩:=zA9 c
 replace q23:=q23 Z
 refine zPL (fun R w=>∃ A:Av,∃ (s24:(List zAK)) (uo_ul_u6:Value),rl22=s24/\AvOK A w/\Fr w0 w/\(∀ b o,A0 b o->A b o)/\IniOK [ob uo_ul_u6 (.vec w0.heap.size 38 zAF s24),ob (.pointer (some ⟨b1_0,0,none⟩)) (.box w0.heap.size 27 zA2 p0)] A w/\R 1=(.pointer (some ⟨b1_0,0,none⟩))/\R 3=uo_ul_u6/\R 12=u7/\R 13=.int .i64 (p0.2.2.length:Int)/\R 14=.int .i64 y11/\Rep (eSl zA1) A w u7 p0.2.2) ?_ ?_
 refine HT.block<|zPP (fun k R w=>∃ A:Av,∃ (y25:Int) (y26:List zAK) (ul_ul_u6:Value),zBr fu p0 y11 k y25 y26=some rl22/\AvOK A w/\Fr w0 w/\(∀ b o,A0 b o->A b o)/\IniOK [ob ul_ul_u6 (.vec w0.heap.size 38 zAF y26),ob (.pointer (some ⟨b1_0,0,none⟩)) (.box w0.heap.size 27 zA2 p0),ob (.pointer (some ⟨b5_16,0,none⟩)) (.box w0.heap.size 54 zA1 (gtD p0.2.2 y11))] A w/\R 1=(.pointer (some ⟨b1_0,0,none⟩))/\R 3=ul_ul_u6/\R 5=(.pointer (some ⟨b5_16,0,none⟩))/\R 12=u7/\R 13=.int .i64 (p0.2.2.length:Int)/\R 14=.int .i64 y11/\R 23=u21/\R 24=.int .i64 ((subL p0.2.2 (y11+1) (p0.2.2.length:Int)).length:Int)/\R 25=.int .i64 y25/\Rep (eSl zA1) A w u21 (subL p0.2.2 (y11+1) (p0.2.2.length:Int))/\Rep (eSl zA1) A w u7 p0.2.2) fu ⟨_,_,_,ul_u6,q23,d,j,B,q,h1,h3,h5,h12,h13,h14,h23,h24,h25,f_u21,f_u7⟩ ?_
 have hr0:=c;clear c q23
 rintro k R w ⟨A,y25,y26,ul_ul_u6,c,d,j,B,q,h1,h3,h5,h12,h13,h14,h23,h24,h25,f_u21,f_u7⟩
 rcases k with _ | k
 cases (show none=some _ from c)
 rw [zBr] at c
 refine zPR d j (eB (decide (y25<((subL p0.2.2 (y11+1) (p0.2.2.length:Int)).length:Int)))::[]) ?_ ?_
 exact op (fun Q U W H D=>zB8 ((H 25 Z).trans h25) ((H 24 Z).trans h24))<|oz
 intro R w m n p d j
 obtain ⟨h1,h3,h5,h12,h13,h14⟩:=k6 n h1 h3 h5 h12 h13 h14
 obtain ⟨h23,h24,h25⟩:=k3 n h23 h24 h25
 have h26:=p.r 0 Z
 replace f_u21:=f_u21.fr m
 replace f_u7:=f_u7.fr m
 replace q:=q.fr m
 refine zPQ ?_
 refine zPJ (decide (y25<((subL p0.2.2 (y11+1) (p0.2.2.length:Int)).length:Int))) h26 (fun c27=>?_) (fun c27=>?_)
 have c:=zAe c27 c
 refine HT.skip<|zPQ ?_
 refine HT.block ?_
 obtain ⟨e28,c⟩:=zAG c
 refine zPS [ob ul_ul_u6 (.vec w0.heap.size 38 zAF y26),ob (.pointer (some ⟨b1_0,0,none⟩)) (.box w0.heap.size 27 zA2 p0),ob (.pointer (some ⟨b5_16,0,none⟩)) (.box w0.heap.size 54 zA1 (gtD p0.2.2 y11))] ((rF fun A=>.qtr zA1 A (gtD (subL p0.2.2 (y11+1) (p0.2.2.length:Int)) y25))::(rF fun A=>.rep zA1 A (gtD (subL p0.2.2 (y11+1) (p0.2.2.length:Int)) y25))::⟨_,true,[],some (.box w0.heap.size 54 zA1 (0,([]:List (List UInt8)))),true,fun A=>.any⟩::⟨_,true,[5],some (.box w0.heap.size 54 zA1 (gtD (subL p0.2.2 (y11+1) (p0.2.2.length:Int)) y25)),false,fun A=>.any⟩::[]) (UAll.cons zCM (up (ua (ua (UAll.nil))))) q d ?_ ?_
 exact rp (fun V Q U O D=>zAC ((f_u21.stp O.stp).eq ((O.old 23 Z).trans h23)) ((O.old 25 Z).trans h25) underlying25 sizeOf54 e28)<|rp (fun V Q U O D=>(zAT (QRep.ptr (D.g 0 Z)) isAgg54 sizeOf54))<|rc (OblR.made _ Z Z Z Z fun V Q U O D=>by exact zCI zeroValue54 (fun A w=>zCo zAm zBD) (Nat.le_trans j.size O.ch.size))<|rc (OblR.took 5 _ _ Z Z Z Z Z fun V Q U O D u X Y J L M=>by have a1:Rep zA1 V U (Q 28) (gtD (subL p0.2.2 (y11+1) (p0.2.2.length:Int)) y25):=D.g 1 Z;obtain ⟨b,hb,hB',hbx⟩:=X;have hop':=L _ _ Z Z Z Z;exact zBX a1 (hop'.symm.trans hb) hb ⟨b,hb,hB',hbx⟩ Y (FldS.id _) sizeOf54 Z)<|rz
 intro done ρ σ A R w y s
 obtain ⟨h1,h3,h5,h12,h13,h14⟩:=k6 s.rg h1 h3 h5 h12 h13 h14
 obtain ⟨h23,h24,h25⟩:=k3 s.rg h23 h24 h25
 have z29:=s.inivR 0 Z
 have z30:=s.inivR 1 Z
 have z31:=s.inivR 2 Z
 obtain ⟨b7_31,e_b7_31⟩:=s.boxv y 6 Z Z
 have z33:=(s.opnR y 6 3 Z Z Z Z Z).symm.trans e_b7_31
 have h7:=s.ov y 5 2 z33
 replace f_u21:=f_u21.stp s.stp
 replace f_u7:=f_u7.stp s.stp
 obtain ⟨B,j,d⟩:=s.s B C j q ⟨Z,⟨Z,⟨Z,N⟩⟩⟩
 replace q:=s.left y [(0,ob ul_ul_u6 (.vec w0.heap.size 38 zAF y26)),(1,ob (.pointer (some ⟨b1_0,0,none⟩)) (.box w0.heap.size 27 zA2 p0)),(2,ob (.pointer (some ⟨b5_16,0,none⟩)) (.box w0.heap.size 54 zA1 (gtD p0.2.2 y11))),(6,ob (.pointer (some ⟨b7_31,0,none⟩)) (.box w0.heap.size 54 zA1 (gtD (subL p0.2.2 (y11+1) (p0.2.2.length:Int)) y25)))] ⟨Z,Z,z29,Z,Z,⟨Z,Z,z30,Z,Z,⟨Z,Z,z31,Z,Z,⟨Z,Z,e_b7_31,Z,Z,N⟩⟩⟩⟩
 obtain ⟨x34,q35,c⟩:=zA9 c
 refine zPR d j (eR (.pointer (some ⟨b5_16,1,none⟩))::eF (.rep (eSl eStr) A ((gtD p0.2.2 y11).2))::eR (.pointer (some ⟨b7_31,1,none⟩))::eF (.rep (eSl eStr) A ((gtD (subL p0.2.2 (y11+1) (p0.2.2.length:Int)) y25).2))::eR (.pointer (some ⟨b1_0,0,none⟩))::eI p0.1::eB x34::[]) ?_ ?_
 exact op (fun Q U W H D=>zA8 ((H 5 Z).trans h5) zEi sizeOf28 (by decide) Z)<|op (fun Q U W H D=>(zAA ((q.fr W).ok 2 _ Z).1 (D.g 0 Z) zAg Z isAgg28 sizeOf28))<|op (fun Q U W H D=>zA8 ((H 7 Z).trans h7) zEi sizeOf28 (by decide) Z)<|op (fun Q U W H D=>(zAA ((q.fr W).ok 3 _ Z).1 (D.g 0 Z) zAg Z isAgg28 sizeOf28))<|op (fun Q U W H D=>zA8 ((H 1 Z).trans h1) zF0 sizeOf3 (by decide) Z)<|op (fun Q U W H D=>OpF.int (zAA ((q.fr W).ok 1 _ Z).1 (D.g 0 Z) zB4 Z isAgg3 sizeOf3))<|op (fun Q U W H D=>zAM call27 (zEZ (q35 Z) (d.fr W.size) (D.g 0 Z) (D.g 1 Z) (D.g 2 Z)))<|oz
 intro R w m n p d j
 obtain ⟨h1,h3,h5,h7,h12,h13⟩:=k6 n h1 h3 h5 h7 h12 h13
 obtain ⟨h14,h23,h24,h25⟩:=k4 n h14 h23 h24 h25
 have h35:=p.r 6 Z
 replace f_u21:=f_u21.fr m
 replace f_u7:=f_u7.fr m
 replace q:=q.fr m
 refine zPJ x34 h35 (fun c36=>?_) (fun c36=>?_)
 have c:=zAe c36 c
 obtain ⟨e37,c⟩:=zAG c
 refine zPV [ob ul_ul_u6 (.vec w0.heap.size 38 zAF y26),ob (.pointer (some ⟨b1_0,0,none⟩)) (.box w0.heap.size 27 zA2 p0),ob (.pointer (some ⟨b5_16,0,none⟩)) (.box w0.heap.size 54 zA1 (gtD p0.2.2 y11)),ob (.pointer (some ⟨b7_31,0,none⟩)) (.box w0.heap.size 54 zA1 (gtD (subL p0.2.2 (y11+1) (p0.2.2.length:Int)) y25))] (rR ul_ul_u6::rR (.pointer (some ⟨b5_16,0,none⟩))::rI ((gtD p0.2.2 y11).1)::rR (.pointer (some ⟨b7_31,0,none⟩))::rI ((gtD (subL p0.2.2 (y11+1) (p0.2.2.length:Int)) y25).1)::(rF fun A=>.rep zAF A ((gtD p0.2.2 y11).1,(gtD (subL p0.2.2 (y11+1) (p0.2.2.length:Int)) y25).1))::(rF fun A=>.rep (eSl zAF) A ([((gtD p0.2.2 y11).1,(gtD (subL p0.2.2 (y11+1) (p0.2.2.length:Int)) y25).1)]:List zAK))::⟨_,true,[0],some (.vec w0.heap.size 38 zAF (y26++([((gtD p0.2.2 y11).1,(gtD (subL p0.2.2 (y11+1) (p0.2.2.length:Int)) y25).1)]:List zAK))),true,fun A=>.any⟩::⟨_,true,[11],some (.vec w0.heap.size 38 zAF (y26++([((gtD p0.2.2 y11).1,(gtD (subL p0.2.2 (y11+1) (p0.2.2.length:Int)) y25).1)]:List zAK))),true,fun A=>.any⟩::[]) (ur (ur (ur (ur (ur (up (up (ua (ua (UAll.nil)))))))))) q d ?_ ?_
 exact rm h3<|rp (fun V Q U O D=>zA8 ((O.old 5 Z).trans h5) zDc sizeOf3 (by decide) Z)<|rp (fun V Q U O D=>OpF.int (zAA (O.rd 2 _ Z Z) (D.g 0 Z) zAU Z isAgg3 sizeOf3))<|rp (fun V Q U O D=>zA8 ((O.old 7 Z).trans h7) zDc sizeOf3 (by decide) Z)<|rp (fun V Q U O D=>OpF.int (zAA (O.rd 3 _ Z Z) (D.g 0 Z) zAU Z isAgg3 sizeOf3))<|rp (fun V Q U O D=>by have a0:Q 38=.int .i64 ((gtD p0.2.2 y11).1):=D.g 0 Z;have a1:Q 40=.int .i64 ((gtD (subL p0.2.2 (y11+1) (p0.2.2.length:Int)) y25).1):=D.g 1 Z;exact zDn (v:=.agg #[.int .i64 ((gtD p0.2.2 y11).1),.int .i64 ((gtD (subL p0.2.2 (y11+1) (p0.2.2.length:Int)) y25).1)]) (by simp [execOp,Instr.build,zAL,a0,a1,underlying,underlying38,zeroValue38,sizeOf3,go_sem,Instr.fill]) ⟨_,Z,zCo zAm zAm⟩)<|rp (fun V Q U O D=>zC7 [_] (E:=zAF) ⟨(D.g 0 Z),N⟩ underlying35 sizeOf38 zeroValue38 Z Z Z O.av)<|rc (OblR.took 0 _ _ Z Z Z Z Z fun V Q U O D u X Y J L M=>by have a0:Q 36=ul_ul_u6:=D.g 0 Z;have a1:Rep (eSl zAF) V U (Q 42) ([((gtD p0.2.2 y11).1,(gtD (subL p0.2.2 (y11+1) (p0.2.2.length:Int)) y25).1)]:List zAK):=D.g 1 Z;exact zAs (a0.trans (J _ Z).symm) X Y (Nat.le_trans j.size O.ch.size) a1 underlying35 zP4 e37)<|rc (OblR.took 11 _ _ Z Z Z Z Z fun V Q U O D u X Y J L M=>by exact zAP (L _ _ Z Z Z Z).symm X Y)<|rz
 intro done ρ σ A R w y s
 obtain ⟨h1,h5,h12,h13,h14,h23⟩:=k6 s.rg h1 h5 h12 h13 h14 h23
 obtain ⟨h24,h25⟩:=k2 s.rg h24 h25
 obtain ⟨u38,e_u38⟩:∃ u,ρ 12=u:=⟨_,Z⟩
 have h3:=s.ov y 12 8 e_u38
 have z39:=s.inivR 1 Z
 have z40:=s.inivR 2 Z
 have z41:=s.inivR 3 Z
 replace f_u21:=f_u21.stp s.stp
 replace f_u7:=f_u7.stp s.stp
 obtain ⟨B,j,d⟩:=s.s B C j q ⟨Z,⟨Z,⟨Z,⟨Z,N⟩⟩⟩⟩
 replace q:=s.left y [(12,ob u38 (.vec w0.heap.size 38 zAF (y26++([((gtD p0.2.2 y11).1,(gtD (subL p0.2.2 (y11+1) (p0.2.2.length:Int)) y25).1)]:List zAK)))),(1,ob (.pointer (some ⟨b1_0,0,none⟩)) (.box w0.heap.size 27 zA2 p0)),(2,ob (.pointer (some ⟨b5_16,0,none⟩)) (.box w0.heap.size 54 zA1 (gtD p0.2.2 y11)))] ⟨Z,Z,e_u38,Z,Z,⟨Z,Z,z39,Z,Z,⟨Z,Z,z40,Z,Z,N⟩⟩⟩
 obtain ⟨Yg41,g_Yg41⟩:∃ z:List zAK,z=(y26++([((gtD p0.2.2 y11).1,(gtD (subL p0.2.2 (y11+1) (p0.2.2.length:Int)) y25).1)]:List zAK)):=⟨_,Z⟩
 rw [<- g_Yg41] at q
 try rw [<- g_Yg41] at c
 obtain ⟨e43,c⟩:=zAG c
 refine HT.u d j (eI (y25+1)::eI (y25+1)::[]) ?_ ?_
 exact op (fun Q U W H D=>zAi ((H 25 Z).trans h25) Z e43)<|ov<|oz
 intro R w m n p d j
 obtain ⟨h1,h3,h5,h12,h13,h14⟩:=k6 n h1 h3 h5 h12 h13 h14
 obtain ⟨h23,h24⟩:=k2 n h23 h24
 have h25:=p.r 1 Z
 replace f_u21:=f_u21.fr m
 replace f_u7:=f_u7.fr m
 replace q:=q.fr m
 exact ei k (And.intro (Nat.lt_succ_self k) ⟨_,_,_,u38,c,d,j,B,q,h1,h3,h5,h12,h13,h14,h23,h24,h25,f_u21,f_u7⟩)
 have c:=zAd c36 c
 refine HT.skip ?_
 obtain ⟨e44,c⟩:=zAG c
 refine HT.u d j (eI (y25+1)::eI (y25+1)::[]) ?_ ?_
 exact op (fun Q U W H D=>zAi ((H 25 Z).trans h25) Z e44)<|ov<|oz
 intro R w m n p d j
 obtain ⟨h1,h3,h5,h12,h13,h14⟩:=k6 n h1 h3 h5 h12 h13 h14
 obtain ⟨h23,h24⟩:=k2 n h23 h24
 have h25:=p.r 1 Z
 replace f_u21:=f_u21.fr m
 replace f_u7:=f_u7.fr m
 replace q:=q.fr m
 replace q:IniOK [ob ul_ul_u6 (.vec w0.heap.size 38 zAF y26),ob (.pointer (some ⟨b1_0,0,none⟩)) (.box w0.heap.size 27 zA2 p0),ob (.pointer (some ⟨b5_16,0,none⟩)) (.box w0.heap.size 54 zA1 (gtD p0.2.2 y11))] A w:=q.sub [(0,ob ul_ul_u6 (.vec w0.heap.size 38 zAF y26)),(1,ob (.pointer (some ⟨b1_0,0,none⟩)) (.box w0.heap.size 27 zA2 p0)),(2,ob (.pointer (some ⟨b5_16,0,none⟩)) (.box w0.heap.size 54 zA1 (gtD p0.2.2 y11)))] ⟨Z,Z,⟨Z,Z,⟨Z,Z,N⟩⟩⟩
 exact ei k (And.intro (Nat.lt_succ_self k) ⟨_,_,_,ul_ul_u6,c,d,j,B,q,h1,h3,h5,h12,h13,h14,h23,h24,h25,f_u21,f_u7⟩)
 have c:=zAd c27 c
 refine zPO ?_
 obtain rfl:=si c
 replace q:IniOK [ob ul_ul_u6 (.vec w0.heap.size 38 zAF y26),ob (.pointer (some ⟨b1_0,0,none⟩)) (.box w0.heap.size 27 zA2 p0)] A w:=q.sub [(0,ob ul_ul_u6 (.vec w0.heap.size 38 zAF y26)),(1,ob (.pointer (some ⟨b1_0,0,none⟩)) (.box w0.heap.size 27 zA2 p0))] ⟨Z,Z,⟨Z,Z,N⟩⟩
 exact ei _ ⟨_,ul_ul_u6,Z,d,j,B,q,h1,h3,h12,h13,h14,f_u7⟩
 rintro R w ⟨A,s24,uo_ul_u6,es,d,j,B,q,h1,h3,h12,h13,h14,f_u7⟩
 obtain rfl:=es.symm
 obtain ⟨e45,c⟩:=zAG c
 refine HT.u d j (eI (y11+1)::eI (y11+1)::[]) ?_ ?_
 exact op (fun Q U W H D=>zAi ((H 14 Z).trans h14) Z e45)<|ov<|oz
 intro R w m n p d j
 obtain ⟨h1,h3,h12,h13⟩:=k4 n h1 h3 h12 h13
 have h14:=p.r 1 Z
 replace f_u7:=f_u7.fr m
 replace q:=q.fr m
 exact ei k (And.intro (Nat.lt_succ_self k) ⟨_,_,_,uo_ul_u6,c,d,j,B,q,h1,h3,h12,h13,h14,f_u7⟩)
 have c:=zAd c13 c
 refine zPO ?_
 obtain rfl:=si c
 replace q:IniOK [ob ul_u6 (.vec w0.heap.size 38 zAF y12)] A w:=q.sub [(0,ob ul_u6 (.vec w0.heap.size 38 zAF y12))] ⟨Z,Z,N⟩
 exact ei _ ⟨_,ul_u6,Z,d,j,B,q,h3⟩
 rintro R w ⟨A,s10,uo_u6,es,d,j,B,q,h3⟩
 obtain rfl:=es.symm
 refine zPR d j (eR uo_u6::eR uo_u6::[]) ?_ ?_
 exact om h3<|oa<|oz
 intro R w m n p d j
 have h2:=p.r 1 Z
 replace q:=q.fr m
 refine HT.ret ?_
 obtain rfl:=si c
 exact ⟨.inr Z,[R 2],⟨Z,N⟩,(zBk (q.ok 0 _ Z) B h2),j⟩
theorem zHA {fu : Nat} {A0 : Av} {p0 : zA7} {r : List zAK} (c : zDQ fu p0 = some r) {w : World} {v0 : Value} (d : AvOK A0 w) (h0 : Rep zA2 A0 w v0 p0) :
 Calls prog 12 #[v0] w fun e w'=>∃ v,e=.returned v/\(Rep (eSl zAF) A0 w' v r/\Fr w w'):=by
 refine Calls.mono (zHS c d h0) ?_
 rintro e w' ⟨v,he,hv,hf⟩
 exact ⟨v,he,zDt hv (fun b o h=>.inl h) d,hf⟩
def zB3 (fu : Nat) (p0 : zA7) (y7 : Int) : Nat -> Int -> (List zAK) -> Option (List zAK)
 | 0,_,_=>none
 | k+1,y18,y19=>
 bif (decide (y18<(p0.2.2.length:Int))) then (
 ck (inR y7 p0.2.2.length) <|
 ck (inR y18 p0.2.2.length) <|
 cl true (zCL fu ((gtD p0.2.2 y7).2) ((gtD p0.2.2 y18).2) p0.1) fun x23=>
 bif x23 then (
 ck (inR y7 p0.2.2.length) <|
 ck (inR y18 p0.2.2.length) <|
 ck (zD4 (y19.length+([((gtD p0.2.2 y7).1,(gtD p0.2.2 y18).1)]:List zAK).length)) <|
 ck (i64B (y18+1)) <|
 zB3 fu p0 y7 k (y18+1) (y19++([((gtD p0.2.2 y7).1,(gtD p0.2.2 y18).1)]:List zAK))
 ) else (
 ck (i64B (y18+1)) <|
 zB3 fu p0 y7 k (y18+1) y19
 )
 ) else (
 some y19
 )
def zAw (fu : Nat) (p0 : zA7) : Nat -> Int -> (List zAK) -> Option (List zAK)
 | 0,_,_=>none
 | k+1,y7,y8=>
 cl (true&&((decide (y7<(p0.2.2.length:Int)))==true)) (zAy fu p0) fun x9=>
 bd ((decide (y7<(p0.2.2.length:Int)))&&x9) fun x11=>
 bif x11 then (
 ck (i64B (y7+1)) <|
 cl true (zB3 fu p0 y7 fu (y7+1) y8) fun s17=>
 ck (i64B (y7+1)) <|
 zAw fu p0 k (y7+1) s17
 ) else (
 some y8
 )
def zDR (fu:Nat) (p0:zA7):Option (List zAK):=
 cl true (zAw fu p0 fu 0 ([]:List zAK)) fun s6=>
 some s6
set_option linter.unusedSimpArgs false in
theorem zHO {fu : Nat} {A0 : Av} {p0 : zA7} {r : List zAK} (c : zDR fu p0 = some r) {w : World} {v0 : Value} (d : AvOK A0 w) (h0 : Rep zA2 A0 w v0 p0) :
 Calls prog 13 #[v0] w fun e w'=>∃ v,e=.returned v/\((Res.vec w.heap.size 38 zAF r).ok (addA A0 v) v w'/\Fr w w'):=by
 unfold zDR at c
 obtain ⟨w0,hw0,j,C⟩:=pw d
 have hA00:AvOK A0 w0:=C
 rw [fh hw0]
 rw [fw hw0]
 obtain ⟨A,hAe,B,d,q⟩:=pa d
 refine zAB [.tmp 2] func13 ntmps13 (by decide) Z Z (nb Z) ?_
 intro R hR
 have f_v0:Rep zA2 A w v0 p0:=hAe ▸ h0
 replace h0:R 0=v0:=hR 0 _ Z
 refine zPS [] (⟨_,true,[],some (.box w0.heap.size 27 zA2 p0),true,fun A=>.any⟩::rA::[]) (ua (ua (UAll.nil))) q d ?_ ?_
 exact rc (OblR.made _ Z Z Z Z fun V Q U O D=>by have a0:Q 0=v0:=(O.old 0 Z).trans h0;have ra0:=(f_v0.stp O.stp).eq a0;exact zD0 ra0 (Nat.le_trans j.size O.ch.size))<|rp (fun V Q U O D=>zA6 N)<|rz
 intro done ρ σ A R w y s
 obtain ⟨b1_0,e_b1_0⟩:=s.boxv y 0 Z Z
 have h1:=s.ov y 0 0 e_b1_0
 obtain ⟨B,j,d⟩:=s.s B C j q N
 replace q:=s.left y [(0,ob (.pointer (some ⟨b1_0,0,none⟩)) (.box w0.heap.size 27 zA2 p0))] ⟨Z,Z,e_b1_0,Z,Z,N⟩
 refine zPS [ob (.pointer (some ⟨b1_0,0,none⟩)) (.box w0.heap.size 27 zA2 p0)] (⟨_,true,[],some (.vec w0.heap.size 38 zAF ([]:List zAK)),true,fun A=>.any⟩::⟨_,true,[1],some (.vec w0.heap.size 38 zAF ([]:List zAK)),true,fun A=>.any⟩::[]) (ua (ua (UAll.nil))) q d ?_ ?_
 exact rc (OblR.made _ Z Z Z Z fun V Q U O D=>by exact zBM [] (E:=zAF) N underlying35 sizeOf38 zeroValue38 Z Z Z (Nat.le_trans j.size O.ch.size))<|rc (OblR.took 1 _ _ Z Z Z Z Z fun V Q U O D u X Y J L M=>by exact zAP (L _ _ Z Z Z Z).symm X Y)<|rz
 intro done ρ σ A R w y s
 replace h1:=k1 s.rg h1
 have z2:=s.inivR 0 Z
 obtain ⟨u3,e_u3⟩:∃ u,ρ 2=u:=⟨_,Z⟩
 have h3:=s.ov y 2 1 e_u3
 obtain ⟨B,j,d⟩:=s.s B C j q ⟨Z,N⟩
 replace q:=s.left y [(0,ob (.pointer (some ⟨b1_0,0,none⟩)) (.box w0.heap.size 27 zA2 p0)),(2,ob u3 (.vec w0.heap.size 38 zAF ([]:List zAK)))] ⟨Z,Z,z2,Z,Z,⟨Z,Z,e_u3,Z,Z,N⟩⟩
 refine zPQ ?_
 refine zPR d j (eI 0::[]) ?_ ?_
 exact op (fun Q U W H D=>zA6 Z)<|oz
 intro R w m n p d j
 obtain ⟨h1,h3⟩:=k2 n h1 h3
 have h4:=p.r 0 Z
 replace q:=q.fr m
 obtain ⟨rl4,q5,c⟩:=zA9 c
 replace q5:=q5 Z
 refine zPL (fun R w=>∃ A:Av,∃ (s6:(List zAK)) (uo_u3:Value),rl4=s6/\AvOK A w/\Fr w0 w/\(∀ b o,A0 b o->A b o)/\IniOK [ob uo_u3 (.vec w0.heap.size 38 zAF s6)] A w/\R 3=uo_u3) ?_ ?_
 refine HT.block<|zPP (fun k R w=>∃ A:Av,∃ (y7:Int) (y8:List zAK) (ul_u3:Value),zAw fu p0 k y7 y8=some rl4/\AvOK A w/\Fr w0 w/\(∀ b o,A0 b o->A b o)/\IniOK [ob (.pointer (some ⟨b1_0,0,none⟩)) (.box w0.heap.size 27 zA2 p0),ob ul_u3 (.vec w0.heap.size 38 zAF y8)] A w/\R 1=(.pointer (some ⟨b1_0,0,none⟩))/\R 3=ul_u3/\R 4=.int .i64 y7) fu ⟨_,_,_,u3,q5,d,j,B,q,h1,h3,h4⟩ ?_
 have hr0:=c;clear c q5
 rintro k R w ⟨A,y7,y8,ul_u3,c,d,j,B,q,h1,h3,h4⟩
 rcases k with _ | k
 cases (show none=some _ from c)
 rw [zAw] at c
 refine zPQ ?_
 refine zPQ ?_
 obtain ⟨x9,q10,c⟩:=zA9 c
 obtain ⟨x11,q12,c⟩:=zAO c
 refine HT.u d j (eI y7::eR (.pointer (some ⟨b1_0,2,none⟩))::eF (.rep (eSl zA1) A p0.2.2)::eI (p0.2.2.length:Int)::eB (decide (y7<(p0.2.2.length:Int)))::eB (decide (y7<(p0.2.2.length:Int)))::gF (true&&((decide (y7<(p0.2.2.length:Int)))==true)) (.rep zA2 A p0)::gB (true&&((decide (y7<(p0.2.2.length:Int)))==true)) x9::eB x11::[]) ?_ ?_
 exact om h4<|op (fun Q U W H D=>zA8 ((H 1 Z).trans h1) zAv sizeOf25 (by decide) Z)<|op (fun Q U W H D=>(zAA ((q.fr W).ok 0 _ Z).1 (D.g 0 Z) zAJ Z isAgg25 sizeOf25))<|op (fun Q U W H D=>zAN (aT:=#[]) (D.g 0 Z) underlying25)<|op (fun Q U W H D=>zB8 (D.g 0 Z) (D.g 1 Z))<|ov<|og 5 true (fun G Q U W H D=>(zAA ((q.fr W).ok 0 _ Z).1 ((H 1 Z).trans h1) (Fld.id _) Z isAgg27 sizeOf27))<|og 5 true (fun G Q U W H D=>zAM call28 (zCX (q10 G) (d.fr W.size) (D.h 0 G Z)))<|op (fun Q U W H D=>zAR (decide (y7<(p0.2.2.length:Int))) (D.g 0 Z) (fun hc=>by have a1:Q 14=.bool x9:=D 1 _ _ _ Z Z Z Z (zBJ Z (zAf hc));show _=Value.bool x11;rw [q12,hc];exact a1) (fun hc=>by show _=Value.bool x11;rw [q12,hc];exact Z))<|oz
 intro R w m n p d j
 obtain ⟨h1,h3,h4⟩:=k3 n h1 h3 h4
 have h15:=p.r 8 Z
 replace q:=q.fr m
 refine zPJ x11 h15 (fun c13=>?_) (fun c13=>?_)
 have c:=zAe c13 c
 refine HT.skip<|zPQ ?_
 refine HT.block ?_
 obtain ⟨e14,c⟩:=zAG c
 refine zPR d j (eI y7::eI (y7+1)::eI (y7+1)::[]) ?_ ?_
 exact om h4<|op (fun Q U W H D=>zAi (D.g 0 Z) Z e14)<|oa<|oz
 intro R w m n p d j
 obtain ⟨h1,h3,h4⟩:=k3 n h1 h3 h4
 have h5:=p.r 2 Z
 replace q:=q.fr m
 obtain ⟨rl15,q16,c⟩:=zA9 c
 replace q16:=q16 Z
 refine zPL (fun R w=>∃ A:Av,∃ (s17:(List zAK)) (uo_ul_u3:Value),rl15=s17/\AvOK A w/\Fr w0 w/\(∀ b o,A0 b o->A b o)/\IniOK [ob (.pointer (some ⟨b1_0,0,none⟩)) (.box w0.heap.size 27 zA2 p0),ob uo_ul_u3 (.vec w0.heap.size 38 zAF s17)] A w/\R 1=(.pointer (some ⟨b1_0,0,none⟩))/\R 3=uo_ul_u3/\R 4=.int .i64 y7) ?_ ?_
 refine HT.block<|zPP (fun k R w=>∃ A:Av,∃ (y18:Int) (y19:List zAK) (ul_ul_u3:Value),zB3 fu p0 y7 k y18 y19=some rl15/\AvOK A w/\Fr w0 w/\(∀ b o,A0 b o->A b o)/\IniOK [ob (.pointer (some ⟨b1_0,0,none⟩)) (.box w0.heap.size 27 zA2 p0),ob ul_ul_u3 (.vec w0.heap.size 38 zAF y19)] A w/\R 1=(.pointer (some ⟨b1_0,0,none⟩))/\R 3=ul_ul_u3/\R 4=.int .i64 y7/\R 5=.int .i64 y18) fu ⟨_,_,_,ul_u3,q16,d,j,B,q,h1,h3,h4,h5⟩ ?_
 have hr0:=c;clear c q16
 rintro k R w ⟨A,y18,y19,ul_ul_u3,c,d,j,B,q,h1,h3,h4,h5⟩
 rcases k with _ | k
 cases (show none=some _ from c)
 rw [zB3] at c
 refine zPQ ?_
 refine zPR d j (eI y18::eR (.pointer (some ⟨b1_0,2,none⟩))::eF (.rep (eSl zA1) A p0.2.2)::eI (p0.2.2.length:Int)::eB (decide (y18<(p0.2.2.length:Int)))::[]) ?_ ?_
 exact om h5<|op (fun Q U W H D=>zA8 ((H 1 Z).trans h1) zAv sizeOf25 (by decide) Z)<|op (fun Q U W H D=>(zAA ((q.fr W).ok 0 _ Z).1 (D.g 0 Z) zAJ Z isAgg25 sizeOf25))<|op (fun Q U W H D=>zAN (aT:=#[]) (D.g 0 Z) underlying25)<|op (fun Q U W H D=>zB8 (D.g 0 Z) (D.g 1 Z))<|oz
 intro R w m n p d j
 obtain ⟨h1,h3,h4,h5⟩:=k4 n h1 h3 h4 h5
 have h24:=p.r 4 Z
 replace q:=q.fr m
 refine zPJ (decide (y18<(p0.2.2.length:Int))) h24 (fun c20=>?_) (fun c20=>?_)
 have c:=zAe c20 c
 refine HT.skip<|zPQ ?_
 refine HT.block<|zPQ ?_
 obtain ⟨e21,e22,c⟩:=ck2 c
 obtain ⟨x23,q24,c⟩:=zA9 c
 refine zPM (by kernel_rfl) (l:=eR (.pointer (some ⟨b1_0,2,none⟩))::eF (.rep (eSl zA1) A p0.2.2)::eI y7::eF (.qtr zA1 A (gtD p0.2.2 y7))::eF (.qtr (eSl eStr) A ((gtD p0.2.2 y7).2))::eF (.rep (eSl eStr) A ((gtD p0.2.2 y7).2))::eR (.pointer (some ⟨b1_0,2,none⟩))::eF (.rep (eSl zA1) A p0.2.2)::eI y18::eF (.qtr zA1 A (gtD p0.2.2 y18))::eF (.qtr (eSl eStr) A ((gtD p0.2.2 y18).2))::eF (.rep (eSl eStr) A ((gtD p0.2.2 y18).2))::eR (.pointer (some ⟨b1_0,0,none⟩))::eI p0.1::eB x23::[]) (tl:=[]) (by kernel_rfl) (by kernel_rfl) (by kernel_rfl) (by kernel_rfl) ?_ ?_
 exact op (fun Q U W H D=>zA8 ((H 1 Z).trans h1) zAv sizeOf25 (by decide) Z)<|op (fun Q U W H D=>(zAA ((q.fr W).ok 0 _ Z).1 (D.g 0 Z) zAJ Z isAgg25 sizeOf25))<|om h4<|op (fun Q U W H D=>zAC (D.g 0 Z) (D.g 1 Z) underlying25 sizeOf54 e21)<|op (fun Q U W H D=>zAX (qt (D.g 0 Z)) zEi sizeOf28 (by decide) zAg Z)<|op (fun Q U W H D=>(zAT (QRep.ptr (D.g 0 Z)) isAgg28 sizeOf28))<|op (fun Q U W H D=>zA8 ((H 1 Z).trans h1) zAv sizeOf25 (by decide) Z)<|op (fun Q U W H D=>(zAA ((q.fr W).ok 0 _ Z).1 (D.g 0 Z) zAJ Z isAgg25 sizeOf25))<|om h5<|op (fun Q U W H D=>zAC (D.g 0 Z) (D.g 1 Z) underlying25 sizeOf54 e22)<|op (fun Q U W H D=>zAX (qt (D.g 0 Z)) zEi sizeOf28 (by decide) zAg Z)<|op (fun Q U W H D=>(zAT (QRep.ptr (D.g 0 Z)) isAgg28 sizeOf28))<|op (fun Q U W H D=>zA8 ((H 1 Z).trans h1) zF0 sizeOf3 (by decide) Z)<|op (fun Q U W H D=>OpF.int (zAA ((q.fr W).ok 0 _ Z).1 (D.g 0 Z) zB4 Z isAgg3 sizeOf3))<|op (fun Q U W H D=>zAM call33 (zEa (q24 Z) (d.fr W.size) (D.g 0 Z) (D.g 1 Z) (D.g 2 Z)))<|oz
 intro R w m n p
 obtain ⟨h1,h3,h4,h5⟩:=k4 n h1 h3 h4 h5
 have h41:=p.r 14 Z
 replace q:=q.fr m
 replace d:=d.fr m.size
 replace j:=j.trans m
 refine zPJ x23 h41 (fun c25=>?_) (fun c25=>?_)
 have c:=zAe c25 c
 obtain ⟨e26,e27,e28,c⟩:=ck3 c
 refine zPN [ob (.pointer (some ⟨b1_0,0,none⟩)) (.box w0.heap.size 27 zA2 p0),ob ul_ul_u3 (.vec w0.heap.size 38 zAF y19)] (rR ul_ul_u3::rR (.pointer (some ⟨b1_0,2,none⟩))::(rF fun A=>.rep (eSl zA1) A p0.2.2)::rI y7::(rF fun A=>.qtr zA1 A (gtD p0.2.2 y7))::(rF fun A=>.qtr (eInt .i64) A ((gtD p0.2.2 y7).1))::rI ((gtD p0.2.2 y7).1)::rR (.pointer (some ⟨b1_0,2,none⟩))::(rF fun A=>.rep (eSl zA1) A p0.2.2)::rI y18::(rF fun A=>.qtr zA1 A (gtD p0.2.2 y18))::(rF fun A=>.qtr (eInt .i64) A ((gtD p0.2.2 y18).1))::rI ((gtD p0.2.2 y18).1)::(rF fun A=>.rep zAF A ((gtD p0.2.2 y7).1,(gtD p0.2.2 y18).1))::(rF fun A=>.rep (eSl zAF) A ([((gtD p0.2.2 y7).1,(gtD p0.2.2 y18).1)]:List zAK))::⟨_,true,[1],some (.vec w0.heap.size 38 zAF (y19++([((gtD p0.2.2 y7).1,(gtD p0.2.2 y18).1)]:List zAK))),true,fun A=>.any⟩::⟨_,true,[17],some (.vec w0.heap.size 38 zAF (y19++([((gtD p0.2.2 y7).1,(gtD p0.2.2 y18).1)]:List zAK))),true,fun A=>.any⟩::[]) (by kernel_rfl) (by kernel_rfl) (by kernel_rfl) (Wf.mk' (by kernel_rfl) (ur (ur (up (ur (UAll.cons zCM (UAll.cons zCM (ur (ur (up (ur (UAll.cons zCM (UAll.cons zCM (ur (up (up (ua (ua (UAll.nil)))))))))))))))))) (by kernel_rfl) (by kernel_rfl)) q d ?_ ?_
 exact rm h3<|rp (fun V Q U O D=>zA8 ((O.old 1 Z).trans h1) zAv sizeOf25 (by decide) Z)<|rp (fun V Q U O D=>(zAA (O.rd 0 _ Z Z) (D.g 0 Z) zAJ Z isAgg25 sizeOf25))<|rm h4<|rp (fun V Q U O D=>zAC (D.g 0 Z) (D.g 1 Z) underlying25 sizeOf54 e26)<|rp (fun V Q U O D=>zAX (qt (D.g 0 Z)) zDc sizeOf3 (by decide) zAU Z)<|rp (fun V Q U O D=>OpF.int (zAT (QRep.ptr (D.g 0 Z)) isAgg3 sizeOf3))<|rp (fun V Q U O D=>zA8 ((O.old 1 Z).trans h1) zAv sizeOf25 (by decide) Z)<|rp (fun V Q U O D=>(zAA (O.rd 0 _ Z Z) (D.g 0 Z) zAJ Z isAgg25 sizeOf25))<|rm h5<|rp (fun V Q U O D=>zAC (D.g 0 Z) (D.g 1 Z) underlying25 sizeOf54 e27)<|rp (fun V Q U O D=>zAX (qt (D.g 0 Z)) zDc sizeOf3 (by decide) zAU Z)<|rp (fun V Q U O D=>OpF.int (zAT (QRep.ptr (D.g 0 Z)) isAgg3 sizeOf3))<|rp (fun V Q U O D=>by have a0:Q 48=.int .i64 ((gtD p0.2.2 y7).1):=D.g 0 Z;have a1:Q 54=.int .i64 ((gtD p0.2.2 y18).1):=D.g 1 Z;exact zDn (v:=.agg #[.int .i64 ((gtD p0.2.2 y7).1),.int .i64 ((gtD p0.2.2 y18).1)]) (by simp [execOp,Instr.build,zAL,a0,a1,underlying,underlying38,zeroValue38,sizeOf3,go_sem,Instr.fill]) ⟨_,Z,zCo zAm zAm⟩)<|rp (fun V Q U O D=>zC7 [_] (E:=zAF) ⟨(D.g 0 Z),N⟩ underlying35 sizeOf38 zeroValue38 Z Z Z O.av)<|rc (OblR.took 1 _ _ Z Z Z Z Z fun V Q U O D u X Y J L M=>by have a0:Q 42=ul_ul_u3:=D.g 0 Z;have a1:Rep (eSl zAF) V U (Q 56) ([((gtD p0.2.2 y7).1,(gtD p0.2.2 y18).1)]:List zAK):=D.g 1 Z;exact zAs (a0.trans (J _ Z).symm) X Y (Nat.le_trans j.size O.ch.size) a1 underlying35 zP4 e28)<|rc (OblR.took 17 _ _ Z Z Z Z Z fun V Q U O D u X Y J L M=>by exact zAP (L _ _ Z Z Z Z).symm X Y)<|rz
 intro done ρ σ A R w y s
 obtain ⟨h1,h4,h5⟩:=k3 s.rg h1 h4 h5
 have z29:=s.inivR 0 Z
 obtain ⟨u30,e_u30⟩:∃ u,ρ 18=u:=⟨_,Z⟩
 have h3:=s.ov y 18 16 e_u30
 obtain ⟨B,j,d⟩:=s.s B C j q ⟨Z,⟨Z,N⟩⟩
 replace q:=s.left y [(0,ob (.pointer (some ⟨b1_0,0,none⟩)) (.box w0.heap.size 27 zA2 p0)),(18,ob u30 (.vec w0.heap.size 38 zAF (y19++([((gtD p0.2.2 y7).1,(gtD p0.2.2 y18).1)]:List zAK))))] ⟨Z,Z,z29,Z,Z,⟨Z,Z,e_u30,Z,Z,N⟩⟩
 obtain ⟨e31,c⟩:=zAG c
 refine HT.u d j (eI y18::eI (y18+1)::eI (y18+1)::[]) ?_ ?_
 exact om h5<|op (fun Q U W H D=>zAi (D.g 0 Z) Z e31)<|oa<|oz
 intro R w m n p d j
 obtain ⟨h1,h3,h4⟩:=k3 n h1 h3 h4
 have h5:=p.r 2 Z
 replace q:=q.fr m
 exact ei k (And.intro (Nat.lt_succ_self k) ⟨_,_,_,u30,c,d,j,B,q,h1,h3,h4,h5⟩)
 have c:=zAd c25 c
 refine HT.skip ?_
 obtain ⟨e32,c⟩:=zAG c
 refine HT.u d j (eI y18::eI (y18+1)::eI (y18+1)::[]) ?_ ?_
 exact om h5<|op (fun Q U W H D=>zAi (D.g 0 Z) Z e32)<|oa<|oz
 intro R w m n p d j
 obtain ⟨h1,h3,h4⟩:=k3 n h1 h3 h4
 have h5:=p.r 2 Z
 replace q:=q.fr m
 exact ei k (And.intro (Nat.lt_succ_self k) ⟨_,_,_,ul_ul_u3,c,d,j,B,q,h1,h3,h4,h5⟩)
 have c:=zAd c20 c
 refine zPO ?_
 obtain rfl:=si c
 exact ei _ ⟨_,ul_ul_u3,Z,d,j,B,q,h1,h3,h4⟩
 rintro R w ⟨A,s17,uo_ul_u3,es,d,j,B,q,h1,h3,h4⟩
 obtain rfl:=es.symm
 obtain ⟨e33,c⟩:=zAG c
 refine HT.u d j (eI y7::eI (y7+1)::eI (y7+1)::[]) ?_ ?_
 exact om h4<|op (fun Q U W H D=>zAi (D.g 0 Z) Z e33)<|oa<|oz
 intro R w m n p d j
 obtain ⟨h1,h3⟩:=k2 n h1 h3
 have h4:=p.r 2 Z
 replace q:=q.fr m
 exact ei k (And.intro (Nat.lt_succ_self k) ⟨_,_,_,uo_ul_u3,c,d,j,B,q,h1,h3,h4⟩)
 have c:=zAd c13 c
 refine zPO ?_
 obtain rfl:=si c
 replace q:IniOK [ob ul_u3 (.vec w0.heap.size 38 zAF y8)] A w:=q.sub [(1,ob ul_u3 (.vec w0.heap.size 38 zAF y8))] ⟨Z,Z,N⟩
 exact ei _ ⟨_,ul_u3,Z,d,j,B,q,h3⟩
 rintro R w ⟨A,s6,uo_u3,es,d,j,B,q,h3⟩
 obtain rfl:=es.symm
 refine zPR d j (eR uo_u3::eR uo_u3::[]) ?_ ?_
 exact om h3<|oa<|oz
 intro R w m n p d j
 have h2:=p.r 1 Z
 replace q:=q.fr m
 refine HT.ret ?_
 obtain rfl:=si c
 exact ⟨.inr Z,[R 2],⟨Z,N⟩,(zBk (q.ok 0 _ Z) B h2),j⟩
theorem zH7 {fu : Nat} {A0 : Av} {p0 : zA7} {r : List zAK} (c : zDR fu p0 = some r) {w : World} {v0 : Value} (d : AvOK A0 w) (h0 : Rep zA2 A0 w v0 p0) :
 Calls prog 13 #[v0] w fun e w'=>∃ v,e=.returned v/\(Rep (eSl zAF) A0 w' v r/\Fr w w'):=by
 refine Calls.mono (zHO c d h0) ?_
 rintro e w' ⟨v,he,hv,hf⟩
 exact ⟨v,he,zDt hv (fun b o h=>.inl h) d,hf⟩
def zCh (fu:Nat) (p0:List Int):Option (zA7 × Int × (List (List UInt8))):=
 cl true (zEG fu p0) fun x3=>
 cl true (zDr fu x3) fun x10=>
 cl true (zBu fu x10.2 ([0,3,7,25,999,1000,(-1)]:List Int)) fun x16=>
 cl true (zDS fu x16.2) fun x20=>
 some (x10.1,x16.1,x20.1)
theorem zFi {fu : Nat} {A0 : Av} {p0 : List Int} {r : zA7 × Int × (List (List UInt8))} (c : zCh fu p0 = some r) {w : World} {v0 : Value} (d : AvOK A0 w) (h0 : Rep (eSl (eInt .u8)) A0 w v0 p0) :
 Calls prog 14 #[v0] w fun e w'=>∃ v,e=.returned v/\((∃ a b c,v=.tuple #[a,b,c]/\Rep zA2 A0 w' a r.1/\b=.int .i64 r.2.1/\Rep (eSl eStr) A0 w' c r.2.2)/\Fr w w'):=by
 unfold zCh at c
 obtain ⟨w0,hw0,j,C⟩:=pw d
 have hA00:AvOK A0 w0:=C
 rw [fw hw0]
 obtain ⟨A,hAe,B,d,q⟩:=pa d
 refine zAB [.cell 2 27,.tmp 3,.tmp 4] func14 ntmps14 (by decide) Z Z (nb Z) ?_
 intro R hR
 have f_v0:Rep (eSl (eInt .u8)) A w v0 p0:=hAe ▸ h0
 replace h0:R 0=v0:=hR 0 _ Z
 refine zPS [] (⟨_,true,[],some (.box w0.heap.size 27 zA2 (0,(([]:List zA3),([]:List zA4)))),true,fun A=>.any⟩::rI 0::(rF fun A=>.rep (eSl eStr) A ([]:List (List UInt8)))::[]) (ua (ur (up (UAll.nil)))) q d ?_ ?_
 exact rc (OblR.made _ Z Z Z Z fun V Q U O D=>by exact zCI zeroValue27 (fun A w=>zCo zAm (zCo zBD zBD)) (Nat.le_trans j.size O.ch.size))<|rp (fun V Q U O D=>zA6 Z)<|rp (fun V Q U O D=>zA6 zIn)<|rz
 intro done ρ σ A R w y s
 replace h0:=k1 s.rg h0
 obtain ⟨b2_0,e_b2_0⟩:=s.boxv y 0 Z Z
 have h2:=s.ov y 0 0 e_b2_0
 replace f_v0:=f_v0.stp s.stp
 obtain ⟨B,j,d⟩:=s.s B C j q N
 replace q:=s.left y [(0,ob (.pointer (some ⟨b2_0,0,none⟩)) (.box w0.heap.size 27 zA2 (0,(([]:List zA3),([]:List zA4)))))] ⟨Z,Z,e_b2_0,Z,Z,N⟩
 refine zPQ ?_
 refine SG.of<|SG.textR [ob (.pointer (some ⟨b2_0,0,none⟩)) (.box w0.heap.size 27 zA2 (0,(([]:List zA3),([]:List zA4))))] (rR v0::[]) 1 Z Z Z (by kernel_rfl) (by kernel_rfl) (Wf.mk' (by kernel_rfl) (ur (UAll.nil)) (by kernel_rfl) (by kernel_rfl)) q d (N) ?_ ?_
 exact rm h0<|rz
 intro done ρ σ A R w y s
 replace h2:=k1 s.rg h2
 have z2:=s.inivR 0 Z
 have h6:=s.r y 0 Z
 replace f_v0:=f_v0.stp s.stp
 obtain ⟨B,j,d⟩:=s.s B C j q ⟨Z,N⟩
 replace q:=s.left y [(0,ob (.pointer (some ⟨b2_0,0,none⟩)) (.box w0.heap.size 27 zA2 (0,(([]:List zA3),([]:List zA4)))))] ⟨Z,Z,z2,Z,Z,N⟩
 obtain ⟨x3,q4,c⟩:=zA9 c
 have hFz:w0.heap.size<=w.heap.size:=j.size
 refine SG.op 7 Z Z Z Z (zB7 call19 (zGF (q4 Z) d (f_v0.eq h6))) ?_
 rintro v_ w ⟨b5,A,hG1,hv⟩ R n hd
 obtain ⟨hO2,hst⟩:=zPI q d hG1
 replace q:=hO2
 replace d:=hG1.avok
 replace B:∀ b o,A0 b o->A b o:=fun b o h=>hG1.low b o (B b o h)
 replace j:Fr w0 w:=j.trans hG1.ch.no
 replace q:=q.reX (B':=w0.heap.size) 0 Z hFz
 replace q:IniOK [ob (.pointer (some ⟨b5,0,none⟩)) (.box w0.heap.size 69 zA5 x3),ob (.pointer (some ⟨b2_0,0,none⟩)) (.box w0.heap.size 27 zA2 (0,(([]:List zA3),([]:List zA4))))] A w:=q
 replace h2:=(n 2 Z).trans h2
 replace h6:=(n 6 Z).trans h6
 replace f_v0:=f_v0.stp hst
 have h7:R 7=(.pointer (some ⟨b5,0,none⟩)):=hd.trans hv
 clear hFz hG1 hv n hd
 refine SG.textR [ob (.pointer (some ⟨b5,0,none⟩)) (.box w0.heap.size 69 zA5 x3),ob (.pointer (some ⟨b2_0,0,none⟩)) (.box w0.heap.size 27 zA2 (0,(([]:List zA3),([]:List zA4))))] (rR v0::rR (.pointer (some ⟨b5,0,none⟩))::rR (.pointer (some ⟨b5,0,none⟩))::[]) 3 Z Z Z (by kernel_rfl) (by kernel_rfl) (Wf.mk' (by kernel_rfl) (ur (ur (ur (UAll.nil)))) (by kernel_rfl) (by kernel_rfl)) q d (⟨⟨Z,Z,Z,h6⟩,⟨⟨Z,Z,Z,h7⟩,N⟩⟩) ?_ ?_
 exact ra<|rz
 intro done ρ σ A R w y s
 replace h2:=k1 s.rg h2
 have z6:=s.inivR 0 Z
 have z7:=s.inivR 1 Z
 have h5:=s.r y 2 Z
 obtain ⟨B,j,d⟩:=s.s B C j q ⟨Z,⟨Z,N⟩⟩
 replace q:=s.left y [(0,ob (.pointer (some ⟨b5,0,none⟩)) (.box w0.heap.size 69 zA5 x3)),(1,ob (.pointer (some ⟨b2_0,0,none⟩)) (.box w0.heap.size 27 zA2 (0,(([]:List zA3),([]:List zA4)))))] ⟨Z,Z,z6,Z,Z,⟨Z,Z,z7,Z,Z,N⟩⟩
 refine zPa Z ?_
 refine zPQ ?_
 refine SG.of<|SG.textR [ob (.pointer (some ⟨b5,0,none⟩)) (.box w0.heap.size 69 zA5 x3),ob (.pointer (some ⟨b2_0,0,none⟩)) (.box w0.heap.size 27 zA2 (0,(([]:List zA3),([]:List zA4))))] (rR (.pointer (some ⟨b5,0,none⟩))::[]) 1 Z Z Z (by kernel_rfl) (by kernel_rfl) (Wf.mk' (by kernel_rfl) (ur (UAll.nil)) (by kernel_rfl) (by kernel_rfl)) q d (N) ?_ ?_
 exact rm h5<|rz
 intro done ρ σ A R w y s
 obtain ⟨h2,h5⟩:=k2 s.rg h2 h5
 have z8:=s.inivR 0 Z
 have z9:=s.inivR 1 Z
 have h8:=s.r y 0 Z
 obtain ⟨B,j,d⟩:=s.s B C j q ⟨Z,⟨Z,N⟩⟩
 replace q:=s.left y [(0,ob (.pointer (some ⟨b5,0,none⟩)) (.box w0.heap.size 69 zA5 x3)),(1,ob (.pointer (some ⟨b2_0,0,none⟩)) (.box w0.heap.size 27 zA2 (0,(([]:List zA3),([]:List zA4)))))] ⟨Z,Z,z8,Z,Z,⟨Z,Z,z9,Z,Z,N⟩⟩
 obtain ⟨x10,q11,c⟩:=zA9 c
 have hFz:w0.heap.size<=w.heap.size:=j.size
 refine SG.op 9 Z Z Z Z (zB7 call20 (zFv (q11 Z) d h8 (q.sub [(0,ob (.pointer (some ⟨b5,0,none⟩)) (.box w0.heap.size 69 zA5 x3))] ⟨Z,Z,N⟩))) ?_
 rintro v_ w ⟨A,hG1,hv⟩ R n hd
 have hst:=zBO d hG1 (q.ok 0 _ Z).2
 replace B:∀ b o,A0 b o->A b o:=zHa B C (q.ge (⟨Z,⟨Z,N⟩⟩)) 0 Z hG1
 replace j:Fr w0 w:=j.tr hG1.ch (fun k hk=>(q.ge (⟨Z,⟨Z,N⟩⟩)) k ⟨0,_,Z,hk⟩)
 replace q:=zPH q d 0 Z hG1
 replace d:=hG1.avok
 replace q:IniOK [ob (.pointer (some ⟨b5,0,none⟩)) (.box w0.heap.size 69 zA5 x10.2),ob (.pointer (some ⟨b2_0,0,none⟩)) (.box w0.heap.size 27 zA2 (0,(([]:List zA3),([]:List zA4))))] A w:=q
 replace h2:=(n 2 Z).trans h2
 replace h5:=(n 5 Z).trans h5
 replace h8:=(n 8 Z).trans h8
 obtain ⟨u12,h9,f_u12⟩:∃ u,R 9=u/\Rep zA2 A w u x10.1:=⟨_,Z,hd ▸ hv⟩
 clear hFz hG1 hv n hd
 refine SG.textR [ob (.pointer (some ⟨b5,0,none⟩)) (.box w0.heap.size 69 zA5 x10.2),ob (.pointer (some ⟨b2_0,0,none⟩)) (.box w0.heap.size 27 zA2 (0,(([]:List zA3),([]:List zA4))))] (rR (.pointer (some ⟨b5,0,none⟩))::rR u12::rR (.pointer (some ⟨b5,0,none⟩))::(rF fun A=>.rep (eSl (eInt .i64)) A ([0,3,7,25,999,1000,(-1)]:List Int))::[]) 4 Z Z Z (by kernel_rfl) (by kernel_rfl) (Wf.mk' (by kernel_rfl) (ur (ur (ur (up (UAll.nil))))) (by kernel_rfl) (by kernel_rfl)) q d (⟨⟨Z,Z,Z,h8⟩,⟨⟨Z,Z,Z,h9⟩,N⟩⟩) ?_ ?_
 exact rm h5<|rp (fun V Q U O D=>zC7 [_,_,_,_,_,_,_] (E:=eInt .i64) ⟨(zBa.eq Z),⟨(zBa.eq Z),⟨(zBa.eq Z),⟨(zBa.eq Z),⟨(zBa.eq Z),⟨(zBa.eq Z),⟨(zBa.eq Z),N⟩⟩⟩⟩⟩⟩⟩ underlying31 sizeOf3 zeroValue3 Z Z Z O.av)<|rz
 intro done ρ σ A R w y s
 obtain ⟨h2,h5⟩:=k2 s.rg h2 h5
 have z13:=s.inivR 0 Z
 have z14:=s.inivR 1 Z
 have h9:=s.r y 1 Z
 have h10:=s.r y 2 Z
 obtain ⟨u15,h11,f_u15⟩:∃ u,R 11=u/\Rep (eSl (eInt .i64)) A w u ([0,3,7,25,999,1000,(-1)]:List Int):=⟨_,Z,s.fact y (i:=3) Z Z Z⟩
 replace f_u12:=f_u12.stp s.stp
 obtain ⟨B,j,d⟩:=s.s B C j q ⟨Z,⟨Z,N⟩⟩
 replace q:=s.left y [(0,ob (.pointer (some ⟨b5,0,none⟩)) (.box w0.heap.size 69 zA5 x10.2)),(1,ob (.pointer (some ⟨b2_0,0,none⟩)) (.box w0.heap.size 27 zA2 (0,(([]:List zA3),([]:List zA4)))))] ⟨Z,Z,z13,Z,Z,⟨Z,Z,z14,Z,Z,N⟩⟩
 obtain ⟨x16,q17,c⟩:=zA9 c
 have hFz:w0.heap.size<=w.heap.size:=j.size
 refine SG.op 12 Z Z Z Z (zB7 call34 (zCs (q17 Z) d h10 (q.sub [(0,ob (.pointer (some ⟨b5,0,none⟩)) (.box w0.heap.size 69 zA5 x10.2))] ⟨Z,Z,N⟩) (f_u15.eq h11))) ?_
 rintro v_ w ⟨A,hG1,hv⟩ R n hd
 have hst:=zBO d hG1 (q.ok 0 _ Z).2
 replace B:∀ b o,A0 b o->A b o:=zHa B C (q.ge (⟨Z,⟨Z,N⟩⟩)) 0 Z hG1
 replace j:Fr w0 w:=j.tr hG1.ch (fun k hk=>(q.ge (⟨Z,⟨Z,N⟩⟩)) k ⟨0,_,Z,hk⟩)
 replace q:=zPH q d 0 Z hG1
 replace d:=hG1.avok
 replace q:IniOK [ob (.pointer (some ⟨b5,0,none⟩)) (.box w0.heap.size 69 zA5 x16.2),ob (.pointer (some ⟨b2_0,0,none⟩)) (.box w0.heap.size 27 zA2 (0,(([]:List zA3),([]:List zA4))))] A w:=q
 replace h2:=(n 2 Z).trans h2
 replace h5:=(n 5 Z).trans h5
 replace h9:=(n 9 Z).trans h9
 replace h10:=(n 10 Z).trans h10
 replace h11:=(n 11 Z).trans h11
 replace f_u12:=f_u12.stp hst
 replace f_u15:=f_u15.stp hst
 have h12:R 12=.int .i64 x16.1:=hd.trans hv
 clear hFz hG1 hv n hd
 refine SG.textR [ob (.pointer (some ⟨b5,0,none⟩)) (.box w0.heap.size 69 zA5 x16.2),ob (.pointer (some ⟨b2_0,0,none⟩)) (.box w0.heap.size 27 zA2 (0,(([]:List zA3),([]:List zA4))))] (rA::rR u12::rR (.pointer (some ⟨b5,0,none⟩))::rR u15::rI x16.1::rR (.pointer (some ⟨b5,0,none⟩))::[]) 6 Z Z Z (by kernel_rfl) (by kernel_rfl) (Wf.mk' (by kernel_rfl) (ua (ur (ur (ur (ur (ur (UAll.nil))))))) (by kernel_rfl) (by kernel_rfl)) q d (⟨⟨Z,Z,Z,N⟩,⟨⟨Z,Z,Z,h9⟩,⟨⟨Z,Z,Z,h10⟩,⟨⟨Z,Z,Z,h11⟩,⟨⟨Z,Z,Z,h12⟩,N⟩⟩⟩⟩⟩) ?_ ?_
 exact rm h5<|rz
 intro done ρ σ A R w y s
 replace h2:=k1 s.rg h2
 have z18:=s.inivR 0 Z
 have z19:=s.inivR 1 Z
 have h9:=s.r y 1 Z
 have h12:=s.r y 4 Z
 have h13:=s.r y 5 Z
 replace f_u12:=f_u12.stp s.stp
 obtain ⟨B,j,d⟩:=s.s B C j q ⟨Z,⟨Z,N⟩⟩
 replace q:=s.left y [(0,ob (.pointer (some ⟨b5,0,none⟩)) (.box w0.heap.size 69 zA5 x16.2)),(1,ob (.pointer (some ⟨b2_0,0,none⟩)) (.box w0.heap.size 27 zA2 (0,(([]:List zA3),([]:List zA4)))))] ⟨Z,Z,z18,Z,Z,⟨Z,Z,z19,Z,Z,N⟩⟩
 obtain ⟨x20,q21,c⟩:=zA9 c
 have hFz:w0.heap.size<=w.heap.size:=j.size
 refine SG.op 14 Z Z Z Z (zB7 call21 (zFE (q21 Z) d h13 (q.sub [(0,ob (.pointer (some ⟨b5,0,none⟩)) (.box w0.heap.size 69 zA5 x16.2))] ⟨Z,Z,N⟩))) ?_
 rintro v_ w ⟨u22,A,hG1,hv⟩ R n hd
 have hst:=zBO d hG1 (q.ok 0 _ Z).2
 replace B:∀ b o,A0 b o->A b o:=zHa B C (q.ge (⟨Z,⟨Z,N⟩⟩)) 0 Z hG1
 replace j:Fr w0 w:=j.tr hG1.ch (fun k hk=>(q.ge (⟨Z,⟨Z,N⟩⟩)) k ⟨0,_,Z,hk⟩)
 replace q:=zPH q d 0 Z hG1
 replace d:=hG1.avok
 replace q:=q.reV (B':=w0.heap.size) 1 Z hFz
 replace q:IniOK [ob (.pointer (some ⟨b5,0,none⟩)) (.box w0.heap.size 69 zA5 x20.2),ob u22 (.vec w0.heap.size 9 eStr x20.1),ob (.pointer (some ⟨b2_0,0,none⟩)) (.box w0.heap.size 27 zA2 (0,(([]:List zA3),([]:List zA4))))] A w:=q
 replace h2:=(n 2 Z).trans h2
 replace h9:=(n 9 Z).trans h9
 replace h12:=(n 12 Z).trans h12
 replace h13:=(n 13 Z).trans h13
 replace f_u12:=f_u12.stp hst
 have h14:R 14=u22:=hd.trans hv
 clear hFz hG1 hv n hd
 replace q:IniOK [ob u22 (.vec w0.heap.size 9 eStr x20.1),ob (.pointer (some ⟨b5,0,none⟩)) (.box w0.heap.size 69 zA5 x20.2),ob (.pointer (some ⟨b2_0,0,none⟩)) (.box w0.heap.size 27 zA2 (0,(([]:List zA3),([]:List zA4))))] A w:=q.sub [(1,ob u22 (.vec w0.heap.size 9 eStr x20.1)),(0,ob (.pointer (some ⟨b5,0,none⟩)) (.box w0.heap.size 69 zA5 x20.2)),(2,ob (.pointer (some ⟨b2_0,0,none⟩)) (.box w0.heap.size 27 zA2 (0,(([]:List zA3),([]:List zA4)))))] ⟨Z,Z,⟨Z,Z,⟨Z,Z,N⟩⟩⟩
 obtain ⟨A,hle,B,d,q,f_u22⟩:=q.freeze d B C
 replace f_u12:=f_u12.less hle
 clear hle
 refine SG.textR [ob (.pointer (some ⟨b5,0,none⟩)) (.box w0.heap.size 69 zA5 x20.2),ob (.pointer (some ⟨b2_0,0,none⟩)) (.box w0.heap.size 27 zA2 (0,(([]:List zA3),([]:List zA4))))] (rA::rR u12::rA::rA::rI x16.1::rR (.pointer (some ⟨b5,0,none⟩))::rR u22::⟨_,true,[1],some (.box w0.heap.size 27 zA2 x10.1),false,fun A=>.any⟩::rI x16.1::rR u22::[]) 10 Z Z Z (by kernel_rfl) (by kernel_rfl) (Wf.mk' (by kernel_rfl) (ua (ur (ua (ua (ur (ur (ur (ua (ur (ur (UAll.nil))))))))))) (by kernel_rfl) (by kernel_rfl)) q d (⟨⟨Z,Z,Z,N⟩,⟨⟨Z,Z,Z,h9⟩,⟨⟨Z,Z,Z,N⟩,⟨⟨Z,Z,Z,N⟩,⟨⟨Z,Z,Z,h12⟩,⟨⟨Z,Z,Z,h13⟩,⟨⟨Z,Z,Z,h14⟩,N⟩⟩⟩⟩⟩⟩⟩) ?_ ?_
 exact rc (OblR.took 1 _ _ Z Z Z Z Z fun V Q U O D u X Y J L M=>by have a0:Q 2=(.pointer (some ⟨b2_0,0,none⟩)):=(O.old 2 Z).trans h2;have a1:Q 9=u12:=D.g 0 Z;have ra1:=(f_u12.stp O.stp).eq a1;exact zBX ra1 a0 (J _ Z) X Y (FldS.id _) sizeOf27 Z)<|ra<|ra<|rz
 intro done ρ σ A R w y s
 replace h2:=k1 s.rg h2
 have z23:=s.inivR 0 Z
 have z24:=s.inivR 1 Z
 have z25:=s.on y 9 7 Z Z Z Z Z z24
 have h3:=s.r y 8 Z
 have h4:=s.r y 9 Z
 replace f_u22:=f_u22.stp s.stp
 obtain ⟨B,j,d⟩:=s.s B C j q ⟨Z,⟨Z,N⟩⟩
 replace q:=s.left y [(9,ob (.pointer (some ⟨b2_0,0,none⟩)) (.box w0.heap.size 27 zA2 x10.1))] ⟨Z,Z,z25,Z,Z,N⟩
 refine zPa Z ?_
 refine HT.ret ?_
 obtain rfl:=si c
 obtain ⟨v_2,e_2,p_2⟩:=zHX (q.ok 0 _ Z).1 h2 isAgg27 sizeOf27 B
 exact ⟨.inr Z,[v_2,R 3,R 4],⟨e_2,⟨Z,⟨Z,N⟩⟩⟩,⟨_,_,_,Z,p_2,h3,(f_u22.eq h4).down B⟩,j⟩
def zAn (fu:Nat) (p0:List zA3):Option (List zA3):=
 ck (zD4 (([]:List zA3).length+p0.length)) <|
 some (([]:List zA3)++p0)
theorem zD5 {fu : Nat} {A0 : Av} {p0 : List zA3} {r : List zA3} (c : zAn fu p0 = some r) {w : World} {v0 : Value} (d : AvOK A0 w) (h0 : Rep (eSl zA0) A0 w v0 p0) :
 Calls prog 64 #[v0] w fun e w'=>∃ v,e=.returned v/\((Res.vec w.heap.size 83 zA0 r).ok (addA A0 v) v w'/\Fr w w'):=by
 unfold zAn at c
 obtain ⟨w0,hw0,j,C⟩:=pw d
 have hA00:AvOK A0 w0:=C
 rw [fh hw0]
 rw [fw hw0]
 obtain ⟨A,hAe,B,d,q⟩:=pa d
 refine zAB [.tmp 2] func64 ntmps64 (by decide) Z Z (nb Z) ?_
 intro R hR
 have f_v0:Rep (eSl zA0) A w v0 p0:=hAe ▸ h0
 replace h0:R 0=v0:=hR 0 _ Z
 refine zPR d j (eA::[]) ?_ ?_
 exact op (fun Q U W H D=>zA6 N)<|oz
 intro R w m n p d j
 replace h0:=k1 n h0
 replace f_v0:=f_v0.fr m
 replace q:=q.fr m
 refine zPQ ?_
 refine zPR d j (eR v0::eB (zI5 v0)::[]) ?_ ?_
 exact om h0<|op (fun Q U W H D=>zHf (D.g 0 Z) (f_v0.fr W) Z underlying24)<|oz
 intro R w m n p d j
 replace h0:=k1 n h0
 have h4:=p.r 1 Z
 replace f_v0:=f_v0.fr m
 replace q:=q.fr m
 refine zPJ (zI5 v0) h4 (fun c1=>?_) (fun c1=>?_)
 obtain rfl:=zHs f_v0 c1
 refine zPR d j (eR (.slice none 0 0)::[]) ?_ ?_
 exact op (fun Q U W H D=>zA6 Z)<|oz
 intro R w m n p d j
 obtain ⟨u2,n_u2⟩:∃ u,u=Value.slice none 0 0:=⟨_,Z⟩
 have h2:R 2=u2:=(p 0 _ _ Z Z Z).trans n_u2.symm
 replace q:=q.fr m
 replace q:=q.nilcons (u:=u2) n_u2 w0.heap.size 83 zA0
 refine HT.ret ?_
 replace c:some ([]:List zA3)=some r:=c
 obtain rfl:=si c
 exact ⟨.inr Z,[R 2],⟨Z,N⟩,(zBk (q.ok 0 _ Z) B h2),j⟩
 refine HT.skip ?_
 obtain ⟨e3,c⟩:=zAG c
 refine zPS [] (⟨_,true,[],some (.vec w0.heap.size 83 zA0 ([]:List zA3)),true,fun A=>.any⟩::rR v0::⟨_,true,[0],some (.vec w0.heap.size 83 zA0 (([]:List zA3)++p0)),true,fun A=>.any⟩::⟨_,true,[2],some (.vec w0.heap.size 83 zA0 (([]:List zA3)++p0)),true,fun A=>.any⟩::[]) (ua (ur (ua (ua (UAll.nil))))) q d ?_ ?_
 exact rc (OblR.made _ Z Z Z Z fun V Q U O D=>by exact zBM [] (E:=zA0) N underlying24 sizeOf83 zeroValue83 Z Z Z (Nat.le_trans j.size O.ch.size))<|rm h0<|rc (OblR.took 0 _ _ Z Z Z Z Z fun V Q U O D u X Y J L M=>by have a1:Q 6=v0:=D.g 1 Z;have ra1:=(f_v0.stp O.stp).eq a1;exact zAs (L _ _ Z Z Z Z).symm X Y (Nat.le_trans j.size O.ch.size) ra1 underlying24 zNL e3)<|rc (OblR.took 2 _ _ Z Z Z Z Z fun V Q U O D u X Y J L M=>by exact zAP (L _ _ Z Z Z Z).symm X Y)<|rz
 intro done ρ σ A R w y s
 obtain ⟨u4,e_u4⟩:∃ u,ρ 3=u:=⟨_,Z⟩
 have h2:=s.ov y 3 3 e_u4
 obtain ⟨B,j,d⟩:=s.s B C j q N
 replace q:=s.left y [(3,ob u4 (.vec w0.heap.size 83 zA0 (([]:List zA3)++p0)))] ⟨Z,Z,e_u4,Z,Z,N⟩
 refine HT.ret ?_
 obtain rfl:=si c
 exact ⟨.inr Z,[R 2],⟨Z,N⟩,(zBk (q.ok 0 _ Z) B h2),j⟩
def zAo (fu:Nat) (p0:List zA4):Option (List zA4):=
 ck (zD4 (([]:List zA4).length+p0.length)) <|
 some (([]:List zA4)++p0)
theorem zD3 {fu : Nat} {A0 : Av} {p0 : List zA4} {r : List zA4} (c : zAo fu p0 = some r) {w : World} {v0 : Value} (d : AvOK A0 w) (h0 : Rep (eSl zA1) A0 w v0 p0) :
 Calls prog 65 #[v0] w fun e w'=>∃ v,e=.returned v/\((Res.vec w.heap.size 54 zA1 r).ok (addA A0 v) v w'/\Fr w w'):=by
 unfold zAo at c
 obtain ⟨w0,hw0,j,C⟩:=pw d
 have hA00:AvOK A0 w0:=C
 rw [fh hw0]
 rw [fw hw0]
 obtain ⟨A,hAe,B,d,q⟩:=pa d
 refine zAB [.tmp 2] func65 ntmps65 (by decide) Z Z (nb Z) ?_
 intro R hR
 have f_v0:Rep (eSl zA1) A w v0 p0:=hAe ▸ h0
 replace h0:R 0=v0:=hR 0 _ Z
 refine zPR d j (eA::[]) ?_ ?_
 exact op (fun Q U W H D=>zA6 N)<|oz
 intro R w m n p d j
 replace h0:=k1 n h0
 replace f_v0:=f_v0.fr m
 replace q:=q.fr m
 refine zPQ ?_
 refine zPR d j (eR v0::eB (zI5 v0)::[]) ?_ ?_
 exact om h0<|op (fun Q U W H D=>zHf (D.g 0 Z) (f_v0.fr W) Z underlying25)<|oz
 intro R w m n p d j
 replace h0:=k1 n h0
 have h4:=p.r 1 Z
 replace f_v0:=f_v0.fr m
 replace q:=q.fr m
 refine zPJ (zI5 v0) h4 (fun c1=>?_) (fun c1=>?_)
 obtain rfl:=zHs f_v0 c1
 refine zPR d j (eR (.slice none 0 0)::[]) ?_ ?_
 exact op (fun Q U W H D=>zA6 Z)<|oz
 intro R w m n p d j
 obtain ⟨u2,n_u2⟩:∃ u,u=Value.slice none 0 0:=⟨_,Z⟩
 have h2:R 2=u2:=(p 0 _ _ Z Z Z).trans n_u2.symm
 replace q:=q.fr m
 replace q:=q.nilcons (u:=u2) n_u2 w0.heap.size 54 zA1
 refine HT.ret ?_
 replace c:some ([]:List zA4)=some r:=c
 obtain rfl:=si c
 exact ⟨.inr Z,[R 2],⟨Z,N⟩,(zBk (q.ok 0 _ Z) B h2),j⟩
 refine HT.skip ?_
 obtain ⟨e3,c⟩:=zAG c
 refine zPS [] (⟨_,true,[],some (.vec w0.heap.size 54 zA1 ([]:List zA4)),true,fun A=>.any⟩::rR v0::⟨_,true,[0],some (.vec w0.heap.size 54 zA1 (([]:List zA4)++p0)),true,fun A=>.any⟩::⟨_,true,[2],some (.vec w0.heap.size 54 zA1 (([]:List zA4)++p0)),true,fun A=>.any⟩::[]) (ua (ur (ua (ua (UAll.nil))))) q d ?_ ?_
 exact rc (OblR.made _ Z Z Z Z fun V Q U O D=>by exact zBM [] (E:=zA1) N underlying25 sizeOf54 zeroValue54 Z Z Z (Nat.le_trans j.size O.ch.size))<|rm h0<|rc (OblR.took 0 _ _ Z Z Z Z Z fun V Q U O D u X Y J L M=>by have a1:Q 6=v0:=D.g 1 Z;have ra1:=(f_v0.stp O.stp).eq a1;exact zAs (L _ _ Z Z Z Z).symm X Y (Nat.le_trans j.size O.ch.size) ra1 underlying25 zLr e3)<|rc (OblR.took 2 _ _ Z Z Z Z Z fun V Q U O D u X Y J L M=>by exact zAP (L _ _ Z Z Z Z).symm X Y)<|rz
 intro done ρ σ A R w y s
 obtain ⟨u4,e_u4⟩:∃ u,ρ 3=u:=⟨_,Z⟩
 have h2:=s.ov y 3 3 e_u4
 obtain ⟨B,j,d⟩:=s.s B C j q N
 replace q:=s.left y [(3,ob u4 (.vec w0.heap.size 54 zA1 (([]:List zA4)++p0)))] ⟨Z,Z,e_u4,Z,Z,N⟩
 refine HT.ret ?_
 obtain rfl:=si c
 exact ⟨.inr Z,[R 2],⟨Z,N⟩,(zBk (q.ok 0 _ Z) B h2),j⟩
def zC3 (fu:Nat) (p0:zA7):Option zA7:=
  ck (zD4 p0.2.1.length) <|
  ck (zD4 p0.2.2.length) <|
  ck (p0.2.2.all fun s=>zD4 s.2.length) <|
  some p0
abbrev clA (w:World) (A:Av) (W:World):Av:=fun b o=>A b o\/(w.heap.size<=b/\b<W.heap.size)
theorem zNq {w W:World} {A:Av} (hA:AvOK A w) (h:Fr w W):AvOK (clA w A W) W:=fun b o hb=>hb.elim (fun hb=>Nat.lt_of_lt_of_le (hA b o hb) h.size) fun hb=>hb.2
theorem zLl {w W:World} {A:Av} (h:Fr w W):Stp A (clA w A W) w W:=
  ⟨h.size,fun b o v hv _=>(h.cell (p:=⟨b,o,none⟩) (zEV hv)).trans hv,fun b o hb h=>h.elim id fun h=>absurd h.1 (by omega)⟩
abbrev clF:OE zA4:=oPr (oRd (eInt .i64)) (oSl 9 (oRd eStr))
theorem zP9 {A:Av} {w:World} {v:Value} {x:zA7} (h:Rep zA2 A w v x):∃ a1 n1 c1 a2 n2 c2,v=.agg #[.int .i64 x.1,.slice a1 n1 c1,.slice a2 n2 c2]/\Rep (eSl zA0) A w (.slice a1 n1 c1) x.2.1/\Rep (eSl zA1) A w (.slice a2 n2 c2) x.2.2:=by
  obtain ⟨cs,rfl,c,d,rfl,h1,e,f,rfl,h2,h3⟩:=h
  obtain ⟨a1,n1,c1,rfl,h2⟩:=h2
  obtain ⟨a2,n2,c2,rfl,h3⟩:=h3
  have h1:c = [.int .i64 x.1]:=h1
  subst h1
  exact ⟨a1,n1,c1,a2,n2,c2,rfl,⟨_,rfl,a1,n1,c1,rfl,h2⟩,⟨_,rfl,a2,n2,c2,rfl,h3⟩⟩
theorem zHQ {α:Type} {E:Enc α} {A:Av} {w:World} {B:Nat} {T:TypeId} {u:Value} {xs:List α} (h:(Res.vec B T E xs).ok A u w) (hT:T ≠ zKO):∃ a c,u=.slice a xs.length c/\((a=none/\c=0/\xs = [])\/∃ g arr,a=some ⟨g,0,none⟩/\B<=g/\Blk w g T arr/\xs.length<=c/\c<=maxLen/\arr.size=c*E.size/\∀ (i:Nat) x,xs[i]? = some x->∃ ds,E.rep A w x ds/\∀ (j:Nat) d,ds[j]? = some d->arr[i*E.size+j]? = some d):=by
  obtain ⟨cs,⟨h1,h2⟩,h3,h4⟩:=h
  rcases h2 with ⟨rfl,h2⟩ | ⟨g,cap,cur,rfl,hB,hk,hn,hm,hs,ht⟩
  . have := List.length_eq_zero_iff.1 h2
    subst this
    exact ⟨none,0,rfl,.inl ⟨rfl,rfl,rfl⟩⟩
  . refine ⟨_, cap, rfl, .inr ⟨g, cur, rfl, hB, hk.plain hT, hn, hm, hs, fun i x hx => ?_⟩⟩
    obtain ⟨ds,h5,h6⟩:=h4 i x hx
    refine ⟨ds,h5,fun j d hd=>?_⟩
    have h7:=h6 j d hd
    rw [<- ht,List.getElem?_take] at h7
    split at h7
    . rwa [Array.getElem?_toList] at h7
    . cases h7
abbrev avT:Av:=fun _ _=>True
theorem zHg {w w':World} (h:w.heap.size<=w'.heap.size):Stp avT avT w w':=⟨h,fun b o v _ hn=>absurd trivial hn,fun _ _ _ _=>trivial⟩
theorem zNs {α:Type} {E:Enc α} {A:Av} {B:Nat} {T:TypeId} {u:Value} {xs:List α} {w:World} (hfl:∀ A A' w x cs,E.rep A w x cs->E.rep A' w x cs) (h:(Res.vec B T E xs).ok A u w) (hT:T ≠ zKO):(oSl T (oRd E)).own avT w (zAE u) xs [u]/\∀ k,zAE u k->B<=k/\k<w.heap.size:=by
  obtain ⟨a,c,rfl,_⟩:=zHQ h hT
  obtain ⟨cs,e,h1⟩:=zHo h hT
  refine ⟨?_,fun k hk=>?_⟩
  . have h2 := zJZ (T := T) (zIp hfl) (A' := avT) h1
    obtain ⟨a',n',c',rfl⟩:=zH6 h2
    have e:Value.slice a xs.length c=.slice a' n' c':=e
    rw [<- e] at h2
    exact h2
  . refine ⟨?_, (oSl T (oRd E)).lt h1 hk⟩
    obtain ⟨cs',h3,_⟩:=h
    rcases h3.2 with ⟨e,_⟩ | ⟨g,cap,cur,e,hB,_⟩
    . rw [e] at hk;exact hk.elim
    . rw [e] at hk
      have hk:g=k:=hk
      omega
theorem zOO {w W6 wr w' : World} {g c5 j : Nat} {p : List zA4} {L : List (Prt zA4)} {arr : Array Value} {x : zA4} {v : Value} {A : Av} (hge : w.heap.size <= g) (hgl : g < W6.heap.size) (hfr : Fr w wr) (hch : Ch (fun k => g = k) W6 wr) (hL : L.length = j) (hE : EL clF avT wr L) (hLx : L.map (·.1) = p.take j) (hLg : ∀ k, inL L k -> W6.heap.size <= k)
    (hk:Blk wr g 54 arr) (hsz:arr.size=c5*2) (hjc:j<c5) (htk:arr.toList.take (j*2)=csOf L) (hx:p[j]? = some x) (hz0:arr[j*2]? = some (.int .i64 x.1)) (hv:(Res.vec wr.heap.size 9 eStr x.2).ok A v w') (hf:Fr wr w') :
    Fr w (w'.setCell ⟨g, j * 2 + 1, none⟩ v) /\ Ch (fun k => g = k) W6 (w'.setCell ⟨g, j * 2 + 1, none⟩ v) /\ ∃ L' : List (Prt zA4), L'.length = j + 1 /\ EL clF avT (w'.setCell ⟨g, j * 2 + 1, none⟩ v) L' /\ L'.map (·.1) = p.take (j + 1) /\ (∀ k, inL L' k -> W6.heap.size <= k) /\
      ∃ arr',Blk (w'.setCell ⟨g,j*2+1,none⟩ v) g 54 arr'/\arr'.size=c5*2/\arr'.toList.take ((j+1)*2)=csOf L'/\∀ k,(j+1)*2<=k->arr'[k]? = arr[k]?:=by
  obtain ⟨hv,hr⟩:=zNs (E:=eStr) (fun _ _ _ _ _ h=>h) hv (by decide)
  obtain ⟨W,hW⟩:∃ W,W=w'.setCell ⟨g,j*2+1,none⟩ v:=⟨_,rfl⟩
  have w1:Wr g w' W:=hW ▸ Wr.setCell _ _ _ _
  have k1:Blk w' g 54 arr:=(hf.block _ hk.lt).trans hk
  have k2:Blk W g 54 (arr.setIfInBounds (j*2+1) v):=hW ▸ k1.put _ _
  rw [<- hW]
  have hs:=hf.size
  have hs6:=hch.size
  have hsW:=w1.size
  have hblk:∀ k,k<wr.heap.size->k ≠ g->W.heap[k]? = wr.heap[k]?:=fun k h1 h2=>(w1.block k h2).trans (hf.block k h1)
  have hE1:EL clF avT W L:=hE.stab (fun k hk'=>hblk k (hE.lt hk') (by have:=hLg k hk';omega)) (zHg (by omega))
  have hv1:(oSl 9 (oRd eStr)).own avT W (zAE v) x.2 [v]:=(oSl 9 (oRd eStr)).stab hv (fun k hk'=>w1.block k (by have:=(hr k hk').1;omega)) (zHg (by omega))
  have hnew:clF.own avT W (zAE v) x [.int .i64 x.1,v]:=zIi (F:=oRd (eInt .i64)) (c:=[.int .i64 x.1]) (zCy rfl) hv1
  have e0:arr.toList.length=arr.size:=Array.length_toList
  refine ⟨(hfr.trans hf).trans' w1 hge,hch.tr ((hf.ch (fun k=>g=k)).tr w1.ch fun k h=>.inr h) fun k h=>.inr h,L ++ [(x,zAE v,[.int .i64 x.1,v])],by rw [List.length_append,hL];rfl,⟨fun t ht=>?_,?_⟩,?_,fun k hk'=>?_,_,k2,by rw [Array.size_setIfInBounds,hsz],?_,fun k hk'=>?_⟩
  . rcases List.mem_append.1 ht with ht | ht
    . exact hE1.own t ht
    . rw [List.mem_singleton.1 ht]
      exact hnew
  . refine List.pairwise_append.2 ⟨hE.dis, List.pairwise_singleton .., fun a ha b hb k h1 h2 => ?_⟩
    rw [List.mem_singleton.1 hb] at h2
    have h3:=hE.lt ⟨a,ha,h1⟩
    have h4:=(hr k h2).1
    omega
  . rw [List.map_append, hLx, List.take_add_one, hx]
    rfl
  . obtain ⟨t, ht, h1⟩ := hk'
    rcases List.mem_append.1 ht with ht | ht
    . exact hLg k ⟨t,ht,h1⟩
    . rw [List.mem_singleton.1 ht] at h1
      have:=(hr k h1).1
      omega
  . have hcl := hE.len
    have hcl:(csOf L).length=j*2:=by rw [hcl,hL];rfl
    rw [zFb,show csOf [(x,zAE v,[.int .i64 x.1,v])] = [.int .i64 x.1,v] from rfl]
    refine List.ext_getElem? fun q=>?_
    rcases Nat.lt_or_ge q ((j+1)*2) with hq | hq
    . rw [List.getElem?_take_of_lt hq, Array.getElem?_toList]
      rcases Nat.lt_or_ge q (j*2) with hq2 | hq2
      . rw [Array.getElem?_setIfInBounds_ne (by omega),List.getElem?_append_left (by omega),<- htk,List.getElem?_take_of_lt hq2,Array.getElem?_toList]
      . rw [List.getElem?_append_right (by omega), hcl]
        by_cases h:q=j*2
        . subst h
          rw [Array.getElem?_setIfInBounds_ne (by omega),hz0,Nat.sub_self]
          rfl
        . obtain rfl : q = j * 2 + 1 := by omega
          rw [Array.getElem?_setIfInBounds_self_of_lt (by omega),show j*2+1-j*2=1 by omega]
          rfl
    . rw [List.getElem?_eq_none_iff.2 (by rw [List.length_take];omega),List.getElem?_eq_none_iff.2 (by rw [List.length_append,hcl];show j*2+2<=q;omega)]
  . exact Array.getElem?_setIfInBounds_ne (by omega)
theorem zOs {w wf : World} {A0 : Av} {p0 : zA7} {tv sv : Value} {S1 S2 : Nat -> Prop} (hF : Fr w wf) (h1 : (oSl 83 (oRd zA0)).own avT wf S1 p0.2.1 [tv]) (h2 : (oSl 54 clF).own avT wf S2 p0.2.2 [sv]) (hg1 : ∀ k, S1 k -> w.heap.size <= k) (hg2 : ∀ k, S2 k -> w.heap.size <= k) (hd : ∀ k, S1 k -> ¬ S2 k) :
    zGB A0 (trR (geB w.heap.size) (oPr (oRd (eInt .i64)) (oPr (oSl 83 (oRd zA0)) (oSl 54 clF))) p0 []) (fun _=>.any) w (.agg #[.int .i64 p0.1,tv,sv]) wf:=by
  have hp:zIv (oPr (oRd (eInt .i64)) (oPr (oSl 83 (oRd zA0)) (oSl 54 clF))):=zLH (zIp fun _ _ _ _ _ h=>h) (zLH (zJZ (zIp fun _ _ _ _ _ h=>h)) (zJZ (zLH (zIp fun _ _ _ _ _ h=>h) (zJZ (zIp fun _ _ _ _ _ h=>h)))))
  have h3:=zIi (F:=oRd (eInt .i64)) (c:=[.int .i64 p0.1]) (y:=p0.1) (zCy rfl) (zO5 h1 h2 hd)
  refine ⟨fun k=>S1 k\/S2 k,hF,fun k hk=>hk.elim (hg1 k) (hg2 k),trivial,⟨fun k hk=>hk.elim (hg1 k) (hg2 k),⟨⟨[.int .i64 p0.1,tv,sv],rfl,hp h3⟩,fun q hq=>by cases hq⟩⟩,trivial⟩
set_option maxRecDepth 8000 in
set_option maxHeartbeats 4000000 in
theorem zEF {fu : Nat} {A0 : Av} {p0 : zA7} {r : zA7} (hr : zC3 fu p0 = some r) {w : World} {v0 : Value} (hA : AvOK A0 w) (h0 : Rep zA2 A0 w v0 p0) :
    Calls Tryz.prog 35 #[v0] w fun e w'=>∃ v,e=.returned v/\(zGB A0 (trR (geB w.heap.size) (oPr (oRd (eInt .i64)) (oPr (oSl 83 (oRd zA0)) (oSl 54 (oPr (oRd (eInt .i64)) (oSl 9 (oRd eStr)))))) r []) (fun _=>.any) w v w'):=by
  unfold zC3 at hr
  obtain ⟨q1,hr⟩:=zAG hr
  obtain ⟨q2,hr⟩:=zAG hr
  obtain ⟨q3,hr⟩:=zAG hr
  obtain rfl:=Option.some.inj hr
  obtain ⟨a1,n1,c1,a2,n2,c2,rfl,hT,hS⟩:=zP9 h0
  obtain ⟨W1,hW1⟩:∃ W1,W1=w.alloc (.cells #[.int .i64 p0.1,.slice a1 n1 c1,.slice a2 n2 c2] 27):=⟨_,rfl⟩
  obtain ⟨W2,hW2⟩:∃ W2,W2=W1.alloc (.cells #[.int .i64 0,.slice none 0 0,.slice none 0 0] 27):=⟨_,rfl⟩
  have z1:W1.heap.size=w.heap.size+1:=by rw [hW1];simp
  have z2:W2.heap.size=w.heap.size+1+1:=by rw [hW2,<- z1];simp
  have F2:Fr w W2:=by
    rw [hW2,hW1]
    exact (Fr.alloc _ _).trans (Fr.alloc _ _)
  have B1:Blk W2 w.heap.size 27 #[.int .i64 p0.1,.slice a1 n1 c1,.slice a2 n2 c2]:=by
    rw [hW2,hW1]
    exact (Blk.new _ _ _).alloc _
  have B2:Blk W2 (w.heap.size+1) 27 #[.int .i64 0,.slice none 0 0,.slice none 0 0]:=by
    rw [<- z1,hW2]
    exact Blk.new _ _ _
  have x1:=B1.cell 1
  simp only [List.getElem?_toArray,List.getElem?_cons_zero,List.getElem?_cons_succ] at x1
  have HT:=Lib.hid (hT.stp (zLl F2))
  have HA2:=Lib.hid (zNq hA F2)
  have HB1:=Lib.hid B1
  have HB2:=Lib.hid B2
  have HF2:=Lib.hid F2
  have HS:=Lib.hid hS
  have HHA:=Lib.hid hA
  have hM1:Hid (zAn fu p0.2.1=some p0.2.1):=by
    unfold zAn
    rw [show ([]:List zA3).length+p0.2.1.length=p0.2.1.length by simp,q1]
    rfl
  clear hT hS h0 F2 B1 B2 hA
  go_enter Tryz.func35,Tryz.ntmps35
  go_wp2_with fail
  rw [<- hW1,<- hW2]
  refine (zD5 hM1.out HA2.out HT.out).mono ?_
  clear hW1 hW2 z1 W1 x1 HT hM1 HA2
  rintro e W3 ⟨tv,rfl,hv3,hf3⟩
  obtain ⟨a3,c3,rfl,hc3⟩:=zHQ hv3 (by decide)
  have F3:=HF2.out.trans hf3
  have hs3:w.heap.size+1+1<=W3.heap.size:=by rw [<- z2];exact hf3.size
  have B1:Blk W3 w.heap.size 27 _:=(hf3.block _ HB1.out.lt).trans HB1.out
  have x1:=B1.cell 1
  have x2:=B1.cell 2
  have y1:=B1.frozen 1
  simp only [List.getElem?_toArray,List.getElem?_cons_zero,List.getElem?_cons_succ] at x1 x2
  obtain ⟨W4,hW4⟩:∃ W4,W4=W3.setCell ⟨w.heap.size,1,none⟩ (.slice a3 p0.2.1.length c3):=⟨_,rfl⟩
  have w4:Wr w.heap.size W3 W4:=hW4 ▸ Wr.setCell _ _ _ _
  have B1':Blk W4 w.heap.size 27 _:=hW4 ▸ B1.put 1 _
  have F4:Fr w W4:=F3.trans' w4 (Nat.le_refl _)
  obtain ⟨hv3,hr3⟩:=zNs (E:=zA0) (fun _ _ _ _ _ h=>h) hv3 (by decide)
  have HV4:=Lib.hid ((oSl 83 (oRd zA0)).stab hv3 (fun k hk=>w4.block k (by have:=(hr3 k hk).1;omega)) (zHg (by rw [w4.size];exact Nat.le_refl _)))
  have HR4:Hid (∀ k,zAE (.slice a3 p0.2.1.length c3) k->w.heap.size+2<=k/\k<W4.heap.size):=Lib.hid fun k hk=>⟨by have:=(hr3 k hk).1;omega,by rw [w4.size];exact (hr3 k hk).2⟩
  have HS4:=Lib.hid (HS.out.stp (zLl F4))
  have HA4:=Lib.hid (zNq HHA.out F4)
  have HB1:=Lib.hid B1'
  have HB2:Hid (Blk W4 (w.heap.size+1) 27 _):=Lib.hid (w4.blk (by omega) ((hf3.block _ HB2.out.lt).trans HB2.out))
  have HF4:=Lib.hid F4
  have hs4:w.heap.size+1+1<=W4.heap.size:=by rw [w4.size];exact hs3
  have hM2:Hid (zAo fu p0.2.2=some p0.2.2):=by
    unfold zAo
    rw [show ([]:List zA4).length+p0.2.2.length=p0.2.2.length by simp,q2]
    rfl
  clear hv3 hc3 hf3 F3 B1 B1' w4 F4
  go_wp2_with fail
  rw [<- hW4]
  refine (zD3 hM2.out HA4.out HS4.out).mono ?_
  clear hW4 x1 x2 y1 hM2 HS4
  rintro e W5 ⟨sv,rfl,hv5,hf5⟩
  obtain ⟨a5,c5,rfl,hc5⟩:=zHQ hv5 (by decide)
  have F5:=HF4.out.trans hf5
  have hs5:w.heap.size+1+1<=W5.heap.size:=Nat.le_trans hs4 hf5.size
  have B1:Blk W5 w.heap.size 27 _:=(hf5.block _ HB1.out.lt).trans HB1.out
  have x2:=B1.cell 2
  have y2:=B1.frozen 2
  simp only [List.getElem?_toArray,List.getElem?_cons_zero,List.getElem?_cons_succ,List.setIfInBounds_toArray,List.set_cons_succ,List.set_cons_zero] at x2
  obtain ⟨W6,hW6⟩:∃ W6,W6=W5.setCell ⟨w.heap.size,2,none⟩ (.slice a5 p0.2.2.length c5):=⟨_,rfl⟩
  have w6:Wr w.heap.size W5 W6:=hW6 ▸ Wr.setCell _ _ _ _
  have B1':Blk W6 w.heap.size 27 _:=hW6 ▸ B1.put 2 _
  simp only [List.setIfInBounds_toArray,List.set_cons_succ,List.set_cons_zero] at B1'
  have F6:Fr w W6:=F5.trans' w6 (Nat.le_refl _)
  have x6:=B1'.cell 2
  simp only [List.getElem?_toArray,List.getElem?_cons_zero,List.getElem?_cons_succ] at x6
  have HB1:=Lib.hid B1'
  obtain ⟨A5,hA5⟩:∃ A5,A5=addA (clA w A0 W4) (.slice a5 p0.2.2.length c5):=⟨_,rfl⟩
  have hA5ok:AvOK A5 W5:=fun b o hb=>by
    rw [hA5] at hb
    rcases hb with hb | hb
    . exact Nat.lt_of_lt_of_le (HA4.out b o hb) hf5.size
    . rcases hc5 with ⟨rfl, _⟩ | ⟨g, arr, rfl, _, hk, _⟩
      . exact hb.elim
      . have hb : g = b := hb
        exact hb ▸ hk.lt
  have hA5w:∀ b o,w.heap.size<=b->b<W4.heap.size->A5 b o:=fun b o h1 h2=>hA5 ▸ .inl (.inr ⟨h1,h2⟩)
  have hA5g:∀ b o,zAE (.slice a5 p0.2.2.length c5) b->A5 b o:=fun b o h=>hA5 ▸ .inr h
  rw [<- hA5] at hc5
  have hT5:=(oSl 83 (oRd zA0)).stab HV4.out (fun k hk=>((w6.block k (by have:=(HR4.out k hk).1;omega)).trans (hf5.block k (HR4.out k hk).2))) (zHg (w':=W6) (by rw [w6.size];exact hf5.size))
  have HT:=Lib.hid hT5
  have hz6:=w6.size
  have hz5:=hf5.size
  have hb2:Blk W6 (w.heap.size+1) 27 _:=w6.blk (by omega) ((hf5.block _ HB2.out.lt).trans HB2.out)
  have HB2:=Lib.hid hb2
  have HC:=Lib.hid hc5
  have HF6:=Lib.hid F6
  have HW6:=Lib.hid w6
  have HA:=Lib.hid hA5ok
  have HAw:=Lib.hid hA5w
  have HAg:=Lib.hid hA5g
  have Hn:=zGh q2
  clear hc5 F6 w6 hA5ok hA5w hA5g hT5 hb2 B1 B1' hv5 F5 hf5 hA5 HV4 HA4
  go_wp2_with fail
  rw [<- hW6]
  clear hW6 x2 y2
  go_loopw [15] (fun i wr=>∃ (j:Nat),i=.int .i64 (j:Int)/\j<=p0.2.2.length/\Fr w wr/\Ch (zAE (.slice a5 p0.2.2.length c5)) W6 wr/\∃ L:List (Prt zA4),L.length=j/\EL clF avT wr L/\L.map (·.1)=p0.2.2.take j/\(∀ k,inL L k->W6.heap.size<=k)/\∀ g,a5=some ⟨g,0,none⟩->∃ (arr0 arr:Array Value),(∀ (i:Nat) x,p0.2.2[i]? = some x->∃ ds,zA1.rep A5 W5 x ds/\∀ (q:Nat) d,ds[q]? = some d->arr0[i*2+q]? = some d)/\p0.2.2.length<=c5/\c5<=maxLen/\Blk wr g 54 arr/\arr.size=c5*2/\arr.toList.take (j*2)=csOf L/\∀ k,j*2<=k->arr[k]? = arr0[k]?) (fun i _=>p0.2.2.length-(intOf i).toNat)
  case atStart=>
    refine ⟨0,rfl,Nat.zero_le _,HF6.out,Ch.refl _ _,[],rfl,⟨(fun t h=>by cases h),List.Pairwise.nil⟩,rfl,(fun k h=>by obtain ⟨t,h,_⟩:=h;cases h),fun g hg=>?_⟩
    rcases HC.out with ⟨e,_⟩ | ⟨g',arr,e,hB,hk,h1,h2,h3,h4⟩
    . rw [e] at hg;cases hg
    . rw [e] at hg
      obtain rfl:g'=g:=by injection hg with hg;injection hg
      exact ⟨arr,arr,h4,h1,h2,HW6.out.blk (by omega) hk,h3,by rw [Nat.zero_mul,List.take_zero];rfl,fun k _=>rfl⟩
  case round=>
    obtain ⟨j,rfl,hj,hfr,hch,L,hL,hE,hLx,hLg,hrow⟩:=hrel
    have X2:wr.cell? ⟨w.heap.size,2,none⟩=some (.slice a5 p0.2.2.length c5):=by
      have hb:Blk wr w.heap.size 27 _:=(hch.block _ HB1.out.lt fun hk=>by
        rcases HC.out with ⟨rfl,_⟩ | ⟨g,arr,rfl,hB,_⟩
        . exact hk
        . have hk : g = w.heap.size := hk
          omega).trans HB1.out
      have:=hb.cell 2
      simpa only [List.getElem?_toArray,List.getElem?_cons_zero,List.getElem?_cons_succ] using this
    by_cases hlt:j<p0.2.2.length
    . rcases HC.out with ⟨_, _, e⟩ | ⟨g, arr9, rfl, hB, hk9, _⟩
      . rw [e] at hlt
        exact absurd hlt (Nat.not_lt_zero _)
      obtain ⟨arr0,arr,hel,hnc,hcm,hk,hsz,htk,hup⟩:=hrow g rfl
      obtain ⟨x,hx⟩:∃ x,p0.2.2[j]? = some x:=⟨_,List.getElem?_eq_getElem hlt⟩
      obtain ⟨ds,hrep,hds⟩:=hel j x hx
      obtain ⟨dc,dd,rfl,h1,h2⟩:=hrep
      have h1:dc = [.int .i64 x.1]:=h1
      subst h1
      obtain ⟨za,zn,zc,rfl,h2⟩:=h2
      have hz0:=(hup (j*2+0) (by omega)).trans (hds 0 _ rfl)
      have hz1:=(hup (j*2+1) (by omega)).trans (hds 1 _ rfl)
      have X3:wr.cell? ⟨g,j*2+1,none⟩=some (.slice za zn zc):=(hk.cell _).trans hz1
      have hgw:w.heap.size+1+1<=g:=by omega
      have hgl:=hk.lt
      have hge6:Hid (w.heap.size<=g/\g<W6.heap.size):=⟨by omega,by rw [hz6];exact hk9.lt⟩
      have hbl:∀ k,k<W5.heap.size->k ≠ w.heap.size->k ≠ g->wr.heap[k]? = W5.heap[k]?:=fun k h1 h2 h3=>(hch.block k (by omega) fun h=>h3 (Eq.symm h)).trans (HW6.out.block k h2)
      have hrd:Rep (eSl eStr) A5 wr (.slice za zn zc) x.2:=by
        refine (show Rep (eSl eStr) A5 W5 (.slice za zn zc) x.2 from ⟨_,rfl,za,zn,zc,rfl,h2⟩).stp ⟨Nat.le_trans (by omega) hch.size,fun b o v hv hn=>?_,fun _ _ _ h=>h⟩
        have hb:=zEV hv
        have e:=hbl b hb (fun e=>hn (HAw.out b o (by omega) (by omega))) (fun e=>hn (HAg.out b o (Eq.symm e)))
        show wr.cell? ⟨b,o,none⟩=some v
        exact (World.cell?_of_block e).trans hv
      have hA:AvOK A5 wr:=HA.out.fr (Nat.le_trans (by omega) hch.size)
      have hM:zAQ fu x.2=some x.2:=by
        unfold zAQ
        rw [show ([]:List (List UInt8)).length+x.2.length=x.2.length by simp,List.all_eq_true.1 q3 x (List.mem_of_getElem? hx)]
        rfl
      have hcall:=zAj (w:=wr.drew) hM hA (hrd.fr (Fr.drew wr))
      have HK:=Lib.hid hk
      have HE:=Lib.hid hE
      have HX:=Lib.hid hx
      have HFR:=Lib.hid hfr
      have HCH:=Lib.hid hch
      have HREST:Hid (L.length=j/\L.map (·.1)=p0.2.2.take j/\(∀ k,inL L k->W6.heap.size<=k)/\arr.size=c5*2/\arr.toList.take (j*2)=csOf L/\(∀ k,j*2<=k->arr[k]? = arr0[k]?)/\arr[j*2]? = some (.int .i64 x.1)/\arr[j*2+1]? = some (.slice za zn zc)):=⟨hL,hLx,hLg,hsz,htk,hup,hz0,hz1⟩
      have HEL:=Lib.hid hel
      have HCALL:=Lib.hid hcall
      have hjn:(j:Int)<(p0.2.2.length:Int):=by omega
      clear hk hE hx hfr hch hL hLx hLg hsz htk hup hz0 hz1 hel hcall hM hA hrd hbl hrow hds h2
      have hbw:w.heap.size<wr.heap.size:=by omega
      go_wp2_with fail
      go_region_with (go_at_call 39;refine HCALL.out.mono ?_;rintro e w' ⟨v,rfl,hv,hf⟩;obtain ⟨a7,c7,rfl,_⟩:=zHQ hv (by decide);have Y2:=(Fr.cell (p:=⟨w.heap.size,2,none⟩) hf hbw).trans X2;have Y3:=(Fr.cell (p:=⟨g,j*2+1,none⟩) hf hgl).trans X3;have Y4:w'.frozen? ⟨g,j*2+1,none⟩=false:=Blk.frozen ((hf.block _ HK.out.lt).trans HK.out) _;have HV:=Lib.hid hv;have HF:=Lib.hid hf;clear hv hf)
      all_goals
        obtain ⟨r1,r2,r3,r4,r5,r6,r7,_⟩:=HREST.out
        obtain ⟨s1,s2,L',s3,s4,s5,s6,arr',s7,s8,s9,s10⟩:=zOO (w:=w) (W6:=W6) (wr:=wr) hge6.out.1 hge6.out.2 HFR.out HCH.out r1 HE.out r2 r3 HK.out r4 (by omega) r5 HX.out r7 HV.out ((Fr.drew wr).trans HF.out)
        obtain ⟨W,hW⟩:∃ W,W=w'.setCell ⟨g,j*2+1,none⟩ (.slice a7 x.2.length c7):=⟨_,rfl⟩
        rw [<- hW] at s1 s2 s4 s7 ⊢
        have ST:Hid (j+1<=p0.2.2.length/\Fr w W/\Ch (zAE (.slice (some ⟨g,0,none⟩) p0.2.2.length c5)) W6 W/\∃ L:List (Prt zA4),L.length=j+1/\EL clF avT W L/\L.map (·.1)=p0.2.2.take (j+1)/\(∀ k,inL L k->W6.heap.size<=k)/\∀ g',some (⟨g,0,none⟩:Addr)=some ⟨g',0,none⟩->∃ (arr0 arr:Array Value),(∀ (i:Nat) x,p0.2.2[i]? = some x->∃ ds,zA1.rep A5 W5 x ds/\∀ (q:Nat) d,ds[q]? = some d->arr0[i*2+q]? = some d)/\p0.2.2.length<=c5/\c5<=maxLen/\Blk W g' 54 arr/\arr.size=c5*2/\arr.toList.take ((j+1)*2)=csOf L/\∀ k,(j+1)*2<=k->arr[k]? = arr0[k]?):=
          ⟨hlt,s1,s2,L',s3,s4,s5,s6,fun g' hg'=>by
            obtain rfl:g=g':=by injection hg' with hg';injection hg'
            exact ⟨arr0,arr',HEL.out,hnc,hcm,s7,s8,s9,fun k hk=>(s10 k hk).trans (r6 k (by omega))⟩⟩
        clear s1 s2 s3 s4 s5 s6 s7 s8 s9 s10 r1 r2 r3 r4 r5 r6 r7 hW
        go_wp2_with fail
        refine ⟨⟨j+1,rfl,ST.out⟩,?_⟩
        show p0.2.2.length-((j:Int)+1).toNat<p0.2.2.length-((j:Nat):Int).toNat
        omega
    . obtain rfl : j = p0.2.2.length := by omega
      have hnb:∀ k,k<w.heap.size+1+1->¬ zAE (.slice a5 p0.2.2.length c5) k:=fun k hk h=>by
        rcases HC.out with ⟨rfl,_⟩ | ⟨g,arr,rfl,hB,_⟩
        . exact h
        . have h : g = k := h
          omega
      have b1:Blk wr w.heap.size 27 _:=(hch.block _ HB1.out.lt (hnb _ (by omega))).trans HB1.out
      have b2:Blk wr (w.heap.size+1) 27 _:=(hch.block _ HB2.out.lt (hnb _ (by omega))).trans HB2.out
      have e0:=b1.cell 0
      have e1:=b1.cell 1
      have f0:=b2.cell 0
      have f1:=b2.cell 1
      have f2:=b2.cell 2
      have g0:=b2.frozen 0
      have g1:=b2.frozen 1
      have g2:=b2.frozen 2
      simp only [List.getElem?_toArray,List.getElem?_cons_zero,List.getElem?_cons_succ] at e0 e1 f0 f1 f2
      obtain ⟨Wf,hWf⟩:∃ Wf,Wf=((wr.setCell ⟨w.heap.size+1,0,none⟩ (.int .i64 p0.1)).setCell ⟨w.heap.size+1,1,none⟩ (.slice a3 p0.2.1.length c3)).setCell ⟨w.heap.size+1,2,none⟩ (.slice a5 p0.2.2.length c5):=⟨_,rfl⟩
      have wf:Wr (w.heap.size+1) wr Wf:=hWf ▸ ((Wr.setCell _ _ _ _).trans (Wr.setCell _ _ _ _)).trans (Wr.setCell _ _ _ _)
      have hzf:=wf.size
      have hsz6:=hch.size
      have hT:=(oSl 83 (oRd zA0)).stab HT.out (fun k hk=>(wf.block k (by have:=(HR4.out k hk).1;omega)).trans (hch.block k (by have:=(HR4.out k hk).2;omega) fun h=>by
        rcases HC.out with ⟨rfl,_⟩ | ⟨g,arr,rfl,hB,_⟩
        . exact h
        . have h : g = k := h
          have:=(HR4.out k hk).2
          omega)) (zHg (w':=Wf) (by omega))
      have hS:∃ S2:Nat->Prop,(oSl 54 clF).own avT Wf S2 p0.2.2 [.slice a5 p0.2.2.length c5]/\∀ k,S2 k->W4.heap.size<=k:=by
        rcases HC.out with ⟨rfl,rfl,e⟩ | ⟨g,arr9,rfl,hB,hk9,_⟩
        . refine ⟨fun _ => False, ?_, fun k h => h.elim⟩
          rw [e]
          exact zDN
        . obtain ⟨arr0, arr, _, hnc, hcm, hk, hsz, htk, _⟩ := hrow g rfl
          rw [List.take_length] at hLx
          have hE':EL clF avT Wf L:=hE.stab (fun k hk=>wf.block k (by have:=hLg k hk;omega)) (zHg (by omega))
          have hkf:Blk Wf g 54 arr:=wf.blk (by omega) hk
          have h:=zIH hE' hkf (c:=c5) (by omega) hcm hsz (by rw [hL];exact htk) (fun h=>by have:=hLg g h;have:=hk9.lt;omega)
          rw [hLx,hL] at h
          refine ⟨_,h,fun k h=>h.elim (fun e=>by omega) fun h=>by have:=hLg k h;omega⟩
      obtain ⟨S2,hS,hS2⟩:=hS
      have fin:=zOs (w:=w) (A0:=A0) (hfr.trans' wf (by omega)) hT hS (fun k hk=>by have:=(HR4.out k hk).1;omega) (fun k hk=>by have:=hS2 k hk;omega) (fun k h1 h2=>by have:=(HR4.out k h1).2;have:=hS2 k h2;omega)
      have FIN:=Lib.hid fin
      have kf:Blk Wf (w.heap.size+1) 27 _:=hWf ▸ ((b2.put 0 (.int .i64 p0.1)).put 1 (.slice a3 p0.2.1.length c3)).put 2 (.slice a5 p0.2.2.length c5)
      simp only [List.setIfInBounds_toArray,List.set_cons_succ,List.set_cons_zero] at kf
      have KF:=Lib.hid kf
      clear kf fin hS hS2 hT hzf hsz6 wf b1 b2 hnb hfr hch hL hE hLx hLg hrow
      go_wp2_with fail
      try simp only [Exit.inBlock,Exit.then]
      rw [<- hWf]
      refine bodyPost_ret (results_cell_row (p:=2) (ty:=27) rfl _ _ _ _ _ (0,0) _ rfl KF.out Tryz.underlying27 rfl (by kernel_rfl)) rfl ?_
      exact ⟨_,rfl,FIN.out⟩
def zAH (fu : Nat) (p0 : List zA4) (p1 : Int) (p2 : zA4 -> Int -> Option Int) : Nat -> Int -> Int -> Option Int
 | 0,_,_=>none
 | k+1,y4,y5=>
 bif (decide (y4<y5)) then (
 ck (i64B (y4+y5)) <|
 ck (decide (0<=1)) <|
 ck (inR (IntKind.i64.wrap ((IntKind.u64.wrap (y4+y5)) / 2 ^ min (1:Int).toNat 64)) p0.length) <|
 cl true (p2 (gtD p0 (IntKind.i64.wrap ((IntKind.u64.wrap (y4+y5)) / 2 ^ min (1:Int).toNat 64))) p1) fun x10=>
 bif (decide (x10<0)) then (
 ck (i64B ((IntKind.i64.wrap ((IntKind.u64.wrap (y4+y5)) / 2 ^ min (1:Int).toNat 64))+1)) <|
 zAH fu p0 p1 p2 k ((IntKind.i64.wrap ((IntKind.u64.wrap (y4+y5)) / 2 ^ min (1:Int).toNat 64))+1) y5
 ) else (
 zAH fu p0 p1 p2 k y4 (IntKind.i64.wrap ((IntKind.u64.wrap (y4+y5)) / 2 ^ min (1:Int).toNat 64))
 )
 ) else (
 some y4
 )
def zAW (fu:Nat) (p0:List zA4) (p1:Int) (p2:zA4->Int->Option Int):Option (Int × Bool):=
 cl true (zAH fu p0 p1 p2 fu 0 (p0.length:Int)) fun s3=>
 ck (!(true&&((decide (s3<(p0.length:Int)))==true)) || inR s3 p0.length) <|
 cl (true&&((decide (s3<(p0.length:Int)))==true)) (p2 (gtD p0 s3) p1) fun x15=>
 bd ((decide (s3<(p0.length:Int)))&&(x15==0)) fun x17=>
 some (s3,x17)
theorem zC8 {fu : Nat} {A : Av} {p0 : List zA4} {p1 : Int} {p2 : zA4 -> Int -> Option Int} {r : Int × Bool} (c : zAW fu p0 p1 p2 = some r) {w : World} {v0 : Value} {v1 : Value} {v2 : Value} (d : AvOK A w) (h0 : Rep (eSl zA1) A w v0 p0) (h1 : v1=.int .i64 p1) (h2 : FnB2 prog zA1 (eInt .i64) (fun r => .raw (.int .i64 r)) A w v2 p2) :
 Calls prog 66 #[v0,v1,v2] w fun e w'=>∃ v,e=.returned v/\((∃ a b,v=.tuple #[a,b]/\a=.int .i64 r.1/\b=.bool r.2)/\Fr w w'):=by
 unfold zAW at c
 obtain ⟨w0,hw0,j⟩:=pf w
 rw [fw hw0]
 have f_v2:FnB2 prog zA1 (eInt .i64) (fun r=>.raw (.int .i64 r)) A w0 v2 p2:=hw0 ▸ h2
 refine zAB [.tmp 6,.tmp 7] func66 ntmps66 (by decide) Z Z (nb Z) ?_
 intro R hR
 have f_v0:=h0
 replace h0:R 0=v0:=hR 0 _ Z
 replace h1:R 1=.int .i64 p1:=(hR 1 _ Z).trans h1
 replace h2:R 2=v2:=hR 2 _ Z
 refine zPR d j (eI 0::eB false::[]) ?_ ?_
 exact op (fun Q U W H D=>zA6 Z)<|op (fun Q U W H D=>zA6 Z)<|oz
 intro R w m n p d j
 obtain ⟨h0,h1,h2⟩:=k3 n h0 h1 h2
 replace f_v0:=f_v0.fr m
 refine zPR d j (eR v0::eI (p0.length:Int)::eI (p0.length:Int)::[]) ?_ ?_
 exact om h0<|op (fun Q U W H D=>zAN (aT:=#[]) ((f_v0.fr W).eq (D.g 0 Z)) underlying25)<|oa<|oz
 intro R w m n p d j
 obtain ⟨h0,h1,h2⟩:=k3 n h0 h1 h2
 have h8:=p.r 2 Z
 replace f_v0:=f_v0.fr m
 refine zPR d j (eI (p0.length:Int)::eI 0::eI (p0.length:Int)::[]) ?_ ?_
 exact om h8<|op (fun Q U W H D=>zA6 Z)<|oa<|oz
 intro R w m n p d j
 obtain ⟨h0,h1,h2,h8⟩:=k4 n h0 h1 h2 h8
 have h9:=p.r 1 Z
 have h10:=p.r 2 Z
 replace f_v0:=f_v0.fr m
 obtain ⟨rl1,q2,c⟩:=zA9 c
 replace q2:=q2 Z
 refine zPK (fun R w=>∃ (s3:Int),rl1=s3/\AvOK A w/\Fr w0 w/\R 0=v0/\R 1=.int .i64 p1/\R 2=v2/\R 8=.int .i64 (p0.length:Int)/\R 9=.int .i64 s3/\Rep (eSl zA1) A w v0 p0) ?_ ?_
 refine HT.block<|zPP (fun k R w=>∃ (y4:Int) (y5:Int),zAH fu p0 p1 p2 k y4 y5=some rl1/\AvOK A w/\Fr w0 w/\R 0=v0/\R 1=.int .i64 p1/\R 2=v2/\R 8=.int .i64 (p0.length:Int)/\R 9=.int .i64 y4/\R 10=.int .i64 y5/\Rep (eSl zA1) A w v0 p0) fu ⟨_,_,q2,d,j,h0,h1,h2,h8,h9,h10,f_v0⟩ ?_
 have hr0:=c;clear c q2
 rintro k R w ⟨y4,y5,c,d,j,h0,h1,h2,h8,h9,h10,f_v0⟩
 rcases k with _ | k
 cases (show none=some _ from c)
 rw [zAH] at c
 refine zPQ ?_
 refine zPR d j (eI y4::eI y5::eB (decide (y4<y5))::[]) ?_ ?_
 exact om h9<|om h10<|op (fun Q U W H D=>zB8 (D.g 0 Z) (D.g 1 Z))<|oz
 intro R w m n p d j
 obtain ⟨h0,h1,h2,h8,h9,h10⟩:=k6 n h0 h1 h2 h8 h9 h10
 have h17:=p.r 2 Z
 replace f_v0:=f_v0.fr m
 refine zPJ (decide (y4<y5)) h17 (fun c6=>?_) (fun c6=>?_)
 have c:=zAe c6 c
 refine HT.skip<|HT.block ?_
 obtain ⟨e7,e8,c⟩:=ck2 c
 refine zPR d j (eI y4::eI y5::eI (y4+y5)::eR (.int .u64 (IntKind.u64.wrap (y4+y5)))::eR (.int .u64 ((IntKind.u64.wrap (y4+y5)) / 2 ^ min (1:Int).toNat 64))::eI (IntKind.i64.wrap ((IntKind.u64.wrap (y4+y5)) / 2 ^ min (1:Int).toNat 64))::eI (IntKind.i64.wrap ((IntKind.u64.wrap (y4+y5)) / 2 ^ min (1:Int).toNat 64))::[]) ?_ ?_
 exact om h9<|om h10<|op (fun Q U W H D=>zAi (D.g 0 Z) (D.g 1 Z) e7)<|op (fun Q U W H D=>zFh (D.g 0 Z) underlying3 underlying98)<|op (fun Q U W H D=>zMG (D.g 0 Z) Z e8)<|op (fun Q U W H D=>zFh (D.g 0 Z) underlying98 underlying3)<|oa<|oz
 intro R w m n p d j
 obtain ⟨h0,h1,h2,h8,h9,h10⟩:=k6 n h0 h1 h2 h8 h9 h10
 have h11:=p.r 6 Z
 replace f_v0:=f_v0.fr m
 obtain ⟨e9,c⟩:=zAG c
 obtain ⟨x10,q11,c⟩:=zA9 c
 refine zPR d j (eR v2::eR v0::eI (IntKind.i64.wrap ((IntKind.u64.wrap (y4+y5)) / 2 ^ min (1:Int).toNat 64))::eF (.qtr zA1 A (gtD p0 (IntKind.i64.wrap ((IntKind.u64.wrap (y4+y5)) / 2 ^ min (1:Int).toNat 64))))::eF (.rep zA1 A (gtD p0 (IntKind.i64.wrap ((IntKind.u64.wrap (y4+y5)) / 2 ^ min (1:Int).toNat 64))))::eI p1::eI x10::eB (decide (x10<0))::[]) ?_ ?_
 exact om h2<|om h0<|om h11<|op (fun Q U W H D=>zAC ((f_v0.fr W).eq (D.g 0 Z)) (D.g 1 Z) underlying25 sizeOf54 e9)<|op (fun Q U W H D=>(zAT (QRep.ptr (D.g 0 Z)) isAgg54 sizeOf54))<|om h1<|op (fun Q U W H D=>zIF (D.g 0 Z) (f_v2 _ _ _ (q11 Z) _ _ _ ((j.trans W).ch _) (d.fr W.size) (D.g 1 Z) (zBa.eq (D.g 2 Z))))<|op (fun Q U W H D=>zB8 (D.g 0 Z) Z)<|oz
 intro R w m n p d j
 obtain ⟨h0,h1,h2,h8,h9,h10⟩:=k6 n h0 h1 h2 h8 h9 h10
 replace h11:=k1 n h11
 have h31:=p.r 7 Z
 replace f_v0:=f_v0.fr m
 refine zPJ (decide (x10<0)) h31 (fun c12=>?_) (fun c12=>?_)
 have c:=zAe c12 c
 obtain ⟨e13,c⟩:=zAG c
 refine HT.u d j (eI (IntKind.i64.wrap ((IntKind.u64.wrap (y4+y5)) / 2 ^ min (1:Int).toNat 64))::eI ((IntKind.i64.wrap ((IntKind.u64.wrap (y4+y5)) / 2 ^ min (1:Int).toNat 64))+1)::eI ((IntKind.i64.wrap ((IntKind.u64.wrap (y4+y5)) / 2 ^ min (1:Int).toNat 64))+1)::[]) ?_ ?_
 exact om h11<|op (fun Q U W H D=>zAi (D.g 0 Z) Z e13)<|oa<|oz
 intro R w m n p d j
 obtain ⟨h0,h1,h2,h8,h10⟩:=k5 n h0 h1 h2 h8 h10
 have h9:=p.r 2 Z
 replace f_v0:=f_v0.fr m
 exact ei k (And.intro (Nat.lt_succ_self k) ⟨_,_,c,d,j,h0,h1,h2,h8,h9,h10,f_v0⟩)
 have c:=zAd c12 c
 refine HT.u d j (eI (IntKind.i64.wrap ((IntKind.u64.wrap (y4+y5)) / 2 ^ min (1:Int).toNat 64))::eI (IntKind.i64.wrap ((IntKind.u64.wrap (y4+y5)) / 2 ^ min (1:Int).toNat 64))::[]) ?_ ?_
 exact om h11<|oa<|oz
 intro R w m n p d j
 obtain ⟨h0,h1,h2,h8,h9⟩:=k5 n h0 h1 h2 h8 h9
 have h10:=p.r 1 Z
 replace f_v0:=f_v0.fr m
 exact ei k (And.intro (Nat.lt_succ_self k) ⟨_,_,c,d,j,h0,h1,h2,h8,h9,h10,f_v0⟩)
 have c:=zAd c6 c
 refine zPO ?_
 obtain rfl:=si c
 exact ei _ ⟨Z,d,j,h0,h1,h2,h8,h9,f_v0⟩
 rintro R w ⟨s3,es,d,j,h0,h1,h2,h8,h9,f_v0⟩
 obtain rfl:=es.symm
 refine zPQ ?_
 obtain ⟨e14,c⟩:=zAG c
 obtain ⟨x15,q16,c⟩:=zA9 c
 obtain ⟨x17,q18,c⟩:=zAO c
 refine HT.u d j (eI s3::eI s3::eI (p0.length:Int)::eB (decide (s3<(p0.length:Int)))::eB (decide (s3<(p0.length:Int)))::gR (true&&((decide (s3<(p0.length:Int)))==true)) v2::gR (true&&((decide (s3<(p0.length:Int)))==true)) v0::gI (true&&((decide (s3<(p0.length:Int)))==true)) s3::gF (true&&((decide (s3<(p0.length:Int)))==true)) (.qtr zA1 A (gtD p0 s3))::gF (true&&((decide (s3<(p0.length:Int)))==true)) (.rep zA1 A (gtD p0 s3))::gI (true&&((decide (s3<(p0.length:Int)))==true)) p1::gI (true&&((decide (s3<(p0.length:Int)))==true)) x15::gB (true&&((decide (s3<(p0.length:Int)))==true)) (x15==0)::eB x17::eI s3::eB x17::[]) ?_ ?_
 exact om h9<|om h9<|om h8<|op (fun Q U W H D=>zB8 (D.g 0 Z) (D.g 1 Z))<|ov<|gm 4 true h2<|gm 4 true h0<|gm 4 true h9<|og 4 true (fun G Q U W H D=>zAC ((f_v0.fr W).eq (D.h 0 G Z)) (D.h 1 G Z) underlying25 sizeOf54 (gd e14 G))<|og 4 true (fun G Q U W H D=>(zAT (QRep.ptr (D.h 0 G Z)) isAgg54 sizeOf54))<|gm 4 true h1<|og 4 true (fun G Q U W H D=>zIF (D.h 0 G Z) (f_v2 _ _ _ (q16 G) _ _ _ ((j.trans W).ch _) (d.fr W.size) (D.h 1 G Z) (zBa.eq (D.h 2 G Z))))<|og 4 true (fun G Q U W H D=>zEt (D.h 0 G Z) Z)<|op (fun Q U W H D=>zAR (decide (s3<(p0.length:Int))) (D.g 0 Z) (fun hc=>by have a1:Q 47=.bool (x15==0):=D 1 _ _ _ Z Z Z Z (zBJ Z (zAf hc));show _=Value.bool x17;rw [q18,hc];exact a1) (fun hc=>by show _=Value.bool x17;rw [q18,hc];exact Z))<|oa<|oa<|oz
 intro R w m n p d j
 have h6:=p.r 14 Z
 have h7:=p.r 15 Z
 refine HT.ret ?_
 obtain rfl:=si c
 exact ⟨.inr Z,[R 6,R 7],⟨Z,⟨Z,N⟩⟩,⟨_,_,Z,h6,h7⟩,j⟩
def zBV (fu:Nat) (p0:zA4) (p1:Int):Option Int:=
 ck (i64B (p0.1-p1)) <|
 some (p0.1-p1)
theorem zFR {fu : Nat} {A0 : Av} {p0 : zA4} {p1 : Int} {r : Int} (c : zBV fu p0 p1 = some r) {w : World} {v0 : Value} {v1 : Value} (d : AvOK A0 w) (h0 : Rep zA1 A0 w v0 p0) (h1 : v1=.int .i64 p1) :
 Calls prog 67 #[v0,v1] w fun e w'=>∃ v,e=.returned v/\(v=.int .i64 r/\Fr w w'):=by
 unfold zBV at c
 obtain ⟨w0,hw0,j,C⟩:=pw d
 have hA00:AvOK A0 w0:=C
 rw [fw hw0]
 obtain ⟨A,hAe,B,d,q⟩:=pa d
 refine zAB [.tmp 4] func67 ntmps67 (by decide) Z Z (nb Z) ?_
 intro R hR
 have f_v0:Rep zA1 A w v0 p0:=hAe ▸ h0
 replace h0:R 0=v0:=hR 0 _ Z
 replace h1:R 1=.int .i64 p1:=(hR 1 _ Z).trans h1
 refine zPS [] (⟨_,true,[],some (.box w0.heap.size 54 zA1 p0),true,fun A=>.any⟩::rI 0::[]) (ua (ur (UAll.nil))) q d ?_ ?_
 exact rc (OblR.made _ Z Z Z Z fun V Q U O D=>by have a0:Q 0=v0:=(O.old 0 Z).trans h0;have ra0:=(f_v0.stp O.stp).eq a0;exact zD0 ra0 (Nat.le_trans j.size O.ch.size))<|rp (fun V Q U O D=>zA6 Z)<|rz
 intro done ρ σ A R w y s
 replace h1:=k1 s.rg h1
 obtain ⟨b2_0,e_b2_0⟩:=s.boxv y 0 Z Z
 have h2:=s.ov y 0 0 e_b2_0
 obtain ⟨B,j,d⟩:=s.s B C j q N
 replace q:=s.left y [(0,ob (.pointer (some ⟨b2_0,0,none⟩)) (.box w0.heap.size 54 zA1 p0))] ⟨Z,Z,e_b2_0,Z,Z,N⟩
 obtain ⟨e2,c⟩:=zAG c
 refine zPR d j (eR (.pointer (some ⟨b2_0,0,none⟩))::eI p0.1::eI p1::eI (p0.1-p1)::eI (p0.1-p1)::[]) ?_ ?_
 exact op (fun Q U W H D=>zA8 ((H 2 Z).trans h2) zDc sizeOf3 (by decide) Z)<|op (fun Q U W H D=>OpF.int (zAA ((q.fr W).ok 0 _ Z).1 (D.g 0 Z) zAU Z isAgg3 sizeOf3))<|om h1<|op (fun Q U W H D=>zDf (D.g 0 Z) (D.g 1 Z) e2)<|oa<|oz
 intro R w m n p d j
 have h4:=p.r 4 Z
 replace q:=q.fr m
 replace q:IniOK [] A w:=q.sub [] N
 refine HT.ret ?_
 obtain rfl:=si c
 exact ⟨.inr Z,[R 4],⟨Z,N⟩,h4,j⟩
def zCJ (fu:Nat) (p0:zA7) (p1:Int):Option (Int × Bool):=
 cl true (zAW fu p0.2.2 p1 (fun x y=>zBV fu x y)) fun x2=>
 some (x2.1,x2.2)
theorem zEQ {fu : Nat} {A0 : Av} {p0 : zA7} {p1 : Int} {r : Int × Bool} (c : zCJ fu p0 p1 = some r) {w : World} {v0 : Value} {v1 : Value} (d : AvOK A0 w) (h0 : Rep zA2 A0 w v0 p0) (h1 : v1=.int .i64 p1) :
 Calls prog 37 #[v0,v1] w fun e w'=>∃ v,e=.returned v/\((∃ a b,v=.tuple #[a,b]/\a=.int .i64 r.1/\b=.bool r.2)/\Fr w w'):=by
 unfold zCJ at c
 obtain ⟨w0,hw0,j,C⟩:=pw d
 have hA00:AvOK A0 w0:=C
 rw [fw hw0]
 obtain ⟨A,hAe,B,d,q⟩:=pa d
 refine zAB [.tmp 4,.tmp 5] func37 ntmps37 (by decide) Z Z (nb Z) ?_
 intro R hR
 have f_v0:Rep zA2 A w v0 p0:=hAe ▸ h0
 replace h0:R 0=v0:=hR 0 _ Z
 replace h1:R 1=.int .i64 p1:=(hR 1 _ Z).trans h1
 refine zPS [] (⟨_,true,[],some (.box w0.heap.size 27 zA2 p0),true,fun A=>.any⟩::rI 0::rB false::[]) (ua (ur (ur (UAll.nil)))) q d ?_ ?_
 exact rc (OblR.made _ Z Z Z Z fun V Q U O D=>by have a0:Q 0=v0:=(O.old 0 Z).trans h0;have ra0:=(f_v0.stp O.stp).eq a0;exact zD0 ra0 (Nat.le_trans j.size O.ch.size))<|rp (fun V Q U O D=>zA6 Z)<|rp (fun V Q U O D=>zA6 Z)<|rz
 intro done ρ σ A R w y s
 replace h1:=k1 s.rg h1
 obtain ⟨b2_0,e_b2_0⟩:=s.boxv y 0 Z Z
 have h2:=s.ov y 0 0 e_b2_0
 obtain ⟨B,j,d⟩:=s.s B C j q N
 replace q:=s.left y [(0,ob (.pointer (some ⟨b2_0,0,none⟩)) (.box w0.heap.size 27 zA2 p0))] ⟨Z,Z,e_b2_0,Z,Z,N⟩
 obtain ⟨x2,q3,c⟩:=zA9 c
 refine zPR d j (eR (.pointer (some ⟨b2_0,2,none⟩))::eF (.rep (eSl zA1) A p0.2.2)::eI p1::eF (.tup2 (.raw (.int .i64 x2.1)) (.raw (.bool x2.2)))::eI x2.1::eB x2.2::eI x2.1::eB x2.2::[]) ?_ ?_
 exact op (fun Q U W H D=>zA8 ((H 2 Z).trans h2) zAv sizeOf25 (by decide) Z)<|op (fun Q U W H D=>(zAA ((q.fr W).ok 0 _ Z).1 (D.g 0 Z) zAJ Z isAgg25 sizeOf25))<|om h1<|op (fun Q U W H D=>zAM call66 (zC8 (q3 Z) (d.fr W.size) (D.g 0 Z) (D.g 1 Z) (zO7 [] Z call67 (fun x y r hr' w'' a b p hA' ha hb=>zFR hr' hA' ha (zM5 hb)))))<|op (fun Q U W H D=>zBv (D.g 0 Z))<|op (fun Q U W H D=>zBj (D.g 0 Z))<|oa<|oa<|oz
 intro R w m n p d j
 have h4:=p.r 6 Z
 have h5:=p.r 7 Z
 replace q:=q.fr m
 replace q:IniOK [] A w:=q.sub [] N
 refine HT.ret ?_
 obtain rfl:=si c
 exact ⟨.inr Z,[R 4,R 5],⟨Z,⟨Z,N⟩⟩,⟨_,_,Z,h4,h5⟩,j⟩
def zD6 (fu:Nat) (p0:zA7) (p1:Int) (p2:List (List UInt8)):Option (zA7 × Bool):=
 cl true (zC3 fu p0) fun x4=>
 cl true (zAh fu p0) fun x11=>
 cl (true&&((!x11)==false)) (zBP fu p2) fun x13=>
 bd ((!x11) || (!x13)) fun x15=>
 cl (true&&(x15==false)) (zCl fu p1) fun x17=>
 bd (x15 || (!x17)) fun x19=>
 bd (x19 || ((p0.2.2.length:Int)==12)) fun x21=>
 bif x21 then (
 some (x4,false)
 ) else (
 cl true (zCJ fu p0 p1) fun x28=>
 bif x28.2 then (
 some (x4,false)
 ) else (
 cl true (zAQ fu p2) fun x36=>
 ck (subR x28.1 (x4.2.2.length:Int) x4.2.2.length) <|
 ck (zD4 (x4.2.2.length+1)) <|
 some ((x4.1,x4.2.1,(x4.2.2.take x28.1.toNat++(p1,x36)::x4.2.2.drop x28.1.toNat)),true)
 )
 )
set_option linter.unusedSimpArgs false in
theorem zH5 {fu : Nat} {A0 : Av} {p0 : zA7} {p1 : Int} {p2 : List (List UInt8)} {r : zA7 × Bool} (c : zD6 fu p0 p1 p2 = some r) {w : World} {v0 : Value} {v1 : Value} {v2 : Value} (d : AvOK A0 w) (h0 : Rep zA2 A0 w v0 p0) (h1 : v1=.int .i64 p1) (h2 : Rep (eSl eStr) A0 w v2 p2) :
 Calls prog 15 #[v0,v1,v2] w fun e w'=>∃ v,e=.returned v/\(∃ (u0:Value) (S0:Nat->Prop) (A1:Av),GPost A0 (fun _=>False) w [⟨u0,S0,trR (geB w.heap.size) (oPr (oRd (eInt .i64)) (oPr (oSl 83 (oRd zA0)) (oSl 54 (oPr (oRd (eInt .i64)) (oSl 9 (oRd eStr)))))) r.1 []⟩] A1 w'/\(Fact.tup2 (.raw u0) (.raw (.bool r.2))).ok v w'):=by
 unfold zD6 at c
 obtain ⟨w0,hw0,j,C⟩:=pw d
 have hA00:AvOK A0 w0:=C
 rw [show GPost A0 (fun _=>False) w=GPost A0 (fun _=>False) w0 from by rw [hw0]]
 rw [show w.heap.size=w0.heap.size from by rw [hw0]]
 obtain ⟨A,hAe,B,d,q⟩:=pa d
 refine zAB [.cell 6 27,.tmp 7] func15 ntmps15 (by decide) Z Z (nb Z) ?_
 intro R hR
 have f_v0:Rep zA2 A w v0 p0:=hAe ▸ h0
 replace h0:R 0=v0:=hR 0 _ Z
 replace h1:R 1=.int .i64 p1:=(hR 1 _ Z).trans h1
 have f_v2:Rep (eSl eStr) A w v2 p2:=hAe ▸ h2
 replace h2:R 2=v2:=hR 2 _ Z
 refine zPS [] (⟨_,true,[],some (.box w0.heap.size 27 zA2 p0),true,fun A=>.any⟩::⟨_,true,[],some (trR (geB w0.heap.size) (oPt 27 (oPr (oRd (eInt .i64)) (oPr (oSl 83 (oRd zA0)) (oSl 54 (oPr (oRd (eInt .i64)) (oSl 9 (oRd eStr))))))) (0,(([]:List zA3),([]:List zA4))) []),true,fun A=>.any⟩::rB false::[]) (ua (ua (ur (UAll.nil)))) q d ?_ ?_
 exact rc (OblR.made _ Z Z Z Z fun V Q U O D=>by have a0:Q 0=v0:=(O.old 0 Z).trans h0;have ra0:=(f_v0.stp O.stp).eq a0;exact zD0 ra0 (Nat.le_trans j.size O.ch.size))<|rc (zPX _ Z Z Z Z fun V Q U O D=>by exact zCg zeroValue27 (fun A w=>zD2 (zCy zAm) (zD2 zDN zDN)) (fun k hk=>Nat.le_trans (Nat.le_trans j.size O.ch.size) hk))<|rp (fun V Q U O D=>zA6 Z)<|rz
 intro done ρ σ A R w y s
 obtain ⟨h1,h2⟩:=k2 s.rg h1 h2
 obtain ⟨b3_0,e_b3_0⟩:=s.boxv y 0 Z Z
 have h3:=s.ov y 0 0 e_b3_0
 obtain ⟨u2,e_u2⟩:∃ u,ρ 1=u:=⟨_,Z⟩
 have h6:=s.ov y 1 1 e_u2
 obtain ⟨S3,eS_u2⟩:∃ S,σ 1=S:=⟨_,Z⟩
 replace f_v2:=f_v2.stp s.stp
 obtain ⟨B,j,d⟩:=s.s B C j q N
 replace q:=s.left y [(0,ob (.pointer (some ⟨b3_0,0,none⟩)) (.box w0.heap.size 27 zA2 p0)),(1,⟨u2,S3,trR (geB w0.heap.size) (oPt 27 (oPr (oRd (eInt .i64)) (oPr (oSl 83 (oRd zA0)) (oSl 54 (oPr (oRd (eInt .i64)) (oSl 9 (oRd eStr))))))) (0,(([]:List zA3),([]:List zA4))) []⟩)] ⟨Z,Z,e_b3_0,Z,Z,⟨Z,Z,e_u2,eS_u2,Z,N⟩⟩
 obtain ⟨x4,q5,c⟩:=zA9 c
 refine zPS [ob (.pointer (some ⟨b3_0,0,none⟩)) (.box w0.heap.size 27 zA2 p0),⟨u2,S3,trR (geB w0.heap.size) (oPt 27 (oPr (oRd (eInt .i64)) (oPr (oSl 83 (oRd zA0)) (oSl 54 (oPr (oRd (eInt .i64)) (oSl 9 (oRd eStr))))))) (0,(([]:List zA3),([]:List zA4))) []⟩] ((rF fun A=>.rep zA2 A p0)::⟨_,true,[],some (trR (geB w0.heap.size) (oPr (oRd (eInt .i64)) (oPr (oSl 83 (oRd zA0)) (oSl 54 (oPr (oRd (eInt .i64)) (oSl 9 (oRd eStr)))))) x4 []),true,fun A=>.any⟩::⟨_,true,[],some (trR (geB w0.heap.size) (oPt 27 (oPr (oRd (eInt .i64)) (oPr (oSl 83 (oRd zA0)) (oSl 54 (oPr (oRd (eInt .i64)) (oSl 9 (oRd eStr))))))) (0,(([]:List zA3),([]:List zA4))) []),true,fun A=>.any⟩::⟨_,true,[4,3],some (trR (geB w0.heap.size) (oPt 27 (oPr (oRd (eInt .i64)) (oPr (oSl 83 (oRd zA0)) (oSl 54 (oPr (oRd (eInt .i64)) (oSl 9 (oRd eStr))))))) x4 []),false,fun A=>.any⟩::[]) (up (ua (ua (ua (UAll.nil))))) q d ?_ ?_
 exact rp (fun V Q U O D=>(zAA (O.rd 0 _ Z Z) ((O.old 3 Z).trans h3) (Fld.id _) Z isAgg27 sizeOf27))<|rc (zPX _ Z Z Z Z fun V Q U O D=>by have a0:Rep zA2 V U (Q 11) p0:=D.g 0 Z;exact zHe call35 (zEF (q5 Z) O.av a0) (fun k hk=>Nat.le_trans (Nat.le_trans j.size O.ch.size) hk))<|rc (zPX _ Z Z Z Z fun V Q U O D=>by exact zCg zeroValue27 (fun A w=>zD2 (zCy zAm) (zD2 zDN zDN)) (fun k hk=>Nat.le_trans (Nat.le_trans j.size O.ch.size) hk))<|rc (zPY 4 [3] _ Z Z Z Z fun V Q U O D ρ σ X Y J L M hdd=>by have k1:=X 4 (.head _) _ Z;exact zCK Z (zAp k1.2.2).ptr (X 3 (.tail _ (.head _)) _ Z).2.2.1 (L 3 (.tail _ (.head _)) _ _ Z Z Z Z).symm (L 4 (.head _) _ _ Z Z Z Z).symm Y hdd k1.2.1 (X 3 (.tail _ (.head _)) _ Z).2.1 sizeOf27 (fun _ _ _ h=>h))<|rz
 intro done ρ σ A R w y s
 obtain ⟨h1,h2,h3,h6⟩:=k4 s.rg h1 h2 h3 h6
 have z6:=s.inivR 0 Z
 have z7:=s.inivR 1 Z
 obtain ⟨u8,e_u8⟩:∃ u,ρ 5=u:=⟨_,Z⟩
 have z9:=(s.opnR y 5 3 Z Z Z Z Z).symm.trans e_u8
 have h8:=s.ov y 4 2 z9
 have eS_u2:=s.inisR 1 Z
 obtain ⟨S10,eS_u8⟩:∃ S,σ 5=S:=⟨_,Z⟩
 replace f_v2:=f_v2.stp s.stp
 obtain ⟨B,j,d⟩:=s.s B C j q ⟨Z,⟨fun _ h=>h,N⟩⟩
 replace q:=s.left y [(0,ob (.pointer (some ⟨b3_0,0,none⟩)) (.box w0.heap.size 27 zA2 p0)),(1,⟨u2,S3,trR (geB w0.heap.size) (oPt 27 (oPr (oRd (eInt .i64)) (oPr (oSl 83 (oRd zA0)) (oSl 54 (oPr (oRd (eInt .i64)) (oSl 9 (oRd eStr))))))) (0,(([]:List zA3),([]:List zA4))) []⟩),(5,⟨u8,S10,trR (geB w0.heap.size) (oPt 27 (oPr (oRd (eInt .i64)) (oPr (oSl 83 (oRd zA0)) (oSl 54 (oPr (oRd (eInt .i64)) (oSl 9 (oRd eStr))))))) x4 []⟩)] ⟨Z,Z,z6,Z,Z,⟨Z,Z,z7,eS_u2,Z,⟨Z,Z,e_u8,eS_u8,Z,N⟩⟩⟩
 refine zPQ ?_
 refine zPQ ?_
 obtain ⟨x11,q12,c⟩:=zA9 c
 obtain ⟨x13,q14,c⟩:=zA9 c
 obtain ⟨x15,q16,c⟩:=zAO c
 obtain ⟨x17,q18,c⟩:=zA9 c
 obtain ⟨x19,q20,c⟩:=zAO c
 obtain ⟨x21,q22,c⟩:=zAO c
 refine HT.u d j (eF (.rep zA2 A p0)::eB x11::eB (!x11)::eB (!x11)::gR (true&&((!x11)==false)) v2::gB (true&&((!x11)==false)) x13::gB (true&&((!x11)==false)) (!x13)::eB x15::eB x15::gI (true&&(x15==false)) p1::gB (true&&(x15==false)) x17::gB (true&&(x15==false)) (!x17)::eB x19::eB x19::gR (true&&(x19==false)) (.pointer (some ⟨b3_0,2,none⟩))::gF (true&&(x19==false)) (.rep (eSl zA1) A p0.2.2)::gI (true&&(x19==false)) (p0.2.2.length:Int)::gB (true&&(x19==false)) ((p0.2.2.length:Int)==12)::eB x21::[]) ?_ ?_
 exact op (fun Q U W H D=>(zAA ((q.fr W).ok 0 _ Z).1 ((H 3 Z).trans h3) (Fld.id _) Z isAgg27 sizeOf27))<|op (fun Q U W H D=>zAM call18 (zBR (q12 Z) (d.fr W.size) (D.g 0 Z)))<|op (fun Q U W H D=>zBY (D.g 0 Z))<|ov<|gm 3 false h2<|og 3 false (fun G Q U W H D=>zAM call22 (zCH (q14 G) (d.fr W.size) ((f_v2.fr W).eq (D.h 0 G Z))))<|og 3 false (fun G Q U W H D=>zBY (D.h 0 G Z))<|op (fun Q U W H D=>zAR (!x11) (D.g 0 Z) (fun hc=>by show _=Value.bool x15;rw [q16,hc];exact Z) (fun hc=>by have a2:Q 19=.bool (!x13):=D 1 _ _ _ Z Z Z Z (zBJ Z (zAf hc));show _=Value.bool x15;rw [q16,hc];exact a2))<|ov<|gm 8 false h1<|og 8 false (fun G Q U W H D=>zAM call36 (zEh (q18 G) (d.fr W.size) (D.h 0 G Z)))<|og 8 false (fun G Q U W H D=>zBY (D.h 0 G Z))<|op (fun Q U W H D=>zAR x15 (D.g 0 Z) (fun hc=>by show _=Value.bool x19;rw [q20,hc];exact Z) (fun hc=>by have a2:Q 24=.bool (!x17):=D 1 _ _ _ Z Z Z Z (zBJ Z (zAf hc));show _=Value.bool x19;rw [q20,hc];exact a2))<|ov<|og 13 false (fun G Q U W H D=>zA8 ((H 3 Z).trans h3) zAv sizeOf25 (by decide) Z)<|og 13 false (fun G Q U W H D=>(zAA ((q.fr W).ok 0 _ Z).1 (D.h 0 G Z) zAJ Z isAgg25 sizeOf25))<|og 13 false (fun G Q U W H D=>zAN (aT:=#[]) (D.h 0 G Z) underlying25)<|og 13 false (fun G Q U W H D=>zEt (D.h 0 G Z) Z)<|op (fun Q U W H D=>zAR x19 (D.g 0 Z) (fun hc=>by show _=Value.bool x21;rw [q22,hc];exact Z) (fun hc=>by have a2:Q 30=.bool ((p0.2.2.length:Int)==12):=D 1 _ _ _ Z Z Z Z (zBJ Z (zAf hc));show _=Value.bool x21;rw [q22,hc];exact a2))<|oz
 intro R w m n p d j
 obtain ⟨h1,h2,h3,h6,h8⟩:=k5 n h1 h2 h3 h6 h8
 have h31:=p.r 18 Z
 replace f_v2:=f_v2.fr m
 replace q:=q.fr m
 refine zPJ x21 h31 (fun c23=>?_) (fun c23=>?_)
 have c:=zAe c23 c
 refine zPS [ob (.pointer (some ⟨b3_0,0,none⟩)) (.box w0.heap.size 27 zA2 p0),⟨u2,S3,trR (geB w0.heap.size) (oPt 27 (oPr (oRd (eInt .i64)) (oPr (oSl 83 (oRd zA0)) (oSl 54 (oPr (oRd (eInt .i64)) (oSl 9 (oRd eStr))))))) (0,(([]:List zA3),([]:List zA4))) []⟩,⟨u8,S10,trR (geB w0.heap.size) (oPt 27 (oPr (oRd (eInt .i64)) (oPr (oSl 83 (oRd zA0)) (oSl 54 (oPr (oRd (eInt .i64)) (oSl 9 (oRd eStr))))))) x4 []⟩] (⟨_,true,[2],some (trR (geB w0.heap.size) (oPr (oRd (eInt .i64)) (oPr (oSl 83 (oRd zA0)) (oSl 54 (oPr (oRd (eInt .i64)) (oSl 9 (oRd eStr)))))) x4 []),true,fun A=>.any⟩::⟨_,true,[1,3],some (trR (geB w0.heap.size) (oPt 27 (oPr (oRd (eInt .i64)) (oPr (oSl 83 (oRd zA0)) (oSl 54 (oPr (oRd (eInt .i64)) (oSl 9 (oRd eStr))))))) x4 []),false,fun A=>.any⟩::rB false::[]) (ua (ua (ur (UAll.nil)))) q d ?_ ?_
 exact rc (zPZ 2 _ _ Z Z Z Z Z fun V Q U O D u S X I Y J L M=>by have a0:Q 8=u8:=(O.old 8 Z).trans h8;exact zDa I.2 (a0.trans (J _ Z).1.symm) Y I.1 isAgg27 sizeOf27)<|rc (zPY 1 [3] _ Z Z Z Z fun V Q U O D ρ σ X Y J L M hdd=>by have a0:Q 6=u2:=(O.old 6 Z).trans h6;have k1:=X 1 (.head _) _ Z;have e0:=(J 1 (.head _) _ Z).1;rw [e0] at k1 ⊢;exact zCK Z (zAp k1.2.2).ptr (X 3 (.tail _ (.head _)) _ Z).2.2.1 (L 3 (.tail _ (.head _)) _ _ Z Z Z Z).symm a0 Y hdd k1.2.1 (X 3 (.tail _ (.head _)) _ Z).2.1 sizeOf27 (fun _ _ _ h=>h))<|rp (fun V Q U O D=>zA6 Z)<|rz
 intro done ρ σ A R w y s
 replace h6:=k1 s.rg h6
 have z24:=s.inivR 0 Z
 have z25:=s.inivR 1 Z
 have z26:=s.on y 4 1 Z Z Z Z Z z25
 obtain ⟨S27,eS_u2⟩:∃ S,σ 4=S:=⟨_,Z⟩
 have h7:=s.r y 2 Z
 obtain ⟨B,j,d⟩:=s.s B C j q ⟨Z,⟨fun _ h=>h,⟨fun _ h=>h,N⟩⟩⟩
 replace q:=s.left y [(4,⟨u2,S27,trR (geB w0.heap.size) (oPt 27 (oPr (oRd (eInt .i64)) (oPr (oSl 83 (oRd zA0)) (oSl 54 (oPr (oRd (eInt .i64)) (oSl 9 (oRd eStr))))))) x4 []⟩)] ⟨Z,Z,z26,eS_u2,Z,N⟩
 refine HT.ret ?_
 obtain rfl:=si c
 obtain ⟨v_6,S_6,e_6,q⟩:=q.unbox 0 Z h6 isAgg27 sizeOf27
 obtain ⟨A1,hA1,hG1⟩:=GPost.of q d B (fun k hk=>.inl (q.ge (⟨fun _ h=>h,N⟩) k hk)) (j.ch (fun _=>False))
 exact ⟨.inr Z,[v_6,R 7],⟨e_6,⟨Z,N⟩⟩,v_6,S_6,A1,hG1,⟨_,_,Z,Z,h7⟩⟩
 have c:=zAd c23 c
 refine HT.skip ?_
 obtain ⟨x28,q29,c⟩:=zA9 c
 refine zPR d j (eF (.rep zA2 A p0)::eI p1::eF (.tup2 (.raw (.int .i64 x28.1)) (.raw (.bool x28.2)))::eF (.tup2 (.raw (.int .i64 x28.1)) (.raw (.bool x28.2)))::eI x28.1::eB x28.2::eI x28.1::eB x28.2::[]) ?_ ?_
 exact op (fun Q U W H D=>(zAA ((q.fr W).ok 0 _ Z).1 ((H 3 Z).trans h3) (Fld.id _) Z isAgg27 sizeOf27))<|om h1<|op (fun Q U W H D=>zAM call37 (zEQ (q29 Z) (d.fr W.size) (D.g 0 Z) (D.g 1 Z)))<|op (fun Q U W H D=>zBI (D.g 0 Z))<|op (fun Q U W H D=>zBv (D.g 0 Z))<|op (fun Q U W H D=>zBj (D.g 0 Z))<|oa<|oa<|oz
 intro R w m n p d j
 obtain ⟨h1,h2,h6,h8⟩:=k4 n h1 h2 h6 h8
 have h9:=p.r 6 Z
 have h10:=p.r 7 Z
 replace f_v2:=f_v2.fr m
 replace q:=q.fr m
 replace q:IniOK [⟨u2,S3,trR (geB w0.heap.size) (oPt 27 (oPr (oRd (eInt .i64)) (oPr (oSl 83 (oRd zA0)) (oSl 54 (oPr (oRd (eInt .i64)) (oSl 9 (oRd eStr))))))) (0,(([]:List zA3),([]:List zA4))) []⟩,⟨u8,S10,trR (geB w0.heap.size) (oPt 27 (oPr (oRd (eInt .i64)) (oPr (oSl 83 (oRd zA0)) (oSl 54 (oPr (oRd (eInt .i64)) (oSl 9 (oRd eStr))))))) x4 []⟩] A w:=q.sub [(1,⟨u2,S3,trR (geB w0.heap.size) (oPt 27 (oPr (oRd (eInt .i64)) (oPr (oSl 83 (oRd zA0)) (oSl 54 (oPr (oRd (eInt .i64)) (oSl 9 (oRd eStr))))))) (0,(([]:List zA3),([]:List zA4))) []⟩),(2,⟨u8,S10,trR (geB w0.heap.size) (oPt 27 (oPr (oRd (eInt .i64)) (oPr (oSl 83 (oRd zA0)) (oSl 54 (oPr (oRd (eInt .i64)) (oSl 9 (oRd eStr))))))) x4 []⟩)] ⟨Z,Z,⟨Z,Z,N⟩⟩
 refine zPQ ?_
 refine zPR d j (eB x28.2::[]) ?_ ?_
 exact om h10<|oz
 intro R w m n p d j
 obtain ⟨h1,h2,h6,h8,h9⟩:=k5 n h1 h2 h6 h8 h9
 have h39:=p.r 0 Z
 replace f_v2:=f_v2.fr m
 replace q:=q.fr m
 refine zPJ x28.2 h39 (fun c30=>?_) (fun c30=>?_)
 have c:=zAe c30 c
 refine zPS [⟨u2,S3,trR (geB w0.heap.size) (oPt 27 (oPr (oRd (eInt .i64)) (oPr (oSl 83 (oRd zA0)) (oSl 54 (oPr (oRd (eInt .i64)) (oSl 9 (oRd eStr))))))) (0,(([]:List zA3),([]:List zA4))) []⟩,⟨u8,S10,trR (geB w0.heap.size) (oPt 27 (oPr (oRd (eInt .i64)) (oPr (oSl 83 (oRd zA0)) (oSl 54 (oPr (oRd (eInt .i64)) (oSl 9 (oRd eStr))))))) x4 []⟩] (⟨_,true,[1],some (trR (geB w0.heap.size) (oPr (oRd (eInt .i64)) (oPr (oSl 83 (oRd zA0)) (oSl 54 (oPr (oRd (eInt .i64)) (oSl 9 (oRd eStr)))))) x4 []),true,fun A=>.any⟩::⟨_,true,[0,2],some (trR (geB w0.heap.size) (oPt 27 (oPr (oRd (eInt .i64)) (oPr (oSl 83 (oRd zA0)) (oSl 54 (oPr (oRd (eInt .i64)) (oSl 9 (oRd eStr))))))) x4 []),false,fun A=>.any⟩::rB false::[]) (ua (ua (ur (UAll.nil)))) q d ?_ ?_
 exact rc (zPZ 1 _ _ Z Z Z Z Z fun V Q U O D u S X I Y J L M=>by have a0:Q 8=u8:=(O.old 8 Z).trans h8;exact zDa I.2 (a0.trans (J _ Z).1.symm) Y I.1 isAgg27 sizeOf27)<|rc (zPY 0 [2] _ Z Z Z Z fun V Q U O D ρ σ X Y J L M hdd=>by have a0:Q 6=u2:=(O.old 6 Z).trans h6;have k1:=X 0 (.head _) _ Z;have e0:=(J 0 (.head _) _ Z).1;rw [e0] at k1 ⊢;exact zCK Z (zAp k1.2.2).ptr (X 2 (.tail _ (.head _)) _ Z).2.2.1 (L 2 (.tail _ (.head _)) _ _ Z Z Z Z).symm a0 Y hdd k1.2.1 (X 2 (.tail _ (.head _)) _ Z).2.1 sizeOf27 (fun _ _ _ h=>h))<|rp (fun V Q U O D=>zA6 Z)<|rz
 intro done ρ σ A R w y s
 replace h6:=k1 s.rg h6
 have z31:=s.inivR 0 Z
 have z32:=s.on y 3 1 Z Z Z Z Z z31
 obtain ⟨S33,eS_u2⟩:∃ S,σ 3=S:=⟨_,Z⟩
 have h7:=s.r y 2 Z
 obtain ⟨B,j,d⟩:=s.s B C j q ⟨fun _ h=>h,⟨fun _ h=>h,N⟩⟩
 replace q:=s.left y [(3,⟨u2,S33,trR (geB w0.heap.size) (oPt 27 (oPr (oRd (eInt .i64)) (oPr (oSl 83 (oRd zA0)) (oSl 54 (oPr (oRd (eInt .i64)) (oSl 9 (oRd eStr))))))) x4 []⟩)] ⟨Z,Z,z32,eS_u2,Z,N⟩
 refine HT.ret ?_
 obtain rfl:=si c
 obtain ⟨v_6,S_6,e_6,q⟩:=q.unbox 0 Z h6 isAgg27 sizeOf27
 obtain ⟨A1,hA1,hG1⟩:=GPost.of q d B (fun k hk=>.inl (q.ge (⟨fun _ h=>h,N⟩) k hk)) (j.ch (fun _=>False))
 exact ⟨.inr Z,[v_6,R 7],⟨e_6,⟨Z,N⟩⟩,v_6,S_6,A1,hG1,⟨_,_,Z,Z,h7⟩⟩
 have c:=zAd c30 c
 refine HT.skip<|zPQ ?_
 obtain ⟨h34,p_h34⟩:=(((((zAp (q.own 1 _ Z).2).ptr).snd Z).snd (zCZ _ _ _))).open1 Z
 replace q:IniOK [⟨u2,S3,trR (geB w0.heap.size) (oPt 27 (oPr (oRd (eInt .i64)) (oPr (oSl 83 (oRd zA0)) (oSl 54 (oPr (oRd (eInt .i64)) (oSl 9 (oRd eStr))))))) (0,(([]:List zA3),([]:List zA4))) []⟩,⟨u8,S10,trR (geB w0.heap.size) (oPt 27 (oPr (oRd (eInt .i64)) (oPr (oSl 83 (oRd zA0)) (oSl 54 (oPr (oRd (eInt .i64)) (oSl 9 (oRd eStr))))))) x4 [((padd u8 2),[h34])]⟩] A w:=q.repin 1 Z (trP.pin p_h34)
 obtain ⟨x36,q37,c⟩:=zA9 c
 obtain ⟨e38,e39,c⟩:=ck2 c
 refine zPN [⟨u2,S3,trR (geB w0.heap.size) (oPt 27 (oPr (oRd (eInt .i64)) (oPr (oSl 83 (oRd zA0)) (oSl 54 (oPr (oRd (eInt .i64)) (oSl 9 (oRd eStr))))))) (0,(([]:List zA3),([]:List zA4))) []⟩,⟨u8,S10,trR (geB w0.heap.size) (oPt 27 (oPr (oRd (eInt .i64)) (oPr (oSl 83 (oRd zA0)) (oSl 54 (oPr (oRd (eInt .i64)) (oSl 9 (oRd eStr))))))) x4 [((padd u8 2),[h34])]⟩] (rR (padd u8 2)::rR h34::rI x28.1::rI p1::rR v2::⟨_,true,[],some (.vec w0.heap.size 9 eStr x36),true,fun A=>.any⟩::⟨_,true,[7],some (trR (geB w0.heap.size) (oPr (oRd (eInt .i64)) (oSl 9 (oRd eStr))) (p1,x36) []),true,fun A=>.any⟩::⟨_,true,[8],some (trR (geB w0.heap.size) (oSl 54 (oPr (oRd (eInt .i64)) (oSl 9 (oRd eStr)))) ([(p1,x36)]:List zA4) []),true,fun A=>.any⟩::⟨_,true,[1,9],some (.gen (geB w0.heap.size) (pdP (oSl 54 (oPr (oRd (eInt .i64)) (oSl 9 (oRd eStr)))) (padd u8 2) (fun z A w S=>(trP (oPt 27 (oPr (oRd (eInt .i64)) (oPr (oSl 83 (oRd zA0)) (oSl 54 (oPr (oRd (eInt .i64)) (oSl 9 (oRd eStr))))))) (x4.1,x4.2.1,z) []).P A w S u8) (x4.2.2.take x28.1.toNat++(p1,x36)::x4.2.2.drop x28.1.toNat))),true,fun A=>.any⟩::rR (padd u8 2)::⟨_,true,[10],some (.gen (geB w0.heap.size) (fixP u8 (trP (oPt 27 (oPr (oRd (eInt .i64)) (oPr (oSl 83 (oRd zA0)) (oSl 54 (oPr (oRd (eInt .i64)) (oSl 9 (oRd eStr))))))) (x4.1,x4.2.1,(x4.2.2.take x28.1.toNat++(p1,x36)::x4.2.2.drop x28.1.toNat)) []))),false,fun A=>.any⟩::[]) (by kernel_rfl) (by kernel_rfl) (by kernel_rfl) (Wf.mk' (by kernel_rfl) (ur (ur (ur (ur (ur (ua (ua (ua (ua (ur (ua (UAll.nil)))))))))))) (by kernel_rfl) (by kernel_rfl)) q d ?_ ?_
 exact rp (fun V Q U O D=>zAx ((zAp (q.own 1 _ Z).2).ptr).ad ((O.old 8 Z).trans h8) zAv sizeOf25 (by decide) Z)<|rp (fun V Q U O D=>zEn ((O.rdo 1 _ Z Z).2.2 _ (.head _)) (D.g 0 Z) isAgg25 sizeOf25)<|rm h9<|rm h1<|rm h2<|rc (OblR.made _ Z Z Z Z fun V Q U O D=>by have a0:Q 45=v2:=D.g 0 Z;have ra0:=(f_v2.stp O.stp).eq a0;exact zEy call39 (zAj (q37 Z) O.av ra0) (Nat.le_trans j.size O.ch.size))<|rc (zPZ 7 _ _ Z Z Z Z Z fun V Q U O D u S X I Y J L M=>by have a0:Q 44=.int .i64 p1:=D.g 0 Z;obtain ⟨gc,ge,go⟩:=zIc X I;obtain ⟨ga,gn,gk,rfl⟩:=zH6 go;have gx:Q 46=.slice ga gn gk:=((L _ _ Z Z Z Z).symm).trans ge;exact zKf (v:=.agg #[.int .i64 p1,.slice ga gn gk]) (by simp [execOp,Instr.build,zAL,a0,gx,underlying,underlying54,zeroValue54,sizeOf28,sizeOf3,go_sem,Instr.fill]) ⟨⟨_,Z,zIi (zCy zAm) go⟩,fun q hq=>by cases hq⟩ Y (zNn X I))<|rc (zPZ 8 _ _ Z Z Z Z Z fun V Q U O D u S X I Y J L M=>by exact zKk I.2 (L _ _ Z Z Z Z).symm Y I.1 (fun k hk=>Nat.le_trans (Nat.le_trans j.size O.ch.size) hk) underlying25 sizeOf54 zeroValue54 (by decide))<|rc (zPY 1 [9] _ Z Z Z Z fun V Q U O D ρ σ X Y J L M hdd=>by have a0:Q 42=h34:=D.g 0 Z;have a1:Q 43=.int .i64 x28.1:=D.g 1 Z;have k1:=X 1 (.head _) _ Z;have e0:=(J 1 (.head _) _ Z).1;rw [e0] at k1 ⊢;exact zM7 Z ((((zAp k1.2.2).ptr).snd Z).snd (zCZ _ _ _)) (k1.2.2.2 _ (.head _)) a0 (trP.nopin (X 9 (.tail _ (.head _)) _ Z).2.2) a1 (L 9 (.tail _ (.head _)) _ _ Z Z Z Z).symm Y hdd k1.2.1 (X 9 (.tail _ (.head _)) _ Z).2.1 (fun k hk=>Nat.le_trans (Nat.le_trans j.size O.ch.size) hk) (fun k hk=>SP.lt _ k1.2.2 hk) Z e38 e39)<|rp (fun V Q U O D=>zAx ((zAp (q.own 1 _ Z).2).ptr).ad ((O.old 8 Z).trans h8) zAv sizeOf25 (by decide) Z)<|rc (zPZ 10 _ _ Z Z Z Z Z fun V Q U O D u S X I Y J L M=>by have a0:Q 50=(padd u8 2):=D.g 0 Z;exact zHL I.2 (L _ _ Z Z Z Z).symm a0 Y I.1 sizeOf25 (fun _ _ _ h=>h))<|rz
 intro done ρ σ A R w y s
 obtain ⟨h6,h8⟩:=k2 s.rg h6 h8
 have z40:=s.inivR 0 Z
 obtain ⟨u41,e_u41⟩:∃ u,ρ 12=u:=⟨_,Z⟩
 have eS_u2:=s.inisR 0 Z
 obtain ⟨S42,eS_u8⟩:∃ S,σ 12=S:=⟨_,Z⟩
 obtain ⟨B,j,d⟩:=s.s B C j q ⟨fun _ h=>h,⟨fun _ h=>h,N⟩⟩
 replace q:=s.left y [(0,⟨u2,S3,trR (geB w0.heap.size) (oPt 27 (oPr (oRd (eInt .i64)) (oPr (oSl 83 (oRd zA0)) (oSl 54 (oPr (oRd (eInt .i64)) (oSl 9 (oRd eStr))))))) (0,(([]:List zA3),([]:List zA4))) []⟩),(12,⟨u41,S42,.gen (geB w0.heap.size) (fixP u8 (trP (oPt 27 (oPr (oRd (eInt .i64)) (oPr (oSl 83 (oRd zA0)) (oSl 54 (oPr (oRd (eInt .i64)) (oSl 9 (oRd eStr))))))) (x4.1,x4.2.1,(x4.2.2.take x28.1.toNat++(p1,x36)::x4.2.2.drop x28.1.toNat)) []))⟩)] ⟨Z,Z,z40,eS_u2,Z,⟨Z,Z,e_u41,eS_u8,Z,N⟩⟩
 replace q:IniOK [⟨u2,S3,trR (geB w0.heap.size) (oPt 27 (oPr (oRd (eInt .i64)) (oPr (oSl 83 (oRd zA0)) (oSl 54 (oPr (oRd (eInt .i64)) (oSl 9 (oRd eStr))))))) (0,(([]:List zA3),([]:List zA4))) []⟩,⟨u8,S42,trR (geB w0.heap.size) (oPt 27 (oPr (oRd (eInt .i64)) (oPr (oSl 83 (oRd zA0)) (oSl 54 (oPr (oRd (eInt .i64)) (oSl 9 (oRd eStr))))))) (x4.1,x4.2.1,(x4.2.2.take x28.1.toNat++(p1,x36)::x4.2.2.drop x28.1.toNat)) []⟩] A w:=q.refix 1 Z
 refine zPS [⟨u2,S3,trR (geB w0.heap.size) (oPt 27 (oPr (oRd (eInt .i64)) (oPr (oSl 83 (oRd zA0)) (oSl 54 (oPr (oRd (eInt .i64)) (oSl 9 (oRd eStr))))))) (0,(([]:List zA3),([]:List zA4))) []⟩,⟨u8,S42,trR (geB w0.heap.size) (oPt 27 (oPr (oRd (eInt .i64)) (oPr (oSl 83 (oRd zA0)) (oSl 54 (oPr (oRd (eInt .i64)) (oSl 9 (oRd eStr))))))) (x4.1,x4.2.1,(x4.2.2.take x28.1.toNat++(p1,x36)::x4.2.2.drop x28.1.toNat)) []⟩] (⟨_,true,[1],some (trR (geB w0.heap.size) (oPr (oRd (eInt .i64)) (oPr (oSl 83 (oRd zA0)) (oSl 54 (oPr (oRd (eInt .i64)) (oSl 9 (oRd eStr)))))) (x4.1,x4.2.1,(x4.2.2.take x28.1.toNat++(p1,x36)::x4.2.2.drop x28.1.toNat)) []),true,fun A=>.any⟩::⟨_,true,[0,2],some (trR (geB w0.heap.size) (oPt 27 (oPr (oRd (eInt .i64)) (oPr (oSl 83 (oRd zA0)) (oSl 54 (oPr (oRd (eInt .i64)) (oSl 9 (oRd eStr))))))) (x4.1,x4.2.1,(x4.2.2.take x28.1.toNat++(p1,x36)::x4.2.2.drop x28.1.toNat)) []),false,fun A=>.any⟩::rB true::[]) (ua (ua (ur (UAll.nil)))) q d ?_ ?_
 exact rc (zPZ 1 _ _ Z Z Z Z Z fun V Q U O D u S X I Y J L M=>by have a0:Q 8=u8:=(O.old 8 Z).trans h8;exact zDa I.2 (a0.trans (J _ Z).1.symm) Y I.1 isAgg27 sizeOf27)<|rc (zPY 0 [2] _ Z Z Z Z fun V Q U O D ρ σ X Y J L M hdd=>by have a0:Q 6=u2:=(O.old 6 Z).trans h6;have k1:=X 0 (.head _) _ Z;have e0:=(J 0 (.head _) _ Z).1;rw [e0] at k1 ⊢;exact zCK Z (zAp k1.2.2).ptr (X 2 (.tail _ (.head _)) _ Z).2.2.1 (L 2 (.tail _ (.head _)) _ _ Z Z Z Z).symm a0 Y hdd k1.2.1 (X 2 (.tail _ (.head _)) _ Z).2.1 sizeOf27 (fun _ _ _ h=>h))<|rp (fun V Q U O D=>zA6 Z)<|rz
 intro done ρ σ A R w y s
 replace h6:=k1 s.rg h6
 have z43:=s.inivR 0 Z
 have z44:=s.on y 3 1 Z Z Z Z Z z43
 obtain ⟨S45,eS_u2⟩:∃ S,σ 3=S:=⟨_,Z⟩
 have h7:=s.r y 2 Z
 obtain ⟨B,j,d⟩:=s.s B C j q ⟨fun _ h=>h,⟨fun _ h=>h,N⟩⟩
 replace q:=s.left y [(3,⟨u2,S45,trR (geB w0.heap.size) (oPt 27 (oPr (oRd (eInt .i64)) (oPr (oSl 83 (oRd zA0)) (oSl 54 (oPr (oRd (eInt .i64)) (oSl 9 (oRd eStr))))))) (x4.1,x4.2.1,(x4.2.2.take x28.1.toNat++(p1,x36)::x4.2.2.drop x28.1.toNat)) []⟩)] ⟨Z,Z,z44,eS_u2,Z,N⟩
 refine HT.ret ?_
 obtain rfl:=si c
 obtain ⟨v_6,S_6,e_6,q⟩:=q.unbox 0 Z h6 isAgg27 sizeOf27
 obtain ⟨A1,hA1,hG1⟩:=GPost.of q d B (fun k hk=>.inl (q.ge (⟨fun _ h=>h,N⟩) k hk)) (j.ch (fun _=>False))
 exact ⟨.inr Z,[v_6,R 7],⟨e_6,⟨Z,N⟩⟩,v_6,S_6,A1,hG1,⟨_,_,Z,Z,h7⟩⟩
theorem zGl {fu : Nat} {A0 : Av} {p0 : zA7} {p1 : Int} {p2 : List (List UInt8)} {r : zA7 × Bool} (c : zD6 fu p0 p1 p2 = some r) {w : World} {v0 : Value} {v1 : Value} {v2 : Value} (d : AvOK A0 w) (h0 : Rep zA2 A0 w v0 p0) (h1 : v1=.int .i64 p1) (h2 : Rep (eSl eStr) A0 w v2 p2) :
 Calls prog 15 #[v0,v1,v2] w fun e w'=>∃ v,e=.returned v/\((∃ a b,v=.tuple #[a,b]/\Rep zA2 A0 w' a r.1/\b=.bool r.2)/\Fr w w'):=by
 refine Calls.mono (zH5 c d h0 h1 h2) ?_
 rintro e w' ⟨v,he,u0,S0,A1,hG,a0,a1,hv,e0,e1⟩
 exact ⟨v,he,⟨a0,a1,hv,(zNB (hG.ini.own 0 _ Z).2 hG.low (fun k o hk ha=>Nat.not_lt.2 ((hG.ini.own 0 _ Z).1 k hk) (d k o ha))).eq e0,e1⟩,hG.ch.no⟩
def zD7 (fu:Nat) (p0:zA7) (p1:Int):Option (zA7 × Bool):=
 cl true (zC3 fu p0) fun x4=>
 cl true (zAh fu p0) fun x11=>
 cl (true&&((!x11)==false)) (zCl fu p1) fun x13=>
 bd ((!x11) || (!x13)) fun x15=>
 bif x15 then (
 some (x4,false)
 ) else (
 cl true (zCJ fu p0 p1) fun x22=>
 bif (!x22.2) then (
 some (x4,false)
 ) else (
 ck (i64B (x22.1+1)) <|
 ck (inR x22.1 x4.2.2.length) <|
 ck ((x22.1+1)==x22.1+1) <|
 some ((x4.1,x4.2.1,(x4.2.2.eraseIdx x22.1.toNat)),true)
 )
 )
theorem zH0 {fu : Nat} {A0 : Av} {p0 : zA7} {p1 : Int} {r : zA7 × Bool} (c : zD7 fu p0 p1 = some r) {w : World} {v0 : Value} {v1 : Value} (d : AvOK A0 w) (h0 : Rep zA2 A0 w v0 p0) (h1 : v1=.int .i64 p1) :
 Calls prog 17 #[v0,v1] w fun e w'=>∃ v,e=.returned v/\(∃ (u0:Value) (S0:Nat->Prop) (A1:Av),GPost A0 (fun _=>False) w [⟨u0,S0,trR (geB w.heap.size) (oPr (oRd (eInt .i64)) (oPr (oSl 83 (oRd zA0)) (oSl 54 (oPr (oRd (eInt .i64)) (oSl 9 (oRd eStr)))))) r.1 []⟩] A1 w'/\(Fact.tup2 (.raw u0) (.raw (.bool r.2))).ok v w'):=by
 unfold zD7 at c
 obtain ⟨w0,hw0,j,C⟩:=pw d
 have hA00:AvOK A0 w0:=C
 rw [show GPost A0 (fun _=>False) w=GPost A0 (fun _=>False) w0 from by rw [hw0]]
 rw [show w.heap.size=w0.heap.size from by rw [hw0]]
 obtain ⟨A,hAe,B,d,q⟩:=pa d
 refine zAB [.cell 4 27,.tmp 5] func17 ntmps17 (by decide) Z Z (nb Z) ?_
 intro R hR
 have f_v0:Rep zA2 A w v0 p0:=hAe ▸ h0
 replace h0:R 0=v0:=hR 0 _ Z
 replace h1:R 1=.int .i64 p1:=(hR 1 _ Z).trans h1
 refine zPS [] (⟨_,true,[],some (.box w0.heap.size 27 zA2 p0),true,fun A=>.any⟩::⟨_,true,[],some (trR (geB w0.heap.size) (oPt 27 (oPr (oRd (eInt .i64)) (oPr (oSl 83 (oRd zA0)) (oSl 54 (oPr (oRd (eInt .i64)) (oSl 9 (oRd eStr))))))) (0,(([]:List zA3),([]:List zA4))) []),true,fun A=>.any⟩::rB false::[]) (ua (ua (ur (UAll.nil)))) q d ?_ ?_
 exact rc (OblR.made _ Z Z Z Z fun V Q U O D=>by have a0:Q 0=v0:=(O.old 0 Z).trans h0;have ra0:=(f_v0.stp O.stp).eq a0;exact zD0 ra0 (Nat.le_trans j.size O.ch.size))<|rc (zPX _ Z Z Z Z fun V Q U O D=>by exact zCg zeroValue27 (fun A w=>zD2 (zCy zAm) (zD2 zDN zDN)) (fun k hk=>Nat.le_trans (Nat.le_trans j.size O.ch.size) hk))<|rp (fun V Q U O D=>zA6 Z)<|rz
 intro done ρ σ A R w y s
 replace h1:=k1 s.rg h1
 obtain ⟨b2_0,e_b2_0⟩:=s.boxv y 0 Z Z
 have h2:=s.ov y 0 0 e_b2_0
 obtain ⟨u2,e_u2⟩:∃ u,ρ 1=u:=⟨_,Z⟩
 have h4:=s.ov y 1 1 e_u2
 obtain ⟨S3,eS_u2⟩:∃ S,σ 1=S:=⟨_,Z⟩
 obtain ⟨B,j,d⟩:=s.s B C j q N
 replace q:=s.left y [(0,ob (.pointer (some ⟨b2_0,0,none⟩)) (.box w0.heap.size 27 zA2 p0)),(1,⟨u2,S3,trR (geB w0.heap.size) (oPt 27 (oPr (oRd (eInt .i64)) (oPr (oSl 83 (oRd zA0)) (oSl 54 (oPr (oRd (eInt .i64)) (oSl 9 (oRd eStr))))))) (0,(([]:List zA3),([]:List zA4))) []⟩)] ⟨Z,Z,e_b2_0,Z,Z,⟨Z,Z,e_u2,eS_u2,Z,N⟩⟩
 obtain ⟨x4,q5,c⟩:=zA9 c
 refine zPS [ob (.pointer (some ⟨b2_0,0,none⟩)) (.box w0.heap.size 27 zA2 p0),⟨u2,S3,trR (geB w0.heap.size) (oPt 27 (oPr (oRd (eInt .i64)) (oPr (oSl 83 (oRd zA0)) (oSl 54 (oPr (oRd (eInt .i64)) (oSl 9 (oRd eStr))))))) (0,(([]:List zA3),([]:List zA4))) []⟩] ((rF fun A=>.rep zA2 A p0)::⟨_,true,[],some (trR (geB w0.heap.size) (oPr (oRd (eInt .i64)) (oPr (oSl 83 (oRd zA0)) (oSl 54 (oPr (oRd (eInt .i64)) (oSl 9 (oRd eStr)))))) x4 []),true,fun A=>.any⟩::⟨_,true,[],some (trR (geB w0.heap.size) (oPt 27 (oPr (oRd (eInt .i64)) (oPr (oSl 83 (oRd zA0)) (oSl 54 (oPr (oRd (eInt .i64)) (oSl 9 (oRd eStr))))))) (0,(([]:List zA3),([]:List zA4))) []),true,fun A=>.any⟩::⟨_,true,[4,3],some (trR (geB w0.heap.size) (oPt 27 (oPr (oRd (eInt .i64)) (oPr (oSl 83 (oRd zA0)) (oSl 54 (oPr (oRd (eInt .i64)) (oSl 9 (oRd eStr))))))) x4 []),false,fun A=>.any⟩::[]) (up (ua (ua (ua (UAll.nil))))) q d ?_ ?_
 exact rp (fun V Q U O D=>(zAA (O.rd 0 _ Z Z) ((O.old 2 Z).trans h2) (Fld.id _) Z isAgg27 sizeOf27))<|rc (zPX _ Z Z Z Z fun V Q U O D=>by have a0:Rep zA2 V U (Q 9) p0:=D.g 0 Z;exact zHe call35 (zEF (q5 Z) O.av a0) (fun k hk=>Nat.le_trans (Nat.le_trans j.size O.ch.size) hk))<|rc (zPX _ Z Z Z Z fun V Q U O D=>by exact zCg zeroValue27 (fun A w=>zD2 (zCy zAm) (zD2 zDN zDN)) (fun k hk=>Nat.le_trans (Nat.le_trans j.size O.ch.size) hk))<|rc (zPY 4 [3] _ Z Z Z Z fun V Q U O D ρ σ X Y J L M hdd=>by have k1:=X 4 (.head _) _ Z;exact zCK Z (zAp k1.2.2).ptr (X 3 (.tail _ (.head _)) _ Z).2.2.1 (L 3 (.tail _ (.head _)) _ _ Z Z Z Z).symm (L 4 (.head _) _ _ Z Z Z Z).symm Y hdd k1.2.1 (X 3 (.tail _ (.head _)) _ Z).2.1 sizeOf27 (fun _ _ _ h=>h))<|rz
 intro done ρ σ A R w y s
 obtain ⟨h1,h2,h4⟩:=k3 s.rg h1 h2 h4
 have z6:=s.inivR 0 Z
 have z7:=s.inivR 1 Z
 obtain ⟨u8,e_u8⟩:∃ u,ρ 5=u:=⟨_,Z⟩
 have z9:=(s.opnR y 5 3 Z Z Z Z Z).symm.trans e_u8
 have h6:=s.ov y 4 2 z9
 have eS_u2:=s.inisR 1 Z
 obtain ⟨S10,eS_u8⟩:∃ S,σ 5=S:=⟨_,Z⟩
 obtain ⟨B,j,d⟩:=s.s B C j q ⟨Z,⟨fun _ h=>h,N⟩⟩
 replace q:=s.left y [(0,ob (.pointer (some ⟨b2_0,0,none⟩)) (.box w0.heap.size 27 zA2 p0)),(1,⟨u2,S3,trR (geB w0.heap.size) (oPt 27 (oPr (oRd (eInt .i64)) (oPr (oSl 83 (oRd zA0)) (oSl 54 (oPr (oRd (eInt .i64)) (oSl 9 (oRd eStr))))))) (0,(([]:List zA3),([]:List zA4))) []⟩),(5,⟨u8,S10,trR (geB w0.heap.size) (oPt 27 (oPr (oRd (eInt .i64)) (oPr (oSl 83 (oRd zA0)) (oSl 54 (oPr (oRd (eInt .i64)) (oSl 9 (oRd eStr))))))) x4 []⟩)] ⟨Z,Z,z6,Z,Z,⟨Z,Z,z7,eS_u2,Z,⟨Z,Z,e_u8,eS_u8,Z,N⟩⟩⟩
 refine zPQ ?_
 refine zPQ ?_
 obtain ⟨x11,q12,c⟩:=zA9 c
 obtain ⟨x13,q14,c⟩:=zA9 c
 obtain ⟨x15,q16,c⟩:=zAO c
 refine HT.u d j (eF (.rep zA2 A p0)::eB x11::eB (!x11)::eB (!x11)::gI (true&&((!x11)==false)) p1::gB (true&&((!x11)==false)) x13::gB (true&&((!x11)==false)) (!x13)::eB x15::[]) ?_ ?_
 exact op (fun Q U W H D=>(zAA ((q.fr W).ok 0 _ Z).1 ((H 2 Z).trans h2) (Fld.id _) Z isAgg27 sizeOf27))<|op (fun Q U W H D=>zAM call18 (zBR (q12 Z) (d.fr W.size) (D.g 0 Z)))<|op (fun Q U W H D=>zBY (D.g 0 Z))<|ov<|gm 3 false h1<|og 3 false (fun G Q U W H D=>zAM call36 (zEh (q14 G) (d.fr W.size) (D.h 0 G Z)))<|og 3 false (fun G Q U W H D=>zBY (D.h 0 G Z))<|op (fun Q U W H D=>zAR (!x11) (D.g 0 Z) (fun hc=>by show _=Value.bool x15;rw [q16,hc];exact Z) (fun hc=>by have a2:Q 17=.bool (!x13):=D 1 _ _ _ Z Z Z Z (zBJ Z (zAf hc));show _=Value.bool x15;rw [q16,hc];exact a2))<|oz
 intro R w m n p d j
 obtain ⟨h1,h2,h4,h6⟩:=k4 n h1 h2 h4 h6
 have h18:=p.r 7 Z
 replace q:=q.fr m
 refine zPJ x15 h18 (fun c17=>?_) (fun c17=>?_)
 have c:=zAe c17 c
 refine zPS [ob (.pointer (some ⟨b2_0,0,none⟩)) (.box w0.heap.size 27 zA2 p0),⟨u2,S3,trR (geB w0.heap.size) (oPt 27 (oPr (oRd (eInt .i64)) (oPr (oSl 83 (oRd zA0)) (oSl 54 (oPr (oRd (eInt .i64)) (oSl 9 (oRd eStr))))))) (0,(([]:List zA3),([]:List zA4))) []⟩,⟨u8,S10,trR (geB w0.heap.size) (oPt 27 (oPr (oRd (eInt .i64)) (oPr (oSl 83 (oRd zA0)) (oSl 54 (oPr (oRd (eInt .i64)) (oSl 9 (oRd eStr))))))) x4 []⟩] (⟨_,true,[2],some (trR (geB w0.heap.size) (oPr (oRd (eInt .i64)) (oPr (oSl 83 (oRd zA0)) (oSl 54 (oPr (oRd (eInt .i64)) (oSl 9 (oRd eStr)))))) x4 []),true,fun A=>.any⟩::⟨_,true,[1,3],some (trR (geB w0.heap.size) (oPt 27 (oPr (oRd (eInt .i64)) (oPr (oSl 83 (oRd zA0)) (oSl 54 (oPr (oRd (eInt .i64)) (oSl 9 (oRd eStr))))))) x4 []),false,fun A=>.any⟩::rB false::[]) (ua (ua (ur (UAll.nil)))) q d ?_ ?_
 exact rc (zPZ 2 _ _ Z Z Z Z Z fun V Q U O D u S X I Y J L M=>by have a0:Q 6=u8:=(O.old 6 Z).trans h6;exact zDa I.2 (a0.trans (J _ Z).1.symm) Y I.1 isAgg27 sizeOf27)<|rc (zPY 1 [3] _ Z Z Z Z fun V Q U O D ρ σ X Y J L M hdd=>by have a0:Q 4=u2:=(O.old 4 Z).trans h4;have k1:=X 1 (.head _) _ Z;have e0:=(J 1 (.head _) _ Z).1;rw [e0] at k1 ⊢;exact zCK Z (zAp k1.2.2).ptr (X 3 (.tail _ (.head _)) _ Z).2.2.1 (L 3 (.tail _ (.head _)) _ _ Z Z Z Z).symm a0 Y hdd k1.2.1 (X 3 (.tail _ (.head _)) _ Z).2.1 sizeOf27 (fun _ _ _ h=>h))<|rp (fun V Q U O D=>zA6 Z)<|rz
 intro done ρ σ A R w y s
 replace h4:=k1 s.rg h4
 have z18:=s.inivR 0 Z
 have z19:=s.inivR 1 Z
 have z20:=s.on y 4 1 Z Z Z Z Z z19
 obtain ⟨S21,eS_u2⟩:∃ S,σ 4=S:=⟨_,Z⟩
 have h5:=s.r y 2 Z
 obtain ⟨B,j,d⟩:=s.s B C j q ⟨Z,⟨fun _ h=>h,⟨fun _ h=>h,N⟩⟩⟩
 replace q:=s.left y [(4,⟨u2,S21,trR (geB w0.heap.size) (oPt 27 (oPr (oRd (eInt .i64)) (oPr (oSl 83 (oRd zA0)) (oSl 54 (oPr (oRd (eInt .i64)) (oSl 9 (oRd eStr))))))) x4 []⟩)] ⟨Z,Z,z20,eS_u2,Z,N⟩
 refine HT.ret ?_
 obtain rfl:=si c
 obtain ⟨v_4,S_4,e_4,q⟩:=q.unbox 0 Z h4 isAgg27 sizeOf27
 obtain ⟨A1,hA1,hG1⟩:=GPost.of q d B (fun k hk=>.inl (q.ge (⟨fun _ h=>h,N⟩) k hk)) (j.ch (fun _=>False))
 exact ⟨.inr Z,[v_4,R 5],⟨e_4,⟨Z,N⟩⟩,v_4,S_4,A1,hG1,⟨_,_,Z,Z,h5⟩⟩
 have c:=zAd c17 c
 refine HT.skip ?_
 obtain ⟨x22,q23,c⟩:=zA9 c
 refine zPR d j (eF (.rep zA2 A p0)::eI p1::eF (.tup2 (.raw (.int .i64 x22.1)) (.raw (.bool x22.2)))::eF (.tup2 (.raw (.int .i64 x22.1)) (.raw (.bool x22.2)))::eI x22.1::eB x22.2::eI x22.1::eB x22.2::[]) ?_ ?_
 exact op (fun Q U W H D=>(zAA ((q.fr W).ok 0 _ Z).1 ((H 2 Z).trans h2) (Fld.id _) Z isAgg27 sizeOf27))<|om h1<|op (fun Q U W H D=>zAM call37 (zEQ (q23 Z) (d.fr W.size) (D.g 0 Z) (D.g 1 Z)))<|op (fun Q U W H D=>zBI (D.g 0 Z))<|op (fun Q U W H D=>zBv (D.g 0 Z))<|op (fun Q U W H D=>zBj (D.g 0 Z))<|oa<|oa<|oz
 intro R w m n p d j
 obtain ⟨h4,h6⟩:=k2 n h4 h6
 have h7:=p.r 6 Z
 have h8:=p.r 7 Z
 replace q:=q.fr m
 replace q:IniOK [⟨u2,S3,trR (geB w0.heap.size) (oPt 27 (oPr (oRd (eInt .i64)) (oPr (oSl 83 (oRd zA0)) (oSl 54 (oPr (oRd (eInt .i64)) (oSl 9 (oRd eStr))))))) (0,(([]:List zA3),([]:List zA4))) []⟩,⟨u8,S10,trR (geB w0.heap.size) (oPt 27 (oPr (oRd (eInt .i64)) (oPr (oSl 83 (oRd zA0)) (oSl 54 (oPr (oRd (eInt .i64)) (oSl 9 (oRd eStr))))))) x4 []⟩] A w:=q.sub [(1,⟨u2,S3,trR (geB w0.heap.size) (oPt 27 (oPr (oRd (eInt .i64)) (oPr (oSl 83 (oRd zA0)) (oSl 54 (oPr (oRd (eInt .i64)) (oSl 9 (oRd eStr))))))) (0,(([]:List zA3),([]:List zA4))) []⟩),(2,⟨u8,S10,trR (geB w0.heap.size) (oPt 27 (oPr (oRd (eInt .i64)) (oPr (oSl 83 (oRd zA0)) (oSl 54 (oPr (oRd (eInt .i64)) (oSl 9 (oRd eStr))))))) x4 []⟩)] ⟨Z,Z,⟨Z,Z,N⟩⟩
 refine zPQ ?_
 refine zPR d j (eB x22.2::eB (!x22.2)::[]) ?_ ?_
 exact om h8<|op (fun Q U W H D=>zBY (D.g 0 Z))<|oz
 intro R w m n p d j
 obtain ⟨h4,h6,h7⟩:=k3 n h4 h6 h7
 have h27:=p.r 1 Z
 replace q:=q.fr m
 refine zPJ (!x22.2) h27 (fun c24=>?_) (fun c24=>?_)
 have c:=zAe c24 c
 refine zPS [⟨u2,S3,trR (geB w0.heap.size) (oPt 27 (oPr (oRd (eInt .i64)) (oPr (oSl 83 (oRd zA0)) (oSl 54 (oPr (oRd (eInt .i64)) (oSl 9 (oRd eStr))))))) (0,(([]:List zA3),([]:List zA4))) []⟩,⟨u8,S10,trR (geB w0.heap.size) (oPt 27 (oPr (oRd (eInt .i64)) (oPr (oSl 83 (oRd zA0)) (oSl 54 (oPr (oRd (eInt .i64)) (oSl 9 (oRd eStr))))))) x4 []⟩] (⟨_,true,[1],some (trR (geB w0.heap.size) (oPr (oRd (eInt .i64)) (oPr (oSl 83 (oRd zA0)) (oSl 54 (oPr (oRd (eInt .i64)) (oSl 9 (oRd eStr)))))) x4 []),true,fun A=>.any⟩::⟨_,true,[0,2],some (trR (geB w0.heap.size) (oPt 27 (oPr (oRd (eInt .i64)) (oPr (oSl 83 (oRd zA0)) (oSl 54 (oPr (oRd (eInt .i64)) (oSl 9 (oRd eStr))))))) x4 []),false,fun A=>.any⟩::rB false::[]) (ua (ua (ur (UAll.nil)))) q d ?_ ?_
 exact rc (zPZ 1 _ _ Z Z Z Z Z fun V Q U O D u S X I Y J L M=>by have a0:Q 6=u8:=(O.old 6 Z).trans h6;exact zDa I.2 (a0.trans (J _ Z).1.symm) Y I.1 isAgg27 sizeOf27)<|rc (zPY 0 [2] _ Z Z Z Z fun V Q U O D ρ σ X Y J L M hdd=>by have a0:Q 4=u2:=(O.old 4 Z).trans h4;have k1:=X 0 (.head _) _ Z;have e0:=(J 0 (.head _) _ Z).1;rw [e0] at k1 ⊢;exact zCK Z (zAp k1.2.2).ptr (X 2 (.tail _ (.head _)) _ Z).2.2.1 (L 2 (.tail _ (.head _)) _ _ Z Z Z Z).symm a0 Y hdd k1.2.1 (X 2 (.tail _ (.head _)) _ Z).2.1 sizeOf27 (fun _ _ _ h=>h))<|rp (fun V Q U O D=>zA6 Z)<|rz
 intro done ρ σ A R w y s
 replace h4:=k1 s.rg h4
 have z25:=s.inivR 0 Z
 have z26:=s.on y 3 1 Z Z Z Z Z z25
 obtain ⟨S27,eS_u2⟩:∃ S,σ 3=S:=⟨_,Z⟩
 have h5:=s.r y 2 Z
 obtain ⟨B,j,d⟩:=s.s B C j q ⟨fun _ h=>h,⟨fun _ h=>h,N⟩⟩
 replace q:=s.left y [(3,⟨u2,S27,trR (geB w0.heap.size) (oPt 27 (oPr (oRd (eInt .i64)) (oPr (oSl 83 (oRd zA0)) (oSl 54 (oPr (oRd (eInt .i64)) (oSl 9 (oRd eStr))))))) x4 []⟩)] ⟨Z,Z,z26,eS_u2,Z,N⟩
 refine HT.ret ?_
 obtain rfl:=si c
 obtain ⟨v_4,S_4,e_4,q⟩:=q.unbox 0 Z h4 isAgg27 sizeOf27
 obtain ⟨A1,hA1,hG1⟩:=GPost.of q d B (fun k hk=>.inl (q.ge (⟨fun _ h=>h,N⟩) k hk)) (j.ch (fun _=>False))
 exact ⟨.inr Z,[v_4,R 5],⟨e_4,⟨Z,N⟩⟩,v_4,S_4,A1,hG1,⟨_,_,Z,Z,h5⟩⟩
 have c:=zAd c24 c
 refine HT.skip<|zPQ ?_
 obtain ⟨h28,p_h28⟩:=(((((zAp (q.own 1 _ Z).2).ptr).snd Z).snd (zCZ _ _ _))).open1 Z
 replace q:IniOK [⟨u2,S3,trR (geB w0.heap.size) (oPt 27 (oPr (oRd (eInt .i64)) (oPr (oSl 83 (oRd zA0)) (oSl 54 (oPr (oRd (eInt .i64)) (oSl 9 (oRd eStr))))))) (0,(([]:List zA3),([]:List zA4))) []⟩,⟨u8,S10,trR (geB w0.heap.size) (oPt 27 (oPr (oRd (eInt .i64)) (oPr (oSl 83 (oRd zA0)) (oSl 54 (oPr (oRd (eInt .i64)) (oSl 9 (oRd eStr))))))) x4 [((padd u8 2),[h28])]⟩] A w:=q.repin 1 Z (trP.pin p_h28)
 obtain ⟨e30,e31,e32,c⟩:=ck3 c
 refine zPV [⟨u2,S3,trR (geB w0.heap.size) (oPt 27 (oPr (oRd (eInt .i64)) (oPr (oSl 83 (oRd zA0)) (oSl 54 (oPr (oRd (eInt .i64)) (oSl 9 (oRd eStr))))))) (0,(([]:List zA3),([]:List zA4))) []⟩,⟨u8,S10,trR (geB w0.heap.size) (oPt 27 (oPr (oRd (eInt .i64)) (oPr (oSl 83 (oRd zA0)) (oSl 54 (oPr (oRd (eInt .i64)) (oSl 9 (oRd eStr))))))) x4 [((padd u8 2),[h28])]⟩] (rR (padd u8 2)::rR h28::rI x22.1::rI x22.1::rI (x22.1+1)::⟨_,true,[1],some (.gen (geB w0.heap.size) (pdP (oSl 54 (oPr (oRd (eInt .i64)) (oSl 9 (oRd eStr)))) (padd u8 2) (fun z A w S=>(trP (oPt 27 (oPr (oRd (eInt .i64)) (oPr (oSl 83 (oRd zA0)) (oSl 54 (oPr (oRd (eInt .i64)) (oSl 9 (oRd eStr))))))) (x4.1,x4.2.1,z) []).P A w S u8) (x4.2.2.eraseIdx x22.1.toNat))),true,fun A=>.any⟩::rR (padd u8 2)::⟨_,true,[7],some (.gen (geB w0.heap.size) (fixP u8 (trP (oPt 27 (oPr (oRd (eInt .i64)) (oPr (oSl 83 (oRd zA0)) (oSl 54 (oPr (oRd (eInt .i64)) (oSl 9 (oRd eStr))))))) (x4.1,x4.2.1,(x4.2.2.eraseIdx x22.1.toNat)) []))),false,fun A=>.any⟩::[]) (ur (ur (ur (ur (ur (ua (ur (ua (UAll.nil))))))))) q d ?_ ?_
 exact rp (fun V Q U O D=>zAx ((zAp (q.own 1 _ Z).2).ptr).ad ((O.old 6 Z).trans h6) zAv sizeOf25 (by decide) Z)<|rp (fun V Q U O D=>zEn ((O.rdo 1 _ Z Z).2.2 _ (.head _)) (D.g 0 Z) isAgg25 sizeOf25)<|rm h7<|rm h7<|rp (fun V Q U O D=>zAi (D.g 0 Z) Z e30)<|rc (zPZ 1 _ _ Z Z Z Z Z fun V Q U O D u S X I Y J L M=>by have a0:Q 30=h28:=D.g 0 Z;have a1:Q 31=.int .i64 x22.1:=D.g 1 Z;have a2:Q 33=.int .i64 (x22.1+1):=D.g 2 Z;have e0:=(J _ Z).1;rw [e0] at I ⊢;exact zM4 ((((zAp I.2).ptr).snd Z).snd (zCZ _ _ _)) (I.2.2 _ (.head _)) a0 a1 a2 Y I.1 (fun k hk=>Nat.le_trans (Nat.le_trans j.size O.ch.size) hk) (fun k hk=>SP.lt _ I.2 hk) Z e31 e32)<|rp (fun V Q U O D=>zAx ((zAp (q.own 1 _ Z).2).ptr).ad ((O.old 6 Z).trans h6) zAv sizeOf25 (by decide) Z)<|rc (zPZ 7 _ _ Z Z Z Z Z fun V Q U O D u S X I Y J L M=>by have a0:Q 35=(padd u8 2):=D.g 0 Z;exact zHL I.2 (L _ _ Z Z Z Z).symm a0 Y I.1 sizeOf25 (fun _ _ _ h=>h))<|rz
 intro done ρ σ A R w y s
 obtain ⟨h4,h6⟩:=k2 s.rg h4 h6
 have z33:=s.inivR 0 Z
 obtain ⟨u34,e_u34⟩:∃ u,ρ 9=u:=⟨_,Z⟩
 have eS_u2:=s.inisR 0 Z
 obtain ⟨S35,eS_u8⟩:∃ S,σ 9=S:=⟨_,Z⟩
 obtain ⟨B,j,d⟩:=s.s B C j q ⟨fun _ h=>h,⟨fun _ h=>h,N⟩⟩
 replace q:=s.left y [(0,⟨u2,S3,trR (geB w0.heap.size) (oPt 27 (oPr (oRd (eInt .i64)) (oPr (oSl 83 (oRd zA0)) (oSl 54 (oPr (oRd (eInt .i64)) (oSl 9 (oRd eStr))))))) (0,(([]:List zA3),([]:List zA4))) []⟩),(9,⟨u34,S35,.gen (geB w0.heap.size) (fixP u8 (trP (oPt 27 (oPr (oRd (eInt .i64)) (oPr (oSl 83 (oRd zA0)) (oSl 54 (oPr (oRd (eInt .i64)) (oSl 9 (oRd eStr))))))) (x4.1,x4.2.1,(x4.2.2.eraseIdx x22.1.toNat)) []))⟩)] ⟨Z,Z,z33,eS_u2,Z,⟨Z,Z,e_u34,eS_u8,Z,N⟩⟩
 replace q:IniOK [⟨u2,S3,trR (geB w0.heap.size) (oPt 27 (oPr (oRd (eInt .i64)) (oPr (oSl 83 (oRd zA0)) (oSl 54 (oPr (oRd (eInt .i64)) (oSl 9 (oRd eStr))))))) (0,(([]:List zA3),([]:List zA4))) []⟩,⟨u8,S35,trR (geB w0.heap.size) (oPt 27 (oPr (oRd (eInt .i64)) (oPr (oSl 83 (oRd zA0)) (oSl 54 (oPr (oRd (eInt .i64)) (oSl 9 (oRd eStr))))))) (x4.1,x4.2.1,(x4.2.2.eraseIdx x22.1.toNat)) []⟩] A w:=q.refix 1 Z
 refine zPS [⟨u2,S3,trR (geB w0.heap.size) (oPt 27 (oPr (oRd (eInt .i64)) (oPr (oSl 83 (oRd zA0)) (oSl 54 (oPr (oRd (eInt .i64)) (oSl 9 (oRd eStr))))))) (0,(([]:List zA3),([]:List zA4))) []⟩,⟨u8,S35,trR (geB w0.heap.size) (oPt 27 (oPr (oRd (eInt .i64)) (oPr (oSl 83 (oRd zA0)) (oSl 54 (oPr (oRd (eInt .i64)) (oSl 9 (oRd eStr))))))) (x4.1,x4.2.1,(x4.2.2.eraseIdx x22.1.toNat)) []⟩] (⟨_,true,[1],some (trR (geB w0.heap.size) (oPr (oRd (eInt .i64)) (oPr (oSl 83 (oRd zA0)) (oSl 54 (oPr (oRd (eInt .i64)) (oSl 9 (oRd eStr)))))) (x4.1,x4.2.1,(x4.2.2.eraseIdx x22.1.toNat)) []),true,fun A=>.any⟩::⟨_,true,[0,2],some (trR (geB w0.heap.size) (oPt 27 (oPr (oRd (eInt .i64)) (oPr (oSl 83 (oRd zA0)) (oSl 54 (oPr (oRd (eInt .i64)) (oSl 9 (oRd eStr))))))) (x4.1,x4.2.1,(x4.2.2.eraseIdx x22.1.toNat)) []),false,fun A=>.any⟩::rB true::[]) (ua (ua (ur (UAll.nil)))) q d ?_ ?_
 exact rc (zPZ 1 _ _ Z Z Z Z Z fun V Q U O D u S X I Y J L M=>by have a0:Q 6=u8:=(O.old 6 Z).trans h6;exact zDa I.2 (a0.trans (J _ Z).1.symm) Y I.1 isAgg27 sizeOf27)<|rc (zPY 0 [2] _ Z Z Z Z fun V Q U O D ρ σ X Y J L M hdd=>by have a0:Q 4=u2:=(O.old 4 Z).trans h4;have k1:=X 0 (.head _) _ Z;have e0:=(J 0 (.head _) _ Z).1;rw [e0] at k1 ⊢;exact zCK Z (zAp k1.2.2).ptr (X 2 (.tail _ (.head _)) _ Z).2.2.1 (L 2 (.tail _ (.head _)) _ _ Z Z Z Z).symm a0 Y hdd k1.2.1 (X 2 (.tail _ (.head _)) _ Z).2.1 sizeOf27 (fun _ _ _ h=>h))<|rp (fun V Q U O D=>zA6 Z)<|rz
 intro done ρ σ A R w y s
 replace h4:=k1 s.rg h4
 have z36:=s.inivR 0 Z
 have z37:=s.on y 3 1 Z Z Z Z Z z36
 obtain ⟨S38,eS_u2⟩:∃ S,σ 3=S:=⟨_,Z⟩
 have h5:=s.r y 2 Z
 obtain ⟨B,j,d⟩:=s.s B C j q ⟨fun _ h=>h,⟨fun _ h=>h,N⟩⟩
 replace q:=s.left y [(3,⟨u2,S38,trR (geB w0.heap.size) (oPt 27 (oPr (oRd (eInt .i64)) (oPr (oSl 83 (oRd zA0)) (oSl 54 (oPr (oRd (eInt .i64)) (oSl 9 (oRd eStr))))))) (x4.1,x4.2.1,(x4.2.2.eraseIdx x22.1.toNat)) []⟩)] ⟨Z,Z,z37,eS_u2,Z,N⟩
 refine HT.ret ?_
 obtain rfl:=si c
 obtain ⟨v_4,S_4,e_4,q⟩:=q.unbox 0 Z h4 isAgg27 sizeOf27
 obtain ⟨A1,hA1,hG1⟩:=GPost.of q d B (fun k hk=>.inl (q.ge (⟨fun _ h=>h,N⟩) k hk)) (j.ch (fun _=>False))
 exact ⟨.inr Z,[v_4,R 5],⟨e_4,⟨Z,N⟩⟩,v_4,S_4,A1,hG1,⟨_,_,Z,Z,h5⟩⟩
theorem zGs {fu : Nat} {A0 : Av} {p0 : zA7} {p1 : Int} {r : zA7 × Bool} (c : zD7 fu p0 p1 = some r) {w : World} {v0 : Value} {v1 : Value} (d : AvOK A0 w) (h0 : Rep zA2 A0 w v0 p0) (h1 : v1=.int .i64 p1) :
 Calls prog 17 #[v0,v1] w fun e w'=>∃ v,e=.returned v/\((∃ a b,v=.tuple #[a,b]/\Rep zA2 A0 w' a r.1/\b=.bool r.2)/\Fr w w'):=by
 refine Calls.mono (zH0 c d h0 h1) ?_
 rintro e w' ⟨v,he,u0,S0,A1,hG,a0,a1,hv,e0,e1⟩
 exact ⟨v,he,⟨a0,a1,hv,(zNB (hG.ini.own 0 _ Z).2 hG.low (fun k o hk ha=>Nat.not_lt.2 ((hG.ini.own 0 _ Z).1 k hk) (d k o ha))).eq e0,e1⟩,hG.ch.no⟩
def zBd (fu : Nat) (x9 : List Int) (x12 : List Int) : Nat -> Int -> Option (Ex Bool Unit)
 | 0,_=>none
 | k+1,y29=>
 bif (decide (y29<(x12.length:Int))) then (
 ck (inR y29 x12.length) <|
 cl true (zF6 fu x9 (gtD x12 y29)) fun x32=>
 bif (!x32) then (
 some (Ex.ret false)
 ) else (
 ck (i64B (y29+1)) <|
 zBd fu x9 x12 k (y29+1)
 )
 ) else (
 some (Ex.go ())
 )
def zBg (fu : Nat) (x36 : List zAK) (x39 : List zAK) : Nat -> Int -> Option (Ex Bool Unit)
 | 0,_=>none
 | k+1,y46=>
 bif (decide (y46<(x36.length:Int))) then (
 ck (inR y46 x36.length) <|
 ck (inR y46 x39.length) <|
 ck (!(true&&((!((gtD x36 y46)==(gtD x39 y46)))==false)) || inR y46 x36.length) <|
 ck (!(true&&((!((gtD x36 y46)==(gtD x39 y46)))==false)) || inR y46 x36.length) <|
 bd ((!((gtD x36 y46)==(gtD x39 y46))) || (decide (((gtD x36 y46).2)<=((gtD x36 y46).1)))) fun x52=>
 bif x52 then (
 some (Ex.ret false)
 ) else (
 ck (i64B (y46+1)) <|
 zBg fu x36 x39 k (y46+1)
 )
 ) else (
 some (Ex.go ())
 )
def zE6 (fu:Nat) (p0:List Int):Option Bool:=
 cl true (zGk fu p0) fun x1=>
 bif x1 then (
 some true
 ) else (
 cl true (zC4 fu p0) fun x4=>
 cl true (zCD fu x4.1 x4.2) fun x9=>
 cl true (zBi fu x4.1 x4.2) fun x12=>
 cl true (zCF fu x4.1 x4.2) fun x15=>
 cl true (zCw fu x9 x15) fun x17=>
 cl (true&&((!x17)==false)) (zCQ fu x4.1 x4.2) fun x19=>
 cl (true&&((!x17)==false)) (zCw fu x12 x19) fun x21=>
 bd ((!x17) || (!x21)) fun x23=>
 bif x23 then (
 some false
 ) else (
 cl true (zBd fu x9 x12 fu 0) fun rl26=>
 exM rl26 (fun r=>some r) fun s28=>
 cl true (zDQ fu x4.1) fun x36=>
 cl true (zDR fu x4.1) fun x39=>
 bif ((x36.length:Int) != (x39.length:Int)) then (
 some false
 ) else (
 cl true (zBg fu x36 x39 fu 0) fun rl43=>
 exM rl43 (fun r=>some r) fun s45=>
 cl true (zCh fu p0) fun x56=>
 cl true (zD6 fu x56.1 x56.2.1 x56.2.2) fun x61=>
 cl true (zCd fu x56.1 x56.2.1 x56.2.2) fun x66=>
 bif (x61.2 != x66.2) then (
 some false
 ) else (
 bif (!x61.2) then (
 some true
 ) else (
 cl true (zD7 fu x61.1 x56.2.1) fun x74=>
 cl (true&&(x74.2==true)) (zAh fu x61.1) fun x80=>
 bd (x74.2&&x80) fun x82=>
 bd (x82&&((x74.1.2.2.length:Int)==(x56.1.2.2.length:Int))) fun x84=>
 cl (true&&(x84==true)) (zBi fu x61.1 x56.2.2) fun x86=>
 cl (true&&(x84==true)) (zF6 fu x86 x56.2.1) fun x88=>
 bd (x84&&x88) fun x90=>
 cl (true&&(x90==true)) (zBi fu x74.1 x56.2.2) fun x92=>
 cl (true&&(x90==true)) (zCQ fu x56.1 x56.2.2) fun x94=>
 cl (true&&(x90==true)) (zCw fu x92 x94) fun x96=>
 bd (x90&&x96) fun x98=>
 some x98
 )
 )
 )
 )
 )
theorem zHC {fu : Nat} {A0 : Av} {p0 : List Int} {r : Bool} (c : zE6 fu p0 = some r) {w : World} {v0 : Value} (d : AvOK A0 w) (h0 : Rep (eSl (eInt .u8)) A0 w v0 p0) :
 Calls prog 3 #[v0] w fun e w'=>∃ v,e=.returned v/\(v=.bool r/\Fr w w'):=by
 unfold zE6 at c
 obtain ⟨w0,hw0,j,C⟩:=pw d
 have hA00:AvOK A0 w0:=C
 rw [fw hw0]
 obtain ⟨A,hAe,B,d,q⟩:=pa d
 refine zAB [.tmp 2] func3 ntmps3 (by decide) Z Z (nb Z) ?_
 intro R hR
 have f_v0:Rep (eSl (eInt .u8)) A w v0 p0:=hAe ▸ h0
 replace h0:R 0=v0:=hR 0 _ Z
 refine zPR d j (eB false::[]) ?_ ?_
 exact op (fun Q U W H D=>zA6 Z)<|oz
 intro R w m n p d j
 replace h0:=k1 n h0
 replace f_v0:=f_v0.fr m
 replace q:=q.fr m
 refine zPQ ?_
 obtain ⟨x1,q2,c⟩:=zA9 c
 refine zPR d j (eR v0::eB x1::[]) ?_ ?_
 exact om h0<|op (fun Q U W H D=>zAM call4 (zJg (q2 Z) (d.fr W.size) ((f_v0.fr W).eq (D.g 0 Z))))<|oz
 intro R w m n p d j
 replace h0:=k1 n h0
 have h21:=p.r 1 Z
 replace f_v0:=f_v0.fr m
 replace q:=q.fr m
 refine zPJ x1 h21 (fun c3=>?_) (fun c3=>?_)
 have c:=zAe c3 c
 refine zPR d j (eB true::[]) ?_ ?_
 exact op (fun Q U W H D=>zA6 Z)<|oz
 intro R w m n p d j
 have h2:=p.r 0 Z
 replace q:=q.fr m
 refine HT.ret ?_
 obtain rfl:=si c
 exact ⟨.inr Z,[R 2],⟨Z,N⟩,h2,j⟩
 have c:=zAd c3 c
 refine HT.skip ?_
 obtain ⟨x4,q5,c⟩:=zA9 c
 refine zPS [] (rR v0::(rF fun A=>.tup2 (.rep zA2 A x4.1) (.rep (eSl eStr) A x4.2))::(rF fun A=>.tup2 (.rep zA2 A x4.1) (.rep (eSl eStr) A x4.2))::(rF fun A=>.rep zA2 A x4.1)::(rF fun A=>.rep (eSl eStr) A x4.2)::⟨_,true,[],some (.box w0.heap.size 27 zA2 (0,(([]:List zA3),([]:List zA4)))),true,fun A=>.any⟩::⟨_,true,[5],some (.box w0.heap.size 27 zA2 x4.1),false,fun A=>.any⟩::(rF fun A=>.rep (eSl eStr) A x4.2)::[]) (ur (UAll.cons (zE8 zE9 zE9) (UAll.cons (zE8 zE9 zE9) (up (up (ua (ua (up (UAll.nil))))))))) q d ?_ ?_
 exact rm h0<|rp (fun V Q U O D=>zAM call5 (zFJ (q5 Z) O.av ((f_v0.stp O.stp).eq (D.g 0 Z))))<|rp (fun V Q U O D=>zBI (D.g 0 Z))<|rp (fun V Q U O D=>zBv (D.g 0 Z))<|rp (fun V Q U O D=>zBj (D.g 0 Z))<|rc (OblR.made _ Z Z Z Z fun V Q U O D=>by exact zCI zeroValue27 (fun A w=>zCo zAm (zCo zBD zBD)) (Nat.le_trans j.size O.ch.size))<|rc (OblR.took 5 _ _ Z Z Z Z Z fun V Q U O D u X Y J L M=>by have a1:Rep zA2 V U (Q 25) x4.1:=D.g 1 Z;obtain ⟨b,hb,hB',hbx⟩:=X;have hop':=L _ _ Z Z Z Z;exact zBX a1 (hop'.symm.trans hb) hb ⟨b,hb,hB',hbx⟩ Y (FldS.id _) sizeOf27 Z)<|rp (fun V Q U O D=>zA6 (D.g 0 Z))<|rz
 intro done ρ σ A R w y s
 replace h0:=k1 s.rg h0
 obtain ⟨b3_5,e_b3_5⟩:=s.boxv y 6 Z Z
 have z7:=(s.opnR y 6 6 Z Z Z Z Z).symm.trans e_b3_5
 have h3:=s.ov y 5 5 z7
 obtain ⟨u8,h4,f_u8⟩:∃ u,R 4=u/\Rep (eSl eStr) A w u x4.2:=⟨_,Z,s.fact y (i:=7) Z Z Z⟩
 replace f_v0:=f_v0.stp s.stp
 obtain ⟨B,j,d⟩:=s.s B C j q N
 replace q:=s.left y [(6,ob (.pointer (some ⟨b3_5,0,none⟩)) (.box w0.heap.size 27 zA2 x4.1))] ⟨Z,Z,e_b3_5,Z,Z,N⟩
 obtain ⟨x9,q10,c⟩:=zA9 c
 refine zPR d j (eF (.rep zA2 A x4.1)::eR u8::eF (.rep (eSl (eInt .i64)) A x9)::eF (.rep (eSl (eInt .i64)) A x9)::[]) ?_ ?_
 exact op (fun Q U W H D=>(zAA ((q.fr W).ok 0 _ Z).1 ((H 3 Z).trans h3) (Fld.id _) Z isAgg27 sizeOf27))<|om h4<|op (fun Q U W H D=>zAM call6 (zFS (q10 Z) (d.fr W.size) (D.g 0 Z) ((f_u8.fr W).eq (D.g 1 Z))))<|op (fun Q U W H D=>zA6 (D.g 0 Z))<|oz
 intro R w m n p d j
 obtain ⟨h0,h3,h4⟩:=k3 n h0 h3 h4
 obtain ⟨u11,h5,f_u11⟩:∃ u,R 5=u/\Rep (eSl (eInt .i64)) A w u x9:=⟨_,Z,p 3 _ _ Z Z Z⟩
 replace f_u8:=f_u8.fr m
 replace f_v0:=f_v0.fr m
 replace q:=q.fr m
 obtain ⟨x12,q13,c⟩:=zA9 c
 refine zPR d j (eF (.rep zA2 A x4.1)::eR u8::eF (.rep (eSl (eInt .i64)) A x12)::eF (.rep (eSl (eInt .i64)) A x12)::[]) ?_ ?_
 exact op (fun Q U W H D=>(zAA ((q.fr W).ok 0 _ Z).1 ((H 3 Z).trans h3) (Fld.id _) Z isAgg27 sizeOf27))<|om h4<|op (fun Q U W H D=>zAM call7 (zDi (q13 Z) (d.fr W.size) (D.g 0 Z) ((f_u8.fr W).eq (D.g 1 Z))))<|op (fun Q U W H D=>zA6 (D.g 0 Z))<|oz
 intro R w m n p d j
 obtain ⟨h0,h3,h4,h5⟩:=k4 n h0 h3 h4 h5
 obtain ⟨u14,h6,f_u14⟩:∃ u,R 6=u/\Rep (eSl (eInt .i64)) A w u x12:=⟨_,Z,p 3 _ _ Z Z Z⟩
 replace f_u11:=f_u11.fr m
 replace f_u8:=f_u8.fr m
 replace f_v0:=f_v0.fr m
 replace q:=q.fr m
 refine zPQ ?_
 refine zPQ ?_
 obtain ⟨x15,q16,c⟩:=zA9 c
 obtain ⟨x17,q18,c⟩:=zA9 c
 obtain ⟨x19,q20,c⟩:=zA9 c
 obtain ⟨x21,q22,c⟩:=zA9 c
 obtain ⟨x23,q24,c⟩:=zAO c
 refine HT.u d j (eR u11::eF (.rep zA2 A x4.1)::eR u8::eF (.rep (eSl (eInt .i64)) A x15)::eB x17::eB (!x17)::eB (!x17)::gR (true&&((!x17)==false)) u14::gF (true&&((!x17)==false)) (.rep zA2 A x4.1)::gR (true&&((!x17)==false)) u8::gF (true&&((!x17)==false)) (.rep (eSl (eInt .i64)) A x19)::gB (true&&((!x17)==false)) x21::gB (true&&((!x17)==false)) (!x21)::eB x23::[]) ?_ ?_
 exact om h5<|op (fun Q U W H D=>(zAA ((q.fr W).ok 0 _ Z).1 ((H 3 Z).trans h3) (Fld.id _) Z isAgg27 sizeOf27))<|om h4<|op (fun Q U W H D=>zAM call9 (zFZ (q16 Z) (d.fr W.size) (D.g 0 Z) ((f_u8.fr W).eq (D.g 1 Z))))<|op (fun Q U W H D=>zAM call8 (zER (q18 Z) (d.fr W.size) ((f_u11.fr W).eq (D.g 0 Z)) (D.g 1 Z)))<|op (fun Q U W H D=>zBY (D.g 0 Z))<|ov<|gm 6 false h6<|og 6 false (fun G Q U W H D=>(zAA ((q.fr W).ok 0 _ Z).1 ((H 3 Z).trans h3) (Fld.id _) Z isAgg27 sizeOf27))<|gm 6 false h4<|og 6 false (fun G Q U W H D=>zAM call10 (zEu (q20 G) (d.fr W.size) (D.h 0 G Z) ((f_u8.fr W).eq (D.h 1 G Z))))<|og 6 false (fun G Q U W H D=>zAM call8 (zER (q22 G) (d.fr W.size) ((f_u14.fr W).eq (D.h 0 G Z)) (D.h 1 G Z)))<|og 6 false (fun G Q U W H D=>zBY (D.h 0 G Z))<|op (fun Q U W H D=>zAR (!x17) (D.g 0 Z) (fun hc=>by show _=Value.bool x23;rw [q24,hc];exact Z) (fun hc=>by have a2:Q 45=.bool (!x21):=D 1 _ _ _ Z Z Z Z (zBJ Z (zAf hc));show _=Value.bool x23;rw [q24,hc];exact a2))<|oz
 intro R w m n p d j
 obtain ⟨h0,h3,h5,h6⟩:=k4 n h0 h3 h5 h6
 have h46:=p.r 13 Z
 replace f_u11:=f_u11.fr m
 replace f_u14:=f_u14.fr m
 replace f_v0:=f_v0.fr m
 replace q:=q.fr m
 refine zPJ x23 h46 (fun c25=>?_) (fun c25=>?_)
 have c:=zAe c25 c
 refine zPR d j (eB false::[]) ?_ ?_
 exact op (fun Q U W H D=>zA6 Z)<|oz
 intro R w m n p d j
 have h2:=p.r 0 Z
 replace q:=q.fr m
 replace q:IniOK [] A w:=q.sub [] N
 refine HT.ret ?_
 obtain rfl:=si c
 exact ⟨.inr Z,[R 2],⟨Z,N⟩,h2,j⟩
 have c:=zAd c25 c
 refine HT.skip<|zPQ ?_
 refine zPR d j (eI 0::[]) ?_ ?_
 exact op (fun Q U W H D=>zA6 Z)<|oz
 intro R w m n p d j
 obtain ⟨h0,h3,h5,h6⟩:=k4 n h0 h3 h5 h6
 have h7:=p.r 0 Z
 replace f_u11:=f_u11.fr m
 replace f_u14:=f_u14.fr m
 replace f_v0:=f_v0.fr m
 replace q:=q.fr m
 obtain ⟨rl26,q27,c⟩:=zA9 c
 replace q27:=q27 Z
 refine zPL (fun R w=>∃ A:Av,∃ (s28:Unit),rl26=Ex.go s28/\AvOK A w/\Fr w0 w/\(∀ b o,A0 b o->A b o)/\IniOK [ob (.pointer (some ⟨b3_5,0,none⟩)) (.box w0.heap.size 27 zA2 x4.1)] A w/\R 0=v0/\R 3=(.pointer (some ⟨b3_5,0,none⟩))/\Rep (eSl (eInt .u8)) A w v0 p0) ?_ ?_
 refine HT.block<|zPP (fun k R w=>∃ A:Av,∃ (y29:Int),zBd fu x9 x12 k y29=some rl26/\AvOK A w/\Fr w0 w/\(∀ b o,A0 b o->A b o)/\IniOK [ob (.pointer (some ⟨b3_5,0,none⟩)) (.box w0.heap.size 27 zA2 x4.1)] A w/\R 0=v0/\R 3=(.pointer (some ⟨b3_5,0,none⟩))/\R 5=u11/\R 6=u14/\R 7=.int .i64 y29/\Rep (eSl (eInt .i64)) A w u11 x9/\Rep (eSl (eInt .i64)) A w u14 x12/\Rep (eSl (eInt .u8)) A w v0 p0) fu ⟨_,_,q27,d,j,B,q,h0,h3,h5,h6,h7,f_u11,f_u14,f_v0⟩ ?_
 have hr0:=c;clear c q27
 rintro k R w ⟨A,y29,c,d,j,B,q,h0,h3,h5,h6,h7,f_u11,f_u14,f_v0⟩
 rcases k with _ | k
 cases (show none=some _ from c)
 rw [zBd] at c
 refine zPQ ?_
 refine zPR d j (eI y29::eR u14::eI (x12.length:Int)::eB (decide (y29<(x12.length:Int)))::[]) ?_ ?_
 exact om h7<|om h6<|op (fun Q U W H D=>zAN (aT:=#[]) ((f_u14.fr W).eq (D.g 0 Z)) underlying31)<|op (fun Q U W H D=>zB8 (D.g 0 Z) (D.g 1 Z))<|oz
 intro R w m n p d j
 obtain ⟨h0,h3,h5,h6,h7⟩:=k5 n h0 h3 h5 h6 h7
 have h50:=p.r 3 Z
 replace f_u11:=f_u11.fr m
 replace f_u14:=f_u14.fr m
 replace f_v0:=f_v0.fr m
 replace q:=q.fr m
 refine zPJ (decide (y29<(x12.length:Int))) h50 (fun c30=>?_) (fun c30=>?_)
 have c:=zAe c30 c
 refine HT.skip<|zPQ ?_
 refine HT.block ?_
 obtain ⟨e31,c⟩:=zAG c
 obtain ⟨x32,q33,c⟩:=zA9 c
 refine zPR d j (eR u11::eR u14::eI y29::eF (.qtr (eInt .i64) A (gtD x12 y29))::eI (gtD x12 y29)::eB x32::eB (!x32)::[]) ?_ ?_
 exact om h5<|om h6<|om h7<|op (fun Q U W H D=>zAC ((f_u14.fr W).eq (D.g 0 Z)) (D.g 1 Z) underlying31 sizeOf3 e31)<|op (fun Q U W H D=>OpF.int (zAT (QRep.ptr (D.g 0 Z)) isAgg3 sizeOf3))<|op (fun Q U W H D=>zAM call11 (zHP (q33 Z) (d.fr W.size) ((f_u11.fr W).eq (D.g 0 Z)) (D.g 1 Z)))<|op (fun Q U W H D=>zBY (D.g 0 Z))<|oz
 intro R w m n p d j
 obtain ⟨h0,h3,h5,h6,h7⟩:=k5 n h0 h3 h5 h6 h7
 have h59:=p.r 6 Z
 replace f_u11:=f_u11.fr m
 replace f_u14:=f_u14.fr m
 replace f_v0:=f_v0.fr m
 replace q:=q.fr m
 refine zPJ (!x32) h59 (fun c34=>?_) (fun c34=>?_)
 have c:=zAe c34 c
 refine zPR d j (eB false::[]) ?_ ?_
 exact op (fun Q U W H D=>zA6 Z)<|oz
 intro R w m n p d j
 have h2:=p.r 0 Z
 replace q:=q.fr m
 replace q:IniOK [] A w:=q.sub [] N
 refine HT.ret ?_
 obtain rfl:=si c
 have c:=hr0
 replace c:some _=some _:=c
 obtain rfl:=si c
 exact ⟨.inr Z,[R 2],⟨Z,N⟩,h2,j⟩
 have c:=zAd c34 c
 refine HT.skip ?_
 obtain ⟨e35,c⟩:=zAG c
 refine HT.u d j (eI y29::eI (y29+1)::eI (y29+1)::[]) ?_ ?_
 exact om h7<|op (fun Q U W H D=>zAi (D.g 0 Z) Z e35)<|oa<|oz
 intro R w m n p d j
 obtain ⟨h0,h3,h5,h6⟩:=k4 n h0 h3 h5 h6
 have h7:=p.r 2 Z
 replace f_u11:=f_u11.fr m
 replace f_u14:=f_u14.fr m
 replace f_v0:=f_v0.fr m
 replace q:=q.fr m
 exact ei k (And.intro (Nat.lt_succ_self k) ⟨_,_,c,d,j,B,q,h0,h3,h5,h6,h7,f_u11,f_u14,f_v0⟩)
 have c:=zAd c30 c
 refine zPO ?_
 obtain rfl:=si c
 exact ei _ ⟨_,Z,d,j,B,q,h0,h3,f_v0⟩
 rintro R w ⟨A,s28,rfl,d,j,B,q,h0,h3,f_v0⟩
 have c:=zEK c
 obtain ⟨x36,q37,c⟩:=zA9 c
 refine zPR d j (eF (.rep zA2 A x4.1)::eF (.rep (eSl zAF) A x36)::eF (.rep (eSl zAF) A x36)::[]) ?_ ?_
 exact op (fun Q U W H D=>(zAA ((q.fr W).ok 0 _ Z).1 ((H 3 Z).trans h3) (Fld.id _) Z isAgg27 sizeOf27))<|op (fun Q U W H D=>zAM call12 (zHA (q37 Z) (d.fr W.size) (D.g 0 Z)))<|op (fun Q U W H D=>zA6 (D.g 0 Z))<|oz
 intro R w m n p d j
 obtain ⟨h0,h3⟩:=k2 n h0 h3
 obtain ⟨u38,h8,f_u38⟩:∃ u,R 8=u/\Rep (eSl zAF) A w u x36:=⟨_,Z,p 2 _ _ Z Z Z⟩
 replace f_v0:=f_v0.fr m
 replace q:=q.fr m
 obtain ⟨x39,q40,c⟩:=zA9 c
 refine zPR d j (eF (.rep zA2 A x4.1)::eF (.rep (eSl zAF) A x39)::eF (.rep (eSl zAF) A x39)::[]) ?_ ?_
 exact op (fun Q U W H D=>(zAA ((q.fr W).ok 0 _ Z).1 ((H 3 Z).trans h3) (Fld.id _) Z isAgg27 sizeOf27))<|op (fun Q U W H D=>zAM call13 (zH7 (q40 Z) (d.fr W.size) (D.g 0 Z)))<|op (fun Q U W H D=>zA6 (D.g 0 Z))<|oz
 intro R w m n p d j
 obtain ⟨h0,h8⟩:=k2 n h0 h8
 obtain ⟨u41,h9,f_u41⟩:∃ u,R 9=u/\Rep (eSl zAF) A w u x39:=⟨_,Z,p 2 _ _ Z Z Z⟩
 replace f_u38:=f_u38.fr m
 replace f_v0:=f_v0.fr m
 replace q:=q.fr m
 replace q:IniOK [] A w:=q.sub [] N
 refine zPQ ?_
 refine zPR d j (eR u38::eI (x36.length:Int)::eR u41::eI (x39.length:Int)::eB ((x36.length:Int) != (x39.length:Int))::[]) ?_ ?_
 exact om h8<|op (fun Q U W H D=>zAN (aT:=#[]) ((f_u38.fr W).eq (D.g 0 Z)) underlying35)<|om h9<|op (fun Q U W H D=>zAN (aT:=#[]) ((f_u41.fr W).eq (D.g 0 Z)) underlying35)<|op (fun Q U W H D=>zKQ (D.g 0 Z) (D.g 1 Z))<|oz
 intro R w m n p d j
 obtain ⟨h0,h8,h9⟩:=k3 n h0 h8 h9
 have h68:=p.r 4 Z
 replace f_u38:=f_u38.fr m
 replace f_u41:=f_u41.fr m
 replace f_v0:=f_v0.fr m
 replace q:=q.fr m
 refine zPJ ((x36.length:Int) != (x39.length:Int)) h68 (fun c42=>?_) (fun c42=>?_)
 have c:=zAe c42 c
 refine zPR d j (eB false::[]) ?_ ?_
 exact op (fun Q U W H D=>zA6 Z)<|oz
 intro R w m n p d j
 have h2:=p.r 0 Z
 replace q:=q.fr m
 refine HT.ret ?_
 obtain rfl:=si c
 exact ⟨.inr Z,[R 2],⟨Z,N⟩,h2,j⟩
 have c:=zAd c42 c
 refine HT.skip<|zPQ ?_
 refine zPR d j (eI 0::[]) ?_ ?_
 exact op (fun Q U W H D=>zA6 Z)<|oz
 intro R w m n p d j
 obtain ⟨h0,h8,h9⟩:=k3 n h0 h8 h9
 have h10:=p.r 0 Z
 replace f_u38:=f_u38.fr m
 replace f_u41:=f_u41.fr m
 replace f_v0:=f_v0.fr m
 replace q:=q.fr m
 obtain ⟨rl43,q44,c⟩:=zA9 c
 replace q44:=q44 Z
 refine zPL (fun R w=>∃ A:Av,∃ (s45:Unit),rl43=Ex.go s45/\AvOK A w/\Fr w0 w/\(∀ b o,A0 b o->A b o)/\IniOK [] A w/\R 0=v0/\Rep (eSl (eInt .u8)) A w v0 p0) ?_ ?_
 refine HT.block<|zPP (fun k R w=>∃ A:Av,∃ (y46:Int),zBg fu x36 x39 k y46=some rl43/\AvOK A w/\Fr w0 w/\(∀ b o,A0 b o->A b o)/\IniOK [] A w/\R 0=v0/\R 8=u38/\R 9=u41/\R 10=.int .i64 y46/\Rep (eSl zAF) A w u38 x36/\Rep (eSl zAF) A w u41 x39/\Rep (eSl (eInt .u8)) A w v0 p0) fu ⟨_,_,q44,d,j,B,q,h0,h8,h9,h10,f_u38,f_u41,f_v0⟩ ?_
 have hr0:=c;clear c q44
 rintro k R w ⟨A,y46,c,d,j,B,q,h0,h8,h9,h10,f_u38,f_u41,f_v0⟩
 rcases k with _ | k
 cases (show none=some _ from c)
 rw [zBg] at c
 refine zPQ ?_
 refine zPR d j (eI y46::eR u38::eI (x36.length:Int)::eB (decide (y46<(x36.length:Int)))::[]) ?_ ?_
 exact om h10<|om h8<|op (fun Q U W H D=>zAN (aT:=#[]) ((f_u38.fr W).eq (D.g 0 Z)) underlying35)<|op (fun Q U W H D=>zB8 (D.g 0 Z) (D.g 1 Z))<|oz
 intro R w m n p d j
 obtain ⟨h0,h8,h9,h10⟩:=k4 n h0 h8 h9 h10
 have h72:=p.r 3 Z
 replace f_u38:=f_u38.fr m
 replace f_u41:=f_u41.fr m
 replace f_v0:=f_v0.fr m
 replace q:=q.fr m
 refine zPJ (decide (y46<(x36.length:Int))) h72 (fun c47=>?_) (fun c47=>?_)
 have c:=zAe c47 c
 refine HT.skip<|zPQ ?_
 refine HT.block<|zPQ ?_
 obtain ⟨e48,e49,e50,e51,c⟩:=ck4 c
 obtain ⟨x52,q53,c⟩:=zAO c
 refine zPM (by kernel_rfl) (l:=eR u38::eI y46::eF (.qtr zAF A (gtD x36 y46))::eF (.rep zAF A (gtD x36 y46))::eR u41::eI y46::eF (.qtr zAF A (gtD x39 y46))::eF (.rep zAF A (gtD x39 y46))::eB (!((gtD x36 y46)==(gtD x39 y46)))::eB (!((gtD x36 y46)==(gtD x39 y46)))::gR (true&&((!((gtD x36 y46)==(gtD x39 y46)))==false)) u38::gI (true&&((!((gtD x36 y46)==(gtD x39 y46)))==false)) y46::gF (true&&((!((gtD x36 y46)==(gtD x39 y46)))==false)) (.qtr zAF A (gtD x36 y46))::gF (true&&((!((gtD x36 y46)==(gtD x39 y46)))==false)) (.qtr (eInt .i64) A ((gtD x36 y46).1))::gI (true&&((!((gtD x36 y46)==(gtD x39 y46)))==false)) ((gtD x36 y46).1)::gR (true&&((!((gtD x36 y46)==(gtD x39 y46)))==false)) u38::gI (true&&((!((gtD x36 y46)==(gtD x39 y46)))==false)) y46::gF (true&&((!((gtD x36 y46)==(gtD x39 y46)))==false)) (.qtr zAF A (gtD x36 y46))::gF (true&&((!((gtD x36 y46)==(gtD x39 y46)))==false)) (.qtr (eInt .i64) A ((gtD x36 y46).2))::gI (true&&((!((gtD x36 y46)==(gtD x39 y46)))==false)) ((gtD x36 y46).2)::gB (true&&((!((gtD x36 y46)==(gtD x39 y46)))==false)) (decide (((gtD x36 y46).2)<=((gtD x36 y46).1)))::eB x52::[]) (tl:=[]) (by kernel_rfl) (by kernel_rfl) (by kernel_rfl) (by kernel_rfl) ?_ ?_
 exact om h8<|om h10<|op (fun Q U W H D=>zAC ((f_u38.fr W).eq (D.g 0 Z)) (D.g 1 Z) underlying35 sizeOf38 e48)<|op (fun Q U W H D=>(zAT (QRep.ptr (D.g 0 Z)) isAgg38 sizeOf38))<|om h9<|om h10<|op (fun Q U W H D=>zAC ((f_u41.fr W).eq (D.g 0 Z)) (D.g 1 Z) underlying35 sizeOf38 e49)<|op (fun Q U W H D=>(zAT (QRep.ptr (D.g 0 Z)) isAgg38 sizeOf38))<|op (fun Q U W H D=>zJw eqGuardType38 (zGN (D.g 0 Z)) (zGN (D.g 1 Z)) (zOr (gtD x36 y46) (gtD x39 y46) _))<|ov<|gm 9 false h8<|gm 9 false h10<|og 9 false (fun G Q U W H D=>zAC ((f_u38.fr W).eq (D.h 0 G Z)) (D.h 1 G Z) underlying35 sizeOf38 (gd e50 G))<|og 9 false (fun G Q U W H D=>zAX (qt (D.h 0 G Z)) zOM sizeOf3 (by decide) zIC Z)<|og 9 false (fun G Q U W H D=>OpF.int (zAT (QRep.ptr (D.h 0 G Z)) isAgg3 sizeOf3))<|gm 9 false h8<|gm 9 false h10<|og 9 false (fun G Q U W H D=>zAC ((f_u38.fr W).eq (D.h 0 G Z)) (D.h 1 G Z) underlying35 sizeOf38 (gd e51 G))<|og 9 false (fun G Q U W H D=>zAX (qt (D.h 0 G Z)) zOH sizeOf3 (by decide) zIA Z)<|og 9 false (fun G Q U W H D=>OpF.int (zAT (QRep.ptr (D.h 0 G Z)) isAgg3 sizeOf3))<|og 9 false (fun G Q U W H D=>zFI (D.h 0 G Z) (D.h 1 G Z))<|op (fun Q U W H D=>zAR (!((gtD x36 y46)==(gtD x39 y46))) (D.g 0 Z) (fun hc=>by show _=Value.bool x52;rw [q53,hc];exact Z) (fun hc=>by have a2:Q 95=.bool (decide (((gtD x36 y46).2)<=((gtD x36 y46).1))):=D 1 _ _ _ Z Z Z Z (zBJ Z (zAf hc));show _=Value.bool x52;rw [q53,hc];exact a2))<|oz
 intro R w m n p
 obtain ⟨h0,h8,h9,h10⟩:=k4 n h0 h8 h9 h10
 have h96:=p.r 21 Z
 replace f_u38:=f_u38.fr m
 replace f_u41:=f_u41.fr m
 replace f_v0:=f_v0.fr m
 replace q:=q.fr m
 replace d:=d.fr m.size
 replace j:=j.trans m
 refine zPJ x52 h96 (fun c54=>?_) (fun c54=>?_)
 have c:=zAe c54 c
 refine zPR d j (eB false::[]) ?_ ?_
 exact op (fun Q U W H D=>zA6 Z)<|oz
 intro R w m n p d j
 have h2:=p.r 0 Z
 replace q:=q.fr m
 refine HT.ret ?_
 obtain rfl:=si c
 have c:=hr0
 replace c:some _=some _:=c
 obtain rfl:=si c
 exact ⟨.inr Z,[R 2],⟨Z,N⟩,h2,j⟩
 have c:=zAd c54 c
 refine HT.skip ?_
 obtain ⟨e55,c⟩:=zAG c
 refine HT.u d j (eI y46::eI (y46+1)::eI (y46+1)::[]) ?_ ?_
 exact om h10<|op (fun Q U W H D=>zAi (D.g 0 Z) Z e55)<|oa<|oz
 intro R w m n p d j
 obtain ⟨h0,h8,h9⟩:=k3 n h0 h8 h9
 have h10:=p.r 2 Z
 replace f_u38:=f_u38.fr m
 replace f_u41:=f_u41.fr m
 replace f_v0:=f_v0.fr m
 replace q:=q.fr m
 exact ei k (And.intro (Nat.lt_succ_self k) ⟨_,_,c,d,j,B,q,h0,h8,h9,h10,f_u38,f_u41,f_v0⟩)
 have c:=zAd c47 c
 refine zPO ?_
 obtain rfl:=si c
 exact ei _ ⟨_,Z,d,j,B,q,h0,f_v0⟩
 rintro R w ⟨A,s45,rfl,d,j,B,q,h0,f_v0⟩
 have c:=zEK c
 obtain ⟨x56,q57,c⟩:=zA9 c
 refine zPS [] (rR v0::(rF fun A=>.tup3 (.rep zA2 A x56.1) (.raw (.int .i64 x56.2.1)) (.rep (eSl eStr) A x56.2.2))::(rF fun A=>.tup3 (.rep zA2 A x56.1) (.raw (.int .i64 x56.2.1)) (.rep (eSl eStr) A x56.2.2))::(rF fun A=>.rep zA2 A x56.1)::rI x56.2.1::(rF fun A=>.rep (eSl eStr) A x56.2.2)::⟨_,true,[],some (.box w0.heap.size 27 zA2 (0,(([]:List zA3),([]:List zA4)))),true,fun A=>.any⟩::⟨_,true,[6],some (.box w0.heap.size 27 zA2 x56.1),false,fun A=>.any⟩::rI x56.2.1::(rF fun A=>.rep (eSl eStr) A x56.2.2)::[]) (ur (UAll.cons (zLf zE9 zEA zE9) (UAll.cons (zLf zE9 zEA zE9) (up (ur (up (ua (ua (ur (up (UAll.nil))))))))))) q d ?_ ?_
 exact rm h0<|rp (fun V Q U O D=>zAM call14 (zFi (q57 Z) O.av ((f_v0.stp O.stp).eq (D.g 0 Z))))<|rp (fun V Q U O D=>zBI (D.g 0 Z))<|rp (fun V Q U O D=>zJz (D.g 0 Z))<|rp (fun V Q U O D=>zJj (D.g 0 Z))<|rp (fun V Q U O D=>zJW (D.g 0 Z))<|rc (OblR.made _ Z Z Z Z fun V Q U O D=>by exact zCI zeroValue27 (fun A w=>zCo zAm (zCo zBD zBD)) (Nat.le_trans j.size O.ch.size))<|rc (OblR.took 6 _ _ Z Z Z Z Z fun V Q U O D u X Y J L M=>by have a1:Rep zA2 V U (Q 100) x56.1:=D.g 1 Z;obtain ⟨b,hb,hB',hbx⟩:=X;have hop':=L _ _ Z Z Z Z;exact zBX a1 (hop'.symm.trans hb) hb ⟨b,hb,hB',hbx⟩ Y (FldS.id _) sizeOf27 Z)<|ra<|rp (fun V Q U O D=>zA6 (D.g 0 Z))<|rz
 intro done ρ σ A R w y s
 obtain ⟨b11_57,e_b11_57⟩:=s.boxv y 7 Z Z
 have z59:=(s.opnR y 7 7 Z Z Z Z Z).symm.trans e_b11_57
 have h11:=s.ov y 6 6 z59
 have h12:=s.r y 8 Z
 obtain ⟨u60,h13,f_u60⟩:∃ u,R 13=u/\Rep (eSl eStr) A w u x56.2.2:=⟨_,Z,s.fact y (i:=9) Z Z Z⟩
 obtain ⟨B,j,d⟩:=s.s B C j q N
 replace q:=s.left y [(7,ob (.pointer (some ⟨b11_57,0,none⟩)) (.box w0.heap.size 27 zA2 x56.1))] ⟨Z,Z,e_b11_57,Z,Z,N⟩
 obtain ⟨x61,q62,c⟩:=zA9 c
 refine zPS [ob (.pointer (some ⟨b11_57,0,none⟩)) (.box w0.heap.size 27 zA2 x56.1)] ((rF fun A=>.rep zA2 A x56.1)::rI x56.2.1::rR u60::(rF fun A=>.tup2 (.rep zA2 A x61.1) (.raw (.bool x61.2)))::(rF fun A=>.tup2 (.rep zA2 A x61.1) (.raw (.bool x61.2)))::(rF fun A=>.rep zA2 A x61.1)::rB x61.2::⟨_,true,[],some (.box w0.heap.size 27 zA2 (0,(([]:List zA3),([]:List zA4)))),true,fun A=>.any⟩::⟨_,true,[8],some (.box w0.heap.size 27 zA2 x61.1),false,fun A=>.any⟩::rB x61.2::[]) (up (ur (ur (UAll.cons (zE8 zE9 zEA) (UAll.cons (zE8 zE9 zEA) (up (ur (ua (ua (ur (UAll.nil))))))))))) q d ?_ ?_
 exact rp (fun V Q U O D=>(zAA (O.rd 0 _ Z Z) ((O.old 11 Z).trans h11) (Fld.id _) Z isAgg27 sizeOf27))<|rm h12<|rm h13<|rp (fun V Q U O D=>zAM call15 (zGl (q62 Z) O.av (D.g 0 Z) (D.g 1 Z) ((f_u60.stp O.stp).eq (D.g 2 Z))))<|rp (fun V Q U O D=>zBI (D.g 0 Z))<|rp (fun V Q U O D=>zBv (D.g 0 Z))<|rp (fun V Q U O D=>zBj (D.g 0 Z))<|rc (OblR.made _ Z Z Z Z fun V Q U O D=>by exact zCI zeroValue27 (fun A w=>zCo zAm (zCo zBD zBD)) (Nat.le_trans j.size O.ch.size))<|rc (OblR.took 8 _ _ Z Z Z Z Z fun V Q U O D u X Y J L M=>by have a1:Rep zA2 V U (Q 108) x61.1:=D.g 1 Z;obtain ⟨b,hb,hB',hbx⟩:=X;have hop':=L _ _ Z Z Z Z;exact zBX a1 (hop'.symm.trans hb) hb ⟨b,hb,hB',hbx⟩ Y (FldS.id _) sizeOf27 Z)<|ra<|rz
 intro done ρ σ A R w y s
 obtain ⟨h11,h12,h13⟩:=k3 s.rg h11 h12 h13
 have z63:=s.inivR 0 Z
 obtain ⟨b14_63,e_b14_63⟩:=s.boxv y 9 Z Z
 have z65:=(s.opnR y 9 8 Z Z Z Z Z).symm.trans e_b14_63
 have h14:=s.ov y 8 7 z65
 have h15:=s.r y 9 Z
 replace f_u60:=f_u60.stp s.stp
 obtain ⟨B,j,d⟩:=s.s B C j q ⟨Z,N⟩
 replace q:=s.left y [(0,ob (.pointer (some ⟨b11_57,0,none⟩)) (.box w0.heap.size 27 zA2 x56.1)),(9,ob (.pointer (some ⟨b14_63,0,none⟩)) (.box w0.heap.size 27 zA2 x61.1))] ⟨Z,Z,z63,Z,Z,⟨Z,Z,e_b14_63,Z,Z,N⟩⟩
 obtain ⟨x66,q67,c⟩:=zA9 c
 refine zPS [ob (.pointer (some ⟨b11_57,0,none⟩)) (.box w0.heap.size 27 zA2 x56.1),ob (.pointer (some ⟨b14_63,0,none⟩)) (.box w0.heap.size 27 zA2 x61.1)] ((rF fun A=>.rep zA2 A x56.1)::rI x56.2.1::rR u60::(rF fun A=>.tup2 (.rep zA2 A x66.1) (.raw (.bool x66.2)))::(rF fun A=>.tup2 (.rep zA2 A x66.1) (.raw (.bool x66.2)))::(rF fun A=>.rep zA2 A x66.1)::rB x66.2::⟨_,true,[],some (.box w0.heap.size 27 zA2 (0,(([]:List zA3),([]:List zA4)))),true,fun A=>.any⟩::⟨_,true,[9],some (.box w0.heap.size 27 zA2 x66.1),false,fun A=>.any⟩::rB x66.2::[]) (up (ur (ur (UAll.cons (zE8 zE9 zEA) (UAll.cons (zE8 zE9 zEA) (up (ur (ua (ua (ur (UAll.nil))))))))))) q d ?_ ?_
 exact rp (fun V Q U O D=>(zAA (O.rd 0 _ Z Z) ((O.old 11 Z).trans h11) (Fld.id _) Z isAgg27 sizeOf27))<|rm h12<|rm h13<|rp (fun V Q U O D=>zAM call16 (zGq (q67 Z) O.av (D.g 0 Z) (D.g 1 Z) ((f_u60.stp O.stp).eq (D.g 2 Z))))<|rp (fun V Q U O D=>zBI (D.g 0 Z))<|rp (fun V Q U O D=>zBv (D.g 0 Z))<|rp (fun V Q U O D=>zBj (D.g 0 Z))<|rc (OblR.made _ Z Z Z Z fun V Q U O D=>by exact zCI zeroValue27 (fun A w=>zCo zAm (zCo zBD zBD)) (Nat.le_trans j.size O.ch.size))<|rc (OblR.took 9 _ _ Z Z Z Z Z fun V Q U O D u X Y J L M=>by have a1:Rep zA2 V U (Q 115) x66.1:=D.g 1 Z;obtain ⟨b,hb,hB',hbx⟩:=X;have hop':=L _ _ Z Z Z Z;exact zBX a1 (hop'.symm.trans hb) hb ⟨b,hb,hB',hbx⟩ Y (FldS.id _) sizeOf27 Z)<|ra<|rz
 intro done ρ σ A R w y s
 obtain ⟨h11,h12,h13,h14,h15⟩:=k5 s.rg h11 h12 h13 h14 h15
 have z68:=s.inivR 0 Z
 have z69:=s.inivR 1 Z
 obtain ⟨b16_69,e_b16_69⟩:=s.boxv y 10 Z Z
 have z71:=(s.opnR y 10 8 Z Z Z Z Z).symm.trans e_b16_69
 have h16:=s.ov y 9 7 z71
 have h17:=s.r y 9 Z
 replace f_u60:=f_u60.stp s.stp
 obtain ⟨B,j,d⟩:=s.s B C j q ⟨Z,⟨Z,N⟩⟩
 replace q:=s.left y [(0,ob (.pointer (some ⟨b11_57,0,none⟩)) (.box w0.heap.size 27 zA2 x56.1)),(1,ob (.pointer (some ⟨b14_63,0,none⟩)) (.box w0.heap.size 27 zA2 x61.1))] ⟨Z,Z,z68,Z,Z,⟨Z,Z,z69,Z,Z,N⟩⟩
 refine zPQ ?_
 refine zPR d j (eB x61.2::eB x66.2::eB (x61.2 != x66.2)::[]) ?_ ?_
 exact om h15<|om h17<|op (fun Q U W H D=>zO9 underlying4 (D.g 0 Z) (D.g 1 Z))<|oz
 intro R w m n p d j
 obtain ⟨h11,h12,h13,h14,h15⟩:=k5 n h11 h12 h13 h14 h15
 have h119:=p.r 2 Z
 replace f_u60:=f_u60.fr m
 replace q:=q.fr m
 refine zPJ (x61.2 != x66.2) h119 (fun c72=>?_) (fun c72=>?_)
 have c:=zAe c72 c
 refine zPR d j (eB false::[]) ?_ ?_
 exact op (fun Q U W H D=>zA6 Z)<|oz
 intro R w m n p d j
 have h2:=p.r 0 Z
 replace q:=q.fr m
 replace q:IniOK [] A w:=q.sub [] N
 refine HT.ret ?_
 obtain rfl:=si c
 exact ⟨.inr Z,[R 2],⟨Z,N⟩,h2,j⟩
 have c:=zAd c72 c
 refine HT.skip<|zPQ ?_
 refine zPR d j (eB x61.2::eB (!x61.2)::[]) ?_ ?_
 exact om h15<|op (fun Q U W H D=>zBY (D.g 0 Z))<|oz
 intro R w m n p d j
 obtain ⟨h11,h12,h13,h14⟩:=k4 n h11 h12 h13 h14
 have h121:=p.r 1 Z
 replace f_u60:=f_u60.fr m
 replace q:=q.fr m
 refine zPJ (!x61.2) h121 (fun c73=>?_) (fun c73=>?_)
 have c:=zAe c73 c
 refine zPR d j (eB true::[]) ?_ ?_
 exact op (fun Q U W H D=>zA6 Z)<|oz
 intro R w m n p d j
 have h2:=p.r 0 Z
 replace q:=q.fr m
 replace q:IniOK [] A w:=q.sub [] N
 refine HT.ret ?_
 obtain rfl:=si c
 exact ⟨.inr Z,[R 2],⟨Z,N⟩,h2,j⟩
 have c:=zAd c73 c
 refine HT.skip ?_
 obtain ⟨x74,q75,c⟩:=zA9 c
 refine zPS [ob (.pointer (some ⟨b11_57,0,none⟩)) (.box w0.heap.size 27 zA2 x56.1),ob (.pointer (some ⟨b14_63,0,none⟩)) (.box w0.heap.size 27 zA2 x61.1)] ((rF fun A=>.rep zA2 A x61.1)::rI x56.2.1::(rF fun A=>.tup2 (.rep zA2 A x74.1) (.raw (.bool x74.2)))::(rF fun A=>.tup2 (.rep zA2 A x74.1) (.raw (.bool x74.2)))::(rF fun A=>.rep zA2 A x74.1)::rB x74.2::⟨_,true,[],some (.box w0.heap.size 27 zA2 (0,(([]:List zA3),([]:List zA4)))),true,fun A=>.any⟩::⟨_,true,[8],some (.box w0.heap.size 27 zA2 x74.1),false,fun A=>.any⟩::rB x74.2::[]) (up (ur (UAll.cons (zE8 zE9 zEA) (UAll.cons (zE8 zE9 zEA) (up (ur (ua (ua (ur (UAll.nil)))))))))) q d ?_ ?_
 exact rp (fun V Q U O D=>(zAA (O.rd 1 _ Z Z) ((O.old 14 Z).trans h14) (Fld.id _) Z isAgg27 sizeOf27))<|rm h12<|rp (fun V Q U O D=>zAM call17 (zGs (q75 Z) O.av (D.g 0 Z) (D.g 1 Z)))<|rp (fun V Q U O D=>zBI (D.g 0 Z))<|rp (fun V Q U O D=>zBv (D.g 0 Z))<|rp (fun V Q U O D=>zBj (D.g 0 Z))<|rc (OblR.made _ Z Z Z Z fun V Q U O D=>by exact zCI zeroValue27 (fun A w=>zCo zAm (zCo zBD zBD)) (Nat.le_trans j.size O.ch.size))<|rc (OblR.took 8 _ _ Z Z Z Z Z fun V Q U O D u X Y J L M=>by have a1:Rep zA2 V U (Q 126) x74.1:=D.g 1 Z;obtain ⟨b,hb,hB',hbx⟩:=X;have hop':=L _ _ Z Z Z Z;exact zBX a1 (hop'.symm.trans hb) hb ⟨b,hb,hB',hbx⟩ Y (FldS.id _) sizeOf27 Z)<|ra<|rz
 intro done ρ σ A R w y s
 obtain ⟨h11,h12,h13,h14⟩:=k4 s.rg h11 h12 h13 h14
 have z76:=s.inivR 0 Z
 have z77:=s.inivR 1 Z
 obtain ⟨b18_77,e_b18_77⟩:=s.boxv y 9 Z Z
 have z79:=(s.opnR y 9 7 Z Z Z Z Z).symm.trans e_b18_77
 have h18:=s.ov y 8 6 z79
 have h19:=s.r y 8 Z
 replace f_u60:=f_u60.stp s.stp
 obtain ⟨B,j,d⟩:=s.s B C j q ⟨Z,⟨Z,N⟩⟩
 replace q:=s.left y [(0,ob (.pointer (some ⟨b11_57,0,none⟩)) (.box w0.heap.size 27 zA2 x56.1)),(1,ob (.pointer (some ⟨b14_63,0,none⟩)) (.box w0.heap.size 27 zA2 x61.1)),(9,ob (.pointer (some ⟨b18_77,0,none⟩)) (.box w0.heap.size 27 zA2 x74.1))] ⟨Z,Z,z76,Z,Z,⟨Z,Z,z77,Z,Z,⟨Z,Z,e_b18_77,Z,Z,N⟩⟩⟩
 refine zPQ ?_
 obtain ⟨x80,q81,c⟩:=zA9 c
 obtain ⟨x82,q83,c⟩:=zAO c
 obtain ⟨x84,q85,c⟩:=zAO c
 obtain ⟨x86,q87,c⟩:=zA9 c
 obtain ⟨x88,q89,c⟩:=zA9 c
 obtain ⟨x90,q91,c⟩:=zAO c
 obtain ⟨x92,q93,c⟩:=zA9 c
 obtain ⟨x94,q95,c⟩:=zA9 c
 obtain ⟨x96,q97,c⟩:=zA9 c
 obtain ⟨x98,q99,c⟩:=zAO c
 refine zPM (by kernel_rfl) (l:=eB x74.2::eB x74.2::gF (true&&(x74.2==true)) (.rep zA2 A x61.1)::gB (true&&(x74.2==true)) x80::eB x82::eB x82::gR (true&&(x82==true)) (.pointer (some ⟨b18_77,2,none⟩))::gF (true&&(x82==true)) (.rep (eSl zA1) A x74.1.2.2)::gI (true&&(x82==true)) (x74.1.2.2.length:Int)::gR (true&&(x82==true)) (.pointer (some ⟨b11_57,2,none⟩))::gF (true&&(x82==true)) (.rep (eSl zA1) A x56.1.2.2)::gI (true&&(x82==true)) (x56.1.2.2.length:Int)::gB (true&&(x82==true)) ((x74.1.2.2.length:Int)==(x56.1.2.2.length:Int))::eB x84::eB x84::gF (true&&(x84==true)) (.rep zA2 A x61.1)::gR (true&&(x84==true)) u60::gF (true&&(x84==true)) (.rep (eSl (eInt .i64)) A x86)::gI (true&&(x84==true)) x56.2.1::gB (true&&(x84==true)) x88::eB x90::eB x90::gF (true&&(x90==true)) (.rep zA2 A x74.1)::gR (true&&(x90==true)) u60::gF (true&&(x90==true)) (.rep (eSl (eInt .i64)) A x92)::gF (true&&(x90==true)) (.rep zA2 A x56.1)::gR (true&&(x90==true)) u60::gF (true&&(x90==true)) (.rep (eSl (eInt .i64)) A x94)::gB (true&&(x90==true)) x96::eB x98::eB x98::[]) (tl:=[]) (by kernel_rfl) (by kernel_rfl) (by kernel_rfl) (by kernel_rfl) ?_ ?_
 exact om h19<|ov<|og 1 true (fun G Q U W H D=>(zAA ((q.fr W).ok 1 _ Z).1 ((H 14 Z).trans h14) (Fld.id _) Z isAgg27 sizeOf27))<|og 1 true (fun G Q U W H D=>zAM call18 (zBR (q81 G) (d.fr W.size) (D.h 0 G Z)))<|op (fun Q U W H D=>zAR x74.2 (D.g 0 Z) (fun hc=>by have a1:Q 131=.bool x80:=D 1 _ _ _ Z Z Z Z (zBJ Z (zAf hc));show _=Value.bool x82;rw [q83,hc];exact a1) (fun hc=>by show _=Value.bool x82;rw [q83,hc];exact Z))<|ov<|og 5 true (fun G Q U W H D=>zA8 ((H 18 Z).trans h18) zAv sizeOf25 (by decide) Z)<|og 5 true (fun G Q U W H D=>(zAA ((q.fr W).ok 2 _ Z).1 (D.h 0 G Z) zAJ Z isAgg25 sizeOf25))<|og 5 true (fun G Q U W H D=>zAN (aT:=#[]) (D.h 0 G Z) underlying25)<|og 5 true (fun G Q U W H D=>zA8 ((H 11 Z).trans h11) zAv sizeOf25 (by decide) Z)<|og 5 true (fun G Q U W H D=>(zAA ((q.fr W).ok 0 _ Z).1 (D.h 0 G Z) zAJ Z isAgg25 sizeOf25))<|og 5 true (fun G Q U W H D=>zAN (aT:=#[]) (D.h 0 G Z) underlying25)<|og 5 true (fun G Q U W H D=>zEt (D.h 0 G Z) (D.h 1 G Z))<|op (fun Q U W H D=>zAR x82 (D.g 0 Z) (fun hc=>by have a1:Q 140=.bool ((x74.1.2.2.length:Int)==(x56.1.2.2.length:Int)):=D 1 _ _ _ Z Z Z Z (zBJ Z (zAf hc));show _=Value.bool x84;rw [q85,hc];exact a1) (fun hc=>by show _=Value.bool x84;rw [q85,hc];exact Z))<|ov<|og 14 true (fun G Q U W H D=>(zAA ((q.fr W).ok 1 _ Z).1 ((H 14 Z).trans h14) (Fld.id _) Z isAgg27 sizeOf27))<|gm 14 true h13<|og 14 true (fun G Q U W H D=>zAM call7 (zDi (q87 G) (d.fr W.size) (D.h 0 G Z) ((f_u60.fr W).eq (D.h 1 G Z))))<|gm 14 true h12<|og 14 true (fun G Q U W H D=>zAM call11 (zHP (q89 G) (d.fr W.size) (D.h 0 G Z) (D.h 1 G Z)))<|op (fun Q U W H D=>zAR x84 (D.g 0 Z) (fun hc=>by have a1:Q 147=.bool x88:=D 1 _ _ _ Z Z Z Z (zBJ Z (zAf hc));show _=Value.bool x90;rw [q91,hc];exact a1) (fun hc=>by show _=Value.bool x90;rw [q91,hc];exact Z))<|ov<|og 21 true (fun G Q U W H D=>(zAA ((q.fr W).ok 2 _ Z).1 ((H 18 Z).trans h18) (Fld.id _) Z isAgg27 sizeOf27))<|gm 21 true h13<|og 21 true (fun G Q U W H D=>zAM call7 (zDi (q93 G) (d.fr W.size) (D.h 0 G Z) ((f_u60.fr W).eq (D.h 1 G Z))))<|og 21 true (fun G Q U W H D=>(zAA ((q.fr W).ok 0 _ Z).1 ((H 11 Z).trans h11) (Fld.id _) Z isAgg27 sizeOf27))<|gm 21 true h13<|og 21 true (fun G Q U W H D=>zAM call10 (zEu (q95 G) (d.fr W.size) (D.h 0 G Z) ((f_u60.fr W).eq (D.h 1 G Z))))<|og 21 true (fun G Q U W H D=>zAM call8 (zER (q97 G) (d.fr W.size) (D.h 0 G Z) (D.h 1 G Z)))<|op (fun Q U W H D=>zAR x90 (D.g 0 Z) (fun hc=>by have a1:Q 156=.bool x96:=D 1 _ _ _ Z Z Z Z (zBJ Z (zAf hc));show _=Value.bool x98;rw [q99,hc];exact a1) (fun hc=>by show _=Value.bool x98;rw [q99,hc];exact Z))<|oa<|oz
 intro R w m n p
 have h2:=p.r 30 Z
 replace q:=q.fr m
 replace q:IniOK [] A w:=q.sub [] N
 replace d:=d.fr m.size
 replace j:=j.trans m
 refine HT.ret ?_
 obtain rfl:=si c
 exact ⟨.inr Z,[R 2],⟨Z,N⟩,h2,j⟩
end Go.Proofs.YtmgiijdejigdhaaGreat

namespace Go.Proofs.YtmgiijdejigdhaaGreat
open Go.RowKit
set_option linter.unusedVariables false
theorem zAD {α β:Type} [Inhabited α] {x:α} {k:α->Option β}:cl true (some x) k=k x:=rfl
theorem zNX {α β:Type} [Inhabited α] {o:Option α} {k:α->Option β}:cl false o k=k default:=rfl
theorem zFA {α β:Type} [Inhabited α] {g:Bool} {x:α} {k:α->Option β}:cl g (some x) k=k (bif g then x else default):=by cases g <;> rfl
theorem zBw {α β:Type} {e:α} {k:α->Option β}:bd e k=k e:=rfl
theorem ck_t {α:Type} {b:Bool} {k:Option α} (h:b=true):ck b k=k:=by rw [h];rfl
theorem zDp {α:Type} {k:Option α}:ck true k=k:=rfl
theorem zMv {ρ σ γ:Type} {r:ρ} {f:ρ->Option γ} {g:σ->Option γ}:exM (.ret r) f g=f r:=rfl
theorem zLU {ρ σ γ:Type} {s:σ} {f:ρ->Option γ} {g:σ->Option γ}:exM (.go s) f g=g s:=rfl
theorem zBN {i:Nat} {n:Nat} (h:i<n):inR (i:Int) n=true:=zDx.2 ⟨by omega,by omega⟩
theorem zNT {i:Int} {n:Nat} (h0:0<=i) (h:i<n):inR i n=true:=zDx.2 ⟨h0,h⟩
theorem zBm {x:Int} (h0:-9223372036854775808<=x) (h1:x<=9223372036854775807):i64B x=true:=by simp [i64B,h0,h1]
def zIM (P : Nat -> Bool) : Nat -> Nat -> Option Nat
  | _,0=>none
  | i,m+1=>bif P i then some i else zIM P (i+1) m
theorem zLj {P : Nat -> Bool} : ∀ {m i j : Nat}, zIM P i m = some j -> i <= j /\ j < i + m /\ P j = true
  | 0,i,j,h=>by cases h
  | m+1,i,j,h=>by
    unfold zIM at h
    cases hp:P i
    . rw [hp] at h
      have:=zLj (m:=m) h
      exact ⟨by omega,by omega,this.2.2⟩
    . rw [hp] at h
      obtain rfl:=Option.some.inj h
      exact ⟨Nat.le_refl _,by omega,hp⟩
def exF {ρ : Type} (ret : Nat -> ρ) (o : Option Nat) : Ex ρ Unit := match o with
  | some j=>.ret (ret j)
  | none=>.go ()
theorem zMt {ρ : Type} {P : Nat -> Bool} {ret : Nat -> ρ} {L : Nat -> Int -> Option (Ex ρ Unit)} {n : Nat}
    (hs:∀ k i,i<n->L (k+1) ((i:Nat):Int)=bif P i then some (.ret (ret i)) else L k ((i+1:Nat):Int)) (he:∀ k,L (k+1) ((n:Nat):Int)=some (.go ())) :
    ∀ m i k,i+m=n->m<k->L k ((i:Nat):Int)=some (exF ret (zIM P i m)):=by
  intro m
  induction m with
  | zero=>
    intro i k hi hk
    obtain ⟨k,rfl⟩:∃ q,k=q+1:=⟨k-1,by omega⟩
    obtain rfl:i=n:=by omega
    rw [he]
    rfl
  | succ m ih=>
    intro i k hi hk
    obtain ⟨k,rfl⟩:∃ q,k=q+1:=⟨k-1,by omega⟩
    rw [hs k i (by omega)]
    unfold zIM
    cases P i
    . exact ih (i+1) k (by omega) (by omega)
    . rfl
theorem zAa {α:Type} [Inhabited α] {xs:List α} {i:Nat} {x:α} (h:xs[i]? = some x):gtD xs (i:Int)=x:=by
  unfold gtD
  rw [Int.toNat_natCast,List.getD_eq_getElem?_getD,h]
  rfl
theorem zBn {n:Nat} (h:n<=4294967296):zD4 n=true:=Nat.ble_eq_true_of_le h
theorem zEL : ∀ (a : List UInt8), bLt a a = false
  | []=>rfl
  | a::x=>by
    unfold bLt Op.bytesLess
    rw [show Op.bytesLess x x=false from zEL x]
    simp
theorem zGO : ∀ {a b c : List UInt8}, bLt a b = true -> bLt b c = true -> bLt a c = true
  | _,_,[],_,h=>by cases ‹List UInt8› <;> simp [bLt,Op.bytesLess] at h
  | _,[],_::_,h,_=>by cases ‹List UInt8› <;> simp [bLt,Op.bytesLess] at h
  | [],_::_,_::_,_,_=>rfl
  | a::x,b::y,c::z,h,k=>by
    unfold bLt Op.bytesLess at h k ⊢
    simp only [Bool.or_eq_true,Bool.and_eq_true,decide_eq_true_eq,beq_iff_eq] at h k ⊢
    rcases h with h | ⟨rfl,h⟩
    . rcases k with k | ⟨rfl, k⟩
      . exact .inl (UInt8.lt_trans h k)
      . exact .inl h
    . rcases k with k | ⟨rfl, k⟩
      . exact .inl k
      . exact .inr ⟨rfl,zGO h k⟩
theorem zHj : ∀ {a b : List UInt8}, bLt a b = false -> bLt b a = false -> a = b
  | [],[],_,_=>rfl
  | [],_::_,h,_=>by simp [bLt,Op.bytesLess] at h
  | _::_,[],_,h=>by simp [bLt,Op.bytesLess] at h
  | a::x,b::y,h,k=>by
    unfold bLt Op.bytesLess at h k
    simp only [Bool.or_eq_false_iff,Bool.and_eq_false_imp,decide_eq_false_iff_not,beq_iff_eq] at h k
    have e:a=b:=by
      rcases UInt8.lt_or_lt_of_ne (a:=a) (b:=b) |> fun f=>Classical.em (a=b) |>.imp id f with e | e | e
      . exact e
      . exact absurd e h.1
      . exact absurd e k.1
    subst e
    rw [zHj (h.2 rfl) (k.2 rfl)]
theorem zN5 {a b:List UInt8} (h:bLt a b=true):bLt b a=false:=by
  cases hb:bLt b a
  . rfl
  . have := zGO h hb
    rw [zEL] at this
    cases this
theorem zMS : ∀ (a b : List UInt8), Lib.compareBytes a b = bif bLt a b then -1 else bif bLt b a then 1 else 0
  | [],[]=>rfl
  | [],_::_=>rfl
  | _::_,[]=>rfl
  | a::x,b::y=>by
    unfold Lib.compareBytes bLt Op.bytesLess
    by_cases h1:a<b
    . simp [h1]
    . by_cases h2 : b < a
      . have hne : ¬ (a == b) = true := fun e => by rw [beq_iff_eq] at e; subst e; exact h1 h2
        simp [h1,h2,Bool.eq_false_iff.2 hne]
      . have e:a=b:=by
          rcases Classical.em (a=b) with e | e
          . exact e
          . rcases UInt8.lt_or_lt_of_ne e with e | e
            . exact absurd e h1
            . exact absurd e h2
        subst e
        rw [if_neg h1,if_neg h1,zMS x y]
        simp [h1,bLt]
theorem zOo (a b:List UInt8):decide (a<=b) = !(bLt b a):=by
  have h:=Go.Proofs.bytesLess_eq b a
  unfold bLt
  rw [h]
  by_cases hlt:b<a
  . have : ¬ a <= b := List.not_le.2 hlt
    rw [decide_eq_true hlt,decide_eq_false this]
    rfl
  . have : a <= b := List.not_lt.1 hlt
    rw [decide_eq_false hlt,decide_eq_true this]
    rfl
theorem zJ7 {α : Type} {le : α -> α -> Prop} (anti : ∀ a b, le a b -> le b a -> a = b) : ∀ {l m : List α}, l.Perm m -> l.Pairwise le -> m.Pairwise le -> l = m
  | [],m,hp,_,_=>hp.nil_eq
  | a::l,[],hp,_,_=>by have:=hp.length_eq;simp at this
  | a::l,b::m,hp,hl,hm=>by
    have e:a=b:=by
      rcases List.mem_cons.1 (hp.subset (List.mem_cons_self ..)) with e | e
      . exact e
      . rcases List.mem_cons.1 (hp.symm.subset (List.mem_cons_self ..)) with e' | e'
        . exact e'.symm
        . exact anti _ _ ((List.pairwise_cons.1 hl).1 _ e') ((List.pairwise_cons.1 hm).1 _ e)
    subst e
    rw [zJ7 anti (List.Perm.cons_inv hp) (List.pairwise_cons.1 hl).2 (List.pairwise_cons.1 hm).2]
theorem lt_t {i n:Nat} (h:i<n):decide ((i:Int)<(n:Int))=true:=by simpa using h
theorem lt_f (n:Nat):decide ((n:Int)<(n:Int))=false:=decide_eq_false (Int.lt_irrefl _)
theorem zDs {i:Nat} (hn:i<=4294967296):i64B ((i:Int)+1)=true:=zBm (by omega) (by omega)
theorem zCk {α:Type} {xs:List α} {i:Nat} {x:α} (h:xs[i]? = some x):i<xs.length:=(List.getElem?_eq_some_iff.1 h).1
theorem zCn {α:Type} {xs:List α} {i:Nat} {x:α} (h:xs[i]? = some x):x ∈ xs:=List.mem_of_getElem? h
theorem zBW (i:Nat):(i:Int)+1=((i+1:Nat):Int):=rfl
theorem zMw {α:Type} (xs:List α) (i:Nat) (x:α):xs.set ((i:Nat):Int).toNat x=xs.set i x:=by rw [Int.toNat_natCast]
theorem zDK {α:Type} {xs:List α} {i:Nat} {x:α} (h:xs[i]? = some x):xs.drop i=x::xs.drop (i+1):=by
  obtain ⟨h1,rfl⟩:=List.getElem?_eq_some_iff.1 h
  exact List.drop_eq_getElem_cons h1
theorem zFr {α ρ : Type} {xs : List α} {p : α -> Bool} {r : ρ} {L : Nat -> Int -> Option (Ex ρ Unit)}
    (hs:∀ k (i:Nat) x,xs[i]? = some x->L (k+1) (i:Int)=bif p x then some (.ret r) else L k ((i+1:Nat):Int)) (he:∀ k,L (k+1) (xs.length:Int)=some (.go ())) {fu:Nat} (hf:xs.length<fu) :
    L fu (0:Int)=some (bif xs.any p then .ret r else .go ()):=by
  have key:∀ m i k,i+m=xs.length->m<k->L k ((i:Nat):Int)=some (bif (xs.drop i).any p then .ret r else .go ()):=by
    intro m
    induction m with
    | zero=>
      intro i k hi hk
      obtain ⟨k,rfl⟩:∃ q,k=q+1:=⟨k-1,by omega⟩
      obtain rfl:i=xs.length:=by omega
      rw [he,List.drop_length]
      rfl
    | succ m ih=>
      intro i k hi hk
      obtain ⟨k,rfl⟩:∃ q,k=q+1:=⟨k-1,by omega⟩
      have hx:=List.getElem?_eq_getElem (show i<xs.length by omega)
      rw [hs k i _ hx,zDK hx,List.any_cons]
      cases p xs[i]
      . exact ih (i+1) k (by omega) (by omega)
      . rfl
  have:=key xs.length 0 fu (by omega) hf
  rwa [show ((0:Nat):Int)=0 from rfl,List.drop_zero] at this
def adjB {α : Type} (b : α -> α -> Bool) : α -> List α -> Bool
  | _,[]=>false
  | p,x::xs=>b p x || adjB b x xs
def zFG {α : Type} (b0 : α -> Bool) (b : α -> α -> Bool) : List α -> Bool
  | []=>false
  | x::xs=>b0 x || adjB b x xs
theorem zGj {α ρ : Type} {xs : List α} {b0 : α -> Bool} {b : α -> α -> Bool} {r : ρ} {L : Nat -> Int -> Option (Ex ρ Unit)}
    (h0:∀ k x,xs[0]? = some x->L (k+1) (0:Int)=bif b0 x then some (.ret r) else L k ((1:Nat):Int))
    (hs:∀ k (i:Nat) q x,xs[i]? = some q->xs[i+1]? = some x->L (k+1) ((i+1:Nat):Int)=bif b q x then some (.ret r) else L k ((i+1+1:Nat):Int))
    (he:∀ k,L (k+1) (xs.length:Int)=some (.go ())) {fu:Nat} (hf:xs.length<fu) :
    L fu (0:Int)=some (bif zFG b0 b xs then .ret r else .go ()):=by
  have key:∀ m i k q,i+1+m=xs.length->m<k->xs[i]? = some q->L k ((i+1:Nat):Int)=some (bif adjB b q (xs.drop (i+1)) then .ret r else .go ()):=by
    intro m
    induction m with
    | zero=>
      intro i k q hi hk hq
      obtain ⟨k,rfl⟩:∃ q,k=q+1:=⟨k-1,by omega⟩
      have e:i+1=xs.length:=by omega
      rw [e,he,List.drop_length]
      rfl
    | succ m ih=>
      intro i k q hi hk hq
      obtain ⟨k,rfl⟩:∃ q,k=q+1:=⟨k-1,by omega⟩
      have hx:=List.getElem?_eq_getElem (show i+1<xs.length by omega)
      rw [hs k i q _ hq hx,zDK hx,adjB]
      cases b q xs[i+1]
      . exact ih (i+1) k _ (by omega) (by omega) hx
      . rfl
  obtain ⟨k,rfl⟩:∃ q,fu=q+1:=⟨fu-1,by omega⟩
  cases xs with
  | nil=>exact he k
  | cons x xs=>
    rw [h0 k x rfl,zFG]
    cases b0 x
    . have := key xs.length 0 k x (by simp; omega) (by simp at hf; omega) rfl
      exact this
    . rfl
theorem zJG {α ρ : Type} {xs : List α} {p : α -> Bool} {f : α -> ρ} {L : Nat -> Int -> Option (Ex ρ Unit)}
    (hs:∀ k (i:Nat) x,xs[i]? = some x->L (k+1) (i:Int)=bif p x then some (.ret (f x)) else L k ((i+1:Nat):Int)) (he:∀ k,L (k+1) (xs.length:Int)=some (.go ())) {fu:Nat} (hf:xs.length<fu) :
    L fu (0:Int)=some (match xs.find? p with | some x=>.ret (f x) | none=>.go ()):=by
  have key:∀ m i k,i+m=xs.length->m<k->L k ((i:Nat):Int)=some (match (xs.drop i).find? p with | some x=>.ret (f x) | none=>.go ()):=by
    intro m
    induction m with
    | zero=>
      intro i k hi hk
      obtain ⟨k,rfl⟩:∃ q,k=q+1:=⟨k-1,by omega⟩
      obtain rfl:i=xs.length:=by omega
      rw [he,List.drop_length]
      rfl
    | succ m ih=>
      intro i k hi hk
      obtain ⟨k,rfl⟩:∃ q,k=q+1:=⟨k-1,by omega⟩
      have hx:=List.getElem?_eq_getElem (show i<xs.length by omega)
      rw [hs k i _ hx,zDK hx,List.find?_cons]
      cases p xs[i]
      . exact ih (i+1) k (by omega) (by omega)
      . rfl
  have:=key xs.length 0 fu (by omega) hf
  rwa [show ((0:Nat):Int)=0 from rfl,List.drop_zero] at this
def ixI : Nat -> List Bool -> Option Nat
  | _,[]=>none
  | i,b::bs=>bif b then some i else ixI (i+1) bs
theorem zJi : ∀ {bs : List Bool} {i j : Nat}, ixI i bs = some j -> i <= j /\ bs[j - i]? = some true /\ ∀ q, q < j - i -> bs[q]? = some false
  | [],i,j,h=>by cases h
  | b::bs,i,j,h=>by
    unfold ixI at h
    cases b with
    | true=>
      obtain rfl:=Option.some.inj h
      refine ⟨Nat.le_refl _,by simp,fun q hq=>by omega⟩
    | false=>
      obtain ⟨h1,h2,h3⟩:=zJi (bs:=bs) (i:=i+1) h
      refine ⟨by omega,?_,fun q hq=>?_⟩
      . rw [show j - i = (j - (i + 1)) + 1 by omega, List.getElem?_cons_succ]
        exact h2
      . cases q with
        | zero=>rfl
        | succ q=>rw [List.getElem?_cons_succ];exact h3 q (by omega)
theorem zJm : ∀ {bs : List Bool} {i : Nat}, ixI i bs = none -> ∀ b ∈ bs, b = false
  | [],i,h,b,hb=>by cases hb
  | c::bs,i,h,b,hb=>by
    unfold ixI at h
    cases c with
    | true=>cases h
    | false=>
      rcases List.mem_cons.1 hb with rfl | hb
      . rfl
      . exact zJm (bs:=bs) (i:=i+1) h b hb
theorem zMV {α : Type} {xs : List α} {p : α -> Bool} {L : Nat -> Int -> Option (Ex Int Unit)}
    (hs:∀ k (i:Nat) x,xs[i]? = some x->L (k+1) (i:Int)=bif p x then some (.ret (i:Int)) else L k ((i+1:Nat):Int)) (he:∀ k,L (k+1) (xs.length:Int)=some (.go ())) {fu:Nat} (hf:xs.length<fu) :
    L fu (0:Int)=some (match ixI 0 (xs.map p) with | some i=>.ret (i:Int) | none=>.go ()):=by
  have key:∀ m i k,i+m=xs.length->m<k->L k ((i:Nat):Int)=some (match ixI i ((xs.drop i).map p) with | some i=>.ret (i:Int) | none=>.go ()):=by
    intro m
    induction m with
    | zero=>
      intro i k hi hk
      obtain ⟨k,rfl⟩:∃ q,k=q+1:=⟨k-1,by omega⟩
      obtain rfl:i=xs.length:=by omega
      rw [he,List.drop_length]
      rfl
    | succ m ih=>
      intro i k hi hk
      obtain ⟨k,rfl⟩:∃ q,k=q+1:=⟨k-1,by omega⟩
      have hx:=List.getElem?_eq_getElem (show i<xs.length by omega)
      rw [hs k i _ hx,zDK hx,List.map_cons,ixI]
      cases p xs[i]
      . exact ih (i+1) k (by omega) (by omega)
      . rfl
  have:=key xs.length 0 fu (by omega) hf
  rwa [show ((0:Nat):Int)=0 from rfl,List.drop_zero] at this
theorem zDl {α σ : Type} {xs : List α} {g : σ -> α -> σ} {Inv : Nat -> σ -> Prop} {L : Nat -> Int -> σ -> Option σ}
    (hs:∀ k (i:Nat) a x,xs[i]? = some x->Inv i a->L (k+1) (i:Int) a=L k ((i+1:Nat):Int) (g a x)) (hI:∀ (i:Nat) a x,xs[i]? = some x->Inv i a->Inv (i+1) (g a x))
    (he:∀ k a,Inv xs.length a->L (k+1) (xs.length:Int) a=some a) {a:σ} (h0:Inv 0 a) {fu:Nat} (hf:xs.length<fu) :
    L fu (0:Int) a=some (xs.foldl g a)/\Inv xs.length (xs.foldl g a):=by
  have key:∀ m i k a,i+m=xs.length->m<k->Inv i a->L k ((i:Nat):Int) a=some ((xs.drop i).foldl g a)/\Inv xs.length ((xs.drop i).foldl g a):=by
    intro m
    induction m with
    | zero=>
      intro i k a hi hk ha
      obtain ⟨k,rfl⟩:∃ q,k=q+1:=⟨k-1,by omega⟩
      obtain rfl:i=xs.length:=by omega
      rw [he k a ha,List.drop_length]
      exact ⟨rfl,ha⟩
    | succ m ih=>
      intro i k a hi hk ha
      obtain ⟨k,rfl⟩:∃ q,k=q+1:=⟨k-1,by omega⟩
      have hx:=List.getElem?_eq_getElem (show i<xs.length by omega)
      rw [hs k i a _ hx ha,zDK hx,List.foldl_cons]
      exact ih (i+1) k _ (by omega) (by omega) (hI i a _ hx ha)
  have:=key xs.length 0 fu a (by omega) hf h0
  rwa [show ((0:Nat):Int)=0 from rfl,List.drop_zero] at this
theorem zD8 {i:Nat} (hn:i<=4294967296):i64B ((i+1:Nat):Int)=true:=zBm (by omega) (by omega)
theorem zHU (i:Nat) (hn:i<=4294967296):i64B (i:Int)=true:=zBm (by omega) (by omega)
theorem lt_0 {n:Nat} (h:0<n):decide ((0:Int)<(n:Int))=true:=decide_eq_true (by omega)
theorem zJo {n:Nat} (h:0<n):inR (0:Int) n=true:=zBN (i:=0) h
theorem zJs {α:Type} [Inhabited α] {xs:List α} {x:α} (h:xs[0]? = some x):gtD xs (0:Int)=x:=zAa (i:=0) h
theorem zLt:(0:Int)+1=((1:Nat):Int):=rfl
theorem zJK:i64B ((1:Nat):Int)=true:=rfl
theorem zKl:decide ((0:Int)<(0:Int))=false:=rfl
theorem zGD (i:Nat):((i+1:Nat):Int)-1=(i:Int):=by omega
theorem zIg (i:Nat):decide ((0:Int)<((i+1:Nat):Int))=true:=decide_eq_true (by omega)
set_option linter.unusedSimpArgs false
theorem zLT {t:List UInt8} {i:Nat} {c:UInt8} (h:t[i]? = some c):bAt t (i:Int)=(c.toNat:Int):=by
  unfold bAt
  rw [Int.toNat_natCast,List.getD_eq_getElem?_getD,h]
  rfl
def smI (n:Int):Bool:=decide (97<=n)&&decide (n<=122)
def dgI (n:Int):Bool:=decide (48<=n)&&decide (n<=57)
def cpI (n:Int):Bool:=decide (65<=n)&&decide (n<=90)
def naC (c:UInt8):Bool:=!(smI c.toNat) && !(dgI c.toNat)
theorem zKd {fu:Nat} {t:List UInt8} (hf:t.length<fu) (hl:t.length<=4294967296):zCa fu t=some (!(t.any naC)):=by
  unfold zCa
  have h:=zFr (xs:=t) (p:=naC) (r:=false) (L:=zBE fu t) (fun k i c hc=>by
    have hi:=zCk hc
    rw [zBE,lt_t hi,cond_true]
    simp only [zBN hi,zLT hc,zEp,zEq,zBw,zFA,zAD,Bool.or_true,zDp,zD8 (show i<=4294967296 by omega),zBW,naC,smI,dgI]
    generalize (decide ((97:Int)<=(c.toNat:Int))&&decide ((c.toNat:Int)<=122))=s
    generalize (decide ((48:Int)<=(c.toNat:Int))&&decide ((c.toNat:Int)<=57))=d
    cases s <;> cases d <;> rfl) (fun k=>by rw [zBE,lt_f];rfl) hf
  rw [h,zAD]
  cases t.any naC <;> rfl
def tokX (t:List UInt8):Bool:=(t == []) || t.any naC
def tokB (l:List (List UInt8)):Bool:=!(zFG tokX (fun p x=>tokX x || !(bLt p x)) l)
theorem zFf {fu:Nat} {l:List (List UInt8)} (hf:1048577<=fu) (hl:l.length<=1048576) (he:∀ t ∈ l,t.length<=1048576):zBP fu l=some (tokB l):=by
  unfold zBP
  have h:=zGj (xs:=l) (b0:=tokX) (b:=fun p x=>tokX x || !(bLt p x)) (r:=false) (L:=zBU fu l) (fun k x hx=>by
    have hi:=zCk hx
    have hal:=zKd (fu:=fu) (t:=x) (by have:=he x (zCn hx);omega) (by have:=he x (zCn hx);omega)
    rw [zBU,lt_0 hi,cond_true]
    simp only [zJo hi,zJs hx,zLt,zJK,zKl,hal,zBw,zFA,zDp,tokX]
    cases (x == []) <;> cases x.any naC <;> rfl) (fun k i q x hq hx=>by
    have hi:=zCk hx
    have hi':=zCk hq
    have hal:=zKd (fu:=fu) (t:=x) (by have:=he x (zCn hx);omega) (by have:=he x (zCn hx);omega)
    rw [zBU,lt_t hi,cond_true]
    simp only [zBN hi,zBN hi',zAa hx,zGD,zAa hq,zIg,hal,zBw,zFA,zBm (show -9223372036854775808<=(i:Int) by omega) (show (i:Int)<=9223372036854775807 by omega),Bool.or_true,zDp,zD8 (show i+1<=4294967296 by omega),zBW,tokX]
    cases (x == []) <;> cases x.any naC <;> cases bLt q x <;> rfl) (fun k=>by rw [zBU,lt_f];rfl) (show l.length<fu by omega)
  rw [h,zAD]
  unfold tokB
  cases zFG tokX (fun p x=>tokX x || !(bLt p x)) l <;> rfl
def zKM (n:Int):Int:=bif cpI n then n+32 else n
theorem zOW (n:Int) (h0:0<=n) (h1:n<=255):IntKind.u8.wrap n=n:=by
  have:n % 256=n:=Int.emod_eq_of_lt h0 (by omega)
  simp [IntKind.wrap,IntKind.bits,this,show IntKind.u8.signed=false from rfl]
theorem zOd {fu:Nat} {t:List UInt8} (hf:t.length<fu) (hl:t.length<=1048576):zDk fu t=some (t.map fun c=>UInt8.ofNat (zKM c.toNat).toNat):=by
  unfold zDk
  have h:=zDl (xs:=t) (g:=fun (a:List Int) (c:UInt8)=>a ++ [zKM c.toNat]) (Inv:=fun i a=>a.length=i) (L:=zBq fu t) (fun k i a c hc ha=>by
    have hi:=zCk hc
    have hcu:c.toNat<256:=c.toNat_lt
    rw [zBq,lt_t hi,cond_true]
    simp only [zBN hi,zLT hc,zBw,zDp,List.length_singleton,zBn (show a.length+1<=4294967296 by omega),zD8 (show i<=4294967296 by omega),zBW,zKM,cpI]
    cases hcp:(decide ((65:Int)<=(c.toNat:Int))&&decide ((c.toNat:Int)<=90))
    . rfl
    . simp only [Bool.and_eq_true, decide_eq_true_eq] at hcp
      rw [zOW _ (by omega) (by omega)]
      rfl) (fun i a c hc ha=>by simp [ha]) (fun k a ha=>by rw [zBq,lt_f];rfl) (a:=[]) rfl hf
  rw [h.1,zAD]
  have key:∀ (t:List UInt8) (a:List Int),t.foldl (fun (a:List Int) (c:UInt8)=>a ++ [zKM c.toNat]) a=a++t.map fun c=>zKM c.toNat:=by
    intro t
    induction t with
    | nil=>intro a;simp
    | cons c t ih=>intro a;rw [List.foldl_cons,ih];simp
  rw [key,List.nil_append]
  unfold strB
  rw [List.map_map]
  rfl
theorem zOB (t:List UInt8):((t.map fun c=>UInt8.ofNat (zKM c.toNat).toNat)==t) = !(t.any fun c=>cpI c.toNat):=by
  induction t with
  | nil=>rfl
  | cons c t ih=>
    rw [List.map_cons,List.cons_beq_cons,ih,List.any_cons]
    have hcu:c.toNat<256:=c.toNat_lt
    have:(UInt8.ofNat (zKM c.toNat).toNat==c) = !(cpI c.toNat):=by
      unfold zKM
      cases h:cpI c.toNat
      . rw [cond_false, Int.toNat_natCast, UInt8.ofNat_toNat]
        simp
      . rw [cond_true, Bool.not_true, beq_eq_false_iff_ne]
        intro e
        have e2:=congrArg UInt8.toNat e
        unfold cpI at h
        simp only [Bool.and_eq_true,decide_eq_true_eq] at h
        rw [UInt8.toNat_ofNat'] at e2
        omega
    rw [this]
    cases cpI c.toNat <;> rfl
def wdI (n:Int):Bool:=(smI n || cpI n) || dgI n
theorem zMs {fu:Nat} {l:List (List UInt8)} {i:Nat} {t:List UInt8} (ht:l[i]? = some t) (hf:t.length<fu) (hl:t.length<=1048576) (hne:t ≠ []):zBC fu l (i:Int) fu (0:Int)=some (bif t.any naC then .ret false else .go ()):=by
  have hit:=zCk ht
  have h:=zFr (xs:=t) (p:=fun c=>!(wdI c.toNat) || t.any (fun c=>cpI c.toNat)) (r:=false) (L:=zBC fu l (i:Int)) (fun k j c hc=>by
    have hj:=zCk hc
    have hfd:=zOd (fu:=fu) hf hl
    rw [zBC]
    simp only [zBN hit,zAa ht,lt_t hj,cond_true,zBN hj,zLT hc,zF2,zBw,zFA,zAD,hfd,Bool.or_true,zDp,zD8 (show j<=4294967296 by omega),zBW,wdI,smI,cpI,dgI]
    generalize ((decide ((97:Int)<=(c.toNat:Int))&&decide ((c.toNat:Int)<=122) || decide ((65:Int)<=(c.toNat:Int))&&decide ((c.toNat:Int)<=90)) || decide ((48:Int)<=(c.toNat:Int))&&decide ((c.toNat:Int)<=57))=s
    cases s
    . rfl
    . have := zOB t
      unfold cpI at this
      simp only [Bool.not_true,Bool.false_or,show (false==false)=true from rfl,Bool.true_and,cond_true,this,Bool.not_not]) (fun k=>by rw [zBC,ck_t (zBN hit),zAa ht,lt_f];rfl) hf
  rw [h]
  congr 2
  have hp:∀ c:UInt8,naC c=(!(wdI c.toNat) || cpI c.toNat):=by
    intro c
    unfold naC wdI
    cases hs:smI c.toNat <;> cases hc:cpI c.toNat <;> cases hd:dgI c.toNat <;> first | rfl | (unfold smI at hs;unfold cpI at hc;unfold dgI at hd;simp only [Bool.and_eq_true,decide_eq_true_eq] at hs hc hd;omega)
  rw [Bool.eq_iff_iff]
  simp only [List.any_eq_true,hp,Bool.or_eq_true]
  constructor
  . rintro ⟨c, hc, h | ⟨d, hd, h⟩⟩
    . exact ⟨c,hc,.inl h⟩
    . exact ⟨d,hd,.inr h⟩
  . rintro ⟨c, hc, h | h⟩
    . exact ⟨c,hc,.inl h⟩
    . exact ⟨c,hc,.inr ⟨c,hc,h⟩⟩
theorem zFl {fu:Nat} {l:List (List UInt8)} (hf:1048577<=fu) (hl:l.length<=1048576) (he:∀ t ∈ l,t.length<=1048576):zBQ fu l=some (tokB l):=by
  unfold zBQ
  have key:∀ (i:Nat) x,l[i]? = some x->(x == [])=false->zBC fu l (i:Int) fu (0:Int)=some (bif x.any naC then .ret false else .go ()):=fun i x hx hne=>zMs hx (by have:=he x (zCn hx);omega) (he x (zCn hx)) (by intro e;subst e;cases hne)
  have h:=zGj (xs:=l) (b0:=tokX) (b:=fun p x=>tokX x || !(bLt p x)) (r:=false) (L:=zBS fu l) (fun k x hx=>by
    have hi:=zCk hx
    rw [zBS,lt_0 hi,cond_true]
    simp only [zJo hi,zJs hx,zLt,zJK,zKl,zBw,zDp,tokX]
    cases hx0:(x == [])
    . have := key 0 x hx hx0
      rw [show ((0:Nat):Int)=0 from rfl] at this
      simp only [this,zAD]
      cases x.any naC <;> rfl
    . rfl) (fun k i q x hq hx=>by
    have hi:=zCk hx
    have hi':=zCk hq
    rw [zBS,lt_t hi,cond_true]
    simp only [zBN hi,zBN hi',zAa hx,zGD,zAa hq,zIg,zBw,zBm (show -9223372036854775808<=(i:Int) by omega) (show (i:Int)<=9223372036854775807 by omega),Bool.or_true,zDp,zD8 (show i+1<=4294967296 by omega),zBW,tokX]
    cases hx0:(x == [])
    . rw [key (i + 1) x hx hx0]
      simp only [zAD]
      cases x.any naC <;> cases bLt q x <;> rfl
    . cases bLt q x <;> rfl) (fun k=>by rw [zBS,lt_f];rfl) (show l.length<fu by omega)
  rw [h,zAD]
  unfold tokB
  cases zFG tokX (fun p x=>tokX x || !(bLt p x)) l <;> rfl
structure Sto {α : Type} (lt : α -> α -> Bool) : Prop where
  irr:∀ a,lt a a=false
  tr:∀ a b c,lt a b=true->lt b c=true->lt a c=true
  tri:∀ a b,lt a b=false->lt b a=false->a=b
theorem zCf:Sto bLt:=⟨zEL,fun _ _ _=>zGO,fun _ _=>zHj⟩
section
variable {α:Type} {lt:α->α->Bool}
theorem Sto.asy (S:Sto lt) {a b:α} (h:lt a b=true):lt b a=false:=by
  cases hb:lt b a
  . rfl
  . have := S.tr a b a h hb
    rw [S.irr] at this
    cases this
theorem Sto.le_tr (S:Sto lt) {a b c:α} (h:lt b a=false) (k:lt c b=false):lt c a=false:=by
  cases hca:lt c a
  . rfl
  . cases hab : lt a b
    . have := S.tri a b hab h
      subst this
      rw [hca] at k
      cases k
    . have := S.tr c a b hca hab
      rw [this] at k
      cases k
abbrev zBo (lt:α->α->Bool) (l:List α):Prop:=l.Pairwise fun a b=>lt a b=true
abbrev zDu (lt:α->α->Bool) (l:List α):Prop:=l.Pairwise fun a b=>lt b a=false
theorem zBo.w (S:Sto lt) {l:List α} (h:zBo lt l):zDu lt l:=h.imp fun h=>S.asy h
theorem zH2 (S:Sto lt) {l m:List α} (hp:l.Perm m) (hl:zDu lt l) (hm:zDu lt m):l=m:=
  zJ7 (fun a b h k=>S.tri a b k h) hp hl hm
theorem zEe (S : Sto lt) : ∀ {l m : List α}, zBo lt l -> zBo lt m -> (∀ x, x ∈ l ↔ x ∈ m) -> l = m
  | [],[],_,_,_=>rfl
  | [],b::m,_,_,h=>by have:=(h b).2 (List.mem_cons_self ..);cases this
  | a::l,[],_,_,h=>by have:=(h a).1 (List.mem_cons_self ..);cases this
  | a::l,b::m,hl,hm,h=>by
    obtain ⟨h1,h2⟩:=List.pairwise_cons.1 hl
    obtain ⟨h3,h4⟩:=List.pairwise_cons.1 hm
    have e:a=b:=by
      rcases List.mem_cons.1 ((h a).1 (List.mem_cons_self ..)) with e | e
      . exact e
      . rcases List.mem_cons.1 ((h b).2 (List.mem_cons_self ..)) with e' | e'
        . exact e'.symm
        . have := S.asy (h1 b e')
          rw [h3 a e] at this
          cases this
    subst e
    congr 1
    refine zEe S h2 h4 fun x=>?_
    constructor
    . intro hx
      rcases List.mem_cons.1 ((h x).1 (List.mem_cons_of_mem _ hx)) with e | e
      . have := h1 x hx
        rw [e,S.irr] at this
        cases this
      . exact e
    . intro hx
      rcases List.mem_cons.1 ((h x).2 (List.mem_cons_of_mem _ hx)) with e | e
      . have := h3 x hx
        rw [e,S.irr] at this
        cases this
      . exact e
theorem zBo.nodup (S:Sto lt) {l:List α} (h:zBo lt l):l.Nodup:=h.imp fun {a b} h e=>by subst e;rw [S.irr] at h;cases h
def zKG (l:List α) (k:Nat) (x:α):List α:=l.take k++x::l.drop k
theorem zGe (l:List α) (k:Nat) (x:α):(zKG l k x).Perm (x::l):=by
  have:=(List.perm_middle (a:=x) (l₁:=l.take k) (l₂:=l.drop k))
  rwa [List.take_append_drop] at this
theorem zEJ (l:List α) (k:Nat) (x:α):(zKG l k x).length=l.length+1:=by simpa using (zGe l k x).length_eq
theorem zN0 {l:List α} {k:Nat} {x y:α}:y ∈ zKG l k x ↔ y=x\/y ∈ l:=by rw [(zGe l k x).mem_iff,List.mem_cons]
theorem zMp {R:α->α->Prop} {l:List α} {k:Nat} {x:α} (hl:l.Pairwise R) (h1:∀ y ∈ l.take k,R y x) (h2:∀ y ∈ l.drop k,R x y):(zKG l k x).Pairwise R:=by
  have hl':(l.take k++l.drop k).Pairwise R:=by rw [List.take_append_drop];exact hl
  obtain ⟨a,b,c⟩:=List.pairwise_append.1 hl'
  refine List.pairwise_append.2 ⟨a,List.pairwise_cons.2 ⟨h2,b⟩,fun y hy z hz=>?_⟩
  rcases List.mem_cons.1 hz with rfl | hz
  . exact h1 y hy
  . exact c y hy z hz
def plc (lt : α -> α -> Bool) (x : α) : List α -> Nat
  | []=>0
  | y::l=>bif lt y x then plc lt x l+1 else 0
theorem zO0 {x : α} : ∀ l : List α, plc lt x l <= l.length
  | []=>Nat.le_refl _
  | y::l=>by
    unfold plc
    cases lt y x
    . exact Nat.zero_le _
    . have h : plc lt x l <= l.length := zO0 l
      simp
      omega
theorem zJx {x : α} : ∀ l : List α, ∀ y ∈ l.take (plc lt x l), lt y x = true
  | [],y,h=>by cases h
  | z::l,y,h=>by
    unfold plc at h
    cases hz:lt z x
    . rw [hz] at h
      cases h
    . rw [hz, cond_true, List.take_succ_cons] at h
      rcases List.mem_cons.1 h with rfl | h
      . exact hz
      . exact zJx l y h
theorem zJT {x : α} : ∀ l : List α, ∀ y, l[plc lt x l]? = some y -> lt y x = false
  | [],y,h=>by cases h
  | z::l,y,h=>by
    unfold plc at h
    cases hz:lt z x
    . rw [hz] at h
      obtain rfl:z=y:=by simpa using h
      exact hz
    . rw [hz, cond_true, List.getElem?_cons_succ] at h
      exact zJT l y h
theorem zLV (S:Sto lt) {x:α} {l:List α} (hl:zDu lt l):∀ y ∈ l.drop (plc lt x l),lt y x=false:=by
  intro y hy
  cases hd:l.drop (plc lt x l) with
  | nil=>rw [hd] at hy;cases hy
  | cons z t=>
    have hz:l[plc lt x l]? = some z:=by
      have:(l.drop (plc lt x l))[0]? = some z:=by rw [hd];rfl
      rwa [List.getElem?_drop,Nat.add_zero] at this
    have h0:=zJT l z hz
    rw [hd] at hy
    rcases List.mem_cons.1 hy with rfl | hy
    . exact h0
    . have hp : (z :: t).Pairwise fun a b => lt b a = false := hd ▸ hl.sublist (List.drop_sublist _ _)
      exact S.le_tr h0 ((List.pairwise_cons.1 hp).1 y hy)
def putW (lt:α->α->Bool) (l:List α) (x:α):List α:=zKG l (plc lt x l) x
theorem zLG (S:Sto lt) {l:List α} (x:α) (hl:zDu lt l):zDu lt (putW lt l x):=
  zMp hl (fun y hy=>S.asy (zJx l y hy)) (zLV S hl)
def putS [BEq α] (lt:α->α->Bool) (l:List α) (x:α):List α:=bif (l[plc lt x l]? == some x) then l else putW lt l x
theorem zLJ [BEq α] [LawfulBEq α] (S:Sto lt) {l:List α} (x:α) (hl:zBo lt l):zBo lt (putS lt l x):=by
  unfold putS
  cases hc:(l[plc lt x l]? == some x)
  . refine zMp hl (zJx l) fun y hy => ?_
    have h1:=zLV S (hl.w S) y hy
    cases hxy:lt x y
    . have e := S.tri y x h1 hxy
      subst e
      exfalso
      cases hd:l.drop (plc lt y l) with
      | nil=>rw [hd] at hy;cases hy
      | cons z t=>
        have hz:l[plc lt y l]? = some z:=by
          have:(l.drop (plc lt y l))[0]? = some z:=by rw [hd];rfl
          rwa [List.getElem?_drop,Nat.add_zero] at this
        rw [hd] at hy
        have hp:(z::t).Pairwise fun a b=>lt a b=true:=hd ▸ hl.sublist (List.drop_sublist _ _)
        rcases List.mem_cons.1 hy with e | hy
        . subst e
          rw [hz] at hc
          simp at hc
        . have := (List.pairwise_cons.1 hp).1 y hy
          rw [zJT l z hz] at this
          cases this
    . rfl
  . exact hl
theorem zLi [BEq α] [LawfulBEq α] {l:List α} {x y:α}:y ∈ putS lt l x ↔ y=x\/y ∈ l:=by
  unfold putS
  cases hc:(l[plc lt x l]? == some x)
  . exact zN0
  . rw [beq_iff_eq] at hc
    exact ⟨.inr,fun h=>h.elim (fun e=>(by rw [e];exact List.mem_of_getElem? hc)) id⟩
def cmpA [BEq α] : α -> List α -> List α
  | _,[]=>[]
  | p,x::xs=>bif x==p then cmpA x xs else x::cmpA x xs
def cmpL [BEq α] : List α -> List α
  | []=>[]
  | x::xs=>x::cmpA x xs
theorem zJq [BEq α] [LawfulBEq α] : ∀ {p : α} {l : List α} {y : α}, y ∈ cmpA p l -> y ∈ l
  | p,x::xs,y,h=>by
    unfold cmpA at h
    cases hx:(x==p)
    . rw [hx, cond_false] at h
      rcases List.mem_cons.1 h with rfl | h
      . exact List.mem_cons_self ..
      . exact List.mem_cons_of_mem _ (zJq h)
    . rw [hx, cond_true] at h
      exact List.mem_cons_of_mem _ (zJq h)
theorem zIq [BEq α] [LawfulBEq α] : ∀ {p : α} {l : List α} {y : α}, y ∈ l -> y = p \/ y ∈ cmpA p l
  | p,x::xs,y,h=>by
    unfold cmpA
    cases hx:(x==p)
    . rw [cond_false]
      rcases List.mem_cons.1 h with rfl | h
      . exact .inr (List.mem_cons_self ..)
      . rcases zIq (p := x) h with rfl | h
        . exact .inr (List.mem_cons_self ..)
        . exact .inr (List.mem_cons_of_mem _ h)
    . rw [cond_true]
      rw [beq_iff_eq] at hx
      subst hx
      rcases List.mem_cons.1 h with rfl | h
      . exact .inl rfl
      . exact zIq h
theorem zNH [BEq α] [LawfulBEq α] {l:List α} {y:α}:y ∈ cmpL l ↔ y ∈ l:=by
  cases l with
  | nil=>rfl
  | cons x xs=>
    unfold cmpL
    constructor
    . intro h
      rcases List.mem_cons.1 h with rfl | h
      . exact List.mem_cons_self ..
      . exact List.mem_cons_of_mem _ (zJq h)
    . intro h
      rcases List.mem_cons.1 h with rfl | h
      . exact List.mem_cons_self ..
      . rcases zIq (p := x) h with rfl | h
        . exact List.mem_cons_self ..
        . exact List.mem_cons_of_mem _ h
theorem zGz [BEq α] [LawfulBEq α] (S : Sto lt) : ∀ {p : α} {l : List α}, zDu lt (p :: l) -> zBo lt (p :: cmpA p l)
  | p,[],_=>List.pairwise_cons.2 ⟨fun y h=>(by cases h),List.Pairwise.nil⟩
  | p,x::xs,h=>by
    obtain ⟨h1,h2⟩:=List.pairwise_cons.1 h
    unfold cmpA
    cases hx:(x==p)
    . rw [cond_false]
      have ih:=zGz S h2
      refine List.pairwise_cons.2 ⟨fun y hy=>?_,ih⟩
      have hpx:lt p x=true:=by
        cases hpx:lt p x
        . have := S.tri p x hpx (h1 x (List.mem_cons_self ..))
          subst this
          simp at hx
        . rfl
      rcases List.mem_cons.1 hy with rfl | hy
      . exact hpx
      . exact S.tr p x y hpx ((List.pairwise_cons.1 ih).1 y hy)
    . rw [cond_true]
      rw [beq_iff_eq] at hx
      subst hx
      exact zGz S h2
theorem zKz [BEq α] [LawfulBEq α] (S:Sto lt) {l:List α} (h:zDu lt l):zBo lt (cmpL l):=by
  cases l with
  | nil=>exact List.Pairwise.nil
  | cons x xs=>exact zGz S h
theorem zIh [BEq α] : ∀ {p : α} {l : List α}, (cmpA p l).length <= l.length
  | _,[]=>Nat.le_refl _
  | p,x::xs=>by
    unfold cmpA
    have:=zIh (p:=x) (l:=xs)
    cases (x==p) <;> simp <;> omega
theorem zGg [BEq α] [LawfulBEq α] (S : Sto lt) : ∀ (xs : List α) (a : List α), zBo lt a -> zBo lt (xs.foldl (putS lt) a) /\ ∀ y, y ∈ xs.foldl (putS lt) a ↔ y ∈ xs \/ y ∈ a
  | [],a,h=>⟨h,fun y=>by simp⟩
  | x::xs,a,h=>by
    obtain ⟨h1,h2⟩:=zGg S xs (putS lt a x) (zLJ S x h)
    refine ⟨h1,fun y=>?_⟩
    rw [List.foldl_cons,h2,zLi,List.mem_cons]
    constructor
    . rintro (h | h | h)
      . exact .inl (.inr h)
      . exact .inl (.inl h)
      . exact .inr h
    . rintro ((h | h) | h)
      . exact .inr (.inl h)
      . exact .inl h
      . exact .inr (.inr h)
theorem zGZ (S : Sto lt) : ∀ (xs : List α) (a : List α), zDu lt a -> zDu lt (xs.foldl (putW lt) a) /\ (xs.foldl (putW lt) a).Perm (xs ++ a)
  | [],a,h=>⟨h,List.Perm.refl _⟩
  | x::xs,a,h=>by
    obtain ⟨h1,h2⟩:=zGZ S xs (putW lt a x) (zLG S x h)
    refine ⟨h1,h2.trans ?_⟩
    exact ((List.Perm.refl xs).append (zGe a _ x)).trans List.perm_middle
theorem zEj (S:Sto lt) (l:List α):zDu lt (l.mergeSort fun x y=>!(lt y x)):=by
  have:=List.pairwise_mergeSort (le:=fun x y=>!(lt y x)) (fun a b c h k=>by
    simp only [Bool.not_eq_true'] at *
    exact S.le_tr h k) (fun a b=>by
    simp only [Bool.or_eq_true,Bool.not_eq_true']
    cases hb:lt b a
    . exact .inl rfl
    . exact .inr (S.asy hb)) l
  exact this.imp fun h=>by simpa using h
end
end Go.Proofs.YtmgiijdejigdhaaGreat
