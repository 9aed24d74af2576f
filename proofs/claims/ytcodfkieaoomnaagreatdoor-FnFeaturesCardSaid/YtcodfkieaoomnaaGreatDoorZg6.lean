/- Own texts laid together. No statement of the seat is proved here. -/
import Derived.Test.YtcodfkieaoomnaaGreatDoorZg5
namespace Go.Proofs.YtcodfkieaoomnaaGreatDoor
open Go.RowKit
set_option linter.unusedVariables false
open _root_.Go.Proofs.Tryz
set_option maxRecDepth 100000
set_option maxHeartbeats 4000000
def zB0 (fu : Nat) (p0 : List UInt8) : Nat → Int → (List Int) → Option (List Int)
 | 0,_,_=>none
 | k+1,y5,y6=>
 bif (decide (y5<(p0.length:Int))) then (
 ck (inR y5 p0.length) <|
 cl true (zD9 fu (bAt p0 y5)) fun x9=>
 ck (!(true&&(x9==false)) || inR y5 p0.length) <|
 bd (x9 || ((bAt p0 y5)==32)) fun x12=>
 bif x12 then (
 ck (inR y5 p0.length) <|
 ck (zC2 (y6.length+([(bAt p0 y5)]:List Int).length)) <|
 ck (i64B (y5+1)) <|
 zB0 fu p0 k (y5+1) (y6++([(bAt p0 y5)]:List Int))
 ) else (
 ck (inR y5 p0.length) <|
 bif ((bAt p0 y5) != 39) then (
 ck (zC2 (y6.length+([32]:List Int).length)) <|
 ck (i64B (y5+1)) <|
 zB0 fu p0 k (y5+1) (y6++([32]:List Int))
 ) else (
 ck (i64B (y5+1)) <|
 zB0 fu p0 k (y5+1) y6
 )
 )
 ) else (
 some y6
 )
def zCz (fu:Nat) (p0:List UInt8):Option (List UInt8):=
 cl true (zB0 fu p0 fu 0 ([]:List Int)) fun s4=>
 some (strB s4)
theorem zGe {fu : Nat} {A0 : Av} {p0 : List UInt8} {r : List UInt8} (c : zCz fu p0 = some r) {w : World} {v0 : Value} (d : AvOK A0 w) (h0 : Rep eStr A0 w v0 p0) :
 Calls prog 132 #[v0] w fun e w'=>∃ v,e = .returned v∧(Rep eStr A0 w' v r∧Fr w w'):=by
 unfold zCz at c
 obtain ⟨w0,hw0,j,C⟩:=pw d
 have hA00:AvOK A0 w0:=C
 rw [fw hw0]
 obtain ⟨A,hAe,B,d,q⟩:=pa d
 refine zA3 [.tmp 2] func132 ntmps132 (by decide) Z Z (nb Z) ?_
 intro R hR
 have f_v0:Rep eStr A w v0 p0:=hAe ▸ h0
 replace h0:R 0=v0:=hR 0 _ Z
 refine zQB d j (eF (.rep eStr A ([]:List UInt8))::[]) ?_ ?_
 exact op (fun Q U W H D=>zA2 ⟨_,Z,⟨_,Z,Z,by decide⟩⟩)<|oz
 intro R w m n p d j
 replace h0:=k1 n h0
 replace f_v0:=f_v0.fr m
 replace q:=q.fr m
 refine zQC [] (⟨_,true,[],some (.vec w0.heap.size 5 (eInt .u8) ([]:List Int)),true,fun A=>.any⟩::⟨_,true,[0],some (.vec w0.heap.size 5 (eInt .u8) ([]:List Int)),true,fun A=>.any⟩::[]) (ua (ua (UAll.nil))) q d ?_ ?_
 exact rc (OblR.made _ Z Z Z Z fun V Q U O D=>by exact zBW [] (E:=eInt .u8) N underlying22 sizeOf5 zeroValue5 Z Z Z (Nat.le_trans j.size O.ch.size))<|rc (OblR.took 0 _ _ Z Z Z Z Z fun V Q U O D u X Y J L M=>by exact zAK (L _ _ Z Z Z Z).symm X Y)<|rz
 intro done ρ σ A R w y s
 replace h0:=k1 s.rg h0
 obtain ⟨u1,e_u1⟩:∃ u,ρ 1=u:=⟨_,Z⟩
 have h3:=s.ov y 1 1 e_u1
 replace f_v0:=f_v0.stp s.stp
 obtain ⟨B,j,d⟩:=s.s B C j q N
 replace q:=s.left y [(1,ob u1 (.vec w0.heap.size 5 (eInt .u8) ([]:List Int)))] ⟨Z,Z,e_u1,Z,Z,N⟩
 refine zQ9 ?_
 refine zQB d j (eI 0::[]) ?_ ?_
 exact op (fun Q U W H D=>zA2 Z)<|oz
 intro R w m n p d j
 obtain ⟨h0,h3⟩:=k2 n h0 h3
 have h4:=p.r 0 Z
 replace f_v0:=f_v0.fr m
 replace q:=q.fr m
 obtain ⟨rl2,q3,c⟩:=zA4 c
 replace q3:=q3 Z
 refine zQ4 (fun R w=>∃ A:Av,∃ (s4:(List Int)) (uo_u1:Value),rl2=s4∧AvOK A w∧Fr w0 w∧(∀ b o,A0 b o→A b o)∧IniOK [ob uo_u1 (.vec w0.heap.size 5 (eInt .u8) s4)] A w∧R 3=uo_u1) ?_ ?_
 refine HT.block ?_
 refine zQ8 (fun k R w=>∃ A:Av,∃ (y5:Int) (y6:List Int) (ul_u1:Value),zB0 fu p0 k y5 y6=some rl2∧AvOK A w∧Fr w0 w∧(∀ b o,A0 b o→A b o)∧IniOK [ob ul_u1 (.vec w0.heap.size 5 (eInt .u8) y6)] A w∧R 0=v0∧R 3=ul_u1∧R 4 = .int .i64 y5∧Rep eStr A w v0 p0) fu ⟨_,_,_,u1,q3,d,j,B,q,h0,h3,h4,f_v0⟩ ?_
 have hr0:=c;clear c q3
 rintro k R w ⟨A,y5,y6,ul_u1,c,d,j,B,q,h0,h3,h4,f_v0⟩
 rcases k with _ | k
 cases (show none=some _ from c)
 rw [zB0] at c
 refine zQ9 ?_
 refine zQB d j (eI y5::eR v0::eI (p0.length:Int)::eB (decide (y5<(p0.length:Int)))::[]) ?_ ?_
 exact om h4<|om h0<|op (fun Q U W H D=>zAJ ((f_v0.fr W).eq (D.g 0 Z)) underlying9)<|op (fun Q U W H D=>zAu (D.g 0 Z) (D.g 1 Z))<|oz
 intro R w m n p d j
 obtain ⟨h0,h3,h4⟩:=k3 n h0 h3 h4
 have h9:=p.r 3 Z
 replace f_v0:=f_v0.fr m
 replace q:=q.fr m
 refine zQ2 (decide (y5<(p0.length:Int))) h9 (fun c7=>?_) (fun c7=>?_)
 have c:=zAO c7 c
 refine zQA ?_
 refine zQ9 ?_
 refine HT.block ?_
 refine HT.block ?_
 refine zQ9 ?_
 obtain ⟨e8,c⟩:=zA5 c
 obtain ⟨x9,q10,c⟩:=zA4 c
 obtain ⟨e11,c⟩:=zA5 c
 obtain ⟨x12,q13,c⟩:=zAD c
 refine HT.u d j (eR v0::eI y5::eU (bAt p0 y5)::eB x9::eB x9::gR (true&&(x9==false)) v0::gI (true&&(x9==false)) y5::gU (true&&(x9==false)) (bAt p0 y5)::gB (true&&(x9==false)) ((bAt p0 y5)==32)::eB x12::eB x12::[]) ?_ ?_
 exact om h0<|om h4<|op (fun Q U W H D=>zAB ((f_v0.fr W).eq (D.g 0 Z)) (D.g 1 Z) underlying9 e8)<|op (fun Q U W H D=>zA8 call188 (zFv (q10 Z) (d.fr W.size) (D.g 0 Z)))<|ov<|gm 4 false h0<|gm 4 false h4<|og 4 false (fun G Q U W H D=>zAB ((f_v0.fr W).eq (D.h 0 G Z)) (D.h 1 G Z) underlying9 (gd e11 G))<|og 4 false (fun G Q U W H D=>zAo (D.h 0 G Z) Z)<|op (fun Q U W H D=>zAF x9 (D.g 0 Z) (fun hc=>by show _=Value.bool x12;rw [q13,hc];exact Z) (fun hc=>by have a2:Q 21 = .bool ((bAt p0 y5)==32):=D 1 _ _ _ Z Z Z Z (zAc Z (zAP hc));show _=Value.bool x12;rw [q13,hc];exact a2))<|oa<|oz
 intro R w m n p d j
 obtain ⟨h0,h3,h4⟩:=k3 n h0 h3 h4
 have h12:=p.r 10 Z
 replace f_v0:=f_v0.fr m
 replace q:=q.fr m
 refine zQ2 x12 h12 (fun c14=>?_) (fun c14=>?_)
 have c:=zAO c14 c
 obtain ⟨e15,e16,c⟩:=ck2 c
 refine zQF [ob ul_u1 (.vec w0.heap.size 5 (eInt .u8) y6)] (rR ul_u1::rR v0::rI y5::rU (bAt p0 y5)::(rF fun A=>.rep (eSl (eInt .u8)) A ([(bAt p0 y5)]:List Int))::⟨_,true,[0],some (.vec w0.heap.size 5 (eInt .u8) (y6++([(bAt p0 y5)]:List Int))),true,fun A=>.any⟩::⟨_,true,[6],some (.vec w0.heap.size 5 (eInt .u8) (y6++([(bAt p0 y5)]:List Int))),true,fun A=>.any⟩::[]) (ur (ur (ur (ur (up (ua (ua (UAll.nil)))))))) q d ?_ ?_
 exact rm h3<|rm h0<|rm h4<|rp (fun V Q U O D=>zAB ((f_v0.stp O.stp).eq (D.g 0 Z)) (D.g 1 Z) underlying9 e15)<|rp (fun V Q U O D=>zB6 [_] (E:=eInt .u8) ⟨(zAa.eq (D.g 0 Z)),N⟩ underlying22 sizeOf5 zeroValue5 Z Z Z O.av)<|rc (OblR.took 0 _ _ Z Z Z Z Z fun V Q U O D u X Y J L M=>by have a0:Q 23=ul_u1:=D.g 0 Z;have a1:Rep (eSl (eInt .u8)) V U (Q 27) ([(bAt p0 y5)]:List Int):=D.g 1 Z;exact zAx (a0.trans (J _ Z).symm) X Y (Nat.le_trans j.size O.ch.size) a1 underlying22 el_5 e16)<|rc (OblR.took 6 _ _ Z Z Z Z Z fun V Q U O D u X Y J L M=>by exact zAK (L _ _ Z Z Z Z).symm X Y)<|rz
 intro done ρ σ A R w y s
 obtain ⟨h0,h4⟩:=k2 s.rg h0 h4
 obtain ⟨u17,e_u17⟩:∃ u,ρ 7=u:=⟨_,Z⟩
 have h3:=s.ov y 7 6 e_u17
 replace f_v0:=f_v0.stp s.stp
 obtain ⟨B,j,d⟩:=s.s B C j q ⟨Z,N⟩
 replace q:=s.left y [(7,ob u17 (.vec w0.heap.size 5 (eInt .u8) (y6++([(bAt p0 y5)]:List Int))))] ⟨Z,Z,e_u17,Z,Z,N⟩
 obtain ⟨e18,c⟩:=zA5 c
 refine HT.u d j (eI y5::eI (y5+1)::eI (y5+1)::[]) ?_ ?_
 exact om h4<|op (fun Q U W H D=>zAR (D.g 0 Z) Z e18)<|oa<|oz
 intro R w m n p d j
 obtain ⟨h0,h3⟩:=k2 n h0 h3
 have h4:=p.r 2 Z
 replace f_v0:=f_v0.fr m
 replace q:=q.fr m
 exact ei k (And.intro (Nat.lt_succ_self k) ⟨_,_,_,u17,c,d,j,B,q,h0,h3,h4,f_v0⟩)
 have c:=zAN c14 c
 obtain ⟨e19,c⟩:=zA5 c
 refine zQB d j (eR v0::eI y5::eU (bAt p0 y5)::eB ((bAt p0 y5) != 39)::eB ((bAt p0 y5) != 39)::[]) ?_ ?_
 exact om h0<|om h4<|op (fun Q U W H D=>zAB ((f_v0.fr W).eq (D.g 0 Z)) (D.g 1 Z) underlying9 e19)<|op (fun Q U W H D=>zFq (D.g 0 Z) Z)<|oa<|oz
 intro R w m n p d j
 obtain ⟨h0,h3,h4⟩:=k3 n h0 h3 h4
 have h29:=p.r 4 Z
 replace f_v0:=f_v0.fr m
 replace q:=q.fr m
 refine zQ2 ((bAt p0 y5) != 39) h29 (fun c20=>?_) (fun c20=>?_)
 have c:=zAO c20 c
 obtain ⟨e21,c⟩:=zA5 c
 refine zQF [ob ul_u1 (.vec w0.heap.size 5 (eInt .u8) y6)] (rR ul_u1::(rF fun A=>.rep (eSl (eInt .u8)) A ([32]:List Int))::⟨_,true,[0],some (.vec w0.heap.size 5 (eInt .u8) (y6++([32]:List Int))),true,fun A=>.any⟩::⟨_,true,[3],some (.vec w0.heap.size 5 (eInt .u8) (y6++([32]:List Int))),true,fun A=>.any⟩::[]) (ur (up (ua (ua (UAll.nil))))) q d ?_ ?_
 exact rm h3<|rp (fun V Q U O D=>zB6 [_] (E:=eInt .u8) ⟨(zAa.eq Z),N⟩ underlying22 sizeOf5 zeroValue5 Z Z Z O.av)<|rc (OblR.took 0 _ _ Z Z Z Z Z fun V Q U O D u X Y J L M=>by have a0:Q 34=ul_u1:=D.g 0 Z;have a1:Rep (eSl (eInt .u8)) V U (Q 35) ([32]:List Int):=D.g 1 Z;exact zAx (a0.trans (J _ Z).symm) X Y (Nat.le_trans j.size O.ch.size) a1 underlying22 el_5 e21)<|rc (OblR.took 3 _ _ Z Z Z Z Z fun V Q U O D u X Y J L M=>by exact zAK (L _ _ Z Z Z Z).symm X Y)<|rz
 intro done ρ σ A R w y s
 obtain ⟨h0,h4⟩:=k2 s.rg h0 h4
 obtain ⟨u22,e_u22⟩:∃ u,ρ 4=u:=⟨_,Z⟩
 have h3:=s.ov y 4 3 e_u22
 replace f_v0:=f_v0.stp s.stp
 obtain ⟨B,j,d⟩:=s.s B C j q ⟨Z,N⟩
 replace q:=s.left y [(4,ob u22 (.vec w0.heap.size 5 (eInt .u8) (y6++([32]:List Int))))] ⟨Z,Z,e_u22,Z,Z,N⟩
 obtain ⟨e23,c⟩:=zA5 c
 refine HT.u d j (eI y5::eI (y5+1)::eI (y5+1)::[]) ?_ ?_
 exact om h4<|op (fun Q U W H D=>zAR (D.g 0 Z) Z e23)<|oa<|oz
 intro R w m n p d j
 obtain ⟨h0,h3⟩:=k2 n h0 h3
 have h4:=p.r 2 Z
 replace f_v0:=f_v0.fr m
 replace q:=q.fr m
 exact ei k (And.intro (Nat.lt_succ_self k) ⟨_,_,_,u22,c,d,j,B,q,h0,h3,h4,f_v0⟩)
 have c:=zAN c20 c
 refine zQA ?_
 obtain ⟨e24,c⟩:=zA5 c
 refine HT.u d j (eI y5::eI (y5+1)::eI (y5+1)::[]) ?_ ?_
 exact om h4<|op (fun Q U W H D=>zAR (D.g 0 Z) Z e24)<|oa<|oz
 intro R w m n p d j
 obtain ⟨h0,h3⟩:=k2 n h0 h3
 have h4:=p.r 2 Z
 replace f_v0:=f_v0.fr m
 replace q:=q.fr m
 exact ei k (And.intro (Nat.lt_succ_self k) ⟨_,_,_,ul_u1,c,d,j,B,q,h0,h3,h4,f_v0⟩)
 have c:=zAN c7 c
 refine zQ7 ?_
 obtain rfl:=si c
 exact ei _ ⟨_,ul_u1,Z,d,j,B,q,h3⟩
 rintro R w ⟨A,s4,uo_u1,es,d,j,B,q,h3⟩
 obtain rfl:=es.symm
 refine zQB d j (eR uo_u1::eF (.rep eStr A (strB s4))::eF (.rep eStr A (strB s4))::[]) ?_ ?_
 exact om h3<|op (fun Q U W H D=>zBa ((zD2 ((q.fr W).ok 0 _ Z).1 B C).eq (D.g 0 Z)) underlying22 underlying5 underlying9)<|op (fun Q U W H D=>zA2 (D.g 0 Z))<|oz
 intro R w m n p d j
 obtain ⟨u25,h2,f_u25⟩:∃ u,R 2=u∧Rep eStr A w u (strB s4):=⟨_,Z,p 2 _ _ Z Z Z⟩
 replace q:=q.fr m
 replace q:IniOK [] A w:=q.sub [] N
 refine HT.ret ?_
 obtain rfl:=si c
 exact ⟨.inr Z,[R 2],⟨Z,N⟩,(f_u25.eq h2).down B,j⟩
def zAg (fu : Nat) (p0 : List UInt8) : Nat → Int → (List Int) → Option (List Int)
 | 0,_,_=>none
 | k+1,y5,y6=>
 bif (decide (y5<(p0.length:Int))) then (
 ck (inR y5 p0.length) <|
 bif ((bAt p0 y5) != 32) then (
 ck (!(true&&((decide (0<(y6.length:Int)))==true)) || i64B (y5-1)) <|
 ck (!(true&&((decide (0<(y6.length:Int)))==true)) || inR (y5-1) p0.length) <|
 bd ((decide (0<(y6.length:Int)))&&((bAt p0 (y5-1))==32)) fun x12=>
 bif x12 then (
 ck (zC2 (y6.length+([32]:List Int).length)) <|
 ck (inR y5 p0.length) <|
 ck (zC2 ((y6++([32]:List Int)).length+([(bAt p0 y5)]:List Int).length)) <|
 ck (i64B (y5+1)) <|
 zAg fu p0 k (y5+1) ((y6++([32]:List Int))++([(bAt p0 y5)]:List Int))
 ) else (
 ck (inR y5 p0.length) <|
 ck (zC2 (y6.length+([(bAt p0 y5)]:List Int).length)) <|
 ck (i64B (y5+1)) <|
 zAg fu p0 k (y5+1) (y6++([(bAt p0 y5)]:List Int))
 )
 ) else (
 ck (i64B (y5+1)) <|
 zAg fu p0 k (y5+1) y6
 )
 ) else (
 some y6
 )
def zC5 (fu:Nat) (p0:List UInt8):Option (List UInt8):=
 cl true (zAg fu p0 fu 0 ([]:List Int)) fun s4=>
 some (strB s4)
theorem zFX {fu : Nat} {A0 : Av} {p0 : List UInt8} {r : List UInt8} (c : zC5 fu p0 = some r) {w : World} {v0 : Value} (d : AvOK A0 w) (h0 : Rep eStr A0 w v0 p0) :
 Calls prog 131 #[v0] w fun e w'=>∃ v,e = .returned v∧(Rep eStr A0 w' v r∧Fr w w'):=by
 unfold zC5 at c
 obtain ⟨w0,hw0,j,C⟩:=pw d
 have hA00:AvOK A0 w0:=C
 rw [fw hw0]
 obtain ⟨A,hAe,B,d,q⟩:=pa d
 refine zA3 [.tmp 2] func131 ntmps131 (by decide) Z Z (nb Z) ?_
 intro R hR
 have f_v0:Rep eStr A w v0 p0:=hAe ▸ h0
 replace h0:R 0=v0:=hR 0 _ Z
 refine zQB d j (eF (.rep eStr A ([]:List UInt8))::[]) ?_ ?_
 exact op (fun Q U W H D=>zA2 ⟨_,Z,⟨_,Z,Z,by decide⟩⟩)<|oz
 intro R w m n p d j
 replace h0:=k1 n h0
 replace f_v0:=f_v0.fr m
 replace q:=q.fr m
 refine zQC [] (⟨_,true,[],some (.vec w0.heap.size 5 (eInt .u8) ([]:List Int)),true,fun A=>.any⟩::⟨_,true,[0],some (.vec w0.heap.size 5 (eInt .u8) ([]:List Int)),true,fun A=>.any⟩::[]) (ua (ua (UAll.nil))) q d ?_ ?_
 exact rc (OblR.made _ Z Z Z Z fun V Q U O D=>by exact zBW [] (E:=eInt .u8) N underlying22 sizeOf5 zeroValue5 Z Z Z (Nat.le_trans j.size O.ch.size))<|rc (OblR.took 0 _ _ Z Z Z Z Z fun V Q U O D u X Y J L M=>by exact zAK (L _ _ Z Z Z Z).symm X Y)<|rz
 intro done ρ σ A R w y s
 replace h0:=k1 s.rg h0
 obtain ⟨u1,e_u1⟩:∃ u,ρ 1=u:=⟨_,Z⟩
 have h3:=s.ov y 1 1 e_u1
 replace f_v0:=f_v0.stp s.stp
 obtain ⟨B,j,d⟩:=s.s B C j q N
 replace q:=s.left y [(1,ob u1 (.vec w0.heap.size 5 (eInt .u8) ([]:List Int)))] ⟨Z,Z,e_u1,Z,Z,N⟩
 refine zQ9 ?_
 refine zQB d j (eI 0::[]) ?_ ?_
 exact op (fun Q U W H D=>zA2 Z)<|oz
 intro R w m n p d j
 obtain ⟨h0,h3⟩:=k2 n h0 h3
 have h4:=p.r 0 Z
 replace f_v0:=f_v0.fr m
 replace q:=q.fr m
 obtain ⟨rl2,q3,c⟩:=zA4 c
 replace q3:=q3 Z
 refine zQ4 (fun R w=>∃ A:Av,∃ (s4:(List Int)) (uo_u1:Value),rl2=s4∧AvOK A w∧Fr w0 w∧(∀ b o,A0 b o→A b o)∧IniOK [ob uo_u1 (.vec w0.heap.size 5 (eInt .u8) s4)] A w∧R 3=uo_u1) ?_ ?_
 refine HT.block ?_
 refine zQ8 (fun k R w=>∃ A:Av,∃ (y5:Int) (y6:List Int) (ul_u1:Value),zAg fu p0 k y5 y6=some rl2∧AvOK A w∧Fr w0 w∧(∀ b o,A0 b o→A b o)∧IniOK [ob ul_u1 (.vec w0.heap.size 5 (eInt .u8) y6)] A w∧R 0=v0∧R 3=ul_u1∧R 4 = .int .i64 y5∧Rep eStr A w v0 p0) fu ⟨_,_,_,u1,q3,d,j,B,q,h0,h3,h4,f_v0⟩ ?_
 have hr0:=c;clear c q3
 rintro k R w ⟨A,y5,y6,ul_u1,c,d,j,B,q,h0,h3,h4,f_v0⟩
 rcases k with _ | k
 cases (show none=some _ from c)
 rw [zAg] at c
 refine zQ9 ?_
 refine zQB d j (eI y5::eR v0::eI (p0.length:Int)::eB (decide (y5<(p0.length:Int)))::[]) ?_ ?_
 exact om h4<|om h0<|op (fun Q U W H D=>zAJ ((f_v0.fr W).eq (D.g 0 Z)) underlying9)<|op (fun Q U W H D=>zAu (D.g 0 Z) (D.g 1 Z))<|oz
 intro R w m n p d j
 obtain ⟨h0,h3,h4⟩:=k3 n h0 h3 h4
 have h9:=p.r 3 Z
 replace f_v0:=f_v0.fr m
 replace q:=q.fr m
 refine zQ2 (decide (y5<(p0.length:Int))) h9 (fun c7=>?_) (fun c7=>?_)
 have c:=zAO c7 c
 refine zQA ?_
 refine zQ9 ?_
 refine HT.block ?_
 obtain ⟨e8,c⟩:=zA5 c
 refine zQB d j (eR v0::eI y5::eU (bAt p0 y5)::eB ((bAt p0 y5) != 32)::[]) ?_ ?_
 exact om h0<|om h4<|op (fun Q U W H D=>zAB ((f_v0.fr W).eq (D.g 0 Z)) (D.g 1 Z) underlying9 e8)<|op (fun Q U W H D=>zFq (D.g 0 Z) Z)<|oz
 intro R w m n p d j
 obtain ⟨h0,h3,h4⟩:=k3 n h0 h3 h4
 have h15:=p.r 3 Z
 replace f_v0:=f_v0.fr m
 replace q:=q.fr m
 refine zQ2 ((bAt p0 y5) != 32) h15 (fun c9=>?_) (fun c9=>?_)
 have c:=zAO c9 c
 refine zQ9 ?_
 refine zQ9 ?_
 obtain ⟨e10,e11,c⟩:=ck2 c
 obtain ⟨x12,q13,c⟩:=zAD c
 refine HT.u d j (eR ul_u1::eI (y6.length:Int)::eB (decide (0<(y6.length:Int)))::eB (decide (0<(y6.length:Int)))::gR (true&&((decide (0<(y6.length:Int)))==true)) v0::gI (true&&((decide (0<(y6.length:Int)))==true)) y5::gI (true&&((decide (0<(y6.length:Int)))==true)) (y5-1)::gU (true&&((decide (0<(y6.length:Int)))==true)) (bAt p0 (y5-1))::gB (true&&((decide (0<(y6.length:Int)))==true)) ((bAt p0 (y5-1))==32)::eB x12::[]) ?_ ?_
 exact om h3<|op (fun Q U W H D=>zD0 (q.ok 0 _ Z).1 (D.g 0 Z) underlying22)<|op (fun Q U W H D=>zCM (D.g 0 Z) Z)<|ov<|gm 3 true h0<|gm 3 true h4<|og 3 true (fun G Q U W H D=>zAb (D.h 0 G Z) Z (gd e10 G))<|og 3 true (fun G Q U W H D=>zAB ((f_v0.fr W).eq (D.h 0 G Z)) (D.h 1 G Z) underlying9 (gd e11 G))<|og 3 true (fun G Q U W H D=>zAo (D.h 0 G Z) Z)<|op (fun Q U W H D=>zAF (decide (0<(y6.length:Int))) (D.g 0 Z) (fun hc=>by have a1:Q 24 = .bool ((bAt p0 (y5-1))==32):=D 1 _ _ _ Z Z Z Z (zAc Z (zAP hc));show _=Value.bool x12;rw [q13,hc];exact a1) (fun hc=>by show _=Value.bool x12;rw [q13,hc];exact Z))<|oz
 intro R w m n p d j
 obtain ⟨h0,h3,h4⟩:=k3 n h0 h3 h4
 have h25:=p.r 9 Z
 replace f_v0:=f_v0.fr m
 replace q:=q.fr m
 refine zQ2 x12 h25 (fun c14=>?_) (fun c14=>?_)
 have c:=zAO c14 c
 obtain ⟨e15,c⟩:=zA5 c
 refine zQF [ob ul_u1 (.vec w0.heap.size 5 (eInt .u8) y6)] (rR ul_u1::(rF fun A=>.rep (eSl (eInt .u8)) A ([32]:List Int))::⟨_,true,[0],some (.vec w0.heap.size 5 (eInt .u8) (y6++([32]:List Int))),true,fun A=>.any⟩::⟨_,true,[3],some (.vec w0.heap.size 5 (eInt .u8) (y6++([32]:List Int))),true,fun A=>.any⟩::[]) (ur (up (ua (ua (UAll.nil))))) q d ?_ ?_
 exact rm h3<|rp (fun V Q U O D=>zB6 [_] (E:=eInt .u8) ⟨(zAa.eq Z),N⟩ underlying22 sizeOf5 zeroValue5 Z Z Z O.av)<|rc (OblR.took 0 _ _ Z Z Z Z Z fun V Q U O D u X Y J L M=>by have a0:Q 26=ul_u1:=D.g 0 Z;have a1:Rep (eSl (eInt .u8)) V U (Q 27) ([32]:List Int):=D.g 1 Z;exact zAx (a0.trans (J _ Z).symm) X Y (Nat.le_trans j.size O.ch.size) a1 underlying22 el_5 e15)<|rc (OblR.took 3 _ _ Z Z Z Z Z fun V Q U O D u X Y J L M=>by exact zAK (L _ _ Z Z Z Z).symm X Y)<|rz
 intro done ρ σ A R w y s
 obtain ⟨h0,h4⟩:=k2 s.rg h0 h4
 obtain ⟨u16,e_u16⟩:∃ u,ρ 4=u:=⟨_,Z⟩
 have h3:=s.ov y 4 3 e_u16
 replace f_v0:=f_v0.stp s.stp
 obtain ⟨B,j,d⟩:=s.s B C j q ⟨Z,N⟩
 replace q:=s.left y [(4,ob u16 (.vec w0.heap.size 5 (eInt .u8) (y6++([32]:List Int))))] ⟨Z,Z,e_u16,Z,Z,N⟩
 obtain ⟨e17,e18,c⟩:=ck2 c
 refine zQF [ob u16 (.vec w0.heap.size 5 (eInt .u8) (y6++([32]:List Int)))] (rR u16::rR v0::rI y5::rU (bAt p0 y5)::(rF fun A=>.rep (eSl (eInt .u8)) A ([(bAt p0 y5)]:List Int))::⟨_,true,[0],some (.vec w0.heap.size 5 (eInt .u8) ((y6++([32]:List Int))++([(bAt p0 y5)]:List Int))),true,fun A=>.any⟩::⟨_,true,[6],some (.vec w0.heap.size 5 (eInt .u8) ((y6++([32]:List Int))++([(bAt p0 y5)]:List Int))),true,fun A=>.any⟩::[]) (ur (ur (ur (ur (up (ua (ua (UAll.nil)))))))) q d ?_ ?_
 exact rm h3<|rm h0<|rm h4<|rp (fun V Q U O D=>zAB ((f_v0.stp O.stp).eq (D.g 0 Z)) (D.g 1 Z) underlying9 e17)<|rp (fun V Q U O D=>zB6 [_] (E:=eInt .u8) ⟨(zAa.eq (D.g 0 Z)),N⟩ underlying22 sizeOf5 zeroValue5 Z Z Z O.av)<|rc (OblR.took 0 _ _ Z Z Z Z Z fun V Q U O D u X Y J L M=>by have a0:Q 29=u16:=D.g 0 Z;have a1:Rep (eSl (eInt .u8)) V U (Q 33) ([(bAt p0 y5)]:List Int):=D.g 1 Z;exact zAx (a0.trans (J _ Z).symm) X Y (Nat.le_trans j.size O.ch.size) a1 underlying22 el_5 e18)<|rc (OblR.took 6 _ _ Z Z Z Z Z fun V Q U O D u X Y J L M=>by exact zAK (L _ _ Z Z Z Z).symm X Y)<|rz
 intro done ρ σ A R w y s
 obtain ⟨h0,h4⟩:=k2 s.rg h0 h4
 obtain ⟨u19,e_u19⟩:∃ u,ρ 7=u:=⟨_,Z⟩
 have h3:=s.ov y 7 6 e_u19
 replace f_v0:=f_v0.stp s.stp
 obtain ⟨B,j,d⟩:=s.s B C j q ⟨Z,N⟩
 replace q:=s.left y [(7,ob u19 (.vec w0.heap.size 5 (eInt .u8) ((y6++([32]:List Int))++([(bAt p0 y5)]:List Int))))] ⟨Z,Z,e_u19,Z,Z,N⟩
 obtain ⟨e20,c⟩:=zA5 c
 refine HT.u d j (eI y5::eI (y5+1)::eI (y5+1)::[]) ?_ ?_
 exact om h4<|op (fun Q U W H D=>zAR (D.g 0 Z) Z e20)<|oa<|oz
 intro R w m n p d j
 obtain ⟨h0,h3⟩:=k2 n h0 h3
 have h4:=p.r 2 Z
 replace f_v0:=f_v0.fr m
 replace q:=q.fr m
 exact ei k (And.intro (Nat.lt_succ_self k) ⟨_,_,_,u19,c,d,j,B,q,h0,h3,h4,f_v0⟩)
 have c:=zAN c14 c
 refine zQA ?_
 obtain ⟨e21,e22,c⟩:=ck2 c
 refine zQF [ob ul_u1 (.vec w0.heap.size 5 (eInt .u8) y6)] (rR ul_u1::rR v0::rI y5::rU (bAt p0 y5)::(rF fun A=>.rep (eSl (eInt .u8)) A ([(bAt p0 y5)]:List Int))::⟨_,true,[0],some (.vec w0.heap.size 5 (eInt .u8) (y6++([(bAt p0 y5)]:List Int))),true,fun A=>.any⟩::⟨_,true,[6],some (.vec w0.heap.size 5 (eInt .u8) (y6++([(bAt p0 y5)]:List Int))),true,fun A=>.any⟩::[]) (ur (ur (ur (ur (up (ua (ua (UAll.nil)))))))) q d ?_ ?_
 exact rm h3<|rm h0<|rm h4<|rp (fun V Q U O D=>zAB ((f_v0.stp O.stp).eq (D.g 0 Z)) (D.g 1 Z) underlying9 e21)<|rp (fun V Q U O D=>zB6 [_] (E:=eInt .u8) ⟨(zAa.eq (D.g 0 Z)),N⟩ underlying22 sizeOf5 zeroValue5 Z Z Z O.av)<|rc (OblR.took 0 _ _ Z Z Z Z Z fun V Q U O D u X Y J L M=>by have a0:Q 29=ul_u1:=D.g 0 Z;have a1:Rep (eSl (eInt .u8)) V U (Q 33) ([(bAt p0 y5)]:List Int):=D.g 1 Z;exact zAx (a0.trans (J _ Z).symm) X Y (Nat.le_trans j.size O.ch.size) a1 underlying22 el_5 e22)<|rc (OblR.took 6 _ _ Z Z Z Z Z fun V Q U O D u X Y J L M=>by exact zAK (L _ _ Z Z Z Z).symm X Y)<|rz
 intro done ρ σ A R w y s
 obtain ⟨h0,h4⟩:=k2 s.rg h0 h4
 obtain ⟨u23,e_u23⟩:∃ u,ρ 7=u:=⟨_,Z⟩
 have h3:=s.ov y 7 6 e_u23
 replace f_v0:=f_v0.stp s.stp
 obtain ⟨B,j,d⟩:=s.s B C j q ⟨Z,N⟩
 replace q:=s.left y [(7,ob u23 (.vec w0.heap.size 5 (eInt .u8) (y6++([(bAt p0 y5)]:List Int))))] ⟨Z,Z,e_u23,Z,Z,N⟩
 obtain ⟨e24,c⟩:=zA5 c
 refine HT.u d j (eI y5::eI (y5+1)::eI (y5+1)::[]) ?_ ?_
 exact om h4<|op (fun Q U W H D=>zAR (D.g 0 Z) Z e24)<|oa<|oz
 intro R w m n p d j
 obtain ⟨h0,h3⟩:=k2 n h0 h3
 have h4:=p.r 2 Z
 replace f_v0:=f_v0.fr m
 replace q:=q.fr m
 exact ei k (And.intro (Nat.lt_succ_self k) ⟨_,_,_,u23,c,d,j,B,q,h0,h3,h4,f_v0⟩)
 have c:=zAN c9 c
 refine zQA ?_
 obtain ⟨e25,c⟩:=zA5 c
 refine HT.u d j (eI y5::eI (y5+1)::eI (y5+1)::[]) ?_ ?_
 exact om h4<|op (fun Q U W H D=>zAR (D.g 0 Z) Z e25)<|oa<|oz
 intro R w m n p d j
 obtain ⟨h0,h3⟩:=k2 n h0 h3
 have h4:=p.r 2 Z
 replace f_v0:=f_v0.fr m
 replace q:=q.fr m
 exact ei k (And.intro (Nat.lt_succ_self k) ⟨_,_,_,ul_u1,c,d,j,B,q,h0,h3,h4,f_v0⟩)
 have c:=zAN c7 c
 refine zQ7 ?_
 obtain rfl:=si c
 exact ei _ ⟨_,ul_u1,Z,d,j,B,q,h3⟩
 rintro R w ⟨A,s4,uo_u1,es,d,j,B,q,h3⟩
 obtain rfl:=es.symm
 refine zQB d j (eR uo_u1::eF (.rep eStr A (strB s4))::eF (.rep eStr A (strB s4))::[]) ?_ ?_
 exact om h3<|op (fun Q U W H D=>zBa ((zD2 ((q.fr W).ok 0 _ Z).1 B C).eq (D.g 0 Z)) underlying22 underlying5 underlying9)<|op (fun Q U W H D=>zA2 (D.g 0 Z))<|oz
 intro R w m n p d j
 obtain ⟨u26,h2,f_u26⟩:∃ u,R 2=u∧Rep eStr A w u (strB s4):=⟨_,Z,p 2 _ _ Z Z Z⟩
 replace q:=q.fr m
 replace q:IniOK [] A w:=q.sub [] N
 refine HT.ret ?_
 obtain rfl:=si c
 exact ⟨.inr Z,[R 2],⟨Z,N⟩,(f_u26.eq h2).down B,j⟩
def zBY (fu:Nat) (p0:List UInt8):Option (List UInt8):=
 cl true (zBh fu p0) fun x1=>
 cl true (zCz fu x1) fun x3=>
 cl true (zC5 fu x3) fun x5=>
 some x5
theorem zDA {fu : Nat} {A : Av} {p0 : List UInt8} {r : List UInt8} (c : zBY fu p0 = some r) {w : World} {v0 : Value} (d : AvOK A w) (h0 : Rep eStr A w v0 p0) :
 Calls prog 60 #[v0] w fun e w'=>∃ v,e = .returned v∧(Rep eStr A w' v r∧Fr w w'):=by
 unfold zBY at c
 obtain ⟨w0,hw0,j⟩:=pf w
 rw [fw hw0]
 refine zA3 [.tmp 2] func60 ntmps60 (by decide) Z Z (nb Z) ?_
 intro R hR
 have f_v0:=h0
 replace h0:R 0=v0:=hR 0 _ Z
 refine zQB d j (eF (.rep eStr A ([]:List UInt8))::[]) ?_ ?_
 exact op (fun Q U W H D=>zA2 ⟨_,Z,⟨_,Z,Z,by decide⟩⟩)<|oz
 intro R w m n p d j
 replace h0:=k1 n h0
 replace f_v0:=f_v0.fr m
 obtain ⟨x1,q2,c⟩:=zA4 c
 obtain ⟨x3,q4,c⟩:=zA4 c
 obtain ⟨x5,q6,c⟩:=zA4 c
 refine zQB d j (eR v0::eF (.rep eStr A x1)::eF (.rep eStr A x3)::eF (.rep eStr A x5)::eF (.rep eStr A x5)::[]) ?_ ?_
 exact om h0<|op (fun Q U W H D=>zA8 call133 (zDI (q2 Z) (d.fr W.size) ((f_v0.fr W).eq (D.g 0 Z))))<|op (fun Q U W H D=>zA8 call132 (zGe (q4 Z) (d.fr W.size) (D.g 0 Z)))<|op (fun Q U W H D=>zA8 call131 (zFX (q6 Z) (d.fr W.size) (D.g 0 Z)))<|op (fun Q U W H D=>zA2 (D.g 0 Z))<|oz
 intro R w m n p d j
 obtain ⟨u7,h2,f_u7⟩:∃ u,R 2=u∧Rep eStr A w u x5:=⟨_,Z,p 4 _ _ Z Z Z⟩
 refine HT.ret ?_
 obtain rfl:=si c
 exact ⟨.inr Z,[R 2],⟨Z,N⟩,(f_u7.eq h2),j⟩
def zEs (fu:Nat) (p0:List UInt8) (p1:List UInt8):Option Bool:=
 bd ((decide ((p0.length:Int)≤40))&&(decide ((p1.length:Int)≤40))) fun x1=>
 some x1
theorem zHy {fu : Nat} {A : Av} {p0 : List UInt8} {p1 : List UInt8} {r : Bool} (c : zEs fu p0 p1 = some r) {w : World} {v0 : Value} {v1 : Value} (d : AvOK A w) (h0 : Rep eStr A w v0 p0) (h1 : Rep eStr A w v1 p1) :
 Calls prog 268 #[v0,v1] w fun e w'=>∃ v,e = .returned v∧(v = .bool r∧Fr w w'):=by
 unfold zEs at c
 obtain ⟨w0,hw0,j⟩:=pf w
 rw [fw hw0]
 refine zA3 [.tmp 4] func268 ntmps268 (by decide) Z Z (nb Z) ?_
 intro R hR
 have f_v0:=h0
 replace h0:R 0=v0:=hR 0 _ Z
 have f_v1:=h1
 replace h1:R 1=v1:=hR 1 _ Z
 refine zQB d j (eB false::[]) ?_ ?_
 exact op (fun Q U W H D=>zA2 Z)<|oz
 intro R w m n p d j
 obtain ⟨h0,h1⟩:=k2 n h0 h1
 replace f_v0:=f_v0.fr m
 replace f_v1:=f_v1.fr m
 refine zQ9 ?_
 obtain ⟨x1,q2,c⟩:=zAD c
 refine HT.u d j (eR v0::eI (p0.length:Int)::eB (decide ((p0.length:Int)≤40))::eB (decide ((p0.length:Int)≤40))::gR (true&&((decide ((p0.length:Int)≤40))==true)) v1::gI (true&&((decide ((p0.length:Int)≤40))==true)) (p1.length:Int)::gB (true&&((decide ((p0.length:Int)≤40))==true)) (decide ((p1.length:Int)≤40))::eB x1::eB x1::[]) ?_ ?_
 exact om h0<|op (fun Q U W H D=>zAJ ((f_v0.fr W).eq (D.g 0 Z)) underlying9)<|op (fun Q U W H D=>zDp (D.g 0 Z) Z)<|ov<|gm 3 true h1<|og 3 true (fun G Q U W H D=>zAJ ((f_v1.fr W).eq (D.h 0 G Z)) underlying9)<|og 3 true (fun G Q U W H D=>zDp (D.h 0 G Z) Z)<|op (fun Q U W H D=>zAF (decide ((p0.length:Int)≤40)) (D.g 0 Z) (fun hc=>by have a1:Q 11 = .bool (decide ((p1.length:Int)≤40)):=D 1 _ _ _ Z Z Z Z (zAc Z (zAP hc));show _=Value.bool x1;rw [q2,hc];exact a1) (fun hc=>by show _=Value.bool x1;rw [q2,hc];exact Z))<|oa<|oz
 intro R w m n p d j
 have h4:=p.r 8 Z
 refine HT.ret ?_
 obtain rfl:=si c
 exact ⟨.inr Z,[R 4],⟨Z,N⟩,h4,j⟩
def zAX (fu : Nat) (p0 : List UInt8) (p1 : List UInt8) (p2 : Bool) (y5 : Int) (y6 : List (List Int)) : Nat → Int → (List Int) → Option (List Int)
 | 0,_,_=>none
 | k+1,y15,y16=>
 bif (decide (y15≤(p1.length:Int))) then (
 bif (y5==0) then (
 ck (inR y15 y16.length) <|
 bd (p2&&(decide (1<y5))) fun x23=>
 bd (x23&&(decide (1<y15))) fun x25=>
 ck (!(true&&(x25==true)) || i64B (y5-1)) <|
 ck (!(true&&(x25==true)) || inR (y5-1) p0.length) <|
 ck (!(true&&(x25==true)) || i64B (y15-2)) <|
 ck (!(true&&(x25==true)) || inR (y15-2) p1.length) <|
 bd (x25&&((bAt p0 (y5-1))==(bAt p1 (y15-2)))) fun x31=>
 ck (!(true&&(x31==true)) || i64B (y5-2)) <|
 ck (!(true&&(x31==true)) || inR (y5-2) p0.length) <|
 ck (!(true&&(x31==true)) || i64B (y15-1)) <|
 ck (!(true&&(x31==true)) || inR (y15-1) p1.length) <|
 bd (x31&&((bAt p0 (y5-2))==(bAt p1 (y15-1)))) fun x37=>
 bif x37 then (
 ck (inR y15 (y16.set y15.toNat y15).length) <|
 ck (i64B (y5-2)) <|
 ck (inR (y5-2) y6.length) <|
 ck (i64B (y15-2)) <|
 ck (inR (y15-2) (gtD y6 (y5-2)).length) <|
 ck (i64B ((gtD (gtD y6 (y5-2)) (y15-2))+1)) <|
 ck (inR y15 (y16.set y15.toNat y15).length) <|
 ck (i64B (y15+1)) <|
 zAX fu p0 p1 p2 y5 y6 k (y15+1) ((y16.set y15.toNat y15).set y15.toNat (min (gtD (y16.set y15.toNat y15) y15) ((gtD (gtD y6 (y5-2)) (y15-2))+1)))
 ) else (
 ck (i64B (y15+1)) <|
 zAX fu p0 p1 p2 y5 y6 k (y15+1) (y16.set y15.toNat y15)
 )
 ) else (
 bif (y15==0) then (
 ck (inR y15 y16.length) <|
 bd (p2&&(decide (1<y5))) fun x58=>
 bd (x58&&(decide (1<y15))) fun x60=>
 ck (!(true&&(x60==true)) || i64B (y5-1)) <|
 ck (!(true&&(x60==true)) || inR (y5-1) p0.length) <|
 ck (!(true&&(x60==true)) || i64B (y15-2)) <|
 ck (!(true&&(x60==true)) || inR (y15-2) p1.length) <|
 bd (x60&&((bAt p0 (y5-1))==(bAt p1 (y15-2)))) fun x66=>
 ck (!(true&&(x66==true)) || i64B (y5-2)) <|
 ck (!(true&&(x66==true)) || inR (y5-2) p0.length) <|
 ck (!(true&&(x66==true)) || i64B (y15-1)) <|
 ck (!(true&&(x66==true)) || inR (y15-1) p1.length) <|
 bd (x66&&((bAt p0 (y5-2))==(bAt p1 (y15-1)))) fun x72=>
 bif x72 then (
 ck (inR y15 (y16.set y15.toNat y5).length) <|
 ck (i64B (y5-2)) <|
 ck (inR (y5-2) y6.length) <|
 ck (i64B (y15-2)) <|
 ck (inR (y15-2) (gtD y6 (y5-2)).length) <|
 ck (i64B ((gtD (gtD y6 (y5-2)) (y15-2))+1)) <|
 ck (inR y15 (y16.set y15.toNat y5).length) <|
 ck (i64B (y15+1)) <|
 zAX fu p0 p1 p2 y5 y6 k (y15+1) ((y16.set y15.toNat y5).set y15.toNat (min (gtD (y16.set y15.toNat y5) y15) ((gtD (gtD y6 (y5-2)) (y15-2))+1)))
 ) else (
 ck (i64B (y15+1)) <|
 zAX fu p0 p1 p2 y5 y6 k (y15+1) (y16.set y15.toNat y5)
 )
 ) else (
 ck (i64B (y5-1)) <|
 ck (inR (y5-1) p0.length) <|
 ck (i64B (y15-1)) <|
 ck (inR (y15-1) p1.length) <|
 bif ((bAt p0 (y5-1))==(bAt p1 (y15-1))) then (
 ck (i64B (y5-1)) <|
 ck (inR (y5-1) y6.length) <|
 ck (i64B (y15-1)) <|
 ck (inR (y15-1) (gtD y6 (y5-1)).length) <|
 ck (inR y15 y16.length) <|
 bd (p2&&(decide (1<y5))) fun x101=>
 bd (x101&&(decide (1<y15))) fun x103=>
 ck (!(true&&(x103==true)) || i64B (y5-1)) <|
 ck (!(true&&(x103==true)) || inR (y5-1) p0.length) <|
 ck (!(true&&(x103==true)) || i64B (y15-2)) <|
 ck (!(true&&(x103==true)) || inR (y15-2) p1.length) <|
 bd (x103&&((bAt p0 (y5-1))==(bAt p1 (y15-2)))) fun x109=>
 ck (!(true&&(x109==true)) || i64B (y5-2)) <|
 ck (!(true&&(x109==true)) || inR (y5-2) p0.length) <|
 ck (!(true&&(x109==true)) || i64B (y15-1)) <|
 ck (!(true&&(x109==true)) || inR (y15-1) p1.length) <|
 bd (x109&&((bAt p0 (y5-2))==(bAt p1 (y15-1)))) fun x115=>
 bif x115 then (
 ck (inR y15 (y16.set y15.toNat (gtD (gtD y6 (y5-1)) (y15-1))).length) <|
 ck (i64B (y5-2)) <|
 ck (inR (y5-2) y6.length) <|
 ck (i64B (y15-2)) <|
 ck (inR (y15-2) (gtD y6 (y5-2)).length) <|
 ck (i64B ((gtD (gtD y6 (y5-2)) (y15-2))+1)) <|
 ck (inR y15 (y16.set y15.toNat (gtD (gtD y6 (y5-1)) (y15-1))).length) <|
 ck (i64B (y15+1)) <|
 zAX fu p0 p1 p2 y5 y6 k (y15+1) ((y16.set y15.toNat (gtD (gtD y6 (y5-1)) (y15-1))).set y15.toNat (min (gtD (y16.set y15.toNat (gtD (gtD y6 (y5-1)) (y15-1))) y15) ((gtD (gtD y6 (y5-2)) (y15-2))+1)))
 ) else (
 ck (i64B (y15+1)) <|
 zAX fu p0 p1 p2 y5 y6 k (y15+1) (y16.set y15.toNat (gtD (gtD y6 (y5-1)) (y15-1)))
 )
 ) else (
 ck (i64B (y5-1)) <|
 ck (inR (y5-1) y6.length) <|
 ck (inR y15 (gtD y6 (y5-1)).length) <|
 ck (i64B (y15-1)) <|
 ck (inR (y15-1) y16.length) <|
 ck (i64B (y5-1)) <|
 ck (inR (y5-1) y6.length) <|
 ck (i64B (y15-1)) <|
 ck (inR (y15-1) (gtD y6 (y5-1)).length) <|
 ck (i64B (1+(min (min (gtD (gtD y6 (y5-1)) y15) (gtD y16 (y15-1))) (gtD (gtD y6 (y5-1)) (y15-1))))) <|
 ck (inR y15 y16.length) <|
 bd (p2&&(decide (1<y5))) fun x146=>
 bd (x146&&(decide (1<y15))) fun x148=>
 ck (!(true&&(x148==true)) || i64B (y5-1)) <|
 ck (!(true&&(x148==true)) || inR (y5-1) p0.length) <|
 ck (!(true&&(x148==true)) || i64B (y15-2)) <|
 ck (!(true&&(x148==true)) || inR (y15-2) p1.length) <|
 bd (x148&&((bAt p0 (y5-1))==(bAt p1 (y15-2)))) fun x154=>
 ck (!(true&&(x154==true)) || i64B (y5-2)) <|
 ck (!(true&&(x154==true)) || inR (y5-2) p0.length) <|
 ck (!(true&&(x154==true)) || i64B (y15-1)) <|
 ck (!(true&&(x154==true)) || inR (y15-1) p1.length) <|
 bd (x154&&((bAt p0 (y5-2))==(bAt p1 (y15-1)))) fun x160=>
 bif x160 then (
 ck (inR y15 (y16.set y15.toNat (1+(min (min (gtD (gtD y6 (y5-1)) y15) (gtD y16 (y15-1))) (gtD (gtD y6 (y5-1)) (y15-1))))).length) <|
 ck (i64B (y5-2)) <|
 ck (inR (y5-2) y6.length) <|
 ck (i64B (y15-2)) <|
 ck (inR (y15-2) (gtD y6 (y5-2)).length) <|
 ck (i64B ((gtD (gtD y6 (y5-2)) (y15-2))+1)) <|
 ck (inR y15 (y16.set y15.toNat (1+(min (min (gtD (gtD y6 (y5-1)) y15) (gtD y16 (y15-1))) (gtD (gtD y6 (y5-1)) (y15-1))))).length) <|
 ck (i64B (y15+1)) <|
 zAX fu p0 p1 p2 y5 y6 k (y15+1) ((y16.set y15.toNat (1+(min (min (gtD (gtD y6 (y5-1)) y15) (gtD y16 (y15-1))) (gtD (gtD y6 (y5-1)) (y15-1))))).set y15.toNat (min (gtD (y16.set y15.toNat (1+(min (min (gtD (gtD y6 (y5-1)) y15) (gtD y16 (y15-1))) (gtD (gtD y6 (y5-1)) (y15-1))))) y15) ((gtD (gtD y6 (y5-2)) (y15-2))+1)))
 ) else (
 ck (i64B (y15+1)) <|
 zAX fu p0 p1 p2 y5 y6 k (y15+1) (y16.set y15.toNat (1+(min (min (gtD (gtD y6 (y5-1)) y15) (gtD y16 (y15-1))) (gtD (gtD y6 (y5-1)) (y15-1)))))
 )
 )
 )
 )
 ) else (
 some y16
 )
def zBx (fu : Nat) (p0 : List UInt8) (p1 : List UInt8) (p2 : Bool) : Nat → Int → (List (List Int)) → Option (List (List Int))
 | 0,_,_=>none
 | k+1,y5,y6=>
 bif (decide (y5≤(p0.length:Int))) then (
 ck (i64B ((p1.length:Int)+1)) <|
 ck (mkOK ((p1.length:Int)+1)) <|
 cl true (zAX fu p0 p1 p2 y5 y6 fu 0 (List.replicate ((p1.length:Int)+1).toNat 0)) fun s14=>
 ck (zC2 (y6.length+([s14]:List (List Int)).length)) <|
 ck (i64B (y5+1)) <|
 zBx fu p0 p1 p2 k (y5+1) (y6++([s14]:List (List Int)))
 ) else (
 some y6
 )
def zDF (fu:Nat) (p0:List UInt8) (p1:List UInt8) (p2:Bool):Option (List (List Int)):=
 cl true (zBx fu p0 p1 p2 fu 0 ([]:List (List Int))) fun s4=>
 some s4
theorem zHU {fu : Nat} {A0 : Av} {p0 : List UInt8} {p1 : List UInt8} {p2 : Bool} {r : List (List Int)} (c : zDF fu p0 p1 p2 = some r) {w : World} {v0 : Value} {v1 : Value} {v2 : Value} (d : AvOK A0 w) (h0 : Rep eStr A0 w v0 p0) (h1 : Rep eStr A0 w v1 p1) (h2 : v2 = .bool p2) :
 Calls prog 269 #[v0,v1,v2] w fun e w'=>∃ v,e = .returned v∧((Res.vec w.heap.size 27 (eSl (eInt .i64)) r).ok (addA A0 v) v w'∧Fr w w'):=by
 unfold zDF at c
 obtain ⟨w0,hw0,j,C⟩:=pw d
 have hA00:AvOK A0 w0:=C
 rw [fh hw0]
 rw [fw hw0]
 obtain ⟨A,hAe,B,d,q⟩:=pa d
 refine zA3 [.tmp 6] func269 ntmps269 (by decide) Z Z (nb Z) ?_
 intro R hR
 have f_v0:Rep eStr A w v0 p0:=hAe ▸ h0
 replace h0:R 0=v0:=hR 0 _ Z
 have f_v1:Rep eStr A w v1 p1:=hAe ▸ h1
 replace h1:R 1=v1:=hR 1 _ Z
 replace h2:R 2 = .bool p2:=(hR 2 _ Z).trans h2
 refine zQB d j (eA::[]) ?_ ?_
 exact op (fun Q U W H D=>zA2 N)<|oz
 intro R w m n p d j
 obtain ⟨h0,h1,h2⟩:=k3 n h0 h1 h2
 replace f_v0:=f_v0.fr m
 replace f_v1:=f_v1.fr m
 replace q:=q.fr m
 refine zQC [] (⟨_,true,[],some (.vec w0.heap.size 27 (eSl (eInt .i64)) ([]:List (List Int))),true,fun A=>.any⟩::⟨_,true,[0],some (.vec w0.heap.size 27 (eSl (eInt .i64)) ([]:List (List Int))),true,fun A=>.any⟩::[]) (ua (ua (UAll.nil))) q d ?_ ?_
 exact rc (OblR.made _ Z Z Z Z fun V Q U O D=>by exact zBW [] (E:=eSl (eInt .i64)) N underlying227 sizeOf27 zeroValue27 Z Z Z (Nat.le_trans j.size O.ch.size))<|rc (OblR.took 0 _ _ Z Z Z Z Z fun V Q U O D u X Y J L M=>by exact zAK (L _ _ Z Z Z Z).symm X Y)<|rz
 intro done ρ σ A R w y s
 obtain ⟨h0,h1,h2⟩:=k3 s.rg h0 h1 h2
 obtain ⟨u1,e_u1⟩:∃ u,ρ 1=u:=⟨_,Z⟩
 have h7:=s.ov y 1 1 e_u1
 replace f_v0:=f_v0.stp s.stp
 replace f_v1:=f_v1.stp s.stp
 obtain ⟨B,j,d⟩:=s.s B C j q N
 replace q:=s.left y [(1,ob u1 (.vec w0.heap.size 27 (eSl (eInt .i64)) ([]:List (List Int))))] ⟨Z,Z,e_u1,Z,Z,N⟩
 refine zQ9 ?_
 refine zQB d j (eI 0::[]) ?_ ?_
 exact op (fun Q U W H D=>zA2 Z)<|oz
 intro R w m n p d j
 obtain ⟨h0,h1,h2,h7⟩:=k4 n h0 h1 h2 h7
 have h8:=p.r 0 Z
 replace f_v0:=f_v0.fr m
 replace f_v1:=f_v1.fr m
 replace q:=q.fr m
 obtain ⟨rl2,q3,c⟩:=zA4 c
 replace q3:=q3 Z
 refine zQ4 (fun R w=>∃ A:Av,∃ (s4:(List (List Int))) (uo_u1:Value),rl2=s4∧AvOK A w∧Fr w0 w∧(∀ b o,A0 b o→A b o)∧IniOK [ob uo_u1 (.vec w0.heap.size 27 (eSl (eInt .i64)) s4)] A w∧R 7=uo_u1) ?_ ?_
 refine HT.block ?_
 refine zQ8 (fun k R w=>∃ A:Av,∃ (y5:Int) (y6:List (List Int)) (ul_u1:Value),zBx fu p0 p1 p2 k y5 y6=some rl2∧AvOK A w∧Fr w0 w∧(∀ b o,A0 b o→A b o)∧IniOK [ob ul_u1 (.vec w0.heap.size 27 (eSl (eInt .i64)) y6)] A w∧R 0=v0∧R 1=v1∧R 2 = .bool p2∧R 7=ul_u1∧R 8 = .int .i64 y5∧Rep eStr A w v0 p0∧Rep eStr A w v1 p1) fu ⟨_,_,_,u1,q3,d,j,B,q,h0,h1,h2,h7,h8,f_v0,f_v1⟩ ?_
 have hr0:=c;clear c q3
 rintro k R w ⟨A,y5,y6,ul_u1,c,d,j,B,q,h0,h1,h2,h7,h8,f_v0,f_v1⟩
 rcases k with _ | k
 cases (show none=some _ from c)
 rw [zBx] at c
 refine zQ9 ?_
 refine zQB d j (eI y5::eR v0::eI (p0.length:Int)::eB (decide (y5≤(p0.length:Int)))::[]) ?_ ?_
 exact om h8<|om h0<|op (fun Q U W H D=>zAJ ((f_v0.fr W).eq (D.g 0 Z)) underlying9)<|op (fun Q U W H D=>zDp (D.g 0 Z) (D.g 1 Z))<|oz
 intro R w m n p d j
 obtain ⟨h0,h1,h2,h7,h8⟩:=k5 n h0 h1 h2 h7 h8
 have h15:=p.r 3 Z
 replace f_v0:=f_v0.fr m
 replace f_v1:=f_v1.fr m
 replace q:=q.fr m
 refine zQ2 (decide (y5≤(p0.length:Int))) h15 (fun c7=>?_) (fun c7=>?_)
 have c:=zAO c7 c
 refine zQA ?_
 refine zQ9 ?_
 refine HT.block ?_
 obtain ⟨e8,e9,c⟩:=ck2 c
 refine zQC [ob ul_u1 (.vec w0.heap.size 27 (eSl (eInt .i64)) y6)] (rR v1::rI (p1.length:Int)::rI ((p1.length:Int)+1)::⟨_,true,[],some (.vec w0.heap.size 3 (eInt .i64) (List.replicate ((p1.length:Int)+1).toNat 0)),true,fun A=>.any⟩::⟨_,true,[4],some (.vec w0.heap.size 3 (eInt .i64) (List.replicate ((p1.length:Int)+1).toNat 0)),true,fun A=>.any⟩::[]) (ur (ur (ur (ua (ua (UAll.nil)))))) q d ?_ ?_
 exact rm h1<|rp (fun V Q U O D=>zAJ ((f_v1.stp O.stp).eq (D.g 0 Z)) underlying9)<|rp (fun V Q U O D=>zAR (D.g 0 Z) Z e8)<|rc (OblR.made _ Z Z Z Z fun V Q U O D=>by have a0:Q 20 = .int .i64 ((p1.length:Int)+1):=D.g 0 Z;have a1:Q 20 = .int .i64 ((p1.length:Int)+1):=D.g 0 Z;exact zJj a0 a1 e9 underlying27 el_3 zeroValue3 (fun A w=>zAY) (Nat.le_trans j.size O.ch.size))<|rc (OblR.took 4 _ _ Z Z Z Z Z fun V Q U O D u X Y J L M=>by exact zAK (L _ _ Z Z Z Z).symm X Y)<|rz
 intro done ρ σ A R w y s
 obtain ⟨h0,h1,h2,h7,h8⟩:=k5 s.rg h0 h1 h2 h7 h8
 have z10:=s.inivR 0 Z
 obtain ⟨u11,e_u11⟩:∃ u,ρ 5=u:=⟨_,Z⟩
 have h9:=s.ov y 5 4 e_u11
 replace f_v0:=f_v0.stp s.stp
 replace f_v1:=f_v1.stp s.stp
 obtain ⟨B,j,d⟩:=s.s B C j q ⟨Z,N⟩
 replace q:=s.left y [(0,ob ul_u1 (.vec w0.heap.size 27 (eSl (eInt .i64)) y6)),(5,ob u11 (.vec w0.heap.size 3 (eInt .i64) (List.replicate ((p1.length:Int)+1).toNat 0)))] ⟨Z,Z,z10,Z,Z,⟨Z,Z,e_u11,Z,Z,N⟩⟩
 refine zQ9 ?_
 refine zQB d j (eI 0::[]) ?_ ?_
 exact op (fun Q U W H D=>zA2 Z)<|oz
 intro R w m n p d j
 obtain ⟨h0,h1,h2,h7,h8,h9⟩:=k6 n h0 h1 h2 h7 h8 h9
 have h10:=p.r 0 Z
 replace f_v0:=f_v0.fr m
 replace f_v1:=f_v1.fr m
 replace q:=q.fr m
 obtain ⟨rl12,q13,c⟩:=zA4 c
 replace q13:=q13 Z
 refine zQ4 (fun R w=>∃ A:Av,∃ (s14:(List Int)),rl12=s14∧AvOK A w∧Fr w0 w∧(∀ b o,A0 b o→A b o)∧IniOK [ob ul_u1 (.vec w0.heap.size 27 (eSl (eInt .i64)) y6),ob u11 (.vec w0.heap.size 3 (eInt .i64) s14)] A w∧R 0=v0∧R 1=v1∧R 2 = .bool p2∧R 7=ul_u1∧R 8 = .int .i64 y5∧R 9=u11∧Rep eStr A w v0 p0∧Rep eStr A w v1 p1) ?_ ?_
 refine HT.block ?_
 refine zQ8 (fun k R w=>∃ A:Av,∃ (y15:Int) (y16:List Int),zAX fu p0 p1 p2 y5 y6 k y15 y16=some rl12∧AvOK A w∧Fr w0 w∧(∀ b o,A0 b o→A b o)∧IniOK [ob ul_u1 (.vec w0.heap.size 27 (eSl (eInt .i64)) y6),ob u11 (.vec w0.heap.size 3 (eInt .i64) y16)] A w∧R 0=v0∧R 1=v1∧R 2 = .bool p2∧R 7=ul_u1∧R 8 = .int .i64 y5∧R 9=u11∧R 10 = .int .i64 y15∧Rep eStr A w v0 p0∧Rep eStr A w v1 p1) fu ⟨_,_,_,q13,d,j,B,q,h0,h1,h2,h7,h8,h9,h10,f_v0,f_v1⟩ ?_
 have hr0:=c;clear c q13
 rintro k R w ⟨A,y15,y16,c,d,j,B,q,h0,h1,h2,h7,h8,h9,h10,f_v0,f_v1⟩
 rcases k with _ | k
 cases (show none=some _ from c)
 rw [zAX] at c
 refine zQ9 ?_
 refine zQB d j (eI y15::eR v1::eI (p1.length:Int)::eB (decide (y15≤(p1.length:Int)))::[]) ?_ ?_
 exact om h10<|om h1<|op (fun Q U W H D=>zAJ ((f_v1.fr W).eq (D.g 0 Z)) underlying9)<|op (fun Q U W H D=>zDp (D.g 0 Z) (D.g 1 Z))<|oz
 intro R w m n p d j
 obtain ⟨h0,h1,h2,h7,h8,h9⟩:=k6 n h0 h1 h2 h7 h8 h9
 replace h10:=k1 n h10
 have h25:=p.r 3 Z
 replace f_v0:=f_v0.fr m
 replace f_v1:=f_v1.fr m
 replace q:=q.fr m
 refine zQ2 (decide (y15≤(p1.length:Int))) h25 (fun c17=>?_) (fun c17=>?_)
 have c:=zAO c17 c
 refine zQA ?_
 refine zQ9 ?_
 refine HT.block ?_
 refine zQ9 ?_
 refine HT.block ?_
 refine zQB d j (eI y5::eB (y5==0)::eB (y5==0)::[]) ?_ ?_
 exact om h8<|op (fun Q U W H D=>zAo (D.g 0 Z) Z)<|oa<|oz
 intro R w m n p d j
 obtain ⟨h0,h1,h2,h7,h8,h9⟩:=k6 n h0 h1 h2 h7 h8 h9
 replace h10:=k1 n h10
 have h55:=p.r 2 Z
 replace f_v0:=f_v0.fr m
 replace f_v1:=f_v1.fr m
 replace q:=q.fr m
 refine zQ2 (y5==0) h55 (fun c18=>?_) (fun c18=>?_)
 have c:=zAO c18 c
 obtain ⟨e19,c⟩:=zA5 c
 refine zQF [ob ul_u1 (.vec w0.heap.size 27 (eSl (eInt .i64)) y6),ob u11 (.vec w0.heap.size 3 (eInt .i64) y16)] (rR u11::rI y15::rI y15::rR (vptr u11 (y15.toNat*1))::⟨_,true,[1],some (.vec w0.heap.size 3 (eInt .i64) (y16.set y15.toNat y15)),false,fun A=>.any⟩::[]) (ur (ur (ur (ur (ua (UAll.nil)))))) q d ?_ ?_
 exact rm h9<|rm h10<|rm h10<|rp (fun V Q U O D=>zAL (q.ok 1 _ Z).1 (D.g 0 Z) (D.g 1 Z) underlying27 sizeOf3 e19 Z)<|rc (OblR.took 1 _ _ Z Z Z Z Z fun V Q U O D u X Y J L M=>by have a0:Q 61=(vptr u11 (y15.toNat*1)):=D.g 0 Z;have a1:Q 60 = .int .i64 y15:=D.g 1 Z;obtain rfl:=J _ Z;exact zCY (zAa.eq a1) X Y a0 e19 Z (FldS.id _) sizeOf3 Z)<|rz
 intro done ρ σ A R w y s
 obtain ⟨h0,h1,h2,h7,h8,h9⟩:=k6 s.rg h0 h1 h2 h7 h8 h9
 replace h10:=k1 s.rg h10
 have z20:=s.inivR 0 Z
 have z21:=s.inivR 1 Z
 have z22:=s.on y 6 4 Z Z Z Z Z z21
 replace f_v0:=f_v0.stp s.stp
 replace f_v1:=f_v1.stp s.stp
 obtain ⟨B,j,d⟩:=s.s B C j q ⟨Z,⟨Z,N⟩⟩
 replace q:=s.left y [(0,ob ul_u1 (.vec w0.heap.size 27 (eSl (eInt .i64)) y6)),(6,ob u11 (.vec w0.heap.size 3 (eInt .i64) (y16.set y15.toNat y15)))] ⟨Z,Z,z20,Z,Z,⟨Z,Z,z22,Z,Z,N⟩⟩
 refine zQ9 ?_
 obtain ⟨x23,q24,c⟩:=zAD c
 obtain ⟨x25,q26,c⟩:=zAD c
 obtain ⟨e27,e28,e29,e30,c⟩:=ck4 c
 obtain ⟨x31,q32,c⟩:=zAD c
 obtain ⟨e33,e34,e35,e36,c⟩:=ck4 c
 obtain ⟨x37,q38,c⟩:=zAD c
 refine zQ5 (by kernel_rfl) (l:=eB p2::eB p2::gI (true&&(p2==true)) y5::gB (true&&(p2==true)) (decide (1<y5))::eB x23::eB x23::gI (true&&(x23==true)) y15::gB (true&&(x23==true)) (decide (1<y15))::eB x25::eB x25::gR (true&&(x25==true)) v0::gI (true&&(x25==true)) y5::gI (true&&(x25==true)) (y5-1)::gU (true&&(x25==true)) (bAt p0 (y5-1))::gR (true&&(x25==true)) v1::gI (true&&(x25==true)) y15::gI (true&&(x25==true)) (y15-2)::gU (true&&(x25==true)) (bAt p1 (y15-2))::gB (true&&(x25==true)) ((bAt p0 (y5-1))==(bAt p1 (y15-2)))::eB x31::eB x31::gR (true&&(x31==true)) v0::gI (true&&(x31==true)) y5::gI (true&&(x31==true)) (y5-2)::gU (true&&(x31==true)) (bAt p0 (y5-2))::gR (true&&(x31==true)) v1::gI (true&&(x31==true)) y15::gI (true&&(x31==true)) (y15-1)::gU (true&&(x31==true)) (bAt p1 (y15-1))::gB (true&&(x31==true)) ((bAt p0 (y5-2))==(bAt p1 (y15-1)))::eB x37::[]) (tl:=[]) (by kernel_rfl) (by kernel_rfl) (by kernel_rfl) (by kernel_rfl) ?_ ?_
 exact om h2<|ov<|gm 1 true h8<|og 1 true (fun G Q U W H D=>zCM (D.h 0 G Z) Z)<|op (fun Q U W H D=>zAF p2 (D.g 0 Z) (fun hc=>by have a1:Q 94 = .bool (decide (1<y5)):=D 1 _ _ _ Z Z Z Z (zAc Z (zAP hc));show _=Value.bool x23;rw [q24,hc];exact a1) (fun hc=>by show _=Value.bool x23;rw [q24,hc];exact Z))<|ov<|gm 5 true h10<|og 5 true (fun G Q U W H D=>zCM (D.h 0 G Z) Z)<|op (fun Q U W H D=>zAF x23 (D.g 0 Z) (fun hc=>by have a1:Q 98 = .bool (decide (1<y15)):=D 1 _ _ _ Z Z Z Z (zAc Z (zAP hc));show _=Value.bool x25;rw [q26,hc];exact a1) (fun hc=>by show _=Value.bool x25;rw [q26,hc];exact Z))<|ov<|gm 9 true h0<|gm 9 true h8<|og 9 true (fun G Q U W H D=>zAb (D.h 0 G Z) Z (gd e27 G))<|og 9 true (fun G Q U W H D=>zAB ((f_v0.fr W).eq (D.h 0 G Z)) (D.h 1 G Z) underlying9 (gd e28 G))<|gm 9 true h1<|gm 9 true h10<|og 9 true (fun G Q U W H D=>zAb (D.h 0 G Z) Z (gd e29 G))<|og 9 true (fun G Q U W H D=>zAB ((f_v1.fr W).eq (D.h 0 G Z)) (D.h 1 G Z) underlying9 (gd e30 G))<|og 9 true (fun G Q U W H D=>zAo (D.h 0 G Z) (D.h 1 G Z))<|op (fun Q U W H D=>zAF x25 (D.g 0 Z) (fun hc=>by have a1:Q 109 = .bool ((bAt p0 (y5-1))==(bAt p1 (y15-2))):=D 1 _ _ _ Z Z Z Z (zAc Z (zAP hc));show _=Value.bool x31;rw [q32,hc];exact a1) (fun hc=>by show _=Value.bool x31;rw [q32,hc];exact Z))<|ov<|gm 20 true h0<|gm 20 true h8<|og 20 true (fun G Q U W H D=>zAb (D.h 0 G Z) Z (gd e33 G))<|og 20 true (fun G Q U W H D=>zAB ((f_v0.fr W).eq (D.h 0 G Z)) (D.h 1 G Z) underlying9 (gd e34 G))<|gm 20 true h1<|gm 20 true h10<|og 20 true (fun G Q U W H D=>zAb (D.h 0 G Z) Z (gd e35 G))<|og 20 true (fun G Q U W H D=>zAB ((f_v1.fr W).eq (D.h 0 G Z)) (D.h 1 G Z) underlying9 (gd e36 G))<|og 20 true (fun G Q U W H D=>zAo (D.h 0 G Z) (D.h 1 G Z))<|op (fun Q U W H D=>zAF x31 (D.g 0 Z) (fun hc=>by have a1:Q 120 = .bool ((bAt p0 (y5-2))==(bAt p1 (y15-1))):=D 1 _ _ _ Z Z Z Z (zAc Z (zAP hc));show _=Value.bool x37;rw [q38,hc];exact a1) (fun hc=>by show _=Value.bool x37;rw [q38,hc];exact Z))<|oz
 intro R w m n p
 obtain ⟨h0,h1,h2,h7,h8,h9⟩:=k6 n h0 h1 h2 h7 h8 h9
 replace h10:=k1 n h10
 have h121:=p.r 30 Z
 replace f_v0:=f_v0.fr m
 replace f_v1:=f_v1.fr m
 replace q:=q.fr m
 replace d:=d.fr m.size
 replace j:=j.trans m
 refine zQ2 x37 h121 (fun c39=>?_) (fun c39=>?_)
 have c:=zAO c39 c
 obtain ⟨e40,e41,e42,e43,c⟩:=ck4 c
 obtain ⟨e44,e45,e46,c⟩:=ck3 c
 refine zQ6 [ob ul_u1 (.vec w0.heap.size 27 (eSl (eInt .i64)) y6),ob u11 (.vec w0.heap.size 3 (eInt .i64) (y16.set y15.toNat y15))] (rR u11::rI y15::rR u11::rI y15::rR (vptr u11 (y15.toNat*1))::rI (gtD (y16.set y15.toNat y15) y15)::rR ul_u1::rI y5::rI (y5-2)::rR (vptr ul_u1 ((y5-2).toNat*1))::(rF fun A=>.rep (eSl (eInt .i64)) A (gtD y6 (y5-2)))::rI y15::rI (y15-2)::(rF fun A=>.qtr (eInt .i64) A (gtD (gtD y6 (y5-2)) (y15-2)))::rI (gtD (gtD y6 (y5-2)) (y15-2))::rI ((gtD (gtD y6 (y5-2)) (y15-2))+1)::rI (min (gtD (y16.set y15.toNat y15) y15) ((gtD (gtD y6 (y5-2)) (y15-2))+1))::rR (vptr u11 (y15.toNat*1))::⟨_,true,[1],some (.vec w0.heap.size 3 (eInt .i64) ((y16.set y15.toNat y15).set y15.toNat (min (gtD (y16.set y15.toNat y15) y15) ((gtD (gtD y6 (y5-2)) (y15-2))+1)))),false,fun A=>.any⟩::[]) (by kernel_rfl) (by kernel_rfl) (by kernel_rfl) (Wf.mk' (by kernel_rfl) (ur (ur (ur (ur (ur (ur (ur (ur (ur (ur (up (ur (ur (UAll.cons zBL (ur (ur (ur (ur (ua (UAll.nil)))))))))))))))))))) (by kernel_rfl) (by kernel_rfl)) q d ?_ ?_
 exact rm h9<|rm h10<|rm h9<|rm h10<|rp (fun V Q U O D=>zAL (q.ok 1 _ Z).1 (D.g 0 Z) (D.g 1 Z) underlying27 sizeOf3 e40 Z)<|rp (fun V Q U O D=>OpF.int (zAw (O.rd 1 _ Z Z) (D.g 0 Z) e40 Z (Fld.id _) Z isAgg3 sizeOf3))<|rm h7<|rm h8<|rp (fun V Q U O D=>zAb (D.g 0 Z) Z e41)<|rp (fun V Q U O D=>zAL (q.ok 0 _ Z).1 (D.g 0 Z) (D.g 1 Z) underlying227 sizeOf27 e42 Z)<|rp (fun V Q U O D=>(zAw (O.rd 0 _ Z Z) (D.g 0 Z) e42 Z (Fld.id _) Z isAgg27 sizeOf27))<|rm h10<|rp (fun V Q U O D=>zAb (D.g 0 Z) Z e43)<|rp (fun V Q U O D=>zA7 (D.g 0 Z) (D.g 1 Z) underlying27 sizeOf3 e44)<|rp (fun V Q U O D=>OpF.int (zAT (QRep.ptr (D.g 0 Z)) isAgg3 sizeOf3))<|rp (fun V Q U O D=>zAR (D.g 0 Z) Z e45)<|rp (fun V Q U O D=>zGy (D.g 0 Z) (D.g 1 Z))<|rp (fun V Q U O D=>zAL (q.ok 1 _ Z).1 (D.g 0 Z) (D.g 1 Z) underlying27 sizeOf3 e46 Z)<|rc (OblR.took 1 _ _ Z Z Z Z Z fun V Q U O D u X Y J L M=>by have a0:Q 139=(vptr u11 (y15.toNat*1)):=D.g 0 Z;have a1:Q 138 = .int .i64 (min (gtD (y16.set y15.toNat y15) y15) ((gtD (gtD y6 (y5-2)) (y15-2))+1)):=D.g 1 Z;obtain rfl:=J _ Z;exact zCY (zAa.eq a1) X Y a0 e46 Z (FldS.id _) sizeOf3 Z)<|rz
 intro done ρ σ A R w y s
 obtain ⟨h0,h1,h2,h7,h8,h9⟩:=k6 s.rg h0 h1 h2 h7 h8 h9
 replace h10:=k1 s.rg h10
 have z47:=s.inivR 0 Z
 have z48:=s.inivR 1 Z
 have z49:=s.on y 20 18 Z Z Z Z Z z48
 replace f_v0:=f_v0.stp s.stp
 replace f_v1:=f_v1.stp s.stp
 obtain ⟨B,j,d⟩:=s.s B C j q ⟨Z,⟨Z,N⟩⟩
 replace q:=s.left y [(0,ob ul_u1 (.vec w0.heap.size 27 (eSl (eInt .i64)) y6)),(20,ob u11 (.vec w0.heap.size 3 (eInt .i64) ((y16.set y15.toNat y15).set y15.toNat (min (gtD (y16.set y15.toNat y15) y15) ((gtD (gtD y6 (y5-2)) (y15-2))+1)))))] ⟨Z,Z,z47,Z,Z,⟨Z,Z,z49,Z,Z,N⟩⟩
 obtain ⟨Yg49,g_Yg49⟩:∃ z,z=((y16.set y15.toNat y15).set y15.toNat (min (gtD (y16.set y15.toNat y15) y15) ((gtD (gtD y6 (y5-2)) (y15-2))+1))):=⟨_,Z⟩
 rw [← g_Yg49] at q
 try rw [← g_Yg49] at c
 obtain ⟨e51,c⟩:=zA5 c
 refine HT.u d j (eI y15::eI (y15+1)::eI (y15+1)::[]) ?_ ?_
 exact om h10<|op (fun Q U W H D=>zAR (D.g 0 Z) Z e51)<|oa<|oz
 intro R w m n p d j
 obtain ⟨h0,h1,h2,h7,h8,h9⟩:=k6 n h0 h1 h2 h7 h8 h9
 have h10:=p.r 2 Z
 replace f_v0:=f_v0.fr m
 replace f_v1:=f_v1.fr m
 replace q:=q.fr m
 exact ei k (And.intro (Nat.lt_succ_self k) ⟨_,_,_,c,d,j,B,q,h0,h1,h2,h7,h8,h9,h10,f_v0,f_v1⟩)
 have c:=zAN c39 c
 refine zQA ?_
 obtain ⟨e52,c⟩:=zA5 c
 refine HT.u d j (eI y15::eI (y15+1)::eI (y15+1)::[]) ?_ ?_
 exact om h10<|op (fun Q U W H D=>zAR (D.g 0 Z) Z e52)<|oa<|oz
 intro R w m n p d j
 obtain ⟨h0,h1,h2,h7,h8,h9⟩:=k6 n h0 h1 h2 h7 h8 h9
 have h10:=p.r 2 Z
 replace f_v0:=f_v0.fr m
 replace f_v1:=f_v1.fr m
 replace q:=q.fr m
 exact ei k (And.intro (Nat.lt_succ_self k) ⟨_,_,_,c,d,j,B,q,h0,h1,h2,h7,h8,h9,h10,f_v0,f_v1⟩)
 have c:=zAN c18 c
 refine zQB d j (eI y15::eB (y15==0)::eB (y15==0)::[]) ?_ ?_
 exact om h10<|op (fun Q U W H D=>zAo (D.g 0 Z) Z)<|oa<|oz
 intro R w m n p d j
 obtain ⟨h0,h1,h2,h7,h8,h9⟩:=k6 n h0 h1 h2 h7 h8 h9
 replace h10:=k1 n h10
 have h62:=p.r 2 Z
 replace f_v0:=f_v0.fr m
 replace f_v1:=f_v1.fr m
 replace q:=q.fr m
 refine zQ2 (y15==0) h62 (fun c53=>?_) (fun c53=>?_)
 have c:=zAO c53 c
 obtain ⟨e54,c⟩:=zA5 c
 refine zQF [ob ul_u1 (.vec w0.heap.size 27 (eSl (eInt .i64)) y6),ob u11 (.vec w0.heap.size 3 (eInt .i64) y16)] (rR u11::rI y15::rI y5::rR (vptr u11 (y15.toNat*1))::⟨_,true,[1],some (.vec w0.heap.size 3 (eInt .i64) (y16.set y15.toNat y5)),false,fun A=>.any⟩::[]) (ur (ur (ur (ur (ua (UAll.nil)))))) q d ?_ ?_
 exact rm h9<|rm h10<|rm h8<|rp (fun V Q U O D=>zAL (q.ok 1 _ Z).1 (D.g 0 Z) (D.g 1 Z) underlying27 sizeOf3 e54 Z)<|rc (OblR.took 1 _ _ Z Z Z Z Z fun V Q U O D u X Y J L M=>by have a0:Q 68=(vptr u11 (y15.toNat*1)):=D.g 0 Z;have a1:Q 67 = .int .i64 y5:=D.g 1 Z;obtain rfl:=J _ Z;exact zCY (zAa.eq a1) X Y a0 e54 Z (FldS.id _) sizeOf3 Z)<|rz
 intro done ρ σ A R w y s
 obtain ⟨h0,h1,h2,h7,h8,h9⟩:=k6 s.rg h0 h1 h2 h7 h8 h9
 replace h10:=k1 s.rg h10
 have z55:=s.inivR 0 Z
 have z56:=s.inivR 1 Z
 have z57:=s.on y 6 4 Z Z Z Z Z z56
 replace f_v0:=f_v0.stp s.stp
 replace f_v1:=f_v1.stp s.stp
 obtain ⟨B,j,d⟩:=s.s B C j q ⟨Z,⟨Z,N⟩⟩
 replace q:=s.left y [(0,ob ul_u1 (.vec w0.heap.size 27 (eSl (eInt .i64)) y6)),(6,ob u11 (.vec w0.heap.size 3 (eInt .i64) (y16.set y15.toNat y5)))] ⟨Z,Z,z55,Z,Z,⟨Z,Z,z57,Z,Z,N⟩⟩
 refine zQ9 ?_
 obtain ⟨x58,q59,c⟩:=zAD c
 obtain ⟨x60,q61,c⟩:=zAD c
 obtain ⟨e62,e63,e64,e65,c⟩:=ck4 c
 obtain ⟨x66,q67,c⟩:=zAD c
 obtain ⟨e68,e69,e70,e71,c⟩:=ck4 c
 obtain ⟨x72,q73,c⟩:=zAD c
 refine zQ5 (by kernel_rfl) (l:=eB p2::eB p2::gI (true&&(p2==true)) y5::gB (true&&(p2==true)) (decide (1<y5))::eB x58::eB x58::gI (true&&(x58==true)) y15::gB (true&&(x58==true)) (decide (1<y15))::eB x60::eB x60::gR (true&&(x60==true)) v0::gI (true&&(x60==true)) y5::gI (true&&(x60==true)) (y5-1)::gU (true&&(x60==true)) (bAt p0 (y5-1))::gR (true&&(x60==true)) v1::gI (true&&(x60==true)) y15::gI (true&&(x60==true)) (y15-2)::gU (true&&(x60==true)) (bAt p1 (y15-2))::gB (true&&(x60==true)) ((bAt p0 (y5-1))==(bAt p1 (y15-2)))::eB x66::eB x66::gR (true&&(x66==true)) v0::gI (true&&(x66==true)) y5::gI (true&&(x66==true)) (y5-2)::gU (true&&(x66==true)) (bAt p0 (y5-2))::gR (true&&(x66==true)) v1::gI (true&&(x66==true)) y15::gI (true&&(x66==true)) (y15-1)::gU (true&&(x66==true)) (bAt p1 (y15-1))::gB (true&&(x66==true)) ((bAt p0 (y5-2))==(bAt p1 (y15-1)))::eB x72::[]) (tl:=[]) (by kernel_rfl) (by kernel_rfl) (by kernel_rfl) (by kernel_rfl) ?_ ?_
 exact om h2<|ov<|gm 1 true h8<|og 1 true (fun G Q U W H D=>zCM (D.h 0 G Z) Z)<|op (fun Q U W H D=>zAF p2 (D.g 0 Z) (fun hc=>by have a1:Q 94 = .bool (decide (1<y5)):=D 1 _ _ _ Z Z Z Z (zAc Z (zAP hc));show _=Value.bool x58;rw [q59,hc];exact a1) (fun hc=>by show _=Value.bool x58;rw [q59,hc];exact Z))<|ov<|gm 5 true h10<|og 5 true (fun G Q U W H D=>zCM (D.h 0 G Z) Z)<|op (fun Q U W H D=>zAF x58 (D.g 0 Z) (fun hc=>by have a1:Q 98 = .bool (decide (1<y15)):=D 1 _ _ _ Z Z Z Z (zAc Z (zAP hc));show _=Value.bool x60;rw [q61,hc];exact a1) (fun hc=>by show _=Value.bool x60;rw [q61,hc];exact Z))<|ov<|gm 9 true h0<|gm 9 true h8<|og 9 true (fun G Q U W H D=>zAb (D.h 0 G Z) Z (gd e62 G))<|og 9 true (fun G Q U W H D=>zAB ((f_v0.fr W).eq (D.h 0 G Z)) (D.h 1 G Z) underlying9 (gd e63 G))<|gm 9 true h1<|gm 9 true h10<|og 9 true (fun G Q U W H D=>zAb (D.h 0 G Z) Z (gd e64 G))<|og 9 true (fun G Q U W H D=>zAB ((f_v1.fr W).eq (D.h 0 G Z)) (D.h 1 G Z) underlying9 (gd e65 G))<|og 9 true (fun G Q U W H D=>zAo (D.h 0 G Z) (D.h 1 G Z))<|op (fun Q U W H D=>zAF x60 (D.g 0 Z) (fun hc=>by have a1:Q 109 = .bool ((bAt p0 (y5-1))==(bAt p1 (y15-2))):=D 1 _ _ _ Z Z Z Z (zAc Z (zAP hc));show _=Value.bool x66;rw [q67,hc];exact a1) (fun hc=>by show _=Value.bool x66;rw [q67,hc];exact Z))<|ov<|gm 20 true h0<|gm 20 true h8<|og 20 true (fun G Q U W H D=>zAb (D.h 0 G Z) Z (gd e68 G))<|og 20 true (fun G Q U W H D=>zAB ((f_v0.fr W).eq (D.h 0 G Z)) (D.h 1 G Z) underlying9 (gd e69 G))<|gm 20 true h1<|gm 20 true h10<|og 20 true (fun G Q U W H D=>zAb (D.h 0 G Z) Z (gd e70 G))<|og 20 true (fun G Q U W H D=>zAB ((f_v1.fr W).eq (D.h 0 G Z)) (D.h 1 G Z) underlying9 (gd e71 G))<|og 20 true (fun G Q U W H D=>zAo (D.h 0 G Z) (D.h 1 G Z))<|op (fun Q U W H D=>zAF x66 (D.g 0 Z) (fun hc=>by have a1:Q 120 = .bool ((bAt p0 (y5-2))==(bAt p1 (y15-1))):=D 1 _ _ _ Z Z Z Z (zAc Z (zAP hc));show _=Value.bool x72;rw [q73,hc];exact a1) (fun hc=>by show _=Value.bool x72;rw [q73,hc];exact Z))<|oz
 intro R w m n p
 obtain ⟨h0,h1,h2,h7,h8,h9⟩:=k6 n h0 h1 h2 h7 h8 h9
 replace h10:=k1 n h10
 have h121:=p.r 30 Z
 replace f_v0:=f_v0.fr m
 replace f_v1:=f_v1.fr m
 replace q:=q.fr m
 replace d:=d.fr m.size
 replace j:=j.trans m
 refine zQ2 x72 h121 (fun c74=>?_) (fun c74=>?_)
 have c:=zAO c74 c
 obtain ⟨e75,e76,e77,e78,c⟩:=ck4 c
 obtain ⟨e79,e80,e81,c⟩:=ck3 c
 refine zQ6 [ob ul_u1 (.vec w0.heap.size 27 (eSl (eInt .i64)) y6),ob u11 (.vec w0.heap.size 3 (eInt .i64) (y16.set y15.toNat y5))] (rR u11::rI y15::rR u11::rI y15::rR (vptr u11 (y15.toNat*1))::rI (gtD (y16.set y15.toNat y5) y15)::rR ul_u1::rI y5::rI (y5-2)::rR (vptr ul_u1 ((y5-2).toNat*1))::(rF fun A=>.rep (eSl (eInt .i64)) A (gtD y6 (y5-2)))::rI y15::rI (y15-2)::(rF fun A=>.qtr (eInt .i64) A (gtD (gtD y6 (y5-2)) (y15-2)))::rI (gtD (gtD y6 (y5-2)) (y15-2))::rI ((gtD (gtD y6 (y5-2)) (y15-2))+1)::rI (min (gtD (y16.set y15.toNat y5) y15) ((gtD (gtD y6 (y5-2)) (y15-2))+1))::rR (vptr u11 (y15.toNat*1))::⟨_,true,[1],some (.vec w0.heap.size 3 (eInt .i64) ((y16.set y15.toNat y5).set y15.toNat (min (gtD (y16.set y15.toNat y5) y15) ((gtD (gtD y6 (y5-2)) (y15-2))+1)))),false,fun A=>.any⟩::[]) (by kernel_rfl) (by kernel_rfl) (by kernel_rfl) (Wf.mk' (by kernel_rfl) (ur (ur (ur (ur (ur (ur (ur (ur (ur (ur (up (ur (ur (UAll.cons zBL (ur (ur (ur (ur (ua (UAll.nil)))))))))))))))))))) (by kernel_rfl) (by kernel_rfl)) q d ?_ ?_
 exact rm h9<|rm h10<|rm h9<|rm h10<|rp (fun V Q U O D=>zAL (q.ok 1 _ Z).1 (D.g 0 Z) (D.g 1 Z) underlying27 sizeOf3 e75 Z)<|rp (fun V Q U O D=>OpF.int (zAw (O.rd 1 _ Z Z) (D.g 0 Z) e75 Z (Fld.id _) Z isAgg3 sizeOf3))<|rm h7<|rm h8<|rp (fun V Q U O D=>zAb (D.g 0 Z) Z e76)<|rp (fun V Q U O D=>zAL (q.ok 0 _ Z).1 (D.g 0 Z) (D.g 1 Z) underlying227 sizeOf27 e77 Z)<|rp (fun V Q U O D=>(zAw (O.rd 0 _ Z Z) (D.g 0 Z) e77 Z (Fld.id _) Z isAgg27 sizeOf27))<|rm h10<|rp (fun V Q U O D=>zAb (D.g 0 Z) Z e78)<|rp (fun V Q U O D=>zA7 (D.g 0 Z) (D.g 1 Z) underlying27 sizeOf3 e79)<|rp (fun V Q U O D=>OpF.int (zAT (QRep.ptr (D.g 0 Z)) isAgg3 sizeOf3))<|rp (fun V Q U O D=>zAR (D.g 0 Z) Z e80)<|rp (fun V Q U O D=>zGy (D.g 0 Z) (D.g 1 Z))<|rp (fun V Q U O D=>zAL (q.ok 1 _ Z).1 (D.g 0 Z) (D.g 1 Z) underlying27 sizeOf3 e81 Z)<|rc (OblR.took 1 _ _ Z Z Z Z Z fun V Q U O D u X Y J L M=>by have a0:Q 139=(vptr u11 (y15.toNat*1)):=D.g 0 Z;have a1:Q 138 = .int .i64 (min (gtD (y16.set y15.toNat y5) y15) ((gtD (gtD y6 (y5-2)) (y15-2))+1)):=D.g 1 Z;obtain rfl:=J _ Z;exact zCY (zAa.eq a1) X Y a0 e81 Z (FldS.id _) sizeOf3 Z)<|rz
 intro done ρ σ A R w y s
 obtain ⟨h0,h1,h2,h7,h8,h9⟩:=k6 s.rg h0 h1 h2 h7 h8 h9
 replace h10:=k1 s.rg h10
 have z82:=s.inivR 0 Z
 have z83:=s.inivR 1 Z
 have z84:=s.on y 20 18 Z Z Z Z Z z83
 replace f_v0:=f_v0.stp s.stp
 replace f_v1:=f_v1.stp s.stp
 obtain ⟨B,j,d⟩:=s.s B C j q ⟨Z,⟨Z,N⟩⟩
 replace q:=s.left y [(0,ob ul_u1 (.vec w0.heap.size 27 (eSl (eInt .i64)) y6)),(20,ob u11 (.vec w0.heap.size 3 (eInt .i64) ((y16.set y15.toNat y5).set y15.toNat (min (gtD (y16.set y15.toNat y5) y15) ((gtD (gtD y6 (y5-2)) (y15-2))+1)))))] ⟨Z,Z,z82,Z,Z,⟨Z,Z,z84,Z,Z,N⟩⟩
 obtain ⟨Yg84,g_Yg84⟩:∃ z,z=((y16.set y15.toNat y5).set y15.toNat (min (gtD (y16.set y15.toNat y5) y15) ((gtD (gtD y6 (y5-2)) (y15-2))+1))):=⟨_,Z⟩
 rw [← g_Yg84] at q
 try rw [← g_Yg84] at c
 obtain ⟨e86,c⟩:=zA5 c
 refine HT.u d j (eI y15::eI (y15+1)::eI (y15+1)::[]) ?_ ?_
 exact om h10<|op (fun Q U W H D=>zAR (D.g 0 Z) Z e86)<|oa<|oz
 intro R w m n p d j
 obtain ⟨h0,h1,h2,h7,h8,h9⟩:=k6 n h0 h1 h2 h7 h8 h9
 have h10:=p.r 2 Z
 replace f_v0:=f_v0.fr m
 replace f_v1:=f_v1.fr m
 replace q:=q.fr m
 exact ei k (And.intro (Nat.lt_succ_self k) ⟨_,_,_,c,d,j,B,q,h0,h1,h2,h7,h8,h9,h10,f_v0,f_v1⟩)
 have c:=zAN c74 c
 refine zQA ?_
 obtain ⟨e87,c⟩:=zA5 c
 refine HT.u d j (eI y15::eI (y15+1)::eI (y15+1)::[]) ?_ ?_
 exact om h10<|op (fun Q U W H D=>zAR (D.g 0 Z) Z e87)<|oa<|oz
 intro R w m n p d j
 obtain ⟨h0,h1,h2,h7,h8,h9⟩:=k6 n h0 h1 h2 h7 h8 h9
 have h10:=p.r 2 Z
 replace f_v0:=f_v0.fr m
 replace f_v1:=f_v1.fr m
 replace q:=q.fr m
 exact ei k (And.intro (Nat.lt_succ_self k) ⟨_,_,_,c,d,j,B,q,h0,h1,h2,h7,h8,h9,h10,f_v0,f_v1⟩)
 have c:=zAN c53 c
 refine zQ9 ?_
 obtain ⟨e88,e89,e90,e91,c⟩:=ck4 c
 refine zQ5 (by kernel_rfl) (l:=eR v0::eI y5::eI (y5-1)::eU (bAt p0 (y5-1))::eR v1::eI y15::eI (y15-1)::eU (bAt p1 (y15-1))::eB ((bAt p0 (y5-1))==(bAt p1 (y15-1)))::eB ((bAt p0 (y5-1))==(bAt p1 (y15-1)))::[]) (tl:=[]) (by kernel_rfl) (by kernel_rfl) (by kernel_rfl) (by kernel_rfl) ?_ ?_
 exact om h0<|om h8<|op (fun Q U W H D=>zAb (D.g 0 Z) Z e88)<|op (fun Q U W H D=>zAB ((f_v0.fr W).eq (D.g 0 Z)) (D.g 1 Z) underlying9 e89)<|om h1<|om h10<|op (fun Q U W H D=>zAb (D.g 0 Z) Z e90)<|op (fun Q U W H D=>zAB ((f_v1.fr W).eq (D.g 0 Z)) (D.g 1 Z) underlying9 e91)<|op (fun Q U W H D=>zAo (D.g 0 Z) (D.g 1 Z))<|oa<|oz
 intro R w m n p
 obtain ⟨h0,h1,h2,h7,h8,h9⟩:=k6 n h0 h1 h2 h7 h8 h9
 replace h10:=k1 n h10
 have h69:=p.r 9 Z
 replace f_v0:=f_v0.fr m
 replace f_v1:=f_v1.fr m
 replace q:=q.fr m
 replace d:=d.fr m.size
 replace j:=j.trans m
 refine zQ2 ((bAt p0 (y5-1))==(bAt p1 (y15-1))) h69 (fun c92=>?_) (fun c92=>?_)
 have c:=zAO c92 c
 obtain ⟨e93,e94,e95,e96,c⟩:=ck4 c
 obtain ⟨e97,c⟩:=zA5 c
 refine zQF [ob ul_u1 (.vec w0.heap.size 27 (eSl (eInt .i64)) y6),ob u11 (.vec w0.heap.size 3 (eInt .i64) y16)] (rR u11::rI y15::rR ul_u1::rI y5::rI (y5-1)::rR (vptr ul_u1 ((y5-1).toNat*1))::(rF fun A=>.rep (eSl (eInt .i64)) A (gtD y6 (y5-1)))::rI y15::rI (y15-1)::(rF fun A=>.qtr (eInt .i64) A (gtD (gtD y6 (y5-1)) (y15-1)))::rI (gtD (gtD y6 (y5-1)) (y15-1))::rR (vptr u11 (y15.toNat*1))::⟨_,true,[1],some (.vec w0.heap.size 3 (eInt .i64) (y16.set y15.toNat (gtD (gtD y6 (y5-1)) (y15-1)))),false,fun A=>.any⟩::[]) (ur (ur (ur (ur (ur (ur (up (ur (ur (UAll.cons zBL (ur (ur (ua (UAll.nil)))))))))))))) q d ?_ ?_
 exact rm h9<|rm h10<|rm h7<|rm h8<|rp (fun V Q U O D=>zAb (D.g 0 Z) Z e93)<|rp (fun V Q U O D=>zAL (q.ok 0 _ Z).1 (D.g 0 Z) (D.g 1 Z) underlying227 sizeOf27 e94 Z)<|rp (fun V Q U O D=>(zAw (O.rd 0 _ Z Z) (D.g 0 Z) e94 Z (Fld.id _) Z isAgg27 sizeOf27))<|rm h10<|rp (fun V Q U O D=>zAb (D.g 0 Z) Z e95)<|rp (fun V Q U O D=>zA7 (D.g 0 Z) (D.g 1 Z) underlying27 sizeOf3 e96)<|rp (fun V Q U O D=>OpF.int (zAT (QRep.ptr (D.g 0 Z)) isAgg3 sizeOf3))<|rp (fun V Q U O D=>zAL (q.ok 1 _ Z).1 (D.g 0 Z) (D.g 1 Z) underlying27 sizeOf3 e97 Z)<|rc (OblR.took 1 _ _ Z Z Z Z Z fun V Q U O D u X Y J L M=>by have a0:Q 90=(vptr u11 (y15.toNat*1)):=D.g 0 Z;have a1:Q 89 = .int .i64 (gtD (gtD y6 (y5-1)) (y15-1)):=D.g 1 Z;obtain rfl:=J _ Z;exact zCY (zAa.eq a1) X Y a0 e97 Z (FldS.id _) sizeOf3 Z)<|rz
 intro done ρ σ A R w y s
 obtain ⟨h0,h1,h2,h7,h8,h9⟩:=k6 s.rg h0 h1 h2 h7 h8 h9
 replace h10:=k1 s.rg h10
 have z98:=s.inivR 0 Z
 have z99:=s.inivR 1 Z
 have z100:=s.on y 14 12 Z Z Z Z Z z99
 replace f_v0:=f_v0.stp s.stp
 replace f_v1:=f_v1.stp s.stp
 obtain ⟨B,j,d⟩:=s.s B C j q ⟨Z,⟨Z,N⟩⟩
 replace q:=s.left y [(0,ob ul_u1 (.vec w0.heap.size 27 (eSl (eInt .i64)) y6)),(14,ob u11 (.vec w0.heap.size 3 (eInt .i64) (y16.set y15.toNat (gtD (gtD y6 (y5-1)) (y15-1)))))] ⟨Z,Z,z98,Z,Z,⟨Z,Z,z100,Z,Z,N⟩⟩
 refine zQ9 ?_
 obtain ⟨x101,q102,c⟩:=zAD c
 obtain ⟨x103,q104,c⟩:=zAD c
 obtain ⟨e105,e106,e107,e108,c⟩:=ck4 c
 obtain ⟨x109,q110,c⟩:=zAD c
 obtain ⟨e111,e112,e113,e114,c⟩:=ck4 c
 obtain ⟨x115,q116,c⟩:=zAD c
 refine zQ5 (by kernel_rfl) (l:=eB p2::eB p2::gI (true&&(p2==true)) y5::gB (true&&(p2==true)) (decide (1<y5))::eB x101::eB x101::gI (true&&(x101==true)) y15::gB (true&&(x101==true)) (decide (1<y15))::eB x103::eB x103::gR (true&&(x103==true)) v0::gI (true&&(x103==true)) y5::gI (true&&(x103==true)) (y5-1)::gU (true&&(x103==true)) (bAt p0 (y5-1))::gR (true&&(x103==true)) v1::gI (true&&(x103==true)) y15::gI (true&&(x103==true)) (y15-2)::gU (true&&(x103==true)) (bAt p1 (y15-2))::gB (true&&(x103==true)) ((bAt p0 (y5-1))==(bAt p1 (y15-2)))::eB x109::eB x109::gR (true&&(x109==true)) v0::gI (true&&(x109==true)) y5::gI (true&&(x109==true)) (y5-2)::gU (true&&(x109==true)) (bAt p0 (y5-2))::gR (true&&(x109==true)) v1::gI (true&&(x109==true)) y15::gI (true&&(x109==true)) (y15-1)::gU (true&&(x109==true)) (bAt p1 (y15-1))::gB (true&&(x109==true)) ((bAt p0 (y5-2))==(bAt p1 (y15-1)))::eB x115::[]) (tl:=[]) (by kernel_rfl) (by kernel_rfl) (by kernel_rfl) (by kernel_rfl) ?_ ?_
 exact om h2<|ov<|gm 1 true h8<|og 1 true (fun G Q U W H D=>zCM (D.h 0 G Z) Z)<|op (fun Q U W H D=>zAF p2 (D.g 0 Z) (fun hc=>by have a1:Q 94 = .bool (decide (1<y5)):=D 1 _ _ _ Z Z Z Z (zAc Z (zAP hc));show _=Value.bool x101;rw [q102,hc];exact a1) (fun hc=>by show _=Value.bool x101;rw [q102,hc];exact Z))<|ov<|gm 5 true h10<|og 5 true (fun G Q U W H D=>zCM (D.h 0 G Z) Z)<|op (fun Q U W H D=>zAF x101 (D.g 0 Z) (fun hc=>by have a1:Q 98 = .bool (decide (1<y15)):=D 1 _ _ _ Z Z Z Z (zAc Z (zAP hc));show _=Value.bool x103;rw [q104,hc];exact a1) (fun hc=>by show _=Value.bool x103;rw [q104,hc];exact Z))<|ov<|gm 9 true h0<|gm 9 true h8<|og 9 true (fun G Q U W H D=>zAb (D.h 0 G Z) Z (gd e105 G))<|og 9 true (fun G Q U W H D=>zAB ((f_v0.fr W).eq (D.h 0 G Z)) (D.h 1 G Z) underlying9 (gd e106 G))<|gm 9 true h1<|gm 9 true h10<|og 9 true (fun G Q U W H D=>zAb (D.h 0 G Z) Z (gd e107 G))<|og 9 true (fun G Q U W H D=>zAB ((f_v1.fr W).eq (D.h 0 G Z)) (D.h 1 G Z) underlying9 (gd e108 G))<|og 9 true (fun G Q U W H D=>zAo (D.h 0 G Z) (D.h 1 G Z))<|op (fun Q U W H D=>zAF x103 (D.g 0 Z) (fun hc=>by have a1:Q 109 = .bool ((bAt p0 (y5-1))==(bAt p1 (y15-2))):=D 1 _ _ _ Z Z Z Z (zAc Z (zAP hc));show _=Value.bool x109;rw [q110,hc];exact a1) (fun hc=>by show _=Value.bool x109;rw [q110,hc];exact Z))<|ov<|gm 20 true h0<|gm 20 true h8<|og 20 true (fun G Q U W H D=>zAb (D.h 0 G Z) Z (gd e111 G))<|og 20 true (fun G Q U W H D=>zAB ((f_v0.fr W).eq (D.h 0 G Z)) (D.h 1 G Z) underlying9 (gd e112 G))<|gm 20 true h1<|gm 20 true h10<|og 20 true (fun G Q U W H D=>zAb (D.h 0 G Z) Z (gd e113 G))<|og 20 true (fun G Q U W H D=>zAB ((f_v1.fr W).eq (D.h 0 G Z)) (D.h 1 G Z) underlying9 (gd e114 G))<|og 20 true (fun G Q U W H D=>zAo (D.h 0 G Z) (D.h 1 G Z))<|op (fun Q U W H D=>zAF x109 (D.g 0 Z) (fun hc=>by have a1:Q 120 = .bool ((bAt p0 (y5-2))==(bAt p1 (y15-1))):=D 1 _ _ _ Z Z Z Z (zAc Z (zAP hc));show _=Value.bool x115;rw [q116,hc];exact a1) (fun hc=>by show _=Value.bool x115;rw [q116,hc];exact Z))<|oz
 intro R w m n p
 obtain ⟨h0,h1,h2,h7,h8,h9⟩:=k6 n h0 h1 h2 h7 h8 h9
 replace h10:=k1 n h10
 have h121:=p.r 30 Z
 replace f_v0:=f_v0.fr m
 replace f_v1:=f_v1.fr m
 replace q:=q.fr m
 replace d:=d.fr m.size
 replace j:=j.trans m
 refine zQ2 x115 h121 (fun c117=>?_) (fun c117=>?_)
 have c:=zAO c117 c
 obtain ⟨e118,e119,e120,e121,c⟩:=ck4 c
 obtain ⟨e122,e123,e124,c⟩:=ck3 c
 refine zQ6 [ob ul_u1 (.vec w0.heap.size 27 (eSl (eInt .i64)) y6),ob u11 (.vec w0.heap.size 3 (eInt .i64) (y16.set y15.toNat (gtD (gtD y6 (y5-1)) (y15-1))))] (rR u11::rI y15::rR u11::rI y15::rR (vptr u11 (y15.toNat*1))::rI (gtD (y16.set y15.toNat (gtD (gtD y6 (y5-1)) (y15-1))) y15)::rR ul_u1::rI y5::rI (y5-2)::rR (vptr ul_u1 ((y5-2).toNat*1))::(rF fun A=>.rep (eSl (eInt .i64)) A (gtD y6 (y5-2)))::rI y15::rI (y15-2)::(rF fun A=>.qtr (eInt .i64) A (gtD (gtD y6 (y5-2)) (y15-2)))::rI (gtD (gtD y6 (y5-2)) (y15-2))::rI ((gtD (gtD y6 (y5-2)) (y15-2))+1)::rI (min (gtD (y16.set y15.toNat (gtD (gtD y6 (y5-1)) (y15-1))) y15) ((gtD (gtD y6 (y5-2)) (y15-2))+1))::rR (vptr u11 (y15.toNat*1))::⟨_,true,[1],some (.vec w0.heap.size 3 (eInt .i64) ((y16.set y15.toNat (gtD (gtD y6 (y5-1)) (y15-1))).set y15.toNat (min (gtD (y16.set y15.toNat (gtD (gtD y6 (y5-1)) (y15-1))) y15) ((gtD (gtD y6 (y5-2)) (y15-2))+1)))),false,fun A=>.any⟩::[]) (by kernel_rfl) (by kernel_rfl) (by kernel_rfl) (Wf.mk' (by kernel_rfl) (ur (ur (ur (ur (ur (ur (ur (ur (ur (ur (up (ur (ur (UAll.cons zBL (ur (ur (ur (ur (ua (UAll.nil)))))))))))))))))))) (by kernel_rfl) (by kernel_rfl)) q d ?_ ?_
 exact rm h9<|rm h10<|rm h9<|rm h10<|rp (fun V Q U O D=>zAL (q.ok 1 _ Z).1 (D.g 0 Z) (D.g 1 Z) underlying27 sizeOf3 e118 Z)<|rp (fun V Q U O D=>OpF.int (zAw (O.rd 1 _ Z Z) (D.g 0 Z) e118 Z (Fld.id _) Z isAgg3 sizeOf3))<|rm h7<|rm h8<|rp (fun V Q U O D=>zAb (D.g 0 Z) Z e119)<|rp (fun V Q U O D=>zAL (q.ok 0 _ Z).1 (D.g 0 Z) (D.g 1 Z) underlying227 sizeOf27 e120 Z)<|rp (fun V Q U O D=>(zAw (O.rd 0 _ Z Z) (D.g 0 Z) e120 Z (Fld.id _) Z isAgg27 sizeOf27))<|rm h10<|rp (fun V Q U O D=>zAb (D.g 0 Z) Z e121)<|rp (fun V Q U O D=>zA7 (D.g 0 Z) (D.g 1 Z) underlying27 sizeOf3 e122)<|rp (fun V Q U O D=>OpF.int (zAT (QRep.ptr (D.g 0 Z)) isAgg3 sizeOf3))<|rp (fun V Q U O D=>zAR (D.g 0 Z) Z e123)<|rp (fun V Q U O D=>zGy (D.g 0 Z) (D.g 1 Z))<|rp (fun V Q U O D=>zAL (q.ok 1 _ Z).1 (D.g 0 Z) (D.g 1 Z) underlying27 sizeOf3 e124 Z)<|rc (OblR.took 1 _ _ Z Z Z Z Z fun V Q U O D u X Y J L M=>by have a0:Q 139=(vptr u11 (y15.toNat*1)):=D.g 0 Z;have a1:Q 138 = .int .i64 (min (gtD (y16.set y15.toNat (gtD (gtD y6 (y5-1)) (y15-1))) y15) ((gtD (gtD y6 (y5-2)) (y15-2))+1)):=D.g 1 Z;obtain rfl:=J _ Z;exact zCY (zAa.eq a1) X Y a0 e124 Z (FldS.id _) sizeOf3 Z)<|rz
 intro done ρ σ A R w y s
 obtain ⟨h0,h1,h2,h7,h8,h9⟩:=k6 s.rg h0 h1 h2 h7 h8 h9
 replace h10:=k1 s.rg h10
 have z125:=s.inivR 0 Z
 have z126:=s.inivR 1 Z
 have z127:=s.on y 20 18 Z Z Z Z Z z126
 replace f_v0:=f_v0.stp s.stp
 replace f_v1:=f_v1.stp s.stp
 obtain ⟨B,j,d⟩:=s.s B C j q ⟨Z,⟨Z,N⟩⟩
 replace q:=s.left y [(0,ob ul_u1 (.vec w0.heap.size 27 (eSl (eInt .i64)) y6)),(20,ob u11 (.vec w0.heap.size 3 (eInt .i64) ((y16.set y15.toNat (gtD (gtD y6 (y5-1)) (y15-1))).set y15.toNat (min (gtD (y16.set y15.toNat (gtD (gtD y6 (y5-1)) (y15-1))) y15) ((gtD (gtD y6 (y5-2)) (y15-2))+1)))))] ⟨Z,Z,z125,Z,Z,⟨Z,Z,z127,Z,Z,N⟩⟩
 obtain ⟨Yg127,g_Yg127⟩:∃ z,z=((y16.set y15.toNat (gtD (gtD y6 (y5-1)) (y15-1))).set y15.toNat (min (gtD (y16.set y15.toNat (gtD (gtD y6 (y5-1)) (y15-1))) y15) ((gtD (gtD y6 (y5-2)) (y15-2))+1))):=⟨_,Z⟩
 rw [← g_Yg127] at q
 try rw [← g_Yg127] at c
 obtain ⟨e129,c⟩:=zA5 c
 refine HT.u d j (eI y15::eI (y15+1)::eI (y15+1)::[]) ?_ ?_
 exact om h10<|op (fun Q U W H D=>zAR (D.g 0 Z) Z e129)<|oa<|oz
 intro R w m n p d j
 obtain ⟨h0,h1,h2,h7,h8,h9⟩:=k6 n h0 h1 h2 h7 h8 h9
 have h10:=p.r 2 Z
 replace f_v0:=f_v0.fr m
 replace f_v1:=f_v1.fr m
 replace q:=q.fr m
 exact ei k (And.intro (Nat.lt_succ_self k) ⟨_,_,_,c,d,j,B,q,h0,h1,h2,h7,h8,h9,h10,f_v0,f_v1⟩)
 have c:=zAN c117 c
 refine zQA ?_
 obtain ⟨e130,c⟩:=zA5 c
 refine HT.u d j (eI y15::eI (y15+1)::eI (y15+1)::[]) ?_ ?_
 exact om h10<|op (fun Q U W H D=>zAR (D.g 0 Z) Z e130)<|oa<|oz
 intro R w m n p d j
 obtain ⟨h0,h1,h2,h7,h8,h9⟩:=k6 n h0 h1 h2 h7 h8 h9
 have h10:=p.r 2 Z
 replace f_v0:=f_v0.fr m
 replace f_v1:=f_v1.fr m
 replace q:=q.fr m
 exact ei k (And.intro (Nat.lt_succ_self k) ⟨_,_,_,c,d,j,B,q,h0,h1,h2,h7,h8,h9,h10,f_v0,f_v1⟩)
 have c:=zAN c92 c
 obtain ⟨e131,e132,e133,e134,c⟩:=ck4 c
 obtain ⟨e135,e136,e137,e138,c⟩:=ck4 c
 obtain ⟨e139,e140,e141,c⟩:=ck3 c
 refine zQ6 [ob ul_u1 (.vec w0.heap.size 27 (eSl (eInt .i64)) y6),ob u11 (.vec w0.heap.size 3 (eInt .i64) y16)] (rR u11::rI y15::rR ul_u1::rI y5::rI (y5-1)::rR (vptr ul_u1 ((y5-1).toNat*1))::(rF fun A=>.rep (eSl (eInt .i64)) A (gtD y6 (y5-1)))::rI y15::(rF fun A=>.qtr (eInt .i64) A (gtD (gtD y6 (y5-1)) y15))::rI (gtD (gtD y6 (y5-1)) y15)::rR u11::rI y15::rI (y15-1)::rR (vptr u11 ((y15-1).toNat*1))::rI (gtD y16 (y15-1))::rR ul_u1::rI y5::rI (y5-1)::rR (vptr ul_u1 ((y5-1).toNat*1))::(rF fun A=>.rep (eSl (eInt .i64)) A (gtD y6 (y5-1)))::rI y15::rI (y15-1)::(rF fun A=>.qtr (eInt .i64) A (gtD (gtD y6 (y5-1)) (y15-1)))::rI (gtD (gtD y6 (y5-1)) (y15-1))::rI (min (min (gtD (gtD y6 (y5-1)) y15) (gtD y16 (y15-1))) (gtD (gtD y6 (y5-1)) (y15-1)))::rI (1+(min (min (gtD (gtD y6 (y5-1)) y15) (gtD y16 (y15-1))) (gtD (gtD y6 (y5-1)) (y15-1))))::rR (vptr u11 (y15.toNat*1))::⟨_,true,[1],some (.vec w0.heap.size 3 (eInt .i64) (y16.set y15.toNat (1+(min (min (gtD (gtD y6 (y5-1)) y15) (gtD y16 (y15-1))) (gtD (gtD y6 (y5-1)) (y15-1)))))),false,fun A=>.any⟩::[]) (by kernel_rfl) (by kernel_rfl) (by kernel_rfl) (Wf.mk' (by kernel_rfl) (ur (ur (ur (ur (ur (ur (up (ur (UAll.cons zBL (ur (ur (ur (ur (ur (ur (ur (ur (ur (ur (up (ur (ur (UAll.cons zBL (ur (ur (ur (ur (ua (UAll.nil))))))))))))))))))))))))))))) (by kernel_rfl) (by kernel_rfl)) q d ?_ ?_
 exact rm h9<|rm h10<|rm h7<|rm h8<|rp (fun V Q U O D=>zAb (D.g 0 Z) Z e131)<|rp (fun V Q U O D=>zAL (q.ok 0 _ Z).1 (D.g 0 Z) (D.g 1 Z) underlying227 sizeOf27 e132 Z)<|rp (fun V Q U O D=>(zAw (O.rd 0 _ Z Z) (D.g 0 Z) e132 Z (Fld.id _) Z isAgg27 sizeOf27))<|rm h10<|rp (fun V Q U O D=>zA7 (D.g 0 Z) (D.g 1 Z) underlying27 sizeOf3 e133)<|rp (fun V Q U O D=>OpF.int (zAT (QRep.ptr (D.g 0 Z)) isAgg3 sizeOf3))<|rm h9<|rm h10<|rp (fun V Q U O D=>zAb (D.g 0 Z) Z e134)<|rp (fun V Q U O D=>zAL (q.ok 1 _ Z).1 (D.g 0 Z) (D.g 1 Z) underlying27 sizeOf3 e135 Z)<|rp (fun V Q U O D=>OpF.int (zAw (O.rd 1 _ Z Z) (D.g 0 Z) e135 Z (Fld.id _) Z isAgg3 sizeOf3))<|rm h7<|rm h8<|rp (fun V Q U O D=>zAb (D.g 0 Z) Z e136)<|rp (fun V Q U O D=>zAL (q.ok 0 _ Z).1 (D.g 0 Z) (D.g 1 Z) underlying227 sizeOf27 e137 Z)<|rp (fun V Q U O D=>(zAw (O.rd 0 _ Z Z) (D.g 0 Z) e137 Z (Fld.id _) Z isAgg27 sizeOf27))<|rm h10<|rp (fun V Q U O D=>zAb (D.g 0 Z) Z e138)<|rp (fun V Q U O D=>zA7 (D.g 0 Z) (D.g 1 Z) underlying27 sizeOf3 e139)<|rp (fun V Q U O D=>OpF.int (zAT (QRep.ptr (D.g 0 Z)) isAgg3 sizeOf3))<|rp (fun V Q U O D=>zKX (D.g 0 Z) (D.g 1 Z) (D.g 2 Z))<|rp (fun V Q U O D=>zAR Z (D.g 0 Z) e140)<|rp (fun V Q U O D=>zAL (q.ok 1 _ Z).1 (D.g 0 Z) (D.g 1 Z) underlying27 sizeOf3 e141 Z)<|rc (OblR.took 1 _ _ Z Z Z Z Z fun V Q U O D u X Y J L M=>by have a0:Q 54=(vptr u11 (y15.toNat*1)):=D.g 0 Z;have a1:Q 53 = .int .i64 (1+(min (min (gtD (gtD y6 (y5-1)) y15) (gtD y16 (y15-1))) (gtD (gtD y6 (y5-1)) (y15-1)))):=D.g 1 Z;obtain rfl:=J _ Z;exact zCY (zAa.eq a1) X Y a0 e141 Z (FldS.id _) sizeOf3 Z)<|rz
 intro done ρ σ A R w y s
 obtain ⟨h0,h1,h2,h7,h8,h9⟩:=k6 s.rg h0 h1 h2 h7 h8 h9
 replace h10:=k1 s.rg h10
 have z142:=s.inivR 0 Z
 have z143:=s.inivR 1 Z
 have z144:=s.on y 29 27 Z Z Z Z Z z143
 replace f_v0:=f_v0.stp s.stp
 replace f_v1:=f_v1.stp s.stp
 obtain ⟨B,j,d⟩:=s.s B C j q ⟨Z,⟨Z,N⟩⟩
 replace q:=s.left y [(0,ob ul_u1 (.vec w0.heap.size 27 (eSl (eInt .i64)) y6)),(29,ob u11 (.vec w0.heap.size 3 (eInt .i64) (y16.set y15.toNat (1+(min (min (gtD (gtD y6 (y5-1)) y15) (gtD y16 (y15-1))) (gtD (gtD y6 (y5-1)) (y15-1)))))))] ⟨Z,Z,z142,Z,Z,⟨Z,Z,z144,Z,Z,N⟩⟩
 obtain ⟨Yg144,g_Yg144⟩:∃ z,z=(y16.set y15.toNat (1+(min (min (gtD (gtD y6 (y5-1)) y15) (gtD y16 (y15-1))) (gtD (gtD y6 (y5-1)) (y15-1))))):=⟨_,Z⟩
 rw [← g_Yg144] at q
 try rw [← g_Yg144] at c
 refine zQ9 ?_
 obtain ⟨x146,q147,c⟩:=zAD c
 obtain ⟨x148,q149,c⟩:=zAD c
 obtain ⟨e150,e151,e152,e153,c⟩:=ck4 c
 obtain ⟨x154,q155,c⟩:=zAD c
 obtain ⟨e156,e157,e158,e159,c⟩:=ck4 c
 obtain ⟨x160,q161,c⟩:=zAD c
 refine zQ5 (by kernel_rfl) (l:=eB p2::eB p2::gI (true&&(p2==true)) y5::gB (true&&(p2==true)) (decide (1<y5))::eB x146::eB x146::gI (true&&(x146==true)) y15::gB (true&&(x146==true)) (decide (1<y15))::eB x148::eB x148::gR (true&&(x148==true)) v0::gI (true&&(x148==true)) y5::gI (true&&(x148==true)) (y5-1)::gU (true&&(x148==true)) (bAt p0 (y5-1))::gR (true&&(x148==true)) v1::gI (true&&(x148==true)) y15::gI (true&&(x148==true)) (y15-2)::gU (true&&(x148==true)) (bAt p1 (y15-2))::gB (true&&(x148==true)) ((bAt p0 (y5-1))==(bAt p1 (y15-2)))::eB x154::eB x154::gR (true&&(x154==true)) v0::gI (true&&(x154==true)) y5::gI (true&&(x154==true)) (y5-2)::gU (true&&(x154==true)) (bAt p0 (y5-2))::gR (true&&(x154==true)) v1::gI (true&&(x154==true)) y15::gI (true&&(x154==true)) (y15-1)::gU (true&&(x154==true)) (bAt p1 (y15-1))::gB (true&&(x154==true)) ((bAt p0 (y5-2))==(bAt p1 (y15-1)))::eB x160::[]) (tl:=[]) (by kernel_rfl) (by kernel_rfl) (by kernel_rfl) (by kernel_rfl) ?_ ?_
 exact om h2<|ov<|gm 1 true h8<|og 1 true (fun G Q U W H D=>zCM (D.h 0 G Z) Z)<|op (fun Q U W H D=>zAF p2 (D.g 0 Z) (fun hc=>by have a1:Q 94 = .bool (decide (1<y5)):=D 1 _ _ _ Z Z Z Z (zAc Z (zAP hc));show _=Value.bool x146;rw [q147,hc];exact a1) (fun hc=>by show _=Value.bool x146;rw [q147,hc];exact Z))<|ov<|gm 5 true h10<|og 5 true (fun G Q U W H D=>zCM (D.h 0 G Z) Z)<|op (fun Q U W H D=>zAF x146 (D.g 0 Z) (fun hc=>by have a1:Q 98 = .bool (decide (1<y15)):=D 1 _ _ _ Z Z Z Z (zAc Z (zAP hc));show _=Value.bool x148;rw [q149,hc];exact a1) (fun hc=>by show _=Value.bool x148;rw [q149,hc];exact Z))<|ov<|gm 9 true h0<|gm 9 true h8<|og 9 true (fun G Q U W H D=>zAb (D.h 0 G Z) Z (gd e150 G))<|og 9 true (fun G Q U W H D=>zAB ((f_v0.fr W).eq (D.h 0 G Z)) (D.h 1 G Z) underlying9 (gd e151 G))<|gm 9 true h1<|gm 9 true h10<|og 9 true (fun G Q U W H D=>zAb (D.h 0 G Z) Z (gd e152 G))<|og 9 true (fun G Q U W H D=>zAB ((f_v1.fr W).eq (D.h 0 G Z)) (D.h 1 G Z) underlying9 (gd e153 G))<|og 9 true (fun G Q U W H D=>zAo (D.h 0 G Z) (D.h 1 G Z))<|op (fun Q U W H D=>zAF x148 (D.g 0 Z) (fun hc=>by have a1:Q 109 = .bool ((bAt p0 (y5-1))==(bAt p1 (y15-2))):=D 1 _ _ _ Z Z Z Z (zAc Z (zAP hc));show _=Value.bool x154;rw [q155,hc];exact a1) (fun hc=>by show _=Value.bool x154;rw [q155,hc];exact Z))<|ov<|gm 20 true h0<|gm 20 true h8<|og 20 true (fun G Q U W H D=>zAb (D.h 0 G Z) Z (gd e156 G))<|og 20 true (fun G Q U W H D=>zAB ((f_v0.fr W).eq (D.h 0 G Z)) (D.h 1 G Z) underlying9 (gd e157 G))<|gm 20 true h1<|gm 20 true h10<|og 20 true (fun G Q U W H D=>zAb (D.h 0 G Z) Z (gd e158 G))<|og 20 true (fun G Q U W H D=>zAB ((f_v1.fr W).eq (D.h 0 G Z)) (D.h 1 G Z) underlying9 (gd e159 G))<|og 20 true (fun G Q U W H D=>zAo (D.h 0 G Z) (D.h 1 G Z))<|op (fun Q U W H D=>zAF x154 (D.g 0 Z) (fun hc=>by have a1:Q 120 = .bool ((bAt p0 (y5-2))==(bAt p1 (y15-1))):=D 1 _ _ _ Z Z Z Z (zAc Z (zAP hc));show _=Value.bool x160;rw [q161,hc];exact a1) (fun hc=>by show _=Value.bool x160;rw [q161,hc];exact Z))<|oz
 intro R w m n p
 obtain ⟨h0,h1,h2,h7,h8,h9⟩:=k6 n h0 h1 h2 h7 h8 h9
 replace h10:=k1 n h10
 have h121:=p.r 30 Z
 replace f_v0:=f_v0.fr m
 replace f_v1:=f_v1.fr m
 replace q:=q.fr m
 replace d:=d.fr m.size
 replace j:=j.trans m
 refine zQ2 x160 h121 (fun c162=>?_) (fun c162=>?_)
 have c:=zAO c162 c
 obtain ⟨e163,e164,e165,e166,c⟩:=ck4 c
 obtain ⟨e167,e168,e169,c⟩:=ck3 c
 refine zQ6 [ob ul_u1 (.vec w0.heap.size 27 (eSl (eInt .i64)) y6),ob u11 (.vec w0.heap.size 3 (eInt .i64) Yg144)] (rR u11::rI y15::rR u11::rI y15::rR (vptr u11 (y15.toNat*1))::rI (gtD Yg144 y15)::rR ul_u1::rI y5::rI (y5-2)::rR (vptr ul_u1 ((y5-2).toNat*1))::(rF fun A=>.rep (eSl (eInt .i64)) A (gtD y6 (y5-2)))::rI y15::rI (y15-2)::(rF fun A=>.qtr (eInt .i64) A (gtD (gtD y6 (y5-2)) (y15-2)))::rI (gtD (gtD y6 (y5-2)) (y15-2))::rI ((gtD (gtD y6 (y5-2)) (y15-2))+1)::rI (min (gtD Yg144 y15) ((gtD (gtD y6 (y5-2)) (y15-2))+1))::rR (vptr u11 (y15.toNat*1))::⟨_,true,[1],some (.vec w0.heap.size 3 (eInt .i64) (Yg144.set y15.toNat (min (gtD Yg144 y15) ((gtD (gtD y6 (y5-2)) (y15-2))+1)))),false,fun A=>.any⟩::[]) (by kernel_rfl) (by kernel_rfl) (by kernel_rfl) (Wf.mk' (by kernel_rfl) (ur (ur (ur (ur (ur (ur (ur (ur (ur (ur (up (ur (ur (UAll.cons zBL (ur (ur (ur (ur (ua (UAll.nil)))))))))))))))))))) (by kernel_rfl) (by kernel_rfl)) q d ?_ ?_
 exact rm h9<|rm h10<|rm h9<|rm h10<|rp (fun V Q U O D=>zAL (q.ok 1 _ Z).1 (D.g 0 Z) (D.g 1 Z) underlying27 sizeOf3 e163 Z)<|rp (fun V Q U O D=>OpF.int (zAw (O.rd 1 _ Z Z) (D.g 0 Z) e163 Z (Fld.id _) Z isAgg3 sizeOf3))<|rm h7<|rm h8<|rp (fun V Q U O D=>zAb (D.g 0 Z) Z e164)<|rp (fun V Q U O D=>zAL (q.ok 0 _ Z).1 (D.g 0 Z) (D.g 1 Z) underlying227 sizeOf27 e165 Z)<|rp (fun V Q U O D=>(zAw (O.rd 0 _ Z Z) (D.g 0 Z) e165 Z (Fld.id _) Z isAgg27 sizeOf27))<|rm h10<|rp (fun V Q U O D=>zAb (D.g 0 Z) Z e166)<|rp (fun V Q U O D=>zA7 (D.g 0 Z) (D.g 1 Z) underlying27 sizeOf3 e167)<|rp (fun V Q U O D=>OpF.int (zAT (QRep.ptr (D.g 0 Z)) isAgg3 sizeOf3))<|rp (fun V Q U O D=>zAR (D.g 0 Z) Z e168)<|rp (fun V Q U O D=>zGy (D.g 0 Z) (D.g 1 Z))<|rp (fun V Q U O D=>zAL (q.ok 1 _ Z).1 (D.g 0 Z) (D.g 1 Z) underlying27 sizeOf3 e169 Z)<|rc (OblR.took 1 _ _ Z Z Z Z Z fun V Q U O D u X Y J L M=>by have a0:Q 139=(vptr u11 (y15.toNat*1)):=D.g 0 Z;have a1:Q 138 = .int .i64 (min (gtD Yg144 y15) ((gtD (gtD y6 (y5-2)) (y15-2))+1)):=D.g 1 Z;obtain rfl:=J _ Z;exact zCY (zAa.eq a1) X Y a0 e169 Z (FldS.id _) sizeOf3 Z)<|rz
 intro done ρ σ A R w y s
 obtain ⟨h0,h1,h2,h7,h8,h9⟩:=k6 s.rg h0 h1 h2 h7 h8 h9
 replace h10:=k1 s.rg h10
 have z170:=s.inivR 0 Z
 have z171:=s.inivR 1 Z
 have z172:=s.on y 20 18 Z Z Z Z Z z171
 replace f_v0:=f_v0.stp s.stp
 replace f_v1:=f_v1.stp s.stp
 obtain ⟨B,j,d⟩:=s.s B C j q ⟨Z,⟨Z,N⟩⟩
 replace q:=s.left y [(0,ob ul_u1 (.vec w0.heap.size 27 (eSl (eInt .i64)) y6)),(20,ob u11 (.vec w0.heap.size 3 (eInt .i64) (Yg144.set y15.toNat (min (gtD Yg144 y15) ((gtD (gtD y6 (y5-2)) (y15-2))+1)))))] ⟨Z,Z,z170,Z,Z,⟨Z,Z,z172,Z,Z,N⟩⟩
 obtain ⟨Yg172,g_Yg172⟩:∃ z,z=(Yg144.set y15.toNat (min (gtD Yg144 y15) ((gtD (gtD y6 (y5-2)) (y15-2))+1))):=⟨_,Z⟩
 rw [← g_Yg172] at q
 try rw [← g_Yg172] at c
 obtain ⟨e174,c⟩:=zA5 c
 refine HT.u d j (eI y15::eI (y15+1)::eI (y15+1)::[]) ?_ ?_
 exact om h10<|op (fun Q U W H D=>zAR (D.g 0 Z) Z e174)<|oa<|oz
 intro R w m n p d j
 obtain ⟨h0,h1,h2,h7,h8,h9⟩:=k6 n h0 h1 h2 h7 h8 h9
 have h10:=p.r 2 Z
 replace f_v0:=f_v0.fr m
 replace f_v1:=f_v1.fr m
 replace q:=q.fr m
 exact ei k (And.intro (Nat.lt_succ_self k) ⟨_,_,_,c,d,j,B,q,h0,h1,h2,h7,h8,h9,h10,f_v0,f_v1⟩)
 have c:=zAN c162 c
 refine zQA ?_
 obtain ⟨e175,c⟩:=zA5 c
 refine HT.u d j (eI y15::eI (y15+1)::eI (y15+1)::[]) ?_ ?_
 exact om h10<|op (fun Q U W H D=>zAR (D.g 0 Z) Z e175)<|oa<|oz
 intro R w m n p d j
 obtain ⟨h0,h1,h2,h7,h8,h9⟩:=k6 n h0 h1 h2 h7 h8 h9
 have h10:=p.r 2 Z
 replace f_v0:=f_v0.fr m
 replace f_v1:=f_v1.fr m
 replace q:=q.fr m
 exact ei k (And.intro (Nat.lt_succ_self k) ⟨_,_,_,c,d,j,B,q,h0,h1,h2,h7,h8,h9,h10,f_v0,f_v1⟩)
 have c:=zAN c17 c
 refine zQ7 ?_
 obtain rfl:=si c
 exact ei _ ⟨_,Z,d,j,B,q,h0,h1,h2,h7,h8,h9,f_v0,f_v1⟩
 rintro R w ⟨A,s14,es,d,j,B,q,h0,h1,h2,h7,h8,h9,f_v0,f_v1⟩
 obtain rfl:=es.symm
 obtain ⟨e176,c⟩:=zA5 c
 refine zQF [ob ul_u1 (.vec w0.heap.size 27 (eSl (eInt .i64)) y6),ob u11 (.vec w0.heap.size 3 (eInt .i64) s14)] (rR ul_u1::⟨_,true,[1],some (.nul),false,fun A=>.rep (eSl (eInt .i64)) A s14⟩::(rF fun A=>.rep (eSl (eSl (eInt .i64))) A ([s14]:List (List Int)))::⟨_,true,[0],some (.vec w0.heap.size 27 (eSl (eInt .i64)) (y6++([s14]:List (List Int)))),true,fun A=>.any⟩::⟨_,true,[5],some (.vec w0.heap.size 27 (eSl (eInt .i64)) (y6++([s14]:List (List Int)))),true,fun A=>.any⟩::[]) (ur (up (up (ua (ua (UAll.nil)))))) q d ?_ ?_
 exact rm h7<|rc (OblR.frz 1 _ Z Z Z Z Z fun V Q U O D u X Y J L M=>by have a0:Q 9=u11:=(O.old 9 Z).trans h9;exact zNH (a0.trans (J _ Z).symm) X O.av Y)<|rp (fun V Q U O D=>zB6 [_] (E:=eSl (eInt .i64)) ⟨(D.g 0 Z),N⟩ underlying227 sizeOf27 zeroValue27 Z Z Z O.av)<|rc (OblR.took 0 _ _ Z Z Z Z Z fun V Q U O D u X Y J L M=>by have a0:Q 140=ul_u1:=D.g 0 Z;have a1:Rep (eSl (eSl (eInt .i64))) V U (Q 142) ([s14]:List (List Int)):=D.g 1 Z;exact zAx (a0.trans (J _ Z).symm) X Y (Nat.le_trans j.size O.ch.size) a1 underlying227 zPG e176)<|rc (OblR.took 5 _ _ Z Z Z Z Z fun V Q U O D u X Y J L M=>by exact zAK (L _ _ Z Z Z Z).symm X Y)<|rz
 intro done ρ σ A R w y s
 obtain ⟨h0,h1,h2,h8⟩:=k4 s.rg h0 h1 h2 h8
 obtain ⟨u177,e_u177⟩:∃ u,ρ 6=u:=⟨_,Z⟩
 have h7:=s.ov y 6 4 e_u177
 replace f_v0:=f_v0.stp s.stp
 replace f_v1:=f_v1.stp s.stp
 obtain ⟨B,j,d⟩:=s.s B C j q ⟨Z,⟨Z,N⟩⟩
 replace q:=s.left y [(6,ob u177 (.vec w0.heap.size 27 (eSl (eInt .i64)) (y6++([s14]:List (List Int)))))] ⟨Z,Z,e_u177,Z,Z,N⟩
 obtain ⟨e178,c⟩:=zA5 c
 refine HT.u d j (eI y5::eI (y5+1)::eI (y5+1)::[]) ?_ ?_
 exact om h8<|op (fun Q U W H D=>zAR (D.g 0 Z) Z e178)<|oa<|oz
 intro R w m n p d j
 obtain ⟨h0,h1,h2,h7⟩:=k4 n h0 h1 h2 h7
 have h8:=p.r 2 Z
 replace f_v0:=f_v0.fr m
 replace f_v1:=f_v1.fr m
 replace q:=q.fr m
 exact ei k (And.intro (Nat.lt_succ_self k) ⟨_,_,_,u177,c,d,j,B,q,h0,h1,h2,h7,h8,f_v0,f_v1⟩)
 have c:=zAN c7 c
 refine zQ7 ?_
 obtain rfl:=si c
 exact ei _ ⟨_,ul_u1,Z,d,j,B,q,h7⟩
 rintro R w ⟨A,s4,uo_u1,es,d,j,B,q,h7⟩
 obtain rfl:=es.symm
 refine zQB d j (eR uo_u1::eR uo_u1::[]) ?_ ?_
 exact om h7<|oa<|oz
 intro R w m n p d j
 have h6:=p.r 1 Z
 replace q:=q.fr m
 refine HT.ret ?_
 obtain rfl:=si c
 exact ⟨.inr Z,[R 6],⟨Z,N⟩,(zCj (q.ok 0 _ Z) B h6),j⟩
theorem zHA {fu : Nat} {A0 : Av} {p0 : List UInt8} {p1 : List UInt8} {p2 : Bool} {r : List (List Int)} (c : zDF fu p0 p1 p2 = some r) {w : World} {v0 : Value} {v1 : Value} {v2 : Value} (d : AvOK A0 w) (h0 : Rep eStr A0 w v0 p0) (h1 : Rep eStr A0 w v1 p1) (h2 : v2 = .bool p2) :
 Calls prog 269 #[v0,v1,v2] w fun e w'=>∃ v,e = .returned v∧(Rep (eSl (eSl (eInt .i64))) A0 w' v r∧Fr w w'):=by
 refine Calls.mono (zHU c d h0 h1 h2) ?_
 rintro e w' ⟨v,he,hv,hf⟩
 exact ⟨v,he,zD2 hv (fun b o h=>.inl h) d,hf⟩
def zCZ (fu:Nat) (p0:List UInt8) (p1:List UInt8):Option Int:=
 cl true (zEs fu p0 p1) fun x1=>
 bif (!x1) then (
 some (-1)
 ) else (
 cl true (zDF fu p0 p1 false) fun x4=>
 ck (inR (p0.length:Int) x4.length) <|
 ck (inR (p1.length:Int) (gtD x4 (p0.length:Int)).length) <|
 some (gtD (gtD x4 (p0.length:Int)) (p1.length:Int))
 )
theorem zG6 {fu : Nat} {A : Av} {p0 : List UInt8} {p1 : List UInt8} {r : Int} (c : zCZ fu p0 p1 = some r) {w : World} {v0 : Value} {v1 : Value} (d : AvOK A w) (h0 : Rep eStr A w v0 p0) (h1 : Rep eStr A w v1 p1) :
 Calls prog 227 #[v0,v1] w fun e w'=>∃ v,e = .returned v∧(v = .int .i64 r∧Fr w w'):=by
 unfold zCZ at c
 obtain ⟨w0,hw0,j⟩:=pf w
 rw [fw hw0]
 refine zA3 [.tmp 4] func227 ntmps227 (by decide) Z Z (nb Z) ?_
 intro R hR
 have f_v0:=h0
 replace h0:R 0=v0:=hR 0 _ Z
 have f_v1:=h1
 replace h1:R 1=v1:=hR 1 _ Z
 refine zQB d j (eI 0::[]) ?_ ?_
 exact op (fun Q U W H D=>zA2 Z)<|oz
 intro R w m n p d j
 obtain ⟨h0,h1⟩:=k2 n h0 h1
 replace f_v0:=f_v0.fr m
 replace f_v1:=f_v1.fr m
 refine zQ9 ?_
 obtain ⟨x1,q2,c⟩:=zA4 c
 refine zQB d j (eR v0::eR v1::eB x1::eB (!x1)::[]) ?_ ?_
 exact om h0<|om h1<|op (fun Q U W H D=>zA8 call268 (zHy (q2 Z) (d.fr W.size) ((f_v0.fr W).eq (D.g 0 Z)) ((f_v1.fr W).eq (D.g 1 Z))))<|op (fun Q U W H D=>zBq (D.g 0 Z))<|oz
 intro R w m n p d j
 obtain ⟨h0,h1⟩:=k2 n h0 h1
 have h8:=p.r 3 Z
 replace f_v0:=f_v0.fr m
 replace f_v1:=f_v1.fr m
 refine zQ2 (!x1) h8 (fun c3=>?_) (fun c3=>?_)
 have c:=zAO c3 c
 refine zQB d j (eI (-1)::[]) ?_ ?_
 exact op (fun Q U W H D=>zA2 Z)<|oz
 intro R w m n p d j
 have h4:=p.r 0 Z
 refine HT.ret ?_
 obtain rfl:=si c
 exact ⟨.inr Z,[R 4],⟨Z,N⟩,h4,j⟩
 have c:=zAN c3 c
 refine zQA ?_
 obtain ⟨x4,q5,c⟩:=zA4 c
 obtain ⟨e6,e7,c⟩:=ck2 c
 refine zQB d j (eR v0::eR v1::eF (.rep (eSl (eSl (eInt .i64))) A x4)::eR v0::eI (p0.length:Int)::eF (.qtr (eSl (eInt .i64)) A (gtD x4 (p0.length:Int)))::eF (.rep (eSl (eInt .i64)) A (gtD x4 (p0.length:Int)))::eR v1::eI (p1.length:Int)::eF (.qtr (eInt .i64) A (gtD (gtD x4 (p0.length:Int)) (p1.length:Int)))::eI (gtD (gtD x4 (p0.length:Int)) (p1.length:Int))::eI (gtD (gtD x4 (p0.length:Int)) (p1.length:Int))::[]) ?_ ?_
 exact om h0<|om h1<|op (fun Q U W H D=>zA8 call269 (zHA (q5 Z) (d.fr W.size) ((f_v0.fr W).eq (D.g 0 Z)) ((f_v1.fr W).eq (D.g 1 Z)) Z))<|om h0<|op (fun Q U W H D=>zAJ ((f_v0.fr W).eq (D.g 0 Z)) underlying9)<|op (fun Q U W H D=>zA7 (D.g 0 Z) (D.g 1 Z) underlying227 sizeOf27 e6)<|op (fun Q U W H D=>(zAT (QRep.ptr (D.g 0 Z)) isAgg27 sizeOf27))<|om h1<|op (fun Q U W H D=>zAJ ((f_v1.fr W).eq (D.g 0 Z)) underlying9)<|op (fun Q U W H D=>zA7 (D.g 0 Z) (D.g 1 Z) underlying27 sizeOf3 e7)<|op (fun Q U W H D=>OpF.int (zAT (QRep.ptr (D.g 0 Z)) isAgg3 sizeOf3))<|oa<|oz
 intro R w m n p d j
 have h4:=p.r 11 Z
 refine HT.ret ?_
 obtain rfl:=si c
 exact ⟨.inr Z,[R 4],⟨Z,N⟩,h4,j⟩
def zDv (fu:Nat) (p0:List UInt8) (p1:List UInt8):Option Int:=
 cl true (zCZ fu p0 p1) fun x1=>
 bif (decide (x1<0)) then (
 some 0
 ) else (
 bif ((max (p0.length:Int) (p1.length:Int))==0) then (
 some 1000
 ) else (
 ck (i64B ((max (p0.length:Int) (p1.length:Int))-x1)) <|
 ck (i64B (1000*((max (p0.length:Int) (p1.length:Int))-x1))) <|
 ck ((max (p0.length:Int) (p1.length:Int)) != 0) <|
 ck (i64B ((1000*((max (p0.length:Int) (p1.length:Int))-x1)).tdiv (max (p0.length:Int) (p1.length:Int)))) <|
 some ((1000*((max (p0.length:Int) (p1.length:Int))-x1)).tdiv (max (p0.length:Int) (p1.length:Int)))
 )
 )
theorem zGs {fu : Nat} {A : Av} {p0 : List UInt8} {p1 : List UInt8} {r : Int} (c : zDv fu p0 p1 = some r) {w : World} {v0 : Value} {v1 : Value} (d : AvOK A w) (h0 : Rep eStr A w v0 p0) (h1 : Rep eStr A w v1 p1) :
 Calls prog 184 #[v0,v1] w fun e w'=>∃ v,e = .returned v∧(v = .int .i64 r∧Fr w w'):=by
 unfold zDv at c
 obtain ⟨w0,hw0,j⟩:=pf w
 rw [fw hw0]
 refine zA3 [.tmp 4] func184 ntmps184 (by decide) Z Z (nb Z) ?_
 intro R hR
 have f_v0:=h0
 replace h0:R 0=v0:=hR 0 _ Z
 have f_v1:=h1
 replace h1:R 1=v1:=hR 1 _ Z
 refine zQB d j (eI 0::[]) ?_ ?_
 exact op (fun Q U W H D=>zA2 Z)<|oz
 intro R w m n p d j
 obtain ⟨h0,h1⟩:=k2 n h0 h1
 replace f_v0:=f_v0.fr m
 replace f_v1:=f_v1.fr m
 obtain ⟨x1,q2,c⟩:=zA4 c
 refine zQB d j (eR v0::eR v1::eI x1::eI x1::[]) ?_ ?_
 exact om h0<|om h1<|op (fun Q U W H D=>zA8 call227 (zG6 (q2 Z) (d.fr W.size) ((f_v0.fr W).eq (D.g 0 Z)) ((f_v1.fr W).eq (D.g 1 Z))))<|oa<|oz
 intro R w m n p d j
 obtain ⟨h0,h1⟩:=k2 n h0 h1
 have h5:=p.r 3 Z
 replace f_v0:=f_v0.fr m
 replace f_v1:=f_v1.fr m
 refine zQB d j (eR v0::eI (p0.length:Int)::eR v1::eI (p1.length:Int)::eI (max (p0.length:Int) (p1.length:Int))::eI (max (p0.length:Int) (p1.length:Int))::[]) ?_ ?_
 exact om h0<|op (fun Q U W H D=>zAJ ((f_v0.fr W).eq (D.g 0 Z)) underlying9)<|om h1<|op (fun Q U W H D=>zAJ ((f_v1.fr W).eq (D.g 0 Z)) underlying9)<|op (fun Q U W H D=>zIg (D.g 0 Z) (D.g 1 Z))<|oa<|oz
 intro R w m n p d j
 replace h5:=k1 n h5
 have h6:=p.r 5 Z
 refine zQ9 ?_
 refine HT.block ?_
 refine zQB d j (eI x1::eB (decide (x1<0))::eB (decide (x1<0))::[]) ?_ ?_
 exact om h5<|op (fun Q U W H D=>zAu (D.g 0 Z) Z)<|oa<|oz
 intro R w m n p d j
 obtain ⟨h5,h6⟩:=k2 n h5 h6
 have h15:=p.r 2 Z
 refine zQ2 (decide (x1<0)) h15 (fun c3=>?_) (fun c3=>?_)
 have c:=zAO c3 c
 refine zQB d j (eI 0::[]) ?_ ?_
 exact op (fun Q U W H D=>zA2 Z)<|oz
 intro R w m n p d j
 have h4:=p.r 0 Z
 refine HT.ret ?_
 obtain rfl:=si c
 exact ⟨.inr Z,[R 4],⟨Z,N⟩,h4,j⟩
 have c:=zAN c3 c
 refine zQB d j (eI (max (p0.length:Int) (p1.length:Int))::eB ((max (p0.length:Int) (p1.length:Int))==0)::eB ((max (p0.length:Int) (p1.length:Int))==0)::[]) ?_ ?_
 exact om h6<|op (fun Q U W H D=>zAo (D.g 0 Z) Z)<|oa<|oz
 intro R w m n p d j
 obtain ⟨h5,h6⟩:=k2 n h5 h6
 have h18:=p.r 2 Z
 refine zQ2 ((max (p0.length:Int) (p1.length:Int))==0) h18 (fun c4=>?_) (fun c4=>?_)
 have c:=zAO c4 c
 refine zQB d j (eI 1000::[]) ?_ ?_
 exact op (fun Q U W H D=>zA2 Z)<|oz
 intro R w m n p d j
 have h4:=p.r 0 Z
 refine HT.ret ?_
 obtain rfl:=si c
 exact ⟨.inr Z,[R 4],⟨Z,N⟩,h4,j⟩
 have c:=zAN c4 c
 refine zQA ?_
 obtain ⟨e5,e6,e7,e8,c⟩:=ck4 c
 refine zQB d j (eI (max (p0.length:Int) (p1.length:Int))::eI x1::eI ((max (p0.length:Int) (p1.length:Int))-x1)::eI (1000*((max (p0.length:Int) (p1.length:Int))-x1))::eI (max (p0.length:Int) (p1.length:Int))::eI ((1000*((max (p0.length:Int) (p1.length:Int))-x1)).tdiv (max (p0.length:Int) (p1.length:Int)))::eI ((1000*((max (p0.length:Int) (p1.length:Int))-x1)).tdiv (max (p0.length:Int) (p1.length:Int)))::[]) ?_ ?_
 exact om h6<|om h5<|op (fun Q U W H D=>zAb (D.g 0 Z) (D.g 1 Z) e5)<|op (fun Q U W H D=>zGQ Z (D.g 0 Z) e6)<|om h6<|op (fun Q U W H D=>zHm (D.g 0 Z) (D.g 1 Z) e7 e8)<|oa<|oz
 intro R w m n p d j
 have h4:=p.r 6 Z
 refine HT.ret ?_
 obtain rfl:=si c
 exact ⟨.inr Z,[R 4],⟨Z,N⟩,h4,j⟩
def zDX (fu:Nat) (p0:List UInt8) (p1:List UInt8):Option Int:=
 cl true (zBY fu p0) fun x1=>
 cl true (zBY fu p1) fun x4=>
 bd ((x1==([]:List UInt8)) || (x4==([]:List UInt8))) fun x7=>
 bif x7 then (
 some 0
 ) else (
 cl true (zDv fu x1 x4) fun x10=>
 some x10
 )
theorem zFw {fu : Nat} {A : Av} {p0 : List UInt8} {p1 : List UInt8} {r : Int} (c : zDX fu p0 p1 = some r) {w : World} {v0 : Value} {v1 : Value} (d : AvOK A w) (h0 : Rep eStr A w v0 p0) (h1 : Rep eStr A w v1 p1) :
 Calls prog 126 #[v0,v1] w fun e w'=>∃ v,e = .returned v∧(v = .int .i64 r∧Fr w w'):=by
 unfold zDX at c
 obtain ⟨w0,hw0,j⟩:=pf w
 rw [fw hw0]
 refine zA3 [.tmp 4] func126 ntmps126 (by decide) Z Z (nb Z) ?_
 intro R hR
 have f_v0:=h0
 replace h0:R 0=v0:=hR 0 _ Z
 have f_v1:=h1
 replace h1:R 1=v1:=hR 1 _ Z
 refine zQB d j (eI 0::[]) ?_ ?_
 exact op (fun Q U W H D=>zA2 Z)<|oz
 intro R w m n p d j
 obtain ⟨h0,h1⟩:=k2 n h0 h1
 replace f_v0:=f_v0.fr m
 replace f_v1:=f_v1.fr m
 obtain ⟨x1,q2,c⟩:=zA4 c
 refine zQB d j (eR v0::eF (.rep eStr A x1)::eF (.rep eStr A x1)::[]) ?_ ?_
 exact om h0<|op (fun Q U W H D=>zA8 call60 (zDA (q2 Z) (d.fr W.size) ((f_v0.fr W).eq (D.g 0 Z))))<|op (fun Q U W H D=>zA2 (D.g 0 Z))<|oz
 intro R w m n p d j
 replace h1:=k1 n h1
 obtain ⟨u3,h5,f_u3⟩:∃ u,R 5=u∧Rep eStr A w u x1:=⟨_,Z,p 2 _ _ Z Z Z⟩
 replace f_v1:=f_v1.fr m
 obtain ⟨x4,q5,c⟩:=zA4 c
 refine zQB d j (eR v1::eF (.rep eStr A x4)::eF (.rep eStr A x4)::[]) ?_ ?_
 exact om h1<|op (fun Q U W H D=>zA8 call60 (zDA (q5 Z) (d.fr W.size) ((f_v1.fr W).eq (D.g 0 Z))))<|op (fun Q U W H D=>zA2 (D.g 0 Z))<|oz
 intro R w m n p d j
 replace h5:=k1 n h5
 obtain ⟨u6,h6,f_u6⟩:∃ u,R 6=u∧Rep eStr A w u x4:=⟨_,Z,p 2 _ _ Z Z Z⟩
 replace f_u3:=f_u3.fr m
 refine zQ9 ?_
 refine zQ9 ?_
 obtain ⟨x7,q8,c⟩:=zAD c
 refine HT.u d j (eR u3::eB (x1==([]:List UInt8))::eB (x1==([]:List UInt8))::gR (true&&((x1==([]:List UInt8))==false)) u6::gB (true&&((x1==([]:List UInt8))==false)) (x4==([]:List UInt8))::eB x7::[]) ?_ ?_
 exact om h5<|op (fun Q U W H D=>zBD ((f_u3.fr W).eq (D.g 0 Z)) ⟨_,Z,⟨_,Z,Z,by decide⟩⟩)<|ov<|gm 2 false h6<|og 2 false (fun G Q U W H D=>zBD ((f_u6.fr W).eq (D.h 0 G Z)) ⟨_,Z,⟨_,Z,Z,by decide⟩⟩)<|op (fun Q U W H D=>zAF (x1==([]:List UInt8)) (D.g 0 Z) (fun hc=>by show _=Value.bool x7;rw [q8,hc];exact Z) (fun hc=>by have a2:Q 15 = .bool (x4==([]:List UInt8)):=D 1 _ _ _ Z Z Z Z (zAc Z (zAP hc));show _=Value.bool x7;rw [q8,hc];exact a2))<|oz
 intro R w m n p d j
 obtain ⟨h5,h6⟩:=k2 n h5 h6
 have h16:=p.r 5 Z
 replace f_u3:=f_u3.fr m
 replace f_u6:=f_u6.fr m
 refine zQ2 x7 h16 (fun c9=>?_) (fun c9=>?_)
 have c:=zAO c9 c
 refine zQB d j (eI 0::[]) ?_ ?_
 exact op (fun Q U W H D=>zA2 Z)<|oz
 intro R w m n p d j
 have h4:=p.r 0 Z
 refine HT.ret ?_
 obtain rfl:=si c
 exact ⟨.inr Z,[R 4],⟨Z,N⟩,h4,j⟩
 have c:=zAN c9 c
 refine zQA ?_
 obtain ⟨x10,q11,c⟩:=zA4 c
 refine zQB d j (eR u3::eR u6::eI x10::eI x10::[]) ?_ ?_
 exact om h5<|om h6<|op (fun Q U W H D=>zA8 call184 (zGs (q11 Z) (d.fr W.size) ((f_u3.fr W).eq (D.g 0 Z)) ((f_u6.fr W).eq (D.g 1 Z))))<|oa<|oz
 intro R w m n p d j
 have h4:=p.r 3 Z
 refine HT.ret ?_
 obtain rfl:=si c
 exact ⟨.inr Z,[R 4],⟨Z,N⟩,h4,j⟩
def zC4 (fu : Nat) (p0 : List UInt8) (p1 : Int) : Nat → Int → Int → (List (List UInt8)) → Option (Int × (List (List UInt8)))
 | 0,_,_,_=>none
 | k+1,y5,y6,y7=>
 bif (decide (y6<(p0.length:Int))) then (
 ck (inR y6 p0.length) <|
 bif ((bAt p0 y6)==p1) then (
 ck (subR y5 y6 p0.length) <|
 ck (zC2 (y7.length+([(subL p0 y5 y6)]:List (List UInt8)).length)) <|
 ck (i64B (y6+1)) <|
 ck (i64B (y6+1)) <|
 zC4 fu p0 p1 k (y6+1) (y6+1) (y7++([(subL p0 y5 y6)]:List (List UInt8)))
 ) else (
 ck (i64B (y6+1)) <|
 zC4 fu p0 p1 k y5 (y6+1) y7
 )
 ) else (
 some (y5,y7)
 )
def zDT (fu:Nat) (p0:List UInt8) (p1:Int):Option (List (List UInt8)):=
 cl true (zC4 fu p0 p1 fu 0 0 ([]:List (List UInt8))) fun s4=>
 ck (subR s4.1 (p0.length:Int) p0.length) <|
 ck (zC2 (s4.2.length+([(subL p0 s4.1 (p0.length:Int))]:List (List UInt8)).length)) <|
 some (s4.2++([(subL p0 s4.1 (p0.length:Int))]:List (List UInt8)))
theorem zIZ {fu : Nat} {A0 : Av} {p0 : List UInt8} {p1 : Int} {r : List (List UInt8)} (c : zDT fu p0 p1 = some r) {w : World} {v0 : Value} {v1 : Value} (d : AvOK A0 w) (h0 : Rep eStr A0 w v0 p0) (h1 : v1 = .int .u8 p1) :
 Calls prog 160 #[v0,v1] w fun e w'=>∃ v,e = .returned v∧((Res.vec w.heap.size 9 eStr r).ok (addA A0 v) v w'∧Fr w w'):=by
 unfold zDT at c
 obtain ⟨w0,hw0,j,C⟩:=pw d
 have hA00:AvOK A0 w0:=C
 rw [fh hw0]
 rw [fw hw0]
 obtain ⟨A,hAe,B,d,q⟩:=pa d
 refine zA3 [.tmp 4] func160 ntmps160 (by decide) Z Z (nb Z) ?_
 intro R hR
 have f_v0:Rep eStr A w v0 p0:=hAe ▸ h0
 replace h0:R 0=v0:=hR 0 _ Z
 replace h1:R 1 = .int .u8 p1:=(hR 1 _ Z).trans h1
 refine zQB d j (eA::[]) ?_ ?_
 exact op (fun Q U W H D=>zA2 N)<|oz
 intro R w m n p d j
 obtain ⟨h0,h1⟩:=k2 n h0 h1
 replace f_v0:=f_v0.fr m
 replace q:=q.fr m
 refine zQC [] (⟨_,true,[],some (.vec w0.heap.size 9 eStr ([]:List (List UInt8))),true,fun A=>.any⟩::⟨_,true,[0],some (.vec w0.heap.size 9 eStr ([]:List (List UInt8))),true,fun A=>.any⟩::[]) (ua (ua (UAll.nil))) q d ?_ ?_
 exact rc (OblR.made _ Z Z Z Z fun V Q U O D=>by exact zBW [] (E:=eStr) N underlying46 sizeOf9 zeroValue9 Z Z Z (Nat.le_trans j.size O.ch.size))<|rc (OblR.took 0 _ _ Z Z Z Z Z fun V Q U O D u X Y J L M=>by exact zAK (L _ _ Z Z Z Z).symm X Y)<|rz
 intro done ρ σ A R w y s
 obtain ⟨h0,h1⟩:=k2 s.rg h0 h1
 obtain ⟨u1,e_u1⟩:∃ u,ρ 1=u:=⟨_,Z⟩
 have h5:=s.ov y 1 1 e_u1
 replace f_v0:=f_v0.stp s.stp
 obtain ⟨B,j,d⟩:=s.s B C j q N
 replace q:=s.left y [(1,ob u1 (.vec w0.heap.size 9 eStr ([]:List (List UInt8))))] ⟨Z,Z,e_u1,Z,Z,N⟩
 refine zQB d j (eI 0::[]) ?_ ?_
 exact op (fun Q U W H D=>zA2 Z)<|oz
 intro R w m n p d j
 obtain ⟨h0,h1,h5⟩:=k3 n h0 h1 h5
 have h6:=p.r 0 Z
 replace f_v0:=f_v0.fr m
 replace q:=q.fr m
 refine zQ9 ?_
 refine zQB d j (eI 0::[]) ?_ ?_
 exact op (fun Q U W H D=>zA2 Z)<|oz
 intro R w m n p d j
 obtain ⟨h0,h1,h5,h6⟩:=k4 n h0 h1 h5 h6
 have h7:=p.r 0 Z
 replace f_v0:=f_v0.fr m
 replace q:=q.fr m
 obtain ⟨rl2,q3,c⟩:=zA4 c
 replace q3:=q3 Z
 refine zQ4 (fun R w=>∃ A:Av,∃ (s4:Int × (List (List UInt8))) (uo_u1:Value),rl2=s4∧AvOK A w∧Fr w0 w∧(∀ b o,A0 b o→A b o)∧IniOK [ob uo_u1 (.vec w0.heap.size 9 eStr s4.2)] A w∧R 0=v0∧R 5=uo_u1∧R 6 = .int .i64 s4.1∧Rep eStr A w v0 p0) ?_ ?_
 refine HT.block ?_
 refine zQ8 (fun k R w=>∃ A:Av,∃ (y5:Int) (y6:Int) (y7:List (List UInt8)) (ul_u1:Value),zC4 fu p0 p1 k y5 y6 y7=some rl2∧AvOK A w∧Fr w0 w∧(∀ b o,A0 b o→A b o)∧IniOK [ob ul_u1 (.vec w0.heap.size 9 eStr y7)] A w∧R 0=v0∧R 1 = .int .u8 p1∧R 5=ul_u1∧R 6 = .int .i64 y5∧R 7 = .int .i64 y6∧Rep eStr A w v0 p0) fu ⟨_,_,_,_,u1,q3,d,j,B,q,h0,h1,h5,h6,h7,f_v0⟩ ?_
 have hr0:=c;clear c q3
 rintro k R w ⟨A,y5,y6,y7,ul_u1,c,d,j,B,q,h0,h1,h5,h6,h7,f_v0⟩
 rcases k with _ | k
 cases (show none=some _ from c)
 rw [zC4] at c
 refine zQ9 ?_
 refine zQB d j (eI y6::eR v0::eI (p0.length:Int)::eB (decide (y6<(p0.length:Int)))::[]) ?_ ?_
 exact om h7<|om h0<|op (fun Q U W H D=>zAJ ((f_v0.fr W).eq (D.g 0 Z)) underlying9)<|op (fun Q U W H D=>zAu (D.g 0 Z) (D.g 1 Z))<|oz
 intro R w m n p d j
 obtain ⟨h0,h1,h5,h6,h7⟩:=k5 n h0 h1 h5 h6 h7
 have h12:=p.r 3 Z
 replace f_v0:=f_v0.fr m
 replace q:=q.fr m
 refine zQ2 (decide (y6<(p0.length:Int))) h12 (fun c8=>?_) (fun c8=>?_)
 have c:=zAO c8 c
 refine zQA ?_
 refine zQ9 ?_
 refine HT.block ?_
 obtain ⟨e9,c⟩:=zA5 c
 refine zQB d j (eR v0::eI y6::eU (bAt p0 y6)::eU p1::eB ((bAt p0 y6)==p1)::[]) ?_ ?_
 exact om h0<|om h7<|op (fun Q U W H D=>zAB ((f_v0.fr W).eq (D.g 0 Z)) (D.g 1 Z) underlying9 e9)<|om h1<|op (fun Q U W H D=>zAo (D.g 0 Z) (D.g 1 Z))<|oz
 intro R w m n p d j
 obtain ⟨h0,h1,h5,h6,h7⟩:=k5 n h0 h1 h5 h6 h7
 have h19:=p.r 4 Z
 replace f_v0:=f_v0.fr m
 replace q:=q.fr m
 refine zQ2 ((bAt p0 y6)==p1) h19 (fun c10=>?_) (fun c10=>?_)
 have c:=zAO c10 c
 obtain ⟨e11,e12,c⟩:=ck2 c
 refine zQC [ob ul_u1 (.vec w0.heap.size 9 eStr y7)] (rR ul_u1::rR v0::rI y5::rI y6::(rF fun A=>.rep eStr A (subL p0 y5 y6))::(rF fun A=>.rep (eSl eStr) A ([(subL p0 y5 y6)]:List (List UInt8)))::⟨_,true,[0],some (.vec w0.heap.size 9 eStr (y7++([(subL p0 y5 y6)]:List (List UInt8)))),true,fun A=>.any⟩::⟨_,true,[7],some (.vec w0.heap.size 9 eStr (y7++([(subL p0 y5 y6)]:List (List UInt8)))),true,fun A=>.any⟩::[]) (ur (ur (ur (ur (up (up (ua (ua (UAll.nil))))))))) q d ?_ ?_
 exact rm h5<|rm h0<|rm h6<|rm h7<|rp (fun V Q U O D=>zJw ((f_v0.stp O.stp).eq (D.g 0 Z)) (D.g 1 Z) (D.g 2 Z) underlying9  e11)<|rp (fun V Q U O D=>zB6 [_] (E:=eStr) ⟨(D.g 0 Z),N⟩ underlying46 sizeOf9 zeroValue9 Z Z Z O.av)<|rc (OblR.took 0 _ _ Z Z Z Z Z fun V Q U O D u X Y J L M=>by have a0:Q 20=ul_u1:=D.g 0 Z;have a1:Rep (eSl eStr) V U (Q 25) ([(subL p0 y5 y6)]:List (List UInt8)):=D.g 1 Z;exact zAx (a0.trans (J _ Z).symm) X Y (Nat.le_trans j.size O.ch.size) a1 underlying46 el_9 e12)<|rc (OblR.took 7 _ _ Z Z Z Z Z fun V Q U O D u X Y J L M=>by exact zAK (L _ _ Z Z Z Z).symm X Y)<|rz
 intro done ρ σ A R w y s
 obtain ⟨h0,h1,h7⟩:=k3 s.rg h0 h1 h7
 obtain ⟨u13,e_u13⟩:∃ u,ρ 8=u:=⟨_,Z⟩
 have h5:=s.ov y 8 7 e_u13
 replace f_v0:=f_v0.stp s.stp
 obtain ⟨B,j,d⟩:=s.s B C j q ⟨Z,N⟩
 replace q:=s.left y [(8,ob u13 (.vec w0.heap.size 9 eStr (y7++([(subL p0 y5 y6)]:List (List UInt8)))))] ⟨Z,Z,e_u13,Z,Z,N⟩
 obtain ⟨e14,c⟩:=zA5 c
 refine HT.u d j (eI y6::eI (y6+1)::eI (y6+1)::[]) ?_ ?_
 exact om h7<|op (fun Q U W H D=>zAR (D.g 0 Z) Z e14)<|oa<|oz
 intro R w m n p d j
 obtain ⟨h0,h1,h5,h7⟩:=k4 n h0 h1 h5 h7
 have h6:=p.r 2 Z
 replace f_v0:=f_v0.fr m
 replace q:=q.fr m
 obtain ⟨e15,c⟩:=zA5 c
 refine HT.u d j (eI y6::eI (y6+1)::eI (y6+1)::[]) ?_ ?_
 exact om h7<|op (fun Q U W H D=>zAR (D.g 0 Z) Z e15)<|oa<|oz
 intro R w m n p d j
 obtain ⟨h0,h1,h5,h6⟩:=k4 n h0 h1 h5 h6
 have h7:=p.r 2 Z
 replace f_v0:=f_v0.fr m
 replace q:=q.fr m
 exact ei k (And.intro (Nat.lt_succ_self k) ⟨_,_,_,_,u13,c,d,j,B,q,h0,h1,h5,h6,h7,f_v0⟩)
 have c:=zAN c10 c
 refine zQA ?_
 obtain ⟨e16,c⟩:=zA5 c
 refine HT.u d j (eI y6::eI (y6+1)::eI (y6+1)::[]) ?_ ?_
 exact om h7<|op (fun Q U W H D=>zAR (D.g 0 Z) Z e16)<|oa<|oz
 intro R w m n p d j
 obtain ⟨h0,h1,h5,h6⟩:=k4 n h0 h1 h5 h6
 have h7:=p.r 2 Z
 replace f_v0:=f_v0.fr m
 replace q:=q.fr m
 exact ei k (And.intro (Nat.lt_succ_self k) ⟨_,_,_,_,ul_u1,c,d,j,B,q,h0,h1,h5,h6,h7,f_v0⟩)
 have c:=zAN c8 c
 refine zQ7 ?_
 obtain rfl:=si c
 exact ei _ ⟨_,ul_u1,Z,d,j,B,q,h0,h5,h6,f_v0⟩
 rintro R w ⟨A,s4,uo_u1,es,d,j,B,q,h0,h5,h6,f_v0⟩
 obtain rfl:=es.symm
 obtain ⟨e17,e18,c⟩:=ck2 c
 refine zQC [ob uo_u1 (.vec w0.heap.size 9 eStr s4.2)] (rR uo_u1::rR v0::rI s4.1::(rF fun A=>.rep eStr A (subL p0 s4.1 (p0.length:Int)))::(rF fun A=>.rep (eSl eStr) A ([(subL p0 s4.1 (p0.length:Int))]:List (List UInt8)))::⟨_,true,[0],some (.vec w0.heap.size 9 eStr (s4.2++([(subL p0 s4.1 (p0.length:Int))]:List (List UInt8)))),true,fun A=>.any⟩::⟨_,true,[6],some (.vec w0.heap.size 9 eStr (s4.2++([(subL p0 s4.1 (p0.length:Int))]:List (List UInt8)))),true,fun A=>.any⟩::[]) (ur (ur (ur (up (up (ua (ua (UAll.nil)))))))) q d ?_ ?_
 exact rm h5<|rm h0<|rm h6<|rp (fun V Q U O D=>zGN ((f_v0.stp O.stp).eq (D.g 0 Z)) (D.g 1 Z) underlying9  e17)<|rp (fun V Q U O D=>zB6 [_] (E:=eStr) ⟨(D.g 0 Z),N⟩ underlying46 sizeOf9 zeroValue9 Z Z Z O.av)<|rc (OblR.took 0 _ _ Z Z Z Z Z fun V Q U O D u X Y J L M=>by have a0:Q 29=uo_u1:=D.g 0 Z;have a1:Rep (eSl eStr) V U (Q 33) ([(subL p0 s4.1 (p0.length:Int))]:List (List UInt8)):=D.g 1 Z;exact zAx (a0.trans (J _ Z).symm) X Y (Nat.le_trans j.size O.ch.size) a1 underlying46 el_9 e18)<|rc (OblR.took 6 _ _ Z Z Z Z Z fun V Q U O D u X Y J L M=>by exact zAK (L _ _ Z Z Z Z).symm X Y)<|rz
 intro done ρ σ A R w y s
 obtain ⟨u19,e_u19⟩:∃ u,ρ 7=u:=⟨_,Z⟩
 have h4:=s.ov y 7 6 e_u19
 obtain ⟨B,j,d⟩:=s.s B C j q ⟨Z,N⟩
 replace q:=s.left y [(7,ob u19 (.vec w0.heap.size 9 eStr (s4.2++([(subL p0 s4.1 (p0.length:Int))]:List (List UInt8)))))] ⟨Z,Z,e_u19,Z,Z,N⟩
 refine HT.ret ?_
 obtain rfl:=si c
 exact ⟨.inr Z,[R 4],⟨Z,N⟩,(zCj (q.ok 0 _ Z) B h4),j⟩
theorem zHv {fu : Nat} {A0 : Av} {p0 : List UInt8} {p1 : Int} {r : List (List UInt8)} (c : zDT fu p0 p1 = some r) {w : World} {v0 : Value} {v1 : Value} (d : AvOK A0 w) (h0 : Rep eStr A0 w v0 p0) (h1 : v1 = .int .u8 p1) :
 Calls prog 160 #[v0,v1] w fun e w'=>∃ v,e = .returned v∧(Rep (eSl eStr) A0 w' v r∧Fr w w'):=by
 refine Calls.mono (zIZ c d h0 h1) ?_
 rintro e w' ⟨v,he,hv,hf⟩
 exact ⟨v,he,zD2 hv (fun b o h=>.inl h) d,hf⟩
def zCT (fu : Nat) (p0 : List (List UInt8)) (p1 : List UInt8) : Nat → Int → Option Int
 | 0,_=>none
 | k+1,y4=>
 ck (!(true&&((decide (y4<(p0.length:Int)))==true)) || inR y4 p0.length) <|
 bd ((decide (y4<(p0.length:Int)))&&(bLt (gtD p0 y4) p1)) fun x6=>
 bif x6 then (
 ck (i64B (y4+1)) <|
 zCT fu p0 p1 k (y4+1)
 ) else (
 some y4
 )
def zCp (fu:Nat) (p0:List (List UInt8)) (p1:List UInt8) (p2:Bool):Option (List (List UInt8)):=
 cl true (zCT fu p0 p1 fu 0) fun s3=>
 bd ((!p2)&&(decide (s3<(p0.length:Int)))) fun x10=>
 ck (!(true&&(x10==true)) || inR s3 p0.length) <|
 bd (x10&&((gtD p0 s3)==p1)) fun x13=>
 bif x13 then (
 some p0
 ) else (
 ck (subR 0 s3 p0.length) <|
 bd (s3.toNat-(0:Int).toNat) fun x17=>
 ck (zC2 (([]:List (List UInt8)).length+(subL p0 0 s3).length)) <|
 ck (zC2 ((([]:List (List UInt8))++(subL p0 0 s3)).length+([p1]:List (List UInt8)).length)) <|
 ck (subR s3 (p0.length:Int) p0.length) <|
 bd ((p0.length:Int).toNat-s3.toNat) fun x22=>
 ck (zC2 (((([]:List (List UInt8))++(subL p0 0 s3))++([p1]:List (List UInt8))).length+(subL p0 s3 (p0.length:Int)).length)) <|
 some (((([]:List (List UInt8))++(subL p0 0 s3))++([p1]:List (List UInt8)))++(subL p0 s3 (p0.length:Int)))
 )
theorem zDP {fu : Nat} {A0 : Av} {p0 : List (List UInt8)} {p1 : List UInt8} {p2 : Bool} {r : List (List UInt8)} (c : zCp fu p0 p1 p2 = some r) {w : World} {v0 : Value} {v1 : Value} {v2 : Value} {B0 : Nat} (d : AvOK A0 w) (K : ∀ b o, A0 b o → ¬ zA9 v0 b) (hB0 : B0 ≤ w.heap.size) (h0 : (Res.vec B0 9 eStr p0).ok A0 v0 w) (h1 : Rep eStr A0 w v1 p1) (h2 : v2 = .bool p2) :
 Calls prog 109 #[v0,v1,v2] w fun e w'=>∃ v,e = .returned v∧Took (addA A0 v0) true v0 (.vec B0 9 eStr r) (fun _=>.any) w v w':=by
 unfold zCp at c
 obtain ⟨w0,hw0⟩:∃ w0,w0=w:=⟨_,Z⟩
 have j:Ch (zA9 v0) w0 w:=hw0 ▸ Ch.refl _ _
 replace hB0:B0≤w0.heap.size:=hw0 ▸ hB0
 have C:∀ b o,A0 b o→b<w0.heap.size:=fun b o h=>hw0 ▸ d b o h
 have hA00:AvOK A0 w0:=C
 rw [show Took (addA A0 v0) true v0 (.vec B0 9 eStr r) (fun _=>.any) w=Took (addA A0 v0) true v0 (.vec B0 9 eStr r) (fun _=>.any) w0 from hw0 ▸ Z]
 obtain ⟨A,hAe⟩:∃ A,A=addA A0 v0:=⟨_,Z⟩
 have B:∀ b o,A0 b o→A b o:=fun b o h=>hAe ▸ .inl h
 replace d:AvOK A w:=hAe ▸ d.one h0
 have q:IniOK [ob v0 (.vec B0 9 eStr p0)] A w:=hAe ▸ IniOK.one h0 (fun _ _ _ _ _ h=>h)
 refine zA3 [.tmp 6] func109 ntmps109 (by decide) Z Z (nb Z) ?_
 intro R hR
 replace h0:R 0=v0:=hR 0 _ Z
 have f_v1:Rep eStr A w v1 p1:=h1
 replace h1:R 1=v1:=hR 1 _ Z
 replace h2:R 2 = .bool p2:=(hR 2 _ Z).trans h2
 refine zQ9 ?_
 refine zQD (eA::[]) ?_ ?_
 exact op (fun Q U W H D=>zA2 N)<|oz
 intro R w m n p
 obtain ⟨h0,h1,h2⟩:=k3 n h0 h1 h2
 replace f_v1:=f_v1.fr m
 replace q:=q.fr m
 replace d:=d.fr m.size
 replace j:=j.tr (m.ch noB) fun _ h=>False.elim h
 refine zQ9 ?_
 refine zQD (eI 0::[]) ?_ ?_
 exact op (fun Q U W H D=>zA2 Z)<|oz
 intro R w m n p
 obtain ⟨h0,h1,h2⟩:=k3 n h0 h1 h2
 have h7:=p.r 0 Z
 replace f_v1:=f_v1.fr m
 replace q:=q.fr m
 replace d:=d.fr m.size
 replace j:=j.tr (m.ch noB) fun _ h=>False.elim h
 obtain ⟨rl1,q2,c⟩:=zA4 c
 replace q2:=q2 Z
 refine zQ3 (fun R w=>∃ A:Av,∃ (s3:Int),rl1=s3∧AvOK A w∧Ch (zA9 v0) w0 w∧(∀ b o,A0 b o→A b o)∧IniOK [ob v0 (.vec B0 9 eStr p0)] A w∧R 0=v0∧R 1=v1∧R 2 = .bool p2∧R 7 = .int .i64 s3∧Rep eStr A w v1 p1) ?_ ?_
 refine HT.block ?_
 refine zQ8 (fun k R w=>∃ A:Av,∃ (y4:Int),zCT fu p0 p1 k y4=some rl1∧AvOK A w∧Ch (zA9 v0) w0 w∧(∀ b o,A0 b o→A b o)∧IniOK [ob v0 (.vec B0 9 eStr p0)] A w∧R 0=v0∧R 1=v1∧R 2 = .bool p2∧R 7 = .int .i64 y4∧Rep eStr A w v1 p1) fu ⟨_,_,q2,d,j,B,q,h0,h1,h2,h7,f_v1⟩ ?_
 have hr0:=c;clear c q2
 rintro k R w ⟨A,y4,c,d,j,B,q,h0,h1,h2,h7,f_v1⟩
 rcases k with _ | k
 cases (show none=some _ from c)
 rw [zCT] at c
 refine zQ9 ?_
 refine zQ9 ?_
 obtain ⟨e5,c⟩:=zA5 c
 obtain ⟨x6,q7,c⟩:=zAD c
 refine zQD (eI y4::eR v0::eI (p0.length:Int)::eB (decide (y4<(p0.length:Int)))::eB (decide (y4<(p0.length:Int)))::gR (true&&((decide (y4<(p0.length:Int)))==true)) v0::gI (true&&((decide (y4<(p0.length:Int)))==true)) y4::gR (true&&((decide (y4<(p0.length:Int)))==true)) (vptr v0 (y4.toNat*1))::gF (true&&((decide (y4<(p0.length:Int)))==true)) (.rep eStr A (gtD p0 y4))::gR (true&&((decide (y4<(p0.length:Int)))==true)) v1::gB (true&&((decide (y4<(p0.length:Int)))==true)) (bLt (gtD p0 y4) p1)::eB x6::[]) ?_ ?_
 exact om h7<|om h0<|op (fun Q U W H D=>zD0 (q.ok 0 _ Z).1 (D.g 0 Z) underlying46)<|op (fun Q U W H D=>zAu (D.g 0 Z) (D.g 1 Z))<|ov<|gm 4 true h0<|gm 4 true h7<|og 4 true (fun G Q U W H D=>zAL (q.ok 0 _ Z).1 (D.h 0 G Z) (D.h 1 G Z) underlying46 sizeOf9 (gd e5 G) Z)<|og 4 true (fun G Q U W H D=>(zAw ((q.fr W).ok 0 _ Z).1 (D.h 0 G Z) (gd e5 G) Z (Fld.id _) Z isAgg9 sizeOf9))<|gm 4 true h1<|og 4 true (fun G Q U W H D=>zKY (D.h 0 G Z) ((f_v1.fr W).eq (D.h 1 G Z)))<|op (fun Q U W H D=>zAF (decide (y4<(p0.length:Int))) (D.g 0 Z) (fun hc=>by have a1:Q 18 = .bool (bLt (gtD p0 y4) p1):=D 1 _ _ _ Z Z Z Z (zAc Z (zAP hc));show _=Value.bool x6;rw [q7,hc];exact a1) (fun hc=>by show _=Value.bool x6;rw [q7,hc];exact Z))<|oz
 intro R w m n p
 obtain ⟨h0,h1,h2,h7⟩:=k4 n h0 h1 h2 h7
 have h19:=p.r 11 Z
 replace f_v1:=f_v1.fr m
 replace q:=q.fr m
 replace d:=d.fr m.size
 replace j:=j.tr (m.ch noB) fun _ h=>False.elim h
 refine zQ2 x6 h19 (fun c8=>?_) (fun c8=>?_)
 have c:=zAO c8 c
 refine zQA ?_
 refine HT.block ?_
 obtain ⟨e9,c⟩:=zA5 c
 refine zQD (eI y4::eI (y4+1)::eI (y4+1)::[]) ?_ ?_
 exact om h7<|op (fun Q U W H D=>zAR (D.g 0 Z) Z e9)<|oa<|oz
 intro R w m n p
 obtain ⟨h0,h1,h2⟩:=k3 n h0 h1 h2
 have h7:=p.r 2 Z
 replace f_v1:=f_v1.fr m
 replace q:=q.fr m
 replace d:=d.fr m.size
 replace j:=j.tr (m.ch noB) fun _ h=>False.elim h
 exact ei k (And.intro (Nat.lt_succ_self k) ⟨_,_,c,d,j,B,q,h0,h1,h2,h7,f_v1⟩)
 have c:=zAN c8 c
 refine zQ7 ?_
 obtain rfl:=si c
 exact ei _ ⟨_,Z,d,j,B,q,h0,h1,h2,h7,f_v1⟩
 rintro R w ⟨A,s3,es,d,j,B,q,h0,h1,h2,h7,f_v1⟩
 obtain rfl:=es.symm
 refine zQ9 ?_
 refine zQ9 ?_
 obtain ⟨x10,q11,c⟩:=zAD c
 obtain ⟨e12,c⟩:=zA5 c
 obtain ⟨x13,q14,c⟩:=zAD c
 refine zQD (eB p2::eB (!p2)::eB (!p2)::gI (true&&((!p2)==true)) s3::gR (true&&((!p2)==true)) v0::gI (true&&((!p2)==true)) (p0.length:Int)::gB (true&&((!p2)==true)) (decide (s3<(p0.length:Int)))::eB x10::eB x10::gR (true&&(x10==true)) v0::gI (true&&(x10==true)) s3::gR (true&&(x10==true)) (vptr v0 (s3.toNat*1))::gF (true&&(x10==true)) (.rep eStr A (gtD p0 s3))::gR (true&&(x10==true)) v1::gB (true&&(x10==true)) ((gtD p0 s3)==p1)::eB x13::[]) ?_ ?_
 exact om h2<|op (fun Q U W H D=>zBq (D.g 0 Z))<|ov<|gm 2 true h7<|gm 2 true h0<|og 2 true (fun G Q U W H D=>zD0 (q.ok 0 _ Z).1 (D.h 0 G Z) underlying46)<|og 2 true (fun G Q U W H D=>zAu (D.h 0 G Z) (D.h 1 G Z))<|op (fun Q U W H D=>zAF (!p2) (D.g 0 Z) (fun hc=>by have a1:Q 28 = .bool (decide (s3<(p0.length:Int))):=D 1 _ _ _ Z Z Z Z (zAc Z (zAP hc));show _=Value.bool x10;rw [q11,hc];exact a1) (fun hc=>by show _=Value.bool x10;rw [q11,hc];exact Z))<|ov<|gm 8 true h0<|gm 8 true h7<|og 8 true (fun G Q U W H D=>zAL (q.ok 0 _ Z).1 (D.h 0 G Z) (D.h 1 G Z) underlying46 sizeOf9 (gd e12 G) Z)<|og 8 true (fun G Q U W H D=>(zAw ((q.fr W).ok 0 _ Z).1 (D.h 0 G Z) (gd e12 G) Z (Fld.id _) Z isAgg9 sizeOf9))<|gm 8 true h1<|og 8 true (fun G Q U W H D=>zBD (D.h 0 G Z) ((f_v1.fr W).eq (D.h 1 G Z)))<|op (fun Q U W H D=>zAF x10 (D.g 0 Z) (fun hc=>by have a1:Q 36 = .bool ((gtD p0 s3)==p1):=D 1 _ _ _ Z Z Z Z (zAc Z (zAP hc));show _=Value.bool x13;rw [q14,hc];exact a1) (fun hc=>by show _=Value.bool x13;rw [q14,hc];exact Z))<|oz
 intro R w m n p
 obtain ⟨h0,h1,h7⟩:=k3 n h0 h1 h7
 have h37:=p.r 15 Z
 replace f_v1:=f_v1.fr m
 replace q:=q.fr m
 replace d:=d.fr m.size
 replace j:=j.tr (m.ch noB) fun _ h=>False.elim h
 refine zQ2 x13 h37 (fun c15=>?_) (fun c15=>?_)
 have c:=zAO c15 c
 refine zQ9 ?_
 refine zQD (eR v0::eR v0::[]) ?_ ?_
 exact om h0<|oa<|oz
 intro R w m n p
 have h6:=p.r 1 Z
 replace q:=q.fr m
 replace d:=d.fr m.size
 replace j:=j.tr (m.ch noB) fun _ h=>False.elim h
 refine HT.ret ?_
 obtain rfl:=si c
 exact ⟨.inr Z,[R 6],⟨Z,N⟩,by show Took _ true _ _ _ w0 (R 6) w;rw [h6];exact zGF (fun k h o=>.inr h) j (q.ok 0 _ Z).1 (q.own_ge (⟨.inr (fun k h=>.inr h),N⟩) (i:=0) Z) (fun _ _ _ _ _ h=>h)⟩
 have c:=zAN c15 c
 refine zQA ?_
 refine zQ9 ?_
 obtain ⟨e16,c⟩:=zA5 c
 obtain ⟨x17,q18,c⟩:=zAD c
 obtain ⟨e19,e20,e21,c⟩:=ck3 c
 obtain ⟨x22,q23,c⟩:=zAD c
 obtain ⟨e24,c⟩:=zA5 c
 refine zQ6 [ob v0 (.vec B0 9 eStr p0)] (⟨_,true,[],some (.vec w0.heap.size 9 eStr ([]:List (List UInt8))),true,fun A=>.any⟩::rR v0::rI s3::rR (vsub v0 (0:Int).toNat x17 1)::⟨_,true,[1],some (.vec w0.heap.size 9 eStr (([]:List (List UInt8))++(subL p0 0 s3))),true,fun A=>.any⟩::rR v1::(rF fun A=>.rep (eSl eStr) A ([p1]:List (List UInt8)))::⟨_,true,[5],some (.vec w0.heap.size 9 eStr ((([]:List (List UInt8))++(subL p0 0 s3))++([p1]:List (List UInt8)))),true,fun A=>.any⟩::rR v0::rI s3::rR (vsub v0 s3.toNat x22 1)::⟨_,true,[8],some (.vec w0.heap.size 9 eStr (((([]:List (List UInt8))++(subL p0 0 s3))++([p1]:List (List UInt8)))++(subL p0 s3 (p0.length:Int)))),true,fun A=>.any⟩::⟨_,true,[12],some (.vec w0.heap.size 9 eStr (((([]:List (List UInt8))++(subL p0 0 s3))++([p1]:List (List UInt8)))++(subL p0 s3 (p0.length:Int)))),true,fun A=>.any⟩::[]) (by kernel_rfl) (by kernel_rfl) (by kernel_rfl) (Wf.mk' (by kernel_rfl) (ua (ur (ur (ur (ua (ur (up (ua (ur (ur (ur (ua (ua (UAll.nil)))))))))))))) (by kernel_rfl) (by kernel_rfl)) q d ?_ ?_
 exact rc (OblR.made _ Z Z Z Z fun V Q U O D=>by exact zBW [] (E:=eStr) N underlying46 sizeOf9 zeroValue9 Z Z Z (Nat.le_trans j.size O.ch.size))<|rm h0<|rm h7<|rp (fun V Q U O D=>(q18 ▸ zLj (q.ok 0 _ Z).1 (D.g 0 Z) (D.g 1 Z) underlying46 sizeOf9 e16))<|rc (OblR.took 1 _ _ Z Z Z Z Z fun V Q U O D u X Y J L M=>by have a1:Q 42=(vsub v0 (0:Int).toNat x17 1):=D.g 1 Z;have ra1:Rep (eSl eStr) A0 U (Q 42) _:=(zL4 (zLJ (O.rd 0 _ Z Z) (O.lowK B C K (q.geK (⟨.inr (fun k h=>.inr h),N⟩))) C K (fun k h=>.inr h)) e16 q18 Z).eq a1;exact zGE (L _ _ Z Z Z Z).symm X Y (Nat.le_trans j.size O.ch.size) ra1 underlying46 el_9 e19 (fun _ _ h=>h))<|rm h1<|rp (fun V Q U O D=>zB6 [_] (E:=eStr) ⟨((f_v1.stp O.stp).eq (D.g 0 Z)),N⟩ underlying46 sizeOf9 zeroValue9 Z Z Z O.av)<|rc (OblR.took 5 _ _ Z Z Z Z Z fun V Q U O D u X Y J L M=>by have a1:Rep (eSl eStr) V U (Q 45) ([p1]:List (List UInt8)):=D.g 1 Z;exact zAx (L _ _ Z Z Z Z).symm X Y (Nat.le_trans j.size O.ch.size) a1 underlying46 el_9 e20)<|rm h0<|rm h7<|rp (fun V Q U O D=>(q23 ▸ zKI (q.ok 0 _ Z).1 (D.g 0 Z) (D.g 1 Z) underlying46 sizeOf9 e21))<|rc (OblR.took 8 _ _ Z Z Z Z Z fun V Q U O D u X Y J L M=>by have a1:Q 49=(vsub v0 s3.toNat x22 1):=D.g 1 Z;have ra1:Rep (eSl eStr) A0 U (Q 49) _:=(zL4 (zLJ (O.rd 0 _ Z Z) (O.lowK B C K (q.geK (⟨.inr (fun k h=>.inr h),N⟩))) C K (fun k h=>.inr h)) e21 q23 Z).eq a1;exact zGE (L _ _ Z Z Z Z).symm X Y (Nat.le_trans j.size O.ch.size) ra1 underlying46 el_9 e24 (fun _ _ h=>h))<|rc (OblR.took 12 _ _ Z Z Z Z Z fun V Q U O D u X Y J L M=>by exact zAK (L _ _ Z Z Z Z).symm X Y)<|rz
 intro done ρ σ A R w y s
 have z25:=s.inivR 0 Z
 obtain ⟨u26,e_u26⟩:∃ u,ρ 13=u:=⟨_,Z⟩
 have h6:=s.ov y 13 12 e_u26
 replace B:=s.lowK B C K (q.geK (⟨.inr (fun k h=>.inr h),N⟩))
 replace j:Ch (zA9 v0) w0 w:=j.tr s.ch (q.geK (⟨.inr (fun k h=>.inr h),N⟩))
 replace q:=s.left y [(13,ob u26 (.vec w0.heap.size 9 eStr (((([]:List (List UInt8))++(subL p0 0 s3))++([p1]:List (List UInt8)))++(subL p0 s3 (p0.length:Int)))))] ⟨Z,Z,e_u26,Z,Z,N⟩
 replace d:=s.avok
 obtain ⟨Yg26,g_Yg26⟩:∃ z,z=(((([]:List (List UInt8))++(subL p0 0 s3))++([p1]:List (List UInt8)))++(subL p0 s3 (p0.length:Int))):=⟨_,Z⟩
 rw [← g_Yg26] at q
 try rw [← g_Yg26] at c
 refine HT.ret ?_
 obtain rfl:=si c
 exact ⟨.inr Z,[R 6],⟨Z,N⟩,by show Took _ true _ _ _ w0 (R 6) w;rw [h6];exact zGF (fun k h o=>.inr h) j (zNA hB0 (q.ok 0 _ Z).1) (q.own_ge (⟨.inl Z,N⟩) (i:=0) Z) (fun _ _ _ _ _ h=>h)⟩
def zBn (fu : Nat) (x4 : List (List UInt8)) : Nat → Int → (List (List UInt8)) → Option (List (List UInt8))
 | 0,_,_=>none
 | k+1,y10,y11=>
 bif (decide (y10<(x4.length:Int))) then (
 ck (inR y10 x4.length) <|
 bif (!((gtD x4 y10)==([]:List UInt8))) then (
 ck (inR y10 x4.length) <|
 cl true (zCp fu y11 (gtD x4 y10) false) fun x16=>
 ck (i64B (y10+1)) <|
 zBn fu x4 k (y10+1) x16
 ) else (
 ck (i64B (y10+1)) <|
 zBn fu x4 k (y10+1) y11
 )
 ) else (
 some y11
 )
def zCo (fu:Nat) (p0:List UInt8):Option (List (List UInt8)):=
 cl true (zBY fu p0) fun x2=>
 cl true (zDT fu x2 32) fun x4=>
 cl true (zBn fu x4 fu 0 ([]:List (List UInt8))) fun s9=>
 some s9
theorem zHt {fu : Nat} {A0 : Av} {p0 : List UInt8} {r : List (List UInt8)} (c : zCo fu p0 = some r) {w : World} {v0 : Value} (d : AvOK A0 w) (h0 : Rep eStr A0 w v0 p0) :
 Calls prog 111 #[v0] w fun e w'=>∃ v,e = .returned v∧((Res.vec w.heap.size 9 eStr r).ok (addA A0 v) v w'∧Fr w w'):=by
 unfold zCo at c
 obtain ⟨w0,hw0,j,C⟩:=pw d
 have hA00:AvOK A0 w0:=C
 rw [fh hw0]
 rw [fw hw0]
 obtain ⟨A,hAe,B,d,q⟩:=pa d
 refine zA3 [.tmp 2] func111 ntmps111 (by decide) Z Z (nb Z) ?_
 intro R hR
 have f_v0:Rep eStr A w v0 p0:=hAe ▸ h0
 replace h0:R 0=v0:=hR 0 _ Z
 refine zQB d j (eA::[]) ?_ ?_
 exact op (fun Q U W H D=>zA2 N)<|oz
 intro R w m n p d j
 replace h0:=k1 n h0
 replace f_v0:=f_v0.fr m
 replace q:=q.fr m
 refine zQC [] (⟨_,true,[],some (.vec w0.heap.size 9 eStr ([]:List (List UInt8))),true,fun A=>.any⟩::⟨_,true,[0],some (.vec w0.heap.size 9 eStr ([]:List (List UInt8))),true,fun A=>.any⟩::[]) (ua (ua (UAll.nil))) q d ?_ ?_
 exact rc (OblR.made _ Z Z Z Z fun V Q U O D=>by exact zBW [] (E:=eStr) N underlying46 sizeOf9 zeroValue9 Z Z Z (Nat.le_trans j.size O.ch.size))<|rc (OblR.took 0 _ _ Z Z Z Z Z fun V Q U O D u X Y J L M=>by exact zAK (L _ _ Z Z Z Z).symm X Y)<|rz
 intro done ρ σ A R w y s
 replace h0:=k1 s.rg h0
 obtain ⟨u1,e_u1⟩:∃ u,ρ 1=u:=⟨_,Z⟩
 have h3:=s.ov y 1 1 e_u1
 replace f_v0:=f_v0.stp s.stp
 obtain ⟨B,j,d⟩:=s.s B C j q N
 replace q:=s.left y [(1,ob u1 (.vec w0.heap.size 9 eStr ([]:List (List UInt8))))] ⟨Z,Z,e_u1,Z,Z,N⟩
 obtain ⟨x2,q3,c⟩:=zA4 c
 obtain ⟨x4,q5,c⟩:=zA4 c
 refine zQB d j (eR v0::eF (.rep eStr A x2)::eF (.rep (eSl eStr) A x4)::eF (.rep (eSl eStr) A x4)::[]) ?_ ?_
 exact om h0<|op (fun Q U W H D=>zA8 call60 (zDA (q3 Z) (d.fr W.size) ((f_v0.fr W).eq (D.g 0 Z))))<|op (fun Q U W H D=>zA8 call160 (zHv (q5 Z) (d.fr W.size) (D.g 0 Z) Z))<|op (fun Q U W H D=>zA2 (D.g 0 Z))<|oz
 intro R w m n p d j
 replace h3:=k1 n h3
 obtain ⟨u6,h4,f_u6⟩:∃ u,R 4=u∧Rep (eSl eStr) A w u x4:=⟨_,Z,p 3 _ _ Z Z Z⟩
 replace q:=q.fr m
 refine zQ9 ?_
 refine zQB d j (eI 0::[]) ?_ ?_
 exact op (fun Q U W H D=>zA2 Z)<|oz
 intro R w m n p d j
 obtain ⟨h3,h4⟩:=k2 n h3 h4
 have h5:=p.r 0 Z
 replace f_u6:=f_u6.fr m
 replace q:=q.fr m
 obtain ⟨rl7,q8,c⟩:=zA4 c
 replace q8:=q8 Z
 refine zQ4 (fun R w=>∃ A:Av,∃ (s9:(List (List UInt8))) (uo_u1:Value),rl7=s9∧AvOK A w∧Fr w0 w∧(∀ b o,A0 b o→A b o)∧IniOK [ob uo_u1 (.vec w0.heap.size 9 eStr s9)] A w∧R 3=uo_u1) ?_ ?_
 refine HT.block ?_
 refine zQ8 (fun k R w=>∃ A:Av,∃ (y10:Int) (y11:List (List UInt8)) (ul_u1:Value),zBn fu x4 k y10 y11=some rl7∧AvOK A w∧Fr w0 w∧(∀ b o,A0 b o→A b o)∧IniOK [ob ul_u1 (.vec w0.heap.size 9 eStr y11)] A w∧R 3=ul_u1∧R 4=u6∧R 5 = .int .i64 y10∧Rep (eSl eStr) A w u6 x4) fu ⟨_,_,_,u1,q8,d,j,B,q,h3,h4,h5,f_u6⟩ ?_
 have hr0:=c;clear c q8
 rintro k R w ⟨A,y10,y11,ul_u1,c,d,j,B,q,h3,h4,h5,f_u6⟩
 rcases k with _ | k
 cases (show none=some _ from c)
 rw [zBn] at c
 refine zQ9 ?_
 refine zQB d j (eI y10::eR u6::eI (x4.length:Int)::eB (decide (y10<(x4.length:Int)))::[]) ?_ ?_
 exact om h5<|om h4<|op (fun Q U W H D=>zAe (aT:=#[]) ((f_u6.fr W).eq (D.g 0 Z)) underlying46)<|op (fun Q U W H D=>zAu (D.g 0 Z) (D.g 1 Z))<|oz
 intro R w m n p d j
 obtain ⟨h3,h4,h5⟩:=k3 n h3 h4 h5
 have h13:=p.r 3 Z
 replace f_u6:=f_u6.fr m
 replace q:=q.fr m
 refine zQ2 (decide (y10<(x4.length:Int))) h13 (fun c12=>?_) (fun c12=>?_)
 have c:=zAO c12 c
 refine zQA ?_
 refine zQ9 ?_
 refine HT.block ?_
 obtain ⟨e13,c⟩:=zA5 c
 refine zQB d j (eR u6::eI y10::eF (.qtr eStr A (gtD x4 y10))::eF (.rep eStr A (gtD x4 y10))::eB (!((gtD x4 y10)==([]:List UInt8)))::[]) ?_ ?_
 exact om h4<|om h5<|op (fun Q U W H D=>zA7 ((f_u6.fr W).eq (D.g 0 Z)) (D.g 1 Z) underlying46 sizeOf9 e13)<|op (fun Q U W H D=>(zAT (QRep.ptr (D.g 0 Z)) isAgg9 sizeOf9))<|op (fun Q U W H D=>zFk (D.g 0 Z) ⟨_,Z,⟨_,Z,Z,by decide⟩⟩)<|oz
 intro R w m n p d j
 obtain ⟨h3,h4,h5⟩:=k3 n h3 h4 h5
 have h20:=p.r 4 Z
 replace f_u6:=f_u6.fr m
 replace q:=q.fr m
 refine zQ2 (!((gtD x4 y10)==([]:List UInt8))) h20 (fun c14=>?_) (fun c14=>?_)
 have c:=zAO c14 c
 obtain ⟨e15,c⟩:=zA5 c
 obtain ⟨x16,q17,c⟩:=zA4 c
 refine zQF [ob ul_u1 (.vec w0.heap.size 9 eStr y11)] (rR ul_u1::rR u6::rI y10::(rF fun A=>.qtr eStr A (gtD x4 y10))::(rF fun A=>.rep eStr A (gtD x4 y10))::⟨_,true,[0],some (.vec w0.heap.size 9 eStr x16),true,fun A=>.any⟩::⟨_,true,[6],some (.vec w0.heap.size 9 eStr x16),true,fun A=>.any⟩::[]) (ur (ur (ur (UAll.cons zBL (up (ua (ua (UAll.nil)))))))) q d ?_ ?_
 exact rm h3<|rm h4<|rm h5<|rp (fun V Q U O D=>zA7 ((f_u6.stp O.stp).eq (D.g 0 Z)) (D.g 1 Z) underlying46 sizeOf9 e15)<|rp (fun V Q U O D=>(zAT (QRep.ptr (D.g 0 Z)) isAgg9 sizeOf9))<|rc (OblR.took 0 _ _ Z Z Z Z Z fun V Q U O D u X Y J L M=>by have a0:Q 21=ul_u1:=D.g 0 Z;have a1:Rep eStr V U (Q 25) (gtD x4 y10):=D.g 1 Z;have hu0:zAG Q (.tmp 21)=u:=a0.trans (J _ Z).symm;exact zEv call109 Y (by simp only [List.map,hu0];exact zDP (q17 Z) (O.av.sub _) (fun b o h=>h.2) (Nat.le_trans j.size O.ch.size) (Vec.flat X (fun _ _ _ _ _ h=>h)) (a1.less fun b o h=>h.1) Z))<|rc (OblR.took 6 _ _ Z Z Z Z Z fun V Q U O D u X Y J L M=>by exact zAK (L _ _ Z Z Z Z).symm X Y)<|rz
 intro done ρ σ A R w y s
 obtain ⟨h4,h5⟩:=k2 s.rg h4 h5
 obtain ⟨u18,e_u18⟩:∃ u,ρ 7=u:=⟨_,Z⟩
 have h3:=s.ov y 7 6 e_u18
 replace f_u6:=f_u6.stp s.stp
 obtain ⟨B,j,d⟩:=s.s B C j q ⟨Z,N⟩
 replace q:=s.left y [(7,ob u18 (.vec w0.heap.size 9 eStr x16))] ⟨Z,Z,e_u18,Z,Z,N⟩
 obtain ⟨e19,c⟩:=zA5 c
 refine HT.u d j (eI y10::eI (y10+1)::eI (y10+1)::[]) ?_ ?_
 exact om h5<|op (fun Q U W H D=>zAR (D.g 0 Z) Z e19)<|oa<|oz
 intro R w m n p d j
 obtain ⟨h3,h4⟩:=k2 n h3 h4
 have h5:=p.r 2 Z
 replace f_u6:=f_u6.fr m
 replace q:=q.fr m
 exact ei k (And.intro (Nat.lt_succ_self k) ⟨_,_,_,u18,c,d,j,B,q,h3,h4,h5,f_u6⟩)
 have c:=zAN c14 c
 refine zQA ?_
 obtain ⟨e20,c⟩:=zA5 c
 refine HT.u d j (eI y10::eI (y10+1)::eI (y10+1)::[]) ?_ ?_
 exact om h5<|op (fun Q U W H D=>zAR (D.g 0 Z) Z e20)<|oa<|oz
 intro R w m n p d j
 obtain ⟨h3,h4⟩:=k2 n h3 h4
 have h5:=p.r 2 Z
 replace f_u6:=f_u6.fr m
 replace q:=q.fr m
 exact ei k (And.intro (Nat.lt_succ_self k) ⟨_,_,_,ul_u1,c,d,j,B,q,h3,h4,h5,f_u6⟩)
 have c:=zAN c12 c
 refine zQ7 ?_
 obtain rfl:=si c
 exact ei _ ⟨_,ul_u1,Z,d,j,B,q,h3⟩
 rintro R w ⟨A,s9,uo_u1,es,d,j,B,q,h3⟩
 obtain rfl:=es.symm
 refine zQB d j (eR uo_u1::eR uo_u1::[]) ?_ ?_
 exact om h3<|oa<|oz
 intro R w m n p d j
 have h2:=p.r 1 Z
 replace q:=q.fr m
 refine HT.ret ?_
 obtain rfl:=si c
 exact ⟨.inr Z,[R 2],⟨Z,N⟩,(zCj (q.ok 0 _ Z) B h2),j⟩
theorem zET {fu : Nat} {A0 : Av} {p0 : List UInt8} {r : List (List UInt8)} (c : zCo fu p0 = some r) {w : World} {v0 : Value} (d : AvOK A0 w) (h0 : Rep eStr A0 w v0 p0) :
 Calls prog 111 #[v0] w fun e w'=>∃ v,e = .returned v∧(Rep (eSl eStr) A0 w' v r∧Fr w w'):=by
 refine Calls.mono (zHt c d h0) ?_
 rintro e w' ⟨v,he,hv,hf⟩
 exact ⟨v,he,zD2 hv (fun b o h=>.inl h) d,hf⟩
def zAz (fu : Nat) (p0 : List (List UInt8)) (y4 : Int) : Nat → Int → Option (Ex Bool Unit)
 | 0,_=>none
 | k+1,y18=>
 ck (inR y4 p0.length) <|
 bif (decide (y18<((gtD p0 y4).length:Int))) then (
 ck (inR y4 p0.length) <|
 ck (inR y18 (gtD p0 y4).length) <|
 cl true (zD9 fu (bAt (gtD p0 y4) y18)) fun x23=>
 ck (!(true&&((!x23)==false)) || inR y4 p0.length) <|
 cl (true&&((!x23)==false)) (zBh fu (gtD p0 y4)) fun x26=>
 ck (!(true&&((!x23)==false)) || inR y4 p0.length) <|
 bd ((!x23) || (!(x26==(gtD p0 y4)))) fun x29=>
 bif x29 then (
 some (Ex.ret false)
 ) else (
 ck (i64B (y18+1)) <|
 zAz fu p0 y4 k (y18+1)
 )
 ) else (
 some (Ex.go ())
 )
def zBJ (fu : Nat) (p0 : List (List UInt8)) : Nat → Int → Option (Ex Bool Unit)
 | 0,_=>none
 | k+1,y4=>
 bif (decide (y4<(p0.length:Int))) then (
 ck (inR y4 p0.length) <|
 ck (!((true&&(((gtD p0 y4)==([]:List UInt8))==false))&&((decide (0<y4))==true)) || i64B (y4-1)) <|
 ck (!((true&&(((gtD p0 y4)==([]:List UInt8))==false))&&((decide (0<y4))==true)) || inR (y4-1) p0.length) <|
 ck (!((true&&(((gtD p0 y4)==([]:List UInt8))==false))&&((decide (0<y4))==true)) || inR y4 p0.length) <|
 bd ((decide (0<y4))&&(!(bLt (gtD p0 (y4-1)) (gtD p0 y4)))) fun x10=>
 bd (((gtD p0 y4)==([]:List UInt8)) || x10) fun x12=>
 bif x12 then (
 some (Ex.ret false)
 ) else (
 cl true (zAz fu p0 y4 fu 0) fun rl15=>
 exM rl15 (fun r=>some (Ex.ret r)) fun s17=>
 ck (i64B (y4+1)) <|
 zBJ fu p0 k (y4+1)
 )
 ) else (
 some (Ex.go ())
 )
def zCR (fu:Nat) (p0:List (List UInt8)):Option Bool:=
 cl true (zBJ fu p0 fu 0) fun rl1=>
 exM rl1 (fun r=>some r) fun s3=>
 some true
theorem zEq {fu : Nat} {A : Av} {p0 : List (List UInt8)} {r : Bool} (c : zCR fu p0 = some r) {w : World} {v0 : Value} (d : AvOK A w) (h0 : Rep (eSl eStr) A w v0 p0) :
 Calls prog 270 #[v0] w fun e w'=>∃ v,e = .returned v∧(v = .bool r∧Fr w w'):=by
 unfold zCR at c
 obtain ⟨w0,hw0,j⟩:=pf w
 rw [fw hw0]
 refine zA3 [.tmp 2] func270 ntmps270 (by decide) Z Z (nb Z) ?_
 intro R hR
 have f_v0:=h0
 replace h0:R 0=v0:=hR 0 _ Z
 refine zQB d j (eB false::[]) ?_ ?_
 exact op (fun Q U W H D=>zA2 Z)<|oz
 intro R w m n p d j
 replace h0:=k1 n h0
 replace f_v0:=f_v0.fr m
 refine zQ9 ?_
 refine zQB d j (eI 0::[]) ?_ ?_
 exact op (fun Q U W H D=>zA2 Z)<|oz
 intro R w m n p d j
 replace h0:=k1 n h0
 have h3:=p.r 0 Z
 replace f_v0:=f_v0.fr m
 obtain ⟨rl1,q2,c⟩:=zA4 c
 replace q2:=q2 Z
 refine zQ4 (fun R w=>∃ (s3:Unit),rl1=Ex.go s3∧AvOK A w∧Fr w0 w) ?_ ?_
 refine HT.block ?_
 refine zQ8 (fun k R w=>∃ (y4:Int),zBJ fu p0 k y4=some rl1∧AvOK A w∧Fr w0 w∧R 0=v0∧R 3 = .int .i64 y4∧Rep (eSl eStr) A w v0 p0) fu ⟨_,q2,d,j,h0,h3,f_v0⟩ ?_
 have hr0:=c;clear c q2
 rintro k R w ⟨y4,c,d,j,h0,h3,f_v0⟩
 rcases k with _ | k
 cases (show none=some _ from c)
 rw [zBJ] at c
 refine zQ9 ?_
 refine zQB d j (eI y4::eR v0::eI (p0.length:Int)::eB (decide (y4<(p0.length:Int)))::[]) ?_ ?_
 exact om h3<|om h0<|op (fun Q U W H D=>zAe (aT:=#[]) ((f_v0.fr W).eq (D.g 0 Z)) underlying46)<|op (fun Q U W H D=>zAu (D.g 0 Z) (D.g 1 Z))<|oz
 intro R w m n p d j
 obtain ⟨h0,h3⟩:=k2 n h0 h3
 have h8:=p.r 3 Z
 replace f_v0:=f_v0.fr m
 refine zQ2 (decide (y4<(p0.length:Int))) h8 (fun c5=>?_) (fun c5=>?_)
 have c:=zAO c5 c
 refine zQA ?_
 refine zQ9 ?_
 refine HT.block ?_
 refine zQ9 ?_
 refine zQ9 ?_
 obtain ⟨e6,e7,e8,e9,c⟩:=ck4 c
 obtain ⟨x10,q11,c⟩:=zAD c
 obtain ⟨x12,q13,c⟩:=zAD c
 refine zQ5 (by kernel_rfl) (l:=eR v0::eI y4::eF (.qtr eStr A (gtD p0 y4))::eF (.rep eStr A (gtD p0 y4))::eB ((gtD p0 y4)==([]:List UInt8))::eB ((gtD p0 y4)==([]:List UInt8))::gI (true&&(((gtD p0 y4)==([]:List UInt8))==false)) y4::gB (true&&(((gtD p0 y4)==([]:List UInt8))==false)) (decide (0<y4))::gB (true&&(((gtD p0 y4)==([]:List UInt8))==false)) (decide (0<y4))::gR ((true&&(((gtD p0 y4)==([]:List UInt8))==false))&&((decide (0<y4))==true)) v0::gI ((true&&(((gtD p0 y4)==([]:List UInt8))==false))&&((decide (0<y4))==true)) y4::gI ((true&&(((gtD p0 y4)==([]:List UInt8))==false))&&((decide (0<y4))==true)) (y4-1)::gF ((true&&(((gtD p0 y4)==([]:List UInt8))==false))&&((decide (0<y4))==true)) (.qtr eStr A (gtD p0 (y4-1)))::gF ((true&&(((gtD p0 y4)==([]:List UInt8))==false))&&((decide (0<y4))==true)) (.rep eStr A (gtD p0 (y4-1)))::gR ((true&&(((gtD p0 y4)==([]:List UInt8))==false))&&((decide (0<y4))==true)) v0::gI ((true&&(((gtD p0 y4)==([]:List UInt8))==false))&&((decide (0<y4))==true)) y4::gF ((true&&(((gtD p0 y4)==([]:List UInt8))==false))&&((decide (0<y4))==true)) (.qtr eStr A (gtD p0 y4))::gF ((true&&(((gtD p0 y4)==([]:List UInt8))==false))&&((decide (0<y4))==true)) (.rep eStr A (gtD p0 y4))::gB ((true&&(((gtD p0 y4)==([]:List UInt8))==false))&&((decide (0<y4))==true)) (!(bLt (gtD p0 (y4-1)) (gtD p0 y4)))::gB (true&&(((gtD p0 y4)==([]:List UInt8))==false)) x10::eB x12::[]) (tl:=[]) (by kernel_rfl) (by kernel_rfl) (by kernel_rfl) (by kernel_rfl) ?_ ?_
 exact om h0<|om h3<|op (fun Q U W H D=>zA7 ((f_v0.fr W).eq (D.g 0 Z)) (D.g 1 Z) underlying46 sizeOf9 e6)<|op (fun Q U W H D=>(zAT (QRep.ptr (D.g 0 Z)) isAgg9 sizeOf9))<|op (fun Q U W H D=>zBD (D.g 0 Z) ⟨_,Z,⟨_,Z,Z,by decide⟩⟩)<|ov<|gm 5 false h3<|og 5 false (fun G Q U W H D=>zCM (D.h 0 G Z) Z)<|og 5 false (fun G Q U W H D=>zBk (D.h 0 G Z))<|gm 8 true h0<|gm 8 true h3<|og 8 true (fun G Q U W H D=>zAb (D.h 0 G Z) Z (gd e7 G))<|og 8 true (fun G Q U W H D=>zA7 ((f_v0.fr W).eq (D.h 0 G Z)) (D.h 1 G Z) underlying46 sizeOf9 (gd e8 G))<|og 8 true (fun G Q U W H D=>(zAT (QRep.ptr (D.h 0 G Z)) isAgg9 sizeOf9))<|gm 8 true h0<|gm 8 true h3<|og 8 true (fun G Q U W H D=>zA7 ((f_v0.fr W).eq (D.h 0 G Z)) (D.h 1 G Z) underlying46 sizeOf9 (gd e9 G))<|og 8 true (fun G Q U W H D=>(zAT (QRep.ptr (D.h 0 G Z)) isAgg9 sizeOf9))<|og 8 true (fun G Q U W H D=>zMr (D.h 0 G Z) (D.h 1 G Z))<|og 5 false (fun G Q U W H D=>zAF (decide (0<y4)) (D.h 0 G Z) (fun hc=>by have a1:Q 29 = .bool (!(bLt (gtD p0 (y4-1)) (gtD p0 y4))):=D 1 _ _ _ Z Z Z Z (zAc G (zAP hc));show _=Value.bool x10;rw [q11,hc];exact a1) (fun hc=>by show _=Value.bool x10;rw [q11,hc];exact Z))<|op (fun Q U W H D=>zAF ((gtD p0 y4)==([]:List UInt8)) (D.g 0 Z) (fun hc=>by show _=Value.bool x12;rw [q13,hc];exact Z) (fun hc=>by have a2:Q 30 = .bool x10:=D 1 _ _ _ Z Z Z Z (zAc Z (zAP hc));show _=Value.bool x12;rw [q13,hc];exact a2))<|oz
 intro R w m n p
 obtain ⟨h0,h3⟩:=k2 n h0 h3
 have h31:=p.r 20 Z
 replace f_v0:=f_v0.fr m
 replace d:=d.fr m.size
 replace j:=j.trans m
 refine zQ2 x12 h31 (fun c14=>?_) (fun c14=>?_)
 have c:=zAO c14 c
 refine zQB d j (eB false::[]) ?_ ?_
 exact op (fun Q U W H D=>zA2 Z)<|oz
 intro R w m n p d j
 have h2:=p.r 0 Z
 refine HT.ret ?_
 obtain rfl:=si c
 have c:=hr0
 replace c:some _=some _:=c
 obtain rfl:=si c
 exact ⟨.inr Z,[R 2],⟨Z,N⟩,h2,j⟩
 have c:=zAN c14 c
 refine zQA ?_
 refine zQB d j (eI 0::[]) ?_ ?_
 exact op (fun Q U W H D=>zA2 Z)<|oz
 intro R w m n p d j
 obtain ⟨h0,h3⟩:=k2 n h0 h3
 have h4:=p.r 0 Z
 replace f_v0:=f_v0.fr m
 obtain ⟨rl15,q16,c⟩:=zA4 c
 replace q16:=q16 Z
 refine zQ4 (fun R w=>∃ (s17:Unit),rl15=Ex.go s17∧AvOK A w∧Fr w0 w∧R 0=v0∧R 3 = .int .i64 y4∧Rep (eSl eStr) A w v0 p0) ?_ ?_
 refine HT.block ?_
 refine zQ8 (fun k R w=>∃ (y18:Int),zAz fu p0 y4 k y18=some rl15∧AvOK A w∧Fr w0 w∧R 0=v0∧R 3 = .int .i64 y4∧R 4 = .int .i64 y18∧Rep (eSl eStr) A w v0 p0) fu ⟨_,q16,d,j,h0,h3,h4,f_v0⟩ ?_
 have hr1:=c;clear c q16
 rintro k R w ⟨y18,c,d,j,h0,h3,h4,f_v0⟩
 rcases k with _ | k
 cases (show none=some _ from c)
 rw [zAz] at c
 refine zQ9 ?_
 obtain ⟨e19,c⟩:=zA5 c
 refine zQB d j (eI y18::eR v0::eI y4::eF (.qtr eStr A (gtD p0 y4))::eF (.rep eStr A (gtD p0 y4))::eI ((gtD p0 y4).length:Int)::eB (decide (y18<((gtD p0 y4).length:Int)))::[]) ?_ ?_
 exact om h4<|om h0<|om h3<|op (fun Q U W H D=>zA7 ((f_v0.fr W).eq (D.g 0 Z)) (D.g 1 Z) underlying46 sizeOf9 e19)<|op (fun Q U W H D=>(zAT (QRep.ptr (D.g 0 Z)) isAgg9 sizeOf9))<|op (fun Q U W H D=>zAJ (D.g 0 Z) underlying9)<|op (fun Q U W H D=>zAu (D.g 0 Z) (D.g 1 Z))<|oz
 intro R w m n p d j
 obtain ⟨h0,h3,h4⟩:=k3 n h0 h3 h4
 have h38:=p.r 6 Z
 replace f_v0:=f_v0.fr m
 refine zQ2 (decide (y18<((gtD p0 y4).length:Int))) h38 (fun c20=>?_) (fun c20=>?_)
 have c:=zAO c20 c
 refine zQA ?_
 refine zQ9 ?_
 refine HT.block ?_
 refine zQ9 ?_
 obtain ⟨e21,e22,c⟩:=ck2 c
 obtain ⟨x23,q24,c⟩:=zA4 c
 obtain ⟨e25,c⟩:=zA5 c
 obtain ⟨x26,q27,c⟩:=zA4 c
 obtain ⟨e28,c⟩:=zA5 c
 obtain ⟨x29,q30,c⟩:=zAD c
 refine zQ5 (by kernel_rfl) (l:=eR v0::eI y4::eF (.qtr eStr A (gtD p0 y4))::eF (.rep eStr A (gtD p0 y4))::eI y18::eU (bAt (gtD p0 y4) y18)::eB x23::eB (!x23)::eB (!x23)::gR (true&&((!x23)==false)) v0::gI (true&&((!x23)==false)) y4::gF (true&&((!x23)==false)) (.qtr eStr A (gtD p0 y4))::gF (true&&((!x23)==false)) (.rep eStr A (gtD p0 y4))::gF (true&&((!x23)==false)) (.rep eStr A x26)::gR (true&&((!x23)==false)) v0::gI (true&&((!x23)==false)) y4::gF (true&&((!x23)==false)) (.qtr eStr A (gtD p0 y4))::gF (true&&((!x23)==false)) (.rep eStr A (gtD p0 y4))::gB (true&&((!x23)==false)) (!(x26==(gtD p0 y4)))::eB x29::[]) (tl:=[]) (by kernel_rfl) (by kernel_rfl) (by kernel_rfl) (by kernel_rfl) ?_ ?_
 exact om h0<|om h3<|op (fun Q U W H D=>zA7 ((f_v0.fr W).eq (D.g 0 Z)) (D.g 1 Z) underlying46 sizeOf9 e21)<|op (fun Q U W H D=>(zAT (QRep.ptr (D.g 0 Z)) isAgg9 sizeOf9))<|om h4<|op (fun Q U W H D=>zAB (D.g 0 Z) (D.g 1 Z) underlying9 e22)<|op (fun Q U W H D=>zA8 call188 (zFv (q24 Z) (d.fr W.size) (D.g 0 Z)))<|op (fun Q U W H D=>zBq (D.g 0 Z))<|ov<|gm 8 false h0<|gm 8 false h3<|og 8 false (fun G Q U W H D=>zA7 ((f_v0.fr W).eq (D.h 0 G Z)) (D.h 1 G Z) underlying46 sizeOf9 (gd e25 G))<|og 8 false (fun G Q U W H D=>(zAT (QRep.ptr (D.h 0 G Z)) isAgg9 sizeOf9))<|og 8 false (fun G Q U W H D=>zA8 call133 (zDI (q27 G) (d.fr W.size) (D.h 0 G Z)))<|gm 8 false h0<|gm 8 false h3<|og 8 false (fun G Q U W H D=>zA7 ((f_v0.fr W).eq (D.h 0 G Z)) (D.h 1 G Z) underlying46 sizeOf9 (gd e28 G))<|og 8 false (fun G Q U W H D=>(zAT (QRep.ptr (D.h 0 G Z)) isAgg9 sizeOf9))<|og 8 false (fun G Q U W H D=>zFk (D.h 0 G Z) (D.h 1 G Z))<|op (fun Q U W H D=>zAF (!x23) (D.g 0 Z) (fun hc=>by show _=Value.bool x29;rw [q30,hc];exact Z) (fun hc=>by have a2:Q 59 = .bool (!(x26==(gtD p0 y4))):=D 1 _ _ _ Z Z Z Z (zAc Z (zAP hc));show _=Value.bool x29;rw [q30,hc];exact a2))<|oz
 intro R w m n p
 obtain ⟨h0,h3,h4⟩:=k3 n h0 h3 h4
 have h60:=p.r 19 Z
 replace f_v0:=f_v0.fr m
 replace d:=d.fr m.size
 replace j:=j.trans m
 refine zQ2 x29 h60 (fun c31=>?_) (fun c31=>?_)
 have c:=zAO c31 c
 refine zQB d j (eB false::[]) ?_ ?_
 exact op (fun Q U W H D=>zA2 Z)<|oz
 intro R w m n p d j
 have h2:=p.r 0 Z
 refine HT.ret ?_
 obtain rfl:=si c
 have c:=hr1
 replace c:some _=some _:=c
 obtain rfl:=si c
 have c:=hr0
 replace c:some _=some _:=c
 obtain rfl:=si c
 exact ⟨.inr Z,[R 2],⟨Z,N⟩,h2,j⟩
 have c:=zAN c31 c
 refine zQA ?_
 obtain ⟨e32,c⟩:=zA5 c
 refine HT.u d j (eI y18::eI (y18+1)::eI (y18+1)::[]) ?_ ?_
 exact om h4<|op (fun Q U W H D=>zAR (D.g 0 Z) Z e32)<|oa<|oz
 intro R w m n p d j
 obtain ⟨h0,h3⟩:=k2 n h0 h3
 have h4:=p.r 2 Z
 replace f_v0:=f_v0.fr m
 exact ei k (And.intro (Nat.lt_succ_self k) ⟨_,c,d,j,h0,h3,h4,f_v0⟩)
 have c:=zAN c20 c
 refine zQ7 ?_
 obtain rfl:=si c
 exact ei _ ⟨Z,d,j,h0,h3,f_v0⟩
 rintro R w ⟨s17,rfl,d,j,h0,h3,f_v0⟩
 have c:=zF6 c
 obtain ⟨e33,c⟩:=zA5 c
 refine HT.u d j (eI y4::eI (y4+1)::eI (y4+1)::[]) ?_ ?_
 exact om h3<|op (fun Q U W H D=>zAR (D.g 0 Z) Z e33)<|oa<|oz
 intro R w m n p d j
 replace h0:=k1 n h0
 have h3:=p.r 2 Z
 replace f_v0:=f_v0.fr m
 exact ei k (And.intro (Nat.lt_succ_self k) ⟨_,c,d,j,h0,h3,f_v0⟩)
 have c:=zAN c5 c
 refine zQ7 ?_
 obtain rfl:=si c
 exact ei _ ⟨Z,d,j⟩
 rintro R w ⟨s3,rfl,d,j⟩
 have c:=zF6 c
 refine zQB d j (eB true::[]) ?_ ?_
 exact op (fun Q U W H D=>zA2 Z)<|oz
 intro R w m n p d j
 have h2:=p.r 0 Z
 refine HT.ret ?_
 obtain rfl:=si c
 exact ⟨.inr Z,[R 2],⟨Z,N⟩,h2,j⟩
def zEu (fu:Nat) (p0:List (List UInt8)) (p1:List (List UInt8)):Option Bool:=
 cl true (zCR fu p0) fun x1=>
 cl (true&&(x1==true)) (zCR fu p1) fun x3=>
 bd (x1&&x3) fun x5=>
 some x5
theorem zHx {fu : Nat} {A : Av} {p0 : List (List UInt8)} {p1 : List (List UInt8)} {r : Bool} (c : zEu fu p0 p1 = some r) {w : World} {v0 : Value} {v1 : Value} (d : AvOK A w) (h0 : Rep (eSl eStr) A w v0 p0) (h1 : Rep (eSl eStr) A w v1 p1) :
 Calls prog 228 #[v0,v1] w fun e w'=>∃ v,e = .returned v∧(v = .bool r∧Fr w w'):=by
 unfold zEu at c
 obtain ⟨w0,hw0,j⟩:=pf w
 rw [fw hw0]
 refine zA3 [.tmp 4] func228 ntmps228 (by decide) Z Z (nb Z) ?_
 intro R hR
 have f_v0:=h0
 replace h0:R 0=v0:=hR 0 _ Z
 have f_v1:=h1
 replace h1:R 1=v1:=hR 1 _ Z
 refine zQB d j (eB false::[]) ?_ ?_
 exact op (fun Q U W H D=>zA2 Z)<|oz
 intro R w m n p d j
 obtain ⟨h0,h1⟩:=k2 n h0 h1
 replace f_v0:=f_v0.fr m
 replace f_v1:=f_v1.fr m
 refine zQ9 ?_
 obtain ⟨x1,q2,c⟩:=zA4 c
 obtain ⟨x3,q4,c⟩:=zA4 c
 obtain ⟨x5,q6,c⟩:=zAD c
 refine HT.u d j (eR v0::eB x1::eB x1::gR (true&&(x1==true)) v1::gB (true&&(x1==true)) x3::eB x5::eB x5::[]) ?_ ?_
 exact om h0<|op (fun Q U W H D=>zA8 call270 (zEq (q2 Z) (d.fr W.size) ((f_v0.fr W).eq (D.g 0 Z))))<|ov<|gm 2 true h1<|og 2 true (fun G Q U W H D=>zA8 call270 (zEq (q4 G) (d.fr W.size) ((f_v1.fr W).eq (D.h 0 G Z))))<|op (fun Q U W H D=>zAF x1 (D.g 0 Z) (fun hc=>by have a1:Q 9 = .bool x3:=D 1 _ _ _ Z Z Z Z (zAc Z (zAP hc));show _=Value.bool x5;rw [q6,hc];exact a1) (fun hc=>by show _=Value.bool x5;rw [q6,hc];exact Z))<|oa<|oz
 intro R w m n p d j
 have h4:=p.r 6 Z
 refine HT.ret ?_
 obtain rfl:=si c
 exact ⟨.inr Z,[R 4],⟨Z,N⟩,h4,j⟩
def zCb (fu : Nat) (p0 : List (List UInt8)) (p1 : List UInt8) : Nat → Int → Option (Ex Bool Unit)
 | 0,_=>none
 | k+1,y4=>
 bif (decide (y4<(p0.length:Int))) then (
 ck (inR y4 p0.length) <|
 bif ((gtD p0 y4)==p1) then (
 some (Ex.ret true)
 ) else (
 ck (i64B (y4+1)) <|
 zCb fu p0 p1 k (y4+1)
 )
 ) else (
 some (Ex.go ())
 )
def zEb (fu:Nat) (p0:List (List UInt8)) (p1:List UInt8):Option Bool:=
 cl true (zCb fu p0 p1 fu 0) fun rl1=>
 exM rl1 (fun r=>some r) fun s3=>
 some false
theorem zIf {fu : Nat} {A : Av} {p0 : List (List UInt8)} {p1 : List UInt8} {r : Bool} (c : zEb fu p0 p1 = some r) {w : World} {v0 : Value} {v1 : Value} (d : AvOK A w) (h0 : Rep (eSl eStr) A w v0 p0) (h1 : Rep eStr A w v1 p1) :
 Calls prog 120 #[v0,v1] w fun e w'=>∃ v,e = .returned v∧(v = .bool r∧Fr w w'):=by
 unfold zEb at c
 obtain ⟨w0,hw0,j⟩:=pf w
 rw [fw hw0]
 refine zA3 [.tmp 4] func120 ntmps120 (by decide) Z Z (nb Z) ?_
 intro R hR
 have f_v0:=h0
 replace h0:R 0=v0:=hR 0 _ Z
 have f_v1:=h1
 replace h1:R 1=v1:=hR 1 _ Z
 refine zQB d j (eB false::[]) ?_ ?_
 exact op (fun Q U W H D=>zA2 Z)<|oz
 intro R w m n p d j
 obtain ⟨h0,h1⟩:=k2 n h0 h1
 replace f_v0:=f_v0.fr m
 replace f_v1:=f_v1.fr m
 refine zQ9 ?_
 refine zQB d j (eI 0::[]) ?_ ?_
 exact op (fun Q U W H D=>zA2 Z)<|oz
 intro R w m n p d j
 obtain ⟨h0,h1⟩:=k2 n h0 h1
 have h5:=p.r 0 Z
 replace f_v0:=f_v0.fr m
 replace f_v1:=f_v1.fr m
 obtain ⟨rl1,q2,c⟩:=zA4 c
 replace q2:=q2 Z
 refine zQ4 (fun R w=>∃ (s3:Unit),rl1=Ex.go s3∧AvOK A w∧Fr w0 w) ?_ ?_
 refine HT.block ?_
 refine zQ8 (fun k R w=>∃ (y4:Int),zCb fu p0 p1 k y4=some rl1∧AvOK A w∧Fr w0 w∧R 0=v0∧R 1=v1∧R 5 = .int .i64 y4∧Rep (eSl eStr) A w v0 p0∧Rep eStr A w v1 p1) fu ⟨_,q2,d,j,h0,h1,h5,f_v0,f_v1⟩ ?_
 have hr0:=c;clear c q2
 rintro k R w ⟨y4,c,d,j,h0,h1,h5,f_v0,f_v1⟩
 rcases k with _ | k
 cases (show none=some _ from c)
 rw [zCb] at c
 refine zQ9 ?_
 refine zQB d j (eI y4::eR v0::eI (p0.length:Int)::eB (decide (y4<(p0.length:Int)))::[]) ?_ ?_
 exact om h5<|om h0<|op (fun Q U W H D=>zAe (aT:=#[]) ((f_v0.fr W).eq (D.g 0 Z)) underlying46)<|op (fun Q U W H D=>zAu (D.g 0 Z) (D.g 1 Z))<|oz
 intro R w m n p d j
 obtain ⟨h0,h1,h5⟩:=k3 n h0 h1 h5
 have h9:=p.r 3 Z
 replace f_v0:=f_v0.fr m
 replace f_v1:=f_v1.fr m
 refine zQ2 (decide (y4<(p0.length:Int))) h9 (fun c5=>?_) (fun c5=>?_)
 have c:=zAO c5 c
 refine zQA ?_
 refine zQ9 ?_
 refine HT.block ?_
 obtain ⟨e6,c⟩:=zA5 c
 refine zQB d j (eR v0::eI y4::eF (.qtr eStr A (gtD p0 y4))::eF (.rep eStr A (gtD p0 y4))::eR v1::eB ((gtD p0 y4)==p1)::[]) ?_ ?_
 exact om h0<|om h5<|op (fun Q U W H D=>zA7 ((f_v0.fr W).eq (D.g 0 Z)) (D.g 1 Z) underlying46 sizeOf9 e6)<|op (fun Q U W H D=>(zAT (QRep.ptr (D.g 0 Z)) isAgg9 sizeOf9))<|om h1<|op (fun Q U W H D=>zBD (D.g 0 Z) ((f_v1.fr W).eq (D.g 1 Z)))<|oz
 intro R w m n p d j
 obtain ⟨h0,h1,h5⟩:=k3 n h0 h1 h5
 have h17:=p.r 5 Z
 replace f_v0:=f_v0.fr m
 replace f_v1:=f_v1.fr m
 refine zQ2 ((gtD p0 y4)==p1) h17 (fun c7=>?_) (fun c7=>?_)
 have c:=zAO c7 c
 refine zQB d j (eB true::[]) ?_ ?_
 exact op (fun Q U W H D=>zA2 Z)<|oz
 intro R w m n p d j
 have h4:=p.r 0 Z
 refine HT.ret ?_
 obtain rfl:=si c
 have c:=hr0
 replace c:some _=some _:=c
 obtain rfl:=si c
 exact ⟨.inr Z,[R 4],⟨Z,N⟩,h4,j⟩
 have c:=zAN c7 c
 refine zQA ?_
 obtain ⟨e8,c⟩:=zA5 c
 refine HT.u d j (eI y4::eI (y4+1)::eI (y4+1)::[]) ?_ ?_
 exact om h5<|op (fun Q U W H D=>zAR (D.g 0 Z) Z e8)<|oa<|oz
 intro R w m n p d j
 obtain ⟨h0,h1⟩:=k2 n h0 h1
 have h5:=p.r 2 Z
 replace f_v0:=f_v0.fr m
 replace f_v1:=f_v1.fr m
 exact ei k (And.intro (Nat.lt_succ_self k) ⟨_,c,d,j,h0,h1,h5,f_v0,f_v1⟩)
 have c:=zAN c5 c
 refine zQ7 ?_
 obtain rfl:=si c
 exact ei _ ⟨Z,d,j⟩
 rintro R w ⟨s3,rfl,d,j⟩
 have c:=zF6 c
 refine zQB d j (eB false::[]) ?_ ?_
 exact op (fun Q U W H D=>zA2 Z)<|oz
 intro R w m n p d j
 have h4:=p.r 0 Z
 refine HT.ret ?_
 obtain rfl:=si c
 exact ⟨.inr Z,[R 4],⟨Z,N⟩,h4,j⟩
def zAh (fu : Nat) (p0 : List (List UInt8)) (p1 : List (List UInt8)) : Nat → Int → (List (List UInt8)) → Option (List (List UInt8))
 | 0,_,_=>none
 | k+1,y5,y6=>
 bif (decide (y5<(p0.length:Int))) then (
 ck (inR y5 p0.length) <|
 cl true (zEb fu p1 (gtD p0 y5)) fun x9=>
 bif x9 then (
 ck (inR y5 p0.length) <|
 cl true (zCp fu y6 (gtD p0 y5) false) fun x13=>
 ck (i64B (y5+1)) <|
 zAh fu p0 p1 k (y5+1) x13
 ) else (
 ck (i64B (y5+1)) <|
 zAh fu p0 p1 k (y5+1) y6
 )
 ) else (
 some y6
 )
def zBw (fu:Nat) (p0:List (List UInt8)) (p1:List (List UInt8)):Option (List (List UInt8)):=
 cl true (zAh fu p0 p1 fu 0 ([]:List (List UInt8))) fun s4=>
 some s4
theorem zG1 {fu : Nat} {A0 : Av} {p0 : List (List UInt8)} {p1 : List (List UInt8)} {r : List (List UInt8)} (c : zBw fu p0 p1 = some r) {w : World} {v0 : Value} {v1 : Value} (d : AvOK A0 w) (h0 : Rep (eSl eStr) A0 w v0 p0) (h1 : Rep (eSl eStr) A0 w v1 p1) :
 Calls prog 116 #[v0,v1] w fun e w'=>∃ v,e = .returned v∧((Res.vec w.heap.size 9 eStr r).ok (addA A0 v) v w'∧Fr w w'):=by
 unfold zBw at c
 obtain ⟨w0,hw0,j,C⟩:=pw d
 have hA00:AvOK A0 w0:=C
 rw [fh hw0]
 rw [fw hw0]
 obtain ⟨A,hAe,B,d,q⟩:=pa d
 refine zA3 [.tmp 4] func116 ntmps116 (by decide) Z Z (nb Z) ?_
 intro R hR
 have f_v0:Rep (eSl eStr) A w v0 p0:=hAe ▸ h0
 replace h0:R 0=v0:=hR 0 _ Z
 have f_v1:Rep (eSl eStr) A w v1 p1:=hAe ▸ h1
 replace h1:R 1=v1:=hR 1 _ Z
 refine zQB d j (eA::[]) ?_ ?_
 exact op (fun Q U W H D=>zA2 N)<|oz
 intro R w m n p d j
 obtain ⟨h0,h1⟩:=k2 n h0 h1
 replace f_v0:=f_v0.fr m
 replace f_v1:=f_v1.fr m
 replace q:=q.fr m
 refine zQC [] (⟨_,true,[],some (.vec w0.heap.size 9 eStr ([]:List (List UInt8))),true,fun A=>.any⟩::⟨_,true,[0],some (.vec w0.heap.size 9 eStr ([]:List (List UInt8))),true,fun A=>.any⟩::[]) (ua (ua (UAll.nil))) q d ?_ ?_
 exact rc (OblR.made _ Z Z Z Z fun V Q U O D=>by exact zBW [] (E:=eStr) N underlying46 sizeOf9 zeroValue9 Z Z Z (Nat.le_trans j.size O.ch.size))<|rc (OblR.took 0 _ _ Z Z Z Z Z fun V Q U O D u X Y J L M=>by exact zAK (L _ _ Z Z Z Z).symm X Y)<|rz
 intro done ρ σ A R w y s
 obtain ⟨h0,h1⟩:=k2 s.rg h0 h1
 obtain ⟨u1,e_u1⟩:∃ u,ρ 1=u:=⟨_,Z⟩
 have h5:=s.ov y 1 1 e_u1
 replace f_v0:=f_v0.stp s.stp
 replace f_v1:=f_v1.stp s.stp
 obtain ⟨B,j,d⟩:=s.s B C j q N
 replace q:=s.left y [(1,ob u1 (.vec w0.heap.size 9 eStr ([]:List (List UInt8))))] ⟨Z,Z,e_u1,Z,Z,N⟩
 refine zQ9 ?_
 refine zQB d j (eI 0::[]) ?_ ?_
 exact op (fun Q U W H D=>zA2 Z)<|oz
 intro R w m n p d j
 obtain ⟨h0,h1,h5⟩:=k3 n h0 h1 h5
 have h6:=p.r 0 Z
 replace f_v0:=f_v0.fr m
 replace f_v1:=f_v1.fr m
 replace q:=q.fr m
 obtain ⟨rl2,q3,c⟩:=zA4 c
 replace q3:=q3 Z
 refine zQ4 (fun R w=>∃ A:Av,∃ (s4:(List (List UInt8))) (uo_u1:Value),rl2=s4∧AvOK A w∧Fr w0 w∧(∀ b o,A0 b o→A b o)∧IniOK [ob uo_u1 (.vec w0.heap.size 9 eStr s4)] A w∧R 5=uo_u1) ?_ ?_
 refine HT.block ?_
 refine zQ8 (fun k R w=>∃ A:Av,∃ (y5:Int) (y6:List (List UInt8)) (ul_u1:Value),zAh fu p0 p1 k y5 y6=some rl2∧AvOK A w∧Fr w0 w∧(∀ b o,A0 b o→A b o)∧IniOK [ob ul_u1 (.vec w0.heap.size 9 eStr y6)] A w∧R 0=v0∧R 1=v1∧R 5=ul_u1∧R 6 = .int .i64 y5∧Rep (eSl eStr) A w v0 p0∧Rep (eSl eStr) A w v1 p1) fu ⟨_,_,_,u1,q3,d,j,B,q,h0,h1,h5,h6,f_v0,f_v1⟩ ?_
 have hr0:=c;clear c q3
 rintro k R w ⟨A,y5,y6,ul_u1,c,d,j,B,q,h0,h1,h5,h6,f_v0,f_v1⟩
 rcases k with _ | k
 cases (show none=some _ from c)
 rw [zAh] at c
 refine zQ9 ?_
 refine zQB d j (eI y5::eR v0::eI (p0.length:Int)::eB (decide (y5<(p0.length:Int)))::[]) ?_ ?_
 exact om h6<|om h0<|op (fun Q U W H D=>zAe (aT:=#[]) ((f_v0.fr W).eq (D.g 0 Z)) underlying46)<|op (fun Q U W H D=>zAu (D.g 0 Z) (D.g 1 Z))<|oz
 intro R w m n p d j
 obtain ⟨h0,h1,h5,h6⟩:=k4 n h0 h1 h5 h6
 have h11:=p.r 3 Z
 replace f_v0:=f_v0.fr m
 replace f_v1:=f_v1.fr m
 replace q:=q.fr m
 refine zQ2 (decide (y5<(p0.length:Int))) h11 (fun c7=>?_) (fun c7=>?_)
 have c:=zAO c7 c
 refine zQA ?_
 refine zQ9 ?_
 refine HT.block ?_
 obtain ⟨e8,c⟩:=zA5 c
 obtain ⟨x9,q10,c⟩:=zA4 c
 refine zQB d j (eR v1::eR v0::eI y5::eF (.qtr eStr A (gtD p0 y5))::eF (.rep eStr A (gtD p0 y5))::eB x9::[]) ?_ ?_
 exact om h1<|om h0<|om h6<|op (fun Q U W H D=>zA7 ((f_v0.fr W).eq (D.g 0 Z)) (D.g 1 Z) underlying46 sizeOf9 e8)<|op (fun Q U W H D=>(zAT (QRep.ptr (D.g 0 Z)) isAgg9 sizeOf9))<|op (fun Q U W H D=>zA8 call120 (zIf (q10 Z) (d.fr W.size) ((f_v1.fr W).eq (D.g 0 Z)) (D.g 1 Z)))<|oz
 intro R w m n p d j
 obtain ⟨h0,h1,h5,h6⟩:=k4 n h0 h1 h5 h6
 have h19:=p.r 5 Z
 replace f_v0:=f_v0.fr m
 replace f_v1:=f_v1.fr m
 replace q:=q.fr m
 refine zQ2 x9 h19 (fun c11=>?_) (fun c11=>?_)
 have c:=zAO c11 c
 obtain ⟨e12,c⟩:=zA5 c
 obtain ⟨x13,q14,c⟩:=zA4 c
 refine zQF [ob ul_u1 (.vec w0.heap.size 9 eStr y6)] (rR ul_u1::rR v0::rI y5::(rF fun A=>.qtr eStr A (gtD p0 y5))::(rF fun A=>.rep eStr A (gtD p0 y5))::⟨_,true,[0],some (.vec w0.heap.size 9 eStr x13),true,fun A=>.any⟩::⟨_,true,[6],some (.vec w0.heap.size 9 eStr x13),true,fun A=>.any⟩::[]) (ur (ur (ur (UAll.cons zBL (up (ua (ua (UAll.nil)))))))) q d ?_ ?_
 exact rm h5<|rm h0<|rm h6<|rp (fun V Q U O D=>zA7 ((f_v0.stp O.stp).eq (D.g 0 Z)) (D.g 1 Z) underlying46 sizeOf9 e12)<|rp (fun V Q U O D=>(zAT (QRep.ptr (D.g 0 Z)) isAgg9 sizeOf9))<|rc (OblR.took 0 _ _ Z Z Z Z Z fun V Q U O D u X Y J L M=>by have a0:Q 20=ul_u1:=D.g 0 Z;have a1:Rep eStr V U (Q 24) (gtD p0 y5):=D.g 1 Z;have hu0:zAG Q (.tmp 20)=u:=a0.trans (J _ Z).symm;exact zEv call109 Y (by simp only [List.map,hu0];exact zDP (q14 Z) (O.av.sub _) (fun b o h=>h.2) (Nat.le_trans j.size O.ch.size) (Vec.flat X (fun _ _ _ _ _ h=>h)) (a1.less fun b o h=>h.1) Z))<|rc (OblR.took 6 _ _ Z Z Z Z Z fun V Q U O D u X Y J L M=>by exact zAK (L _ _ Z Z Z Z).symm X Y)<|rz
 intro done ρ σ A R w y s
 obtain ⟨h0,h1,h6⟩:=k3 s.rg h0 h1 h6
 obtain ⟨u15,e_u15⟩:∃ u,ρ 7=u:=⟨_,Z⟩
 have h5:=s.ov y 7 6 e_u15
 replace f_v0:=f_v0.stp s.stp
 replace f_v1:=f_v1.stp s.stp
 obtain ⟨B,j,d⟩:=s.s B C j q ⟨Z,N⟩
 replace q:=s.left y [(7,ob u15 (.vec w0.heap.size 9 eStr x13))] ⟨Z,Z,e_u15,Z,Z,N⟩
 obtain ⟨e16,c⟩:=zA5 c
 refine HT.u d j (eI y5::eI (y5+1)::eI (y5+1)::[]) ?_ ?_
 exact om h6<|op (fun Q U W H D=>zAR (D.g 0 Z) Z e16)<|oa<|oz
 intro R w m n p d j
 obtain ⟨h0,h1,h5⟩:=k3 n h0 h1 h5
 have h6:=p.r 2 Z
 replace f_v0:=f_v0.fr m
 replace f_v1:=f_v1.fr m
 replace q:=q.fr m
 exact ei k (And.intro (Nat.lt_succ_self k) ⟨_,_,_,u15,c,d,j,B,q,h0,h1,h5,h6,f_v0,f_v1⟩)
 have c:=zAN c11 c
 refine zQA ?_
 obtain ⟨e17,c⟩:=zA5 c
 refine HT.u d j (eI y5::eI (y5+1)::eI (y5+1)::[]) ?_ ?_
 exact om h6<|op (fun Q U W H D=>zAR (D.g 0 Z) Z e17)<|oa<|oz
 intro R w m n p d j
 obtain ⟨h0,h1,h5⟩:=k3 n h0 h1 h5
 have h6:=p.r 2 Z
 replace f_v0:=f_v0.fr m
 replace f_v1:=f_v1.fr m
 replace q:=q.fr m
 exact ei k (And.intro (Nat.lt_succ_self k) ⟨_,_,_,ul_u1,c,d,j,B,q,h0,h1,h5,h6,f_v0,f_v1⟩)
 have c:=zAN c7 c
 refine zQ7 ?_
 obtain rfl:=si c
 exact ei _ ⟨_,ul_u1,Z,d,j,B,q,h5⟩
 rintro R w ⟨A,s4,uo_u1,es,d,j,B,q,h5⟩
 obtain rfl:=es.symm
 refine zQB d j (eR uo_u1::eR uo_u1::[]) ?_ ?_
 exact om h5<|oa<|oz
 intro R w m n p d j
 have h4:=p.r 1 Z
 replace q:=q.fr m
 refine HT.ret ?_
 obtain rfl:=si c
 exact ⟨.inr Z,[R 4],⟨Z,N⟩,(zCj (q.ok 0 _ Z) B h4),j⟩
theorem zFp {fu : Nat} {A0 : Av} {p0 : List (List UInt8)} {p1 : List (List UInt8)} {r : List (List UInt8)} (c : zBw fu p0 p1 = some r) {w : World} {v0 : Value} {v1 : Value} (d : AvOK A0 w) (h0 : Rep (eSl eStr) A0 w v0 p0) (h1 : Rep (eSl eStr) A0 w v1 p1) :
 Calls prog 116 #[v0,v1] w fun e w'=>∃ v,e = .returned v∧(Rep (eSl eStr) A0 w' v r∧Fr w w'):=by
 refine Calls.mono (zG1 c d h0 h1) ?_
 rintro e w' ⟨v,he,hv,hf⟩
 exact ⟨v,he,zD2 hv (fun b o h=>.inl h) d,hf⟩
def zAr (fu : Nat) (p0 : List (List UInt8)) : Nat → Int → (List (List UInt8)) → Option (List (List UInt8))
 | 0,_,_=>none
 | k+1,y5,y6=>
 bif (decide (y5<(p0.length:Int))) then (
 ck (inR y5 p0.length) <|
 cl true (zCp fu y6 (gtD p0 y5) false) fun x9=>
 ck (i64B (y5+1)) <|
 zAr fu p0 k (y5+1) x9
 ) else (
 some y6
 )
def zAp (fu : Nat) (p1 : List (List UInt8)) : Nat → Int → (List (List UInt8)) → Option (List (List UInt8))
 | 0,_,_=>none
 | k+1,y16,y17=>
 bif (decide (y16<(p1.length:Int))) then (
 ck (inR y16 p1.length) <|
 cl true (zCp fu y17 (gtD p1 y16) false) fun x20=>
 ck (i64B (y16+1)) <|
 zAp fu p1 k (y16+1) x20
 ) else (
 some y17
 )
def zC9 (fu:Nat) (p0:List (List UInt8)) (p1:List (List UInt8)):Option (List (List UInt8)):=
 cl true (zAr fu p0 fu 0 ([]:List (List UInt8))) fun s4=>
 cl true (zAp fu p1 fu 0 s4) fun s15=>
 some s15
theorem zGI {fu : Nat} {A0 : Av} {p0 : List (List UInt8)} {p1 : List (List UInt8)} {r : List (List UInt8)} (c : zC9 fu p0 p1 = some r) {w : World} {v0 : Value} {v1 : Value} (d : AvOK A0 w) (h0 : Rep (eSl eStr) A0 w v0 p0) (h1 : Rep (eSl eStr) A0 w v1 p1) :
 Calls prog 119 #[v0,v1] w fun e w'=>∃ v,e = .returned v∧((Res.vec w.heap.size 9 eStr r).ok (addA A0 v) v w'∧Fr w w'):=by
 unfold zC9 at c
 obtain ⟨w0,hw0,j,C⟩:=pw d
 have hA00:AvOK A0 w0:=C
 rw [fh hw0]
 rw [fw hw0]
 obtain ⟨A,hAe,B,d,q⟩:=pa d
 refine zA3 [.tmp 4] func119 ntmps119 (by decide) Z Z (nb Z) ?_
 intro R hR
 have f_v0:Rep (eSl eStr) A w v0 p0:=hAe ▸ h0
 replace h0:R 0=v0:=hR 0 _ Z
 have f_v1:Rep (eSl eStr) A w v1 p1:=hAe ▸ h1
 replace h1:R 1=v1:=hR 1 _ Z
 refine zQB d j (eA::[]) ?_ ?_
 exact op (fun Q U W H D=>zA2 N)<|oz
 intro R w m n p d j
 obtain ⟨h0,h1⟩:=k2 n h0 h1
 replace f_v0:=f_v0.fr m
 replace f_v1:=f_v1.fr m
 replace q:=q.fr m
 refine zQC [] (⟨_,true,[],some (.vec w0.heap.size 9 eStr ([]:List (List UInt8))),true,fun A=>.any⟩::⟨_,true,[0],some (.vec w0.heap.size 9 eStr ([]:List (List UInt8))),true,fun A=>.any⟩::[]) (ua (ua (UAll.nil))) q d ?_ ?_
 exact rc (OblR.made _ Z Z Z Z fun V Q U O D=>by exact zBW [] (E:=eStr) N underlying46 sizeOf9 zeroValue9 Z Z Z (Nat.le_trans j.size O.ch.size))<|rc (OblR.took 0 _ _ Z Z Z Z Z fun V Q U O D u X Y J L M=>by exact zAK (L _ _ Z Z Z Z).symm X Y)<|rz
 intro done ρ σ A R w y s
 obtain ⟨h0,h1⟩:=k2 s.rg h0 h1
 obtain ⟨u1,e_u1⟩:∃ u,ρ 1=u:=⟨_,Z⟩
 have h5:=s.ov y 1 1 e_u1
 replace f_v0:=f_v0.stp s.stp
 replace f_v1:=f_v1.stp s.stp
 obtain ⟨B,j,d⟩:=s.s B C j q N
 replace q:=s.left y [(1,ob u1 (.vec w0.heap.size 9 eStr ([]:List (List UInt8))))] ⟨Z,Z,e_u1,Z,Z,N⟩
 refine zQ9 ?_
 refine zQB d j (eI 0::[]) ?_ ?_
 exact op (fun Q U W H D=>zA2 Z)<|oz
 intro R w m n p d j
 obtain ⟨h0,h1,h5⟩:=k3 n h0 h1 h5
 have h6:=p.r 0 Z
 replace f_v0:=f_v0.fr m
 replace f_v1:=f_v1.fr m
 replace q:=q.fr m
 obtain ⟨rl2,q3,c⟩:=zA4 c
 replace q3:=q3 Z
 refine zQ4 (fun R w=>∃ A:Av,∃ (s4:(List (List UInt8))) (uo_u1:Value),rl2=s4∧AvOK A w∧Fr w0 w∧(∀ b o,A0 b o→A b o)∧IniOK [ob uo_u1 (.vec w0.heap.size 9 eStr s4)] A w∧R 1=v1∧R 5=uo_u1∧Rep (eSl eStr) A w v1 p1) ?_ ?_
 refine HT.block ?_
 refine zQ8 (fun k R w=>∃ A:Av,∃ (y5:Int) (y6:List (List UInt8)) (ul_u1:Value),zAr fu p0 k y5 y6=some rl2∧AvOK A w∧Fr w0 w∧(∀ b o,A0 b o→A b o)∧IniOK [ob ul_u1 (.vec w0.heap.size 9 eStr y6)] A w∧R 0=v0∧R 1=v1∧R 5=ul_u1∧R 6 = .int .i64 y5∧Rep (eSl eStr) A w v0 p0∧Rep (eSl eStr) A w v1 p1) fu ⟨_,_,_,u1,q3,d,j,B,q,h0,h1,h5,h6,f_v0,f_v1⟩ ?_
 have hr0:=c;clear c q3
 rintro k R w ⟨A,y5,y6,ul_u1,c,d,j,B,q,h0,h1,h5,h6,f_v0,f_v1⟩
 rcases k with _ | k
 cases (show none=some _ from c)
 rw [zAr] at c
 refine zQ9 ?_
 refine zQB d j (eI y5::eR v0::eI (p0.length:Int)::eB (decide (y5<(p0.length:Int)))::[]) ?_ ?_
 exact om h6<|om h0<|op (fun Q U W H D=>zAe (aT:=#[]) ((f_v0.fr W).eq (D.g 0 Z)) underlying46)<|op (fun Q U W H D=>zAu (D.g 0 Z) (D.g 1 Z))<|oz
 intro R w m n p d j
 obtain ⟨h0,h1,h5,h6⟩:=k4 n h0 h1 h5 h6
 have h12:=p.r 3 Z
 replace f_v0:=f_v0.fr m
 replace f_v1:=f_v1.fr m
 replace q:=q.fr m
 refine zQ2 (decide (y5<(p0.length:Int))) h12 (fun c7=>?_) (fun c7=>?_)
 have c:=zAO c7 c
 refine zQA ?_
 refine zQ9 ?_
 refine HT.block ?_
 obtain ⟨e8,c⟩:=zA5 c
 obtain ⟨x9,q10,c⟩:=zA4 c
 refine zQF [ob ul_u1 (.vec w0.heap.size 9 eStr y6)] (rR ul_u1::rR v0::rI y5::(rF fun A=>.qtr eStr A (gtD p0 y5))::(rF fun A=>.rep eStr A (gtD p0 y5))::⟨_,true,[0],some (.vec w0.heap.size 9 eStr x9),true,fun A=>.any⟩::⟨_,true,[6],some (.vec w0.heap.size 9 eStr x9),true,fun A=>.any⟩::[]) (ur (ur (ur (UAll.cons zBL (up (ua (ua (UAll.nil)))))))) q d ?_ ?_
 exact rm h5<|rm h0<|rm h6<|rp (fun V Q U O D=>zA7 ((f_v0.stp O.stp).eq (D.g 0 Z)) (D.g 1 Z) underlying46 sizeOf9 e8)<|rp (fun V Q U O D=>(zAT (QRep.ptr (D.g 0 Z)) isAgg9 sizeOf9))<|rc (OblR.took 0 _ _ Z Z Z Z Z fun V Q U O D u X Y J L M=>by have a0:Q 15=ul_u1:=D.g 0 Z;have a1:Rep eStr V U (Q 19) (gtD p0 y5):=D.g 1 Z;have hu0:zAG Q (.tmp 15)=u:=a0.trans (J _ Z).symm;exact zEv call109 Y (by simp only [List.map,hu0];exact zDP (q10 Z) (O.av.sub _) (fun b o h=>h.2) (Nat.le_trans j.size O.ch.size) (Vec.flat X (fun _ _ _ _ _ h=>h)) (a1.less fun b o h=>h.1) Z))<|rc (OblR.took 6 _ _ Z Z Z Z Z fun V Q U O D u X Y J L M=>by exact zAK (L _ _ Z Z Z Z).symm X Y)<|rz
 intro done ρ σ A R w y s
 obtain ⟨h0,h1,h6⟩:=k3 s.rg h0 h1 h6
 obtain ⟨u11,e_u11⟩:∃ u,ρ 7=u:=⟨_,Z⟩
 have h5:=s.ov y 7 6 e_u11
 replace f_v0:=f_v0.stp s.stp
 replace f_v1:=f_v1.stp s.stp
 obtain ⟨B,j,d⟩:=s.s B C j q ⟨Z,N⟩
 replace q:=s.left y [(7,ob u11 (.vec w0.heap.size 9 eStr x9))] ⟨Z,Z,e_u11,Z,Z,N⟩
 obtain ⟨e12,c⟩:=zA5 c
 refine HT.u d j (eI y5::eI (y5+1)::eI (y5+1)::[]) ?_ ?_
 exact om h6<|op (fun Q U W H D=>zAR (D.g 0 Z) Z e12)<|oa<|oz
 intro R w m n p d j
 obtain ⟨h0,h1,h5⟩:=k3 n h0 h1 h5
 have h6:=p.r 2 Z
 replace f_v0:=f_v0.fr m
 replace f_v1:=f_v1.fr m
 replace q:=q.fr m
 exact ei k (And.intro (Nat.lt_succ_self k) ⟨_,_,_,u11,c,d,j,B,q,h0,h1,h5,h6,f_v0,f_v1⟩)
 have c:=zAN c7 c
 refine zQ7 ?_
 obtain rfl:=si c
 exact ei _ ⟨_,ul_u1,Z,d,j,B,q,h1,h5,f_v1⟩
 rintro R w ⟨A,s4,uo_u1,es,d,j,B,q,h1,h5,f_v1⟩
 obtain rfl:=es.symm
 refine zQ9 ?_
 refine zQB d j (eI 0::[]) ?_ ?_
 exact op (fun Q U W H D=>zA2 Z)<|oz
 intro R w m n p d j
 obtain ⟨h1,h5⟩:=k2 n h1 h5
 have h7:=p.r 0 Z
 replace f_v1:=f_v1.fr m
 replace q:=q.fr m
 obtain ⟨rl13,q14,c⟩:=zA4 c
 replace q14:=q14 Z
 refine zQ4 (fun R w=>∃ A:Av,∃ (s15:(List (List UInt8))) (uo_uo_u1:Value),rl13=s15∧AvOK A w∧Fr w0 w∧(∀ b o,A0 b o→A b o)∧IniOK [ob uo_uo_u1 (.vec w0.heap.size 9 eStr s15)] A w∧R 5=uo_uo_u1) ?_ ?_
 refine HT.block ?_
 refine zQ8 (fun k R w=>∃ A:Av,∃ (y16:Int) (y17:List (List UInt8)) (ul_uo_u1:Value),zAp fu p1 k y16 y17=some rl13∧AvOK A w∧Fr w0 w∧(∀ b o,A0 b o→A b o)∧IniOK [ob ul_uo_u1 (.vec w0.heap.size 9 eStr y17)] A w∧R 1=v1∧R 5=ul_uo_u1∧R 7 = .int .i64 y16∧Rep (eSl eStr) A w v1 p1) fu ⟨_,_,_,uo_u1,q14,d,j,B,q,h1,h5,h7,f_v1⟩ ?_
 have hr0:=c;clear c q14
 rintro k R w ⟨A,y16,y17,ul_uo_u1,c,d,j,B,q,h1,h5,h7,f_v1⟩
 rcases k with _ | k
 cases (show none=some _ from c)
 rw [zAp] at c
 refine zQ9 ?_
 refine zQB d j (eI y16::eR v1::eI (p1.length:Int)::eB (decide (y16<(p1.length:Int)))::[]) ?_ ?_
 exact om h7<|om h1<|op (fun Q U W H D=>zAe (aT:=#[]) ((f_v1.fr W).eq (D.g 0 Z)) underlying46)<|op (fun Q U W H D=>zAu (D.g 0 Z) (D.g 1 Z))<|oz
 intro R w m n p d j
 obtain ⟨h1,h5,h7⟩:=k3 n h1 h5 h7
 have h24:=p.r 3 Z
 replace f_v1:=f_v1.fr m
 replace q:=q.fr m
 refine zQ2 (decide (y16<(p1.length:Int))) h24 (fun c18=>?_) (fun c18=>?_)
 have c:=zAO c18 c
 refine zQA ?_
 refine zQ9 ?_
 refine HT.block ?_
 obtain ⟨e19,c⟩:=zA5 c
 obtain ⟨x20,q21,c⟩:=zA4 c
 refine zQF [ob ul_uo_u1 (.vec w0.heap.size 9 eStr y17)] (rR ul_uo_u1::rR v1::rI y16::(rF fun A=>.qtr eStr A (gtD p1 y16))::(rF fun A=>.rep eStr A (gtD p1 y16))::⟨_,true,[0],some (.vec w0.heap.size 9 eStr x20),true,fun A=>.any⟩::⟨_,true,[6],some (.vec w0.heap.size 9 eStr x20),true,fun A=>.any⟩::[]) (ur (ur (ur (UAll.cons zBL (up (ua (ua (UAll.nil)))))))) q d ?_ ?_
 exact rm h5<|rm h1<|rm h7<|rp (fun V Q U O D=>zA7 ((f_v1.stp O.stp).eq (D.g 0 Z)) (D.g 1 Z) underlying46 sizeOf9 e19)<|rp (fun V Q U O D=>(zAT (QRep.ptr (D.g 0 Z)) isAgg9 sizeOf9))<|rc (OblR.took 0 _ _ Z Z Z Z Z fun V Q U O D u X Y J L M=>by have a0:Q 27=ul_uo_u1:=D.g 0 Z;have a1:Rep eStr V U (Q 31) (gtD p1 y16):=D.g 1 Z;have hu0:zAG Q (.tmp 27)=u:=a0.trans (J _ Z).symm;exact zEv call109 Y (by simp only [List.map,hu0];exact zDP (q21 Z) (O.av.sub _) (fun b o h=>h.2) (Nat.le_trans j.size O.ch.size) (Vec.flat X (fun _ _ _ _ _ h=>h)) (a1.less fun b o h=>h.1) Z))<|rc (OblR.took 6 _ _ Z Z Z Z Z fun V Q U O D u X Y J L M=>by exact zAK (L _ _ Z Z Z Z).symm X Y)<|rz
 intro done ρ σ A R w y s
 obtain ⟨h1,h7⟩:=k2 s.rg h1 h7
 obtain ⟨u22,e_u22⟩:∃ u,ρ 7=u:=⟨_,Z⟩
 have h5:=s.ov y 7 6 e_u22
 replace f_v1:=f_v1.stp s.stp
 obtain ⟨B,j,d⟩:=s.s B C j q ⟨Z,N⟩
 replace q:=s.left y [(7,ob u22 (.vec w0.heap.size 9 eStr x20))] ⟨Z,Z,e_u22,Z,Z,N⟩
 obtain ⟨e23,c⟩:=zA5 c
 refine HT.u d j (eI y16::eI (y16+1)::eI (y16+1)::[]) ?_ ?_
 exact om h7<|op (fun Q U W H D=>zAR (D.g 0 Z) Z e23)<|oa<|oz
 intro R w m n p d j
 obtain ⟨h1,h5⟩:=k2 n h1 h5
 have h7:=p.r 2 Z
 replace f_v1:=f_v1.fr m
 replace q:=q.fr m
 exact ei k (And.intro (Nat.lt_succ_self k) ⟨_,_,_,u22,c,d,j,B,q,h1,h5,h7,f_v1⟩)
 have c:=zAN c18 c
 refine zQ7 ?_
 obtain rfl:=si c
 exact ei _ ⟨_,ul_uo_u1,Z,d,j,B,q,h5⟩
 rintro R w ⟨A,s15,uo_uo_u1,es,d,j,B,q,h5⟩
 obtain rfl:=es.symm
 refine zQB d j (eR uo_uo_u1::eR uo_uo_u1::[]) ?_ ?_
 exact om h5<|oa<|oz
 intro R w m n p d j
 have h4:=p.r 1 Z
 replace q:=q.fr m
 refine HT.ret ?_
 obtain rfl:=si c
 exact ⟨.inr Z,[R 4],⟨Z,N⟩,(zCj (q.ok 0 _ Z) B h4),j⟩
theorem zG7 {fu : Nat} {A0 : Av} {p0 : List (List UInt8)} {p1 : List (List UInt8)} {r : List (List UInt8)} (c : zC9 fu p0 p1 = some r) {w : World} {v0 : Value} {v1 : Value} (d : AvOK A0 w) (h0 : Rep (eSl eStr) A0 w v0 p0) (h1 : Rep (eSl eStr) A0 w v1 p1) :
 Calls prog 119 #[v0,v1] w fun e w'=>∃ v,e = .returned v∧(Rep (eSl eStr) A0 w' v r∧Fr w w'):=by
 refine Calls.mono (zGI c d h0 h1) ?_
 rintro e w' ⟨v,he,hv,hf⟩
 exact ⟨v,he,zD2 hv (fun b o h=>.inl h) d,hf⟩
def zEY (fu:Nat) (p0:Int) (p1:Int):Option Int:=
 bif (p1==0) then (
 some 1000
 ) else (
 ck (i64B (1000*p0)) <|
 ck (p1 != 0) <|
 ck (i64B ((1000*p0).tdiv p1)) <|
 some ((1000*p0).tdiv p1)
 )
theorem zHa {fu : Nat} {A : Av} {p0 : Int} {p1 : Int} {r : Int} (c : zEY fu p0 p1 = some r) {w : World} {v0 : Value} {v1 : Value} (d : AvOK A w) (h0 : v0 = .int .i64 p0) (h1 : v1 = .int .i64 p1) :
 Calls prog 229 #[v0,v1] w fun e w'=>∃ v,e = .returned v∧(v = .int .i64 r∧Fr w w'):=by
 unfold zEY at c
 obtain ⟨w0,hw0,j⟩:=pf w
 rw [fw hw0]
 refine zA3 [.tmp 4] func229 ntmps229 (by decide) Z Z (nb Z) ?_
 intro R hR
 replace h0:R 0 = .int .i64 p0:=(hR 0 _ Z).trans h0
 replace h1:R 1 = .int .i64 p1:=(hR 1 _ Z).trans h1
 refine zQB d j (eI 0::[]) ?_ ?_
 exact op (fun Q U W H D=>zA2 Z)<|oz
 intro R w m n p d j
 obtain ⟨h0,h1⟩:=k2 n h0 h1
 refine zQ9 ?_
 refine zQB d j (eI p1::eB (p1==0)::[]) ?_ ?_
 exact om h1<|op (fun Q U W H D=>zAo (D.g 0 Z) Z)<|oz
 intro R w m n p d j
 obtain ⟨h0,h1⟩:=k2 n h0 h1
 have h6:=p.r 1 Z
 refine zQ2 (p1==0) h6 (fun c1=>?_) (fun c1=>?_)
 have c:=zAO c1 c
 refine zQB d j (eI 1000::[]) ?_ ?_
 exact op (fun Q U W H D=>zA2 Z)<|oz
 intro R w m n p d j
 have h4:=p.r 0 Z
 refine HT.ret ?_
 obtain rfl:=si c
 exact ⟨.inr Z,[R 4],⟨Z,N⟩,h4,j⟩
 have c:=zAN c1 c
 refine zQA ?_
 obtain ⟨e2,e3,e4,c⟩:=ck3 c
 refine zQB d j (eI p0::eI (1000*p0)::eI p1::eI ((1000*p0).tdiv p1)::eI ((1000*p0).tdiv p1)::[]) ?_ ?_
 exact om h0<|op (fun Q U W H D=>zGQ Z (D.g 0 Z) e2)<|om h1<|op (fun Q U W H D=>zHm (D.g 0 Z) (D.g 1 Z) e3 e4)<|oa<|oz
 intro R w m n p d j
 have h4:=p.r 4 Z
 refine HT.ret ?_
 obtain rfl:=si c
 exact ⟨.inr Z,[R 4],⟨Z,N⟩,h4,j⟩
def zDk (fu:Nat) (p0:List (List UInt8)) (p1:List (List UInt8)):Option Int:=
 cl true (zEu fu p0 p1) fun x1=>
 bif (!x1) then (
 some 0
 ) else (
 cl true (zBw fu p0 p1) fun x4=>
 cl true (zC9 fu p0 p1) fun x6=>
 cl true (zEY fu (x4.length:Int) (x6.length:Int)) fun x8=>
 some x8
 )
theorem zHY {fu : Nat} {A : Av} {p0 : List (List UInt8)} {p1 : List (List UInt8)} {r : Int} (c : zDk fu p0 p1 = some r) {w : World} {v0 : Value} {v1 : Value} (d : AvOK A w) (h0 : Rep (eSl eStr) A w v0 p0) (h1 : Rep (eSl eStr) A w v1 p1) :
 Calls prog 185 #[v0,v1] w fun e w'=>∃ v,e = .returned v∧(v = .int .i64 r∧Fr w w'):=by
 unfold zDk at c
 obtain ⟨w0,hw0,j⟩:=pf w
 rw [fw hw0]
 refine zA3 [.tmp 4] func185 ntmps185 (by decide) Z Z (nb Z) ?_
 intro R hR
 have f_v0:=h0
 replace h0:R 0=v0:=hR 0 _ Z
 have f_v1:=h1
 replace h1:R 1=v1:=hR 1 _ Z
 refine zQB d j (eI 0::[]) ?_ ?_
 exact op (fun Q U W H D=>zA2 Z)<|oz
 intro R w m n p d j
 obtain ⟨h0,h1⟩:=k2 n h0 h1
 replace f_v0:=f_v0.fr m
 replace f_v1:=f_v1.fr m
 refine zQ9 ?_
 obtain ⟨x1,q2,c⟩:=zA4 c
 refine zQB d j (eR v0::eR v1::eB x1::eB (!x1)::[]) ?_ ?_
 exact om h0<|om h1<|op (fun Q U W H D=>zA8 call228 (zHx (q2 Z) (d.fr W.size) ((f_v0.fr W).eq (D.g 0 Z)) ((f_v1.fr W).eq (D.g 1 Z))))<|op (fun Q U W H D=>zBq (D.g 0 Z))<|oz
 intro R w m n p d j
 obtain ⟨h0,h1⟩:=k2 n h0 h1
 have h8:=p.r 3 Z
 replace f_v0:=f_v0.fr m
 replace f_v1:=f_v1.fr m
 refine zQ2 (!x1) h8 (fun c3=>?_) (fun c3=>?_)
 have c:=zAO c3 c
 refine zQB d j (eI 0::[]) ?_ ?_
 exact op (fun Q U W H D=>zA2 Z)<|oz
 intro R w m n p d j
 have h4:=p.r 0 Z
 refine HT.ret ?_
 obtain rfl:=si c
 exact ⟨.inr Z,[R 4],⟨Z,N⟩,h4,j⟩
 have c:=zAN c3 c
 refine zQA ?_
 obtain ⟨x4,q5,c⟩:=zA4 c
 obtain ⟨x6,q7,c⟩:=zA4 c
 obtain ⟨x8,q9,c⟩:=zA4 c
 refine zQB d j (eR v0::eR v1::eF (.rep (eSl eStr) A x4)::eI (x4.length:Int)::eR v0::eR v1::eF (.rep (eSl eStr) A x6)::eI (x6.length:Int)::eI x8::eI x8::[]) ?_ ?_
 exact om h0<|om h1<|op (fun Q U W H D=>zA8 call116 (zFp (q5 Z) (d.fr W.size) ((f_v0.fr W).eq (D.g 0 Z)) ((f_v1.fr W).eq (D.g 1 Z))))<|op (fun Q U W H D=>zAe (aT:=#[]) (D.g 0 Z) underlying46)<|om h0<|om h1<|op (fun Q U W H D=>zA8 call119 (zG7 (q7 Z) (d.fr W.size) ((f_v0.fr W).eq (D.g 0 Z)) ((f_v1.fr W).eq (D.g 1 Z))))<|op (fun Q U W H D=>zAe (aT:=#[]) (D.g 0 Z) underlying46)<|op (fun Q U W H D=>zA8 call229 (zHa (q9 Z) (d.fr W.size) (D.g 0 Z) (D.g 1 Z)))<|oa<|oz
 intro R w m n p d j
 have h4:=p.r 9 Z
 refine HT.ret ?_
 obtain rfl:=si c
 exact ⟨.inr Z,[R 4],⟨Z,N⟩,h4,j⟩
def zDZ (fu:Nat) (p0:List (List UInt8)) (p1:List (List UInt8)):Option Int:=
 bd (((p0.length:Int)==0) || ((p1.length:Int)==0)) fun x1=>
 bif x1 then (
 some 0
 ) else (
 cl true (zDk fu p0 p1) fun x4=>
 some x4
 )
theorem zFx {fu : Nat} {A : Av} {p0 : List (List UInt8)} {p1 : List (List UInt8)} {r : Int} (c : zDZ fu p0 p1 = some r) {w : World} {v0 : Value} {v1 : Value} (d : AvOK A w) (h0 : Rep (eSl eStr) A w v0 p0) (h1 : Rep (eSl eStr) A w v1 p1) :
 Calls prog 127 #[v0,v1] w fun e w'=>∃ v,e = .returned v∧(v = .int .i64 r∧Fr w w'):=by
 unfold zDZ at c
 obtain ⟨w0,hw0,j⟩:=pf w
 rw [fw hw0]
 refine zA3 [.tmp 4] func127 ntmps127 (by decide) Z Z (nb Z) ?_
 intro R hR
 have f_v0:=h0
 replace h0:R 0=v0:=hR 0 _ Z
 have f_v1:=h1
 replace h1:R 1=v1:=hR 1 _ Z
 refine zQB d j (eI 0::[]) ?_ ?_
 exact op (fun Q U W H D=>zA2 Z)<|oz
 intro R w m n p d j
 obtain ⟨h0,h1⟩:=k2 n h0 h1
 replace f_v0:=f_v0.fr m
 replace f_v1:=f_v1.fr m
 refine zQ9 ?_
 refine zQ9 ?_
 obtain ⟨x1,q2,c⟩:=zAD c
 refine HT.u d j (eR v0::eI (p0.length:Int)::eB ((p0.length:Int)==0)::eB ((p0.length:Int)==0)::gR (true&&(((p0.length:Int)==0)==false)) v1::gI (true&&(((p0.length:Int)==0)==false)) (p1.length:Int)::gB (true&&(((p0.length:Int)==0)==false)) ((p1.length:Int)==0)::eB x1::[]) ?_ ?_
 exact om h0<|op (fun Q U W H D=>zAe (aT:=#[]) ((f_v0.fr W).eq (D.g 0 Z)) underlying46)<|op (fun Q U W H D=>zAo (D.g 0 Z) Z)<|ov<|gm 3 false h1<|og 3 false (fun G Q U W H D=>zAe (aT:=#[]) ((f_v1.fr W).eq (D.h 0 G Z)) underlying46)<|og 3 false (fun G Q U W H D=>zAo (D.h 0 G Z) Z)<|op (fun Q U W H D=>zAF ((p0.length:Int)==0) (D.g 0 Z) (fun hc=>by show _=Value.bool x1;rw [q2,hc];exact Z) (fun hc=>by have a2:Q 11 = .bool ((p1.length:Int)==0):=D 1 _ _ _ Z Z Z Z (zAc Z (zAP hc));show _=Value.bool x1;rw [q2,hc];exact a2))<|oz
 intro R w m n p d j
 obtain ⟨h0,h1⟩:=k2 n h0 h1
 have h12:=p.r 7 Z
 replace f_v0:=f_v0.fr m
 replace f_v1:=f_v1.fr m
 refine zQ2 x1 h12 (fun c3=>?_) (fun c3=>?_)
 have c:=zAO c3 c
 refine zQB d j (eI 0::[]) ?_ ?_
 exact op (fun Q U W H D=>zA2 Z)<|oz
 intro R w m n p d j
 have h4:=p.r 0 Z
 refine HT.ret ?_
 obtain rfl:=si c
 exact ⟨.inr Z,[R 4],⟨Z,N⟩,h4,j⟩
 have c:=zAN c3 c
 refine zQA ?_
 obtain ⟨x4,q5,c⟩:=zA4 c
 refine zQB d j (eR v0::eR v1::eI x4::eI x4::[]) ?_ ?_
 exact om h0<|om h1<|op (fun Q U W H D=>zA8 call185 (zHY (q5 Z) (d.fr W.size) ((f_v0.fr W).eq (D.g 0 Z)) ((f_v1.fr W).eq (D.g 1 Z))))<|oa<|oz
 intro R w m n p d j
 have h4:=p.r 3 Z
 refine HT.ret ?_
 obtain rfl:=si c
 exact ⟨.inr Z,[R 4],⟨Z,N⟩,h4,j⟩
end Go.Proofs.YtcodfkieaoomnaaGreatDoor
