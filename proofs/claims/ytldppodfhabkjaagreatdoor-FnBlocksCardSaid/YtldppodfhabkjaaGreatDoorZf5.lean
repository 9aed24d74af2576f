/- Own texts laid together. No statement of the seat is proved here. -/
import Derived.Test.YtldppodfhabkjaaGreatDoorZf4
namespace Go.Proofs.YtldppodfhabkjaaGreatDoor
open Go.RowKit
set_option linter.unusedVariables false
open _root_.Go.Proofs.Tryz
set_option maxRecDepth 100000
set_option maxHeartbeats 4000000
def zBL (fu:Nat) (p0:List UInt8) (p1:List UInt8):Option Bool:=
 ck (!(true&&((decide ((p1.length:Int)<=(p0.length:Int)))==true)) || i64B ((p0.length:Int)-(p1.length:Int))) <|
 ck (!(true&&((decide ((p1.length:Int)<=(p0.length:Int)))==true)) || subR ((p0.length:Int)-(p1.length:Int)) (p0.length:Int) p0.length) <|
 bd ((decide ((p1.length:Int)<=(p0.length:Int)))&&((subL p0 ((p0.length:Int)-(p1.length:Int)) (p0.length:Int))==p1)) fun x3=>
 some x3
theorem zEN {fu : Nat} {A : Av} {p0 : List UInt8} {p1 : List UInt8} {r : Bool} (c : zBL fu p0 p1 = some r) {w : World} {v0 : Value} {v1 : Value} (d : AvOK A w) (h0 : Rep eStr A w v0 p0) (h1 : Rep eStr A w v1 p1) :
 Calls prog 194 #[v0,v1] w fun e w'=>∃ v,e=.returned v/\(v=.bool r/\Fr w w'):=by
 unfold zBL at c
 obtain ⟨w0,hw0,j⟩:=pf w
 rw [fw hw0]
 refine zA9 [.tmp 4] func194 ntmps194 (by decide) Z Z (nb Z) ?_
 intro R hR
 have f_v0:=h0
 replace h0:R 0=v0:=hR 0 _ Z
 have f_v1:=h1
 replace h1:R 1=v1:=hR 1 _ Z
 refine zQU d j (eB false::[]) ?_ ?_
 exact op (fun Q U W H D=>zA2 Z)<|oz
 intro R w m n p d j
 obtain ⟨h0,h1⟩:=k2 n h0 h1
 replace f_v0:=f_v0.fr m
 replace f_v1:=f_v1.fr m
 refine zQT ?_
 obtain ⟨e1,e2,c⟩:=ck2 c
 obtain ⟨x3,q4,c⟩:=zAU c
 refine HT.u d j (eR v0::eI (p0.length:Int)::eR v1::eI (p1.length:Int)::eB (decide ((p1.length:Int)<=(p0.length:Int)))::eB (decide ((p1.length:Int)<=(p0.length:Int)))::gR (true&&((decide ((p1.length:Int)<=(p0.length:Int)))==true)) v0::gR (true&&((decide ((p1.length:Int)<=(p0.length:Int)))==true)) v0::gI (true&&((decide ((p1.length:Int)<=(p0.length:Int)))==true)) (p0.length:Int)::gR (true&&((decide ((p1.length:Int)<=(p0.length:Int)))==true)) v1::gI (true&&((decide ((p1.length:Int)<=(p0.length:Int)))==true)) (p1.length:Int)::gI (true&&((decide ((p1.length:Int)<=(p0.length:Int)))==true)) ((p0.length:Int)-(p1.length:Int))::gF (true&&((decide ((p1.length:Int)<=(p0.length:Int)))==true)) (.rep eStr A (subL p0 ((p0.length:Int)-(p1.length:Int)) (p0.length:Int)))::gR (true&&((decide ((p1.length:Int)<=(p0.length:Int)))==true)) v1::gB (true&&((decide ((p1.length:Int)<=(p0.length:Int)))==true)) ((subL p0 ((p0.length:Int)-(p1.length:Int)) (p0.length:Int))==p1)::eB x3::eB x3::[]) ?_ ?_
 exact om h0<|op (fun Q U W H D=>zB0 ((f_v0.fr W).eq (D.g 0 Z)) underlying9)<|om h1<|op (fun Q U W H D=>zB0 ((f_v1.fr W).eq (D.g 0 Z)) underlying9)<|op (fun Q U W H D=>zE8 (D.g 0 Z) (D.g 1 Z))<|ov<|gm 5 true h0<|gm 5 true h0<|og 5 true (fun G Q U W H D=>zB0 ((f_v0.fr W).eq (D.h 0 G Z)) underlying9)<|gm 5 true h1<|og 5 true (fun G Q U W H D=>zB0 ((f_v1.fr W).eq (D.h 0 G Z)) underlying9)<|og 5 true (fun G Q U W H D=>zFq (D.h 0 G Z) (D.h 1 G Z) (gd e1 G))<|og 5 true (fun G Q U W H D=>zEf ((f_v0.fr W).eq (D.h 0 G Z)) (D.h 1 G Z) underlying9  (gd e2 G))<|gm 5 true h1<|og 5 true (fun G Q U W H D=>zBv (D.h 0 G Z) ((f_v1.fr W).eq (D.h 1 G Z)))<|op (fun Q U W H D=>zAX (decide ((p1.length:Int)<=(p0.length:Int))) (D.g 0 Z) (fun hc=>by have a1:Q 19=.bool ((subL p0 ((p0.length:Int)-(p1.length:Int)) (p0.length:Int))==p1):=D 1 _ _ _ Z Z Z Z (zC2 Z (zB2 hc));show _=Value.bool x3;rw [q4,hc];exact a1) (fun hc=>by show _=Value.bool x3;rw [q4,hc];exact Z))<|oa<|oz
 intro R w m n p d j
 have h4:=p.r 16 Z
 refine HT.ret ?_
 obtain rfl:=si c
 exact ⟨.inr Z,[R 4],⟨Z,N⟩,h4,j⟩
def zBF (fu:Nat) (p0:List UInt8) (p1:List UInt8):Option (List UInt8):=
 cl true (zBL fu p0 p1) fun x1=>
 bif x1 then (
 ck (i64B ((p0.length:Int)-(p1.length:Int))) <|
 ck (subR 0 ((p0.length:Int)-(p1.length:Int)) p0.length) <|
 some (subL p0 0 ((p0.length:Int)-(p1.length:Int)))
 ) else (
 some p0
 )
theorem zE9 {fu : Nat} {A : Av} {p0 : List UInt8} {p1 : List UInt8} {r : List UInt8} (c : zBF fu p0 p1 = some r) {w : World} {v0 : Value} {v1 : Value} (d : AvOK A w) (h0 : Rep eStr A w v0 p0) (h1 : Rep eStr A w v1 p1) :
 Calls prog 180 #[v0,v1] w fun e w'=>∃ v,e=.returned v/\(Rep eStr A w' v r/\Fr w w'):=by
 unfold zBF at c
 obtain ⟨w0,hw0,j⟩:=pf w
 rw [fw hw0]
 refine zA9 [.tmp 4] func180 ntmps180 (by decide) Z Z (nb Z) ?_
 intro R hR
 have f_v0:=h0
 replace h0:R 0=v0:=hR 0 _ Z
 have f_v1:=h1
 replace h1:R 1=v1:=hR 1 _ Z
 refine zQU d j (eF (.rep eStr A ([]:List UInt8))::[]) ?_ ?_
 exact op (fun Q U W H D=>zA2 ⟨_,Z,⟨_,Z,Z,by decide⟩⟩)<|oz
 intro R w m n p d j
 obtain ⟨h0,h1⟩:=k2 n h0 h1
 replace f_v0:=f_v0.fr m
 replace f_v1:=f_v1.fr m
 refine zQT ?_
 obtain ⟨x1,q2,c⟩:=zA6 c
 refine zQU d j (eR v0::eR v1::eB x1::[]) ?_ ?_
 exact om h0<|om h1<|op (fun Q U W H D=>zAI call194 (zEN (q2 Z) (d.fr W.size) ((f_v0.fr W).eq (D.g 0 Z)) ((f_v1.fr W).eq (D.g 1 Z))))<|oz
 intro R w m n p d j
 obtain ⟨h0,h1⟩:=k2 n h0 h1
 have h7:=p.r 2 Z
 replace f_v0:=f_v0.fr m
 replace f_v1:=f_v1.fr m
 refine zQM x1 h7 (fun c3=>?_) (fun c3=>?_)
 have c:=zAN c3 c
 obtain ⟨e4,e5,c⟩:=ck2 c
 refine zQU d j (eR v0::eR v0::eI (p0.length:Int)::eR v1::eI (p1.length:Int)::eI ((p0.length:Int)-(p1.length:Int))::eF (.rep eStr A (subL p0 0 ((p0.length:Int)-(p1.length:Int))))::eF (.rep eStr A (subL p0 0 ((p0.length:Int)-(p1.length:Int))))::[]) ?_ ?_
 exact om h0<|om h0<|op (fun Q U W H D=>zB0 ((f_v0.fr W).eq (D.g 0 Z)) underlying9)<|om h1<|op (fun Q U W H D=>zB0 ((f_v1.fr W).eq (D.g 0 Z)) underlying9)<|op (fun Q U W H D=>zFq (D.g 0 Z) (D.g 1 Z) e4)<|op (fun Q U W H D=>zCZ ((f_v0.fr W).eq (D.g 0 Z)) (D.g 1 Z) underlying9  e5)<|op (fun Q U W H D=>zA2 (D.g 0 Z))<|oz
 intro R w m n p d j
 obtain ⟨u6,h4,f_u6⟩:∃ u,R 4=u/\Rep eStr A w u (subL p0 0 ((p0.length:Int)-(p1.length:Int))):=⟨_,Z,p 7 _ _ Z Z Z⟩
 refine HT.ret ?_
 obtain rfl:=si c
 exact ⟨.inr Z,[R 4],⟨Z,N⟩,(f_u6.eq h4),j⟩
 have c:=zAM c3 c
 refine HT.skip<|zQU d j (eR v0::eR v0::[]) ?_ ?_
 exact om h0<|oa<|oz
 intro R w m n p d j
 have h4:=p.r 1 Z
 replace f_v0:=f_v0.fr m
 refine HT.ret ?_
 obtain rfl:=si c
 exact ⟨.inr Z,[R 4],⟨Z,N⟩,(f_v0.eq h4),j⟩
def zBw (fu:Nat) (p0:List UInt8) (p1:List UInt8):Option (List UInt8):=
 cl true (zBF fu p0 p1) fun x1=>
 some x1
theorem zFt {fu : Nat} {A : Av} {p0 : List UInt8} {p1 : List UInt8} {r : List UInt8} (c : zBw fu p0 p1 = some r) {w : World} {v0 : Value} {v1 : Value} (d : AvOK A w) (h0 : Rep eStr A w v0 p0) (h1 : Rep eStr A w v1 p1) :
 Calls prog 161 #[v0,v1] w fun e w'=>∃ v,e=.returned v/\(Rep eStr A w' v r/\Fr w w'):=by
 unfold zBw at c
 obtain ⟨w0,hw0,j⟩:=pf w
 rw [fw hw0]
 refine zA9 [.tmp 4] func161 ntmps161 (by decide) Z Z (nb Z) ?_
 intro R hR
 have f_v0:=h0
 replace h0:R 0=v0:=hR 0 _ Z
 have f_v1:=h1
 replace h1:R 1=v1:=hR 1 _ Z
 refine zQU d j (eF (.rep eStr A ([]:List UInt8))::[]) ?_ ?_
 exact op (fun Q U W H D=>zA2 ⟨_,Z,⟨_,Z,Z,by decide⟩⟩)<|oz
 intro R w m n p d j
 obtain ⟨h0,h1⟩:=k2 n h0 h1
 replace f_v0:=f_v0.fr m
 replace f_v1:=f_v1.fr m
 obtain ⟨x1,q2,c⟩:=zA6 c
 refine zQU d j (eR v0::eR v1::eF (.rep eStr A x1)::eF (.rep eStr A x1)::[]) ?_ ?_
 exact om h0<|om h1<|op (fun Q U W H D=>zAI call180 (zE9 (q2 Z) (d.fr W.size) ((f_v0.fr W).eq (D.g 0 Z)) ((f_v1.fr W).eq (D.g 1 Z))))<|op (fun Q U W H D=>zA2 (D.g 0 Z))<|oz
 intro R w m n p d j
 obtain ⟨u3,h4,f_u3⟩:∃ u,R 4=u/\Rep eStr A w u x1:=⟨_,Z,p 3 _ _ Z Z Z⟩
 refine HT.ret ?_
 obtain rfl:=si c
 exact ⟨.inr Z,[R 4],⟨Z,N⟩,(f_u3.eq h4),j⟩
def zB8 (fu : Nat) (p0 : List UInt8) : Nat -> Int -> (List Int) -> Option (List Int)
 | 0,_,_=>none
 | k+1,y5,y6=>
 bif (decide (y5<(p0.length:Int))) then (
 ck (inR y5 p0.length) <|
 ck (!((true&&(((bAt p0 y5) != 32)==false))&&((decide (0<(y6.length:Int)))==true)) || i64B ((y6.length:Int)-1)) <|
 ck (!((true&&(((bAt p0 y5) != 32)==false))&&((decide (0<(y6.length:Int)))==true)) || inR ((y6.length:Int)-1) y6.length) <|
 bd ((decide (0<(y6.length:Int)))&&((gtD y6 ((y6.length:Int)-1)) != 32)) fun x11=>
 bd (((bAt p0 y5) != 32) || x11) fun x13=>
 bif x13 then (
 ck (inR y5 p0.length) <|
 ck (zBJ (y6.length+([(bAt p0 y5)]:List Int).length)) <|
 ck (i64B (y5+1)) <|
 zB8 fu p0 k (y5+1) (y6++([(bAt p0 y5)]:List Int))
 ) else (
 ck (i64B (y5+1)) <|
 zB8 fu p0 k (y5+1) y6
 )
 ) else (
 some y6
 )
def zCa (fu:Nat) (p0:List UInt8):Option (List UInt8):=
 cl true (zB8 fu p0 fu 0 ([]:List Int)) fun s4=>
 cl true (zBw fu (strB s4) ([32]:List UInt8)) fun x21=>
 some x21
theorem zFi {fu : Nat} {A0 : Av} {p0 : List UInt8} {r : List UInt8} (c : zCa fu p0 = some r) {w : World} {v0 : Value} (d : AvOK A0 w) (h0 : Rep eStr A0 w v0 p0) :
 Calls prog 135 #[v0] w fun e w'=>∃ v,e=.returned v/\(Rep eStr A0 w' v r/\Fr w w'):=by
 unfold zCa at c
 obtain ⟨w0,hw0,j,C⟩:=pw d
 have hA00:AvOK A0 w0:=C
 rw [fw hw0]
 obtain ⟨A,hAe,B,d,q⟩:=pa d
 refine zA9 [.tmp 2] func135 ntmps135 (by decide) Z Z (nb Z) ?_
 intro R hR
 have f_v0:Rep eStr A w v0 p0:=hAe ▸ h0
 replace h0:R 0=v0:=hR 0 _ Z
 refine zQU d j (eF (.rep eStr A ([]:List UInt8))::[]) ?_ ?_
 exact op (fun Q U W H D=>zA2 ⟨_,Z,⟨_,Z,Z,by decide⟩⟩)<|oz
 intro R w m n p d j
 replace h0:=k1 n h0
 replace f_v0:=f_v0.fr m
 replace q:=q.fr m
 refine zQU d j (eR (.slice none 0 0)::[]) ?_ ?_
 exact op (fun Q U W H D=>zA2 Z)<|oz
 intro R w m n p d j
 replace h0:=k1 n h0
 obtain ⟨u1,n_u1⟩:∃ u,u=Value.slice none 0 0:=⟨_,Z⟩
 have h3:R 3=u1:=(p 0 _ _ Z Z Z).trans n_u1.symm
 replace f_v0:=f_v0.fr m
 replace q:=q.fr m
 replace q:=q.nilcons (u:=u1) n_u1 w0.heap.size 5 (eInt .u8)
 refine zQT<|zQU d j (eR v0::eI (p0.length:Int)::eI 0::[]) ?_ ?_
 exact om h0<|op (fun Q U W H D=>zB0 ((f_v0.fr W).eq (D.g 0 Z)) underlying9)<|op (fun Q U W H D=>zBj Z)<|oz
 intro R w m n p d j
 obtain ⟨h0,h3⟩:=k2 n h0 h3
 have h6:=p.r 1 Z
 have h7:=p.r 2 Z
 replace f_v0:=f_v0.fr m
 replace q:=q.fr m
 obtain ⟨rl2,q3,c⟩:=zA6 c
 replace q3:=q3 Z
 refine zQO (fun R w=>∃ A:Av,∃ (s4:(List Int)) (uo_u1:Value),rl2=s4/\AvOK A w/\Fr w0 w/\(∀ b o,A0 b o->A b o)/\IniOK [ob uo_u1 (.vec w0.heap.size 5 (eInt .u8) s4)] A w/\R 3=uo_u1) ?_ ?_
 refine HT.block<|zQS (fun k R w=>∃ A:Av,∃ (y5:Int) (y6:List Int) (ul_u1:Value),zB8 fu p0 k y5 y6=some rl2/\AvOK A w/\Fr w0 w/\(∀ b o,A0 b o->A b o)/\IniOK [ob ul_u1 (.vec w0.heap.size 5 (eInt .u8) y6)] A w/\R 0=v0/\R 3=ul_u1/\R 6=.int .i64 (p0.length:Int)/\R 7=.int .i64 y5/\Rep eStr A w v0 p0) fu ⟨_,_,_,u1,q3,d,j,B,q,h0,h3,h6,h7,f_v0⟩ ?_
 have hr0:=c;clear c q3
 rintro k R w ⟨A,y5,y6,ul_u1,c,d,j,B,q,h0,h3,h6,h7,f_v0⟩
 rcases k with _ | k
 cases (show none=some _ from c)
 rw [zB8] at c
 refine zQU d j (eB (decide (y5<(p0.length:Int)))::[]) ?_ ?_
 exact op (fun Q U W H D=>zAk ((H 7 Z).trans h7) ((H 6 Z).trans h6))<|oz
 intro R w m n p d j
 obtain ⟨h0,h3,h6,h7⟩:=k4 n h0 h3 h6 h7
 have h8:=p.r 0 Z
 replace f_v0:=f_v0.fr m
 replace q:=q.fr m
 refine zQT<|zQM (decide (y5<(p0.length:Int))) h8 (fun c7=>?_) (fun c7=>?_)
 have c:=zAN c7 c
 refine HT.skip<|zQT<|HT.block<|zQU d j (eI y5::eI y5::[]) ?_ ?_
 exact om h7<|oa<|oz
 intro R w m n p d j
 obtain ⟨h0,h3,h6,h7⟩:=k4 n h0 h3 h6 h7
 have h4:=p.r 1 Z
 replace f_v0:=f_v0.fr m
 replace q:=q.fr m
 refine zQT ?_
 obtain ⟨e8,e9,e10,c⟩:=ck3 c
 obtain ⟨x11,q12,c⟩:=zAU c
 obtain ⟨x13,q14,c⟩:=zAU c
 refine HT.u d j (eR v0::eI y5::eU (bAt p0 y5)::eB ((bAt p0 y5) != 32)::eB ((bAt p0 y5) != 32)::gR (true&&(((bAt p0 y5) != 32)==false)) ul_u1::gI (true&&(((bAt p0 y5) != 32)==false)) (y6.length:Int)::gB (true&&(((bAt p0 y5) != 32)==false)) (decide (0<(y6.length:Int)))::gB (true&&(((bAt p0 y5) != 32)==false)) (decide (0<(y6.length:Int)))::gR ((true&&(((bAt p0 y5) != 32)==false))&&((decide (0<(y6.length:Int)))==true)) ul_u1::gR ((true&&(((bAt p0 y5) != 32)==false))&&((decide (0<(y6.length:Int)))==true)) ul_u1::gI ((true&&(((bAt p0 y5) != 32)==false))&&((decide (0<(y6.length:Int)))==true)) (y6.length:Int)::gI ((true&&(((bAt p0 y5) != 32)==false))&&((decide (0<(y6.length:Int)))==true)) ((y6.length:Int)-1)::gR ((true&&(((bAt p0 y5) != 32)==false))&&((decide (0<(y6.length:Int)))==true)) (vptr ul_u1 (((y6.length:Int)-1).toNat*1))::gU ((true&&(((bAt p0 y5) != 32)==false))&&((decide (0<(y6.length:Int)))==true)) (gtD y6 ((y6.length:Int)-1))::gB ((true&&(((bAt p0 y5) != 32)==false))&&((decide (0<(y6.length:Int)))==true)) ((gtD y6 ((y6.length:Int)-1)) != 32)::gB (true&&(((bAt p0 y5) != 32)==false)) x11::eB x13::[]) ?_ ?_
 exact om h0<|om h4<|op (fun Q U W H D=>zAf ((f_v0.fr W).eq (D.g 0 Z)) (D.g 1 Z) underlying9 e8)<|op (fun Q U W H D=>zH1 (D.g 0 Z) Z)<|ov<|gm 4 false h3<|og 4 false (fun G Q U W H D=>zBu (q.ok 0 _ Z).1 (D.h 0 G Z) underlying43)<|og 4 false (fun G Q U W H D=>zDg (D.h 0 G Z) Z)<|og 4 false (fun G Q U W H D=>zBj (D.h 0 G Z))<|gm 8 true h3<|gm 8 true h3<|og 8 true (fun G Q U W H D=>zBu (q.ok 0 _ Z).1 (D.h 0 G Z) underlying43)<|og 8 true (fun G Q U W H D=>zFq (D.h 0 G Z) Z (gd e9 G))<|og 8 true (fun G Q U W H D=>zAb (q.ok 0 _ Z).1 (D.h 0 G Z) (D.h 1 G Z) underlying43 sizeOf5 (gd e10 G) Z)<|og 8 true (fun G Q U W H D=>OpF.int (zBK ((q.fr W).ok 0 _ Z).1 (D.h 0 G Z) (gd e10 G) Z (Fld.id _) Z isAgg5 sizeOf5))<|og 8 true (fun G Q U W H D=>zH1 (D.h 0 G Z) Z)<|og 4 false (fun G Q U W H D=>zAX (decide (0<(y6.length:Int))) (D.h 0 G Z) (fun hc=>by have a1:Q 25=.bool ((gtD y6 ((y6.length:Int)-1)) != 32):=D 1 _ _ _ Z Z Z Z (zC2 G (zB2 hc));show _=Value.bool x11;rw [q12,hc];exact a1) (fun hc=>by show _=Value.bool x11;rw [q12,hc];exact Z))<|op (fun Q U W H D=>zAX ((bAt p0 y5) != 32) (D.g 0 Z) (fun hc=>by show _=Value.bool x13;rw [q14,hc];exact Z) (fun hc=>by have a2:Q 26=.bool x11:=D 1 _ _ _ Z Z Z Z (zC2 Z (zB2 hc));show _=Value.bool x13;rw [q14,hc];exact a2))<|oz
 intro R w m n p d j
 obtain ⟨h0,h3,h4,h6,h7⟩:=k5 n h0 h3 h4 h6 h7
 have h27:=p.r 17 Z
 replace f_v0:=f_v0.fr m
 replace q:=q.fr m
 refine zQM x13 h27 (fun c15=>?_) (fun c15=>?_)
 have c:=zAN c15 c
 obtain ⟨e16,e17,c⟩:=ck2 c
 refine zQY [ob ul_u1 (.vec w0.heap.size 5 (eInt .u8) y6)] (rR ul_u1::rR v0::rI y5::rU (bAt p0 y5)::(rF fun A=>.rep (eSl (eInt .u8)) A ([(bAt p0 y5)]:List Int))::⟨_,true,[0],some (.vec w0.heap.size 5 (eInt .u8) (y6++([(bAt p0 y5)]:List Int))),true,fun A=>.any⟩::⟨_,true,[6],some (.vec w0.heap.size 5 (eInt .u8) (y6++([(bAt p0 y5)]:List Int))),true,fun A=>.any⟩::[]) (ur (ur (ur (ur (up (ua (ua (UAll.nil)))))))) q d ?_ ?_
 exact rm h3<|rm h0<|rm h4<|rp (fun V Q U O D=>zAf ((f_v0.stp O.stp).eq (D.g 0 Z)) (D.g 1 Z) underlying9 e16)<|rp (fun V Q U O D=>zAe [_] (E:=eInt .u8) ⟨(zBT.eq (D.g 0 Z)),N⟩ underlying43 sizeOf5 zeroValue5 Z Z Z O.av)<|rc (OblR.took 0 _ _ Z Z Z Z Z fun V Q U O D u X Y J L M=>by have a0:Q 28=ul_u1:=D.g 0 Z;have a1:Rep (eSl (eInt .u8)) V U (Q 32) ([(bAt p0 y5)]:List Int):=D.g 1 Z;exact zAW (a0.trans (J _ Z).symm) X Y (Nat.le_trans j.size O.ch.size) a1 underlying43 el_5 e17)<|rc (OblR.took 6 _ _ Z Z Z Z Z fun V Q U O D u X Y J L M=>by exact zAD (L _ _ Z Z Z Z).symm X Y)<|rz
 intro done ρ σ A R w y s
 obtain ⟨h0,h6,h7⟩:=k3 s.rg h0 h6 h7
 obtain ⟨u18,e_u18⟩:∃ u,ρ 7=u:=⟨_,Z⟩
 have h3:=s.ov y 7 6 e_u18
 replace f_v0:=f_v0.stp s.stp
 obtain ⟨B,j,d⟩:=s.s B C j q ⟨Z,N⟩
 replace q:=s.left y [(7,ob u18 (.vec w0.heap.size 5 (eInt .u8) (y6++([(bAt p0 y5)]:List Int))))] ⟨Z,Z,e_u18,Z,Z,N⟩
 obtain ⟨e19,c⟩:=zA7 c
 refine HT.u d j (eI (y5+1)::eI (y5+1)::[]) ?_ ?_
 exact op (fun Q U W H D=>zAS ((H 7 Z).trans h7) Z e19)<|ov<|oz
 intro R w m n p d j
 obtain ⟨h0,h3,h6⟩:=k3 n h0 h3 h6
 have h7:=p.r 1 Z
 replace f_v0:=f_v0.fr m
 replace q:=q.fr m
 exact ei k (And.intro (Nat.lt_succ_self k) ⟨_,_,_,u18,c,d,j,B,q,h0,h3,h6,h7,f_v0⟩)
 have c:=zAM c15 c
 refine HT.skip ?_
 obtain ⟨e20,c⟩:=zA7 c
 refine HT.u d j (eI (y5+1)::eI (y5+1)::[]) ?_ ?_
 exact op (fun Q U W H D=>zAS ((H 7 Z).trans h7) Z e20)<|ov<|oz
 intro R w m n p d j
 obtain ⟨h0,h3,h6⟩:=k3 n h0 h3 h6
 have h7:=p.r 1 Z
 replace f_v0:=f_v0.fr m
 replace q:=q.fr m
 exact ei k (And.intro (Nat.lt_succ_self k) ⟨_,_,_,ul_u1,c,d,j,B,q,h0,h3,h6,h7,f_v0⟩)
 have c:=zAM c7 c
 refine zQR ?_
 obtain rfl:=si c
 exact ei _ ⟨_,ul_u1,Z,d,j,B,q,h3⟩
 rintro R w ⟨A,s4,uo_u1,es,d,j,B,q,h3⟩
 obtain rfl:=es.symm
 obtain ⟨x21,q22,c⟩:=zA6 c
 refine zQU d j (eR uo_u1::eF (.rep eStr A (strB s4))::eF (.rep eStr A x21)::eF (.rep eStr A x21)::[]) ?_ ?_
 exact om h3<|op (fun Q U W H D=>zC4 ((zCB ((q.fr W).ok 0 _ Z).1 B C).eq (D.g 0 Z)) underlying43 underlying5 underlying9)<|op (fun Q U W H D=>zAI call161 (zFt (q22 Z) (d.fr W.size) (D.g 0 Z) ⟨_,Z,⟨_,Z,Z,by decide⟩⟩))<|op (fun Q U W H D=>zA2 (D.g 0 Z))<|oz
 intro R w m n p d j
 obtain ⟨u23,h2,f_u23⟩:∃ u,R 2=u/\Rep eStr A w u x21:=⟨_,Z,p 3 _ _ Z Z Z⟩
 replace q:=q.fr m
 replace q:IniOK [] A w:=q.sub [] N
 refine HT.ret ?_
 obtain rfl:=si c
 exact ⟨.inr Z,[R 2],⟨Z,N⟩,(f_u23.eq h2).down B,j⟩
def zDi (fu:Nat) (p0:List UInt8):Option (List UInt8):=
 cl true (zDX fu p0) fun x1=>
 cl true (zDV fu x1) fun x3=>
 cl true (zCa fu x3) fun x5=>
 some x5
theorem zHG {fu : Nat} {A : Av} {p0 : List UInt8} {r : List UInt8} (c : zDi fu p0 = some r) {w : World} {v0 : Value} (d : AvOK A w) (hG : GTab w) (h0 : Rep eStr A w v0 p0) :
 Calls prog 104 #[v0] w fun e w'=>∃ v,e=.returned v/\(Rep eStr A w' v r/\Fr w w'):=by
 unfold zDi at c
 obtain ⟨w0,hw0,j⟩:=pf w
 rw [fw hw0]
 have hG0:GTab w0:=hw0 ▸ hG
 refine zA9 [.tmp 2] func104 ntmps104 (by decide) Z Z (nb Z) ?_
 intro R hR
 have f_v0:=h0
 replace h0:R 0=v0:=hR 0 _ Z
 refine zQU d j (eF (.rep eStr A ([]:List UInt8))::[]) ?_ ?_
 exact op (fun Q U W H D=>zA2 ⟨_,Z,⟨_,Z,Z,by decide⟩⟩)<|oz
 intro R w m n p d j
 replace h0:=k1 n h0
 replace f_v0:=f_v0.fr m
 obtain ⟨x1,q2,c⟩:=zA6 c
 obtain ⟨x3,q4,c⟩:=zA6 c
 obtain ⟨x5,q6,c⟩:=zA6 c
 refine zQU d j (eR v0::eF (.rep eStr A x1)::eF (.rep eStr A x3)::eF (.rep eStr A x5)::eF (.rep eStr A x5)::[]) ?_ ?_
 exact om h0<|op (fun Q U W H D=>zAI call130 (zFY (q2 Z) (d.fr W.size) ((f_v0.fr W).eq (D.g 0 Z))))<|op (fun Q U W H D=>zAI call136 (zGw (q4 Z) (d.fr W.size) (hG0.fr (j.trans W)) (D.g 0 Z)))<|op (fun Q U W H D=>zAI call135 (zFi (q6 Z) (d.fr W.size) (D.g 0 Z)))<|op (fun Q U W H D=>zA2 (D.g 0 Z))<|oz
 intro R w m n p d j
 obtain ⟨u7,h2,f_u7⟩:∃ u,R 2=u/\Rep eStr A w u x5:=⟨_,Z,p 4 _ _ Z Z Z⟩
 refine HT.ret ?_
 obtain rfl:=si c
 exact ⟨.inr Z,[R 2],⟨Z,N⟩,(f_u7.eq h2),j⟩
def zE4 (fu:Nat) (p0:Int):Option Bool:=
 some (p0==32)
theorem zHw {fu : Nat} {A : Av} {p0 : Int} {r : Bool} (c : zE4 fu p0 = some r) {w : World} {v0 : Value} (d : AvOK A w) (h0 : v0=.int .i32 p0) :
 Calls prog 134 #[v0] w fun e w'=>∃ v,e=.returned v/\(v=.bool r/\Fr w w'):=by
 unfold zE4 at c
 obtain ⟨w0,hw0,j⟩:=pf w
 rw [fw hw0]
 refine zA9 [.tmp 2] func134 ntmps134 (by decide) Z Z (nb Z) ?_
 intro R hR
 replace h0:R 0=.int .i32 p0:=(hR 0 _ Z).trans h0
 refine zQU d j (eB false::[]) ?_ ?_
 exact op (fun Q U W H D=>zA2 Z)<|oz
 intro R w m n p d j
 replace h0:=k1 n h0
 refine zQU d j (eR (.int .i32 p0)::eB (p0==32)::eB (p0==32)::[]) ?_ ?_
 exact om h0<|op (fun Q U W H D=>zDM (D.g 0 Z) Z)<|oa<|oz
 intro R w m n p d j
 have h2:=p.r 2 Z
 refine HT.ret ?_
 obtain rfl:=si c
 exact ⟨.inr Z,[R 2],⟨Z,N⟩,h2,j⟩
def zEw (fu:Nat) (p0:List UInt8):Option (List (List UInt8)):=
 cl true (zIO fu p0 (fun x=>zE4 fu x)) fun x1=>
 some x1
theorem zIe {fu : Nat} {A : Av} {p0 : List UInt8} {r : List (List UInt8)} (c : zEw fu p0 = some r) {w : World} {v0 : Value} (d : AvOK A w) (h0 : Rep eStr A w v0 p0) :
 Calls prog 103 #[v0] w fun e w'=>∃ v,e=.returned v/\(Rep (eSl eStr) A w' v r/\Fr w w'):=by
 unfold zEw at c
 obtain ⟨w0,hw0,j⟩:=pf w
 rw [fw hw0]
 refine zA9 [.tmp 2] func103 ntmps103 (by decide) Z Z (nb Z) ?_
 intro R hR
 have f_v0:=h0
 replace h0:R 0=v0:=hR 0 _ Z
 refine zQU d j (eF (.rep (eSl eStr) A ([]:List (List UInt8)))::[]) ?_ ?_
 exact op (fun Q U W H D=>zA2 zIZ)<|oz
 intro R w m n p d j
 replace h0:=k1 n h0
 replace f_v0:=f_v0.fr m
 obtain ⟨x1,q2,c⟩:=zA6 c
 refine zQU d j (eR v0::eF (.rep (eSl eStr) A x1)::eF (.rep (eSl eStr) A x1)::[]) ?_ ?_
 exact om h0<|op (fun Q U W H D=>zAI call133 (zLP (q2 Z) (d.fr W.size) ((f_v0.fr W).eq (D.g 0 Z)) (zIh [] Z call134 (fun x r hr' w'' a p hA' ha=>zHw hr' hA' (zHk ha)))))<|op (fun Q U W H D=>zA2 (D.g 0 Z))<|oz
 intro R w m n p d j
 obtain ⟨u3,h2,f_u3⟩:∃ u,R 2=u/\Rep (eSl eStr) A w u x1:=⟨_,Z,p 2 _ _ Z Z Z⟩
 refine HT.ret ?_
 obtain rfl:=si c
 exact ⟨.inr Z,[R 2],⟨Z,N⟩,(f_u3.eq h2),j⟩
def zBi (fu:Nat) (p0:List (List UInt8)):Option (List (List UInt8)):=
 ck (zBJ (([]:List (List UInt8)).length+p0.length)) <|
 some (([]:List (List UInt8))++p0)
theorem zEp {fu : Nat} {A0 : Av} {p0 : List (List UInt8)} {r : List (List UInt8)} (c : zBi fu p0 = some r) {w : World} {v0 : Value} (d : AvOK A0 w) (h0 : Rep (eSl eStr) A0 w v0 p0) :
 Calls prog 74 #[v0] w fun e w'=>∃ v,e=.returned v/\((Res.vec w.heap.size 9 eStr r).ok (addA A0 v) v w'/\Fr w w'):=by
 unfold zBi at c
 obtain ⟨w0,hw0,j,C⟩:=pw d
 have hA00:AvOK A0 w0:=C
 rw [fh hw0]
 rw [fw hw0]
 obtain ⟨A,hAe,B,d,q⟩:=pa d
 refine zA9 [.tmp 2] func74 ntmps74 (by decide) Z Z (nb Z) ?_
 intro R hR
 have f_v0:Rep (eSl eStr) A w v0 p0:=hAe ▸ h0
 replace h0:R 0=v0:=hR 0 _ Z
 refine zQU d j (eA::[]) ?_ ?_
 exact op (fun Q U W H D=>zA2 N)<|oz
 intro R w m n p d j
 replace h0:=k1 n h0
 replace f_v0:=f_v0.fr m
 replace q:=q.fr m
 refine zQT<|zQU d j (eR v0::eB (zLW v0)::[]) ?_ ?_
 exact om h0<|op (fun Q U W H D=>zMO (D.g 0 Z) (f_v0.fr W) Z underlying34)<|oz
 intro R w m n p d j
 replace h0:=k1 n h0
 have h4:=p.r 1 Z
 replace f_v0:=f_v0.fr m
 replace q:=q.fr m
 refine zQM (zLW v0) h4 (fun c1=>?_) (fun c1=>?_)
 obtain rfl:=zMH f_v0 c1
 refine zQU d j (eR (.slice none 0 0)::[]) ?_ ?_
 exact op (fun Q U W H D=>zA2 Z)<|oz
 intro R w m n p d j
 obtain ⟨u2,n_u2⟩:∃ u,u=Value.slice none 0 0:=⟨_,Z⟩
 have h2:R 2=u2:=(p 0 _ _ Z Z Z).trans n_u2.symm
 replace q:=q.fr m
 replace q:=q.nilcons (u:=u2) n_u2 w0.heap.size 9 eStr
 refine HT.ret ?_
 replace c:some ([]:List (List UInt8))=some r:=c
 obtain rfl:=si c
 exact ⟨.inr Z,[R 2],⟨Z,N⟩,(zC7 (q.ok 0 _ Z) B h2),j⟩
 refine HT.skip ?_
 obtain ⟨e3,c⟩:=zA7 c
 refine zQV [] (⟨_,true,[],some (.vec w0.heap.size 9 eStr ([]:List (List UInt8))),true,fun A=>.any⟩::rR v0::⟨_,true,[0],some (.vec w0.heap.size 9 eStr (([]:List (List UInt8))++p0)),true,fun A=>.any⟩::⟨_,true,[2],some (.vec w0.heap.size 9 eStr (([]:List (List UInt8))++p0)),true,fun A=>.any⟩::[]) (ua (ur (ua (ua (UAll.nil))))) q d ?_ ?_
 exact rc (OblR.made _ Z Z Z Z fun V Q U O D=>by exact zC0 [] (E:=eStr) N underlying34 sizeOf9 zeroValue9 Z Z Z (Nat.le_trans j.size O.ch.size))<|rm h0<|rc (OblR.took 0 _ _ Z Z Z Z Z fun V Q U O D u X Y J L M=>by have a1:Q 6=v0:=D.g 1 Z;have ra1:=(f_v0.stp O.stp).eq a1;exact zAW (L _ _ Z Z Z Z).symm X Y (Nat.le_trans j.size O.ch.size) ra1 underlying34 el_9 e3)<|rc (OblR.took 2 _ _ Z Z Z Z Z fun V Q U O D u X Y J L M=>by exact zAD (L _ _ Z Z Z Z).symm X Y)<|rz
 intro done ρ σ A R w y s
 obtain ⟨u4,e_u4⟩:∃ u,ρ 3=u:=⟨_,Z⟩
 have h2:=s.ov y 3 3 e_u4
 obtain ⟨B,j,d⟩:=s.s B C j q N
 replace q:=s.left y [(3,ob u4 (.vec w0.heap.size 9 eStr (([]:List (List UInt8))++p0)))] ⟨Z,Z,e_u4,Z,Z,N⟩
 refine HT.ret ?_
 obtain rfl:=si c
 exact ⟨.inr Z,[R 2],⟨Z,N⟩,(zC7 (q.ok 0 _ Z) B h2),j⟩
def zAY (fu : Nat) (y5 : Int) (x13 : Nat) : Nat -> Int -> Int -> (List (List UInt8)) -> Option (Int × (List (List UInt8)))
 | 0,_,_,_=>none
 | k+1,y18,y19,y20=>
 bif (decide (y19<(x13:Int))) then (
 ck (inR y19 x13) <|
 ck (decide (0<=y5)) <|
 ck (inR (y5+y19) y20.length) <|
 ck (i64B (y19-1)) <|
 ck (inR (y19-1) x13) <|
 ck (decide (0<=y5)) <|
 ck (inR (y5+(y19-1)) y20.length) <|
 bif (!((gtD y20 (y5+y19))==(gtD y20 (y5+(y19-1))))) then (
 ck (inR y19 x13) <|
 ck (decide (0<=y5)) <|
 ck (inR (y5+y19) y20.length) <|
 ck (inR y18 y20.length) <|
 ck (i64B (y18+1)) <|
 ck (i64B (y19+1)) <|
 zAY fu y5 x13 k (y18+1) (y19+1) (y20.set y18.toNat (gtD y20 (y5+y19)))
 ) else (
 ck (i64B (y19+1)) <|
 zAY fu y5 x13 k y18 (y19+1) y20
 )
 ) else (
 some (y18,y20)
 )
def zAZ (fu : Nat) : Nat -> Int -> (List (List UInt8)) -> Option (Ex (List (List UInt8)) (List (List UInt8)))
 | 0,_,_=>none
 | k+1,y5,y6=>
 bif (decide (y5<(y6.length:Int))) then (
 ck (inR y5 y6.length) <|
 ck (i64B (y5-1)) <|
 ck (inR (y5-1) y6.length) <|
 bif ((gtD y6 y5)==(gtD y6 (y5-1))) then (
 ck (subR y5 (y6.length:Int) y6.length) <|
 bd ((y6.length:Int).toNat-y5.toNat) fun x13=>
 cl true (zAY fu y5 x13 fu y5 1 y6) fun s17=>
 ck (subR s17.1 (s17.2.length:Int) s17.2.length) <|
 bd ((s17.2.length:Int).toNat-s17.1.toNat) fun x40=>
 ck (subR s17.1 s17.2.length s17.2.length) <|
 ck (x40==s17.2.length-s17.1.toNat) <|
 ck (subR 0 s17.1 (s17.2.take s17.1.toNat++List.replicate (s17.2.length-s17.1.toNat) ([]:List UInt8)).length) <|
 some (Ex.ret (subL (s17.2.take s17.1.toNat++List.replicate (s17.2.length-s17.1.toNat) ([]:List UInt8)) 0 s17.1))
 ) else (
 ck (i64B (y5+1)) <|
 zAZ fu k (y5+1) y6
 )
 ) else (
 some (Ex.go y6)
 )
def zBV (fu:Nat) (p0:List (List UInt8)):Option (List (List UInt8)):=
 bif (decide ((p0.length:Int)<2)) then (
 some p0
 ) else (
 cl true (zAZ fu fu 1 p0) fun rl2=>
 exM rl2 (fun r=>some r) fun s4=>
 some s4
 )
theorem zEa {fu : Nat} {A0 : Av} {p0 : List (List UInt8)} {r : List (List UInt8)} (c : zBV fu p0 = some r) {w : World} {v0 : Value} {B0 : Nat} (d : AvOK A0 w) (K : ∀ b o, A0 b o -> ¬ zAB v0 b) (h0 : (Res.vec B0 9 eStr p0).ok A0 v0 w) :
 Calls prog 76 #[v0] w fun e w'=>∃ v,e=.returned v/\Took (addA A0 v0) true v0 (.vec B0 9 eStr r) (fun _=>.any) w v w':=by
 unfold zBV at c
 obtain ⟨w0,hw0,C⟩:=pc d
 have j:Ch (zAB v0) w0 w:=hw0 ▸ Ch.refl _ _
 have hA00:AvOK A0 w0:=C
 rw [show Took (addA A0 v0) true v0 (.vec B0 9 eStr r) (fun _=>.any) w=Took (addA A0 v0) true v0 (.vec B0 9 eStr r) (fun _=>.any) w0 from hw0 ▸ Z]
 obtain ⟨A,hAe⟩:∃ A,A=addA A0 v0:=⟨_,Z⟩
 have B:∀ b o,A0 b o->A b o:=fun b o h=>hAe ▸ .inl h
 replace d:AvOK A w:=hAe ▸ d.one h0
 have q:IniOK [ob v0 (.vec B0 9 eStr p0)] A w:=hAe ▸ IniOK.one h0 (fun _ _ _ _ _ h=>h)
 refine zA9 [.tmp 2] func76 ntmps76 (by decide) Z Z (nb Z) ?_
 intro R hR
 replace h0:R 0=v0:=hR 0 _ Z
 refine zQT<|zQW (eA::[]) ?_ ?_
 exact op (fun Q U W H D=>zA2 N)<|oz
 intro R w m n p
 replace h0:=k1 n h0
 replace q:=q.fr m
 replace d:=d.fr m.size
 replace j:=j.tr (m.ch noB) fun _ h=>False.elim h
 refine zQT<|zQT<|zQW (eR v0::eI (p0.length:Int)::eB (decide ((p0.length:Int)<2))::[]) ?_ ?_
 exact om h0<|op (fun Q U W H D=>zBu (q.ok 0 _ Z).1 (D.g 0 Z) underlying34)<|op (fun Q U W H D=>zAk (D.g 0 Z) Z)<|oz
 intro R w m n p
 replace h0:=k1 n h0
 have h8:=p.r 2 Z
 replace q:=q.fr m
 replace d:=d.fr m.size
 replace j:=j.tr (m.ch noB) fun _ h=>False.elim h
 refine zQM (decide ((p0.length:Int)<2)) h8 (fun c1=>?_) (fun c1=>?_)
 have c:=zAN c1 c
 refine zQT<|zQW (eR v0::eR v0::[]) ?_ ?_
 exact om h0<|oa<|oz
 intro R w m n p
 have h2:=p.r 1 Z
 replace q:=q.fr m
 replace d:=d.fr m.size
 replace j:=j.tr (m.ch noB) fun _ h=>False.elim h
 refine HT.ret ?_
 obtain rfl:=si c
 exact ⟨.inr Z,[R 2],⟨Z,N⟩,by show Took _ true _ _ _ w0 (R 2) w;rw [h2];exact zDe (fun k h o=>.inr h) j (q.ok 0 _ Z).1 (q.own_ge (⟨.inr (fun k h=>.inr h),N⟩) (i:=0) Z) (fun _ _ _ _ _ h=>h)⟩
 have c:=zAM c1 c
 refine HT.skip<|zQT<|zQT<|zQW (eI 1::[]) ?_ ?_
 exact op (fun Q U W H D=>zA2 Z)<|oz
 intro R w m n p
 replace h0:=k1 n h0
 have h3:=p.r 0 Z
 replace q:=q.fr m
 replace d:=d.fr m.size
 replace j:=j.tr (m.ch noB) fun _ h=>False.elim h
 obtain ⟨rl2,q3,c⟩:=zA6 c
 replace q3:=q3 Z
 refine zQO (fun R w=>∃ A:Av,∃ (s4:(List (List UInt8))),rl2=Ex.go s4/\AvOK A w/\Ch (zAB v0) w0 w/\(∀ b o,A0 b o->A b o)/\IniOK [ob v0 (.vec B0 9 eStr s4)] A w/\R 0=v0) ?_ ?_
 refine HT.block<|zQS (fun k R w=>∃ A:Av,∃ (y5:Int) (y6:List (List UInt8)),zAZ fu k y5 y6=some rl2/\AvOK A w/\Ch (zAB v0) w0 w/\(∀ b o,A0 b o->A b o)/\IniOK [ob v0 (.vec B0 9 eStr y6)] A w/\R 0=v0/\R 3=.int .i64 y5) fu ⟨_,_,_,q3,d,j,B,q,h0,h3⟩ ?_
 have hr0:=c;clear c q3
 rintro k R w ⟨A,y5,y6,c,d,j,B,q,h0,h3⟩
 rcases k with _ | k
 cases (show none=some _ from c)
 rw [zAZ] at c
 refine zQT<|zQT<|zQW (eI y5::eR v0::eI (y6.length:Int)::eB (decide (y5<(y6.length:Int)))::[]) ?_ ?_
 exact om h3<|om h0<|op (fun Q U W H D=>zBu (q.ok 0 _ Z).1 (D.g 0 Z) underlying34)<|op (fun Q U W H D=>zAk (D.g 0 Z) (D.g 1 Z))<|oz
 intro R w m n p
 obtain ⟨h0,h3⟩:=k2 n h0 h3
 have h13:=p.r 3 Z
 replace q:=q.fr m
 replace d:=d.fr m.size
 replace j:=j.tr (m.ch noB) fun _ h=>False.elim h
 refine zQM (decide (y5<(y6.length:Int))) h13 (fun c7=>?_) (fun c7=>?_)
 have c:=zAN c7 c
 refine HT.skip<|zQT<|HT.block<|zQT ?_
 obtain ⟨e8,e9,e10,c⟩:=ck3 c
 refine zQP (by kernel_rfl) (l:=eR v0::eI y5::eR (vptr v0 (y5.toNat*1))::eF (.rep eStr A (gtD y6 y5))::eR v0::eI y5::eI (y5-1)::eR (vptr v0 ((y5-1).toNat*1))::eF (.rep eStr A (gtD y6 (y5-1)))::eB ((gtD y6 y5)==(gtD y6 (y5-1)))::[]) (tl:=[]) (by kernel_rfl) (by kernel_rfl) (by kernel_rfl) (by kernel_rfl) ?_ ?_
 exact om h0<|om h3<|op (fun Q U W H D=>zAb (q.ok 0 _ Z).1 (D.g 0 Z) (D.g 1 Z) underlying34 sizeOf9 e8 Z)<|op (fun Q U W H D=>(zBK ((q.fr W).ok 0 _ Z).1 (D.g 0 Z) e8 Z (Fld.id _) Z isAgg9 sizeOf9))<|om h0<|om h3<|op (fun Q U W H D=>zFq (D.g 0 Z) Z e9)<|op (fun Q U W H D=>zAb (q.ok 0 _ Z).1 (D.g 0 Z) (D.g 1 Z) underlying34 sizeOf9 e10 Z)<|op (fun Q U W H D=>(zBK ((q.fr W).ok 0 _ Z).1 (D.g 0 Z) e10 Z (Fld.id _) Z isAgg9 sizeOf9))<|op (fun Q U W H D=>zBv (D.g 0 Z) (D.g 1 Z))<|oz
 intro R w m n p
 obtain ⟨h0,h3⟩:=k2 n h0 h3
 have h25:=p.r 9 Z
 replace q:=q.fr m
 replace d:=d.fr m.size
 replace j:=j.tr (m.ch noB) fun _ h=>False.elim h
 refine zQM ((gtD y6 y5)==(gtD y6 (y5-1))) h25 (fun c11=>?_) (fun c11=>?_)
 have c:=zAN c11 c
 refine zQT ?_
 obtain ⟨e12,c⟩:=zA7 c
 obtain ⟨x13,q14,c⟩:=zAU c
 refine zQW (eR v0::eI y5::eR (vsub v0 y5.toNat x13 1)::eR (vsub v0 y5.toNat x13 1)::[]) ?_ ?_
 exact om h0<|om h3<|op (fun Q U W H D=>(q14 ▸ zHD (q.ok 0 _ Z).1 (D.g 0 Z) (D.g 1 Z) underlying34 sizeOf9 e12))<|oa<|oz
 intro R w m n p
 obtain ⟨h0,h3⟩:=k2 n h0 h3
 have h4:=p.r 3 Z
 replace q:=q.fr m
 replace d:=d.fr m.size
 replace j:=j.tr (m.ch noB) fun _ h=>False.elim h
 refine zQT<|zQT<|zQW (eI 1::[]) ?_ ?_
 exact op (fun Q U W H D=>zA2 Z)<|oz
 intro R w m n p
 obtain ⟨h0,h3,h4⟩:=k3 n h0 h3 h4
 have h5:=p.r 0 Z
 replace q:=q.fr m
 replace d:=d.fr m.size
 replace j:=j.tr (m.ch noB) fun _ h=>False.elim h
 obtain ⟨rl15,q16,c⟩:=zA6 c
 replace q16:=q16 Z
 refine zQO (fun R w=>∃ A:Av,∃ (s17:Int × (List (List UInt8))),rl15=s17/\AvOK A w/\Ch (zAB v0) w0 w/\(∀ b o,A0 b o->A b o)/\IniOK [ob v0 (.vec B0 9 eStr s17.2)] A w/\R 0=v0/\R 3=.int .i64 s17.1) ?_ ?_
 refine HT.block<|zQS (fun k R w=>∃ A:Av,∃ (y18:Int) (y19:Int) (y20:List (List UInt8)),zAY fu y5 x13 k y18 y19 y20=some rl15/\AvOK A w/\Ch (zAB v0) w0 w/\(∀ b o,A0 b o->A b o)/\IniOK [ob v0 (.vec B0 9 eStr y20)] A w/\R 0=v0/\R 3=.int .i64 y18/\R 4=(vsub v0 y5.toNat x13 1)/\R 5=.int .i64 y19) fu ⟨_,_,_,_,q16,d,j,B,q,h0,h3,h4,h5⟩ ?_
 have hr1:=c;clear c q16
 rintro k R w ⟨A,y18,y19,y20,c,d,j,B,q,h0,h3,h4,h5⟩
 rcases k with _ | k
 cases (show none=some _ from c)
 rw [zAY] at c
 refine zQT<|zQT<|zQW (eI y19::eR (vsub v0 y5.toNat x13 1)::eI (x13:Int)::eB (decide (y19<(x13:Int)))::[]) ?_ ?_
 exact om h5<|om h4<|op (fun Q U W H D=>zIz (q.ok 0 _ Z).1 (D.g 0 Z) underlying34)<|op (fun Q U W H D=>zAk (D.g 0 Z) (D.g 1 Z))<|oz
 intro R w m n p
 obtain ⟨h0,h3,h4,h5⟩:=k4 n h0 h3 h4 h5
 have h32:=p.r 3 Z
 replace q:=q.fr m
 replace d:=d.fr m.size
 replace j:=j.tr (m.ch noB) fun _ h=>False.elim h
 refine zQM (decide (y19<(x13:Int))) h32 (fun c21=>?_) (fun c21=>?_)
 have c:=zAN c21 c
 refine HT.skip<|zQT<|HT.block<|zQT ?_
 obtain ⟨e22,e23,e24,e25,c⟩:=ck4 c
 obtain ⟨e26,e27,e28,c⟩:=ck3 c
 refine zQP (by kernel_rfl) (l:=eR (vsub v0 y5.toNat x13 1)::eI y19::eR (vptr v0 ((y5+y19).toNat*1))::eF (.rep eStr A (gtD y20 (y5+y19)))::eR (vsub v0 y5.toNat x13 1)::eI y19::eI (y19-1)::eR (vptr v0 ((y5+(y19-1)).toNat*1))::eF (.rep eStr A (gtD y20 (y5+(y19-1))))::eB (!((gtD y20 (y5+y19))==(gtD y20 (y5+(y19-1)))))::[]) (tl:=[]) (by kernel_rfl) (by kernel_rfl) (by kernel_rfl) (by kernel_rfl) ?_ ?_
 exact om h4<|om h5<|op (fun Q U W H D=>zCr (q.ok 0 _ Z).1 (D.g 0 Z) (D.g 1 Z) underlying34 sizeOf9 e22 e23 e24 Z)<|op (fun Q U W H D=>(zBK ((q.fr W).ok 0 _ Z).1 (D.g 0 Z) e24 Z (Fld.id _) Z isAgg9 sizeOf9))<|om h4<|om h5<|op (fun Q U W H D=>zFq (D.g 0 Z) Z e25)<|op (fun Q U W H D=>zCr (q.ok 0 _ Z).1 (D.g 0 Z) (D.g 1 Z) underlying34 sizeOf9 e26 e27 e28 Z)<|op (fun Q U W H D=>(zBK ((q.fr W).ok 0 _ Z).1 (D.g 0 Z) e28 Z (Fld.id _) Z isAgg9 sizeOf9))<|op (fun Q U W H D=>zGV (D.g 0 Z) (D.g 1 Z))<|oz
 intro R w m n p
 obtain ⟨h0,h3,h4,h5⟩:=k4 n h0 h3 h4 h5
 have h44:=p.r 9 Z
 replace q:=q.fr m
 replace d:=d.fr m.size
 replace j:=j.tr (m.ch noB) fun _ h=>False.elim h
 refine zQM (!((gtD y20 (y5+y19))==(gtD y20 (y5+(y19-1))))) h44 (fun c29=>?_) (fun c29=>?_)
 have c:=zAN c29 c
 obtain ⟨e30,e31,e32,e33,c⟩:=ck4 c
 refine zQV [ob v0 (.vec B0 9 eStr y20)] (rR v0::rI y18::rR (vsub v0 y5.toNat x13 1)::rI y19::rR (vptr v0 ((y5+y19).toNat*1))::(rF fun A=>.rep eStr A (gtD y20 (y5+y19)))::rR (vptr v0 (y18.toNat*1))::⟨_,true,[0],some (.vec B0 9 eStr (y20.set y18.toNat (gtD y20 (y5+y19)))),false,fun A=>.any⟩::[]) (ur (ur (ur (ur (ur (up (ur (ua (UAll.nil))))))))) q d ?_ ?_
 exact rm h0<|rm h3<|rm h4<|rm h5<|rp (fun V Q U O D=>zCr (q.ok 0 _ Z).1 (D.g 0 Z) (D.g 1 Z) underlying34 sizeOf9 e30 e31 e32 Z)<|rp (fun V Q U O D=>(zBK (O.rd 0 _ Z Z) (D.g 0 Z) e32 Z (Fld.id _) Z isAgg9 sizeOf9))<|rp (fun V Q U O D=>zAb (q.ok 0 _ Z).1 (D.g 0 Z) (D.g 1 Z) underlying34 sizeOf9 e33 Z)<|rc (OblR.took 0 _ _ Z Z Z Z Z fun V Q U O D u X Y J L M=>by have a0:Q 51=(vptr v0 (y18.toNat*1)):=D.g 0 Z;have a1:Rep eStr V U (Q 50) (gtD y20 (y5+y19)):=D.g 1 Z;obtain rfl:=J _ Z;exact zFu a1 X Y a0 e33 Z (FldS.id _) sizeOf9 Z)<|rz
 intro done ρ σ A R w y s
 obtain ⟨h0,h3,h4,h5⟩:=k4 s.rg h0 h3 h4 h5
 have z34:=s.inivR 0 Z
 have z35:=s.on y 8 7 Z Z Z Z Z z34
 replace B:=s.lowK B C K (q.geK (⟨.inr (fun k h=>.inr h),N⟩))
 replace j:Ch (zAB v0) w0 w:=j.tr s.ch (q.geK (⟨.inr (fun k h=>.inr h),N⟩))
 replace q:=s.left y [(8,ob v0 (.vec B0 9 eStr (y20.set y18.toNat (gtD y20 (y5+y19)))))] ⟨Z,Z,z35,Z,Z,N⟩
 replace d:=s.avok
 obtain ⟨e36,c⟩:=zA7 c
 refine zQW (eI y18::eI (y18+1)::eI (y18+1)::[]) ?_ ?_
 exact om h3<|op (fun Q U W H D=>zAS (D.g 0 Z) Z e36)<|oa<|oz
 intro R w m n p
 obtain ⟨h0,h4,h5⟩:=k3 n h0 h4 h5
 have h3:=p.r 2 Z
 replace q:=q.fr m
 replace d:=d.fr m.size
 replace j:=j.tr (m.ch noB) fun _ h=>False.elim h
 obtain ⟨e37,c⟩:=zA7 c
 refine zQW (eI y19::eI (y19+1)::eI (y19+1)::[]) ?_ ?_
 exact om h5<|op (fun Q U W H D=>zAS (D.g 0 Z) Z e37)<|oa<|oz
 intro R w m n p
 obtain ⟨h0,h3,h4⟩:=k3 n h0 h3 h4
 have h5:=p.r 2 Z
 replace q:=q.fr m
 replace d:=d.fr m.size
 replace j:=j.tr (m.ch noB) fun _ h=>False.elim h
 exact ei k (And.intro (Nat.lt_succ_self k) ⟨_,_,_,_,c,d,j,B,q,h0,h3,h4,h5⟩)
 have c:=zAM c29 c
 refine HT.skip ?_
 obtain ⟨e38,c⟩:=zA7 c
 refine zQW (eI y19::eI (y19+1)::eI (y19+1)::[]) ?_ ?_
 exact om h5<|op (fun Q U W H D=>zAS (D.g 0 Z) Z e38)<|oa<|oz
 intro R w m n p
 obtain ⟨h0,h3,h4⟩:=k3 n h0 h3 h4
 have h5:=p.r 2 Z
 replace q:=q.fr m
 replace d:=d.fr m.size
 replace j:=j.tr (m.ch noB) fun _ h=>False.elim h
 exact ei k (And.intro (Nat.lt_succ_self k) ⟨_,_,_,_,c,d,j,B,q,h0,h3,h4,h5⟩)
 have c:=zAM c21 c
 refine zQR ?_
 obtain rfl:=si c
 exact ei _ ⟨_,Z,d,j,B,q,h0,h3⟩
 rintro R w ⟨A,s17,es,d,j,B,q,h0,h3⟩
 obtain rfl:=es.symm
 refine zQT ?_
 obtain ⟨e39,c⟩:=zA7 c
 obtain ⟨x40,q41,c⟩:=zAU c
 obtain ⟨e42,e43,c⟩:=ck2 c
 refine zQY [ob v0 (.vec B0 9 eStr s17.2)] (rR v0::rI s17.1::rR (vsub v0 s17.1.toNat x40 1)::⟨_,true,[0],some (.vec B0 9 eStr (s17.2.take s17.1.toNat++List.replicate (s17.2.length-s17.1.toNat) ([]:List UInt8))),false,fun A=>.any⟩::[]) (ur (ur (ur (ua (UAll.nil))))) q d ?_ ?_
 exact rm h0<|rm h3<|rp (fun V Q U O D=>(q41 ▸ zHD (q.ok 0 _ Z).1 (D.g 0 Z) (D.g 1 Z) underlying34 sizeOf9 e39))<|rc (OblR.took 0 _ _ Z Z Z Z Z fun V Q U O D u X Y J L M=>by have a0:Q 56=(vsub v0 s17.1.toNat x40 1):=D.g 0 Z;obtain rfl:=J _ Z;exact zI3 a0 X Y underlying34 Z zeroValue9 (fun A w=>(zGg Z (by decide))) e42 e43 Z)<|rz
 intro done ρ σ A R w y s
 obtain ⟨h0,h3⟩:=k2 s.rg h0 h3
 have z44:=s.inivR 0 Z
 have z45:=s.on y 4 3 Z Z Z Z Z z44
 replace B:=s.lowK B C K (q.geK (⟨.inr (fun k h=>.inr h),N⟩))
 replace j:Ch (zAB v0) w0 w:=j.tr s.ch (q.geK (⟨.inr (fun k h=>.inr h),N⟩))
 replace q:=s.left y [(4,ob v0 (.vec B0 9 eStr (s17.2.take s17.1.toNat++List.replicate (s17.2.length-s17.1.toNat) ([]:List UInt8))))] ⟨Z,Z,z45,Z,Z,N⟩
 replace d:=s.avok
 obtain ⟨e46,c⟩:=zA7 c
 refine zQV [ob v0 (.vec B0 9 eStr (s17.2.take s17.1.toNat++List.replicate (s17.2.length-s17.1.toNat) ([]:List UInt8)))] (rR v0::rI s17.1::⟨_,true,[0],some (.vec B0 9 eStr (subL (s17.2.take s17.1.toNat++List.replicate (s17.2.length-s17.1.toNat) ([]:List UInt8)) 0 s17.1)),true,fun A=>.any⟩::⟨_,true,[3],some (.vec B0 9 eStr (subL (s17.2.take s17.1.toNat++List.replicate (s17.2.length-s17.1.toNat) ([]:List UInt8)) 0 s17.1)),true,fun A=>.any⟩::[]) (ur (ur (ua (ua (UAll.nil))))) q d ?_ ?_
 exact rm h0<|rm h3<|rc (OblR.took 0 _ _ Z Z Z Z Z fun V Q U O D u X Y J L M=>by have a0:Q 57=v0:=D.g 0 Z;have a1:Q 58=.int .i64 s17.1:=D.g 1 Z;exact zH9 (a0.trans (J _ Z).symm) X Y a1 underlying34 sizeOf9 e46 Z)<|rc (OblR.took 3 _ _ Z Z Z Z Z fun V Q U O D u X Y J L M=>by exact zAD (L _ _ Z Z Z Z).symm X Y)<|rz
 intro done ρ σ A R w y s
 obtain ⟨u47,e_u47⟩:∃ u,ρ 4=u:=⟨_,Z⟩
 have h2:=s.ov y 4 3 e_u47
 have hK_u47:∀ k,zAB u47 k->w0.heap.size<=k\/(zAB v0) k:=s.geK y 4 Z Z Z e_u47 (q.geK (⟨.inr (fun k h=>.inr h),N⟩)) j.size
 replace B:=s.lowK B C K (q.geK (⟨.inr (fun k h=>.inr h),N⟩))
 replace j:Ch (zAB v0) w0 w:=j.tr s.ch (q.geK (⟨.inr (fun k h=>.inr h),N⟩))
 replace q:=s.left y [(4,ob u47 (.vec B0 9 eStr (subL (s17.2.take s17.1.toNat++List.replicate (s17.2.length-s17.1.toNat) ([]:List UInt8)) 0 s17.1)))] ⟨Z,Z,e_u47,Z,Z,N⟩
 replace d:=s.avok
 obtain ⟨Yg47,g_Yg47⟩:∃ z:List (List UInt8),z=(subL (s17.2.take s17.1.toNat++List.replicate (s17.2.length-s17.1.toNat) ([]:List UInt8)) 0 s17.1):=⟨_,Z⟩
 rw [<- g_Yg47] at q
 try rw [<- g_Yg47] at c
 refine HT.ret ?_
 obtain rfl:=si c
 have c:=hr0
 replace c:some _=some _:=c
 obtain rfl:=si c
 exact ⟨.inr Z,[R 2],⟨Z,N⟩,by show Took _ true _ _ _ w0 (R 2) w;rw [h2];exact zDe (fun k h o=>.inr h) j (q.ok 0 _ Z).1 (q.own_ge (⟨.inr hK_u47,N⟩) (i:=0) Z) (fun _ _ _ _ _ h=>h)⟩
 have c:=zAM c11 c
 refine HT.skip ?_
 obtain ⟨e49,c⟩:=zA7 c
 refine zQW (eI y5::eI (y5+1)::eI (y5+1)::[]) ?_ ?_
 exact om h3<|op (fun Q U W H D=>zAS (D.g 0 Z) Z e49)<|oa<|oz
 intro R w m n p
 replace h0:=k1 n h0
 have h3:=p.r 2 Z
 replace q:=q.fr m
 replace d:=d.fr m.size
 replace j:=j.tr (m.ch noB) fun _ h=>False.elim h
 exact ei k (And.intro (Nat.lt_succ_self k) ⟨_,_,_,c,d,j,B,q,h0,h3⟩)
 have c:=zAM c7 c
 refine zQR ?_
 obtain rfl:=si c
 exact ei _ ⟨_,Z,d,j,B,q,h0⟩
 rintro R w ⟨A,s4,rfl,d,j,B,q,h0⟩
 have c:=zF3 c
 refine zQT<|zQW (eR v0::eR v0::[]) ?_ ?_
 exact om h0<|oa<|oz
 intro R w m n p
 have h2:=p.r 1 Z
 replace q:=q.fr m
 replace d:=d.fr m.size
 replace j:=j.tr (m.ch noB) fun _ h=>False.elim h
 refine HT.ret ?_
 obtain rfl:=si c
 exact ⟨.inr Z,[R 2],⟨Z,N⟩,by show Took _ true _ _ _ w0 (R 2) w;rw [h2];exact zDe (fun k h o=>.inr h) j (q.ok 0 _ Z).1 (q.own_ge (⟨.inr (fun k h=>.inr h),N⟩) (i:=0) Z) (fun _ _ _ _ _ h=>h)⟩
def zBB (fu:Nat) (p0:List (List UInt8)):Option (List (List UInt8)):=
 cl true (zBi fu p0) fun x1=>
 cl true (zK6 fu x1) fun x4=>
 cl true (zBV fu x4) fun x8=>
 some x8
theorem zBq {fu : Nat} {A0 : Av} {p0 : List (List UInt8)} {r : List (List UInt8)} (c : zBB fu p0 = some r) {w : World} {v0 : Value} (d : AvOK A0 w) (h0 : Rep (eSl eStr) A0 w v0 p0) :
 Calls prog 42 #[v0] w fun e w'=>∃ v,e=.returned v/\((Res.vec w.heap.size 9 eStr r).ok (addA A0 v) v w'/\Fr w w'):=by
 unfold zBB at c
 obtain ⟨w0,hw0,j,C⟩:=pw d
 have hA00:AvOK A0 w0:=C
 rw [fh hw0]
 rw [fw hw0]
 obtain ⟨A,hAe,B,d,q⟩:=pa d
 refine zA9 [.tmp 2] func42 ntmps42 (by decide) Z Z (nb Z) ?_
 intro R hR
 have f_v0:Rep (eSl eStr) A w v0 p0:=hAe ▸ h0
 replace h0:R 0=v0:=hR 0 _ Z
 refine zQU d j (eA::[]) ?_ ?_
 exact op (fun Q U W H D=>zA2 N)<|oz
 intro R w m n p d j
 replace h0:=k1 n h0
 replace f_v0:=f_v0.fr m
 replace q:=q.fr m
 obtain ⟨x1,q2,c⟩:=zA6 c
 refine zQV [] (rR v0::⟨_,true,[],some (.vec w0.heap.size 9 eStr x1),true,fun A=>.any⟩::⟨_,true,[1],some (.vec w0.heap.size 9 eStr x1),true,fun A=>.any⟩::[]) (ur (ua (ua (UAll.nil)))) q d ?_ ?_
 exact rm h0<|rc (OblR.made _ Z Z Z Z fun V Q U O D=>by have a0:Q 4=v0:=D.g 0 Z;have ra0:=(f_v0.stp O.stp).eq a0;exact zGY call74 (zEp (q2 Z) O.av ra0) (Nat.le_trans j.size O.ch.size))<|rc (OblR.took 1 _ _ Z Z Z Z Z fun V Q U O D u X Y J L M=>by exact zAD (L _ _ Z Z Z Z).symm X Y)<|rz
 intro done ρ σ A R w y s
 obtain ⟨u3,e_u3⟩:∃ u,ρ 2=u:=⟨_,Z⟩
 have h3:=s.ov y 2 2 e_u3
 obtain ⟨B,j,d⟩:=s.s B C j q N
 replace q:=s.left y [(2,ob u3 (.vec w0.heap.size 9 eStr x1))] ⟨Z,Z,e_u3,Z,Z,N⟩
 obtain ⟨x4,q5,c⟩:=zA6 c
 refine zQV [ob u3 (.vec w0.heap.size 9 eStr x1)] (rR u3::⟨_,true,[0],some (.vec w0.heap.size 9 eStr x4),false,fun A=>.any⟩::[]) (ur (ua (UAll.nil))) q d ?_ ?_
 exact rm h3<|rc (OblR.took 0 _ _ Z Z Z Z Z fun V Q U O D u X Y J L M=>by have a0:Q 6=u3:=D.g 0 Z;have hu0:zAH Q (.tmp 6)=u:=a0.trans (J _ Z).symm;exact zKO call75 Y (fun _ _ _ _ _ h=>h) (by simp only [List.map,hu0];exact Calls.mono (zM6 (q5 Z) (O.av.sub _) (fun b o h=>h.2) (Vec.flat X (fun _ _ _ _ _ h=>h))) (fun _ _ ⟨v,h1,h2,h3,h4⟩=>⟨v,h1,N,h3,h4⟩)))<|rz
 intro done ρ σ A R w y s
 replace h3:=k1 s.rg h3
 have z6:=s.inivR 0 Z
 have z7:=s.on y 2 1 Z Z Z Z Z z6
 obtain ⟨B,j,d⟩:=s.s B C j q ⟨Z,N⟩
 replace q:=s.left y [(2,ob u3 (.vec w0.heap.size 9 eStr x4))] ⟨Z,Z,z7,Z,Z,N⟩
 obtain ⟨x8,q9,c⟩:=zA6 c
 refine zQV [ob u3 (.vec w0.heap.size 9 eStr x4)] (rR u3::⟨_,true,[0],some (.vec w0.heap.size 9 eStr x8),true,fun A=>.any⟩::⟨_,true,[2],some (.vec w0.heap.size 9 eStr x8),true,fun A=>.any⟩::[]) (ur (ua (ua (UAll.nil)))) q d ?_ ?_
 exact rm h3<|rc (OblR.took 0 _ _ Z Z Z Z Z fun V Q U O D u X Y J L M=>by have a0:Q 8=u3:=D.g 0 Z;have hu0:zAH Q (.tmp 8)=u:=a0.trans (J _ Z).symm;exact zD9 call76 Y (by simp only [List.map,hu0];exact zEa (q9 Z) (O.av.sub _) (fun b o h=>h.2) (Vec.flat X (fun _ _ _ _ _ h=>h))))<|rc (OblR.took 2 _ _ Z Z Z Z Z fun V Q U O D u X Y J L M=>by exact zAD (L _ _ Z Z Z Z).symm X Y)<|rz
 intro done ρ σ A R w y s
 obtain ⟨u10,e_u10⟩:∃ u,ρ 3=u:=⟨_,Z⟩
 have h2:=s.ov y 3 2 e_u10
 obtain ⟨B,j,d⟩:=s.s B C j q ⟨Z,N⟩
 replace q:=s.left y [(3,ob u10 (.vec w0.heap.size 9 eStr x8))] ⟨Z,Z,e_u10,Z,Z,N⟩
 refine HT.ret ?_
 obtain rfl:=si c
 exact ⟨.inr Z,[R 2],⟨Z,N⟩,(zC7 (q.ok 0 _ Z) B h2),j⟩
def zDF (fu:Nat) (p0:List UInt8):Option (List (List UInt8)):=
 cl true (zDi fu p0) fun x1=>
 cl true (zEw fu x1) fun x3=>
 cl true (zBB fu x3) fun x5=>
 some x5
theorem zIA {fu : Nat} {A0 : Av} {p0 : List UInt8} {r : List (List UInt8)} (c : zDF fu p0 = some r) {w : World} {v0 : Value} (d : AvOK A0 w) (hG : GTab w) (h0 : Rep eStr A0 w v0 p0) :
 Calls prog 72 #[v0] w fun e w'=>∃ v,e=.returned v/\((Res.vec w.heap.size 9 eStr r).ok (addA A0 v) v w'/\Fr w w'):=by
 unfold zDF at c
 obtain ⟨w0,hw0,j,C⟩:=pw d
 have hA00:AvOK A0 w0:=C
 rw [fh hw0]
 rw [fw hw0]
 have hG0:GTab w0:=hw0 ▸ hG
 obtain ⟨A,hAe,B,d,q⟩:=pa d
 refine zA9 [.tmp 2] func72 ntmps72 (by decide) Z Z (nb Z) ?_
 intro R hR
 have f_v0:Rep eStr A w v0 p0:=hAe ▸ h0
 replace h0:R 0=v0:=hR 0 _ Z
 refine zQU d j (eA::[]) ?_ ?_
 exact op (fun Q U W H D=>zA2 N)<|oz
 intro R w m n p d j
 replace h0:=k1 n h0
 replace f_v0:=f_v0.fr m
 replace q:=q.fr m
 obtain ⟨x1,q2,c⟩:=zA6 c
 obtain ⟨x3,q4,c⟩:=zA6 c
 obtain ⟨x5,q6,c⟩:=zA6 c
 refine zQV [] (rR v0::(rF fun A=>.rep eStr A x1)::(rF fun A=>.rep (eSl eStr) A x3)::⟨_,true,[],some (.vec w0.heap.size 9 eStr x5),true,fun A=>.any⟩::⟨_,true,[3],some (.vec w0.heap.size 9 eStr x5),true,fun A=>.any⟩::[]) (ur (up (up (ua (ua (UAll.nil)))))) q d ?_ ?_
 exact rm h0<|rp (fun V Q U O D=>zAI call104 (zHG (q2 Z) O.av (hG0.fr (j.tr O.ch (q.ge (N)))) ((f_v0.stp O.stp).eq (D.g 0 Z))))<|rp (fun V Q U O D=>zAI call103 (zIe (q4 Z) O.av (D.g 0 Z)))<|rc (OblR.made _ Z Z Z Z fun V Q U O D=>by have a0:Rep (eSl eStr) V U (Q 5) x3:=D.g 0 Z;exact zGY call42 (zBq (q6 Z) O.av a0) (Nat.le_trans j.size O.ch.size))<|rc (OblR.took 3 _ _ Z Z Z Z Z fun V Q U O D u X Y J L M=>by exact zAD (L _ _ Z Z Z Z).symm X Y)<|rz
 intro done ρ σ A R w y s
 obtain ⟨u7,e_u7⟩:∃ u,ρ 4=u:=⟨_,Z⟩
 have h2:=s.ov y 4 4 e_u7
 obtain ⟨B,j,d⟩:=s.s B C j q N
 replace q:=s.left y [(4,ob u7 (.vec w0.heap.size 9 eStr x5))] ⟨Z,Z,e_u7,Z,Z,N⟩
 refine HT.ret ?_
 obtain rfl:=si c
 exact ⟨.inr Z,[R 2],⟨Z,N⟩,(zC7 (q.ok 0 _ Z) B h2),j⟩
theorem zEo {fu : Nat} {A0 : Av} {p0 : List UInt8} {r : List (List UInt8)} (c : zDF fu p0 = some r) {w : World} {v0 : Value} (d : AvOK A0 w) (hG : GTab w) (h0 : Rep eStr A0 w v0 p0) :
 Calls prog 72 #[v0] w fun e w'=>∃ v,e=.returned v/\(Rep (eSl eStr) A0 w' v r/\Fr w w'):=by
 refine Calls.mono (zIA c d hG h0) ?_
 rintro e w' ⟨v,he,hv,hf⟩
 exact ⟨v,he,zCB hv (fun b o h=>.inl h) d,hf⟩
def zCl (fu:Nat) (p0:Int):Option Int:=
 bd ((decide (65<=p0))&&(decide (p0<=90))) fun x1=>
 bif x1 then (
 cl true (zDJ fu (IntKind.u8.wrap (p0+32))) fun x4=>
 bif (!x4) then (
 some (-2)
 ) else (
 ck (inR (IntKind.u8.wrap ((IntKind.u8.wrap (p0+32))-97)) sndL.length) <|
 some (gtD sndL (IntKind.u8.wrap ((IntKind.u8.wrap (p0+32))-97)))
 )
 ) else (
 cl true (zDJ fu p0) fun x8=>
 bif (!x8) then (
 some (-2)
 ) else (
 ck (inR (IntKind.u8.wrap (p0-97)) sndL.length) <|
 some (gtD sndL (IntKind.u8.wrap (p0-97)))
 )
 )
theorem zFR {fu : Nat} {A : Av} {p0 : Int} {r : Int} (c : zCl fu p0 = some r) {w : World} {v0 : Value} (d : AvOK A w) (hG : GTab w) (h0 : v0=.int .u8 p0) :
 Calls prog 131 #[v0] w fun e w'=>∃ v,e=.returned v/\(v=.int .i64 r/\Fr w w'):=by
 unfold zCl at c
 obtain ⟨w0,hw0,j⟩:=pf w
 rw [fw hw0]
 have hG0:GTab w0:=hw0 ▸ hG
 refine zA9 [.tmp 2] func131 ntmps131 (by decide) Z Z (nb Z) ?_
 intro R hR
 replace h0:R 0=.int .u8 p0:=(hR 0 _ Z).trans h0
 refine zQU d j (eI 0::[]) ?_ ?_
 exact op (fun Q U W H D=>zA2 Z)<|oz
 intro R w m n p d j
 replace h0:=k1 n h0
 refine zQT<|zQT ?_
 obtain ⟨x1,q2,c⟩:=zAU c
 refine HT.u d j (eU p0::eB (decide (65<=p0))::eB (decide (65<=p0))::gU (true&&((decide (65<=p0))==true)) p0::gB (true&&((decide (65<=p0))==true)) (decide (p0<=90))::eB x1::[]) ?_ ?_
 exact om h0<|op (fun Q U W H D=>zE8 (D.g 0 Z) Z)<|ov<|gm 2 true h0<|og 2 true (fun G Q U W H D=>zEZ (D.h 0 G Z) Z)<|op (fun Q U W H D=>zAX (decide (65<=p0)) (D.g 0 Z) (fun hc=>by have a1:Q 7=.bool (decide (p0<=90)):=D 1 _ _ _ Z Z Z Z (zC2 Z (zB2 hc));show _=Value.bool x1;rw [q2,hc];exact a1) (fun hc=>by show _=Value.bool x1;rw [q2,hc];exact Z))<|oz
 intro R w m n p d j
 replace h0:=k1 n h0
 have h8:=p.r 5 Z
 refine zQM x1 h8 (fun c3=>?_) (fun c3=>?_)
 have c:=zAN c3 c
 refine HT.u d j (eU p0::eU (IntKind.u8.wrap (p0+32))::eU (IntKind.u8.wrap (p0+32))::[]) ?_ ?_
 exact om h0<|op (fun Q U W H D=>zGf (D.g 0 Z) Z)<|oa<|oz
 intro R w m n p d j
 have h0:=p.r 2 Z
 refine zQT ?_
 obtain ⟨x4,q5,c⟩:=zA6 c
 refine zQU d j (eU (IntKind.u8.wrap (p0+32))::eB x4::eB (!x4)::[]) ?_ ?_
 exact om h0<|op (fun Q U W H D=>zAI call158 (zEr (q5 Z) (d.fr W.size) (D.g 0 Z)))<|op (fun Q U W H D=>zDU (D.g 0 Z))<|oz
 intro R w m n p d j
 replace h0:=k1 n h0
 have h13:=p.r 2 Z
 refine zQM (!x4) h13 (fun c6=>?_) (fun c6=>?_)
 have c:=zAN c6 c
 refine zQU d j (eI (-2)::[]) ?_ ?_
 exact op (fun Q U W H D=>zA2 Z)<|oz
 intro R w m n p d j
 have h2:=p.r 0 Z
 refine HT.ret ?_
 obtain rfl:=si c
 exact ⟨.inr Z,[R 2],⟨Z,N⟩,h2,j⟩
 have c:=zAM c6 c
 refine HT.skip ?_
 obtain ⟨e7,c⟩:=zA7 c
 refine zQU d j (eU (IntKind.u8.wrap (p0+32))::eU (IntKind.u8.wrap ((IntKind.u8.wrap (p0+32))-97))::eR (.pointer (some ⟨0,(IntKind.u8.wrap ((IntKind.u8.wrap (p0+32))-97)).toNat,none⟩))::eI (gtD sndL (IntKind.u8.wrap ((IntKind.u8.wrap (p0+32))-97)))::eI (gtD sndL (IntKind.u8.wrap ((IntKind.u8.wrap (p0+32))-97)))::[]) ?_ ?_
 exact om h0<|op (fun Q U W H D=>zJU (D.g 0 Z) Z)<|op (fun Q U W H D=>zGx (D.g 0 Z) underlying144 sizeOf3 e7)<|op (fun Q U W H D=>OpF.int (zAT ((hG0.fr (j.trans W)).sndAt e7 ((D.g 0 Z))) isAgg3 sizeOf3))<|oa<|oz
 intro R w m n p d j
 have h2:=p.r 4 Z
 refine HT.ret ?_
 obtain rfl:=si c
 exact ⟨.inr Z,[R 2],⟨Z,N⟩,h2,j⟩
 have c:=zAM c3 c
 refine HT.skip<|zQT ?_
 obtain ⟨x8,q9,c⟩:=zA6 c
 refine zQU d j (eU p0::eB x8::eB (!x8)::[]) ?_ ?_
 exact om h0<|op (fun Q U W H D=>zAI call158 (zEr (q9 Z) (d.fr W.size) (D.g 0 Z)))<|op (fun Q U W H D=>zDU (D.g 0 Z))<|oz
 intro R w m n p d j
 replace h0:=k1 n h0
 have h13:=p.r 2 Z
 refine zQM (!x8) h13 (fun c10=>?_) (fun c10=>?_)
 have c:=zAN c10 c
 refine zQU d j (eI (-2)::[]) ?_ ?_
 exact op (fun Q U W H D=>zA2 Z)<|oz
 intro R w m n p d j
 have h2:=p.r 0 Z
 refine HT.ret ?_
 obtain rfl:=si c
 exact ⟨.inr Z,[R 2],⟨Z,N⟩,h2,j⟩
 have c:=zAM c10 c
 refine HT.skip ?_
 obtain ⟨e11,c⟩:=zA7 c
 refine zQU d j (eU p0::eU (IntKind.u8.wrap (p0-97))::eR (.pointer (some ⟨0,(IntKind.u8.wrap (p0-97)).toNat,none⟩))::eI (gtD sndL (IntKind.u8.wrap (p0-97)))::eI (gtD sndL (IntKind.u8.wrap (p0-97)))::[]) ?_ ?_
 exact om h0<|op (fun Q U W H D=>zJU (D.g 0 Z) Z)<|op (fun Q U W H D=>zGx (D.g 0 Z) underlying144 sizeOf3 e11)<|op (fun Q U W H D=>OpF.int (zAT ((hG0.fr (j.trans W)).sndAt e11 ((D.g 0 Z))) isAgg3 sizeOf3))<|oa<|oz
 intro R w m n p d j
 have h2:=p.r 4 Z
 refine HT.ret ?_
 obtain rfl:=si c
 exact ⟨.inr Z,[R 2],⟨Z,N⟩,h2,j⟩
def zBc (fu : Nat) (p0 : List UInt8) : Nat -> Int -> Int -> (List Int) -> Option (Ex (List UInt8) (List Int))
 | 0,_,_,_=>none
 | k+1,y14,y15,y16=>
 bif (decide (y15<(p0.length:Int))) then (
 ck (inR y15 p0.length) <|
 cl true (zCl fu (bAt p0 y15)) fun x19=>
 bif (x19==(-2)) then (
 some (Ex.ret ([]:List UInt8))
 ) else (
 bd ((y15==0) || (decide (x19<0))) fun x23=>
 bif x23 then (
 ck (i64B (y15+1)) <|
 zBc fu p0 k y14 (y15+1) y16
 ) else (
 bd ((decide (0<x19))&&(x19 != y14)) fun x27=>
 bif x27 then (
 ck (i64B (48+x19)) <|
 ck (zBJ (y16.length+([(IntKind.u8.wrap (48+x19))]:List Int).length)) <|
 ck (i64B (y15+1)) <|
 zBc fu p0 k x19 (y15+1) (y16++([(IntKind.u8.wrap (48+x19))]:List Int))
 ) else (
 ck (i64B (y15+1)) <|
 zBc fu p0 k x19 (y15+1) y16
 )
 )
 )
 ) else (
 some (Ex.go y16)
 )
def zEA (fu:Nat) (p0:List UInt8):Option (List UInt8):=
 bif (p0==([]:List UInt8)) then (
 some ([]:List UInt8)
 ) else (
 ck (subR 0 1 p0.length) <|
 cl true (zDX fu (subL p0 0 1)) fun x4=>
 ck (zBJ x4.length) <|
 ck (inR 0 p0.length) <|
 cl true (zCl fu (bAt p0 0)) fun x9=>
 cl true (zBc fu p0 fu x9 0 (bytL x4)) fun rl11=>
 exM rl11 (fun r=>some r) fun s13=>
 ck (zBJ ((strB s13)++([48,48,48]:List UInt8)).length) <|
 ck (subR 0 4 ((strB s13)++([48,48,48]:List UInt8)).length) <|
 some (subL ((strB s13)++([48,48,48]:List UInt8)) 0 4)
 )
theorem zHp {fu : Nat} {A0 : Av} {p0 : List UInt8} {r : List UInt8} (c : zEA fu p0 = some r) {w : World} {v0 : Value} (d : AvOK A0 w) (hG : GTab w) (h0 : Rep eStr A0 w v0 p0) :
 Calls prog 100 #[v0] w fun e w'=>∃ v,e=.returned v/\(Rep eStr A0 w' v r/\Fr w w'):=by
 unfold zEA at c
 obtain ⟨w0,hw0,j,C⟩:=pw d
 have hA00:AvOK A0 w0:=C
 rw [fw hw0]
 have hG0:GTab w0:=hw0 ▸ hG
 obtain ⟨A,hAe,B,d,q⟩:=pa d
 refine zA9 [.tmp 2] func100 ntmps100 (by decide) Z Z (nb Z) ?_
 intro R hR
 have f_v0:Rep eStr A w v0 p0:=hAe ▸ h0
 replace h0:R 0=v0:=hR 0 _ Z
 refine zQU d j (eF (.rep eStr A ([]:List UInt8))::[]) ?_ ?_
 exact op (fun Q U W H D=>zA2 ⟨_,Z,⟨_,Z,Z,by decide⟩⟩)<|oz
 intro R w m n p d j
 replace h0:=k1 n h0
 replace f_v0:=f_v0.fr m
 replace q:=q.fr m
 refine zQT<|zQU d j (eR v0::eB (p0==([]:List UInt8))::[]) ?_ ?_
 exact om h0<|op (fun Q U W H D=>zBv ((f_v0.fr W).eq (D.g 0 Z)) ⟨_,Z,⟨_,Z,Z,by decide⟩⟩)<|oz
 intro R w m n p d j
 replace h0:=k1 n h0
 have h8:=p.r 1 Z
 replace f_v0:=f_v0.fr m
 replace q:=q.fr m
 refine zQM (p0==([]:List UInt8)) h8 (fun c1=>?_) (fun c1=>?_)
 have c:=zAN c1 c
 refine zQU d j (eF (.rep eStr A ([]:List UInt8))::[]) ?_ ?_
 exact op (fun Q U W H D=>zA2 ⟨_,Z,⟨_,Z,Z,by decide⟩⟩)<|oz
 intro R w m n p d j
 obtain ⟨u2,h2,f_u2⟩:∃ u,R 2=u/\Rep eStr A w u ([]:List UInt8):=⟨_,Z,p 0 _ _ Z Z Z⟩
 replace q:=q.fr m
 refine HT.ret ?_
 obtain rfl:=si c
 exact ⟨.inr Z,[R 2],⟨Z,N⟩,(f_u2.eq h2).down B,j⟩
 have c:=zAM c1 c
 refine HT.skip ?_
 obtain ⟨e3,c⟩:=zA7 c
 obtain ⟨x4,q5,c⟩:=zA6 c
 obtain ⟨e6,c⟩:=zA7 c
 refine zQV [] (rR v0::(rF fun A=>.rep eStr A (subL p0 0 1))::(rF fun A=>.rep eStr A x4)::⟨_,true,[],some (.vec w0.heap.size 5 (eInt .u8) (bytL x4)),true,fun A=>.any⟩::⟨_,true,[3],some (.vec w0.heap.size 5 (eInt .u8) (bytL x4)),true,fun A=>.any⟩::[]) (ur (up (up (ua (ua (UAll.nil)))))) q d ?_ ?_
 exact rm h0<|rp (fun V Q U O D=>zCZ ((f_v0.stp O.stp).eq (D.g 0 Z)) Z underlying9  e3)<|rp (fun V Q U O D=>zAI call130 (zFY (q5 Z) O.av (D.g 0 Z)))<|rc (OblR.made _ Z Z Z Z fun V Q U O D=>by have a0:Rep eStr V U (Q 11) x4:=D.g 0 Z;exact zJA a0 underlying9 underlying43 underlying5 Z e6 (Nat.le_trans j.size O.ch.size))<|rc (OblR.took 3 _ _ Z Z Z Z Z fun V Q U O D u X Y J L M=>by exact zAD (L _ _ Z Z Z Z).symm X Y)<|rz
 intro done ρ σ A R w y s
 replace h0:=k1 s.rg h0
 obtain ⟨u7,e_u7⟩:∃ u,ρ 4=u:=⟨_,Z⟩
 have h3:=s.ov y 4 4 e_u7
 replace f_v0:=f_v0.stp s.stp
 obtain ⟨B,j,d⟩:=s.s B C j q N
 replace q:=s.left y [(4,ob u7 (.vec w0.heap.size 5 (eInt .u8) (bytL x4)))] ⟨Z,Z,e_u7,Z,Z,N⟩
 obtain ⟨e8,c⟩:=zA7 c
 obtain ⟨x9,q10,c⟩:=zA6 c
 refine zQU d j (eR v0::eU (bAt p0 0)::eI x9::eI x9::[]) ?_ ?_
 exact om h0<|op (fun Q U W H D=>zAf ((f_v0.fr W).eq (D.g 0 Z)) Z underlying9 e8)<|op (fun Q U W H D=>zAI call131 (zFR (q10 Z) (d.fr W.size) (hG0.fr (j.trans W)) (D.g 0 Z)))<|oa<|oz
 intro R w m n p d j
 obtain ⟨h0,h3⟩:=k2 n h0 h3
 have h4:=p.r 3 Z
 replace f_v0:=f_v0.fr m
 replace q:=q.fr m
 refine zQT<|zQU d j (eR v0::eI (p0.length:Int)::eI 0::[]) ?_ ?_
 exact om h0<|op (fun Q U W H D=>zB0 ((f_v0.fr W).eq (D.g 0 Z)) underlying9)<|op (fun Q U W H D=>zBj Z)<|oz
 intro R w m n p d j
 obtain ⟨h0,h3,h4⟩:=k3 n h0 h3 h4
 have h17:=p.r 1 Z
 have h18:=p.r 2 Z
 replace f_v0:=f_v0.fr m
 replace q:=q.fr m
 obtain ⟨rl11,q12,c⟩:=zA6 c
 replace q12:=q12 Z
 refine zQO (fun R w=>∃ A:Av,∃ (s13:(List Int)) (uo_u7:Value),rl11=Ex.go s13/\AvOK A w/\Fr w0 w/\(∀ b o,A0 b o->A b o)/\IniOK [ob uo_u7 (.vec w0.heap.size 5 (eInt .u8) s13)] A w/\R 3=uo_u7) ?_ ?_
 refine HT.block<|zQS (fun k R w=>∃ A:Av,∃ (y14:Int) (y15:Int) (y16:List Int) (ul_u7:Value),zBc fu p0 k y14 y15 y16=some rl11/\AvOK A w/\Fr w0 w/\(∀ b o,A0 b o->A b o)/\IniOK [ob ul_u7 (.vec w0.heap.size 5 (eInt .u8) y16)] A w/\R 0=v0/\R 3=ul_u7/\R 4=.int .i64 y14/\R 17=.int .i64 (p0.length:Int)/\R 18=.int .i64 y15/\Rep eStr A w v0 p0) fu ⟨_,_,_,_,u7,q12,d,j,B,q,h0,h3,h4,h17,h18,f_v0⟩ ?_
 have hr0:=c;clear c q12
 rintro k R w ⟨A,y14,y15,y16,ul_u7,c,d,j,B,q,h0,h3,h4,h17,h18,f_v0⟩
 rcases k with _ | k
 cases (show none=some _ from c)
 rw [zBc] at c
 refine zQU d j (eB (decide (y15<(p0.length:Int)))::[]) ?_ ?_
 exact op (fun Q U W H D=>zAk ((H 18 Z).trans h18) ((H 17 Z).trans h17))<|oz
 intro R w m n p d j
 obtain ⟨h0,h3,h4,h17,h18⟩:=k5 n h0 h3 h4 h17 h18
 have h19:=p.r 0 Z
 replace f_v0:=f_v0.fr m
 replace q:=q.fr m
 refine zQT<|zQM (decide (y15<(p0.length:Int))) h19 (fun c17=>?_) (fun c17=>?_)
 have c:=zAN c17 c
 refine HT.skip<|zQT<|HT.block<|zQU d j (eI y15::eI y15::[]) ?_ ?_
 exact om h18<|oa<|oz
 intro R w m n p d j
 obtain ⟨h0,h3,h4,h17,h18⟩:=k5 n h0 h3 h4 h17 h18
 have h5:=p.r 1 Z
 replace f_v0:=f_v0.fr m
 replace q:=q.fr m
 obtain ⟨e18,c⟩:=zA7 c
 obtain ⟨x19,q20,c⟩:=zA6 c
 refine zQU d j (eR v0::eI y15::eU (bAt p0 y15)::eI x19::eI x19::[]) ?_ ?_
 exact om h0<|om h5<|op (fun Q U W H D=>zAf ((f_v0.fr W).eq (D.g 0 Z)) (D.g 1 Z) underlying9 e18)<|op (fun Q U W H D=>zAI call131 (zFR (q20 Z) (d.fr W.size) (hG0.fr (j.trans W)) (D.g 0 Z)))<|oa<|oz
 intro R w m n p d j
 obtain ⟨h0,h3,h4,h5,h17,h18⟩:=k6 n h0 h3 h4 h5 h17 h18
 have h6:=p.r 4 Z
 replace f_v0:=f_v0.fr m
 replace q:=q.fr m
 refine zQT<|zQU d j (eI x19::eB (x19==(-2))::[]) ?_ ?_
 exact om h6<|op (fun Q U W H D=>zDM (D.g 0 Z) Z)<|oz
 intro R w m n p d j
 obtain ⟨h0,h3,h4,h5,h6,h17⟩:=k6 n h0 h3 h4 h5 h6 h17
 replace h18:=k1 n h18
 have h26:=p.r 1 Z
 replace f_v0:=f_v0.fr m
 replace q:=q.fr m
 refine zQM (x19==(-2)) h26 (fun c21=>?_) (fun c21=>?_)
 have c:=zAN c21 c
 refine zQU d j (eF (.rep eStr A ([]:List UInt8))::[]) ?_ ?_
 exact op (fun Q U W H D=>zA2 ⟨_,Z,⟨_,Z,Z,by decide⟩⟩)<|oz
 intro R w m n p d j
 obtain ⟨u22,h2,f_u22⟩:∃ u,R 2=u/\Rep eStr A w u ([]:List UInt8):=⟨_,Z,p 0 _ _ Z Z Z⟩
 replace q:=q.fr m
 replace q:IniOK [] A w:=q.sub [] N
 refine HT.ret ?_
 obtain rfl:=si c
 have c:=hr0
 replace c:some _=some _:=c
 obtain rfl:=si c
 exact ⟨.inr Z,[R 2],⟨Z,N⟩,(f_u22.eq h2).down B,j⟩
 have c:=zAM c21 c
 refine HT.skip<|zQT<|zQT ?_
 obtain ⟨x23,q24,c⟩:=zAU c
 refine HT.u d j (eI y15::eB (y15==0)::eB (y15==0)::gI (true&&((y15==0)==false)) x19::gB (true&&((y15==0)==false)) (decide (x19<0))::eB x23::[]) ?_ ?_
 exact om h5<|op (fun Q U W H D=>zDM (D.g 0 Z) Z)<|ov<|gm 2 false h6<|og 2 false (fun G Q U W H D=>zAk (D.h 0 G Z) Z)<|op (fun Q U W H D=>zAX (y15==0) (D.g 0 Z) (fun hc=>by show _=Value.bool x23;rw [q24,hc];exact Z) (fun hc=>by have a2:Q 31=.bool (decide (x19<0)):=D 1 _ _ _ Z Z Z Z (zC2 Z (zB2 hc));show _=Value.bool x23;rw [q24,hc];exact a2))<|oz
 intro R w m n p d j
 obtain ⟨h0,h3,h4,h6,h17,h18⟩:=k6 n h0 h3 h4 h6 h17 h18
 have h32:=p.r 5 Z
 replace f_v0:=f_v0.fr m
 replace q:=q.fr m
 refine zQM x23 h32 (fun c25=>?_) (fun c25=>?_)
 have c:=zAN c25 c
 refine zQR ?_
 obtain ⟨e26,c⟩:=zA7 c
 refine HT.u d j (eI (y15+1)::eI (y15+1)::[]) ?_ ?_
 exact op (fun Q U W H D=>zAS ((H 18 Z).trans h18) Z e26)<|ov<|oz
 intro R w m n p d j
 obtain ⟨h0,h3,h4,h17⟩:=k4 n h0 h3 h4 h17
 have h18:=p.r 1 Z
 replace f_v0:=f_v0.fr m
 replace q:=q.fr m
 exact ei k (And.intro (Nat.lt_succ_self k) ⟨_,_,_,_,ul_u7,c,d,j,B,q,h0,h3,h4,h17,h18,f_v0⟩)
 have c:=zAM c25 c
 refine HT.skip<|zQT<|zQT ?_
 obtain ⟨x27,q28,c⟩:=zAU c
 refine HT.u d j (eI x19::eB (decide (0<x19))::eB (decide (0<x19))::gI (true&&((decide (0<x19))==true)) x19::gI (true&&((decide (0<x19))==true)) y14::gB (true&&((decide (0<x19))==true)) (x19 != y14)::eB x27::[]) ?_ ?_
 exact om h6<|op (fun Q U W H D=>zDg (D.g 0 Z) Z)<|ov<|gm 2 true h6<|gm 2 true h4<|og 2 true (fun G Q U W H D=>zH1 (D.h 0 G Z) (D.h 1 G Z))<|op (fun Q U W H D=>zAX (decide (0<x19)) (D.g 0 Z) (fun hc=>by have a1:Q 38=.bool (x19 != y14):=D 1 _ _ _ Z Z Z Z (zC2 Z (zB2 hc));show _=Value.bool x27;rw [q28,hc];exact a1) (fun hc=>by show _=Value.bool x27;rw [q28,hc];exact Z))<|oz
 intro R w m n p d j
 obtain ⟨h0,h3,h6,h17,h18⟩:=k5 n h0 h3 h6 h17 h18
 have h39:=p.r 6 Z
 replace f_v0:=f_v0.fr m
 replace q:=q.fr m
 refine zQM x27 h39 (fun c29=>?_) (fun c29=>?_)
 have c:=zAN c29 c
 obtain ⟨e30,e31,c⟩:=ck2 c
 refine zQY [ob ul_u7 (.vec w0.heap.size 5 (eInt .u8) y16)] (rR ul_u7::rI x19::rI (48+x19)::rU (IntKind.u8.wrap (48+x19))::(rF fun A=>.rep (eSl (eInt .u8)) A ([(IntKind.u8.wrap (48+x19))]:List Int))::⟨_,true,[0],some (.vec w0.heap.size 5 (eInt .u8) (y16++([(IntKind.u8.wrap (48+x19))]:List Int))),true,fun A=>.any⟩::⟨_,true,[6],some (.vec w0.heap.size 5 (eInt .u8) (y16++([(IntKind.u8.wrap (48+x19))]:List Int))),true,fun A=>.any⟩::[]) (ur (ur (ur (ur (up (ua (ua (UAll.nil)))))))) q d ?_ ?_
 exact rm h3<|rm h6<|rp (fun V Q U O D=>zAS Z (D.g 0 Z) e30)<|rp (fun V Q U O D=>zDr (D.g 0 Z) underlying3 underlying5)<|rp (fun V Q U O D=>zAe [_] (E:=eInt .u8) ⟨(zBT.eq (D.g 0 Z)),N⟩ underlying43 sizeOf5 zeroValue5 Z Z Z O.av)<|rc (OblR.took 0 _ _ Z Z Z Z Z fun V Q U O D u X Y J L M=>by have a0:Q 40=ul_u7:=D.g 0 Z;have a1:Rep (eSl (eInt .u8)) V U (Q 44) ([(IntKind.u8.wrap (48+x19))]:List Int):=D.g 1 Z;exact zAW (a0.trans (J _ Z).symm) X Y (Nat.le_trans j.size O.ch.size) a1 underlying43 el_5 e31)<|rc (OblR.took 6 _ _ Z Z Z Z Z fun V Q U O D u X Y J L M=>by exact zAD (L _ _ Z Z Z Z).symm X Y)<|rz
 intro done ρ σ A R w y s
 obtain ⟨h0,h6,h17,h18⟩:=k4 s.rg h0 h6 h17 h18
 obtain ⟨u32,e_u32⟩:∃ u,ρ 7=u:=⟨_,Z⟩
 have h3:=s.ov y 7 6 e_u32
 replace f_v0:=f_v0.stp s.stp
 obtain ⟨B,j,d⟩:=s.s B C j q ⟨Z,N⟩
 replace q:=s.left y [(7,ob u32 (.vec w0.heap.size 5 (eInt .u8) (y16++([(IntKind.u8.wrap (48+x19))]:List Int))))] ⟨Z,Z,e_u32,Z,Z,N⟩
 refine HT.u d j (eI x19::eI x19::[]) ?_ ?_
 exact om h6<|oa<|oz
 intro R w m n p d j
 obtain ⟨h0,h3,h17,h18⟩:=k4 n h0 h3 h17 h18
 have h4:=p.r 1 Z
 replace f_v0:=f_v0.fr m
 replace q:=q.fr m
 obtain ⟨e33,c⟩:=zA7 c
 refine HT.u d j (eI (y15+1)::eI (y15+1)::[]) ?_ ?_
 exact op (fun Q U W H D=>zAS ((H 18 Z).trans h18) Z e33)<|ov<|oz
 intro R w m n p d j
 obtain ⟨h0,h3,h4,h17⟩:=k4 n h0 h3 h4 h17
 have h18:=p.r 1 Z
 replace f_v0:=f_v0.fr m
 replace q:=q.fr m
 exact ei k (And.intro (Nat.lt_succ_self k) ⟨_,_,_,_,u32,c,d,j,B,q,h0,h3,h4,h17,h18,f_v0⟩)
 have c:=zAM c29 c
 refine HT.skip<|HT.u d j (eI x19::eI x19::[]) ?_ ?_
 exact om h6<|oa<|oz
 intro R w m n p d j
 obtain ⟨h0,h3,h17,h18⟩:=k4 n h0 h3 h17 h18
 have h4:=p.r 1 Z
 replace f_v0:=f_v0.fr m
 replace q:=q.fr m
 obtain ⟨e34,c⟩:=zA7 c
 refine HT.u d j (eI (y15+1)::eI (y15+1)::[]) ?_ ?_
 exact op (fun Q U W H D=>zAS ((H 18 Z).trans h18) Z e34)<|ov<|oz
 intro R w m n p d j
 obtain ⟨h0,h3,h4,h17⟩:=k4 n h0 h3 h4 h17
 have h18:=p.r 1 Z
 replace f_v0:=f_v0.fr m
 replace q:=q.fr m
 exact ei k (And.intro (Nat.lt_succ_self k) ⟨_,_,_,_,ul_u7,c,d,j,B,q,h0,h3,h4,h17,h18,f_v0⟩)
 have c:=zAM c17 c
 refine zQR ?_
 obtain rfl:=si c
 exact ei _ ⟨_,ul_u7,Z,d,j,B,q,h3⟩
 rintro R w ⟨A,s13,uo_u7,rfl,d,j,B,q,h3⟩
 have c:=zF3 c
 obtain ⟨e35,e36,c⟩:=ck2 c
 refine zQU d j (eR uo_u7::eF (.rep eStr A (strB s13))::eF (.rep eStr A ((strB s13)++([48,48,48]:List UInt8)))::eF (.rep eStr A (subL ((strB s13)++([48,48,48]:List UInt8)) 0 4))::eF (.rep eStr A (subL ((strB s13)++([48,48,48]:List UInt8)) 0 4))::[]) ?_ ?_
 exact om h3<|op (fun Q U W H D=>zC4 ((zCB ((q.fr W).ok 0 _ Z).1 B C).eq (D.g 0 Z)) underlying43 underlying5 underlying9)<|op (fun Q U W H D=>zDm (D.g 0 Z) ⟨_,Z,⟨_,Z,Z,by decide⟩⟩ e35)<|op (fun Q U W H D=>zCZ (D.g 0 Z) Z underlying9  e36)<|op (fun Q U W H D=>zA2 (D.g 0 Z))<|oz
 intro R w m n p d j
 obtain ⟨u37,h2,f_u37⟩:∃ u,R 2=u/\Rep eStr A w u (subL ((strB s13)++([48,48,48]:List UInt8)) 0 4):=⟨_,Z,p 4 _ _ Z Z Z⟩
 replace q:=q.fr m
 replace q:IniOK [] A w:=q.sub [] N
 refine HT.ret ?_
 obtain rfl:=si c
 exact ⟨.inr Z,[R 2],⟨Z,N⟩,(f_u37.eq h2).down B,j⟩
def zBl (fu : Nat) (x2 : List (List UInt8)) : Nat -> Int -> (List (List UInt8)) -> Option (List (List UInt8))
 | 0,_,_=>none
 | k+1,y8,y9=>
 bif (decide (y8<(x2.length:Int))) then (
 ck (inR y8 x2.length) <|
 cl true (zEA fu (gtD x2 y8)) fun x13=>
 bif (!(x13==([]:List UInt8))) then (
 ck (zBJ (y9.length+([x13]:List (List UInt8)).length)) <|
 ck (i64B (y8+1)) <|
 zBl fu x2 k (y8+1) (y9++([x13]:List (List UInt8)))
 ) else (
 ck (i64B (y8+1)) <|
 zBl fu x2 k (y8+1) y9
 )
 ) else (
 some y9
 )
def zDB (fu:Nat) (p0:List UInt8):Option (List (List UInt8)):=
 cl true (zDF fu p0) fun x2=>
 cl true (zBl fu x2 fu 0 ([]:List (List UInt8))) fun s7=>
 cl true (zBB fu s7) fun x21=>
 some x21
theorem zHH {fu : Nat} {A0 : Av} {p0 : List UInt8} {r : List (List UInt8)} (c : zDB fu p0 = some r) {w : World} {v0 : Value} (d : AvOK A0 w) (hG : GTab w) (h0 : Rep eStr A0 w v0 p0) :
 Calls prog 69 #[v0] w fun e w'=>∃ v,e=.returned v/\((Res.vec w.heap.size 9 eStr r).ok (addA A0 v) v w'/\Fr w w'):=by
 unfold zDB at c
 obtain ⟨w0,hw0,j,C⟩:=pw d
 have hA00:AvOK A0 w0:=C
 rw [fh hw0]
 rw [fw hw0]
 have hG0:GTab w0:=hw0 ▸ hG
 obtain ⟨A,hAe,B,d,q⟩:=pa d
 refine zA9 [.tmp 2] func69 ntmps69 (by decide) Z Z (nb Z) ?_
 intro R hR
 have f_v0:Rep eStr A w v0 p0:=hAe ▸ h0
 replace h0:R 0=v0:=hR 0 _ Z
 refine zQU d j (eA::[]) ?_ ?_
 exact op (fun Q U W H D=>zA2 N)<|oz
 intro R w m n p d j
 replace h0:=k1 n h0
 replace f_v0:=f_v0.fr m
 replace q:=q.fr m
 refine zQU d j (eR (.slice none 0 0)::[]) ?_ ?_
 exact op (fun Q U W H D=>zA2 Z)<|oz
 intro R w m n p d j
 replace h0:=k1 n h0
 obtain ⟨u1,n_u1⟩:∃ u,u=Value.slice none 0 0:=⟨_,Z⟩
 have h3:R 3=u1:=(p 0 _ _ Z Z Z).trans n_u1.symm
 replace f_v0:=f_v0.fr m
 replace q:=q.fr m
 replace q:=q.nilcons (u:=u1) n_u1 w0.heap.size 9 eStr
 refine zQT ?_
 obtain ⟨x2,q3,c⟩:=zA6 c
 refine zQU d j (eR v0::eF (.rep (eSl eStr) A x2)::eI (x2.length:Int)::eI 0::[]) ?_ ?_
 exact om h0<|op (fun Q U W H D=>zAI call72 (zEo (q3 Z) (d.fr W.size) (hG0.fr (j.trans W)) ((f_v0.fr W).eq (D.g 0 Z))))<|op (fun Q U W H D=>zAK (aT:=#[]) (D.g 0 Z) underlying34)<|op (fun Q U W H D=>zBj Z)<|oz
 intro R w m n p d j
 replace h3:=k1 n h3
 obtain ⟨u4,h8,f_u4⟩:∃ u,R 8=u/\Rep (eSl eStr) A w u x2:=⟨_,Z,p 1 _ _ Z Z Z⟩
 have h9:=p.r 2 Z
 have h10:=p.r 3 Z
 replace q:=q.fr m
 obtain ⟨rl5,q6,c⟩:=zA6 c
 replace q6:=q6 Z
 refine zQO (fun R w=>∃ A:Av,∃ (s7:(List (List UInt8))) (uo_u1:Value),rl5=s7/\AvOK A w/\Fr w0 w/\(∀ b o,A0 b o->A b o)/\IniOK [ob uo_u1 (.vec w0.heap.size 9 eStr s7)] A w/\R 3=uo_u1) ?_ ?_
 refine HT.block<|zQS (fun k R w=>∃ A:Av,∃ (y8:Int) (y9:List (List UInt8)) (ul_u1:Value),zBl fu x2 k y8 y9=some rl5/\AvOK A w/\Fr w0 w/\(∀ b o,A0 b o->A b o)/\IniOK [ob ul_u1 (.vec w0.heap.size 9 eStr y9)] A w/\R 3=ul_u1/\R 8=u4/\R 9=.int .i64 (x2.length:Int)/\R 10=.int .i64 y8/\Rep (eSl eStr) A w u4 x2) fu ⟨_,_,_,u1,q6,d,j,B,q,h3,h8,h9,h10,f_u4⟩ ?_
 have hr0:=c;clear c q6
 rintro k R w ⟨A,y8,y9,ul_u1,c,d,j,B,q,h3,h8,h9,h10,f_u4⟩
 rcases k with _ | k
 cases (show none=some _ from c)
 rw [zBl] at c
 refine zQU d j (eB (decide (y8<(x2.length:Int)))::[]) ?_ ?_
 exact op (fun Q U W H D=>zAk ((H 10 Z).trans h10) ((H 9 Z).trans h9))<|oz
 intro R w m n p d j
 obtain ⟨h3,h8,h9,h10⟩:=k4 n h3 h8 h9 h10
 have h11:=p.r 0 Z
 replace f_u4:=f_u4.fr m
 replace q:=q.fr m
 refine zQT<|zQM (decide (y8<(x2.length:Int))) h11 (fun c10=>?_) (fun c10=>?_)
 have c:=zAN c10 c
 refine HT.skip<|zQT<|HT.block ?_
 obtain ⟨e11,c⟩:=zA7 c
 refine zQU d j (eF (.qtr eStr A (gtD x2 y8))::eF (.rep eStr A (gtD x2 y8))::eF (.rep eStr A (gtD x2 y8))::[]) ?_ ?_
 exact op (fun Q U W H D=>zAC ((f_u4.fr W).eq ((H 8 Z).trans h8)) ((H 10 Z).trans h10) underlying34 sizeOf9 e11)<|op (fun Q U W H D=>(zAT (QRep.ptr (D.g 0 Z)) isAgg9 sizeOf9))<|op (fun Q U W H D=>zA2 (D.g 0 Z))<|oz
 intro R w m n p d j
 obtain ⟨h3,h8,h9,h10⟩:=k4 n h3 h8 h9 h10
 obtain ⟨u12,h5,f_u12⟩:∃ u,R 5=u/\Rep eStr A w u (gtD x2 y8):=⟨_,Z,p 2 _ _ Z Z Z⟩
 replace f_u4:=f_u4.fr m
 replace q:=q.fr m
 obtain ⟨x13,q14,c⟩:=zA6 c
 refine zQU d j (eR u12::eF (.rep eStr A x13)::eF (.rep eStr A x13)::[]) ?_ ?_
 exact om h5<|op (fun Q U W H D=>zAI call100 (zHp (q14 Z) (d.fr W.size) (hG0.fr (j.trans W)) ((f_u12.fr W).eq (D.g 0 Z))))<|op (fun Q U W H D=>zA2 (D.g 0 Z))<|oz
 intro R w m n p d j
 obtain ⟨h3,h8,h9,h10⟩:=k4 n h3 h8 h9 h10
 obtain ⟨u15,h6,f_u15⟩:∃ u,R 6=u/\Rep eStr A w u x13:=⟨_,Z,p 2 _ _ Z Z Z⟩
 replace f_u4:=f_u4.fr m
 replace q:=q.fr m
 refine zQU d j (eR u15::eB (!(x13==([]:List UInt8)))::[]) ?_ ?_
 exact om h6<|op (fun Q U W H D=>zGV ((f_u15.fr W).eq (D.g 0 Z)) ⟨_,Z,⟨_,Z,Z,by decide⟩⟩)<|oz
 intro R w m n p d j
 obtain ⟨h3,h6,h8,h9,h10⟩:=k5 n h3 h6 h8 h9 h10
 have h17:=p.r 1 Z
 replace f_u15:=f_u15.fr m
 replace f_u4:=f_u4.fr m
 replace q:=q.fr m
 refine zQM (!(x13==([]:List UInt8))) h17 (fun c16=>?_) (fun c16=>?_)
 have c:=zAN c16 c
 obtain ⟨e17,c⟩:=zA7 c
 refine zQY [ob ul_u1 (.vec w0.heap.size 9 eStr y9)] (rR ul_u1::rR u15::(rF fun A=>.rep (eSl eStr) A ([x13]:List (List UInt8)))::⟨_,true,[0],some (.vec w0.heap.size 9 eStr (y9++([x13]:List (List UInt8)))),true,fun A=>.any⟩::⟨_,true,[4],some (.vec w0.heap.size 9 eStr (y9++([x13]:List (List UInt8)))),true,fun A=>.any⟩::[]) (ur (ur (up (ua (ua (UAll.nil)))))) q d ?_ ?_
 exact rm h3<|rm h6<|rp (fun V Q U O D=>zAe [_] (E:=eStr) ⟨((f_u15.stp O.stp).eq (D.g 0 Z)),N⟩ underlying34 sizeOf9 zeroValue9 Z Z Z O.av)<|rc (OblR.took 0 _ _ Z Z Z Z Z fun V Q U O D u X Y J L M=>by have a0:Q 18=ul_u1:=D.g 0 Z;have a1:Rep (eSl eStr) V U (Q 20) ([x13]:List (List UInt8)):=D.g 1 Z;exact zAW (a0.trans (J _ Z).symm) X Y (Nat.le_trans j.size O.ch.size) a1 underlying34 el_9 e17)<|rc (OblR.took 4 _ _ Z Z Z Z Z fun V Q U O D u X Y J L M=>by exact zAD (L _ _ Z Z Z Z).symm X Y)<|rz
 intro done ρ σ A R w y s
 obtain ⟨h8,h9,h10⟩:=k3 s.rg h8 h9 h10
 obtain ⟨u18,e_u18⟩:∃ u,ρ 5=u:=⟨_,Z⟩
 have h3:=s.ov y 5 4 e_u18
 replace f_u4:=f_u4.stp s.stp
 obtain ⟨B,j,d⟩:=s.s B C j q ⟨Z,N⟩
 replace q:=s.left y [(5,ob u18 (.vec w0.heap.size 9 eStr (y9++([x13]:List (List UInt8)))))] ⟨Z,Z,e_u18,Z,Z,N⟩
 obtain ⟨e19,c⟩:=zA7 c
 refine HT.u d j (eI (y8+1)::eI (y8+1)::[]) ?_ ?_
 exact op (fun Q U W H D=>zAS ((H 10 Z).trans h10) Z e19)<|ov<|oz
 intro R w m n p d j
 obtain ⟨h3,h8,h9⟩:=k3 n h3 h8 h9
 have h10:=p.r 1 Z
 replace f_u4:=f_u4.fr m
 replace q:=q.fr m
 exact ei k (And.intro (Nat.lt_succ_self k) ⟨_,_,_,u18,c,d,j,B,q,h3,h8,h9,h10,f_u4⟩)
 have c:=zAM c16 c
 refine HT.skip ?_
 obtain ⟨e20,c⟩:=zA7 c
 refine HT.u d j (eI (y8+1)::eI (y8+1)::[]) ?_ ?_
 exact op (fun Q U W H D=>zAS ((H 10 Z).trans h10) Z e20)<|ov<|oz
 intro R w m n p d j
 obtain ⟨h3,h8,h9⟩:=k3 n h3 h8 h9
 have h10:=p.r 1 Z
 replace f_u4:=f_u4.fr m
 replace q:=q.fr m
 exact ei k (And.intro (Nat.lt_succ_self k) ⟨_,_,_,ul_u1,c,d,j,B,q,h3,h8,h9,h10,f_u4⟩)
 have c:=zAM c10 c
 refine zQR ?_
 obtain rfl:=si c
 exact ei _ ⟨_,ul_u1,Z,d,j,B,q,h3⟩
 rintro R w ⟨A,s7,uo_u1,es,d,j,B,q,h3⟩
 obtain rfl:=es.symm
 obtain ⟨x21,q22,c⟩:=zA6 c
 refine zQV [ob uo_u1 (.vec w0.heap.size 9 eStr s7)] (rR uo_u1::⟨_,true,[],some (.vec w0.heap.size 9 eStr x21),true,fun A=>.any⟩::⟨_,true,[2],some (.vec w0.heap.size 9 eStr x21),true,fun A=>.any⟩::[]) (ur (ua (ua (UAll.nil)))) q d ?_ ?_
 exact rm h3<|rc (OblR.made _ Z Z Z Z fun V Q U O D=>by have a0:Q 23=uo_u1:=D.g 0 Z;have ra0:=(zCB (O.rd 0 _ Z Z) (O.low' B C (q.ge (⟨Z,N⟩))) C).eq a0;exact zFF call42 (zBq (q22 Z) (hA00.fr ((Nat.le_trans j.size O.ch.size))) ra0) (Nat.le_trans j.size O.ch.size) (O.low' B C (q.ge (⟨Z,N⟩))) (fun _ _ _ _ _ h=>h))<|rc (OblR.took 2 _ _ Z Z Z Z Z fun V Q U O D u X Y J L M=>by exact zAD (L _ _ Z Z Z Z).symm X Y)<|rz
 intro done ρ σ A R w y s
 have z23:=s.inivR 0 Z
 obtain ⟨u24,e_u24⟩:∃ u,ρ 3=u:=⟨_,Z⟩
 have h2:=s.ov y 3 2 e_u24
 obtain ⟨B,j,d⟩:=s.s B C j q ⟨Z,N⟩
 replace q:=s.left y [(3,ob u24 (.vec w0.heap.size 9 eStr x21))] ⟨Z,Z,e_u24,Z,Z,N⟩
 refine HT.ret ?_
 obtain rfl:=si c
 exact ⟨.inr Z,[R 2],⟨Z,N⟩,(zC7 (q.ok 0 _ Z) B h2),j⟩
theorem zGm {fu : Nat} {A0 : Av} {p0 : List UInt8} {r : List (List UInt8)} (c : zDB fu p0 = some r) {w : World} {v0 : Value} (d : AvOK A0 w) (hG : GTab w) (h0 : Rep eStr A0 w v0 p0) :
 Calls prog 69 #[v0] w fun e w'=>∃ v,e=.returned v/\(Rep (eSl eStr) A0 w' v r/\Fr w w'):=by
 refine Calls.mono (zHH c d hG h0) ?_
 rintro e w' ⟨v,he,hv,hf⟩
 exact ⟨v,he,zCB hv (fun b o h=>.inl h) d,hf⟩
def zBP (fu : Nat) (p0 : List UInt8) : Nat -> Int -> (List Int) -> Option (List Int)
 | 0,_,_=>none
 | k+1,y5,y6=>
 bif (decide (y5<(p0.length:Int))) then (
 ck (inR y5 p0.length) <|
 cl true (zDk fu (bAt p0 y5)) fun x9=>
 bif x9 then (
 ck (inR y5 p0.length) <|
 ck (zBJ (y6.length+([(bAt p0 y5)]:List Int).length)) <|
 ck (i64B (y5+1)) <|
 zBP fu p0 k (y5+1) (y6++([(bAt p0 y5)]:List Int))
 ) else (
 ck (i64B (y5+1)) <|
 zBP fu p0 k (y5+1) y6
 )
 ) else (
 some y6
 )
def zDp (fu:Nat) (p0:List UInt8):Option (List UInt8):=
 cl true (zBP fu p0 fu 0 ([]:List Int)) fun s4=>
 some (strB s4)
theorem zHS {fu : Nat} {A0 : Av} {p0 : List UInt8} {r : List UInt8} (c : zDp fu p0 = some r) {w : World} {v0 : Value} (d : AvOK A0 w) (h0 : Rep eStr A0 w v0 p0) :
 Calls prog 70 #[v0] w fun e w'=>∃ v,e=.returned v/\(Rep eStr A0 w' v r/\Fr w w'):=by
 unfold zDp at c
 obtain ⟨w0,hw0,j,C⟩:=pw d
 have hA00:AvOK A0 w0:=C
 rw [fw hw0]
 obtain ⟨A,hAe,B,d,q⟩:=pa d
 refine zA9 [.tmp 2] func70 ntmps70 (by decide) Z Z (nb Z) ?_
 intro R hR
 have f_v0:Rep eStr A w v0 p0:=hAe ▸ h0
 replace h0:R 0=v0:=hR 0 _ Z
 refine zQU d j (eF (.rep eStr A ([]:List UInt8))::[]) ?_ ?_
 exact op (fun Q U W H D=>zA2 ⟨_,Z,⟨_,Z,Z,by decide⟩⟩)<|oz
 intro R w m n p d j
 replace h0:=k1 n h0
 replace f_v0:=f_v0.fr m
 replace q:=q.fr m
 refine zQU d j (eR (.slice none 0 0)::[]) ?_ ?_
 exact op (fun Q U W H D=>zA2 Z)<|oz
 intro R w m n p d j
 replace h0:=k1 n h0
 obtain ⟨u1,n_u1⟩:∃ u,u=Value.slice none 0 0:=⟨_,Z⟩
 have h3:R 3=u1:=(p 0 _ _ Z Z Z).trans n_u1.symm
 replace f_v0:=f_v0.fr m
 replace q:=q.fr m
 replace q:=q.nilcons (u:=u1) n_u1 w0.heap.size 5 (eInt .u8)
 refine zQT<|zQU d j (eR v0::eI (p0.length:Int)::eI 0::[]) ?_ ?_
 exact om h0<|op (fun Q U W H D=>zB0 ((f_v0.fr W).eq (D.g 0 Z)) underlying9)<|op (fun Q U W H D=>zBj Z)<|oz
 intro R w m n p d j
 obtain ⟨h0,h3⟩:=k2 n h0 h3
 have h6:=p.r 1 Z
 have h7:=p.r 2 Z
 replace f_v0:=f_v0.fr m
 replace q:=q.fr m
 obtain ⟨rl2,q3,c⟩:=zA6 c
 replace q3:=q3 Z
 refine zQO (fun R w=>∃ A:Av,∃ (s4:(List Int)) (uo_u1:Value),rl2=s4/\AvOK A w/\Fr w0 w/\(∀ b o,A0 b o->A b o)/\IniOK [ob uo_u1 (.vec w0.heap.size 5 (eInt .u8) s4)] A w/\R 3=uo_u1) ?_ ?_
 refine HT.block<|zQS (fun k R w=>∃ A:Av,∃ (y5:Int) (y6:List Int) (ul_u1:Value),zBP fu p0 k y5 y6=some rl2/\AvOK A w/\Fr w0 w/\(∀ b o,A0 b o->A b o)/\IniOK [ob ul_u1 (.vec w0.heap.size 5 (eInt .u8) y6)] A w/\R 0=v0/\R 3=ul_u1/\R 6=.int .i64 (p0.length:Int)/\R 7=.int .i64 y5/\Rep eStr A w v0 p0) fu ⟨_,_,_,u1,q3,d,j,B,q,h0,h3,h6,h7,f_v0⟩ ?_
 have hr0:=c;clear c q3
 rintro k R w ⟨A,y5,y6,ul_u1,c,d,j,B,q,h0,h3,h6,h7,f_v0⟩
 rcases k with _ | k
 cases (show none=some _ from c)
 rw [zBP] at c
 refine zQU d j (eB (decide (y5<(p0.length:Int)))::[]) ?_ ?_
 exact op (fun Q U W H D=>zAk ((H 7 Z).trans h7) ((H 6 Z).trans h6))<|oz
 intro R w m n p d j
 obtain ⟨h0,h3,h6,h7⟩:=k4 n h0 h3 h6 h7
 have h8:=p.r 0 Z
 replace f_v0:=f_v0.fr m
 replace q:=q.fr m
 refine zQT<|zQM (decide (y5<(p0.length:Int))) h8 (fun c7=>?_) (fun c7=>?_)
 have c:=zAN c7 c
 refine HT.skip<|zQT<|HT.block<|zQU d j (eI y5::eI y5::[]) ?_ ?_
 exact om h7<|oa<|oz
 intro R w m n p d j
 obtain ⟨h0,h3,h6,h7⟩:=k4 n h0 h3 h6 h7
 have h4:=p.r 1 Z
 replace f_v0:=f_v0.fr m
 replace q:=q.fr m
 obtain ⟨e8,c⟩:=zA7 c
 obtain ⟨x9,q10,c⟩:=zA6 c
 refine zQU d j (eR v0::eI y5::eU (bAt p0 y5)::eB x9::[]) ?_ ?_
 exact om h0<|om h4<|op (fun Q U W H D=>zAf ((f_v0.fr W).eq (D.g 0 Z)) (D.g 1 Z) underlying9 e8)<|op (fun Q U W H D=>zAI call101 (zFm (q10 Z) (d.fr W.size) (D.g 0 Z)))<|oz
 intro R w m n p d j
 obtain ⟨h0,h3,h4,h6,h7⟩:=k5 n h0 h3 h4 h6 h7
 have h13:=p.r 3 Z
 replace f_v0:=f_v0.fr m
 replace q:=q.fr m
 refine zQM x9 h13 (fun c11=>?_) (fun c11=>?_)
 have c:=zAN c11 c
 obtain ⟨e12,e13,c⟩:=ck2 c
 refine zQY [ob ul_u1 (.vec w0.heap.size 5 (eInt .u8) y6)] (rR ul_u1::rR v0::rI y5::rU (bAt p0 y5)::(rF fun A=>.rep (eSl (eInt .u8)) A ([(bAt p0 y5)]:List Int))::⟨_,true,[0],some (.vec w0.heap.size 5 (eInt .u8) (y6++([(bAt p0 y5)]:List Int))),true,fun A=>.any⟩::⟨_,true,[6],some (.vec w0.heap.size 5 (eInt .u8) (y6++([(bAt p0 y5)]:List Int))),true,fun A=>.any⟩::[]) (ur (ur (ur (ur (up (ua (ua (UAll.nil)))))))) q d ?_ ?_
 exact rm h3<|rm h0<|rm h4<|rp (fun V Q U O D=>zAf ((f_v0.stp O.stp).eq (D.g 0 Z)) (D.g 1 Z) underlying9 e12)<|rp (fun V Q U O D=>zAe [_] (E:=eInt .u8) ⟨(zBT.eq (D.g 0 Z)),N⟩ underlying43 sizeOf5 zeroValue5 Z Z Z O.av)<|rc (OblR.took 0 _ _ Z Z Z Z Z fun V Q U O D u X Y J L M=>by have a0:Q 14=ul_u1:=D.g 0 Z;have a1:Rep (eSl (eInt .u8)) V U (Q 18) ([(bAt p0 y5)]:List Int):=D.g 1 Z;exact zAW (a0.trans (J _ Z).symm) X Y (Nat.le_trans j.size O.ch.size) a1 underlying43 el_5 e13)<|rc (OblR.took 6 _ _ Z Z Z Z Z fun V Q U O D u X Y J L M=>by exact zAD (L _ _ Z Z Z Z).symm X Y)<|rz
 intro done ρ σ A R w y s
 obtain ⟨h0,h6,h7⟩:=k3 s.rg h0 h6 h7
 obtain ⟨u14,e_u14⟩:∃ u,ρ 7=u:=⟨_,Z⟩
 have h3:=s.ov y 7 6 e_u14
 replace f_v0:=f_v0.stp s.stp
 obtain ⟨B,j,d⟩:=s.s B C j q ⟨Z,N⟩
 replace q:=s.left y [(7,ob u14 (.vec w0.heap.size 5 (eInt .u8) (y6++([(bAt p0 y5)]:List Int))))] ⟨Z,Z,e_u14,Z,Z,N⟩
 obtain ⟨e15,c⟩:=zA7 c
 refine HT.u d j (eI (y5+1)::eI (y5+1)::[]) ?_ ?_
 exact op (fun Q U W H D=>zAS ((H 7 Z).trans h7) Z e15)<|ov<|oz
 intro R w m n p d j
 obtain ⟨h0,h3,h6⟩:=k3 n h0 h3 h6
 have h7:=p.r 1 Z
 replace f_v0:=f_v0.fr m
 replace q:=q.fr m
 exact ei k (And.intro (Nat.lt_succ_self k) ⟨_,_,_,u14,c,d,j,B,q,h0,h3,h6,h7,f_v0⟩)
 have c:=zAM c11 c
 refine HT.skip ?_
 obtain ⟨e16,c⟩:=zA7 c
 refine HT.u d j (eI (y5+1)::eI (y5+1)::[]) ?_ ?_
 exact op (fun Q U W H D=>zAS ((H 7 Z).trans h7) Z e16)<|ov<|oz
 intro R w m n p d j
 obtain ⟨h0,h3,h6⟩:=k3 n h0 h3 h6
 have h7:=p.r 1 Z
 replace f_v0:=f_v0.fr m
 replace q:=q.fr m
 exact ei k (And.intro (Nat.lt_succ_self k) ⟨_,_,_,ul_u1,c,d,j,B,q,h0,h3,h6,h7,f_v0⟩)
 have c:=zAM c7 c
 refine zQR ?_
 obtain rfl:=si c
 exact ei _ ⟨_,ul_u1,Z,d,j,B,q,h3⟩
 rintro R w ⟨A,s4,uo_u1,es,d,j,B,q,h3⟩
 obtain rfl:=es.symm
 refine zQU d j (eR uo_u1::eF (.rep eStr A (strB s4))::eF (.rep eStr A (strB s4))::[]) ?_ ?_
 exact om h3<|op (fun Q U W H D=>zC4 ((zCB ((q.fr W).ok 0 _ Z).1 B C).eq (D.g 0 Z)) underlying43 underlying5 underlying9)<|op (fun Q U W H D=>zA2 (D.g 0 Z))<|oz
 intro R w m n p d j
 obtain ⟨u17,h2,f_u17⟩:∃ u,R 2=u/\Rep eStr A w u (strB s4):=⟨_,Z,p 2 _ _ Z Z Z⟩
 replace q:=q.fr m
 replace q:IniOK [] A w:=q.sub [] N
 refine HT.ret ?_
 obtain rfl:=si c
 exact ⟨.inr Z,[R 2],⟨Z,N⟩,(f_u17.eq h2).down B,j⟩
def zCI (fu:Nat) (p0:Int):Option (List UInt8):=
 cl true (zN7 fu p0) fun x1=>
 some x1
theorem zEH {fu : Nat} {A : Av} {p0 : Int} {r : List UInt8} (c : zCI fu p0 = some r) {w : World} {v0 : Value} (d : AvOK A w) (hG : GTab w) (h0 : v0=.int .i64 p0) :
 Calls prog 73 #[v0] w fun e w'=>∃ v,e=.returned v/\(Rep eStr A w' v r/\Fr w w'):=by
 unfold zCI at c
 obtain ⟨w0,hw0,j⟩:=pf w
 rw [fw hw0]
 have hG0:GTab w0:=hw0 ▸ hG
 refine zA9 [.tmp 2] func73 ntmps73 (by decide) Z Z (nb Z) ?_
 intro R hR
 replace h0:R 0=.int .i64 p0:=(hR 0 _ Z).trans h0
 refine zQU d j (eF (.rep eStr A ([]:List UInt8))::[]) ?_ ?_
 exact op (fun Q U W H D=>zA2 ⟨_,Z,⟨_,Z,Z,by decide⟩⟩)<|oz
 intro R w m n p d j
 replace h0:=k1 n h0
 obtain ⟨x1,q2,c⟩:=zA6 c
 refine zQU d j (eI p0::eF (.rep eStr A x1)::eF (.rep eStr A x1)::[]) ?_ ?_
 exact om h0<|op (fun Q U W H D=>zAI call105 (zMY (q2 Z) (d.fr W.size) (hG0.fr (j.trans W)) (D.g 0 Z)))<|op (fun Q U W H D=>zA2 (D.g 0 Z))<|oz
 intro R w m n p d j
 obtain ⟨u3,h2,f_u3⟩:∃ u,R 2=u/\Rep eStr A w u x1:=⟨_,Z,p 2 _ _ Z Z Z⟩
 refine HT.ret ?_
 obtain rfl:=si c
 exact ⟨.inr Z,[R 2],⟨Z,N⟩,(f_u3.eq h2),j⟩
def zDs (fu:Nat) (p0:List UInt8):Option (Int × Bool):=
 cl true (zN1 fu p0) fun x1=>
 cl (true&&(x1.2==false)) (zCI fu x1.1) fun x4=>
 bd (x1.2 || (!(x4==p0))) fun x6=>
 cl (true&&(x6==false)) (zCC fu x1.1 (-999999999) 999999999) fun x8=>
 bd (x6 || (!x8)) fun x10=>
 bif x10 then (
 some (0,false)
 ) else (
 some (x1.1,true)
 )
theorem zHi {fu : Nat} {A : Av} {p0 : List UInt8} {r : Int × Bool} (c : zDs fu p0 = some r) {w : World} {v0 : Value} (d : AvOK A w) (hG : GTab w) (h0 : Rep eStr A w v0 p0) :
 Calls prog 102 #[v0] w fun e w'=>∃ v,e=.returned v/\((∃ a b,v=.tuple #[a,b]/\a=.int .i64 r.1/\b=.bool r.2)/\Fr w w'):=by
 unfold zDs at c
 obtain ⟨w0,hw0,j⟩:=pf w
 rw [fw hw0]
 have hG0:GTab w0:=hw0 ▸ hG
 refine zA9 [.tmp 2,.tmp 3] func102 ntmps102 (by decide) Z Z (nb Z) ?_
 intro R hR
 have f_v0:=h0
 replace h0:R 0=v0:=hR 0 _ Z
 refine zQU d j (eI 0::eB false::[]) ?_ ?_
 exact op (fun Q U W H D=>zA2 Z)<|op (fun Q U W H D=>zA2 Z)<|oz
 intro R w m n p d j
 replace h0:=k1 n h0
 replace f_v0:=f_v0.fr m
 obtain ⟨x1,q2,c⟩:=zA6 c
 refine zQU d j (eR v0::eF (.tup2 (.raw (.int .i64 x1.1)) (.rep eErr A x1.2))::eF (.tup2 (.raw (.int .i64 x1.1)) (.rep eErr A x1.2))::eI x1.1::eF (.rep eErr A x1.2)::eI x1.1::eF (.rep eErr A x1.2)::[]) ?_ ?_
 exact om h0<|op (fun Q U W H D=>zAI call132 (zMl (q2 Z) (d.fr W.size) (hG0.fr (j.trans W)) ((f_v0.fr W).eq (D.g 0 Z))))<|op (fun Q U W H D=>zBj (D.g 0 Z))<|op (fun Q U W H D=>zFD (D.g 0 Z))<|op (fun Q U W H D=>zF9 (D.g 0 Z))<|oa<|op (fun Q U W H D=>zA2 (D.g 0 Z))<|oz
 intro R w m n p d j
 replace h0:=k1 n h0
 have h4:=p.r 5 Z
 obtain ⟨u3,h5,f_u3⟩:∃ u,R 5=u/\Rep eErr A w u x1.2:=⟨_,Z,p 6 _ _ Z Z Z⟩
 replace f_v0:=f_v0.fr m
 refine zQT<|zQT ?_
 obtain ⟨x4,q5,c⟩:=zA6 c
 obtain ⟨x6,q7,c⟩:=zAU c
 obtain ⟨x8,q9,c⟩:=zA6 c
 obtain ⟨x10,q11,c⟩:=zAU c
 refine HT.u d j (eR u3::eB x1.2::eB x1.2::gI (true&&(x1.2==false)) x1.1::gF (true&&(x1.2==false)) (.rep eStr A x4)::gR (true&&(x1.2==false)) v0::gB (true&&(x1.2==false)) (!(x4==p0))::eB x6::eB x6::gI (true&&(x6==false)) x1.1::gB (true&&(x6==false)) x8::gB (true&&(x6==false)) (!x8)::eB x10::[]) ?_ ?_
 exact om h5<|op (fun Q U W H D=>zMD ((f_u3.fr W).eq (D.g 0 Z)) (by kernel_rfl))<|ov<|gm 2 false h4<|og 2 false (fun G Q U W H D=>zAI call73 (zEH (q5 G) (d.fr W.size) (hG0.fr (j.trans W)) (D.h 0 G Z)))<|gm 2 false h0<|og 2 false (fun G Q U W H D=>zGV (D.h 0 G Z) ((f_v0.fr W).eq (D.h 1 G Z)))<|op (fun Q U W H D=>zAX x1.2 (D.g 0 Z) (fun hc=>by show _=Value.bool x6;rw [q7,hc];exact Z) (fun hc=>by have a2:Q 17=.bool (!(x4==p0)):=D 1 _ _ _ Z Z Z Z (zC2 Z (zB2 hc));show _=Value.bool x6;rw [q7,hc];exact a2))<|ov<|gm 8 false h4<|og 8 false (fun G Q U W H D=>zAI call89 (zDC (q9 G) (d.fr W.size) (D.h 0 G Z) Z Z))<|og 8 false (fun G Q U W H D=>zDU (D.h 0 G Z))<|op (fun Q U W H D=>zAX x6 (D.g 0 Z) (fun hc=>by show _=Value.bool x10;rw [q11,hc];exact Z) (fun hc=>by have a2:Q 22=.bool (!x8):=D 1 _ _ _ Z Z Z Z (zC2 Z (zB2 hc));show _=Value.bool x10;rw [q11,hc];exact a2))<|oz
 intro R w m n p d j
 replace h4:=k1 n h4
 have h23:=p.r 12 Z
 refine zQM x10 h23 (fun c12=>?_) (fun c12=>?_)
 have c:=zAN c12 c
 refine zQU d j (eI 0::eB false::[]) ?_ ?_
 exact op (fun Q U W H D=>zA2 Z)<|op (fun Q U W H D=>zA2 Z)<|oz
 intro R w m n p d j
 have h2:=p.r 0 Z
 have h3:=p.r 1 Z
 refine HT.ret ?_
 obtain rfl:=si c
 exact ⟨.inr Z,[R 2,R 3],⟨Z,⟨Z,N⟩⟩,⟨_,_,Z,h2,h3⟩,j⟩
 have c:=zAM c12 c
 refine HT.skip<|zQU d j (eI x1.1::eI x1.1::eB true::[]) ?_ ?_
 exact om h4<|oa<|op (fun Q U W H D=>zA2 Z)<|oz
 intro R w m n p d j
 have h2:=p.r 1 Z
 have h3:=p.r 2 Z
 refine HT.ret ?_
 obtain rfl:=si c
 exact ⟨.inr Z,[R 2,R 3],⟨Z,⟨Z,N⟩⟩,⟨_,_,Z,h2,h3⟩,j⟩
def zCF (fu:Nat) (p0:List UInt8):Option Int:=
 cl true (zDs fu p0) fun x1=>
 cl (true&&(x1.2==true)) (zCC fu x1.1 1000 9999) fun x3=>
 bd (x1.2&&x3) fun x5=>
 bif x5 then (
 some x1.1
 ) else (
 some 0
 )
theorem zFP {fu : Nat} {A : Av} {p0 : List UInt8} {r : Int} (c : zCF fu p0 = some r) {w : World} {v0 : Value} (d : AvOK A w) (hG : GTab w) (h0 : Rep eStr A w v0 p0) :
 Calls prog 71 #[v0] w fun e w'=>∃ v,e=.returned v/\(v=.int .i64 r/\Fr w w'):=by
 unfold zCF at c
 obtain ⟨w0,hw0,j⟩:=pf w
 rw [fw hw0]
 have hG0:GTab w0:=hw0 ▸ hG
 refine zA9 [.tmp 2] func71 ntmps71 (by decide) Z Z (nb Z) ?_
 intro R hR
 have f_v0:=h0
 replace h0:R 0=v0:=hR 0 _ Z
 refine zQU d j (eI 0::[]) ?_ ?_
 exact op (fun Q U W H D=>zA2 Z)<|oz
 intro R w m n p d j
 replace h0:=k1 n h0
 replace f_v0:=f_v0.fr m
 refine zQT ?_
 obtain ⟨x1,q2,c⟩:=zA6 c
 refine zQU d j (eR v0::eF (.tup2 (.raw (.int .i64 x1.1)) (.raw (.bool x1.2)))::eF (.tup2 (.raw (.int .i64 x1.1)) (.raw (.bool x1.2)))::eI x1.1::eB x1.2::eI x1.1::eB x1.2::[]) ?_ ?_
 exact om h0<|op (fun Q U W H D=>zAI call102 (zHi (q2 Z) (d.fr W.size) (hG0.fr (j.trans W)) ((f_v0.fr W).eq (D.g 0 Z))))<|op (fun Q U W H D=>zBj (D.g 0 Z))<|op (fun Q U W H D=>zFD (D.g 0 Z))<|op (fun Q U W H D=>zF9 (D.g 0 Z))<|oa<|oa<|oz
 intro R w m n p d j
 have h3:=p.r 5 Z
 have h4:=p.r 6 Z
 refine zQT ?_
 obtain ⟨x3,q4,c⟩:=zA6 c
 obtain ⟨x5,q6,c⟩:=zAU c
 refine HT.u d j (eB x1.2::eB x1.2::gI (true&&(x1.2==true)) x1.1::gB (true&&(x1.2==true)) x3::eB x5::[]) ?_ ?_
 exact om h4<|ov<|gm 1 true h3<|og 1 true (fun G Q U W H D=>zAI call89 (zDC (q4 G) (d.fr W.size) (D.h 0 G Z) Z Z))<|op (fun Q U W H D=>zAX x1.2 (D.g 0 Z) (fun hc=>by have a1:Q 13=.bool x3:=D 1 _ _ _ Z Z Z Z (zC2 Z (zB2 hc));show _=Value.bool x5;rw [q6,hc];exact a1) (fun hc=>by show _=Value.bool x5;rw [q6,hc];exact Z))<|oz
 intro R w m n p d j
 replace h3:=k1 n h3
 have h14:=p.r 4 Z
 refine zQM x5 h14 (fun c7=>?_) (fun c7=>?_)
 have c:=zAN c7 c
 refine zQU d j (eI x1.1::eI x1.1::[]) ?_ ?_
 exact om h3<|oa<|oz
 intro R w m n p d j
 have h2:=p.r 1 Z
 refine HT.ret ?_
 obtain rfl:=si c
 exact ⟨.inr Z,[R 2],⟨Z,N⟩,h2,j⟩
 have c:=zAM c7 c
 refine HT.skip<|zQU d j (eI 0::[]) ?_ ?_
 exact op (fun Q U W H D=>zA2 Z)<|oz
 intro R w m n p d j
 have h2:=p.r 0 Z
 refine HT.ret ?_
 obtain rfl:=si c
 exact ⟨.inr Z,[R 2],⟨Z,N⟩,h2,j⟩
def zC9 (fu : Nat) (x4 : List (List UInt8)) : Nat -> Int -> (List (List UInt8)) -> Option (List (List UInt8))
 | 0,_,_=>none
 | k+1,y10,y11=>
 bif (decide (y10<(x4.length:Int))) then (
 ck (inR y10 x4.length) <|
 ck (zBJ (([115]:List UInt8)++(gtD x4 y10)).length) <|
 ck (zBJ (y11.length+([(([115]:List UInt8)++(gtD x4 y10))]:List (List UInt8)).length)) <|
 ck (i64B (y10+1)) <|
 zC9 fu x4 k (y10+1) (y11++([(([115]:List UInt8)++(gtD x4 y10))]:List (List UInt8)))
 ) else (
 some y11
 )
def zBo (fu : Nat) (x33 : Int) (x37 : List (List UInt8)) : Nat -> Int -> (List (List UInt8)) -> Option (List (List UInt8))
 | 0,_,_=>none
 | k+1,y43,y44=>
 bif (decide (y43<(x37.length:Int))) then (
 ck (inR y43 x37.length) <|
 cl true (zCI fu x33) fun x48=>
 ck (zBJ (([121]:List UInt8)++x48).length) <|
 ck (subR 0 1 (gtD x37 y43).length) <|
 ck (zBJ ((([121]:List UInt8)++x48)++(subL (gtD x37 y43) 0 1)).length) <|
 ck (zBJ (y44.length+([((([121]:List UInt8)++x48)++(subL (gtD x37 y43) 0 1))]:List (List UInt8)).length)) <|
 ck (i64B (y43+1)) <|
 zBo fu x33 x37 k (y43+1) (y44++([((([121]:List UInt8)++x48)++(subL (gtD x37 y43) 0 1))]:List (List UInt8)))
 ) else (
 some y44
 )
def zBm (fu : Nat) (x66 : Int) (x70 : List (List UInt8)) : Nat -> Int -> (List (List UInt8)) -> Option (List (List UInt8))
 | 0,_,_=>none
 | k+1,y76,y77=>
 bif (decide (y76<(x70.length:Int))) then (
 ck (inR y76 x70.length) <|
 cl true (zCI fu x66) fun x81=>
 ck (zBJ (([121]:List UInt8)++x81).length) <|
 ck (subR 0 1 (gtD x70 y76).length) <|
 ck (zBJ ((([121]:List UInt8)++x81)++(subL (gtD x70 y76) 0 1)).length) <|
 ck (zBJ (y77.length+([((([121]:List UInt8)++x81)++(subL (gtD x70 y76) 0 1))]:List (List UInt8)).length)) <|
 ck (i64B (y76+1)) <|
 zBm fu x66 x70 k (y76+1) (y77++([((([121]:List UInt8)++x81)++(subL (gtD x70 y76) 0 1))]:List (List UInt8)))
 ) else (
 some y77
 )
def zCH (fu:Nat) (p0:zA4):Option (List (List UInt8)):=
 ck (inR 0 p0.2.2.2.length) <|
 cl true (zDB fu (gtD p0.2.2.2 0)) fun x4=>
 cl true (zC9 fu x4 fu 0 ([]:List (List UInt8))) fun s9=>
 ck (inR 3 p0.2.2.2.length) <|
 cl true (zDp fu (gtD p0.2.2.2 3)) fun x21=>
 bif (decide (4<=(x21.length:Int))) then (
 ck (i64B ((x21.length:Int)-4)) <|
 ck (subR ((x21.length:Int)-4) (x21.length:Int) x21.length) <|
 ck (zBJ (([112]:List UInt8)++(subL x21 ((x21.length:Int)-4) (x21.length:Int))).length) <|
 ck (zBJ (s9.length+([(([112]:List UInt8)++(subL x21 ((x21.length:Int)-4) (x21.length:Int)))]:List (List UInt8)).length)) <|
 ck (inR 2 p0.2.2.2.length) <|
 cl true (zCF fu (gtD p0.2.2.2 2)) fun x33=>
 bif (decide (0<x33)) then (
 ck (inR 0 p0.2.2.2.length) <|
 cl true (zDF fu (gtD p0.2.2.2 0)) fun x37=>
 cl true (zBo fu x33 x37 fu 0 (s9++([(([112]:List UInt8)++(subL x21 ((x21.length:Int)-4) (x21.length:Int)))]:List (List UInt8)))) fun s42=>
 cl true (zBB fu s42) fun x56=>
 some x56
 ) else (
 cl true (zBB fu (s9++([(([112]:List UInt8)++(subL x21 ((x21.length:Int)-4) (x21.length:Int)))]:List (List UInt8)))) fun x60=>
 some x60
 )
 ) else (
 ck (inR 2 p0.2.2.2.length) <|
 cl true (zCF fu (gtD p0.2.2.2 2)) fun x66=>
 bif (decide (0<x66)) then (
 ck (inR 0 p0.2.2.2.length) <|
 cl true (zDF fu (gtD p0.2.2.2 0)) fun x70=>
 cl true (zBm fu x66 x70 fu 0 s9) fun s75=>
 cl true (zBB fu s75) fun x89=>
 some x89
 ) else (
 cl true (zBB fu s9) fun x93=>
 some x93
 )
 )
theorem zFO {fu : Nat} {A0 : Av} {p0 : zA4} {r : List (List UInt8)} (c : zCH fu p0 = some r) {w : World} {v0 : Value} (d : AvOK A0 w) (hG : GTab w) (h0 : Rep zA0 A0 w v0 p0) :
 Calls prog 41 #[v0] w fun e w'=>∃ v,e=.returned v/\((Res.vec w.heap.size 9 eStr r).ok (addA A0 v) v w'/\Fr w w'):=by
 unfold zCH at c
 obtain ⟨w0,hw0,j,C⟩:=pw d
 have hA00:AvOK A0 w0:=C
 rw [fh hw0]
 rw [fw hw0]
 have hG0:GTab w0:=hw0 ▸ hG
 obtain ⟨A,hAe,B,d,q⟩:=pa d
 refine zA9 [.tmp 2] func41 ntmps41 (by decide) Z Z (nb Z) ?_
 intro R hR
 have f_v0:Rep zA0 A w v0 p0:=hAe ▸ h0
 replace h0:R 0=v0:=hR 0 _ Z
 refine zQV [] (⟨_,true,[],some (.box w0.heap.size 51 zA0 p0),true,fun A=>.any⟩::rA::[]) (ua (ua (UAll.nil))) q d ?_ ?_
 exact rc (OblR.made _ Z Z Z Z fun V Q U O D=>by have a0:Q 0=v0:=(O.old 0 Z).trans h0;have ra0:=(f_v0.stp O.stp).eq a0;exact zEe ra0 (Nat.le_trans j.size O.ch.size))<|rp (fun V Q U O D=>zA2 N)<|rz
 intro done ρ σ A R w y s
 obtain ⟨b1_0,e_b1_0⟩:=s.boxv y 0 Z Z
 have h1:=s.ov y 0 0 e_b1_0
 obtain ⟨B,j,d⟩:=s.s B C j q N
 replace q:=s.left y [(0,ob (.pointer (some ⟨b1_0,0,none⟩)) (.box w0.heap.size 51 zA0 p0))] ⟨Z,Z,e_b1_0,Z,Z,N⟩
 refine zQU d j (eR (.slice none 0 0)::[]) ?_ ?_
 exact op (fun Q U W H D=>zA2 Z)<|oz
 intro R w m n p d j
 replace h1:=k1 n h1
 obtain ⟨u2,n_u2⟩:∃ u,u=Value.slice none 0 0:=⟨_,Z⟩
 have h3:R 3=u2:=(p 0 _ _ Z Z Z).trans n_u2.symm
 replace q:=q.fr m
 replace q:=q.nilcons (u:=u2) n_u2 w0.heap.size 9 eStr
 refine zQT ?_
 obtain ⟨e3,c⟩:=zA7 c
 obtain ⟨x4,q5,c⟩:=zA6 c
 refine zQU d j (eR (.pointer (some ⟨b1_0,3,none⟩))::eF (.rep (eSl eStr) A p0.2.2.2)::eF (.qtr eStr A (gtD p0.2.2.2 0))::eF (.rep eStr A (gtD p0.2.2.2 0))::eF (.rep (eSl eStr) A x4)::eI (x4.length:Int)::eI 0::[]) ?_ ?_
 exact op (fun Q U W H D=>zAE ((H 1 Z).trans h1) zD7 sizeOf34 (by decide) Z)<|op (fun Q U W H D=>(zAJ ((q.fr W).ok 1 _ Z).1 (D.g 0 Z) zAc Z isAgg34 sizeOf34))<|op (fun Q U W H D=>zAC (D.g 0 Z) Z underlying34 sizeOf9 e3)<|op (fun Q U W H D=>(zAT (QRep.ptr (D.g 0 Z)) isAgg9 sizeOf9))<|op (fun Q U W H D=>zAI call69 (zGm (q5 Z) (d.fr W.size) (hG0.fr (j.trans W)) (D.g 0 Z)))<|op (fun Q U W H D=>zAK (aT:=#[]) (D.g 0 Z) underlying34)<|op (fun Q U W H D=>zBj Z)<|oz
 intro R w m n p d j
 obtain ⟨h1,h3⟩:=k2 n h1 h3
 obtain ⟨u6,h14,f_u6⟩:∃ u,R 14=u/\Rep (eSl eStr) A w u x4:=⟨_,Z,p 4 _ _ Z Z Z⟩
 have h15:=p.r 5 Z
 have h16:=p.r 6 Z
 replace q:=q.fr m
 obtain ⟨rl7,q8,c⟩:=zA6 c
 replace q8:=q8 Z
 refine zQO (fun R w=>∃ A:Av,∃ (s9:(List (List UInt8))) (uo_u2:Value),rl7=s9/\AvOK A w/\Fr w0 w/\(∀ b o,A0 b o->A b o)/\IniOK [ob uo_u2 (.vec w0.heap.size 9 eStr s9),ob (.pointer (some ⟨b1_0,0,none⟩)) (.box w0.heap.size 51 zA0 p0)] A w/\R 1=(.pointer (some ⟨b1_0,0,none⟩))/\R 3=uo_u2) ?_ ?_
 refine HT.block<|zQS (fun k R w=>∃ A:Av,∃ (y10:Int) (y11:List (List UInt8)) (ul_u2:Value),zC9 fu x4 k y10 y11=some rl7/\AvOK A w/\Fr w0 w/\(∀ b o,A0 b o->A b o)/\IniOK [ob ul_u2 (.vec w0.heap.size 9 eStr y11),ob (.pointer (some ⟨b1_0,0,none⟩)) (.box w0.heap.size 51 zA0 p0)] A w/\R 1=(.pointer (some ⟨b1_0,0,none⟩))/\R 3=ul_u2/\R 14=u6/\R 15=.int .i64 (x4.length:Int)/\R 16=.int .i64 y10/\Rep (eSl eStr) A w u6 x4) fu ⟨_,_,_,u2,q8,d,j,B,q,h1,h3,h14,h15,h16,f_u6⟩ ?_
 have hr0:=c;clear c q8
 rintro k R w ⟨A,y10,y11,ul_u2,c,d,j,B,q,h1,h3,h14,h15,h16,f_u6⟩
 rcases k with _ | k
 cases (show none=some _ from c)
 rw [zC9] at c
 refine zQU d j (eB (decide (y10<(x4.length:Int)))::[]) ?_ ?_
 exact op (fun Q U W H D=>zAk ((H 16 Z).trans h16) ((H 15 Z).trans h15))<|oz
 intro R w m n p d j
 obtain ⟨h1,h3,h14,h15,h16⟩:=k5 n h1 h3 h14 h15 h16
 have h17:=p.r 0 Z
 replace f_u6:=f_u6.fr m
 replace q:=q.fr m
 refine zQT<|zQM (decide (y10<(x4.length:Int))) h17 (fun c12=>?_) (fun c12=>?_)
 have c:=zAN c12 c
 refine HT.skip<|zQT<|HT.block ?_
 obtain ⟨e13,c⟩:=zA7 c
 refine zQU d j (eF (.qtr eStr A (gtD x4 y10))::eF (.rep eStr A (gtD x4 y10))::eF (.rep eStr A (gtD x4 y10))::[]) ?_ ?_
 exact op (fun Q U W H D=>zAC ((f_u6.fr W).eq ((H 14 Z).trans h14)) ((H 16 Z).trans h16) underlying34 sizeOf9 e13)<|op (fun Q U W H D=>(zAT (QRep.ptr (D.g 0 Z)) isAgg9 sizeOf9))<|op (fun Q U W H D=>zA2 (D.g 0 Z))<|oz
 intro R w m n p d j
 obtain ⟨h1,h3,h14,h15,h16⟩:=k5 n h1 h3 h14 h15 h16
 obtain ⟨u14,h5,f_u14⟩:∃ u,R 5=u/\Rep eStr A w u (gtD x4 y10):=⟨_,Z,p 2 _ _ Z Z Z⟩
 replace f_u6:=f_u6.fr m
 replace q:=q.fr m
 obtain ⟨e15,e16,c⟩:=ck2 c
 refine zQY [ob ul_u2 (.vec w0.heap.size 9 eStr y11),ob (.pointer (some ⟨b1_0,0,none⟩)) (.box w0.heap.size 51 zA0 p0)] (rR ul_u2::rR u14::(rF fun A=>.rep eStr A (([115]:List UInt8)++(gtD x4 y10)))::(rF fun A=>.rep (eSl eStr) A ([(([115]:List UInt8)++(gtD x4 y10))]:List (List UInt8)))::⟨_,true,[0],some (.vec w0.heap.size 9 eStr (y11++([(([115]:List UInt8)++(gtD x4 y10))]:List (List UInt8)))),true,fun A=>.any⟩::⟨_,true,[6],some (.vec w0.heap.size 9 eStr (y11++([(([115]:List UInt8)++(gtD x4 y10))]:List (List UInt8)))),true,fun A=>.any⟩::[]) (ur (ur (up (up (ua (ua (UAll.nil))))))) q d ?_ ?_
 exact rm h3<|rm h5<|rp (fun V Q U O D=>zDm ⟨_,Z,⟨_,Z,Z,by decide⟩⟩ ((f_u14.stp O.stp).eq (D.g 0 Z)) e15)<|rp (fun V Q U O D=>zAe [_] (E:=eStr) ⟨(D.g 0 Z),N⟩ underlying34 sizeOf9 zeroValue9 Z Z Z O.av)<|rc (OblR.took 0 _ _ Z Z Z Z Z fun V Q U O D u X Y J L M=>by have a0:Q 20=ul_u2:=D.g 0 Z;have a1:Rep (eSl eStr) V U (Q 23) ([(([115]:List UInt8)++(gtD x4 y10))]:List (List UInt8)):=D.g 1 Z;exact zAW (a0.trans (J _ Z).symm) X Y (Nat.le_trans j.size O.ch.size) a1 underlying34 el_9 e16)<|rc (OblR.took 6 _ _ Z Z Z Z Z fun V Q U O D u X Y J L M=>by exact zAD (L _ _ Z Z Z Z).symm X Y)<|rz
 intro done ρ σ A R w y s
 obtain ⟨h1,h14,h15,h16⟩:=k4 s.rg h1 h14 h15 h16
 obtain ⟨u17,e_u17⟩:∃ u,ρ 7=u:=⟨_,Z⟩
 have h3:=s.ov y 7 5 e_u17
 have z18:=s.inivR 1 Z
 replace f_u6:=f_u6.stp s.stp
 obtain ⟨B,j,d⟩:=s.s B C j q ⟨Z,⟨Z,N⟩⟩
 replace q:=s.left y [(7,ob u17 (.vec w0.heap.size 9 eStr (y11++([(([115]:List UInt8)++(gtD x4 y10))]:List (List UInt8))))),(1,ob (.pointer (some ⟨b1_0,0,none⟩)) (.box w0.heap.size 51 zA0 p0))] ⟨Z,Z,e_u17,Z,Z,⟨Z,Z,z18,Z,Z,N⟩⟩
 obtain ⟨e19,c⟩:=zA7 c
 refine HT.u d j (eI (y10+1)::eI (y10+1)::[]) ?_ ?_
 exact op (fun Q U W H D=>zAS ((H 16 Z).trans h16) Z e19)<|ov<|oz
 intro R w m n p d j
 obtain ⟨h1,h3,h14,h15⟩:=k4 n h1 h3 h14 h15
 have h16:=p.r 1 Z
 replace f_u6:=f_u6.fr m
 replace q:=q.fr m
 exact ei k (And.intro (Nat.lt_succ_self k) ⟨_,_,_,u17,c,d,j,B,q,h1,h3,h14,h15,h16,f_u6⟩)
 have c:=zAM c12 c
 refine zQR ?_
 obtain rfl:=si c
 exact ei _ ⟨_,ul_u2,Z,d,j,B,q,h1,h3⟩
 rintro R w ⟨A,s9,uo_u2,es,d,j,B,q,h1,h3⟩
 obtain rfl:=es.symm
 refine zQT ?_
 obtain ⟨e20,c⟩:=zA7 c
 obtain ⟨x21,q22,c⟩:=zA6 c
 refine zQU d j (eR (.pointer (some ⟨b1_0,3,none⟩))::eF (.rep (eSl eStr) A p0.2.2.2)::eF (.qtr eStr A (gtD p0.2.2.2 3))::eF (.rep eStr A (gtD p0.2.2.2 3))::eF (.rep eStr A x21)::eF (.rep eStr A x21)::[]) ?_ ?_
 exact op (fun Q U W H D=>zAE ((H 1 Z).trans h1) zD7 sizeOf34 (by decide) Z)<|op (fun Q U W H D=>(zAJ ((q.fr W).ok 1 _ Z).1 (D.g 0 Z) zAc Z isAgg34 sizeOf34))<|op (fun Q U W H D=>zAC (D.g 0 Z) Z underlying34 sizeOf9 e20)<|op (fun Q U W H D=>(zAT (QRep.ptr (D.g 0 Z)) isAgg9 sizeOf9))<|op (fun Q U W H D=>zAI call70 (zHS (q22 Z) (d.fr W.size) (D.g 0 Z)))<|op (fun Q U W H D=>zA2 (D.g 0 Z))<|oz
 intro R w m n p d j
 obtain ⟨h1,h3⟩:=k2 n h1 h3
 obtain ⟨u23,h6,f_u23⟩:∃ u,R 6=u/\Rep eStr A w u x21:=⟨_,Z,p 5 _ _ Z Z Z⟩
 replace q:=q.fr m
 refine zQU d j (eR u23::eI (x21.length:Int)::eB (decide (4<=(x21.length:Int)))::[]) ?_ ?_
 exact om h6<|op (fun Q U W H D=>zB0 ((f_u23.fr W).eq (D.g 0 Z)) underlying9)<|op (fun Q U W H D=>zE8 (D.g 0 Z) Z)<|oz
 intro R w m n p d j
 obtain ⟨h1,h3,h6⟩:=k3 n h1 h3 h6
 have h33:=p.r 2 Z
 replace f_u23:=f_u23.fr m
 replace q:=q.fr m
 refine zQM (decide (4<=(x21.length:Int))) h33 (fun c24=>?_) (fun c24=>?_)
 have c:=zAN c24 c
 obtain ⟨e25,e26,e27,e28,c⟩:=ck4 c
 refine zQY [ob uo_u2 (.vec w0.heap.size 9 eStr s9),ob (.pointer (some ⟨b1_0,0,none⟩)) (.box w0.heap.size 51 zA0 p0)] (rR uo_u2::rR u23::rR u23::rI (x21.length:Int)::rI ((x21.length:Int)-4)::(rF fun A=>.rep eStr A (subL x21 ((x21.length:Int)-4) (x21.length:Int)))::(rF fun A=>.rep eStr A (([112]:List UInt8)++(subL x21 ((x21.length:Int)-4) (x21.length:Int))))::(rF fun A=>.rep (eSl eStr) A ([(([112]:List UInt8)++(subL x21 ((x21.length:Int)-4) (x21.length:Int)))]:List (List UInt8)))::⟨_,true,[0],some (.vec w0.heap.size 9 eStr (s9++([(([112]:List UInt8)++(subL x21 ((x21.length:Int)-4) (x21.length:Int)))]:List (List UInt8)))),true,fun A=>.any⟩::⟨_,true,[10],some (.vec w0.heap.size 9 eStr (s9++([(([112]:List UInt8)++(subL x21 ((x21.length:Int)-4) (x21.length:Int)))]:List (List UInt8)))),true,fun A=>.any⟩::[]) (ur (ur (ur (ur (ur (up (up (up (ua (ua (UAll.nil))))))))))) q d ?_ ?_
 exact rm h3<|rm h6<|rm h6<|rp (fun V Q U O D=>zB0 ((f_u23.stp O.stp).eq (D.g 0 Z)) underlying9)<|rp (fun V Q U O D=>zFq (D.g 0 Z) Z e25)<|rp (fun V Q U O D=>zEf ((f_u23.stp O.stp).eq (D.g 0 Z)) (D.g 1 Z) underlying9  e26)<|rp (fun V Q U O D=>zDm ⟨_,Z,⟨_,Z,Z,by decide⟩⟩ (D.g 0 Z) e27)<|rp (fun V Q U O D=>zAe [_] (E:=eStr) ⟨(D.g 0 Z),N⟩ underlying34 sizeOf9 zeroValue9 Z Z Z O.av)<|rc (OblR.took 0 _ _ Z Z Z Z Z fun V Q U O D u X Y J L M=>by have a0:Q 34=uo_u2:=D.g 0 Z;have a1:Rep (eSl eStr) V U (Q 41) ([(([112]:List UInt8)++(subL x21 ((x21.length:Int)-4) (x21.length:Int)))]:List (List UInt8)):=D.g 1 Z;exact zAW (a0.trans (J _ Z).symm) X Y (Nat.le_trans j.size O.ch.size) a1 underlying34 el_9 e28)<|rc (OblR.took 10 _ _ Z Z Z Z Z fun V Q U O D u X Y J L M=>by exact zAD (L _ _ Z Z Z Z).symm X Y)<|rz
 intro done ρ σ A R w y s
 replace h1:=k1 s.rg h1
 obtain ⟨u29,e_u29⟩:∃ u,ρ 11=u:=⟨_,Z⟩
 have h3:=s.ov y 11 9 e_u29
 have z30:=s.inivR 1 Z
 obtain ⟨B,j,d⟩:=s.s B C j q ⟨Z,⟨Z,N⟩⟩
 replace q:=s.left y [(11,ob u29 (.vec w0.heap.size 9 eStr (s9++([(([112]:List UInt8)++(subL x21 ((x21.length:Int)-4) (x21.length:Int)))]:List (List UInt8))))),(1,ob (.pointer (some ⟨b1_0,0,none⟩)) (.box w0.heap.size 51 zA0 p0))] ⟨Z,Z,e_u29,Z,Z,⟨Z,Z,z30,Z,Z,N⟩⟩
 obtain ⟨Yg30,g_Yg30⟩:∃ z:List (List UInt8),z=(s9++([(([112]:List UInt8)++(subL x21 ((x21.length:Int)-4) (x21.length:Int)))]:List (List UInt8))):=⟨_,Z⟩
 rw [<- g_Yg30] at q
 try rw [<- g_Yg30] at c
 refine zQT ?_
 obtain ⟨e32,c⟩:=zA7 c
 obtain ⟨x33,q34,c⟩:=zA6 c
 refine zQU d j (eR (.pointer (some ⟨b1_0,3,none⟩))::eF (.rep (eSl eStr) A p0.2.2.2)::eF (.qtr eStr A (gtD p0.2.2.2 2))::eF (.rep eStr A (gtD p0.2.2.2 2))::eI x33::eI x33::[]) ?_ ?_
 exact op (fun Q U W H D=>zAE ((H 1 Z).trans h1) zD7 sizeOf34 (by decide) Z)<|op (fun Q U W H D=>(zAJ ((q.fr W).ok 1 _ Z).1 (D.g 0 Z) zAc Z isAgg34 sizeOf34))<|op (fun Q U W H D=>zAC (D.g 0 Z) Z underlying34 sizeOf9 e32)<|op (fun Q U W H D=>(zAT (QRep.ptr (D.g 0 Z)) isAgg9 sizeOf9))<|op (fun Q U W H D=>zAI call71 (zFP (q34 Z) (d.fr W.size) (hG0.fr (j.trans W)) (D.g 0 Z)))<|oa<|oz
 intro R w m n p d j
 obtain ⟨h1,h3⟩:=k2 n h1 h3
 have h7:=p.r 5 Z
 replace q:=q.fr m
 refine zQU d j (eI x33::eB (decide (0<x33))::[]) ?_ ?_
 exact om h7<|op (fun Q U W H D=>zDg (D.g 0 Z) Z)<|oz
 intro R w m n p d j
 obtain ⟨h1,h3,h7⟩:=k3 n h1 h3 h7
 have h49:=p.r 1 Z
 replace q:=q.fr m
 refine zQM (decide (0<x33)) h49 (fun c35=>?_) (fun c35=>?_)
 have c:=zAN c35 c
 obtain ⟨e36,c⟩:=zA7 c
 obtain ⟨x37,q38,c⟩:=zA6 c
 refine zQU d j (eR (.pointer (some ⟨b1_0,3,none⟩))::eF (.rep (eSl eStr) A p0.2.2.2)::eF (.qtr eStr A (gtD p0.2.2.2 0))::eF (.rep eStr A (gtD p0.2.2.2 0))::eF (.rep (eSl eStr) A x37)::eI (x37.length:Int)::eI 0::[]) ?_ ?_
 exact op (fun Q U W H D=>zAE ((H 1 Z).trans h1) zD7 sizeOf34 (by decide) Z)<|op (fun Q U W H D=>(zAJ ((q.fr W).ok 1 _ Z).1 (D.g 0 Z) zAc Z isAgg34 sizeOf34))<|op (fun Q U W H D=>zAC (D.g 0 Z) Z underlying34 sizeOf9 e36)<|op (fun Q U W H D=>(zAT (QRep.ptr (D.g 0 Z)) isAgg9 sizeOf9))<|op (fun Q U W H D=>zAI call72 (zEo (q38 Z) (d.fr W.size) (hG0.fr (j.trans W)) (D.g 0 Z)))<|op (fun Q U W H D=>zAK (aT:=#[]) (D.g 0 Z) underlying34)<|op (fun Q U W H D=>zBj Z)<|oz
 intro R w m n p d j
 obtain ⟨h3,h7⟩:=k2 n h3 h7
 obtain ⟨u39,h54,f_u39⟩:∃ u,R 54=u/\Rep (eSl eStr) A w u x37:=⟨_,Z,p 4 _ _ Z Z Z⟩
 have h55:=p.r 5 Z
 have h56:=p.r 6 Z
 replace q:=q.fr m
 replace q:IniOK [ob u29 (.vec w0.heap.size 9 eStr Yg30)] A w:=q.sub [(0,ob u29 (.vec w0.heap.size 9 eStr Yg30))] ⟨Z,Z,N⟩
 obtain ⟨rl40,q41,c⟩:=zA6 c
 replace q41:=q41 Z
 refine zQO (fun R w=>∃ A:Av,∃ (s42:(List (List UInt8))) (uo_u29:Value),rl40=s42/\AvOK A w/\Fr w0 w/\(∀ b o,A0 b o->A b o)/\IniOK [ob uo_u29 (.vec w0.heap.size 9 eStr s42)] A w/\R 3=uo_u29) ?_ ?_
 refine HT.block<|zQS (fun k R w=>∃ A:Av,∃ (y43:Int) (y44:List (List UInt8)) (ul_u29:Value),zBo fu x33 x37 k y43 y44=some rl40/\AvOK A w/\Fr w0 w/\(∀ b o,A0 b o->A b o)/\IniOK [ob ul_u29 (.vec w0.heap.size 9 eStr y44)] A w/\R 3=ul_u29/\R 7=.int .i64 x33/\R 54=u39/\R 55=.int .i64 (x37.length:Int)/\R 56=.int .i64 y43/\Rep (eSl eStr) A w u39 x37) fu ⟨_,_,_,u29,q41,d,j,B,q,h3,h7,h54,h55,h56,f_u39⟩ ?_
 have hr0:=c;clear c q41
 rintro k R w ⟨A,y43,y44,ul_u29,c,d,j,B,q,h3,h7,h54,h55,h56,f_u39⟩
 rcases k with _ | k
 cases (show none=some _ from c)
 rw [zBo] at c
 refine zQU d j (eB (decide (y43<(x37.length:Int)))::[]) ?_ ?_
 exact op (fun Q U W H D=>zAk ((H 56 Z).trans h56) ((H 55 Z).trans h55))<|oz
 intro R w m n p d j
 obtain ⟨h3,h7,h54,h55,h56⟩:=k5 n h3 h7 h54 h55 h56
 have h57:=p.r 0 Z
 replace f_u39:=f_u39.fr m
 replace q:=q.fr m
 refine zQT<|zQM (decide (y43<(x37.length:Int))) h57 (fun c45=>?_) (fun c45=>?_)
 have c:=zAN c45 c
 refine HT.skip<|zQT<|HT.block ?_
 obtain ⟨e46,c⟩:=zA7 c
 refine zQU d j (eF (.qtr eStr A (gtD x37 y43))::eF (.rep eStr A (gtD x37 y43))::eF (.rep eStr A (gtD x37 y43))::[]) ?_ ?_
 exact op (fun Q U W H D=>zAC ((f_u39.fr W).eq ((H 54 Z).trans h54)) ((H 56 Z).trans h56) underlying34 sizeOf9 e46)<|op (fun Q U W H D=>(zAT (QRep.ptr (D.g 0 Z)) isAgg9 sizeOf9))<|op (fun Q U W H D=>zA2 (D.g 0 Z))<|oz
 intro R w m n p d j
 obtain ⟨h3,h7,h54,h55,h56⟩:=k5 n h3 h7 h54 h55 h56
 obtain ⟨u47,h9,f_u47⟩:∃ u,R 9=u/\Rep eStr A w u (gtD x37 y43):=⟨_,Z,p 2 _ _ Z Z Z⟩
 replace f_u39:=f_u39.fr m
 replace q:=q.fr m
 obtain ⟨x48,q49,c⟩:=zA6 c
 obtain ⟨e50,e51,e52,e53,c⟩:=ck4 c
 refine zQQ [ob ul_u29 (.vec w0.heap.size 9 eStr y44)] (rR ul_u29::rI x33::(rF fun A=>.rep eStr A x48)::(rF fun A=>.rep eStr A (([121]:List UInt8)++x48))::rR u47::(rF fun A=>.rep eStr A (subL (gtD x37 y43) 0 1))::(rF fun A=>.rep eStr A ((([121]:List UInt8)++x48)++(subL (gtD x37 y43) 0 1)))::(rF fun A=>.rep (eSl eStr) A ([((([121]:List UInt8)++x48)++(subL (gtD x37 y43) 0 1))]:List (List UInt8)))::⟨_,true,[0],some (.vec w0.heap.size 9 eStr (y44++([((([121]:List UInt8)++x48)++(subL (gtD x37 y43) 0 1))]:List (List UInt8)))),true,fun A=>.any⟩::⟨_,true,[9],some (.vec w0.heap.size 9 eStr (y44++([((([121]:List UInt8)++x48)++(subL (gtD x37 y43) 0 1))]:List (List UInt8)))),true,fun A=>.any⟩::[]) (by kernel_rfl) (by kernel_rfl) (by kernel_rfl) (Wf.mk' (by kernel_rfl) (ur (ur (up (up (ur (up (up (up (ua (ua (UAll.nil))))))))))) (by kernel_rfl) (by kernel_rfl)) q d ?_ ?_
 exact rm h3<|rm h7<|rp (fun V Q U O D=>zAI call73 (zEH (q49 Z) O.av (hG0.fr (j.tr O.ch (q.ge (⟨Z,N⟩)))) (D.g 0 Z)))<|rp (fun V Q U O D=>zDm ⟨_,Z,⟨_,Z,Z,by decide⟩⟩ (D.g 0 Z) e50)<|rm h9<|rp (fun V Q U O D=>zCZ ((f_u47.stp O.stp).eq (D.g 0 Z)) Z underlying9  e51)<|rp (fun V Q U O D=>zDm (D.g 0 Z) (D.g 1 Z) e52)<|rp (fun V Q U O D=>zAe [_] (E:=eStr) ⟨(D.g 0 Z),N⟩ underlying34 sizeOf9 zeroValue9 Z Z Z O.av)<|rc (OblR.took 0 _ _ Z Z Z Z Z fun V Q U O D u X Y J L M=>by have a0:Q 60=ul_u29:=D.g 0 Z;have a1:Rep (eSl eStr) V U (Q 67) ([((([121]:List UInt8)++x48)++(subL (gtD x37 y43) 0 1))]:List (List UInt8)):=D.g 1 Z;exact zAW (a0.trans (J _ Z).symm) X Y (Nat.le_trans j.size O.ch.size) a1 underlying34 el_9 e53)<|rc (OblR.took 9 _ _ Z Z Z Z Z fun V Q U O D u X Y J L M=>by exact zAD (L _ _ Z Z Z Z).symm X Y)<|rz
 intro done ρ σ A R w y s
 obtain ⟨h7,h54,h55,h56⟩:=k4 s.rg h7 h54 h55 h56
 obtain ⟨u54,e_u54⟩:∃ u,ρ 10=u:=⟨_,Z⟩
 have h3:=s.ov y 10 9 e_u54
 replace f_u39:=f_u39.stp s.stp
 obtain ⟨B,j,d⟩:=s.s B C j q ⟨Z,N⟩
 replace q:=s.left y [(10,ob u54 (.vec w0.heap.size 9 eStr (y44++([((([121]:List UInt8)++x48)++(subL (gtD x37 y43) 0 1))]:List (List UInt8)))))] ⟨Z,Z,e_u54,Z,Z,N⟩
 obtain ⟨e55,c⟩:=zA7 c
 refine HT.u d j (eI (y43+1)::eI (y43+1)::[]) ?_ ?_
 exact op (fun Q U W H D=>zAS ((H 56 Z).trans h56) Z e55)<|ov<|oz
 intro R w m n p d j
 obtain ⟨h3,h7,h54,h55⟩:=k4 n h3 h7 h54 h55
 have h56:=p.r 1 Z
 replace f_u39:=f_u39.fr m
 replace q:=q.fr m
 exact ei k (And.intro (Nat.lt_succ_self k) ⟨_,_,_,u54,c,d,j,B,q,h3,h7,h54,h55,h56,f_u39⟩)
 have c:=zAM c45 c
 refine zQR ?_
 obtain rfl:=si c
 exact ei _ ⟨_,ul_u29,Z,d,j,B,q,h3⟩
 rintro R w ⟨A,s42,uo_u29,es,d,j,B,q,h3⟩
 obtain rfl:=es.symm
 obtain ⟨x56,q57,c⟩:=zA6 c
 refine zQV [ob uo_u29 (.vec w0.heap.size 9 eStr s42)] (rR uo_u29::⟨_,true,[],some (.vec w0.heap.size 9 eStr x56),true,fun A=>.any⟩::⟨_,true,[2],some (.vec w0.heap.size 9 eStr x56),true,fun A=>.any⟩::[]) (ur (ua (ua (UAll.nil)))) q d ?_ ?_
 exact rm h3<|rc (OblR.made _ Z Z Z Z fun V Q U O D=>by have a0:Q 70=uo_u29:=D.g 0 Z;have ra0:=(zCB (O.rd 0 _ Z Z) (O.low' B C (q.ge (⟨Z,N⟩))) C).eq a0;exact zFF call42 (zBq (q57 Z) (hA00.fr ((Nat.le_trans j.size O.ch.size))) ra0) (Nat.le_trans j.size O.ch.size) (O.low' B C (q.ge (⟨Z,N⟩))) (fun _ _ _ _ _ h=>h))<|rc (OblR.took 2 _ _ Z Z Z Z Z fun V Q U O D u X Y J L M=>by exact zAD (L _ _ Z Z Z Z).symm X Y)<|rz
 intro done ρ σ A R w y s
 have z58:=s.inivR 0 Z
 obtain ⟨u59,e_u59⟩:∃ u,ρ 3=u:=⟨_,Z⟩
 have h2:=s.ov y 3 2 e_u59
 obtain ⟨B,j,d⟩:=s.s B C j q ⟨Z,N⟩
 replace q:=s.left y [(3,ob u59 (.vec w0.heap.size 9 eStr x56))] ⟨Z,Z,e_u59,Z,Z,N⟩
 refine HT.ret ?_
 obtain rfl:=si c
 exact ⟨.inr Z,[R 2],⟨Z,N⟩,(zC7 (q.ok 0 _ Z) B h2),j⟩
 have c:=zAM c35 c
 refine HT.skip ?_
 obtain ⟨x60,q61,c⟩:=zA6 c
 refine zQV [ob u29 (.vec w0.heap.size 9 eStr Yg30),ob (.pointer (some ⟨b1_0,0,none⟩)) (.box w0.heap.size 51 zA0 p0)] (rR u29::⟨_,true,[],some (.vec w0.heap.size 9 eStr x60),true,fun A=>.any⟩::⟨_,true,[3],some (.vec w0.heap.size 9 eStr x60),true,fun A=>.any⟩::[]) (ur (ua (ua (UAll.nil)))) q d ?_ ?_
 exact rm h3<|rc (OblR.made _ Z Z Z Z fun V Q U O D=>by have a0:Q 70=u29:=D.g 0 Z;have ra0:=(zCB (O.rd 0 _ Z Z) (O.low' B C (q.ge (⟨Z,⟨Z,N⟩⟩))) C).eq a0;exact zFF call42 (zBq (q61 Z) (hA00.fr ((Nat.le_trans j.size O.ch.size))) ra0) (Nat.le_trans j.size O.ch.size) (O.low' B C (q.ge (⟨Z,⟨Z,N⟩⟩))) (fun _ _ _ _ _ h=>h))<|rc (OblR.took 3 _ _ Z Z Z Z Z fun V Q U O D u X Y J L M=>by exact zAD (L _ _ Z Z Z Z).symm X Y)<|rz
 intro done ρ σ A R w y s
 have z62:=s.inivR 0 Z
 have z63:=s.inivR 1 Z
 obtain ⟨u64,e_u64⟩:∃ u,ρ 4=u:=⟨_,Z⟩
 have h2:=s.ov y 4 2 e_u64
 obtain ⟨B,j,d⟩:=s.s B C j q ⟨Z,⟨Z,N⟩⟩
 replace q:=s.left y [(4,ob u64 (.vec w0.heap.size 9 eStr x60))] ⟨Z,Z,e_u64,Z,Z,N⟩
 refine HT.ret ?_
 obtain rfl:=si c
 exact ⟨.inr Z,[R 2],⟨Z,N⟩,(zC7 (q.ok 0 _ Z) B h2),j⟩
 have c:=zAM c24 c
 refine HT.skip<|zQT ?_
 obtain ⟨e65,c⟩:=zA7 c
 obtain ⟨x66,q67,c⟩:=zA6 c
 refine zQU d j (eR (.pointer (some ⟨b1_0,3,none⟩))::eF (.rep (eSl eStr) A p0.2.2.2)::eF (.qtr eStr A (gtD p0.2.2.2 2))::eF (.rep eStr A (gtD p0.2.2.2 2))::eI x66::eI x66::[]) ?_ ?_
 exact op (fun Q U W H D=>zAE ((H 1 Z).trans h1) zD7 sizeOf34 (by decide) Z)<|op (fun Q U W H D=>(zAJ ((q.fr W).ok 1 _ Z).1 (D.g 0 Z) zAc Z isAgg34 sizeOf34))<|op (fun Q U W H D=>zAC (D.g 0 Z) Z underlying34 sizeOf9 e65)<|op (fun Q U W H D=>(zAT (QRep.ptr (D.g 0 Z)) isAgg9 sizeOf9))<|op (fun Q U W H D=>zAI call71 (zFP (q67 Z) (d.fr W.size) (hG0.fr (j.trans W)) (D.g 0 Z)))<|oa<|oz
 intro R w m n p d j
 obtain ⟨h1,h3⟩:=k2 n h1 h3
 have h7:=p.r 5 Z
 replace q:=q.fr m
 refine zQU d j (eI x66::eB (decide (0<x66))::[]) ?_ ?_
 exact om h7<|op (fun Q U W H D=>zDg (D.g 0 Z) Z)<|oz
 intro R w m n p d j
 obtain ⟨h1,h3,h7⟩:=k3 n h1 h3 h7
 have h49:=p.r 1 Z
 replace q:=q.fr m
 refine zQM (decide (0<x66)) h49 (fun c68=>?_) (fun c68=>?_)
 have c:=zAN c68 c
 obtain ⟨e69,c⟩:=zA7 c
 obtain ⟨x70,q71,c⟩:=zA6 c
 refine zQU d j (eR (.pointer (some ⟨b1_0,3,none⟩))::eF (.rep (eSl eStr) A p0.2.2.2)::eF (.qtr eStr A (gtD p0.2.2.2 0))::eF (.rep eStr A (gtD p0.2.2.2 0))::eF (.rep (eSl eStr) A x70)::eI (x70.length:Int)::eI 0::[]) ?_ ?_
 exact op (fun Q U W H D=>zAE ((H 1 Z).trans h1) zD7 sizeOf34 (by decide) Z)<|op (fun Q U W H D=>(zAJ ((q.fr W).ok 1 _ Z).1 (D.g 0 Z) zAc Z isAgg34 sizeOf34))<|op (fun Q U W H D=>zAC (D.g 0 Z) Z underlying34 sizeOf9 e69)<|op (fun Q U W H D=>(zAT (QRep.ptr (D.g 0 Z)) isAgg9 sizeOf9))<|op (fun Q U W H D=>zAI call72 (zEo (q71 Z) (d.fr W.size) (hG0.fr (j.trans W)) (D.g 0 Z)))<|op (fun Q U W H D=>zAK (aT:=#[]) (D.g 0 Z) underlying34)<|op (fun Q U W H D=>zBj Z)<|oz
 intro R w m n p d j
 obtain ⟨h3,h7⟩:=k2 n h3 h7
 obtain ⟨u72,h54,f_u72⟩:∃ u,R 54=u/\Rep (eSl eStr) A w u x70:=⟨_,Z,p 4 _ _ Z Z Z⟩
 have h55:=p.r 5 Z
 have h56:=p.r 6 Z
 replace q:=q.fr m
 replace q:IniOK [ob uo_u2 (.vec w0.heap.size 9 eStr s9)] A w:=q.sub [(0,ob uo_u2 (.vec w0.heap.size 9 eStr s9))] ⟨Z,Z,N⟩
 obtain ⟨rl73,q74,c⟩:=zA6 c
 replace q74:=q74 Z
 refine zQO (fun R w=>∃ A:Av,∃ (s75:(List (List UInt8))) (uo_uo_u2:Value),rl73=s75/\AvOK A w/\Fr w0 w/\(∀ b o,A0 b o->A b o)/\IniOK [ob uo_uo_u2 (.vec w0.heap.size 9 eStr s75)] A w/\R 3=uo_uo_u2) ?_ ?_
 refine HT.block<|zQS (fun k R w=>∃ A:Av,∃ (y76:Int) (y77:List (List UInt8)) (ul_uo_u2:Value),zBm fu x66 x70 k y76 y77=some rl73/\AvOK A w/\Fr w0 w/\(∀ b o,A0 b o->A b o)/\IniOK [ob ul_uo_u2 (.vec w0.heap.size 9 eStr y77)] A w/\R 3=ul_uo_u2/\R 7=.int .i64 x66/\R 54=u72/\R 55=.int .i64 (x70.length:Int)/\R 56=.int .i64 y76/\Rep (eSl eStr) A w u72 x70) fu ⟨_,_,_,uo_u2,q74,d,j,B,q,h3,h7,h54,h55,h56,f_u72⟩ ?_
 have hr0:=c;clear c q74
 rintro k R w ⟨A,y76,y77,ul_uo_u2,c,d,j,B,q,h3,h7,h54,h55,h56,f_u72⟩
 rcases k with _ | k
 cases (show none=some _ from c)
 rw [zBm] at c
 refine zQU d j (eB (decide (y76<(x70.length:Int)))::[]) ?_ ?_
 exact op (fun Q U W H D=>zAk ((H 56 Z).trans h56) ((H 55 Z).trans h55))<|oz
 intro R w m n p d j
 obtain ⟨h3,h7,h54,h55,h56⟩:=k5 n h3 h7 h54 h55 h56
 have h57:=p.r 0 Z
 replace f_u72:=f_u72.fr m
 replace q:=q.fr m
 refine zQT<|zQM (decide (y76<(x70.length:Int))) h57 (fun c78=>?_) (fun c78=>?_)
 have c:=zAN c78 c
 refine HT.skip<|zQT<|HT.block ?_
 obtain ⟨e79,c⟩:=zA7 c
 refine zQU d j (eF (.qtr eStr A (gtD x70 y76))::eF (.rep eStr A (gtD x70 y76))::eF (.rep eStr A (gtD x70 y76))::[]) ?_ ?_
 exact op (fun Q U W H D=>zAC ((f_u72.fr W).eq ((H 54 Z).trans h54)) ((H 56 Z).trans h56) underlying34 sizeOf9 e79)<|op (fun Q U W H D=>(zAT (QRep.ptr (D.g 0 Z)) isAgg9 sizeOf9))<|op (fun Q U W H D=>zA2 (D.g 0 Z))<|oz
 intro R w m n p d j
 obtain ⟨h3,h7,h54,h55,h56⟩:=k5 n h3 h7 h54 h55 h56
 obtain ⟨u80,h9,f_u80⟩:∃ u,R 9=u/\Rep eStr A w u (gtD x70 y76):=⟨_,Z,p 2 _ _ Z Z Z⟩
 replace f_u72:=f_u72.fr m
 replace q:=q.fr m
 obtain ⟨x81,q82,c⟩:=zA6 c
 obtain ⟨e83,e84,e85,e86,c⟩:=ck4 c
 refine zQQ [ob ul_uo_u2 (.vec w0.heap.size 9 eStr y77)] (rR ul_uo_u2::rI x66::(rF fun A=>.rep eStr A x81)::(rF fun A=>.rep eStr A (([121]:List UInt8)++x81))::rR u80::(rF fun A=>.rep eStr A (subL (gtD x70 y76) 0 1))::(rF fun A=>.rep eStr A ((([121]:List UInt8)++x81)++(subL (gtD x70 y76) 0 1)))::(rF fun A=>.rep (eSl eStr) A ([((([121]:List UInt8)++x81)++(subL (gtD x70 y76) 0 1))]:List (List UInt8)))::⟨_,true,[0],some (.vec w0.heap.size 9 eStr (y77++([((([121]:List UInt8)++x81)++(subL (gtD x70 y76) 0 1))]:List (List UInt8)))),true,fun A=>.any⟩::⟨_,true,[9],some (.vec w0.heap.size 9 eStr (y77++([((([121]:List UInt8)++x81)++(subL (gtD x70 y76) 0 1))]:List (List UInt8)))),true,fun A=>.any⟩::[]) (by kernel_rfl) (by kernel_rfl) (by kernel_rfl) (Wf.mk' (by kernel_rfl) (ur (ur (up (up (ur (up (up (up (ua (ua (UAll.nil))))))))))) (by kernel_rfl) (by kernel_rfl)) q d ?_ ?_
 exact rm h3<|rm h7<|rp (fun V Q U O D=>zAI call73 (zEH (q82 Z) O.av (hG0.fr (j.tr O.ch (q.ge (⟨Z,N⟩)))) (D.g 0 Z)))<|rp (fun V Q U O D=>zDm ⟨_,Z,⟨_,Z,Z,by decide⟩⟩ (D.g 0 Z) e83)<|rm h9<|rp (fun V Q U O D=>zCZ ((f_u80.stp O.stp).eq (D.g 0 Z)) Z underlying9  e84)<|rp (fun V Q U O D=>zDm (D.g 0 Z) (D.g 1 Z) e85)<|rp (fun V Q U O D=>zAe [_] (E:=eStr) ⟨(D.g 0 Z),N⟩ underlying34 sizeOf9 zeroValue9 Z Z Z O.av)<|rc (OblR.took 0 _ _ Z Z Z Z Z fun V Q U O D u X Y J L M=>by have a0:Q 60=ul_uo_u2:=D.g 0 Z;have a1:Rep (eSl eStr) V U (Q 67) ([((([121]:List UInt8)++x81)++(subL (gtD x70 y76) 0 1))]:List (List UInt8)):=D.g 1 Z;exact zAW (a0.trans (J _ Z).symm) X Y (Nat.le_trans j.size O.ch.size) a1 underlying34 el_9 e86)<|rc (OblR.took 9 _ _ Z Z Z Z Z fun V Q U O D u X Y J L M=>by exact zAD (L _ _ Z Z Z Z).symm X Y)<|rz
 intro done ρ σ A R w y s
 obtain ⟨h7,h54,h55,h56⟩:=k4 s.rg h7 h54 h55 h56
 obtain ⟨u87,e_u87⟩:∃ u,ρ 10=u:=⟨_,Z⟩
 have h3:=s.ov y 10 9 e_u87
 replace f_u72:=f_u72.stp s.stp
 obtain ⟨B,j,d⟩:=s.s B C j q ⟨Z,N⟩
 replace q:=s.left y [(10,ob u87 (.vec w0.heap.size 9 eStr (y77++([((([121]:List UInt8)++x81)++(subL (gtD x70 y76) 0 1))]:List (List UInt8)))))] ⟨Z,Z,e_u87,Z,Z,N⟩
 obtain ⟨e88,c⟩:=zA7 c
 refine HT.u d j (eI (y76+1)::eI (y76+1)::[]) ?_ ?_
 exact op (fun Q U W H D=>zAS ((H 56 Z).trans h56) Z e88)<|ov<|oz
 intro R w m n p d j
 obtain ⟨h3,h7,h54,h55⟩:=k4 n h3 h7 h54 h55
 have h56:=p.r 1 Z
 replace f_u72:=f_u72.fr m
 replace q:=q.fr m
 exact ei k (And.intro (Nat.lt_succ_self k) ⟨_,_,_,u87,c,d,j,B,q,h3,h7,h54,h55,h56,f_u72⟩)
 have c:=zAM c78 c
 refine zQR ?_
 obtain rfl:=si c
 exact ei _ ⟨_,ul_uo_u2,Z,d,j,B,q,h3⟩
 rintro R w ⟨A,s75,uo_uo_u2,es,d,j,B,q,h3⟩
 obtain rfl:=es.symm
 obtain ⟨x89,q90,c⟩:=zA6 c
 refine zQV [ob uo_uo_u2 (.vec w0.heap.size 9 eStr s75)] (rR uo_uo_u2::⟨_,true,[],some (.vec w0.heap.size 9 eStr x89),true,fun A=>.any⟩::⟨_,true,[2],some (.vec w0.heap.size 9 eStr x89),true,fun A=>.any⟩::[]) (ur (ua (ua (UAll.nil)))) q d ?_ ?_
 exact rm h3<|rc (OblR.made _ Z Z Z Z fun V Q U O D=>by have a0:Q 70=uo_uo_u2:=D.g 0 Z;have ra0:=(zCB (O.rd 0 _ Z Z) (O.low' B C (q.ge (⟨Z,N⟩))) C).eq a0;exact zFF call42 (zBq (q90 Z) (hA00.fr ((Nat.le_trans j.size O.ch.size))) ra0) (Nat.le_trans j.size O.ch.size) (O.low' B C (q.ge (⟨Z,N⟩))) (fun _ _ _ _ _ h=>h))<|rc (OblR.took 2 _ _ Z Z Z Z Z fun V Q U O D u X Y J L M=>by exact zAD (L _ _ Z Z Z Z).symm X Y)<|rz
 intro done ρ σ A R w y s
 have z91:=s.inivR 0 Z
 obtain ⟨u92,e_u92⟩:∃ u,ρ 3=u:=⟨_,Z⟩
 have h2:=s.ov y 3 2 e_u92
 obtain ⟨B,j,d⟩:=s.s B C j q ⟨Z,N⟩
 replace q:=s.left y [(3,ob u92 (.vec w0.heap.size 9 eStr x89))] ⟨Z,Z,e_u92,Z,Z,N⟩
 refine HT.ret ?_
 obtain rfl:=si c
 exact ⟨.inr Z,[R 2],⟨Z,N⟩,(zC7 (q.ok 0 _ Z) B h2),j⟩
 have c:=zAM c68 c
 refine HT.skip ?_
 obtain ⟨x93,q94,c⟩:=zA6 c
 refine zQV [ob uo_u2 (.vec w0.heap.size 9 eStr s9),ob (.pointer (some ⟨b1_0,0,none⟩)) (.box w0.heap.size 51 zA0 p0)] (rR uo_u2::⟨_,true,[],some (.vec w0.heap.size 9 eStr x93),true,fun A=>.any⟩::⟨_,true,[3],some (.vec w0.heap.size 9 eStr x93),true,fun A=>.any⟩::[]) (ur (ua (ua (UAll.nil)))) q d ?_ ?_
 exact rm h3<|rc (OblR.made _ Z Z Z Z fun V Q U O D=>by have a0:Q 70=uo_u2:=D.g 0 Z;have ra0:=(zCB (O.rd 0 _ Z Z) (O.low' B C (q.ge (⟨Z,⟨Z,N⟩⟩))) C).eq a0;exact zFF call42 (zBq (q94 Z) (hA00.fr ((Nat.le_trans j.size O.ch.size))) ra0) (Nat.le_trans j.size O.ch.size) (O.low' B C (q.ge (⟨Z,⟨Z,N⟩⟩))) (fun _ _ _ _ _ h=>h))<|rc (OblR.took 3 _ _ Z Z Z Z Z fun V Q U O D u X Y J L M=>by exact zAD (L _ _ Z Z Z Z).symm X Y)<|rz
 intro done ρ σ A R w y s
 have z95:=s.inivR 0 Z
 have z96:=s.inivR 1 Z
 obtain ⟨u97,e_u97⟩:∃ u,ρ 4=u:=⟨_,Z⟩
 have h2:=s.ov y 4 2 e_u97
 obtain ⟨B,j,d⟩:=s.s B C j q ⟨Z,⟨Z,N⟩⟩
 replace q:=s.left y [(4,ob u97 (.vec w0.heap.size 9 eStr x93))] ⟨Z,Z,e_u97,Z,Z,N⟩
 refine HT.ret ?_
 obtain rfl:=si c
 exact ⟨.inr Z,[R 2],⟨Z,N⟩,(zC7 (q.ok 0 _ Z) B h2),j⟩
theorem zGl {fu : Nat} {A0 : Av} {p0 : zA4} {r : List (List UInt8)} (c : zCH fu p0 = some r) {w : World} {v0 : Value} (d : AvOK A0 w) (hG : GTab w) (h0 : Rep zA0 A0 w v0 p0) :
 Calls prog 41 #[v0] w fun e w'=>∃ v,e=.returned v/\(Rep (eSl eStr) A0 w' v r/\Fr w w'):=by
 refine Calls.mono (zFO c d hG h0) ?_
 rintro e w' ⟨v,he,hv,hf⟩
 exact ⟨v,he,zCB hv (fun b o h=>.inl h) d,hf⟩
def zAs (fu : Nat) (y14 : Int) (x23 : List (List UInt8)) : Nat -> Int -> (List (List UInt8)) -> (MpT Int) -> Option ((List (List UInt8)) × (MpT Int))
 | 0,_,_,_=>none
 | k+1,y29,y30,y31=>
 bif (decide (y29<(x23.length:Int))) then (
 ck (inR y29 x23.length) <|
 ck (zBJ (y30.length+([(gtD x23 y29)]:List (List UInt8)).length)) <|
 ck (decide ((gtD x23 y29) ∉ y31.2.1)) <|
 ck (zBJ ((y31.1 (gtD x23 y29)).length+([y14]:List Int).length)) <|
 ck (decide (y31.2.2<maxLen)) <|
 ck (i64B (y29+1)) <|
 zAs fu y14 x23 k (y29+1) (y30++([(gtD x23 y29)]:List (List UInt8))) ((fun s'=>if s'=(gtD x23 y29) then ((y31.1 (gtD x23 y29))++([y14]:List Int)) else y31.1 s'),y31.2.1,y31.2.2+1)
 ) else (
 some (y30,y31)
 )
def zAh (fu : Nat) (p0 : List zA4) : Nat -> Int -> (List (List UInt8)) -> (MpT Int) -> Option ((List (List UInt8)) × (MpT Int))
 | 0,_,_,_=>none
 | k+1,y14,y15,y16=>
 bif (decide (y14<(p0.length:Int))) then (
 ck (inR y14 p0.length) <|
 cl true (zCH fu (gtD p0 y14)) fun x23=>
 cl true (zAs fu y14 x23 fu 0 y15 y16) fun s28=>
 ck (i64B (y14+1)) <|
 zAh fu p0 k (y14+1) s28.1 s28.2
 ) else (
 some (y15,y16)
 )
def zAg (fu : Nat) (x55 : List (List UInt8)) : Nat -> Int -> (MpT Int) -> (List zAF) -> Option (List zAF)
 | 0,_,_,_=>none
 | k+1,y67,y68,y69=>
 bif (decide (y67<(x55.length:Int))) then (
 ck (inR y67 x55.length) <|
 ck (decide ((gtD x55 y67) ∉ y68.2.1)) <|
 ck (zBJ (y69.length+1)) <|
 ck (i64B (y67+1)) <|
 zAg fu x55 k (y67+1) (y68.1,(gtD x55 y67)::y68.2.1,y68.2.2) (y69 ++ [((gtD x55 y67),(y68.1 (gtD x55 y67)))])
 ) else (
 some y69
 )
def zBh (fu:Nat) (p0:List zA4):Option (List zAF):=
 cl (true&&((decide (12<(p0.length:Int)))==false)) (zDN fu p0) fun x1=>
 bd ((decide (12<(p0.length:Int))) || (!x1)) fun x3=>
 bif x3 then (
 some ([]:List zAF)
 ) else (
 cl true (zAh fu p0 fu 0 ([]:List (List UInt8)) ((fun _=>[]:List UInt8->List Int),([]:List (List UInt8)),(0:Nat))) fun s13=>
 cl true (zBB fu s13.1) fun x55=>
 cl true (zAg fu x55 fu 0 s13.2 ([]:List zAF)) fun s66=>
 some s66
 )
set_option linter.unusedSimpArgs false in
theorem zGa {fu : Nat} {A0 : Av} {p0 : List zA4} {r : List zAF} (c : zBh fu p0 = some r) {w : World} {v0 : Value} (d : AvOK A0 w) (hG : GTab w) (h0 : Rep (eSl zA0) A0 w v0 p0) :
 Calls prog 11 #[v0] w fun e w'=>∃ v,e=.returned v/\(zGo A0 (trR (geB w.heap.size) (oSl 54 (oPr (oRd eStr) (oSl 3 (oRd (eInt .i64))))) r []) (fun _=>.any) w v w'):=by
 unfold zBh at c
 obtain ⟨w0,hw0,j,C⟩:=pw d
 have hA00:AvOK A0 w0:=C
 rw [show zGo A0 (trR (geB w.heap.size) (oSl 54 (oPr (oRd eStr) (oSl 3 (oRd (eInt .i64))))) r []) (fun _=>.any) w=zGo A0 (trR (geB w0.heap.size) (oSl 54 (oPr (oRd eStr) (oSl 3 (oRd (eInt .i64))))) r []) (fun _=>.any) w0 from hw0 ▸ Z]
 have hG0:GTab w0:=hw0 ▸ hG
 obtain ⟨A,hAe,B,d,q⟩:=pa d
 refine zA9 [.tmp 2] func11 ntmps11 (by decide) Z Z (nb Z) ?_
 intro R hR
 have f_v0:Rep (eSl zA0) A w v0 p0:=hAe ▸ h0
 replace h0:R 0=v0:=hR 0 _ Z
 refine zQU d j (eA::[]) ?_ ?_
 exact op (fun Q U W H D=>zA2 N)<|oz
 intro R w m n p d j
 replace h0:=k1 n h0
 replace f_v0:=f_v0.fr m
 replace q:=q.fr m
 refine zQT<|zQT ?_
 obtain ⟨x1,q2,c⟩:=zA6 c
 obtain ⟨x3,q4,c⟩:=zAU c
 refine HT.u d j (eR v0::eI (p0.length:Int)::eB (decide (12<(p0.length:Int)))::eB (decide (12<(p0.length:Int)))::gR (true&&((decide (12<(p0.length:Int)))==false)) v0::gB (true&&((decide (12<(p0.length:Int)))==false)) x1::gB (true&&((decide (12<(p0.length:Int)))==false)) (!x1)::eB x3::[]) ?_ ?_
 exact om h0<|op (fun Q U W H D=>zAK (aT:=#[]) ((f_v0.fr W).eq (D.g 0 Z)) underlying26)<|op (fun Q U W H D=>zDg (D.g 0 Z) Z)<|ov<|gm 3 false h0<|og 3 false (fun G Q U W H D=>zAI call40 (zGu (q2 G) (d.fr W.size) ((f_v0.fr W).eq (D.h 0 G Z))))<|og 3 false (fun G Q U W H D=>zDU (D.h 0 G Z))<|op (fun Q U W H D=>zAX (decide (12<(p0.length:Int))) (D.g 0 Z) (fun hc=>by show _=Value.bool x3;rw [q4,hc];exact Z) (fun hc=>by have a2:Q 18=.bool (!x1):=D 1 _ _ _ Z Z Z Z (zC2 Z (zB2 hc));show _=Value.bool x3;rw [q4,hc];exact a2))<|oz
 intro R w m n p d j
 replace h0:=k1 n h0
 have h19:=p.r 7 Z
 replace f_v0:=f_v0.fr m
 replace q:=q.fr m
 refine zQM x3 h19 (fun c5=>?_) (fun c5=>?_)
 have c:=zAN c5 c
 refine zQV [] (⟨_,true,[],some (trR (geB w0.heap.size) (oSl 54 (oPr (oRd eStr) (oSl 3 (oRd (eInt .i64))))) ([]:List zAF) []),true,fun A=>.any⟩::[]) (ua (UAll.nil)) q d ?_ ?_
 exact rc (zQZ _ Z Z Z Z fun V Q U O D=>by exact zKc Z)<|rz
 intro done ρ σ A R w y s
 obtain ⟨u6,e_u6⟩:∃ u,ρ 0=u:=⟨_,Z⟩
 have h2:=s.ov y 0 0 e_u6
 obtain ⟨S7,eS_u6⟩:∃ S,σ 0=S:=⟨_,Z⟩
 obtain ⟨B,j,d⟩:=s.s B C j q N
 replace q:=s.left y [(0,⟨u6,S7,trR (geB w0.heap.size) (oSl 54 (oPr (oRd eStr) (oSl 3 (oRd (eInt .i64))))) ([]:List zAF) []⟩)] ⟨Z,Z,e_u6,eS_u6,Z,N⟩
 refine HT.ret ?_
 obtain rfl:=si c
 exact ⟨.inr Z,[R 2],⟨Z,N⟩,zKX Z (q.own 0 _ Z) (q.ok 0 _ Z).2 B j h2 N⟩
 have c:=zAM c5 c
 refine HT.skip<|zQV [] (⟨_,true,[],some (.gen (geB w0.heap.size) (mapX prog 9 w0.heap.size 3 (eInt .i64) ((fun _=>[]:List UInt8->List Int),([]:List (List UInt8)),(0:Nat)))),true,fun A=>.any⟩::⟨_,true,[0],some (.gen (geB w0.heap.size) (mapX prog 9 w0.heap.size 3 (eInt .i64) ((fun _=>[]:List UInt8->List Int),([]:List (List UInt8)),(0:Nat)))),true,fun A=>.any⟩::[]) (ua (ua (UAll.nil))) q d ?_ ?_
 exact rc (zQZ _ Z Z Z Z fun V Q U O D=>by exact zOK (Nat.le_trans j.size O.ch.size) (fun k hk=>Nat.le_trans (Nat.le_trans j.size O.ch.size) hk))<|rc (zQb 0 _ _ Z Z Z Z Z fun V Q U O D u S X I Y J L M=>by exact zI9 (L _ _ Z Z Z Z).symm I.2 Y I.1)<|rz
 intro done ρ σ A R w y s
 replace h0:=k1 s.rg h0
 obtain ⟨u8,e_u8⟩:∃ u,ρ 1=u:=⟨_,Z⟩
 have h3:=s.ov y 1 1 e_u8
 obtain ⟨S9,eS_u8⟩:∃ S,σ 1=S:=⟨_,Z⟩
 replace f_v0:=f_v0.stp s.stp
 obtain ⟨B,j,d⟩:=s.s B C j q N
 replace q:=s.left y [(1,⟨u8,S9,.gen (geB w0.heap.size) (mapX prog 9 w0.heap.size 3 (eInt .i64) ((fun _=>[]:List UInt8->List Int),([]:List (List UInt8)),(0:Nat)))⟩)] ⟨Z,Z,e_u8,eS_u8,Z,N⟩
 refine zQU d j (eR (.slice none 0 0)::[]) ?_ ?_
 exact op (fun Q U W H D=>zA2 Z)<|oz
 intro R w m n p d j
 obtain ⟨h0,h3⟩:=k2 n h0 h3
 obtain ⟨u10,n_u10⟩:∃ u,u=Value.slice none 0 0:=⟨_,Z⟩
 have h4:R 4=u10:=(p 0 _ _ Z Z Z).trans n_u10.symm
 replace f_v0:=f_v0.fr m
 replace q:=q.fr m
 replace q:=q.nilcons (u:=u10) n_u10 w0.heap.size 9 eStr
 refine zQT<|zQU d j (eR v0::eI (p0.length:Int)::eI 0::[]) ?_ ?_
 exact om h0<|op (fun Q U W H D=>zAK (aT:=#[]) ((f_v0.fr W).eq (D.g 0 Z)) underlying26)<|op (fun Q U W H D=>zBj Z)<|oz
 intro R w m n p d j
 obtain ⟨h3,h4⟩:=k2 n h3 h4
 have h21:=p.r 0 Z
 have h22:=p.r 1 Z
 have h23:=p.r 2 Z
 replace f_v0:=f_v0.fr m
 replace q:=q.fr m
 obtain ⟨rl11,q12,c⟩:=zA6 c
 replace q12:=q12 Z
 refine zQO (fun R w=>∃ A:Av,∃ (s13:(List (List UInt8)) × (MpT Int)) (uo_u10:Value) (So_u8:Nat->Prop),rl11=s13/\AvOK A w/\Fr w0 w/\(∀ b o,A0 b o->A b o)/\IniOK [ob uo_u10 (.vec w0.heap.size 9 eStr s13.1),⟨u8,So_u8,.gen (geB w0.heap.size) (mapX prog 9 w0.heap.size 3 (eInt .i64) s13.2)⟩] A w/\R 3=u8/\R 4=uo_u10) ?_ ?_
 refine HT.block<|zQS (fun k R w=>∃ A:Av,∃ (y14:Int) (y15:List (List UInt8)) (y16:MpT Int) (ul_u10:Value) (Sl_u8:Nat->Prop),zAh fu p0 k y14 y15 y16=some rl11/\AvOK A w/\Fr w0 w/\(∀ b o,A0 b o->A b o)/\IniOK [ob ul_u10 (.vec w0.heap.size 9 eStr y15),⟨u8,Sl_u8,.gen (geB w0.heap.size) (mapX prog 9 w0.heap.size 3 (eInt .i64) y16)⟩] A w/\R 3=u8/\R 4=ul_u10/\R 21=v0/\R 22=.int .i64 (p0.length:Int)/\R 23=.int .i64 y14/\Rep (eSl zA0) A w v0 p0) fu ⟨_,_,_,_,u10,S9,q12,d,j,B,q,h3,h4,h21,h22,h23,f_v0⟩ ?_
 have hr0:=c;clear c q12
 rintro k R w ⟨A,y14,y15,y16,ul_u10,Sl_u8,c,d,j,B,q,h3,h4,h21,h22,h23,f_v0⟩
 rcases k with _ | k
 cases (show none=some _ from c)
 rw [zAh] at c
 refine zQU d j (eB (decide (y14<(p0.length:Int)))::[]) ?_ ?_
 exact op (fun Q U W H D=>zAk ((H 23 Z).trans h23) ((H 22 Z).trans h22))<|oz
 intro R w m n p d j
 obtain ⟨h3,h4,h21,h22,h23⟩:=k5 n h3 h4 h21 h22 h23
 have h24:=p.r 0 Z
 replace f_v0:=f_v0.fr m
 replace q:=q.fr m
 refine zQT<|zQM (decide (y14<(p0.length:Int))) h24 (fun c17=>?_) (fun c17=>?_)
 have c:=zAN c17 c
 refine HT.skip<|zQT<|HT.block ?_
 obtain ⟨e18,c⟩:=zA7 c
 refine zQV [ob ul_u10 (.vec w0.heap.size 9 eStr y15),⟨u8,Sl_u8,.gen (geB w0.heap.size) (mapX prog 9 w0.heap.size 3 (eInt .i64) y16)⟩] (rI y14::(rF fun A=>.qtr zA0 A (gtD p0 y14))::(rF fun A=>.rep zA0 A (gtD p0 y14))::⟨_,true,[],some (.box w0.heap.size 51 zA0 (0,(0,(0,([]:List (List UInt8)))))),true,fun A=>.any⟩::rI y14::⟨_,true,[5],some (.box w0.heap.size 51 zA0 (gtD p0 y14)),false,fun A=>.any⟩::[]) (ur (UAll.cons zDl (up (ua (ur (ua (UAll.nil))))))) q d ?_ ?_
 exact rm h23<|rp (fun V Q U O D=>zAC ((f_v0.stp O.stp).eq ((O.old 21 Z).trans h21)) ((O.old 23 Z).trans h23) underlying26 sizeOf51 e18)<|rp (fun V Q U O D=>(zAT (QRep.ptr (D.g 0 Z)) isAgg51 sizeOf51))<|rc (OblR.made _ Z Z Z Z fun V Q U O D=>by exact zFl zeroValue51 (fun A w=>zFJ zBk (zFJ zBk (zFJ zBk zFx))) (Nat.le_trans j.size O.ch.size))<|ra<|rc (OblR.took 5 _ _ Z Z Z Z Z fun V Q U O D u X Y J L M=>by have a1:Rep zA0 V U (Q 27) (gtD p0 y14):=D.g 1 Z;obtain ⟨b,hb,hB',hbx⟩:=X;have hop':=L _ _ Z Z Z Z;exact zCs a1 (hop'.symm.trans hb) hb ⟨b,hb,hB',hbx⟩ Y (FldS.id _) sizeOf51 Z)<|rz
 intro done ρ σ A R w y s
 obtain ⟨h3,h4,h21,h22,h23⟩:=k5 s.rg h3 h4 h21 h22 h23
 have z19:=s.inivR 0 Z
 have z20:=s.inivR 1 Z
 obtain ⟨b6_20,e_b6_20⟩:=s.boxv y 7 Z Z
 have z22:=(s.opnR y 7 5 Z Z Z Z Z).symm.trans e_b6_20
 have h6:=s.ov y 5 3 z22
 have eS_u8:=s.inisR 1 Z
 have h5:=s.r y 4 Z
 replace f_v0:=f_v0.stp s.stp
 obtain ⟨B,j,d⟩:=s.s B C j q ⟨Z,⟨fun _ h=>h,N⟩⟩
 replace q:=s.left y [(0,ob ul_u10 (.vec w0.heap.size 9 eStr y15)),(1,⟨u8,Sl_u8,.gen (geB w0.heap.size) (mapX prog 9 w0.heap.size 3 (eInt .i64) y16)⟩),(7,ob (.pointer (some ⟨b6_20,0,none⟩)) (.box w0.heap.size 51 zA0 (gtD p0 y14)))] ⟨Z,Z,z19,Z,Z,⟨Z,Z,z20,eS_u8,Z,⟨Z,Z,e_b6_20,Z,Z,N⟩⟩⟩
 obtain ⟨x23,q24,c⟩:=zA6 c
 refine zQU d j (eF (.rep zA0 A (gtD p0 y14))::eF (.rep (eSl eStr) A x23)::eI (x23.length:Int)::eI 0::[]) ?_ ?_
 exact op (fun Q U W H D=>(zAJ ((q.fr W).ok 2 _ Z).1 ((H 6 Z).trans h6) (Fld.id _) Z isAgg51 sizeOf51))<|op (fun Q U W H D=>zAI call41 (zGl (q24 Z) (d.fr W.size) (hG0.fr (j.trans W)) (D.g 0 Z)))<|op (fun Q U W H D=>zAK (aT:=#[]) (D.g 0 Z) underlying34)<|op (fun Q U W H D=>zBj Z)<|oz
 intro R w m n p d j
 obtain ⟨h3,h4,h5,h21,h22,h23⟩:=k6 n h3 h4 h5 h21 h22 h23
 obtain ⟨u25,h29,f_u25⟩:∃ u,R 29=u/\Rep (eSl eStr) A w u x23:=⟨_,Z,p 1 _ _ Z Z Z⟩
 have h30:=p.r 2 Z
 have h31:=p.r 3 Z
 replace f_v0:=f_v0.fr m
 replace q:=q.fr m
 replace q:IniOK [ob ul_u10 (.vec w0.heap.size 9 eStr y15),⟨u8,Sl_u8,.gen (geB w0.heap.size) (mapX prog 9 w0.heap.size 3 (eInt .i64) y16)⟩] A w:=q.sub [(0,ob ul_u10 (.vec w0.heap.size 9 eStr y15)),(1,⟨u8,Sl_u8,.gen (geB w0.heap.size) (mapX prog 9 w0.heap.size 3 (eInt .i64) y16)⟩)] ⟨Z,Z,⟨Z,Z,N⟩⟩
 obtain ⟨rl26,q27,c⟩:=zA6 c
 replace q27:=q27 Z
 refine zQO (fun R w=>∃ A:Av,∃ (s28:(List (List UInt8)) × (MpT Int)) (uo_ul_u10:Value) (So_u8:Nat->Prop),rl26=s28/\AvOK A w/\Fr w0 w/\(∀ b o,A0 b o->A b o)/\IniOK [ob uo_ul_u10 (.vec w0.heap.size 9 eStr s28.1),⟨u8,So_u8,.gen (geB w0.heap.size) (mapX prog 9 w0.heap.size 3 (eInt .i64) s28.2)⟩] A w/\R 3=u8/\R 4=uo_ul_u10/\R 21=v0/\R 22=.int .i64 (p0.length:Int)/\R 23=.int .i64 y14/\Rep (eSl zA0) A w v0 p0) ?_ ?_
 refine HT.block<|zQS (fun k R w=>∃ A:Av,∃ (y29:Int) (y30:List (List UInt8)) (y31:MpT Int) (ul_ul_u10:Value) (Sl_u8:Nat->Prop),zAs fu y14 x23 k y29 y30 y31=some rl26/\AvOK A w/\Fr w0 w/\(∀ b o,A0 b o->A b o)/\IniOK [ob ul_ul_u10 (.vec w0.heap.size 9 eStr y30),⟨u8,Sl_u8,.gen (geB w0.heap.size) (mapX prog 9 w0.heap.size 3 (eInt .i64) y31)⟩] A w/\R 3=u8/\R 4=ul_ul_u10/\R 5=.int .i64 y14/\R 21=v0/\R 22=.int .i64 (p0.length:Int)/\R 23=.int .i64 y14/\R 29=u25/\R 30=.int .i64 (x23.length:Int)/\R 31=.int .i64 y29/\Rep (eSl eStr) A w u25 x23/\Rep (eSl zA0) A w v0 p0) fu ⟨_,_,_,_,ul_u10,Sl_u8,q27,d,j,B,q,h3,h4,h5,h21,h22,h23,h29,h30,h31,f_u25,f_v0⟩ ?_
 have hr0:=c;clear c q27
 rintro k R w ⟨A,y29,y30,y31,ul_ul_u10,Sl_u8,c,d,j,B,q,h3,h4,h5,h21,h22,h23,h29,h30,h31,f_u25,f_v0⟩
 rcases k with _ | k
 cases (show none=some _ from c)
 rw [zAs] at c
 refine zQU d j (eB (decide (y29<(x23.length:Int)))::[]) ?_ ?_
 exact op (fun Q U W H D=>zAk ((H 31 Z).trans h31) ((H 30 Z).trans h30))<|oz
 intro R w m n p d j
 obtain ⟨h3,h4,h5,h21,h22,h23⟩:=k6 n h3 h4 h5 h21 h22 h23
 obtain ⟨h29,h30,h31⟩:=k3 n h29 h30 h31
 have h32:=p.r 0 Z
 replace f_u25:=f_u25.fr m
 replace f_v0:=f_v0.fr m
 replace q:=q.fr m
 refine zQT<|zQM (decide (y29<(x23.length:Int))) h32 (fun c32=>?_) (fun c32=>?_)
 have c:=zAN c32 c
 refine HT.skip<|zQT<|HT.block ?_
 obtain ⟨e33,c⟩:=zA7 c
 refine zQU d j (eF (.qtr eStr A (gtD x23 y29))::eF (.rep eStr A (gtD x23 y29))::eF (.rep eStr A (gtD x23 y29))::[]) ?_ ?_
 exact op (fun Q U W H D=>zAC ((f_u25.fr W).eq ((H 29 Z).trans h29)) ((H 31 Z).trans h31) underlying34 sizeOf9 e33)<|op (fun Q U W H D=>(zAT (QRep.ptr (D.g 0 Z)) isAgg9 sizeOf9))<|op (fun Q U W H D=>zA2 (D.g 0 Z))<|oz
 intro R w m n p d j
 obtain ⟨h3,h4,h5,h21,h22,h23⟩:=k6 n h3 h4 h5 h21 h22 h23
 obtain ⟨h29,h30,h31⟩:=k3 n h29 h30 h31
 obtain ⟨u34,h8,f_u34⟩:∃ u,R 8=u/\Rep eStr A w u (gtD x23 y29):=⟨_,Z,p 2 _ _ Z Z Z⟩
 replace f_u25:=f_u25.fr m
 replace f_v0:=f_v0.fr m
 replace q:=q.fr m
 obtain ⟨e35,c⟩:=zA7 c
 refine zQV [ob ul_ul_u10 (.vec w0.heap.size 9 eStr y30),⟨u8,Sl_u8,.gen (geB w0.heap.size) (mapX prog 9 w0.heap.size 3 (eInt .i64) y31)⟩] (rR ul_ul_u10::rR u34::(rF fun A=>.rep (eSl eStr) A ([(gtD x23 y29)]:List (List UInt8)))::⟨_,true,[0],some (.vec w0.heap.size 9 eStr (y30++([(gtD x23 y29)]:List (List UInt8)))),true,fun A=>.any⟩::⟨_,true,[5],some (.vec w0.heap.size 9 eStr (y30++([(gtD x23 y29)]:List (List UInt8)))),true,fun A=>.any⟩::[]) (ur (ur (up (ua (ua (UAll.nil)))))) q d ?_ ?_
 exact rm h4<|rm h8<|rp (fun V Q U O D=>zAe [_] (E:=eStr) ⟨((f_u34.stp O.stp).eq (D.g 0 Z)),N⟩ underlying34 sizeOf9 zeroValue9 Z Z Z O.av)<|rc (OblR.took 0 _ _ Z Z Z Z Z fun V Q U O D u X Y J L M=>by have a0:Q 35=ul_ul_u10:=D.g 0 Z;have a1:Rep (eSl eStr) V U (Q 37) ([(gtD x23 y29)]:List (List UInt8)):=D.g 1 Z;exact zAW (a0.trans (J _ Z).symm) X Y (Nat.le_trans j.size O.ch.size) a1 underlying34 el_9 e35)<|rc (OblR.took 5 _ _ Z Z Z Z Z fun V Q U O D u X Y J L M=>by exact zAD (L _ _ Z Z Z Z).symm X Y)<|rz
 intro done ρ σ A R w y s
 obtain ⟨h3,h5,h8,h21,h22,h23⟩:=k6 s.rg h3 h5 h8 h21 h22 h23
 obtain ⟨h29,h30,h31⟩:=k3 s.rg h29 h30 h31
 obtain ⟨u36,e_u36⟩:∃ u,ρ 6=u:=⟨_,Z⟩
 have h4:=s.ov y 6 4 e_u36
 have z37:=s.inivR 1 Z
 have eS_u8:=s.inisR 1 Z
 replace f_u25:=f_u25.stp s.stp
 replace f_u34:=f_u34.stp s.stp
 replace f_v0:=f_v0.stp s.stp
 obtain ⟨B,j,d⟩:=s.s B C j q ⟨Z,⟨fun _ h=>h,N⟩⟩
 replace q:=s.left y [(6,ob u36 (.vec w0.heap.size 9 eStr (y30++([(gtD x23 y29)]:List (List UInt8))))),(1,⟨u8,Sl_u8,.gen (geB w0.heap.size) (mapX prog 9 w0.heap.size 3 (eInt .i64) y31)⟩)] ⟨Z,Z,e_u36,Z,Z,⟨Z,Z,z37,eS_u8,Z,N⟩⟩
 refine SG.of<|SG.textR [ob u36 (.vec w0.heap.size 9 eStr (y30++([(gtD x23 y29)]:List (List UInt8)))),⟨u8,Sl_u8,.gen (geB w0.heap.size) (mapX prog 9 w0.heap.size 3 (eInt .i64) y31)⟩] (rR u8::rR u34::rR u8::rR u34::[]) 4 Z Z Z (by kernel_rfl) (by kernel_rfl) (Wf.mk' (by kernel_rfl) (ur (ur (ur (ur (UAll.nil))))) (by kernel_rfl) (by kernel_rfl)) q d (N) ?_ ?_
 exact rm h3<|rm h8<|rm h3<|rm h8<|rz
 intro done ρ σ A R w y s
 obtain ⟨h3,h4,h5,h21,h22,h23⟩:=k6 s.rg h3 h4 h5 h21 h22 h23
 obtain ⟨h29,h30,h31⟩:=k3 s.rg h29 h30 h31
 have z38:=s.inivR 0 Z
 have z39:=s.inivR 1 Z
 have eS_u8:=s.inisR 1 Z
 have h39:=s.r y 0 Z
 have h40:=s.r y 1 Z
 have h41:=s.r y 2 Z
 have h42:=s.r y 3 Z
 replace f_u25:=f_u25.stp s.stp
 replace f_u34:=f_u34.stp s.stp
 replace f_v0:=f_v0.stp s.stp
 obtain ⟨B,j,d⟩:=s.s B C j q ⟨Z,⟨fun _ h=>h,N⟩⟩
 replace q:=s.left y [(0,ob u36 (.vec w0.heap.size 9 eStr (y30++([(gtD x23 y29)]:List (List UInt8))))),(1,⟨u8,Sl_u8,.gen (geB w0.heap.size) (mapX prog 9 w0.heap.size 3 (eInt .i64) y31)⟩)] ⟨Z,Z,z38,Z,Z,⟨Z,Z,z39,eS_u8,Z,N⟩⟩
 obtain ⟨e40,c⟩:=zA7 c
 refine zQd 43 Z Z Z Z (zJH q 1 Z underlying9 underlying62 (zeroValue52 _) h41 (f_u34.eq h42) (of_decide_eq_true e40) zIs) ?_
 rintro u41 w1 ⟨hw_,S42,hO2,-⟩ R n hd
 obtain rfl:w=w1:=hw_.symm
 have hst:Stp A A w w:=(Fr.refl w).stp A
 replace q:IniOK [ob u36 (.vec w0.heap.size 9 eStr (y30++([(gtD x23 y29)]:List (List UInt8)))),⟨u8,S42,.gen (geB w0.heap.size) (mapX prog 9 w0.heap.size 3 (eInt .i64) (y31.1,(gtD x23 y29)::y31.2.1,y31.2.2))⟩,ob u41 (.vec w0.heap.size 3 (eInt .i64) (y31.1 (gtD x23 y29)))] A w:=hO2
 replace h3:=(n 3 Z).trans h3
 replace h4:=(n 4 Z).trans h4
 replace h5:=(n 5 Z).trans h5
 replace h21:=(n 21 Z).trans h21
 replace h22:=(n 22 Z).trans h22
 replace h23:=(n 23 Z).trans h23
 replace h29:=(n 29 Z).trans h29
 replace h30:=(n 30 Z).trans h30
 replace h31:=(n 31 Z).trans h31
 replace h39:=(n 39 Z).trans h39
 replace h40:=(n 40 Z).trans h40
 replace h41:=(n 41 Z).trans h41
 replace h42:=(n 42 Z).trans h42
 replace f_u25:=f_u25.stp hst
 replace f_u34:=f_u34.stp hst
 replace f_v0:=f_v0.stp hst
 have h43:R 43=u41:=hd
 clear n hd hst
 obtain ⟨e43,c⟩:=zA7 c
 refine SG.textR [ob u36 (.vec w0.heap.size 9 eStr (y30++([(gtD x23 y29)]:List (List UInt8)))),⟨u8,S42,.gen (geB w0.heap.size) (mapX prog 9 w0.heap.size 3 (eInt .i64) (y31.1,(gtD x23 y29)::y31.2.1,y31.2.2))⟩,ob u41 (.vec w0.heap.size 3 (eInt .i64) (y31.1 (gtD x23 y29)))] (rR u8::rR u34::rR u8::rR u34::rR u41::rI y14::(rF fun A=>.rep (eSl (eInt .i64)) A ([y14]:List Int))::⟨_,true,[2],some (.vec w0.heap.size 3 (eInt .i64) ((y31.1 (gtD x23 y29))++([y14]:List Int))),true,fun A=>.any⟩::[]) 8 Z Z Z (by kernel_rfl) (by kernel_rfl) (Wf.mk' (by kernel_rfl) (ur (ur (ur (ur (ur (ur (up (ua (UAll.nil))))))))) (by kernel_rfl) (by kernel_rfl)) q d (⟨⟨Z,Z,Z,h39⟩,⟨⟨Z,Z,Z,h40⟩,⟨⟨Z,Z,Z,h41⟩,⟨⟨Z,Z,Z,h42⟩,⟨⟨Z,Z,Z,h43⟩,N⟩⟩⟩⟩⟩) ?_ ?_
 exact rm h5<|rp (fun V Q U O D=>zAe [_] (E:=eInt .i64) ⟨(zBT.eq (D.g 0 Z)),N⟩ underlying52 sizeOf3 zeroValue3 Z Z Z O.av)<|rc (OblR.took 2 _ _ Z Z Z Z Z fun V Q U O D u X Y J L M=>by have a0:Q 43=u41:=D.g 0 Z;have a1:Rep (eSl (eInt .i64)) V U (Q 45) ([y14]:List Int):=D.g 1 Z;exact zAW (a0.trans (J _ Z).symm) X Y (Nat.le_trans j.size O.ch.size) a1 underlying52 el_3 e43)<|rz
 intro done ρ σ A R w y s
 obtain ⟨h3,h4,h5,h21,h22,h23⟩:=k6 s.rg h3 h4 h5 h21 h22 h23
 obtain ⟨h29,h30,h31⟩:=k3 s.rg h29 h30 h31
 have z44:=s.inivR 0 Z
 have z45:=s.inivR 1 Z
 obtain ⟨u46,e_u46⟩:∃ u,ρ 10=u:=⟨_,Z⟩
 have h46:=s.ov y 10 7 e_u46
 have eS_u8:=s.inisR 1 Z
 have h39:=s.r y 0 Z
 have h40:=s.r y 1 Z
 replace f_u25:=f_u25.stp s.stp
 replace f_u34:=f_u34.stp s.stp
 replace f_v0:=f_v0.stp s.stp
 obtain ⟨B,j,d⟩:=s.s B C j q ⟨Z,⟨fun _ h=>h,⟨Z,N⟩⟩⟩
 replace q:=s.left y [(0,ob u36 (.vec w0.heap.size 9 eStr (y30++([(gtD x23 y29)]:List (List UInt8))))),(1,⟨u8,S42,.gen (geB w0.heap.size) (mapX prog 9 w0.heap.size 3 (eInt .i64) (y31.1,(gtD x23 y29)::y31.2.1,y31.2.2))⟩),(10,ob u46 (.vec w0.heap.size 3 (eInt .i64) ((y31.1 (gtD x23 y29))++([y14]:List Int))))] ⟨Z,Z,z44,Z,Z,⟨Z,Z,z45,eS_u8,Z,⟨Z,Z,e_u46,Z,Z,N⟩⟩⟩
 obtain ⟨e47,c⟩:=zA7 c
 refine SG.op0 Z Z Z (zJk q d 1 2 Z Z (by decide) underlying9 underlying62 (of_decide_eq_true e47) h39 (f_u34.eq h40) h46 (of_decide_eq_true e40) (fun k hk=>zMx (q.ok 2 _ Z).1 (q.own 2 _ Z) k hk)) ?_
 rintro v_ w ⟨hch,hst,hA2,hO2⟩
 replace j:Fr w0 w:=j.tr hch ((q.own 1 _ Z).1)
 replace d:=hA2
 replace q:IniOK [ob u36 (.vec w0.heap.size 9 eStr (y30++([(gtD x23 y29)]:List (List UInt8)))),⟨u8,(fun k=>S42 k\/zAB u46 k),.gen (geB w0.heap.size) (mapX prog 9 w0.heap.size 3 (eInt .i64) ((fun s'=>if s'=(gtD x23 y29) then ((y31.1 (gtD x23 y29))++([y14]:List Int)) else y31.1 s'),y31.2.1,y31.2.2+1))⟩,⟨undef,(fun _=>False),.nul⟩] A w:=hO2
 replace q:IniOK [ob u36 (.vec w0.heap.size 9 eStr (y30++([(gtD x23 y29)]:List (List UInt8)))),⟨u8,(fun k=>S42 k\/zAB u46 k),.gen (geB w0.heap.size) (mapX prog 9 w0.heap.size 3 (eInt .i64) ((fun s'=>if s'=(gtD x23 y29) then ((y31.1 (gtD x23 y29))++([y14]:List Int)) else y31.1 s'),y31.2.1,y31.2.2+1))⟩] A w:=q.sub [(0,ob u36 (.vec w0.heap.size 9 eStr (y30++([(gtD x23 y29)]:List (List UInt8))))),(1,⟨u8,(fun k=>S42 k\/zAB u46 k),.gen (geB w0.heap.size) (mapX prog 9 w0.heap.size 3 (eInt .i64) ((fun s'=>if s'=(gtD x23 y29) then ((y31.1 (gtD x23 y29))++([y14]:List Int)) else y31.1 s'),y31.2.1,y31.2.2+1))⟩)] ⟨Z,Z,⟨Z,Z,N⟩⟩
 obtain ⟨S48,e_S48⟩:∃ S,S=fun k=>S42 k\/zAB u46 k:=⟨_,Z⟩
 replace q:IniOK [ob u36 (.vec w0.heap.size 9 eStr (y30++([(gtD x23 y29)]:List (List UInt8)))),⟨u8,S48,.gen (geB w0.heap.size) (mapX prog 9 w0.heap.size 3 (eInt .i64) ((fun s'=>if s'=(gtD x23 y29) then ((y31.1 (gtD x23 y29))++([y14]:List Int)) else y31.1 s'),y31.2.1,y31.2.2+1))⟩] A w:=e_S48 ▸ q
 replace f_u25:=f_u25.stp hst
 replace f_u34:=f_u34.stp hst
 replace f_v0:=f_v0.stp hst
 clear hst hch
 refine zQc Z ?_
 obtain ⟨e49,c⟩:=zA7 c
 refine HT.u d j (eI (y29+1)::eI (y29+1)::[]) ?_ ?_
 exact op (fun Q U W H D=>zAS ((H 31 Z).trans h31) Z e49)<|ov<|oz
 intro R w m n p d j
 obtain ⟨h3,h4,h5,h21,h22,h23⟩:=k6 n h3 h4 h5 h21 h22 h23
 obtain ⟨h29,h30⟩:=k2 n h29 h30
 have h31:=p.r 1 Z
 replace f_u25:=f_u25.fr m
 replace f_v0:=f_v0.fr m
 replace q:=q.fr m
 exact ei k (And.intro (Nat.lt_succ_self k) ⟨_,_,_,_,u36,S48,c,d,j,B,q,h3,h4,h5,h21,h22,h23,h29,h30,h31,f_u25,f_v0⟩)
 have c:=zAM c32 c
 refine zQR ?_
 obtain rfl:=si c
 exact ei _ ⟨_,ul_ul_u10,Sl_u8,Z,d,j,B,q,h3,h4,h21,h22,h23,f_v0⟩
 rintro R w ⟨A,s28,uo_ul_u10,So_u8,es,d,j,B,q,h3,h4,h21,h22,h23,f_v0⟩
 obtain rfl:=es.symm
 obtain ⟨e50,c⟩:=zA7 c
 refine HT.u d j (eI (y14+1)::eI (y14+1)::[]) ?_ ?_
 exact op (fun Q U W H D=>zAS ((H 23 Z).trans h23) Z e50)<|ov<|oz
 intro R w m n p d j
 obtain ⟨h3,h4,h21,h22⟩:=k4 n h3 h4 h21 h22
 have h23:=p.r 1 Z
 replace f_v0:=f_v0.fr m
 replace q:=q.fr m
 exact ei k (And.intro (Nat.lt_succ_self k) ⟨_,_,_,_,uo_ul_u10,So_u8,c,d,j,B,q,h3,h4,h21,h22,h23,f_v0⟩)
 have c:=zAM c17 c
 refine zQR ?_
 obtain rfl:=si c
 exact ei _ ⟨_,ul_u10,Sl_u8,Z,d,j,B,q,h3,h4⟩
 rintro R w ⟨A,s13,uo_u10,So_u8,es,d,j,B,q,h3,h4⟩
 obtain rfl:=es.symm
 refine zQV [ob uo_u10 (.vec w0.heap.size 9 eStr s13.1),⟨u8,So_u8,.gen (geB w0.heap.size) (mapX prog 9 w0.heap.size 3 (eInt .i64) s13.2)⟩] (⟨_,true,[],some (trR (geB w0.heap.size) (oSl 54 (oPr (oRd eStr) (oSl 3 (oRd (eInt .i64))))) ([]:List zAF) []),true,fun A=>.any⟩::[]) (ua (UAll.nil)) q d ?_ ?_
 exact rc (zQZ _ Z Z Z Z fun V Q U O D=>by exact zKc Z)<|rz
 intro done ρ σ A R w y s
 obtain ⟨h3,h4⟩:=k2 s.rg h3 h4
 have z51:=s.inivR 0 Z
 have z52:=s.inivR 1 Z
 obtain ⟨u53,e_u53⟩:∃ u,ρ 2=u:=⟨_,Z⟩
 have h9:=s.ov y 2 0 e_u53
 have eS_u8:=s.inisR 1 Z
 obtain ⟨S54,eS_u53⟩:∃ S,σ 2=S:=⟨_,Z⟩
 obtain ⟨B,j,d⟩:=s.s B C j q ⟨Z,⟨fun _ h=>h,N⟩⟩
 replace q:=s.left y [(0,ob uo_u10 (.vec w0.heap.size 9 eStr s13.1)),(1,⟨u8,So_u8,.gen (geB w0.heap.size) (mapX prog 9 w0.heap.size 3 (eInt .i64) s13.2)⟩),(2,⟨u53,S54,trR (geB w0.heap.size) (oSl 54 (oPr (oRd eStr) (oSl 3 (oRd (eInt .i64))))) ([]:List zAF) []⟩)] ⟨Z,Z,z51,Z,Z,⟨Z,Z,z52,eS_u8,Z,⟨Z,Z,e_u53,eS_u53,Z,N⟩⟩⟩
 refine zQT<|zQT<|SG.of ?_
 obtain ⟨x55,q56,c⟩:=zA6 c
 refine SG.textR [ob uo_u10 (.vec w0.heap.size 9 eStr s13.1),⟨u8,So_u8,.gen (geB w0.heap.size) (mapX prog 9 w0.heap.size 3 (eInt .i64) s13.2)⟩,⟨u53,S54,trR (geB w0.heap.size) (oSl 54 (oPr (oRd eStr) (oSl 3 (oRd (eInt .i64))))) ([]:List zAF) []⟩] (rR uo_u10::⟨_,true,[],some (.vec w0.heap.size 9 eStr x55),true,fun A=>.any⟩::[]) 2 Z Z Z (by kernel_rfl) (by kernel_rfl) (Wf.mk' (by kernel_rfl) (ur (ua (UAll.nil))) (by kernel_rfl) (by kernel_rfl)) q d (N) ?_ ?_
 exact rm h4<|rc (OblR.made _ Z Z Z Z fun V Q U O D=>by have a0:Q 49=uo_u10:=D.g 0 Z;have ra0:=(zCB (O.rd 0 _ Z Z) (O.low' B C (q.ge (⟨Z,⟨fun _ h=>h,⟨fun _ h=>h,N⟩⟩⟩))) C).eq a0;exact zFF call42 (zBq (q56 Z) (hA00.fr ((Nat.le_trans j.size O.ch.size))) ra0) (Nat.le_trans j.size O.ch.size) (O.low' B C (q.ge (⟨Z,⟨fun _ h=>h,⟨fun _ h=>h,N⟩⟩⟩))) (fun _ _ _ _ _ h=>h))<|rz
 intro done ρ σ A R w y s
 obtain ⟨h3,h9⟩:=k2 s.rg h3 h9
 have z57:=s.inivR 0 Z
 have z58:=s.inivR 1 Z
 have z59:=s.inivR 2 Z
 obtain ⟨u60,e_u60⟩:∃ u,ρ 4=u:=⟨_,Z⟩
 have h50:=s.ov y 4 1 e_u60
 have eS_u8:=s.inisR 1 Z
 have eS_u53:=s.inisR 2 Z
 obtain ⟨B,j,d⟩:=s.s B C j q ⟨Z,⟨fun _ h=>h,⟨fun _ h=>h,N⟩⟩⟩
 replace q:=s.left y [(1,⟨u8,So_u8,.gen (geB w0.heap.size) (mapX prog 9 w0.heap.size 3 (eInt .i64) s13.2)⟩),(2,⟨u53,S54,trR (geB w0.heap.size) (oSl 54 (oPr (oRd eStr) (oSl 3 (oRd (eInt .i64))))) ([]:List zAF) []⟩),(4,ob u60 (.vec w0.heap.size 9 eStr x55))] ⟨Z,Z,z58,eS_u8,Z,⟨Z,Z,z59,eS_u53,Z,⟨Z,Z,e_u60,Z,Z,N⟩⟩⟩
 refine SG.textR [⟨u8,So_u8,.gen (geB w0.heap.size) (mapX prog 9 w0.heap.size 3 (eInt .i64) s13.2)⟩,⟨u53,S54,trR (geB w0.heap.size) (oSl 54 (oPr (oRd eStr) (oSl 3 (oRd (eInt .i64))))) ([]:List zAF) []⟩,ob u60 (.vec w0.heap.size 9 eStr x55)] (rA::rR u60::rI (x55.length:Int)::rI 0::[]) 4 Z Z Z (by kernel_rfl) (by kernel_rfl) (Wf.mk' (by kernel_rfl) (ua (ur (ur (ur (UAll.nil))))) (by kernel_rfl) (by kernel_rfl)) q d (⟨⟨Z,Z,Z,N⟩,⟨⟨Z,Z,Z,h50⟩,N⟩⟩) ?_ ?_
 exact rp (fun V Q U O D=>zBu (q.ok 2 _ Z).1 (D.g 0 Z) underlying34)<|rp (fun V Q U O D=>zBj Z)<|rz
 intro done ρ σ A R w y s
 obtain ⟨h3,h9⟩:=k2 s.rg h3 h9
 have z61:=s.inivR 0 Z
 have z62:=s.inivR 1 Z
 have z63:=s.inivR 2 Z
 have eS_u8:=s.inisR 0 Z
 have eS_u53:=s.inisR 1 Z
 have h50:=s.r y 1 Z
 have h51:=s.r y 2 Z
 have h52:=s.r y 3 Z
 obtain ⟨B,j,d⟩:=s.s B C j q ⟨fun _ h=>h,⟨fun _ h=>h,⟨Z,N⟩⟩⟩
 replace q:=s.left y [(0,⟨u8,So_u8,.gen (geB w0.heap.size) (mapX prog 9 w0.heap.size 3 (eInt .i64) s13.2)⟩),(1,⟨u53,S54,trR (geB w0.heap.size) (oSl 54 (oPr (oRd eStr) (oSl 3 (oRd (eInt .i64))))) ([]:List zAF) []⟩),(2,ob u60 (.vec w0.heap.size 9 eStr x55))] ⟨Z,Z,z61,eS_u8,Z,⟨Z,Z,z62,eS_u53,Z,⟨Z,Z,z63,Z,Z,N⟩⟩⟩
 refine zQc Z ?_
 obtain ⟨rl64,q65,c⟩:=zA6 c
 replace q65:=q65 Z
 refine zQO (fun R w=>∃ A:Av,∃ (s66:(List zAF)) (uo_u53:Value) (So_u53:Nat->Prop),rl64=s66/\AvOK A w/\Fr w0 w/\(∀ b o,A0 b o->A b o)/\IniOK [⟨uo_u53,So_u53,trR (geB w0.heap.size) (oSl 54 (oPr (oRd eStr) (oSl 3 (oRd (eInt .i64))))) s66 []⟩] A w/\R 9=uo_u53) ?_ ?_
 refine HT.block<|zQS (fun k R w=>∃ A:Av,∃ (y67:Int) (y68:MpT Int) (y69:List zAF) (Sl_u8:Nat->Prop) (ul_u53:Value) (Sl_u53:Nat->Prop),zAg fu x55 k y67 y68 y69=some rl64/\AvOK A w/\Fr w0 w/\(∀ b o,A0 b o->A b o)/\IniOK [⟨u8,Sl_u8,.gen (geB w0.heap.size) (mapX prog 9 w0.heap.size 3 (eInt .i64) y68)⟩,⟨ul_u53,Sl_u53,trR (geB w0.heap.size) (oSl 54 (oPr (oRd eStr) (oSl 3 (oRd (eInt .i64))))) y69 []⟩,ob u60 (.vec w0.heap.size 9 eStr x55)] A w/\R 3=u8/\R 9=ul_u53/\R 50=u60/\R 51=.int .i64 (x55.length:Int)/\R 52=.int .i64 y67) fu ⟨_,_,_,_,So_u8,u53,S54,q65,d,j,B,q,h3,h9,h50,h51,h52⟩ ?_
 have hr0:=c;clear c q65
 rintro k R w ⟨A,y67,y68,y69,Sl_u8,ul_u53,Sl_u53,c,d,j,B,q,h3,h9,h50,h51,h52⟩
 rcases k with _ | k
 cases (show none=some _ from c)
 rw [zAg] at c
 refine zQU d j (eB (decide (y67<(x55.length:Int)))::[]) ?_ ?_
 exact op (fun Q U W H D=>zAk ((H 52 Z).trans h52) ((H 51 Z).trans h51))<|oz
 intro R w m n p d j
 obtain ⟨h3,h9,h50,h51,h52⟩:=k5 n h3 h9 h50 h51 h52
 have h53:=p.r 0 Z
 replace q:=q.fr m
 refine zQT<|zQM (decide (y67<(x55.length:Int))) h53 (fun c70=>?_) (fun c70=>?_)
 have c:=zAN c70 c
 refine HT.skip<|zQT<|HT.block ?_
 obtain ⟨e71,c⟩:=zA7 c
 refine zQU d j (eR (vptr u60 (y67.toNat*1))::eF (.rep eStr A (gtD x55 y67))::eF (.rep eStr A (gtD x55 y67))::[]) ?_ ?_
 exact op (fun Q U W H D=>zAb (q.ok 2 _ Z).1 ((H 50 Z).trans h50) ((H 52 Z).trans h52) underlying34 sizeOf9 e71 Z)<|op (fun Q U W H D=>(zBK ((q.fr W).ok 2 _ Z).1 (D.g 0 Z) e71 Z (Fld.id _) Z isAgg9 sizeOf9))<|op (fun Q U W H D=>zA2 (D.g 0 Z))<|oz
 intro R w m n p d j
 obtain ⟨h3,h9,h50,h51,h52⟩:=k5 n h3 h9 h50 h51 h52
 obtain ⟨u72,h11,f_u72⟩:∃ u,R 11=u/\Rep eStr A w u (gtD x55 y67):=⟨_,Z,p 2 _ _ Z Z Z⟩
 replace q:=q.fr m
 refine SG.of<|SG.textR [⟨u8,Sl_u8,.gen (geB w0.heap.size) (mapX prog 9 w0.heap.size 3 (eInt .i64) y68)⟩,⟨ul_u53,Sl_u53,trR (geB w0.heap.size) (oSl 54 (oPr (oRd eStr) (oSl 3 (oRd (eInt .i64))))) y69 []⟩,ob u60 (.vec w0.heap.size 9 eStr x55)] (rR ul_u53::rR u72::rR u8::rR u72::[]) 4 Z Z Z (by kernel_rfl) (by kernel_rfl) (Wf.mk' (by kernel_rfl) (ur (ur (ur (ur (UAll.nil))))) (by kernel_rfl) (by kernel_rfl)) q d (N) ?_ ?_
 exact rm h9<|rm h11<|rm h3<|rm h11<|rz
 intro done ρ σ A R w y s
 obtain ⟨h3,h9,h50,h51,h52⟩:=k5 s.rg h3 h9 h50 h51 h52
 have z73:=s.inivR 0 Z
 have z74:=s.inivR 1 Z
 have z75:=s.inivR 2 Z
 have eS_u8:=s.inisR 0 Z
 have eS_ul_u53:=s.inisR 1 Z
 have h56:=s.r y 0 Z
 have h57:=s.r y 1 Z
 have h58:=s.r y 2 Z
 have h59:=s.r y 3 Z
 replace f_u72:=f_u72.stp s.stp
 obtain ⟨B,j,d⟩:=s.s B C j q ⟨fun _ h=>h,⟨fun _ h=>h,⟨Z,N⟩⟩⟩
 replace q:=s.left y [(0,⟨u8,Sl_u8,.gen (geB w0.heap.size) (mapX prog 9 w0.heap.size 3 (eInt .i64) y68)⟩),(1,⟨ul_u53,Sl_u53,trR (geB w0.heap.size) (oSl 54 (oPr (oRd eStr) (oSl 3 (oRd (eInt .i64))))) y69 []⟩),(2,ob u60 (.vec w0.heap.size 9 eStr x55))] ⟨Z,Z,z73,eS_u8,Z,⟨Z,Z,z74,eS_ul_u53,Z,⟨Z,Z,z75,Z,Z,N⟩⟩⟩
 obtain ⟨e76,c⟩:=zA7 c
 refine zQd 60 Z Z Z Z (zJH q 0 Z underlying9 underlying62 (zeroValue52 _) h58 (f_u72.eq h59) (of_decide_eq_true e76) zIs) ?_
 rintro u77 w1 ⟨hw_,S78,hO2,-⟩ R n hd
 obtain rfl:w=w1:=hw_.symm
 have hst:Stp A A w w:=(Fr.refl w).stp A
 replace q:IniOK [⟨u8,S78,.gen (geB w0.heap.size) (mapX prog 9 w0.heap.size 3 (eInt .i64) (y68.1,(gtD x55 y67)::y68.2.1,y68.2.2))⟩,⟨ul_u53,Sl_u53,trR (geB w0.heap.size) (oSl 54 (oPr (oRd eStr) (oSl 3 (oRd (eInt .i64))))) y69 []⟩,ob u60 (.vec w0.heap.size 9 eStr x55),ob u77 (.vec w0.heap.size 3 (eInt .i64) (y68.1 (gtD x55 y67)))] A w:=hO2
 replace h3:=(n 3 Z).trans h3
 replace h9:=(n 9 Z).trans h9
 replace h50:=(n 50 Z).trans h50
 replace h51:=(n 51 Z).trans h51
 replace h52:=(n 52 Z).trans h52
 replace h56:=(n 56 Z).trans h56
 replace h57:=(n 57 Z).trans h57
 replace h58:=(n 58 Z).trans h58
 replace h59:=(n 59 Z).trans h59
 replace f_u72:=f_u72.stp hst
 have h60:R 60=u77:=hd
 clear n hd hst
 obtain ⟨e80,c⟩:=zA7 c
 refine SG.textR [⟨u8,S78,.gen (geB w0.heap.size) (mapX prog 9 w0.heap.size 3 (eInt .i64) (y68.1,(gtD x55 y67)::y68.2.1,y68.2.2))⟩,⟨ul_u53,Sl_u53,trR (geB w0.heap.size) (oSl 54 (oPr (oRd eStr) (oSl 3 (oRd (eInt .i64))))) y69 []⟩,ob u60 (.vec w0.heap.size 9 eStr x55),ob u77 (.vec w0.heap.size 3 (eInt .i64) (y68.1 (gtD x55 y67)))] (rR ul_u53::rR u72::rR u8::rR u72::rR u77::⟨_,true,[3],some (trR (geB w0.heap.size) (oPr (oRd eStr) (oSl 3 (oRd (eInt .i64)))) ((gtD x55 y67),(y68.1 (gtD x55 y67))) []),true,fun A=>.any⟩::⟨_,true,[9],some (trR (geB w0.heap.size) (oSl 54 (oPr (oRd eStr) (oSl 3 (oRd (eInt .i64))))) ([((gtD x55 y67),(y68.1 (gtD x55 y67)))]:List zAF) []),true,fun A=>.any⟩::⟨_,true,[1,10],some (trR (geB w0.heap.size) (oSl 54 (oPr (oRd eStr) (oSl 3 (oRd (eInt .i64))))) (y69 ++ [((gtD x55 y67),(y68.1 (gtD x55 y67)))]) []),true,fun A=>.any⟩::⟨_,true,[11],some (trR (geB w0.heap.size) (oSl 54 (oPr (oRd eStr) (oSl 3 (oRd (eInt .i64))))) (y69 ++ [((gtD x55 y67),(y68.1 (gtD x55 y67)))]) []),true,fun A=>.any⟩::[]) 9 Z Z Z (by kernel_rfl) (by kernel_rfl) (Wf.mk' (by kernel_rfl) (ur (ur (ur (ur (ur (ua (ua (ua (ua (UAll.nil)))))))))) (by kernel_rfl) (by kernel_rfl)) q d (⟨⟨Z,Z,Z,h56⟩,⟨⟨Z,Z,Z,h57⟩,⟨⟨Z,Z,Z,h58⟩,⟨⟨Z,Z,Z,h59⟩,⟨⟨Z,Z,Z,h60⟩,N⟩⟩⟩⟩⟩) ?_ ?_
 exact rc (zQb 3 _ _ Z Z Z Z Z fun V Q U O D u S X I Y J L M=>by have a0:Q 57=u72:=D.g 0 Z;have ra0:=(f_u72.stp O.stp).eq a0;have a1:Q 60=u77:=D.g 1 Z;obtain ⟨c79s,c79,c79r⟩:=zJ0 ra0;obtain ⟨gc,ge,go⟩:=zIc X I;obtain ⟨ga,gn,gk,rfl⟩:=zIY go;have gx:Q 60=.slice ga gn gk:=(a1.trans (J _ Z).1.symm).trans ge;exact zKd (v:=.agg #[.string c79s,.slice ga gn gk]) (by simp [execOp,Instr.build,zAH,c79,gx,underlying,underlying54,zeroValue54,sizeOf52,sizeOf9,go_sem,Instr.fill]) ⟨⟨_,Z,zJY (zFQ c79r) go⟩,fun q hq=>by cases hq⟩ Y (zMx X I))<|rc (zQb 9 _ _ Z Z Z Z Z fun V Q U O D u S X I Y J L M=>by exact zL5 I.2 (L _ _ Z Z Z Z).symm Y I.1 (fun k hk=>Nat.le_trans (Nat.le_trans j.size O.ch.size) hk) underlying24 sizeOf54 zeroValue54 (by decide))<|rc (zQa 1 [10] _ Z Z Z Z fun V Q U O D ρ σ X Y J L M hdd=>by have a0:Q 56=ul_u53:=D.g 0 Z;exact zKp Z (trP.nopin (X 1 (.head _) _ Z).2.2) (trP.nopin (X 10 (.tail _ (.head _)) _ Z).2.2) (a0.trans (J 1 (.head _) _ Z).1.symm) (L 10 (.tail _ (.head _)) _ _ Z Z Z Z).symm Y hdd (X 1 (.head _) _ Z).2.1 (X 10 (.tail _ (.head _)) _ Z).2.1 (fun k hk=>Nat.le_trans (Nat.le_trans j.size O.ch.size) hk) underlying24 zPv (by decide) e80)<|rc (zQb 11 _ _ Z Z Z Z Z fun V Q U O D u S X I Y J L M=>by exact zI9 (L _ _ Z Z Z Z).symm (trP.nopin I.2) Y I.1)<|rz
 intro done ρ σ A R w y s
 obtain ⟨h3,h50,h51,h52⟩:=k4 s.rg h3 h50 h51 h52
 have z81:=s.inivR 0 Z
 obtain ⟨u82,e_u82⟩:∃ u,ρ 12=u:=⟨_,Z⟩
 have h9:=s.ov y 12 8 e_u82
 have z83:=s.inivR 2 Z
 have eS_u8:=s.inisR 0 Z
 obtain ⟨S84,eS_u82⟩:∃ S,σ 12=S:=⟨_,Z⟩
 obtain ⟨B,j,d⟩:=s.s B C j q ⟨fun _ h=>h,⟨fun _ h=>h,⟨Z,⟨Z,N⟩⟩⟩⟩
 replace q:=s.left y [(0,⟨u8,S78,.gen (geB w0.heap.size) (mapX prog 9 w0.heap.size 3 (eInt .i64) (y68.1,(gtD x55 y67)::y68.2.1,y68.2.2))⟩),(12,⟨u82,S84,trR (geB w0.heap.size) (oSl 54 (oPr (oRd eStr) (oSl 3 (oRd (eInt .i64))))) (y69 ++ [((gtD x55 y67),(y68.1 (gtD x55 y67)))]) []⟩),(2,ob u60 (.vec w0.heap.size 9 eStr x55))] ⟨Z,Z,z81,eS_u8,Z,⟨Z,Z,e_u82,eS_u82,Z,⟨Z,Z,z83,Z,Z,N⟩⟩⟩
 refine zQc Z ?_
 obtain ⟨e85,c⟩:=zA7 c
 refine HT.u d j (eI (y67+1)::eI (y67+1)::[]) ?_ ?_
 exact op (fun Q U W H D=>zAS ((H 52 Z).trans h52) Z e85)<|ov<|oz
 intro R w m n p d j
 obtain ⟨h3,h9,h50,h51⟩:=k4 n h3 h9 h50 h51
 have h52:=p.r 1 Z
 replace q:=q.fr m
 exact ei k (And.intro (Nat.lt_succ_self k) ⟨_,_,_,_,S78,u82,S84,c,d,j,B,q,h3,h9,h50,h51,h52⟩)
 have c:=zAM c70 c
 refine zQR ?_
 obtain rfl:=si c
 replace q:IniOK [⟨ul_u53,Sl_u53,trR (geB w0.heap.size) (oSl 54 (oPr (oRd eStr) (oSl 3 (oRd (eInt .i64))))) y69 []⟩] A w:=q.sub [(1,⟨ul_u53,Sl_u53,trR (geB w0.heap.size) (oSl 54 (oPr (oRd eStr) (oSl 3 (oRd (eInt .i64))))) y69 []⟩)] ⟨Z,Z,N⟩
 exact ei _ ⟨_,ul_u53,Sl_u53,Z,d,j,B,q,h9⟩
 rintro R w ⟨A,s66,uo_u53,So_u53,es,d,j,B,q,h9⟩
 obtain rfl:=es.symm
 refine zQV [⟨uo_u53,So_u53,trR (geB w0.heap.size) (oSl 54 (oPr (oRd eStr) (oSl 3 (oRd (eInt .i64))))) s66 []⟩] (rR uo_u53::rR uo_u53::[]) (ur (ur (UAll.nil))) q d ?_ ?_
 exact rm h9<|ra<|rz
 intro done ρ σ A R w y s
 have z86:=s.inivR 0 Z
 have eS_uo_u53:=s.inisR 0 Z
 have h2:=s.r y 1 Z
 obtain ⟨B,j,d⟩:=s.s B C j q ⟨fun _ h=>h,N⟩
 replace q:=s.left y [(0,⟨uo_u53,So_u53,trR (geB w0.heap.size) (oSl 54 (oPr (oRd eStr) (oSl 3 (oRd (eInt .i64))))) s66 []⟩)] ⟨Z,Z,z86,eS_uo_u53,Z,N⟩
 refine HT.ret ?_
 obtain rfl:=si c
 exact ⟨.inr Z,[R 2],⟨Z,N⟩,zKX Z (q.own 0 _ Z) (q.ok 0 _ Z).2 B j h2 N⟩
theorem zD5 {fu : Nat} {A0 : Av} {p0 : List zA4} {r : List zAF} (c : zBh fu p0 = some r) {w : World} {v0 : Value} (d : AvOK A0 w) (hG : GTab w) (h0 : Rep (eSl zA0) A0 w v0 p0) :
 Calls prog 11 #[v0] w fun e w'=>∃ v,e=.returned v/\(Rep (eSl zA8) A0 w' v r/\Fr w w'):=by
 refine Calls.mono (zGa c d hG h0) ?_
 rintro e w' ⟨v,he,h⟩
 exact ⟨v,he,zMo h d⟩
def zAL (fu : Nat) (y5 : Int) (x13 : Nat) : Nat -> Int -> Int -> (List zA5) -> Option (Int × (List zA5))
 | 0,_,_,_=>none
 | k+1,y18,y19,y20=>
 bif (decide (y19<(x13:Int))) then (
 ck (inR y19 x13) <|
 ck (decide (0<=y5)) <|
 ck (inR (y5+y19) y20.length) <|
 ck (i64B (y19-1)) <|
 ck (inR (y19-1) x13) <|
 ck (decide (0<=y5)) <|
 ck (inR (y5+(y19-1)) y20.length) <|
 bif (!((gtD y20 (y5+y19))==(gtD y20 (y5+(y19-1))))) then (
 ck (inR y19 x13) <|
 ck (decide (0<=y5)) <|
 ck (inR (y5+y19) y20.length) <|
 ck (inR y18 y20.length) <|
 ck (i64B (y18+1)) <|
 ck (i64B (y19+1)) <|
 zAL fu y5 x13 k (y18+1) (y19+1) (y20.set y18.toNat (gtD y20 (y5+y19)))
 ) else (
 ck (i64B (y19+1)) <|
 zAL fu y5 x13 k y18 (y19+1) y20
 )
 ) else (
 some (y18,y20)
 )
def zAO (fu : Nat) : Nat -> Int -> (List zA5) -> Option (Ex (List zA5) (List zA5))
 | 0,_,_=>none
 | k+1,y5,y6=>
 bif (decide (y5<(y6.length:Int))) then (
 ck (inR y5 y6.length) <|
 ck (i64B (y5-1)) <|
 ck (inR (y5-1) y6.length) <|
 bif ((gtD y6 y5)==(gtD y6 (y5-1))) then (
 ck (subR y5 (y6.length:Int) y6.length) <|
 bd ((y6.length:Int).toNat-y5.toNat) fun x13=>
 cl true (zAL fu y5 x13 fu y5 1 y6) fun s17=>
 ck (subR s17.1 (s17.2.length:Int) s17.2.length) <|
 bd ((s17.2.length:Int).toNat-s17.1.toNat) fun x40=>
 ck (subR s17.1 s17.2.length s17.2.length) <|
 ck (x40==s17.2.length-s17.1.toNat) <|
 ck (subR 0 s17.1 (s17.2.take s17.1.toNat++List.replicate (s17.2.length-s17.1.toNat) (0,0)).length) <|
 some (Ex.ret (subL (s17.2.take s17.1.toNat++List.replicate (s17.2.length-s17.1.toNat) (0,0)) 0 s17.1))
 ) else (
 ck (i64B (y5+1)) <|
 zAO fu k (y5+1) y6
 )
 ) else (
 some (Ex.go y6)
 )
def zAn (fu:Nat) (p0:List zA5):Option (List zA5):=
 bif (decide ((p0.length:Int)<2)) then (
 some p0
 ) else (
 cl true (zAO fu fu 1 p0) fun rl2=>
 exM rl2 (fun r=>some r) fun s4=>
 some s4
 )
theorem zDY {fu : Nat} {A0 : Av} {p0 : List zA5} {r : List zA5} (c : zAn fu p0 = some r) {w : World} {v0 : Value} {B0 : Nat} (d : AvOK A0 w) (K : ∀ b o, A0 b o -> ¬ zAB v0 b) (h0 : (Res.vec B0 48 zA3 p0).ok A0 v0 w) :
 Calls prog 51 #[v0] w fun e w'=>∃ v,e=.returned v/\Took (addA A0 v0) true v0 (.vec B0 48 zA3 r) (fun _=>.any) w v w':=by
 unfold zAn at c
 obtain ⟨w0,hw0,C⟩:=pc d
 have j:Ch (zAB v0) w0 w:=hw0 ▸ Ch.refl _ _
 have hA00:AvOK A0 w0:=C
 rw [show Took (addA A0 v0) true v0 (.vec B0 48 zA3 r) (fun _=>.any) w=Took (addA A0 v0) true v0 (.vec B0 48 zA3 r) (fun _=>.any) w0 from hw0 ▸ Z]
 obtain ⟨A,hAe⟩:∃ A,A=addA A0 v0:=⟨_,Z⟩
 have B:∀ b o,A0 b o->A b o:=fun b o h=>hAe ▸ .inl h
 replace d:AvOK A w:=hAe ▸ d.one h0
 have q:IniOK [ob v0 (.vec B0 48 zA3 p0)] A w:=hAe ▸ IniOK.one h0 (fun _ _ _ _ _ h=>h)
 refine zA9 [.tmp 2] func51 ntmps51 (by decide) Z Z (nb Z) ?_
 intro R hR
 replace h0:R 0=v0:=hR 0 _ Z
 refine zQT<|zQW (eA::[]) ?_ ?_
 exact op (fun Q U W H D=>zA2 N)<|oz
 intro R w m n p
 replace h0:=k1 n h0
 replace q:=q.fr m
 replace d:=d.fr m.size
 replace j:=j.tr (m.ch noB) fun _ h=>False.elim h
 refine zQT<|zQT<|zQW (eR v0::eI (p0.length:Int)::eB (decide ((p0.length:Int)<2))::[]) ?_ ?_
 exact om h0<|op (fun Q U W H D=>zBu (q.ok 0 _ Z).1 (D.g 0 Z) underlying39)<|op (fun Q U W H D=>zAk (D.g 0 Z) Z)<|oz
 intro R w m n p
 replace h0:=k1 n h0
 have h8:=p.r 2 Z
 replace q:=q.fr m
 replace d:=d.fr m.size
 replace j:=j.tr (m.ch noB) fun _ h=>False.elim h
 refine zQM (decide ((p0.length:Int)<2)) h8 (fun c1=>?_) (fun c1=>?_)
 have c:=zAN c1 c
 refine zQT<|zQW (eR v0::eR v0::[]) ?_ ?_
 exact om h0<|oa<|oz
 intro R w m n p
 have h2:=p.r 1 Z
 replace q:=q.fr m
 replace d:=d.fr m.size
 replace j:=j.tr (m.ch noB) fun _ h=>False.elim h
 refine HT.ret ?_
 obtain rfl:=si c
 exact ⟨.inr Z,[R 2],⟨Z,N⟩,by show Took _ true _ _ _ w0 (R 2) w;rw [h2];exact zDe (fun k h o=>.inr h) j (q.ok 0 _ Z).1 (q.own_ge (⟨.inr (fun k h=>.inr h),N⟩) (i:=0) Z) (fun _ _ _ _ _ h=>h)⟩
 have c:=zAM c1 c
 refine HT.skip<|zQT<|zQT<|zQW (eI 1::[]) ?_ ?_
 exact op (fun Q U W H D=>zA2 Z)<|oz
 intro R w m n p
 replace h0:=k1 n h0
 have h3:=p.r 0 Z
 replace q:=q.fr m
 replace d:=d.fr m.size
 replace j:=j.tr (m.ch noB) fun _ h=>False.elim h
 obtain ⟨rl2,q3,c⟩:=zA6 c
 replace q3:=q3 Z
 refine zQO (fun R w=>∃ A:Av,∃ (s4:(List zA5)),rl2=Ex.go s4/\AvOK A w/\Ch (zAB v0) w0 w/\(∀ b o,A0 b o->A b o)/\IniOK [ob v0 (.vec B0 48 zA3 s4)] A w/\R 0=v0) ?_ ?_
 refine HT.block<|zQS (fun k R w=>∃ A:Av,∃ (y5:Int) (y6:List zA5),zAO fu k y5 y6=some rl2/\AvOK A w/\Ch (zAB v0) w0 w/\(∀ b o,A0 b o->A b o)/\IniOK [ob v0 (.vec B0 48 zA3 y6)] A w/\R 0=v0/\R 3=.int .i64 y5) fu ⟨_,_,_,q3,d,j,B,q,h0,h3⟩ ?_
 have hr0:=c;clear c q3
 rintro k R w ⟨A,y5,y6,c,d,j,B,q,h0,h3⟩
 rcases k with _ | k
 cases (show none=some _ from c)
 rw [zAO] at c
 refine zQT<|zQT<|zQW (eI y5::eR v0::eI (y6.length:Int)::eB (decide (y5<(y6.length:Int)))::[]) ?_ ?_
 exact om h3<|om h0<|op (fun Q U W H D=>zBu (q.ok 0 _ Z).1 (D.g 0 Z) underlying39)<|op (fun Q U W H D=>zAk (D.g 0 Z) (D.g 1 Z))<|oz
 intro R w m n p
 obtain ⟨h0,h3⟩:=k2 n h0 h3
 have h13:=p.r 3 Z
 replace q:=q.fr m
 replace d:=d.fr m.size
 replace j:=j.tr (m.ch noB) fun _ h=>False.elim h
 refine zQM (decide (y5<(y6.length:Int))) h13 (fun c7=>?_) (fun c7=>?_)
 have c:=zAN c7 c
 refine HT.skip<|zQT<|HT.block<|zQT ?_
 obtain ⟨e8,e9,e10,c⟩:=ck3 c
 refine zQP (by kernel_rfl) (l:=eR v0::eI y5::eR (vptr v0 (y5.toNat*2))::eF (.rep zA3 A (gtD y6 y5))::eR v0::eI y5::eI (y5-1)::eR (vptr v0 ((y5-1).toNat*2))::eF (.rep zA3 A (gtD y6 (y5-1)))::eB ((gtD y6 y5)==(gtD y6 (y5-1)))::[]) (tl:=[]) (by kernel_rfl) (by kernel_rfl) (by kernel_rfl) (by kernel_rfl) ?_ ?_
 exact om h0<|om h3<|op (fun Q U W H D=>zAb (q.ok 0 _ Z).1 (D.g 0 Z) (D.g 1 Z) underlying39 sizeOf48 e8 Z)<|op (fun Q U W H D=>(zBK ((q.fr W).ok 0 _ Z).1 (D.g 0 Z) e8 Z (Fld.id _) Z isAgg48 sizeOf48))<|om h0<|om h3<|op (fun Q U W H D=>zFq (D.g 0 Z) Z e9)<|op (fun Q U W H D=>zAb (q.ok 0 _ Z).1 (D.g 0 Z) (D.g 1 Z) underlying39 sizeOf48 e10 Z)<|op (fun Q U W H D=>(zBK ((q.fr W).ok 0 _ Z).1 (D.g 0 Z) e10 Z (Fld.id _) Z isAgg48 sizeOf48))<|op (fun Q U W H D=>zHP eqGuardType48 (zCb (D.g 0 Z)) (zCb (D.g 1 Z)) (zOX (gtD y6 y5) (gtD y6 (y5-1)) _))<|oz
 intro R w m n p
 obtain ⟨h0,h3⟩:=k2 n h0 h3
 have h25:=p.r 9 Z
 replace q:=q.fr m
 replace d:=d.fr m.size
 replace j:=j.tr (m.ch noB) fun _ h=>False.elim h
 refine zQM ((gtD y6 y5)==(gtD y6 (y5-1))) h25 (fun c11=>?_) (fun c11=>?_)
 have c:=zAN c11 c
 refine zQT ?_
 obtain ⟨e12,c⟩:=zA7 c
 obtain ⟨x13,q14,c⟩:=zAU c
 refine zQW (eR v0::eI y5::eR (vsub v0 y5.toNat x13 2)::eR (vsub v0 y5.toNat x13 2)::[]) ?_ ?_
 exact om h0<|om h3<|op (fun Q U W H D=>(q14 ▸ zHD (q.ok 0 _ Z).1 (D.g 0 Z) (D.g 1 Z) underlying39 sizeOf48 e12))<|oa<|oz
 intro R w m n p
 obtain ⟨h0,h3⟩:=k2 n h0 h3
 have h4:=p.r 3 Z
 replace q:=q.fr m
 replace d:=d.fr m.size
 replace j:=j.tr (m.ch noB) fun _ h=>False.elim h
 refine zQT<|zQT<|zQW (eI 1::[]) ?_ ?_
 exact op (fun Q U W H D=>zA2 Z)<|oz
 intro R w m n p
 obtain ⟨h0,h3,h4⟩:=k3 n h0 h3 h4
 have h5:=p.r 0 Z
 replace q:=q.fr m
 replace d:=d.fr m.size
 replace j:=j.tr (m.ch noB) fun _ h=>False.elim h
 obtain ⟨rl15,q16,c⟩:=zA6 c
 replace q16:=q16 Z
 refine zQO (fun R w=>∃ A:Av,∃ (s17:Int × (List zA5)),rl15=s17/\AvOK A w/\Ch (zAB v0) w0 w/\(∀ b o,A0 b o->A b o)/\IniOK [ob v0 (.vec B0 48 zA3 s17.2)] A w/\R 0=v0/\R 3=.int .i64 s17.1) ?_ ?_
 refine HT.block<|zQS (fun k R w=>∃ A:Av,∃ (y18:Int) (y19:Int) (y20:List zA5),zAL fu y5 x13 k y18 y19 y20=some rl15/\AvOK A w/\Ch (zAB v0) w0 w/\(∀ b o,A0 b o->A b o)/\IniOK [ob v0 (.vec B0 48 zA3 y20)] A w/\R 0=v0/\R 3=.int .i64 y18/\R 4=(vsub v0 y5.toNat x13 2)/\R 5=.int .i64 y19) fu ⟨_,_,_,_,q16,d,j,B,q,h0,h3,h4,h5⟩ ?_
 have hr1:=c;clear c q16
 rintro k R w ⟨A,y18,y19,y20,c,d,j,B,q,h0,h3,h4,h5⟩
 rcases k with _ | k
 cases (show none=some _ from c)
 rw [zAL] at c
 refine zQT<|zQT<|zQW (eI y19::eR (vsub v0 y5.toNat x13 2)::eI (x13:Int)::eB (decide (y19<(x13:Int)))::[]) ?_ ?_
 exact om h5<|om h4<|op (fun Q U W H D=>zIz (q.ok 0 _ Z).1 (D.g 0 Z) underlying39)<|op (fun Q U W H D=>zAk (D.g 0 Z) (D.g 1 Z))<|oz
 intro R w m n p
 obtain ⟨h0,h3,h4,h5⟩:=k4 n h0 h3 h4 h5
 have h32:=p.r 3 Z
 replace q:=q.fr m
 replace d:=d.fr m.size
 replace j:=j.tr (m.ch noB) fun _ h=>False.elim h
 refine zQM (decide (y19<(x13:Int))) h32 (fun c21=>?_) (fun c21=>?_)
 have c:=zAN c21 c
 refine HT.skip<|zQT<|HT.block<|zQT ?_
 obtain ⟨e22,e23,e24,e25,c⟩:=ck4 c
 obtain ⟨e26,e27,e28,c⟩:=ck3 c
 refine zQP (by kernel_rfl) (l:=eR (vsub v0 y5.toNat x13 2)::eI y19::eR (vptr v0 ((y5+y19).toNat*2))::eF (.rep zA3 A (gtD y20 (y5+y19)))::eR (vsub v0 y5.toNat x13 2)::eI y19::eI (y19-1)::eR (vptr v0 ((y5+(y19-1)).toNat*2))::eF (.rep zA3 A (gtD y20 (y5+(y19-1))))::eB (!((gtD y20 (y5+y19))==(gtD y20 (y5+(y19-1)))))::[]) (tl:=[]) (by kernel_rfl) (by kernel_rfl) (by kernel_rfl) (by kernel_rfl) ?_ ?_
 exact om h4<|om h5<|op (fun Q U W H D=>zCr (q.ok 0 _ Z).1 (D.g 0 Z) (D.g 1 Z) underlying39 sizeOf48 e22 e23 e24 Z)<|op (fun Q U W H D=>(zBK ((q.fr W).ok 0 _ Z).1 (D.g 0 Z) e24 Z (Fld.id _) Z isAgg48 sizeOf48))<|om h4<|om h5<|op (fun Q U W H D=>zFq (D.g 0 Z) Z e25)<|op (fun Q U W H D=>zCr (q.ok 0 _ Z).1 (D.g 0 Z) (D.g 1 Z) underlying39 sizeOf48 e26 e27 e28 Z)<|op (fun Q U W H D=>(zBK ((q.fr W).ok 0 _ Z).1 (D.g 0 Z) e28 Z (Fld.id _) Z isAgg48 sizeOf48))<|op (fun Q U W H D=>zHc eqGuardType48 (zCb (D.g 0 Z)) (zCb (D.g 1 Z)) (zOZ (gtD y20 (y5+y19)) (gtD y20 (y5+(y19-1))) _))<|oz
 intro R w m n p
 obtain ⟨h0,h3,h4,h5⟩:=k4 n h0 h3 h4 h5
 have h44:=p.r 9 Z
 replace q:=q.fr m
 replace d:=d.fr m.size
 replace j:=j.tr (m.ch noB) fun _ h=>False.elim h
 refine zQM (!((gtD y20 (y5+y19))==(gtD y20 (y5+(y19-1))))) h44 (fun c29=>?_) (fun c29=>?_)
 have c:=zAN c29 c
 obtain ⟨e30,e31,e32,e33,c⟩:=ck4 c
 refine zQV [ob v0 (.vec B0 48 zA3 y20)] (rR v0::rI y18::rR (vsub v0 y5.toNat x13 2)::rI y19::rR (vptr v0 ((y5+y19).toNat*2))::(rF fun A=>.rep zA3 A (gtD y20 (y5+y19)))::rR (vptr v0 (y18.toNat*2))::⟨_,true,[0],some (.vec B0 48 zA3 (y20.set y18.toNat (gtD y20 (y5+y19)))),false,fun A=>.any⟩::[]) (ur (ur (ur (ur (ur (up (ur (ua (UAll.nil))))))))) q d ?_ ?_
 exact rm h0<|rm h3<|rm h4<|rm h5<|rp (fun V Q U O D=>zCr (q.ok 0 _ Z).1 (D.g 0 Z) (D.g 1 Z) underlying39 sizeOf48 e30 e31 e32 Z)<|rp (fun V Q U O D=>(zBK (O.rd 0 _ Z Z) (D.g 0 Z) e32 Z (Fld.id _) Z isAgg48 sizeOf48))<|rp (fun V Q U O D=>zAb (q.ok 0 _ Z).1 (D.g 0 Z) (D.g 1 Z) underlying39 sizeOf48 e33 Z)<|rc (OblR.took 0 _ _ Z Z Z Z Z fun V Q U O D u X Y J L M=>by have a0:Q 51=(vptr v0 (y18.toNat*2)):=D.g 0 Z;have a1:Rep zA3 V U (Q 50) (gtD y20 (y5+y19)):=D.g 1 Z;obtain rfl:=J _ Z;exact zFu a1 X Y a0 e33 Z (FldS.id _) sizeOf48 Z)<|rz
 intro done ρ σ A R w y s
 obtain ⟨h0,h3,h4,h5⟩:=k4 s.rg h0 h3 h4 h5
 have z34:=s.inivR 0 Z
 have z35:=s.on y 8 7 Z Z Z Z Z z34
 replace B:=s.lowK B C K (q.geK (⟨.inr (fun k h=>.inr h),N⟩))
 replace j:Ch (zAB v0) w0 w:=j.tr s.ch (q.geK (⟨.inr (fun k h=>.inr h),N⟩))
 replace q:=s.left y [(8,ob v0 (.vec B0 48 zA3 (y20.set y18.toNat (gtD y20 (y5+y19)))))] ⟨Z,Z,z35,Z,Z,N⟩
 replace d:=s.avok
 obtain ⟨e36,c⟩:=zA7 c
 refine zQW (eI y18::eI (y18+1)::eI (y18+1)::[]) ?_ ?_
 exact om h3<|op (fun Q U W H D=>zAS (D.g 0 Z) Z e36)<|oa<|oz
 intro R w m n p
 obtain ⟨h0,h4,h5⟩:=k3 n h0 h4 h5
 have h3:=p.r 2 Z
 replace q:=q.fr m
 replace d:=d.fr m.size
 replace j:=j.tr (m.ch noB) fun _ h=>False.elim h
 obtain ⟨e37,c⟩:=zA7 c
 refine zQW (eI y19::eI (y19+1)::eI (y19+1)::[]) ?_ ?_
 exact om h5<|op (fun Q U W H D=>zAS (D.g 0 Z) Z e37)<|oa<|oz
 intro R w m n p
 obtain ⟨h0,h3,h4⟩:=k3 n h0 h3 h4
 have h5:=p.r 2 Z
 replace q:=q.fr m
 replace d:=d.fr m.size
 replace j:=j.tr (m.ch noB) fun _ h=>False.elim h
 exact ei k (And.intro (Nat.lt_succ_self k) ⟨_,_,_,_,c,d,j,B,q,h0,h3,h4,h5⟩)
 have c:=zAM c29 c
 refine HT.skip ?_
 obtain ⟨e38,c⟩:=zA7 c
 refine zQW (eI y19::eI (y19+1)::eI (y19+1)::[]) ?_ ?_
 exact om h5<|op (fun Q U W H D=>zAS (D.g 0 Z) Z e38)<|oa<|oz
 intro R w m n p
 obtain ⟨h0,h3,h4⟩:=k3 n h0 h3 h4
 have h5:=p.r 2 Z
 replace q:=q.fr m
 replace d:=d.fr m.size
 replace j:=j.tr (m.ch noB) fun _ h=>False.elim h
 exact ei k (And.intro (Nat.lt_succ_self k) ⟨_,_,_,_,c,d,j,B,q,h0,h3,h4,h5⟩)
 have c:=zAM c21 c
 refine zQR ?_
 obtain rfl:=si c
 exact ei _ ⟨_,Z,d,j,B,q,h0,h3⟩
 rintro R w ⟨A,s17,es,d,j,B,q,h0,h3⟩
 obtain rfl:=es.symm
 refine zQT ?_
 obtain ⟨e39,c⟩:=zA7 c
 obtain ⟨x40,q41,c⟩:=zAU c
 obtain ⟨e42,e43,c⟩:=ck2 c
 refine zQY [ob v0 (.vec B0 48 zA3 s17.2)] (rR v0::rI s17.1::rR (vsub v0 s17.1.toNat x40 2)::⟨_,true,[0],some (.vec B0 48 zA3 (s17.2.take s17.1.toNat++List.replicate (s17.2.length-s17.1.toNat) (0,0))),false,fun A=>.any⟩::[]) (ur (ur (ur (ua (UAll.nil))))) q d ?_ ?_
 exact rm h0<|rm h3<|rp (fun V Q U O D=>(q41 ▸ zHD (q.ok 0 _ Z).1 (D.g 0 Z) (D.g 1 Z) underlying39 sizeOf48 e39))<|rc (OblR.took 0 _ _ Z Z Z Z Z fun V Q U O D u X Y J L M=>by have a0:Q 56=(vsub v0 s17.1.toNat x40 2):=D.g 0 Z;obtain rfl:=J _ Z;exact zI3 a0 X Y underlying39 Z zeroValue48 (fun A w=>zFJ zBk zBk) e42 e43 Z)<|rz
 intro done ρ σ A R w y s
 obtain ⟨h0,h3⟩:=k2 s.rg h0 h3
 have z44:=s.inivR 0 Z
 have z45:=s.on y 4 3 Z Z Z Z Z z44
 replace B:=s.lowK B C K (q.geK (⟨.inr (fun k h=>.inr h),N⟩))
 replace j:Ch (zAB v0) w0 w:=j.tr s.ch (q.geK (⟨.inr (fun k h=>.inr h),N⟩))
 replace q:=s.left y [(4,ob v0 (.vec B0 48 zA3 (s17.2.take s17.1.toNat++List.replicate (s17.2.length-s17.1.toNat) (0,0))))] ⟨Z,Z,z45,Z,Z,N⟩
 replace d:=s.avok
 obtain ⟨e46,c⟩:=zA7 c
 refine zQV [ob v0 (.vec B0 48 zA3 (s17.2.take s17.1.toNat++List.replicate (s17.2.length-s17.1.toNat) (0,0)))] (rR v0::rI s17.1::⟨_,true,[0],some (.vec B0 48 zA3 (subL (s17.2.take s17.1.toNat++List.replicate (s17.2.length-s17.1.toNat) (0,0)) 0 s17.1)),true,fun A=>.any⟩::⟨_,true,[3],some (.vec B0 48 zA3 (subL (s17.2.take s17.1.toNat++List.replicate (s17.2.length-s17.1.toNat) (0,0)) 0 s17.1)),true,fun A=>.any⟩::[]) (ur (ur (ua (ua (UAll.nil))))) q d ?_ ?_
 exact rm h0<|rm h3<|rc (OblR.took 0 _ _ Z Z Z Z Z fun V Q U O D u X Y J L M=>by have a0:Q 57=v0:=D.g 0 Z;have a1:Q 58=.int .i64 s17.1:=D.g 1 Z;exact zH9 (a0.trans (J _ Z).symm) X Y a1 underlying39 sizeOf48 e46 Z)<|rc (OblR.took 3 _ _ Z Z Z Z Z fun V Q U O D u X Y J L M=>by exact zAD (L _ _ Z Z Z Z).symm X Y)<|rz
 intro done ρ σ A R w y s
 obtain ⟨u47,e_u47⟩:∃ u,ρ 4=u:=⟨_,Z⟩
 have h2:=s.ov y 4 3 e_u47
 have hK_u47:∀ k,zAB u47 k->w0.heap.size<=k\/(zAB v0) k:=s.geK y 4 Z Z Z e_u47 (q.geK (⟨.inr (fun k h=>.inr h),N⟩)) j.size
 replace B:=s.lowK B C K (q.geK (⟨.inr (fun k h=>.inr h),N⟩))
 replace j:Ch (zAB v0) w0 w:=j.tr s.ch (q.geK (⟨.inr (fun k h=>.inr h),N⟩))
 replace q:=s.left y [(4,ob u47 (.vec B0 48 zA3 (subL (s17.2.take s17.1.toNat++List.replicate (s17.2.length-s17.1.toNat) (0,0)) 0 s17.1)))] ⟨Z,Z,e_u47,Z,Z,N⟩
 replace d:=s.avok
 obtain ⟨Yg47,g_Yg47⟩:∃ z:List zA5,z=(subL (s17.2.take s17.1.toNat++List.replicate (s17.2.length-s17.1.toNat) (0,0)) 0 s17.1):=⟨_,Z⟩
 rw [<- g_Yg47] at q
 try rw [<- g_Yg47] at c
 refine HT.ret ?_
 obtain rfl:=si c
 have c:=hr0
 replace c:some _=some _:=c
 obtain rfl:=si c
 exact ⟨.inr Z,[R 2],⟨Z,N⟩,by show Took _ true _ _ _ w0 (R 2) w;rw [h2];exact zDe (fun k h o=>.inr h) j (q.ok 0 _ Z).1 (q.own_ge (⟨.inr hK_u47,N⟩) (i:=0) Z) (fun _ _ _ _ _ h=>h)⟩
 have c:=zAM c11 c
 refine HT.skip ?_
 obtain ⟨e49,c⟩:=zA7 c
 refine zQW (eI y5::eI (y5+1)::eI (y5+1)::[]) ?_ ?_
 exact om h3<|op (fun Q U W H D=>zAS (D.g 0 Z) Z e49)<|oa<|oz
 intro R w m n p
 replace h0:=k1 n h0
 have h3:=p.r 2 Z
 replace q:=q.fr m
 replace d:=d.fr m.size
 replace j:=j.tr (m.ch noB) fun _ h=>False.elim h
 exact ei k (And.intro (Nat.lt_succ_self k) ⟨_,_,_,c,d,j,B,q,h0,h3⟩)
 have c:=zAM c7 c
 refine zQR ?_
 obtain rfl:=si c
 exact ei _ ⟨_,Z,d,j,B,q,h0⟩
 rintro R w ⟨A,s4,rfl,d,j,B,q,h0⟩
 have c:=zF3 c
 refine zQT<|zQW (eR v0::eR v0::[]) ?_ ?_
 exact om h0<|oa<|oz
 intro R w m n p
 have h2:=p.r 1 Z
 replace q:=q.fr m
 replace d:=d.fr m.size
 replace j:=j.tr (m.ch noB) fun _ h=>False.elim h
 refine HT.ret ?_
 obtain rfl:=si c
 exact ⟨.inr Z,[R 2],⟨Z,N⟩,by show Took _ true _ _ _ w0 (R 2) w;rw [h2];exact zDe (fun k h o=>.inr h) j (q.ok 0 _ Z).1 (q.own_ge (⟨.inr (fun k h=>.inr h),N⟩) (i:=0) Z) (fun _ _ _ _ _ h=>h)⟩
def zBe (fu : Nat) (x2 : List zAF) (y8 : Int) (y21 : Int) : Nat -> Int -> (List zA5) -> Option (List zA5)
 | 0,_,_=>none
 | k+1,y31,y32=>
 bif (decide (y31<((subL ((gtD x2 y8).2) (y21+1) (((gtD x2 y8).2).length:Int)).length:Int))) then (
 ck (inR y31 (subL ((gtD x2 y8).2) (y21+1) (((gtD x2 y8).2).length:Int)).length) <|
 ck (zBJ (y32.length+([((gtD ((gtD x2 y8).2) y21),(gtD (subL ((gtD x2 y8).2) (y21+1) (((gtD x2 y8).2).length:Int)) y31))]:List zA5).length)) <|
 ck (i64B (y31+1)) <|
 zBe fu x2 y8 y21 k (y31+1) (y32++([((gtD ((gtD x2 y8).2) y21),(gtD (subL ((gtD x2 y8).2) (y21+1) (((gtD x2 y8).2).length:Int)) y31))]:List zA5))
 ) else (
 some y32
 )
def zAy (fu : Nat) (x2 : List zAF) (y8 : Int) : Nat -> Int -> (List zA5) -> Option (List zA5)
 | 0,_,_=>none
 | k+1,y21,y22=>
 bif (decide (y21<(((gtD x2 y8).2).length:Int))) then (
 ck (inR y21 ((gtD x2 y8).2).length) <|
 ck (i64B (y21+1)) <|
 ck (subR (y21+1) (((gtD x2 y8).2).length:Int) ((gtD x2 y8).2).length) <|
 cl true (zBe fu x2 y8 y21 fu 0 y22) fun s30=>
 ck (i64B (y21+1)) <|
 zAy fu x2 y8 k (y21+1) s30
 ) else (
 some y22
 )
def zAp (fu : Nat) (p1 : Int) (x2 : List zAF) : Nat -> Int -> (List zA5) -> Option (List zA5)
 | 0,_,_=>none
 | k+1,y8,y9=>
 bif (decide (y8<(x2.length:Int))) then (
 ck (inR y8 x2.length) <|
 bif (decide (p1<(((gtD x2 y8).2).length:Int))) then (
 ck (i64B (y8+1)) <|
 zAp fu p1 x2 k (y8+1) y9
 ) else (
 cl true (zAy fu x2 y8 fu 0 y9) fun s20=>
 ck (i64B (y8+1)) <|
 zAp fu p1 x2 k (y8+1) s20
 )
 ) else (
 some y9
 )
def zCQ (fu:Nat) (p0:List zA4) (p1:Int):Option (List zA5):=
 cl true (zBh fu p0) fun x2=>
 cl true (zAp fu p1 x2 fu 0 ([]:List zA5)) fun s7=>
 cl true (zKC fu s7 (fun _ _=>none)) fun x42=>
 cl true (zAn fu x42) fun x46=>
 some x46
set_option linter.unusedSimpArgs false in
theorem zGn {fu : Nat} {A0 : Av} {p0 : List zA4} {p1 : Int} {r : List zA5} (c : zCQ fu p0 p1 = some r) {w : World} {v0 : Value} {v1 : Value} (d : AvOK A0 w) (hG : GTab w) (h0 : Rep (eSl zA0) A0 w v0 p0) (h1 : v1=.int .i64 p1) :
 Calls prog 25 #[v0,v1] w fun e w'=>∃ v,e=.returned v/\((Res.vec w.heap.size 48 zA3 r).ok (addA A0 v) v w'/\Fr w w'):=by
 unfold zCQ at c
 obtain ⟨w0,hw0,j,C⟩:=pw d
 have hA00:AvOK A0 w0:=C
 rw [fh hw0]
 rw [fw hw0]
 have hG0:GTab w0:=hw0 ▸ hG
 obtain ⟨A,hAe,B,d,q⟩:=pa d
 refine zA9 [.tmp 4] func25 ntmps25 (by decide) Z Z (nb Z) ?_
 intro R hR
 have f_v0:Rep (eSl zA0) A w v0 p0:=hAe ▸ h0
 replace h0:R 0=v0:=hR 0 _ Z
 replace h1:R 1=.int .i64 p1:=(hR 1 _ Z).trans h1
 refine zQU d j (eA::[]) ?_ ?_
 exact op (fun Q U W H D=>zA2 N)<|oz
 intro R w m n p d j
 obtain ⟨h0,h1⟩:=k2 n h0 h1
 replace f_v0:=f_v0.fr m
 replace q:=q.fr m
 refine zQU d j (eR (.slice none 0 0)::[]) ?_ ?_
 exact op (fun Q U W H D=>zA2 Z)<|oz
 intro R w m n p d j
 obtain ⟨h0,h1⟩:=k2 n h0 h1
 obtain ⟨u1,n_u1⟩:∃ u,u=Value.slice none 0 0:=⟨_,Z⟩
 have h5:R 5=u1:=(p 0 _ _ Z Z Z).trans n_u1.symm
 replace f_v0:=f_v0.fr m
 replace q:=q.fr m
 replace q:=q.nilcons (u:=u1) n_u1 w0.heap.size 48 zA3
 refine zQT ?_
 obtain ⟨x2,q3,c⟩:=zA6 c
 refine zQU d j (eR v0::eF (.rep (eSl zA8) A x2)::eI (x2.length:Int)::eI 0::[]) ?_ ?_
 exact om h0<|op (fun Q U W H D=>zAI call11 (zD5 (q3 Z) (d.fr W.size) (hG0.fr (j.trans W)) ((f_v0.fr W).eq (D.g 0 Z))))<|op (fun Q U W H D=>zAK (aT:=#[]) (D.g 0 Z) underlying24)<|op (fun Q U W H D=>zBj Z)<|oz
 intro R w m n p d j
 obtain ⟨h1,h5⟩:=k2 n h1 h5
 obtain ⟨u4,h13,f_u4⟩:∃ u,R 13=u/\Rep (eSl zA8) A w u x2:=⟨_,Z,p 1 _ _ Z Z Z⟩
 have h14:=p.r 2 Z
 have h15:=p.r 3 Z
 replace q:=q.fr m
 obtain ⟨rl5,q6,c⟩:=zA6 c
 replace q6:=q6 Z
 refine zQO (fun R w=>∃ A:Av,∃ (s7:(List zA5)) (uo_u1:Value),rl5=s7/\AvOK A w/\Fr w0 w/\(∀ b o,A0 b o->A b o)/\IniOK [ob uo_u1 (.vec w0.heap.size 48 zA3 s7)] A w/\R 5=uo_u1) ?_ ?_
 refine HT.block<|zQS (fun k R w=>∃ A:Av,∃ (y8:Int) (y9:List zA5) (ul_u1:Value),zAp fu p1 x2 k y8 y9=some rl5/\AvOK A w/\Fr w0 w/\(∀ b o,A0 b o->A b o)/\IniOK [ob ul_u1 (.vec w0.heap.size 48 zA3 y9)] A w/\R 1=.int .i64 p1/\R 5=ul_u1/\R 13=u4/\R 14=.int .i64 (x2.length:Int)/\R 15=.int .i64 y8/\Rep (eSl zA8) A w u4 x2) fu ⟨_,_,_,u1,q6,d,j,B,q,h1,h5,h13,h14,h15,f_u4⟩ ?_
 have hr0:=c;clear c q6
 rintro k R w ⟨A,y8,y9,ul_u1,c,d,j,B,q,h1,h5,h13,h14,h15,f_u4⟩
 rcases k with _ | k
 cases (show none=some _ from c)
 rw [zAp] at c
 refine zQU d j (eB (decide (y8<(x2.length:Int)))::[]) ?_ ?_
 exact op (fun Q U W H D=>zAk ((H 15 Z).trans h15) ((H 14 Z).trans h14))<|oz
 intro R w m n p d j
 obtain ⟨h1,h5,h13,h14,h15⟩:=k5 n h1 h5 h13 h14 h15
 have h16:=p.r 0 Z
 replace f_u4:=f_u4.fr m
 replace q:=q.fr m
 refine zQT<|zQM (decide (y8<(x2.length:Int))) h16 (fun c10=>?_) (fun c10=>?_)
 have c:=zAN c10 c
 refine HT.skip<|zQT<|HT.block ?_
 obtain ⟨e11,c⟩:=zA7 c
 refine zQV [ob ul_u1 (.vec w0.heap.size 48 zA3 y9)] ((rF fun A=>.qtr zA8 A (gtD x2 y8))::(rF fun A=>.rep zA8 A (gtD x2 y8))::⟨_,true,[],some (.box w0.heap.size 54 zA8 (([]:List UInt8),([]:List Int))),true,fun A=>.any⟩::⟨_,true,[3],some (.box w0.heap.size 54 zA8 (gtD x2 y8)),false,fun A=>.any⟩::[]) (UAll.cons zDl (up (ua (ua (UAll.nil))))) q d ?_ ?_
 exact rp (fun V Q U O D=>zAC ((f_u4.stp O.stp).eq ((O.old 13 Z).trans h13)) ((O.old 15 Z).trans h15) underlying24 sizeOf54 e11)<|rp (fun V Q U O D=>(zAT (QRep.ptr (D.g 0 Z)) isAgg54 sizeOf54))<|rc (OblR.made _ Z Z Z Z fun V Q U O D=>by exact zFl zeroValue54 (fun A w=>zFJ (zGg Z (by decide)) zFx) (Nat.le_trans j.size O.ch.size))<|rc (OblR.took 3 _ _ Z Z Z Z Z fun V Q U O D u X Y J L M=>by have a1:Rep zA8 V U (Q 18) (gtD x2 y8):=D.g 1 Z;obtain ⟨b,hb,hB',hbx⟩:=X;have hop':=L _ _ Z Z Z Z;exact zCs a1 (hop'.symm.trans hb) hb ⟨b,hb,hB',hbx⟩ Y (FldS.id _) sizeOf54 Z)<|rz
 intro done ρ σ A R w y s
 obtain ⟨h1,h5,h13,h14,h15⟩:=k5 s.rg h1 h5 h13 h14 h15
 have z12:=s.inivR 0 Z
 obtain ⟨b7_12,e_b7_12⟩:=s.boxv y 4 Z Z
 have z14:=(s.opnR y 4 3 Z Z Z Z Z).symm.trans e_b7_12
 have h7:=s.ov y 3 2 z14
 replace f_u4:=f_u4.stp s.stp
 obtain ⟨B,j,d⟩:=s.s B C j q ⟨Z,N⟩
 replace q:=s.left y [(0,ob ul_u1 (.vec w0.heap.size 48 zA3 y9)),(4,ob (.pointer (some ⟨b7_12,0,none⟩)) (.box w0.heap.size 54 zA8 (gtD x2 y8)))] ⟨Z,Z,z12,Z,Z,⟨Z,Z,e_b7_12,Z,Z,N⟩⟩
 refine zQT<|zQU d j (eR (.pointer (some ⟨b7_12,1,none⟩))::eF (.rep (eSl (eInt .i64)) A ((gtD x2 y8).2))::eI (((gtD x2 y8).2).length:Int)::eI p1::eB (decide (p1<(((gtD x2 y8).2).length:Int)))::[]) ?_ ?_
 exact op (fun Q U W H D=>zAE ((H 7 Z).trans h7) zEn sizeOf52 (by decide) Z)<|op (fun Q U W H D=>(zAJ ((q.fr W).ok 1 _ Z).1 (D.g 0 Z) zBp Z isAgg52 sizeOf52))<|op (fun Q U W H D=>zAK (aT:=#[]) (D.g 0 Z) underlying52)<|om h1<|op (fun Q U W H D=>zDg (D.g 0 Z) (D.g 1 Z))<|oz
 intro R w m n p d j
 obtain ⟨h1,h5,h7,h13,h14,h15⟩:=k6 n h1 h5 h7 h13 h14 h15
 have h23:=p.r 4 Z
 replace f_u4:=f_u4.fr m
 replace q:=q.fr m
 refine zQM (decide (p1<(((gtD x2 y8).2).length:Int))) h23 (fun c15=>?_) (fun c15=>?_)
 have c:=zAN c15 c
 refine zQR ?_
 obtain ⟨e16,c⟩:=zA7 c
 refine HT.u d j (eI (y8+1)::eI (y8+1)::[]) ?_ ?_
 exact op (fun Q U W H D=>zAS ((H 15 Z).trans h15) Z e16)<|ov<|oz
 intro R w m n p d j
 obtain ⟨h1,h5,h13,h14⟩:=k4 n h1 h5 h13 h14
 have h15:=p.r 1 Z
 replace f_u4:=f_u4.fr m
 replace q:=q.fr m
 replace q:IniOK [ob ul_u1 (.vec w0.heap.size 48 zA3 y9)] A w:=q.sub [(0,ob ul_u1 (.vec w0.heap.size 48 zA3 y9))] ⟨Z,Z,N⟩
 exact ei k (And.intro (Nat.lt_succ_self k) ⟨_,_,_,ul_u1,c,d,j,B,q,h1,h5,h13,h14,h15,f_u4⟩)
 have c:=zAM c15 c
 refine HT.skip<|zQU d j (eR (.pointer (some ⟨b7_12,1,none⟩))::eF (.rep (eSl (eInt .i64)) A ((gtD x2 y8).2))::eI (((gtD x2 y8).2).length:Int)::eI 0::[]) ?_ ?_
 exact op (fun Q U W H D=>zAE ((H 7 Z).trans h7) zEn sizeOf52 (by decide) Z)<|op (fun Q U W H D=>(zAJ ((q.fr W).ok 1 _ Z).1 (D.g 0 Z) zBp Z isAgg52 sizeOf52))<|op (fun Q U W H D=>zAK (aT:=#[]) (D.g 0 Z) underlying52)<|op (fun Q U W H D=>zBj Z)<|oz
 intro R w m n p d j
 obtain ⟨h1,h5,h7,h13,h14,h15⟩:=k6 n h1 h5 h7 h13 h14 h15
 obtain ⟨u17,h25,f_u17⟩:∃ u,R 25=u/\Rep (eSl (eInt .i64)) A w u ((gtD x2 y8).2):=⟨_,Z,p 1 _ _ Z Z Z⟩
 have h26:=p.r 2 Z
 have h27:=p.r 3 Z
 replace f_u4:=f_u4.fr m
 replace q:=q.fr m
 obtain ⟨rl18,q19,c⟩:=zA6 c
 replace q19:=q19 Z
 refine zQO (fun R w=>∃ A:Av,∃ (s20:(List zA5)) (uo_ul_u1:Value),rl18=s20/\AvOK A w/\Fr w0 w/\(∀ b o,A0 b o->A b o)/\IniOK [ob uo_ul_u1 (.vec w0.heap.size 48 zA3 s20)] A w/\R 1=.int .i64 p1/\R 5=uo_ul_u1/\R 13=u4/\R 14=.int .i64 (x2.length:Int)/\R 15=.int .i64 y8/\Rep (eSl zA8) A w u4 x2) ?_ ?_
 refine HT.block<|zQS (fun k R w=>∃ A:Av,∃ (y21:Int) (y22:List zA5) (ul_ul_u1:Value),zAy fu x2 y8 k y21 y22=some rl18/\AvOK A w/\Fr w0 w/\(∀ b o,A0 b o->A b o)/\IniOK [ob ul_ul_u1 (.vec w0.heap.size 48 zA3 y22),ob (.pointer (some ⟨b7_12,0,none⟩)) (.box w0.heap.size 54 zA8 (gtD x2 y8))] A w/\R 1=.int .i64 p1/\R 5=ul_ul_u1/\R 7=(.pointer (some ⟨b7_12,0,none⟩))/\R 13=u4/\R 14=.int .i64 (x2.length:Int)/\R 15=.int .i64 y8/\R 25=u17/\R 26=.int .i64 (((gtD x2 y8).2).length:Int)/\R 27=.int .i64 y21/\Rep (eSl (eInt .i64)) A w u17 ((gtD x2 y8).2)/\Rep (eSl zA8) A w u4 x2) fu ⟨_,_,_,ul_u1,q19,d,j,B,q,h1,h5,h7,h13,h14,h15,h25,h26,h27,f_u17,f_u4⟩ ?_
 have hr0:=c;clear c q19
 rintro k R w ⟨A,y21,y22,ul_ul_u1,c,d,j,B,q,h1,h5,h7,h13,h14,h15,h25,h26,h27,f_u17,f_u4⟩
 rcases k with _ | k
 cases (show none=some _ from c)
 rw [zAy] at c
 refine zQU d j (eB (decide (y21<(((gtD x2 y8).2).length:Int)))::[]) ?_ ?_
 exact op (fun Q U W H D=>zAk ((H 27 Z).trans h27) ((H 26 Z).trans h26))<|oz
 intro R w m n p d j
 obtain ⟨h1,h5,h7,h13,h14,h15⟩:=k6 n h1 h5 h7 h13 h14 h15
 obtain ⟨h25,h26,h27⟩:=k3 n h25 h26 h27
 have h28:=p.r 0 Z
 replace f_u17:=f_u17.fr m
 replace f_u4:=f_u4.fr m
 replace q:=q.fr m
 refine zQT<|zQM (decide (y21<(((gtD x2 y8).2).length:Int))) h28 (fun c23=>?_) (fun c23=>?_)
 have c:=zAN c23 c
 refine HT.skip<|zQT<|HT.block ?_
 obtain ⟨e24,c⟩:=zA7 c
 refine zQU d j (eI y21::eF (.qtr (eInt .i64) A (gtD ((gtD x2 y8).2) y21))::eI (gtD ((gtD x2 y8).2) y21)::eI y21::eI (gtD ((gtD x2 y8).2) y21)::[]) ?_ ?_
 exact om h27<|op (fun Q U W H D=>zAC ((f_u17.fr W).eq ((H 25 Z).trans h25)) ((H 27 Z).trans h27) underlying52 sizeOf3 e24)<|op (fun Q U W H D=>OpF.int (zAT (QRep.ptr (D.g 0 Z)) isAgg3 sizeOf3))<|oa<|oa<|oz
 intro R w m n p d j
 obtain ⟨h1,h5,h7,h13,h14,h15⟩:=k6 n h1 h5 h7 h13 h14 h15
 obtain ⟨h25,h26,h27⟩:=k3 n h25 h26 h27
 have h8:=p.r 3 Z
 have h9:=p.r 4 Z
 replace f_u17:=f_u17.fr m
 replace f_u4:=f_u4.fr m
 replace q:=q.fr m
 obtain ⟨e25,e26,c⟩:=ck2 c
 refine zQU d j (eR (.pointer (some ⟨b7_12,1,none⟩))::eF (.rep (eSl (eInt .i64)) A ((gtD x2 y8).2))::eI y21::eI (y21+1)::eF (.rep (eSl (eInt .i64)) A (subL ((gtD x2 y8).2) (y21+1) (((gtD x2 y8).2).length:Int)))::eI ((subL ((gtD x2 y8).2) (y21+1) (((gtD x2 y8).2).length:Int)).length:Int)::eI 0::[]) ?_ ?_
 exact op (fun Q U W H D=>zAE ((H 7 Z).trans h7) zEn sizeOf52 (by decide) Z)<|op (fun Q U W H D=>(zAJ ((q.fr W).ok 1 _ Z).1 (D.g 0 Z) zBp Z isAgg52 sizeOf52))<|om h8<|op (fun Q U W H D=>zAS (D.g 0 Z) Z e25)<|op (fun Q U W H D=>zGz (D.g 0 Z) (D.g 1 Z) underlying52 sizeOf3 e26)<|op (fun Q U W H D=>zAK (aT:=#[]) (D.g 0 Z) underlying52)<|op (fun Q U W H D=>zBj Z)<|oz
 intro R w m n p d j
 obtain ⟨h1,h5,h7,h9,h13,h14⟩:=k6 n h1 h5 h7 h9 h13 h14
 obtain ⟨h15,h25,h26,h27⟩:=k4 n h15 h25 h26 h27
 obtain ⟨u27,h36,f_u27⟩:∃ u,R 36=u/\Rep (eSl (eInt .i64)) A w u (subL ((gtD x2 y8).2) (y21+1) (((gtD x2 y8).2).length:Int)):=⟨_,Z,p 4 _ _ Z Z Z⟩
 have h37:=p.r 5 Z
 have h38:=p.r 6 Z
 replace f_u17:=f_u17.fr m
 replace f_u4:=f_u4.fr m
 replace q:=q.fr m
 obtain ⟨rl28,q29,c⟩:=zA6 c
 replace q29:=q29 Z
 refine zQO (fun R w=>∃ A:Av,∃ (s30:(List zA5)) (uo_ul_ul_u1:Value),rl28=s30/\AvOK A w/\Fr w0 w/\(∀ b o,A0 b o->A b o)/\IniOK [ob uo_ul_ul_u1 (.vec w0.heap.size 48 zA3 s30),ob (.pointer (some ⟨b7_12,0,none⟩)) (.box w0.heap.size 54 zA8 (gtD x2 y8))] A w/\R 1=.int .i64 p1/\R 5=uo_ul_ul_u1/\R 7=(.pointer (some ⟨b7_12,0,none⟩))/\R 13=u4/\R 14=.int .i64 (x2.length:Int)/\R 15=.int .i64 y8/\R 25=u17/\R 26=.int .i64 (((gtD x2 y8).2).length:Int)/\R 27=.int .i64 y21/\Rep (eSl (eInt .i64)) A w u17 ((gtD x2 y8).2)/\Rep (eSl zA8) A w u4 x2) ?_ ?_
 refine HT.block<|zQS (fun k R w=>∃ A:Av,∃ (y31:Int) (y32:List zA5) (ul_ul_ul_u1:Value),zBe fu x2 y8 y21 k y31 y32=some rl28/\AvOK A w/\Fr w0 w/\(∀ b o,A0 b o->A b o)/\IniOK [ob ul_ul_ul_u1 (.vec w0.heap.size 48 zA3 y32),ob (.pointer (some ⟨b7_12,0,none⟩)) (.box w0.heap.size 54 zA8 (gtD x2 y8))] A w/\R 1=.int .i64 p1/\R 5=ul_ul_ul_u1/\R 7=(.pointer (some ⟨b7_12,0,none⟩))/\R 9=.int .i64 (gtD ((gtD x2 y8).2) y21)/\R 13=u4/\R 14=.int .i64 (x2.length:Int)/\R 15=.int .i64 y8/\R 25=u17/\R 26=.int .i64 (((gtD x2 y8).2).length:Int)/\R 27=.int .i64 y21/\R 36=u27/\R 37=.int .i64 ((subL ((gtD x2 y8).2) (y21+1) (((gtD x2 y8).2).length:Int)).length:Int)/\R 38=.int .i64 y31/\Rep (eSl (eInt .i64)) A w u17 ((gtD x2 y8).2)/\Rep (eSl (eInt .i64)) A w u27 (subL ((gtD x2 y8).2) (y21+1) (((gtD x2 y8).2).length:Int))/\Rep (eSl zA8) A w u4 x2) fu ⟨_,_,_,ul_ul_u1,q29,d,j,B,q,h1,h5,h7,h9,h13,h14,h15,h25,h26,h27,h36,h37,h38,f_u17,f_u27,f_u4⟩ ?_
 have hr0:=c;clear c q29
 rintro k R w ⟨A,y31,y32,ul_ul_ul_u1,c,d,j,B,q,h1,h5,h7,h9,h13,h14,h15,h25,h26,h27,h36,h37,h38,f_u17,f_u27,f_u4⟩
 rcases k with _ | k
 cases (show none=some _ from c)
 rw [zBe] at c
 refine zQU d j (eB (decide (y31<((subL ((gtD x2 y8).2) (y21+1) (((gtD x2 y8).2).length:Int)).length:Int)))::[]) ?_ ?_
 exact op (fun Q U W H D=>zAk ((H 38 Z).trans h38) ((H 37 Z).trans h37))<|oz
 intro R w m n p d j
 obtain ⟨h1,h5,h7,h9,h13,h14⟩:=k6 n h1 h5 h7 h9 h13 h14
 obtain ⟨h15,h25,h26,h27,h36,h37⟩:=k6 n h15 h25 h26 h27 h36 h37
 replace h38:=k1 n h38
 have h39:=p.r 0 Z
 replace f_u17:=f_u17.fr m
 replace f_u27:=f_u27.fr m
 replace f_u4:=f_u4.fr m
 replace q:=q.fr m
 refine zQT<|zQM (decide (y31<((subL ((gtD x2 y8).2) (y21+1) (((gtD x2 y8).2).length:Int)).length:Int))) h39 (fun c33=>?_) (fun c33=>?_)
 have c:=zAN c33 c
 refine HT.skip<|zQT<|HT.block ?_
 obtain ⟨e34,c⟩:=zA7 c
 refine zQU d j (eF (.qtr (eInt .i64) A (gtD (subL ((gtD x2 y8).2) (y21+1) (((gtD x2 y8).2).length:Int)) y31))::eI (gtD (subL ((gtD x2 y8).2) (y21+1) (((gtD x2 y8).2).length:Int)) y31)::eI (gtD (subL ((gtD x2 y8).2) (y21+1) (((gtD x2 y8).2).length:Int)) y31)::[]) ?_ ?_
 exact op (fun Q U W H D=>zAC ((f_u27.fr W).eq ((H 36 Z).trans h36)) ((H 38 Z).trans h38) underlying52 sizeOf3 e34)<|op (fun Q U W H D=>OpF.int (zAT (QRep.ptr (D.g 0 Z)) isAgg3 sizeOf3))<|oa<|oz
 intro R w m n p d j
 obtain ⟨h1,h5,h7,h9,h13,h14⟩:=k6 n h1 h5 h7 h9 h13 h14
 obtain ⟨h15,h25,h26,h27,h36,h37⟩:=k6 n h15 h25 h26 h27 h36 h37
 replace h38:=k1 n h38
 have h11:=p.r 2 Z
 replace f_u17:=f_u17.fr m
 replace f_u27:=f_u27.fr m
 replace f_u4:=f_u4.fr m
 replace q:=q.fr m
 obtain ⟨e35,c⟩:=zA7 c
 refine zQY [ob ul_ul_ul_u1 (.vec w0.heap.size 48 zA3 y32),ob (.pointer (some ⟨b7_12,0,none⟩)) (.box w0.heap.size 54 zA8 (gtD x2 y8))] (rR ul_ul_ul_u1::rI (gtD ((gtD x2 y8).2) y21)::rI (gtD (subL ((gtD x2 y8).2) (y21+1) (((gtD x2 y8).2).length:Int)) y31)::(rF fun A=>.rep zA3 A ((gtD ((gtD x2 y8).2) y21),(gtD (subL ((gtD x2 y8).2) (y21+1) (((gtD x2 y8).2).length:Int)) y31)))::(rF fun A=>.rep (eSl zA3) A ([((gtD ((gtD x2 y8).2) y21),(gtD (subL ((gtD x2 y8).2) (y21+1) (((gtD x2 y8).2).length:Int)) y31))]:List zA5))::⟨_,true,[0],some (.vec w0.heap.size 48 zA3 (y32++([((gtD ((gtD x2 y8).2) y21),(gtD (subL ((gtD x2 y8).2) (y21+1) (((gtD x2 y8).2).length:Int)) y31))]:List zA5))),true,fun A=>.any⟩::⟨_,true,[7],some (.vec w0.heap.size 48 zA3 (y32++([((gtD ((gtD x2 y8).2) y21),(gtD (subL ((gtD x2 y8).2) (y21+1) (((gtD x2 y8).2).length:Int)) y31))]:List zA5))),true,fun A=>.any⟩::[]) (ur (ur (ur (up (up (ua (ua (UAll.nil)))))))) q d ?_ ?_
 exact rm h5<|rm h9<|rm h11<|rp (fun V Q U O D=>by have a0:Q 43=.int .i64 (gtD ((gtD x2 y8).2) y21):=D.g 0 Z;have a1:Q 44=.int .i64 (gtD (subL ((gtD x2 y8).2) (y21+1) (((gtD x2 y8).2).length:Int)) y31):=D.g 1 Z;exact zGS (v:=.agg #[.int .i64 (gtD ((gtD x2 y8).2) y21),.int .i64 (gtD (subL ((gtD x2 y8).2) (y21+1) (((gtD x2 y8).2).length:Int)) y31)]) (by simp [execOp,Instr.build,zAH,a0,a1,underlying,underlying48,zeroValue48,sizeOf3,go_sem,Instr.fill]) ⟨_,Z,zFJ zBk zBk⟩)<|rp (fun V Q U O D=>zAe [_] (E:=zA3) ⟨(D.g 0 Z),N⟩ underlying39 sizeOf48 zeroValue48 Z Z Z O.av)<|rc (OblR.took 0 _ _ Z Z Z Z Z fun V Q U O D u X Y J L M=>by have a0:Q 42=ul_ul_ul_u1:=D.g 0 Z;have a1:Rep (eSl zA3) V U (Q 46) ([((gtD ((gtD x2 y8).2) y21),(gtD (subL ((gtD x2 y8).2) (y21+1) (((gtD x2 y8).2).length:Int)) y31))]:List zA5):=D.g 1 Z;exact zAW (a0.trans (J _ Z).symm) X Y (Nat.le_trans j.size O.ch.size) a1 underlying39 zNs e35)<|rc (OblR.took 7 _ _ Z Z Z Z Z fun V Q U O D u X Y J L M=>by exact zAD (L _ _ Z Z Z Z).symm X Y)<|rz
 intro done ρ σ A R w y s
 obtain ⟨h1,h7,h9,h13,h14,h15⟩:=k6 s.rg h1 h7 h9 h13 h14 h15
 obtain ⟨h25,h26,h27,h36,h37,h38⟩:=k6 s.rg h25 h26 h27 h36 h37 h38
 obtain ⟨u36,e_u36⟩:∃ u,ρ 8=u:=⟨_,Z⟩
 have h5:=s.ov y 8 6 e_u36
 have z37:=s.inivR 1 Z
 replace f_u17:=f_u17.stp s.stp
 replace f_u27:=f_u27.stp s.stp
 replace f_u4:=f_u4.stp s.stp
 obtain ⟨B,j,d⟩:=s.s B C j q ⟨Z,⟨Z,N⟩⟩
 replace q:=s.left y [(8,ob u36 (.vec w0.heap.size 48 zA3 (y32++([((gtD ((gtD x2 y8).2) y21),(gtD (subL ((gtD x2 y8).2) (y21+1) (((gtD x2 y8).2).length:Int)) y31))]:List zA5)))),(1,ob (.pointer (some ⟨b7_12,0,none⟩)) (.box w0.heap.size 54 zA8 (gtD x2 y8)))] ⟨Z,Z,e_u36,Z,Z,⟨Z,Z,z37,Z,Z,N⟩⟩
 obtain ⟨Yg37,g_Yg37⟩:∃ z:List zA5,z=(y32++([((gtD ((gtD x2 y8).2) y21),(gtD (subL ((gtD x2 y8).2) (y21+1) (((gtD x2 y8).2).length:Int)) y31))]:List zA5)):=⟨_,Z⟩
 rw [<- g_Yg37] at q
 try rw [<- g_Yg37] at c
 obtain ⟨e39,c⟩:=zA7 c
 refine HT.u d j (eI (y31+1)::eI (y31+1)::[]) ?_ ?_
 exact op (fun Q U W H D=>zAS ((H 38 Z).trans h38) Z e39)<|ov<|oz
 intro R w m n p d j
 obtain ⟨h1,h5,h7,h9,h13,h14⟩:=k6 n h1 h5 h7 h9 h13 h14
 obtain ⟨h15,h25,h26,h27,h36,h37⟩:=k6 n h15 h25 h26 h27 h36 h37
 have h38:=p.r 1 Z
 replace f_u17:=f_u17.fr m
 replace f_u27:=f_u27.fr m
 replace f_u4:=f_u4.fr m
 replace q:=q.fr m
 exact ei k (And.intro (Nat.lt_succ_self k) ⟨_,_,_,u36,c,d,j,B,q,h1,h5,h7,h9,h13,h14,h15,h25,h26,h27,h36,h37,h38,f_u17,f_u27,f_u4⟩)
 have c:=zAM c33 c
 refine zQR ?_
 obtain rfl:=si c
 exact ei _ ⟨_,ul_ul_ul_u1,Z,d,j,B,q,h1,h5,h7,h13,h14,h15,h25,h26,h27,f_u17,f_u4⟩
 rintro R w ⟨A,s30,uo_ul_ul_u1,es,d,j,B,q,h1,h5,h7,h13,h14,h15,h25,h26,h27,f_u17,f_u4⟩
 obtain rfl:=es.symm
 obtain ⟨e40,c⟩:=zA7 c
 refine HT.u d j (eI (y21+1)::eI (y21+1)::[]) ?_ ?_
 exact op (fun Q U W H D=>zAS ((H 27 Z).trans h27) Z e40)<|ov<|oz
 intro R w m n p d j
 obtain ⟨h1,h5,h7,h13,h14,h15⟩:=k6 n h1 h5 h7 h13 h14 h15
 obtain ⟨h25,h26⟩:=k2 n h25 h26
 have h27:=p.r 1 Z
 replace f_u17:=f_u17.fr m
 replace f_u4:=f_u4.fr m
 replace q:=q.fr m
 exact ei k (And.intro (Nat.lt_succ_self k) ⟨_,_,_,uo_ul_ul_u1,c,d,j,B,q,h1,h5,h7,h13,h14,h15,h25,h26,h27,f_u17,f_u4⟩)
 have c:=zAM c23 c
 refine zQR ?_
 obtain rfl:=si c
 replace q:IniOK [ob ul_ul_u1 (.vec w0.heap.size 48 zA3 y22)] A w:=q.sub [(0,ob ul_ul_u1 (.vec w0.heap.size 48 zA3 y22))] ⟨Z,Z,N⟩
 exact ei _ ⟨_,ul_ul_u1,Z,d,j,B,q,h1,h5,h13,h14,h15,f_u4⟩
 rintro R w ⟨A,s20,uo_ul_u1,es,d,j,B,q,h1,h5,h13,h14,h15,f_u4⟩
 obtain rfl:=es.symm
 obtain ⟨e41,c⟩:=zA7 c
 refine HT.u d j (eI (y8+1)::eI (y8+1)::[]) ?_ ?_
 exact op (fun Q U W H D=>zAS ((H 15 Z).trans h15) Z e41)<|ov<|oz
 intro R w m n p d j
 obtain ⟨h1,h5,h13,h14⟩:=k4 n h1 h5 h13 h14
 have h15:=p.r 1 Z
 replace f_u4:=f_u4.fr m
 replace q:=q.fr m
 exact ei k (And.intro (Nat.lt_succ_self k) ⟨_,_,_,uo_ul_u1,c,d,j,B,q,h1,h5,h13,h14,h15,f_u4⟩)
 have c:=zAM c10 c
 refine zQR ?_
 obtain rfl:=si c
 exact ei _ ⟨_,ul_u1,Z,d,j,B,q,h5⟩
 rintro R w ⟨A,s7,uo_u1,es,d,j,B,q,h5⟩
 obtain rfl:=es.symm
 obtain ⟨x42,q43,c⟩:=zA6 c
 refine zQV [ob uo_u1 (.vec w0.heap.size 48 zA3 s7)] (rR uo_u1::⟨_,true,[0],some (.vec w0.heap.size 48 zA3 x42),false,fun A=>.any⟩::[]) (ur (ua (UAll.nil))) q d ?_ ?_
 exact rm h5<|rc (OblR.took 0 _ _ Z Z Z Z Z fun V Q U O D u X Y J L M=>by have a0:Q 51=uo_u1:=D.g 0 Z;have hu0:zAH Q (.tmp 51)=u:=a0.trans (J _ Z).symm;exact zKO call49 Y (fun _ _ _ _ _ h=>h) (by simp only [List.map,hu0];exact Calls.mono (zL1 (q43 Z) (O.av.sub _) (fun b o h=>h.2) (Vec.flat X (fun _ _ _ _ _ h=>h)) Z) (fun _ _ ⟨v,h1,h2,h3,h4⟩=>⟨v,h1,N,h3,h4⟩)))<|rz
 intro done ρ σ A R w y s
 replace h5:=k1 s.rg h5
 have z44:=s.inivR 0 Z
 have z45:=s.on y 2 1 Z Z Z Z Z z44
 obtain ⟨B,j,d⟩:=s.s B C j q ⟨Z,N⟩
 replace q:=s.left y [(2,ob uo_u1 (.vec w0.heap.size 48 zA3 x42))] ⟨Z,Z,z45,Z,Z,N⟩
 obtain ⟨x46,q47,c⟩:=zA6 c
 refine zQV [ob uo_u1 (.vec w0.heap.size 48 zA3 x42)] (rR uo_u1::⟨_,true,[0],some (.vec w0.heap.size 48 zA3 x46),true,fun A=>.any⟩::⟨_,true,[2],some (.vec w0.heap.size 48 zA3 x46),true,fun A=>.any⟩::[]) (ur (ua (ua (UAll.nil)))) q d ?_ ?_
 exact rm h5<|rc (OblR.took 0 _ _ Z Z Z Z Z fun V Q U O D u X Y J L M=>by have a0:Q 53=uo_u1:=D.g 0 Z;have hu0:zAH Q (.tmp 53)=u:=a0.trans (J _ Z).symm;exact zD9 call51 Y (by simp only [List.map,hu0];exact zDY (q47 Z) (O.av.sub _) (fun b o h=>h.2) (Vec.flat X (fun _ _ _ _ _ h=>h))))<|rc (OblR.took 2 _ _ Z Z Z Z Z fun V Q U O D u X Y J L M=>by exact zAD (L _ _ Z Z Z Z).symm X Y)<|rz
 intro done ρ σ A R w y s
 obtain ⟨u48,e_u48⟩:∃ u,ρ 3=u:=⟨_,Z⟩
 have h4:=s.ov y 3 2 e_u48
 obtain ⟨B,j,d⟩:=s.s B C j q ⟨Z,N⟩
 replace q:=s.left y [(3,ob u48 (.vec w0.heap.size 48 zA3 x46))] ⟨Z,Z,e_u48,Z,Z,N⟩
 refine HT.ret ?_
 obtain rfl:=si c
 exact ⟨.inr Z,[R 4],⟨Z,N⟩,(zC7 (q.ok 0 _ Z) B h4),j⟩
theorem zF0 {fu : Nat} {A0 : Av} {p0 : List zA4} {p1 : Int} {r : List zA5} (c : zCQ fu p0 p1 = some r) {w : World} {v0 : Value} {v1 : Value} (d : AvOK A0 w) (hG : GTab w) (h0 : Rep (eSl zA0) A0 w v0 p0) (h1 : v1=.int .i64 p1) :
 Calls prog 25 #[v0,v1] w fun e w'=>∃ v,e=.returned v/\(Rep (eSl zA3) A0 w' v r/\Fr w w'):=by
 refine Calls.mono (zGn c d hG h0 h1) ?_
 rintro e w' ⟨v,he,hv,hf⟩
 exact ⟨v,he,zCB hv (fun b o h=>.inl h) d,hf⟩
end Go.Proofs.YtldppodfhabkjaaGreatDoor
