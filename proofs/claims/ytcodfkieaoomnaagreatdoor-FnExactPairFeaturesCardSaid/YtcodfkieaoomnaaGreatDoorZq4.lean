/- Own texts laid together. No statement of the seat is proved here. -/
import Derived.Test.YtcodfkieaoomnaaGreatDoorZq3
namespace Go.Proofs.YtcodfkieaoomnaaGreatDoor
open Go.RowKit
set_option linter.unusedVariables false
open _root_.Go.Proofs.Tryz
set_option maxRecDepth 100000
set_option maxHeartbeats 4000000
def zAn (fu : Nat) (p0 : List UInt8) : Nat → Int → Int → Int → Option (Int × Int)
 | 0,_,_,_=>none
 | k+1,y4,y5,y6=>
 bd ((decide (y6<(p0.length:Int)))&&(decide (y6<11))) fun x7=>
 bif x7 then (
 ck (inR y6 p0.length) <|
 ck (!(true&&((decide (48≤(bAt p0 y6)))==true)) || inR y6 p0.length) <|
 bd ((decide (48≤(bAt p0 y6)))&&(decide ((bAt p0 y6)≤57))) fun x12=>
 bif x12 then (
 ck (i64B (y4*10)) <|
 ck (inR y6 p0.length) <|
 ck (i64B ((y4*10)+(IntKind.i64.wrap (IntKind.u8.wrap ((bAt p0 y6)-48))))) <|
 ck (i64B (y5+1)) <|
 ck (i64B (y6+1)) <|
 zAn fu p0 k ((y4*10)+(IntKind.i64.wrap (IntKind.u8.wrap ((bAt p0 y6)-48)))) (y5+1) (y6+1)
 ) else (
 ck (i64B (y6+1)) <|
 zAn fu p0 k y4 y5 (y6+1)
 )
 ) else (
 some (y4,y5)
 )
def zDQ (fu:Nat) (p0:List UInt8):Option (Int × Bool):=
 cl true (zAn fu p0 fu 0 0 0) fun s3=>
 ck (!(true&&((decide (0<(p0.length:Int)))==true)) || inR 0 p0.length) <|
 bd ((decide (0<(p0.length:Int)))&&((bAt p0 0)==45)) fun x22=>
 bif x22 then (
 ck (i64B (0-s3.1)) <|
 bd ((decide (9<s3.2)) || (decide (10<(p0.length:Int)))) fun x26=>
 cl (true&&(x26==false)) (zC6 fu (0-s3.1)) fun x28=>
 bd (x26 || (!(x28==p0))) fun x30=>
 bif x30 then (
 some (0,false)
 ) else (
 some ((0-s3.1),true)
 )
 ) else (
 bd ((decide (9<s3.2)) || (decide (10<(p0.length:Int)))) fun x33=>
 cl (true&&(x33==false)) (zC6 fu s3.1) fun x35=>
 bd (x33 || (!(x35==p0))) fun x37=>
 bif x37 then (
 some (0,false)
 ) else (
 some (s3.1,true)
 )
 )
theorem zGs {fu : Nat} {A : Av} {p0 : List UInt8} {r : Int × Bool} (c : zDQ fu p0 = some r) {w : World} {v0 : Value} (d : AvOK A w) (h0 : Rep eStr A w v0 p0) :
 Calls prog 134 #[v0] w fun e w'=>∃ v,e = .returned v∧((∃ a b,v = .tuple #[a,b]∧a = .int .i64 r.1∧b = .bool r.2)∧Fr w w'):=by
 unfold zDQ at c
 obtain ⟨w0,hw0⟩:∃ w0,w0=w:=⟨_,Z⟩
 have j:Fr w0 w:=hw0 ▸ Fr.refl _
 rw [show Fr w=Fr w0 from hw0 ▸ Z]
 clear hw0
 refine zA2 [.tmp 2,.tmp 3] func134 ntmps134 (by decide) Z Z (nb Z) ?_
 intro R hR
 have f_v0:=h0
 replace h0:R 0=v0:=hR 0 _ Z
 clear hR
 refine HT.su d j (eI 0::eB false::[]) ?_ ?_
 exact op (fun Q U W H D=>zA0 Z)<|op (fun Q U W H D=>zA0 Z)<|oz
 intro R w m n p d j
 replace h0:=k1 n h0
 replace f_v0:=f_v0.fr m
 refine HT.su d j (eI 0::[]) ?_ ?_
 exact op (fun Q U W H D=>zA0 Z)<|oz
 intro R w m n p d j
 replace h0:=k1 n h0
 have h4:=p.r 0 Z
 replace f_v0:=f_v0.fr m
 refine HT.su d j (eI 0::[]) ?_ ?_
 exact op (fun Q U W H D=>zA0 Z)<|oz
 intro R w m n p d j
 obtain ⟨h0,h4⟩:=k2 n h0 h4
 have h5:=p.r 0 Z
 replace f_v0:=f_v0.fr m
 refine HT.seq ?_
 refine HT.su d j (eI 0::[]) ?_ ?_
 exact op (fun Q U W H D=>zA0 Z)<|oz
 intro R w m n p d j
 obtain ⟨h0,h4,h5⟩:=k3 n h0 h4 h5
 have h6:=p.r 0 Z
 replace f_v0:=f_v0.fr m
 obtain ⟨rl1,q2,c⟩:=zA3 c
 replace q2:=q2 Z
 refine HT.cut0 (fun R w=>∃ (s3:Int × Int),rl1=s3∧AvOK A w∧Fr w0 w∧R 0=v0∧R 4 = .int .i64 s3.1∧R 5 = .int .i64 s3.2∧Rep eStr A w v0 p0) ?_ ?_
 refine HT.block ?_
 refine HT.loop (fun k R w=>∃ (y4:Int) (y5:Int) (y6:Int),zAn fu p0 k y4 y5 y6=some rl1∧AvOK A w∧Fr w0 w∧R 0=v0∧R 4 = .int .i64 y4∧R 5 = .int .i64 y5∧R 6 = .int .i64 y6∧Rep eStr A w v0 p0) fu ⟨_,_,_,q2,d,j,h0,h4,h5,h6,f_v0⟩ ?_
 have hr0:=c;clear c q2
 rintro k R w ⟨y4,y5,y6,c,d,j,h0,h4,h5,h6,f_v0⟩
 rcases k with _ | k
 cases (show none=some _ from c)
 rw [zAn] at c
 refine HT.seq ?_
 refine HT.seq ?_
 obtain ⟨x7,q8,c⟩:=zAB c
 refine HT.u d j (eI y6::eR v0::eI (p0.length:Int)::eB (decide (y6<(p0.length:Int)))::eB (decide (y6<(p0.length:Int)))::gI (true&&((decide (y6<(p0.length:Int)))==true)) y6::gB (true&&((decide (y6<(p0.length:Int)))==true)) (decide (y6<11))::eB x7::[]) ?_ ?_
 exact om h6<|om h0<|op (fun Q U W H D=>zAG ((f_v0.fr W).eq (D.g 0 Z)) underlying9)<|op (fun Q U W H D=>zAf (D.g 0 Z) (D.g 1 Z))<|ov<|gm 4 true h6<|og 4 true (fun G Q U W H D=>zAf (D.h 0 G Z) Z)<|op (fun Q U W H D=>zAC (decide (y6<(p0.length:Int))) (D.g 0 Z) (fun hc=>by have a1:Q 13 = .bool (decide (y6<11)):=D 1 _ _ _ Z Z Z Z (zAZ Z (zAM hc));show _=Value.bool x7;rw [q8,hc];exact a1) (fun hc=>by show _=Value.bool x7;rw [q8,hc];exact Z))<|oz
 intro R w m n p d j
 obtain ⟨h0,h4,h5,h6⟩:=k4 n h0 h4 h5 h6
 have h14:=p.r 7 Z
 replace f_v0:=f_v0.fr m
 refine HT.cond x7 h14 (fun c9=>?_) (fun c9=>?_)
 have c:=zAK c9 c
 refine HT.skip ?_
 refine HT.seq ?_
 refine HT.block ?_
 refine HT.seq ?_
 obtain ⟨e10,e11,c⟩:=ck2 c
 obtain ⟨x12,q13,c⟩:=zAB c
 refine HT.u d j (eR v0::eI y6::eU (bAt p0 y6)::eB (decide (48≤(bAt p0 y6)))::eB (decide (48≤(bAt p0 y6)))::gR (true&&((decide (48≤(bAt p0 y6)))==true)) v0::gI (true&&((decide (48≤(bAt p0 y6)))==true)) y6::gU (true&&((decide (48≤(bAt p0 y6)))==true)) (bAt p0 y6)::gB (true&&((decide (48≤(bAt p0 y6)))==true)) (decide ((bAt p0 y6)≤57))::eB x12::[]) ?_ ?_
 exact om h0<|om h6<|op (fun Q U W H D=>zA8 ((f_v0.fr W).eq (D.g 0 Z)) (D.g 1 Z) underlying9 e10)<|op (fun Q U W H D=>zDt (D.g 0 Z) Z)<|ov<|gm 4 true h0<|gm 4 true h6<|og 4 true (fun G Q U W H D=>zA8 ((f_v0.fr W).eq (D.h 0 G Z)) (D.h 1 G Z) underlying9 (gd e11 G))<|og 4 true (fun G Q U W H D=>zDu (D.h 0 G Z) Z)<|op (fun Q U W H D=>zAC (decide (48≤(bAt p0 y6))) (D.g 0 Z) (fun hc=>by have a1:Q 25 = .bool (decide ((bAt p0 y6)≤57)):=D 1 _ _ _ Z Z Z Z (zAZ Z (zAM hc));show _=Value.bool x12;rw [q13,hc];exact a1) (fun hc=>by show _=Value.bool x12;rw [q13,hc];exact Z))<|oz
 intro R w m n p d j
 obtain ⟨h0,h4,h5,h6⟩:=k4 n h0 h4 h5 h6
 have h26:=p.r 9 Z
 replace f_v0:=f_v0.fr m
 refine HT.cond x12 h26 (fun c14=>?_) (fun c14=>?_)
 have c:=zAK c14 c
 obtain ⟨e15,e16,e17,c⟩:=ck3 c
 refine HT.su d j (eI y4::eI (y4*10)::eR v0::eI y6::eU (bAt p0 y6)::eU (IntKind.u8.wrap ((bAt p0 y6)-48))::eI (IntKind.i64.wrap (IntKind.u8.wrap ((bAt p0 y6)-48)))::eI ((y4*10)+(IntKind.i64.wrap (IntKind.u8.wrap ((bAt p0 y6)-48))))::eI ((y4*10)+(IntKind.i64.wrap (IntKind.u8.wrap ((bAt p0 y6)-48))))::[]) ?_ ?_
 exact om h4<|op (fun Q U W H D=>zHq (D.g 0 Z) Z e15)<|om h0<|om h6<|op (fun Q U W H D=>zA8 ((f_v0.fr W).eq (D.g 0 Z)) (D.g 1 Z) underlying9 e16)<|op (fun Q U W H D=>zJB (D.g 0 Z) Z)<|op (fun Q U W H D=>zDn (D.g 0 Z) underlying5 underlying3)<|op (fun Q U W H D=>zAN (D.g 0 Z) (D.g 1 Z) e17)<|oa<|oz
 intro R w m n p d j
 obtain ⟨h0,h5,h6⟩:=k3 n h0 h5 h6
 have h4:=p.r 8 Z
 replace f_v0:=f_v0.fr m
 obtain ⟨e18,c⟩:=zA4 c
 refine HT.u d j (eI y5::eI (y5+1)::eI (y5+1)::[]) ?_ ?_
 exact om h5<|op (fun Q U W H D=>zAN (D.g 0 Z) Z e18)<|oa<|oz
 intro R w m n p d j
 obtain ⟨h0,h4,h6⟩:=k3 n h0 h4 h6
 have h5:=p.r 2 Z
 replace f_v0:=f_v0.fr m
 obtain ⟨e19,c⟩:=zA4 c
 refine HT.u d j (eI y6::eI (y6+1)::eI (y6+1)::[]) ?_ ?_
 exact om h6<|op (fun Q U W H D=>zAN (D.g 0 Z) Z e19)<|oa<|oz
 intro R w m n p d j
 obtain ⟨h0,h4,h5⟩:=k3 n h0 h4 h5
 have h6:=p.r 2 Z
 replace f_v0:=f_v0.fr m
 exact ei k (And.intro (Nat.lt_succ_self k) ⟨_,_,_,c,d,j,h0,h4,h5,h6,f_v0⟩)
 have c:=zAL c14 c
 refine HT.skip ?_
 obtain ⟨e20,c⟩:=zA4 c
 refine HT.u d j (eI y6::eI (y6+1)::eI (y6+1)::[]) ?_ ?_
 exact om h6<|op (fun Q U W H D=>zAN (D.g 0 Z) Z e20)<|oa<|oz
 intro R w m n p d j
 obtain ⟨h0,h4,h5⟩:=k3 n h0 h4 h5
 have h6:=p.r 2 Z
 replace f_v0:=f_v0.fr m
 exact ei k (And.intro (Nat.lt_succ_self k) ⟨_,_,_,c,d,j,h0,h4,h5,h6,f_v0⟩)
 have c:=zAL c9 c
 refine HT.exit ?_
 obtain rfl:=si c
 exact ei _ ⟨Z,d,j,h0,h4,h5,f_v0⟩
 rintro R w ⟨s3,es,d,j,h0,h4,h5,f_v0⟩
 obtain rfl:=es.symm
 refine HT.seq ?_
 refine HT.seq ?_
 obtain ⟨e21,c⟩:=zA4 c
 obtain ⟨x22,q23,c⟩:=zAB c
 refine HT.u d j (eR v0::eI (p0.length:Int)::eB (decide (0<(p0.length:Int)))::eB (decide (0<(p0.length:Int)))::gR (true&&((decide (0<(p0.length:Int)))==true)) v0::gU (true&&((decide (0<(p0.length:Int)))==true)) (bAt p0 0)::gB (true&&((decide (0<(p0.length:Int)))==true)) ((bAt p0 0)==45)::eB x22::[]) ?_ ?_
 exact om h0<|op (fun Q U W H D=>zAG ((f_v0.fr W).eq (D.g 0 Z)) underlying9)<|op (fun Q U W H D=>zCM (D.g 0 Z) Z)<|ov<|gm 3 true h0<|og 3 true (fun G Q U W H D=>zA8 ((f_v0.fr W).eq (D.h 0 G Z)) Z underlying9 (gd e21 G))<|og 3 true (fun G Q U W H D=>zBA (D.h 0 G Z) Z)<|op (fun Q U W H D=>zAC (decide (0<(p0.length:Int))) (D.g 0 Z) (fun hc=>by have a1:Q 43 = .bool ((bAt p0 0)==45):=D 1 _ _ _ Z Z Z Z (zAZ Z (zAM hc));show _=Value.bool x22;rw [q23,hc];exact a1) (fun hc=>by show _=Value.bool x22;rw [q23,hc];exact Z))<|oz
 intro R w m n p d j
 obtain ⟨h0,h4,h5⟩:=k3 n h0 h4 h5
 have h44:=p.r 7 Z
 replace f_v0:=f_v0.fr m
 refine HT.cond x22 h44 (fun c24=>?_) (fun c24=>?_)
 have c:=zAK c24 c
 obtain ⟨e25,c⟩:=zA4 c
 refine HT.u d j (eI s3.1::eI (0-s3.1)::eI (0-s3.1)::[]) ?_ ?_
 exact om h4<|op (fun Q U W H D=>zO7 (D.g 0 Z) e25)<|oa<|oz
 intro R w m n p d j
 obtain ⟨h0,h5⟩:=k2 n h0 h5
 have h4:=p.r 2 Z
 replace f_v0:=f_v0.fr m
 refine HT.seq ?_
 refine HT.seq ?_
 obtain ⟨x26,q27,c⟩:=zAB c
 obtain ⟨x28,q29,c⟩:=zA3 c
 obtain ⟨x30,q31,c⟩:=zAB c
 refine HT.u d j (eI s3.2::eB (decide (9<s3.2))::eB (decide (9<s3.2))::gR (true&&((decide (9<s3.2))==false)) v0::gI (true&&((decide (9<s3.2))==false)) (p0.length:Int)::gB (true&&((decide (9<s3.2))==false)) (decide (10<(p0.length:Int)))::eB x26::eB x26::gI (true&&(x26==false)) (0-s3.1)::gF (true&&(x26==false)) (.rep eStr A x28)::gR (true&&(x26==false)) v0::gB (true&&(x26==false)) (!(x28==p0))::eB x30::[]) ?_ ?_
 exact om h5<|op (fun Q U W H D=>zCM (D.g 0 Z) Z)<|ov<|gm 2 false h0<|og 2 false (fun G Q U W H D=>zAG ((f_v0.fr W).eq (D.h 0 G Z)) underlying9)<|og 2 false (fun G Q U W H D=>zCM (D.h 0 G Z) Z)<|op (fun Q U W H D=>zAC (decide (9<s3.2)) (D.g 0 Z) (fun hc=>by show _=Value.bool x26;rw [q27,hc];exact Z) (fun hc=>by have a2:Q 52 = .bool (decide (10<(p0.length:Int))):=D 1 _ _ _ Z Z Z Z (zAZ Z (zAM hc));show _=Value.bool x26;rw [q27,hc];exact a2))<|ov<|gm 7 false h4<|og 7 false (fun G Q U W H D=>zA6 call88 (zEt (q29 G) (d.fr W.size) (D.h 0 G Z)))<|gm 7 false h0<|og 7 false (fun G Q U W H D=>zFW (D.h 0 G Z) ((f_v0.fr W).eq (D.h 1 G Z)))<|op (fun Q U W H D=>zAC x26 (D.g 0 Z) (fun hc=>by show _=Value.bool x30;rw [q31,hc];exact Z) (fun hc=>by have a2:Q 58 = .bool (!(x28==p0)):=D 1 _ _ _ Z Z Z Z (zAZ Z (zAM hc));show _=Value.bool x30;rw [q31,hc];exact a2))<|oz
 intro R w m n p d j
 replace h4:=k1 n h4
 have h59:=p.r 12 Z
 refine HT.cond x30 h59 (fun c32=>?_) (fun c32=>?_)
 have c:=zAK c32 c
 refine HT.su d j (eI 0::eB false::[]) ?_ ?_
 exact op (fun Q U W H D=>zA0 Z)<|op (fun Q U W H D=>zA0 Z)<|oz
 intro R w m n p d j
 have h2:=p.r 0 Z
 have h3:=p.r 1 Z
 refine HT.ret ?_
 obtain rfl:=si c
 exact ⟨.inr Z,[R 2,R 3],⟨Z,⟨Z,N⟩⟩,⟨_,_,Z,h2,h3⟩,j⟩
 have c:=zAL c32 c
 refine HT.skip ?_
 refine HT.su d j (eI (0-s3.1)::eI (0-s3.1)::eB true::[]) ?_ ?_
 exact om h4<|oa<|op (fun Q U W H D=>zA0 Z)<|oz
 intro R w m n p d j
 have h2:=p.r 1 Z
 have h3:=p.r 2 Z
 refine HT.ret ?_
 obtain rfl:=si c
 exact ⟨.inr Z,[R 2,R 3],⟨Z,⟨Z,N⟩⟩,⟨_,_,Z,h2,h3⟩,j⟩
 have c:=zAL c24 c
 refine HT.skip ?_
 refine HT.seq ?_
 refine HT.seq ?_
 obtain ⟨x33,q34,c⟩:=zAB c
 obtain ⟨x35,q36,c⟩:=zA3 c
 obtain ⟨x37,q38,c⟩:=zAB c
 refine HT.u d j (eI s3.2::eB (decide (9<s3.2))::eB (decide (9<s3.2))::gR (true&&((decide (9<s3.2))==false)) v0::gI (true&&((decide (9<s3.2))==false)) (p0.length:Int)::gB (true&&((decide (9<s3.2))==false)) (decide (10<(p0.length:Int)))::eB x33::eB x33::gI (true&&(x33==false)) s3.1::gF (true&&(x33==false)) (.rep eStr A x35)::gR (true&&(x33==false)) v0::gB (true&&(x33==false)) (!(x35==p0))::eB x37::[]) ?_ ?_
 exact om h5<|op (fun Q U W H D=>zCM (D.g 0 Z) Z)<|ov<|gm 2 false h0<|og 2 false (fun G Q U W H D=>zAG ((f_v0.fr W).eq (D.h 0 G Z)) underlying9)<|og 2 false (fun G Q U W H D=>zCM (D.h 0 G Z) Z)<|op (fun Q U W H D=>zAC (decide (9<s3.2)) (D.g 0 Z) (fun hc=>by show _=Value.bool x33;rw [q34,hc];exact Z) (fun hc=>by have a2:Q 52 = .bool (decide (10<(p0.length:Int))):=D 1 _ _ _ Z Z Z Z (zAZ Z (zAM hc));show _=Value.bool x33;rw [q34,hc];exact a2))<|ov<|gm 7 false h4<|og 7 false (fun G Q U W H D=>zA6 call88 (zEt (q36 G) (d.fr W.size) (D.h 0 G Z)))<|gm 7 false h0<|og 7 false (fun G Q U W H D=>zFW (D.h 0 G Z) ((f_v0.fr W).eq (D.h 1 G Z)))<|op (fun Q U W H D=>zAC x33 (D.g 0 Z) (fun hc=>by show _=Value.bool x37;rw [q38,hc];exact Z) (fun hc=>by have a2:Q 58 = .bool (!(x35==p0)):=D 1 _ _ _ Z Z Z Z (zAZ Z (zAM hc));show _=Value.bool x37;rw [q38,hc];exact a2))<|oz
 intro R w m n p d j
 replace h4:=k1 n h4
 have h59:=p.r 12 Z
 refine HT.cond x37 h59 (fun c39=>?_) (fun c39=>?_)
 have c:=zAK c39 c
 refine HT.su d j (eI 0::eB false::[]) ?_ ?_
 exact op (fun Q U W H D=>zA0 Z)<|op (fun Q U W H D=>zA0 Z)<|oz
 intro R w m n p d j
 have h2:=p.r 0 Z
 have h3:=p.r 1 Z
 refine HT.ret ?_
 obtain rfl:=si c
 exact ⟨.inr Z,[R 2,R 3],⟨Z,⟨Z,N⟩⟩,⟨_,_,Z,h2,h3⟩,j⟩
 have c:=zAL c39 c
 refine HT.skip ?_
 refine HT.su d j (eI s3.1::eI s3.1::eB true::[]) ?_ ?_
 exact om h4<|oa<|op (fun Q U W H D=>zA0 Z)<|oz
 intro R w m n p d j
 have h2:=p.r 1 Z
 have h3:=p.r 2 Z
 refine HT.ret ?_
 obtain rfl:=si c
 exact ⟨.inr Z,[R 2,R 3],⟨Z,⟨Z,N⟩⟩,⟨_,_,Z,h2,h3⟩,j⟩
def zC7 (fu:Nat) (p0:List UInt8):Option Int:=
 cl true (zDQ fu p0) fun x1=>
 cl (true&&((!x1.2)==false)) (zCz fu x1.1 1000 9999) fun x3=>
 bd ((!x1.2) || (!x3)) fun x5=>
 bif x5 then (
 some 0
 ) else (
 some x1.1
 )
theorem zEr {fu : Nat} {A : Av} {p0 : List UInt8} {r : Int} (c : zC7 fu p0 = some r) {w : World} {v0 : Value} (d : AvOK A w) (h0 : Rep eStr A w v0 p0) :
 Calls prog 61 #[v0] w fun e w'=>∃ v,e = .returned v∧(v = .int .i64 r∧Fr w w'):=by
 unfold zC7 at c
 obtain ⟨w0,hw0⟩:∃ w0,w0=w:=⟨_,Z⟩
 have j:Fr w0 w:=hw0 ▸ Fr.refl _
 rw [show Fr w=Fr w0 from hw0 ▸ Z]
 clear hw0
 refine zA2 [.tmp 2] func61 ntmps61 (by decide) Z Z (nb Z) ?_
 intro R hR
 have f_v0:=h0
 replace h0:R 0=v0:=hR 0 _ Z
 clear hR
 refine HT.su d j (eI 0::[]) ?_ ?_
 exact op (fun Q U W H D=>zA0 Z)<|oz
 intro R w m n p d j
 replace h0:=k1 n h0
 replace f_v0:=f_v0.fr m
 obtain ⟨x1,q2,c⟩:=zA3 c
 refine HT.su d j (eR v0::eF (.tup2 (.raw (.int .i64 x1.1)) (.raw (.bool x1.2)))::eF (.tup2 (.raw (.int .i64 x1.1)) (.raw (.bool x1.2)))::eI x1.1::eB x1.2::eI x1.1::eB x1.2::[]) ?_ ?_
 exact om h0<|op (fun Q U W H D=>zA6 call134 (zGs (q2 Z) (d.fr W.size) ((f_v0.fr W).eq (D.g 0 Z))))<|op (fun Q U W H D=>zCE (D.g 0 Z))<|op (fun Q U W H D=>zFV (D.g 0 Z))<|op (fun Q U W H D=>zFP (D.g 0 Z))<|oa<|oa<|oz
 intro R w m n p d j
 have h3:=p.r 5 Z
 have h4:=p.r 6 Z
 refine HT.seq ?_
 refine HT.seq ?_
 obtain ⟨x3,q4,c⟩:=zA3 c
 obtain ⟨x5,q6,c⟩:=zAB c
 refine HT.u d j (eB x1.2::eB (!x1.2)::eB (!x1.2)::gI (true&&((!x1.2)==false)) x1.1::gB (true&&((!x1.2)==false)) x3::gB (true&&((!x1.2)==false)) (!x3)::eB x5::[]) ?_ ?_
 exact om h4<|op (fun Q U W H D=>zBh (D.g 0 Z))<|ov<|gm 2 false h3<|og 2 false (fun G Q U W H D=>zA6 call99 (zDB (q4 G) (d.fr W.size) (D.h 0 G Z) Z Z))<|og 2 false (fun G Q U W H D=>zBh (D.h 0 G Z))<|op (fun Q U W H D=>zAC (!x1.2) (D.g 0 Z) (fun hc=>by show _=Value.bool x5;rw [q6,hc];exact Z) (fun hc=>by have a2:Q 15 = .bool (!x3):=D 1 _ _ _ Z Z Z Z (zAZ Z (zAM hc));show _=Value.bool x5;rw [q6,hc];exact a2))<|oz
 intro R w m n p d j
 replace h3:=k1 n h3
 have h16:=p.r 6 Z
 refine HT.cond x5 h16 (fun c7=>?_) (fun c7=>?_)
 have c:=zAK c7 c
 refine HT.su d j (eI 0::[]) ?_ ?_
 exact op (fun Q U W H D=>zA0 Z)<|oz
 intro R w m n p d j
 have h2:=p.r 0 Z
 refine HT.ret ?_
 obtain rfl:=si c
 exact ⟨.inr Z,[R 2],⟨Z,N⟩,h2,j⟩
 have c:=zAL c7 c
 refine HT.skip ?_
 refine HT.su d j (eI x1.1::eI x1.1::[]) ?_ ?_
 exact om h3<|oa<|oz
 intro R w m n p d j
 have h2:=p.r 1 Z
 refine HT.ret ?_
 obtain rfl:=si c
 exact ⟨.inr Z,[R 2],⟨Z,N⟩,h2,j⟩
def zB9 (fu:Nat) (p0:Int) (p1:Int) (p2:Int):Option Bool:=
 bd ((decide (p1≤p0))&&(decide (p0≤p2))) fun x1=>
 some x1
theorem zBO {fu : Nat} {A : Av} {p0 : Int} {p1 : Int} {p2 : Int} {r : Bool} (c : zB9 fu p0 p1 p2 = some r) {w : World} {v0 : Value} {v1 : Value} {v2 : Value} (d : AvOK A w) (h0 : v0 = .int .i64 p0) (h1 : v1 = .int .i64 p1) (h2 : v2 = .int .i64 p2) :
 Calls prog 94 #[v0,v1,v2] w fun e w'=>∃ v,e = .returned v∧(v = .bool r∧Fr w w'):=by
 unfold zB9 at c
 obtain ⟨w0,hw0⟩:∃ w0,w0=w:=⟨_,Z⟩
 have j:Fr w0 w:=hw0 ▸ Fr.refl _
 rw [show Fr w=Fr w0 from hw0 ▸ Z]
 clear hw0
 refine zA2 [.tmp 6] func94 ntmps94 (by decide) Z Z (nb Z) ?_
 intro R hR
 replace h0:R 0 = .int .i64 p0:=(hR 0 _ Z).trans h0
 replace h1:R 1 = .int .i64 p1:=(hR 1 _ Z).trans h1
 replace h2:R 2 = .int .i64 p2:=(hR 2 _ Z).trans h2
 clear hR
 refine HT.su d j (eB false::[]) ?_ ?_
 exact op (fun Q U W H D=>zA0 Z)<|oz
 intro R w m n p d j
 obtain ⟨h0,h1,h2⟩:=k3 n h0 h1 h2
 refine HT.seq ?_
 obtain ⟨x1,q2,c⟩:=zAB c
 refine HT.u d j (eI p0::eI p1::eB (decide (p1≤p0))::eB (decide (p1≤p0))::gI (true&&((decide (p1≤p0))==true)) p0::gI (true&&((decide (p1≤p0))==true)) p2::gB (true&&((decide (p1≤p0))==true)) (decide (p0≤p2))::eB x1::eB x1::[]) ?_ ?_
 exact om h0<|om h1<|op (fun Q U W H D=>zDt (D.g 0 Z) (D.g 1 Z))<|ov<|gm 3 true h0<|gm 3 true h2<|og 3 true (fun G Q U W H D=>zDu (D.h 0 G Z) (D.h 1 G Z))<|op (fun Q U W H D=>zAC (decide (p1≤p0)) (D.g 0 Z) (fun hc=>by have a1:Q 13 = .bool (decide (p0≤p2)):=D 1 _ _ _ Z Z Z Z (zAZ Z (zAM hc));show _=Value.bool x1;rw [q2,hc];exact a1) (fun hc=>by show _=Value.bool x1;rw [q2,hc];exact Z))<|oa<|oz
 intro R w m n p d j
 have h6:=p.r 8 Z
 refine HT.ret ?_
 obtain rfl:=si c
 exact ⟨.inr Z,[R 6],⟨Z,N⟩,h6,j⟩
def zAV (fu : Nat) (p0 : List (List UInt8)) (p1 : (List UInt8) → Option Bool) : Nat → Int → Option (Ex Int Unit)
 | 0,_=>none
 | k+1,y4=>
 bif (decide (y4<(p0.length:Int))) then (
 ck (inR y4 p0.length) <|
 cl true (p1 (gtD p0 y4)) fun x7=>
 bif x7 then (
 some (Ex.ret y4)
 ) else (
 ck (i64B (y4+1)) <|
 zAV fu p0 p1 k (y4+1)
 )
 ) else (
 some (Ex.go ())
 )
def zBB (fu:Nat) (p0:List (List UInt8)) (p1:(List UInt8)→Option Bool):Option Int:=
 cl true (zAV fu p0 p1 fu 0) fun rl1=>
 exM rl1 (fun r=>some r) fun s3=>
 some (-1)
theorem zDo {fu : Nat} {A : Av} {p0 : List (List UInt8)} {p1 : (List UInt8) → Option Bool} {r : Int} (c : zBB fu p0 p1 = some r) {w : World} {v0 : Value} {v1 : Value} (d : AvOK A w) (h0 : Rep (eSl eStr) A w v0 p0) (h1 : FnB1 prog eStr (fun r => .raw (.bool r)) A w v1 p1) :
 Calls prog 211 #[v0,v1] w fun e w'=>∃ v,e = .returned v∧(v = .int .i64 r∧Fr w w'):=by
 unfold zBB at c
 obtain ⟨w0,hw0⟩:∃ w0,w0=w:=⟨_,Z⟩
 have j:Fr w0 w:=hw0 ▸ Fr.refl _
 rw [show Fr w=Fr w0 from hw0 ▸ Z]
 have f_v1:FnB1 prog eStr (fun r=>.raw (.bool r)) A w0 v1 p1:=hw0 ▸ h1
 clear hw0
 refine zA2 [.tmp 4] func211 ntmps211 (by decide) Z Z (nb Z) ?_
 intro R hR
 have f_v0:=h0
 replace h0:R 0=v0:=hR 0 _ Z
 replace h1:R 1=v1:=hR 1 _ Z
 clear hR
 refine HT.su d j (eI 0::[]) ?_ ?_
 exact op (fun Q U W H D=>zA0 Z)<|oz
 intro R w m n p d j
 obtain ⟨h0,h1⟩:=k2 n h0 h1
 replace f_v0:=f_v0.fr m
 refine HT.seq ?_
 refine HT.su d j (eR v0::eI (p0.length:Int)::eI 0::[]) ?_ ?_
 exact om h0<|op (fun Q U W H D=>zAb (aT:=#[]) ((f_v0.fr W).eq (D.g 0 Z)) underlying46)<|op (fun Q U W H D=>zCE Z)<|oz
 intro R w m n p d j
 obtain ⟨h0,h1⟩:=k2 n h0 h1
 have h7:=p.r 1 Z
 have h8:=p.r 2 Z
 replace f_v0:=f_v0.fr m
 obtain ⟨rl1,q2,c⟩:=zA3 c
 replace q2:=q2 Z
 refine HT.cut0 (fun R w=>∃ (s3:Unit),rl1=Ex.go s3∧AvOK A w∧Fr w0 w) ?_ ?_
 refine HT.block ?_
 refine HT.loop (fun k R w=>∃ (y4:Int),zAV fu p0 p1 k y4=some rl1∧AvOK A w∧Fr w0 w∧R 0=v0∧R 1=v1∧R 7 = .int .i64 (p0.length:Int)∧R 8 = .int .i64 y4∧Rep (eSl eStr) A w v0 p0) fu ⟨_,q2,d,j,h0,h1,h7,h8,f_v0⟩ ?_
 have hr0:=c;clear c q2
 rintro k R w ⟨y4,c,d,j,h0,h1,h7,h8,f_v0⟩
 rcases k with _ | k
 cases (show none=some _ from c)
 rw [zAV] at c
 refine HT.su d j (eB (decide (y4<(p0.length:Int)))::[]) ?_ ?_
 exact op (fun Q U W H D=>zAf ((H 8 Z).trans h8) ((H 7 Z).trans h7))<|oz
 intro R w m n p d j
 obtain ⟨h0,h1,h7,h8⟩:=k4 n h0 h1 h7 h8
 have h9:=p.r 0 Z
 replace f_v0:=f_v0.fr m
 refine HT.seq ?_
 refine HT.cond (decide (y4<(p0.length:Int))) h9 (fun c5=>?_) (fun c5=>?_)
 have c:=zAK c5 c
 refine HT.skip ?_
 refine HT.seq ?_
 refine HT.block ?_
 refine HT.su d j (eI y4::eI y4::[]) ?_ ?_
 exact om h8<|oa<|oz
 intro R w m n p d j
 obtain ⟨h0,h1,h7,h8⟩:=k4 n h0 h1 h7 h8
 have h5:=p.r 1 Z
 replace f_v0:=f_v0.fr m
 obtain ⟨e6,c⟩:=zA4 c
 obtain ⟨x7,q8,c⟩:=zA3 c
 refine HT.su d j (eR v1::eR v0::eI y4::eF (.qtr eStr A (gtD p0 y4))::eF (.rep eStr A (gtD p0 y4))::eB x7::[]) ?_ ?_
 exact om h1<|om h0<|om h5<|op (fun Q U W H D=>zA7 ((f_v0.fr W).eq (D.g 0 Z)) (D.g 1 Z) underlying46 sizeOf9 e6)<|op (fun Q U W H D=>(zAQ (QRep.ptr (D.g 0 Z)) isAgg9 sizeOf9))<|op (fun Q U W H D=>zLG (D.g 0 Z) (f_v1 _ _ (q8 Z) _ _ ((j.trans W).ch _) (d.fr W.size) (D.g 1 Z)))<|oz
 intro R w m n p d j
 obtain ⟨h0,h1,h5,h7,h8⟩:=k5 n h0 h1 h5 h7 h8
 have h16:=p.r 5 Z
 replace f_v0:=f_v0.fr m
 refine HT.cond x7 h16 (fun c9=>?_) (fun c9=>?_)
 have c:=zAK c9 c
 refine HT.su d j (eI y4::eI y4::[]) ?_ ?_
 exact om h5<|oa<|oz
 intro R w m n p d j
 have h4:=p.r 1 Z
 refine HT.ret ?_
 obtain rfl:=si c
 have c:=hr0
 replace c:some _=some _:=c
 obtain rfl:=si c
 exact ⟨.inr Z,[R 4],⟨Z,N⟩,h4,j⟩
 have c:=zAL c9 c
 refine HT.skip ?_
 obtain ⟨e10,c⟩:=zA4 c
 refine HT.u d j (eI (y4+1)::eI (y4+1)::[]) ?_ ?_
 exact op (fun Q U W H D=>zAN ((H 8 Z).trans h8) Z e10)<|ov<|oz
 intro R w m n p d j
 obtain ⟨h0,h1,h7⟩:=k3 n h0 h1 h7
 have h8:=p.r 1 Z
 replace f_v0:=f_v0.fr m
 exact ei k (And.intro (Nat.lt_succ_self k) ⟨_,c,d,j,h0,h1,h7,h8,f_v0⟩)
 have c:=zAL c5 c
 refine HT.exit ?_
 obtain rfl:=si c
 exact ei _ ⟨Z,d,j⟩
 rintro R w ⟨s3,rfl,d,j⟩
 have c:=zEP c
 refine HT.su d j (eI (-1)::[]) ?_ ?_
 exact op (fun Q U W H D=>zA0 Z)<|oz
 intro R w m n p d j
 have h4:=p.r 0 Z
 refine HT.ret ?_
 obtain rfl:=si c
 exact ⟨.inr Z,[R 4],⟨Z,N⟩,h4,j⟩
def zAi (fu:Nat) (p0:List (List UInt8)) (p1:(List UInt8)→Option Bool):Option Bool:=
 cl true (zBB fu p0 p1) fun x1=>
 some (decide (0≤x1))
theorem zDX {fu : Nat} {A : Av} {p0 : List (List UInt8)} {p1 : (List UInt8) → Option Bool} {r : Bool} (c : zAi fu p0 p1 = some r) {w : World} {v0 : Value} {v1 : Value} (d : AvOK A w) (h0 : Rep (eSl eStr) A w v0 p0) (h1 : FnB1 prog eStr (fun r => .raw (.bool r)) A w v1 p1) :
 Calls prog 161 #[v0,v1] w fun e w'=>∃ v,e = .returned v∧(v = .bool r∧Fr w w'):=by
 unfold zAi at c
 obtain ⟨w0,hw0⟩:∃ w0,w0=w:=⟨_,Z⟩
 have j:Fr w0 w:=hw0 ▸ Fr.refl _
 rw [show Fr w=Fr w0 from hw0 ▸ Z]
 have f_v1:FnB1 prog eStr (fun r=>.raw (.bool r)) A w0 v1 p1:=hw0 ▸ h1
 clear hw0
 refine zA2 [.tmp 4] func161 ntmps161 (by decide) Z Z (nb Z) ?_
 intro R hR
 have f_v0:=h0
 replace h0:R 0=v0:=hR 0 _ Z
 replace h1:R 1=v1:=hR 1 _ Z
 clear hR
 refine HT.su d j (eB false::[]) ?_ ?_
 exact op (fun Q U W H D=>zA0 Z)<|oz
 intro R w m n p d j
 obtain ⟨h0,h1⟩:=k2 n h0 h1
 replace f_v0:=f_v0.fr m
 obtain ⟨x1,q2,c⟩:=zA3 c
 refine HT.su d j (eR v0::eR v1::eI x1::eB (decide (0≤x1))::eB (decide (0≤x1))::[]) ?_ ?_
 exact om h0<|om h1<|op (fun Q U W H D=>zA6 call211 (zDo (q2 Z) (d.fr W.size) ((f_v0.fr W).eq (D.g 0 Z)) ((f_v1.on (j.trans W) (fun _ _ h=>h)).eq (D.g 1 Z))))<|op (fun Q U W H D=>zDt (D.g 0 Z) Z)<|oa<|oz
 intro R w m n p d j
 have h4:=p.r 4 Z
 refine HT.ret ?_
 obtain rfl:=si c
 exact ⟨.inr Z,[R 4],⟨Z,N⟩,h4,j⟩
def zCA (fu : Nat) (p0 : List UInt8) : Nat → Int → Option (Ex Bool Unit)
 | 0,_=>none
 | k+1,y4=>
 bif (decide (y4<(p0.length:Int))) then (
 ck (inR y4 p0.length) <|
 cl true (zB9 fu (IntKind.i64.wrap (bAt p0 y4)) 32 126) fun x7=>
 bif (!x7) then (
 some (Ex.ret false)
 ) else (
 ck (i64B (y4+1)) <|
 zCA fu p0 k (y4+1)
 )
 ) else (
 some (Ex.go ())
 )
def zE5 (fu:Nat) (p0:List UInt8):Option Bool:=
 cl true (zCA fu p0 fu 0) fun rl1=>
 exM rl1 (fun r=>some r) fun s3=>
 some (decide ((p0.length:Int)≤40))
theorem zHY {fu : Nat} {A : Av} {p0 : List UInt8} {r : Bool} (c : zE5 fu p0 = some r) {w : World} {v0 : Value} (d : AvOK A w) (h0 : Rep eStr A w v0 p0) :
 Calls prog 212 #[v0] w fun e w'=>∃ v,e = .returned v∧(v = .bool r∧Fr w w'):=by
 unfold zE5 at c
 obtain ⟨w0,hw0⟩:∃ w0,w0=w:=⟨_,Z⟩
 have j:Fr w0 w:=hw0 ▸ Fr.refl _
 rw [show Fr w=Fr w0 from hw0 ▸ Z]
 clear hw0
 refine zA2 [.tmp 2] func212 ntmps212 (by decide) Z Z (nb Z) ?_
 intro R hR
 have f_v0:=h0
 replace h0:R 0=v0:=hR 0 _ Z
 clear hR
 refine HT.su d j (eB false::[]) ?_ ?_
 exact op (fun Q U W H D=>zA0 Z)<|oz
 intro R w m n p d j
 replace h0:=k1 n h0
 replace f_v0:=f_v0.fr m
 refine HT.seq ?_
 refine HT.su d j (eR v0::eI (p0.length:Int)::eI 0::[]) ?_ ?_
 exact om h0<|op (fun Q U W H D=>zAG ((f_v0.fr W).eq (D.g 0 Z)) underlying9)<|op (fun Q U W H D=>zCE Z)<|oz
 intro R w m n p d j
 replace h0:=k1 n h0
 have h5:=p.r 1 Z
 have h6:=p.r 2 Z
 replace f_v0:=f_v0.fr m
 obtain ⟨rl1,q2,c⟩:=zA3 c
 replace q2:=q2 Z
 refine HT.cut0 (fun R w=>∃ (s3:Unit),rl1=Ex.go s3∧AvOK A w∧Fr w0 w∧R 0=v0∧Rep eStr A w v0 p0) ?_ ?_
 refine HT.block ?_
 refine HT.loop (fun k R w=>∃ (y4:Int),zCA fu p0 k y4=some rl1∧AvOK A w∧Fr w0 w∧R 0=v0∧R 5 = .int .i64 (p0.length:Int)∧R 6 = .int .i64 y4∧Rep eStr A w v0 p0) fu ⟨_,q2,d,j,h0,h5,h6,f_v0⟩ ?_
 have hr0:=c;clear c q2
 rintro k R w ⟨y4,c,d,j,h0,h5,h6,f_v0⟩
 rcases k with _ | k
 cases (show none=some _ from c)
 rw [zCA] at c
 refine HT.su d j (eB (decide (y4<(p0.length:Int)))::[]) ?_ ?_
 exact op (fun Q U W H D=>zAf ((H 6 Z).trans h6) ((H 5 Z).trans h5))<|oz
 intro R w m n p d j
 obtain ⟨h0,h5,h6⟩:=k3 n h0 h5 h6
 have h7:=p.r 0 Z
 replace f_v0:=f_v0.fr m
 refine HT.seq ?_
 refine HT.cond (decide (y4<(p0.length:Int))) h7 (fun c5=>?_) (fun c5=>?_)
 have c:=zAK c5 c
 refine HT.skip ?_
 refine HT.seq ?_
 refine HT.block ?_
 refine HT.su d j (eI y4::eI y4::[]) ?_ ?_
 exact om h6<|oa<|oz
 intro R w m n p d j
 obtain ⟨h0,h5,h6⟩:=k3 n h0 h5 h6
 have h3:=p.r 1 Z
 replace f_v0:=f_v0.fr m
 obtain ⟨e6,c⟩:=zA4 c
 obtain ⟨x7,q8,c⟩:=zA3 c
 refine HT.su d j (eR v0::eI y4::eU (bAt p0 y4)::eI (IntKind.i64.wrap (bAt p0 y4))::eB x7::eB (!x7)::[]) ?_ ?_
 exact om h0<|om h3<|op (fun Q U W H D=>zA8 ((f_v0.fr W).eq (D.g 0 Z)) (D.g 1 Z) underlying9 e6)<|op (fun Q U W H D=>zDn (D.g 0 Z) underlying5 underlying3)<|op (fun Q U W H D=>zA6 call94 (zBO (q8 Z) (d.fr W.size) (D.g 0 Z) Z Z))<|op (fun Q U W H D=>zBh (D.g 0 Z))<|oz
 intro R w m n p d j
 obtain ⟨h0,h5,h6⟩:=k3 n h0 h5 h6
 have h14:=p.r 5 Z
 replace f_v0:=f_v0.fr m
 refine HT.cond (!x7) h14 (fun c9=>?_) (fun c9=>?_)
 have c:=zAK c9 c
 refine HT.su d j (eB false::[]) ?_ ?_
 exact op (fun Q U W H D=>zA0 Z)<|oz
 intro R w m n p d j
 have h2:=p.r 0 Z
 refine HT.ret ?_
 obtain rfl:=si c
 have c:=hr0
 replace c:some _=some _:=c
 obtain rfl:=si c
 exact ⟨.inr Z,[R 2],⟨Z,N⟩,h2,j⟩
 have c:=zAL c9 c
 refine HT.skip ?_
 obtain ⟨e10,c⟩:=zA4 c
 refine HT.u d j (eI (y4+1)::eI (y4+1)::[]) ?_ ?_
 exact op (fun Q U W H D=>zAN ((H 6 Z).trans h6) Z e10)<|ov<|oz
 intro R w m n p d j
 obtain ⟨h0,h5⟩:=k2 n h0 h5
 have h6:=p.r 1 Z
 replace f_v0:=f_v0.fr m
 exact ei k (And.intro (Nat.lt_succ_self k) ⟨_,c,d,j,h0,h5,h6,f_v0⟩)
 have c:=zAL c5 c
 refine HT.exit ?_
 obtain rfl:=si c
 exact ei _ ⟨Z,d,j,h0,f_v0⟩
 rintro R w ⟨s3,rfl,d,j,h0,f_v0⟩
 have c:=zEP c
 refine HT.su d j (eR v0::eI (p0.length:Int)::eB (decide ((p0.length:Int)≤40))::eB (decide ((p0.length:Int)≤40))::[]) ?_ ?_
 exact om h0<|op (fun Q U W H D=>zAG ((f_v0.fr W).eq (D.g 0 Z)) underlying9)<|op (fun Q U W H D=>zDu (D.g 0 Z) Z)<|oa<|oz
 intro R w m n p d j
 have h2:=p.r 3 Z
 refine HT.ret ?_
 obtain rfl:=si c
 exact ⟨.inr Z,[R 2],⟨Z,N⟩,h2,j⟩
def zDi (fu:Nat) (p0:List UInt8):Option Bool:=
 cl true (zE5 fu p0) fun x1=>
 cl (true&&(x1==true)) (zFa fu p0 ([124,59]:List UInt8)) fun x3=>
 bd (x1&&(!x3)) fun x5=>
 some x5
theorem zHG {fu : Nat} {A : Av} {p0 : List UInt8} {r : Bool} (c : zDi fu p0 = some r) {w : World} {v0 : Value} (d : AvOK A w) (h0 : Rep eStr A w v0 p0) :
 Calls prog 163 #[v0] w fun e w'=>∃ v,e = .returned v∧(v = .bool r∧Fr w w'):=by
 unfold zDi at c
 obtain ⟨w0,hw0⟩:∃ w0,w0=w:=⟨_,Z⟩
 have j:Fr w0 w:=hw0 ▸ Fr.refl _
 rw [show Fr w=Fr w0 from hw0 ▸ Z]
 clear hw0
 refine zA2 [.tmp 2] func163 ntmps163 (by decide) Z Z (nb Z) ?_
 intro R hR
 have f_v0:=h0
 replace h0:R 0=v0:=hR 0 _ Z
 clear hR
 refine HT.su d j (eB false::[]) ?_ ?_
 exact op (fun Q U W H D=>zA0 Z)<|oz
 intro R w m n p d j
 replace h0:=k1 n h0
 replace f_v0:=f_v0.fr m
 refine HT.seq ?_
 obtain ⟨x1,q2,c⟩:=zA3 c
 obtain ⟨x3,q4,c⟩:=zA3 c
 obtain ⟨x5,q6,c⟩:=zAB c
 refine HT.u d j (eR v0::eB x1::eB x1::gR (true&&(x1==true)) v0::gB (true&&(x1==true)) x3::gB (true&&(x1==true)) (!x3)::eB x5::eB x5::[]) ?_ ?_
 exact om h0<|op (fun Q U W H D=>zA6 call212 (zHY (q2 Z) (d.fr W.size) ((f_v0.fr W).eq (D.g 0 Z))))<|ov<|gm 2 true h0<|og 2 true (fun G Q U W H D=>zA6 call213 (zHg (q4 G) (d.fr W.size) ((f_v0.fr W).eq (D.h 0 G Z)) ⟨_,Z,⟨_,Z,Z,by decide⟩⟩))<|og 2 true (fun G Q U W H D=>zBh (D.h 0 G Z))<|op (fun Q U W H D=>zAC x1 (D.g 0 Z) (fun hc=>by have a1:Q 8 = .bool (!x3):=D 1 _ _ _ Z Z Z Z (zAZ Z (zAM hc));show _=Value.bool x5;rw [q6,hc];exact a1) (fun hc=>by show _=Value.bool x5;rw [q6,hc];exact Z))<|oa<|oz
 intro R w m n p d j
 have h2:=p.r 7 Z
 refine HT.ret ?_
 obtain rfl:=si c
 exact ⟨.inr Z,[R 2],⟨Z,N⟩,h2,j⟩
def zCS (fu:Nat) (p0:List UInt8):Option Bool:=
 cl true (zDi fu p0) fun x1=>
 some (!x1)
theorem zF9 {fu : Nat} {A : Av} {p0 : List UInt8} {r : Bool} (c : zCS fu p0 = some r) {w : World} {v0 : Value} (d : AvOK A w) (h0 : Rep eStr A w v0 p0) :
 Calls prog 162 #[v0] w fun e w'=>∃ v,e = .returned v∧(v = .bool r∧Fr w w'):=by
 unfold zCS at c
 obtain ⟨w0,hw0⟩:∃ w0,w0=w:=⟨_,Z⟩
 have j:Fr w0 w:=hw0 ▸ Fr.refl _
 rw [show Fr w=Fr w0 from hw0 ▸ Z]
 clear hw0
 refine zA2 [.tmp 2] func162 ntmps162 (by decide) Z Z (nb Z) ?_
 intro R hR
 have f_v0:=h0
 replace h0:R 0=v0:=hR 0 _ Z
 clear hR
 refine HT.su d j (eB false::[]) ?_ ?_
 exact op (fun Q U W H D=>zA0 Z)<|oz
 intro R w m n p d j
 replace h0:=k1 n h0
 replace f_v0:=f_v0.fr m
 obtain ⟨x1,q2,c⟩:=zA3 c
 refine HT.su d j (eR v0::eB x1::eB (!x1)::eB (!x1)::[]) ?_ ?_
 exact om h0<|op (fun Q U W H D=>zA6 call163 (zHG (q2 Z) (d.fr W.size) ((f_v0.fr W).eq (D.g 0 Z))))<|op (fun Q U W H D=>zBh (D.g 0 Z))<|oa<|oz
 intro R w m n p d j
 have h2:=p.r 3 Z
 refine HT.ret ?_
 obtain rfl:=si c
 exact ⟨.inr Z,[R 2],⟨Z,N⟩,h2,j⟩
def zBc (fu:Nat) (p0:zAA):Option Bool:=
 cl true (zB9 fu p0.1 0 3) fun x2=>
 cl (true&&((!x2)==false)) (zB9 fu p0.2.1 1 99) fun x4=>
 bd ((!x2) || (!x4)) fun x6=>
 cl (true&&(x6==false)) (zB9 fu p0.2.2.1 1 999) fun x8=>
 bd (x6 || (!x8)) fun x10=>
 bif x10 then (
 some false
 ) else (
 cl (true&&(((p0.2.2.2.length:Int)==4)==true)) (zAi fu p0.2.2.2 (fun x=>zCS fu x)) fun x13=>
 bd (((p0.2.2.2.length:Int)==4)&&(!x13)) fun x15=>
 some x15
 )
theorem zE6 {fu : Nat} {A0 : Av} {p0 : zAA} {r : Bool} (c : zBc fu p0 = some r) {w : World} {v0 : Value} (d : AvOK A0 w) (h0 : Rep zA1 A0 w v0 p0) :
 Calls prog 113 #[v0] w fun e w'=>∃ v,e = .returned v∧(v = .bool r∧Fr w w'):=by
 unfold zBc at c
 obtain ⟨w0,hw0⟩:∃ w0,w0=w:=⟨_,Z⟩
 have j:Fr w0 w:=hw0 ▸ Fr.refl _
 have C:∀ b o,A0 b o→b<w0.heap.size:=fun b o h=>hw0 ▸ d b o h
 have hA00:AvOK A0 w0:=C
 rw [show Fr w=Fr w0 from hw0 ▸ Z]
 clear hw0
 obtain ⟨A,hAe⟩:∃ A,A=A0:=⟨_,Z⟩
 have B:∀ b o,A0 b o→A b o:=fun b o h=>hAe ▸ h
 replace d:AvOK A w:=hAe ▸ d
 have q:IniOK [] A w:=IniOK.nil
 refine zA2 [.tmp 2] func113 ntmps113 (by decide) Z Z (nb Z) ?_
 intro R hR
 have f_v0:Rep zA1 A w v0 p0:=hAe ▸ h0
 replace h0:R 0=v0:=hR 0 _ Z
 clear hR hAe
 refine HT.sx [] (⟨_,true,[],some (.box w0.heap.size 51 zA1 p0),true,fun A=>.any⟩::rB false::[]) (ua (ur (UAll.nil))) q d ?_ ?_
 exact rc (OblR.made _ Z Z Z Z fun V Q U O D=>by have a0:Q 0=v0:=(O.old 0 Z).trans h0;have ra0:=(f_v0.stp O.stp).eq a0;exact zDE ra0 (Nat.le_trans j.size O.ch.size))<|rp (fun V Q U O D=>zA0 Z)<|rz
 intro done ρ σ A R w y s
 obtain ⟨b1_0,e_b1_0⟩:=s.boxv y 0 Z Z
 have h1:=s.ov y 0 0 e_b1_0
 obtain ⟨B,j,d⟩:=s.s B C j q N
 replace q:=s.left y [(0,ob (.pointer (some ⟨b1_0,0,none⟩)) (.box w0.heap.size 51 zA1 p0))] ⟨Z,Z,e_b1_0,Z,Z,N⟩
 refine HT.seq ?_
 refine HT.seq ?_
 obtain ⟨x2,q3,c⟩:=zA3 c
 obtain ⟨x4,q5,c⟩:=zA3 c
 obtain ⟨x6,q7,c⟩:=zAB c
 obtain ⟨x8,q9,c⟩:=zA3 c
 obtain ⟨x10,q11,c⟩:=zAB c
 refine HT.u d j (eR (.pointer (some ⟨b1_0,0,none⟩))::eI p0.1::eB x2::eB (!x2)::eB (!x2)::gR (true&&((!x2)==false)) (.pointer (some ⟨b1_0,1,none⟩))::gI (true&&((!x2)==false)) p0.2.1::gB (true&&((!x2)==false)) x4::gB (true&&((!x2)==false)) (!x4)::eB x6::eB x6::gR (true&&(x6==false)) (.pointer (some ⟨b1_0,2,none⟩))::gI (true&&(x6==false)) p0.2.2.1::gB (true&&(x6==false)) x8::gB (true&&(x6==false)) (!x8)::eB x10::[]) ?_ ?_
 exact op (fun Q U W H D=>zA9 ((H 1 Z).trans h1) zI3 sizeOf3 (by decide) Z)<|op (fun Q U W H D=>OpF.int (zAE ((q.fr W).ok 0 _ Z).1 (D.g 0 Z) zD5 Z isAgg3 sizeOf3))<|op (fun Q U W H D=>zA6 call94 (zBO (q3 Z) (d.fr W.size) (D.g 0 Z) Z Z))<|op (fun Q U W H D=>zBh (D.g 0 Z))<|ov<|og 4 false (fun G Q U W H D=>zA9 ((H 1 Z).trans h1) zIF sizeOf3 (by decide) Z)<|og 4 false (fun G Q U W H D=>OpF.int (zAE ((q.fr W).ok 0 _ Z).1 (D.h 0 G Z) zD7 Z isAgg3 sizeOf3))<|og 4 false (fun G Q U W H D=>zA6 call94 (zBO (q5 G) (d.fr W.size) (D.h 0 G Z) Z Z))<|og 4 false (fun G Q U W H D=>zBh (D.h 0 G Z))<|op (fun Q U W H D=>zAC (!x2) (D.g 0 Z) (fun hc=>by show _=Value.bool x6;rw [q7,hc];exact Z) (fun hc=>by have a2:Q 11 = .bool (!x4):=D 1 _ _ _ Z Z Z Z (zAZ Z (zAM hc));show _=Value.bool x6;rw [q7,hc];exact a2))<|ov<|og 10 false (fun G Q U W H D=>zA9 ((H 1 Z).trans h1) zHp sizeOf3 (by decide) Z)<|og 10 false (fun G Q U W H D=>OpF.int (zAE ((q.fr W).ok 0 _ Z).1 (D.h 0 G Z) zD9 Z isAgg3 sizeOf3))<|og 10 false (fun G Q U W H D=>zA6 call94 (zBO (q9 G) (d.fr W.size) (D.h 0 G Z) Z Z))<|og 10 false (fun G Q U W H D=>zBh (D.h 0 G Z))<|op (fun Q U W H D=>zAC x6 (D.g 0 Z) (fun hc=>by show _=Value.bool x10;rw [q11,hc];exact Z) (fun hc=>by have a2:Q 17 = .bool (!x8):=D 1 _ _ _ Z Z Z Z (zAZ Z (zAM hc));show _=Value.bool x10;rw [q11,hc];exact a2))<|oz
 intro R w m n p d j
 replace h1:=k1 n h1
 have h18:=p.r 15 Z
 replace q:=q.fr m
 refine HT.cond x10 h18 (fun c12=>?_) (fun c12=>?_)
 have c:=zAK c12 c
 refine HT.su d j (eB false::[]) ?_ ?_
 exact op (fun Q U W H D=>zA0 Z)<|oz
 intro R w m n p d j
 have h2:=p.r 0 Z
 replace q:=q.fr m
 replace q:IniOK [] A w:=q.sub [] N
 refine HT.ret ?_
 obtain rfl:=si c
 exact ⟨.inr Z,[R 2],⟨Z,N⟩,h2,j⟩
 have c:=zAL c12 c
 refine HT.skip ?_
 refine HT.seq ?_
 obtain ⟨x13,q14,c⟩:=zA3 c
 obtain ⟨x15,q16,c⟩:=zAB c
 refine HT.u d j (eR (.pointer (some ⟨b1_0,3,none⟩))::eF (.rep (eSl eStr) A p0.2.2.2)::eI (p0.2.2.2.length:Int)::eB ((p0.2.2.2.length:Int)==4)::eB ((p0.2.2.2.length:Int)==4)::gR (true&&(((p0.2.2.2.length:Int)==4)==true)) (.pointer (some ⟨b1_0,3,none⟩))::gF (true&&(((p0.2.2.2.length:Int)==4)==true)) (.rep (eSl eStr) A p0.2.2.2)::gB (true&&(((p0.2.2.2.length:Int)==4)==true)) x13::gB (true&&(((p0.2.2.2.length:Int)==4)==true)) (!x13)::eB x15::eB x15::[]) ?_ ?_
 exact op (fun Q U W H D=>zA9 ((H 1 Z).trans h1) zCR sizeOf46 (by decide) Z)<|op (fun Q U W H D=>(zAE ((q.fr W).ok 0 _ Z).1 (D.g 0 Z) zAO Z isAgg46 sizeOf46))<|op (fun Q U W H D=>zAb (aT:=#[]) (D.g 0 Z) underlying46)<|op (fun Q U W H D=>zBA (D.g 0 Z) Z)<|ov<|og 4 true (fun G Q U W H D=>zA9 ((H 1 Z).trans h1) zCR sizeOf46 (by decide) Z)<|og 4 true (fun G Q U W H D=>(zAE ((q.fr W).ok 0 _ Z).1 (D.h 0 G Z) zAO Z isAgg46 sizeOf46))<|og 4 true (fun G Q U W H D=>zA6 call161 (zDX (q14 G) (d.fr W.size) (D.h 0 G Z) (zJ1 [] Z call162 (fun x r hr' w'' a p hA' ha=>zF9 hr' hA' ha))))<|og 4 true (fun G Q U W H D=>zBh (D.h 0 G Z))<|op (fun Q U W H D=>zAC ((p0.2.2.2.length:Int)==4) (D.g 0 Z) (fun hc=>by have a1:Q 27 = .bool (!x13):=D 1 _ _ _ Z Z Z Z (zAZ Z (zAM hc));show _=Value.bool x15;rw [q16,hc];exact a1) (fun hc=>by show _=Value.bool x15;rw [q16,hc];exact Z))<|oa<|oz
 intro R w m n p d j
 have h2:=p.r 10 Z
 replace q:=q.fr m
 replace q:IniOK [] A w:=q.sub [] N
 refine HT.ret ?_
 obtain rfl:=si c
 exact ⟨.inr Z,[R 2],⟨Z,N⟩,h2,j⟩
def zC0 (fu : Nat) (p0 : List UInt8) (p1 : Int → Option Int) : Nat → Int → (List Int) → Option (List Int)
 | 0,_,_=>none
 | k+1,y6,y7=>
 bif (decide (y6<((bytL p0).length:Int))) then (
 ck (inR y6 y7.length) <|
 cl true (p1 (gtD y7 y6)) fun x10=>
 ck (inR y6 y7.length) <|
 ck (i64B (y6+1)) <|
 zC0 fu p0 p1 k (y6+1) (y7.set y6.toNat x10)
 ) else (
 some y7
 )
def zDS (fu:Nat) (p0:List UInt8) (p1:Int→Option Int):Option (List UInt8):=
 ck (zCV p0.length) <|
 cl true (zC0 fu p0 p1 fu 0 (bytL p0)) fun s5=>
 some (strB s5)
theorem zFj {fu : Nat} {A0 : Av} {p0 : List UInt8} {p1 : Int → Option Int} {r : List UInt8} (c : zDS fu p0 p1 = some r) {w : World} {v0 : Value} {v1 : Value} (d : AvOK A0 w) (h0 : Rep eStr A0 w v0 p0) (h1 : FnB1 prog (eInt .u8) (fun r => .raw (.int .u8 r)) A0 w v1 p1) :
 Calls prog 286 #[v0,v1] w fun e w'=>∃ v,e = .returned v∧(Rep eStr A0 w' v r∧Fr w w'):=by
 unfold zDS at c
 obtain ⟨w0,hw0⟩:∃ w0,w0=w:=⟨_,Z⟩
 have j:Fr w0 w:=hw0 ▸ Fr.refl _
 have C:∀ b o,A0 b o→b<w0.heap.size:=fun b o h=>hw0 ▸ d b o h
 have hA00:AvOK A0 w0:=C
 rw [show Fr w=Fr w0 from hw0 ▸ Z]
 have f_v1:FnB1 prog (eInt .u8) (fun r=>.raw (.int .u8 r)) A0 w0 v1 p1:=hw0 ▸ h1
 clear hw0
 obtain ⟨A,hAe⟩:∃ A,A=A0:=⟨_,Z⟩
 have B:∀ b o,A0 b o→A b o:=fun b o h=>hAe ▸ h
 replace d:AvOK A w:=hAe ▸ d
 have q:IniOK [] A w:=IniOK.nil
 refine zA2 [.tmp 4] func286 ntmps286 (by decide) Z Z (nb Z) ?_
 intro R hR
 have f_v0:Rep eStr A w v0 p0:=hAe ▸ h0
 replace h0:R 0=v0:=hR 0 _ Z
 replace h1:R 1=v1:=hR 1 _ Z
 clear hR hAe
 refine HT.su d j (eF (.rep eStr A ([]:List UInt8))::[]) ?_ ?_
 exact op (fun Q U W H D=>zA0 ⟨_,Z,⟨_,Z,Z,by decide⟩⟩)<|oz
 intro R w m n p d j
 obtain ⟨h0,h1⟩:=k2 n h0 h1
 replace f_v0:=f_v0.fr m
 replace q:=q.fr m
 obtain ⟨e1,c⟩:=zA4 c
 refine HT.sx [] (rR v0::⟨_,true,[],some (.vec w0.heap.size 5 (eInt .u8) (bytL p0)),true,fun A=>.any⟩::⟨_,true,[1],some (.vec w0.heap.size 5 (eInt .u8) (bytL p0)),true,fun A=>.any⟩::[]) (ur (ua (ua (UAll.nil)))) q d ?_ ?_
 exact rm h0<|rc (OblR.made _ Z Z Z Z fun V Q U O D=>by have a0:Q 8=v0:=D.g 0 Z;have ra0:=(f_v0.stp O.stp).eq a0;exact zIk ra0 underlying9 underlying22 underlying5 Z e1 (Nat.le_trans j.size O.ch.size))<|rc (OblR.took 1 _ _ Z Z Z Z Z fun V Q U O D u hok hav hin hop hds=>by exact zAH (hop _ _ Z Z Z Z).symm hok hav)<|rz
 intro done ρ σ A R w y s
 replace h1:=k1 s.rg h1
 obtain ⟨u2,e_u2⟩:∃ u,ρ 2=u:=⟨_,Z⟩
 have h5:=s.ov y 2 2 e_u2
 obtain ⟨B,j,d⟩:=s.s B C j q N
 replace q:=s.left y [(2,ob u2 (.vec w0.heap.size 5 (eInt .u8) (bytL p0)))] ⟨Z,Z,e_u2,Z,Z,N⟩
 refine HT.seq ?_
 refine HT.su d j (eR u2::eI ((bytL p0).length:Int)::eI 0::[]) ?_ ?_
 exact om h5<|op (fun Q U W H D=>zCG (q.ok 0 _ Z).1 (D.g 0 Z) underlying22)<|op (fun Q U W H D=>zCE Z)<|oz
 intro R w m n p d j
 obtain ⟨h1,h5⟩:=k2 n h1 h5
 have h10:=p.r 0 Z
 have h11:=p.r 1 Z
 have h12:=p.r 2 Z
 replace q:=q.fr m
 obtain ⟨rl3,q4,c⟩:=zA3 c
 replace q4:=q4 Z
 refine HT.cut0 (fun R w=>∃ A:Av,∃ (s5:(List Int)),rl3=s5∧AvOK A w∧Fr w0 w∧(∀ b o,A0 b o→A b o)∧IniOK [ob u2 (.vec w0.heap.size 5 (eInt .u8) s5)] A w∧R 5=u2) ?_ ?_
 refine HT.block ?_
 refine HT.loop (fun k R w=>∃ A:Av,∃ (y6:Int) (y7:List Int),zC0 fu p0 p1 k y6 y7=some rl3∧AvOK A w∧Fr w0 w∧(∀ b o,A0 b o→A b o)∧IniOK [ob u2 (.vec w0.heap.size 5 (eInt .u8) y7)] A w∧R 1=v1∧R 5=u2∧R 10=u2∧R 11 = .int .i64 ((bytL p0).length:Int)∧R 12 = .int .i64 y6) fu ⟨_,_,_,q4,d,j,B,q,h1,h5,h10,h11,h12⟩ ?_
 have hr0:=c;clear c q4
 rintro k R w ⟨A,y6,y7,c,d,j,B,q,h1,h5,h10,h11,h12⟩
 rcases k with _ | k
 cases (show none=some _ from c)
 rw [zC0] at c
 refine HT.su d j (eB (decide (y6<((bytL p0).length:Int)))::[]) ?_ ?_
 exact op (fun Q U W H D=>zAf ((H 12 Z).trans h12) ((H 11 Z).trans h11))<|oz
 intro R w m n p d j
 obtain ⟨h1,h5,h10,h11,h12⟩:=k5 n h1 h5 h10 h11 h12
 have h13:=p.r 0 Z
 replace q:=q.fr m
 refine HT.seq ?_
 refine HT.cond (decide (y6<((bytL p0).length:Int))) h13 (fun c8=>?_) (fun c8=>?_)
 have c:=zAK c8 c
 refine HT.skip ?_
 refine HT.seq ?_
 refine HT.block ?_
 obtain ⟨e9,c⟩:=zA4 c
 refine HT.su d j (eI y6::eR (vptr u2 (y6.toNat*1))::eU (gtD y7 y6)::eI y6::eU (gtD y7 y6)::[]) ?_ ?_
 exact om h12<|op (fun Q U W H D=>zAF (q.ok 0 _ Z).1 ((H 10 Z).trans h10) ((H 12 Z).trans h12) underlying22 sizeOf5 e9 Z)<|op (fun Q U W H D=>OpF.int (zAs ((q.fr W).ok 0 _ Z).1 (D.g 0 Z) e9 Z (Fld.id _) Z isAgg5 sizeOf5))<|oa<|oa<|oz
 intro R w m n p d j
 obtain ⟨h1,h5,h10,h11,h12⟩:=k5 n h1 h5 h10 h11 h12
 have h6:=p.r 3 Z
 have h7:=p.r 4 Z
 replace q:=q.fr m
 obtain ⟨x10,q11,c⟩:=zA3 c
 obtain ⟨e12,c⟩:=zA4 c
 refine HT.x [ob u2 (.vec w0.heap.size 5 (eInt .u8) y7)] (rR u2::rI y6::rR v1::rU (gtD y7 y6)::rU x10::rR (vptr u2 (y6.toNat*1))::⟨_,true,[0],some (.vec w0.heap.size 5 (eInt .u8) (y7.set y6.toNat x10)),false,fun A=>.any⟩::[]) (ur (ur (ur (ur (ur (ur (ua (UAll.nil)))))))) q d ?_ ?_
 exact rm h5<|rm h6<|rm h1<|rm h7<|rp (fun V Q U O D=>zLG (D.g 0 Z) (f_v1 _ _ (q11 Z) _ _ ((j.tr O.ch (q.ge (⟨Z,N⟩))).ch _) (hA00.fr (Nat.le_trans j.size O.ch.size)) ((zAe.eq (D.g 1 Z)).less (O.low' B C (q.ge (⟨Z,N⟩))))))<|rp (fun V Q U O D=>zAF (q.ok 0 _ Z).1 (D.g 0 Z) (D.g 1 Z) underlying22 sizeOf5 e12 Z)<|rc (OblR.took 0 _ _ Z Z Z Z Z fun V Q U O D u hok hav hin hop hds=>by have a0:Q 22=(vptr u2 (y6.toNat*1)):=D.g 0 Z;have a1:Q 21 = .int .u8 x10:=D.g 1 Z;obtain rfl:=hin _ Z;exact zBY (zAe.eq a1) hok hav a0 e12 Z (FldS.id _) sizeOf5 Z)<|rz
 intro done ρ σ A R w y s
 obtain ⟨h1,h5,h10,h11,h12⟩:=k5 s.rg h1 h5 h10 h11 h12
 have z13:=s.inivR 0 Z
 have z14:=s.on y 7 6 Z Z Z Z Z z13
 obtain ⟨B,j,d⟩:=s.s B C j q ⟨Z,N⟩
 replace q:=s.left y [(7,ob u2 (.vec w0.heap.size 5 (eInt .u8) (y7.set y6.toNat x10)))] ⟨Z,Z,z14,Z,Z,N⟩
 obtain ⟨e15,c⟩:=zA4 c
 refine HT.u d j (eI (y6+1)::eI (y6+1)::[]) ?_ ?_
 exact op (fun Q U W H D=>zAN ((H 12 Z).trans h12) Z e15)<|ov<|oz
 intro R w m n p d j
 obtain ⟨h1,h5,h10,h11⟩:=k4 n h1 h5 h10 h11
 have h12:=p.r 1 Z
 replace q:=q.fr m
 exact ei k (And.intro (Nat.lt_succ_self k) ⟨_,_,_,c,d,j,B,q,h1,h5,h10,h11,h12⟩)
 have c:=zAL c8 c
 refine HT.exit ?_
 obtain rfl:=si c
 exact ei _ ⟨_,Z,d,j,B,q,h5⟩
 rintro R w ⟨A,s5,es,d,j,B,q,h5⟩
 obtain rfl:=es.symm
 refine HT.su d j (eR u2::eF (.rep eStr A (strB s5))::eF (.rep eStr A (strB s5))::[]) ?_ ?_
 exact om h5<|op (fun Q U W H D=>zBF ((zCD ((q.fr W).ok 0 _ Z).1 B C).eq (D.g 0 Z)) underlying22 underlying5 underlying9)<|op (fun Q U W H D=>zA0 (D.g 0 Z))<|oz
 intro R w m n p d j
 obtain ⟨u16,h4,f_u16⟩:∃ u,R 4=u∧Rep eStr A w u (strB s5):=⟨_,Z,p 2 _ _ Z Z Z⟩
 replace q:=q.fr m
 replace q:IniOK [] A w:=q.sub [] N
 refine HT.ret ?_
 obtain rfl:=si c
 exact ⟨.inr Z,[R 4],⟨Z,N⟩,(f_u16.eq h4).down B,j⟩
def zDU (fu:Nat) (p0:Int):Option Int:=
 bd ((decide (65≤p0))&&(decide (p0≤90))) fun x1=>
 bif x1 then (
 some (IntKind.u8.wrap (p0+32))
 ) else (
 some p0
 )
theorem zGJ {fu : Nat} {A : Av} {p0 : Int} {r : Int} (c : zDU fu p0 = some r) {w : World} {v0 : Value} (d : AvOK A w) (h0 : v0 = .int .u8 p0) :
 Calls prog 287 #[v0] w fun e w'=>∃ v,e = .returned v∧(v = .int .u8 r∧Fr w w'):=by
 unfold zDU at c
 obtain ⟨w0,hw0⟩:∃ w0,w0=w:=⟨_,Z⟩
 have j:Fr w0 w:=hw0 ▸ Fr.refl _
 rw [show Fr w=Fr w0 from hw0 ▸ Z]
 clear hw0
 refine zA2 [.tmp 2] func287 ntmps287 (by decide) Z Z (nb Z) ?_
 intro R hR
 replace h0:R 0 = .int .u8 p0:=(hR 0 _ Z).trans h0
 clear hR
 refine HT.su d j (eU 0::[]) ?_ ?_
 exact op (fun Q U W H D=>zA0 Z)<|oz
 intro R w m n p d j
 replace h0:=k1 n h0
 refine HT.seq ?_
 refine HT.seq ?_
 obtain ⟨x1,q2,c⟩:=zAB c
 refine HT.u d j (eU p0::eB (decide (65≤p0))::eB (decide (65≤p0))::gU (true&&((decide (65≤p0))==true)) p0::gB (true&&((decide (65≤p0))==true)) (decide (p0≤90))::eB x1::[]) ?_ ?_
 exact om h0<|op (fun Q U W H D=>zDt (D.g 0 Z) Z)<|ov<|gm 2 true h0<|og 2 true (fun G Q U W H D=>zDu (D.h 0 G Z) Z)<|op (fun Q U W H D=>zAC (decide (65≤p0)) (D.g 0 Z) (fun hc=>by have a1:Q 7 = .bool (decide (p0≤90)):=D 1 _ _ _ Z Z Z Z (zAZ Z (zAM hc));show _=Value.bool x1;rw [q2,hc];exact a1) (fun hc=>by show _=Value.bool x1;rw [q2,hc];exact Z))<|oz
 intro R w m n p d j
 replace h0:=k1 n h0
 have h8:=p.r 5 Z
 refine HT.cond x1 h8 (fun c3=>?_) (fun c3=>?_)
 have c:=zAK c3 c
 refine HT.su d j (eU p0::eU (IntKind.u8.wrap (p0+32))::eU (IntKind.u8.wrap (p0+32))::[]) ?_ ?_
 exact om h0<|op (fun Q U W H D=>zJ6 (D.g 0 Z) Z)<|oa<|oz
 intro R w m n p d j
 have h2:=p.r 2 Z
 refine HT.ret ?_
 obtain rfl:=si c
 exact ⟨.inr Z,[R 2],⟨Z,N⟩,h2,j⟩
 have c:=zAL c3 c
 refine HT.skip ?_
 refine HT.su d j (eU p0::eU p0::[]) ?_ ?_
 exact om h0<|oa<|oz
 intro R w m n p d j
 have h2:=p.r 1 Z
 refine HT.ret ?_
 obtain rfl:=si c
 exact ⟨.inr Z,[R 2],⟨Z,N⟩,h2,j⟩
def zCn (fu:Nat) (p0:List UInt8):Option (List UInt8):=
 cl true (zDS fu p0 (fun x=>zDU fu x)) fun x1=>
 some x1
theorem zEx {fu : Nat} {A : Av} {p0 : List UInt8} {r : List UInt8} (c : zCn fu p0 = some r) {w : World} {v0 : Value} (d : AvOK A w) (h0 : Rep eStr A w v0 p0) :
 Calls prog 247 #[v0] w fun e w'=>∃ v,e = .returned v∧(Rep eStr A w' v r∧Fr w w'):=by
 unfold zCn at c
 obtain ⟨w0,hw0⟩:∃ w0,w0=w:=⟨_,Z⟩
 have j:Fr w0 w:=hw0 ▸ Fr.refl _
 rw [show Fr w=Fr w0 from hw0 ▸ Z]
 clear hw0
 refine zA2 [.tmp 2] func247 ntmps247 (by decide) Z Z (nb Z) ?_
 intro R hR
 have f_v0:=h0
 replace h0:R 0=v0:=hR 0 _ Z
 clear hR
 refine HT.su d j (eF (.rep eStr A ([]:List UInt8))::[]) ?_ ?_
 exact op (fun Q U W H D=>zA0 ⟨_,Z,⟨_,Z,Z,by decide⟩⟩)<|oz
 intro R w m n p d j
 replace h0:=k1 n h0
 replace f_v0:=f_v0.fr m
 obtain ⟨x1,q2,c⟩:=zA3 c
 refine HT.su d j (eR v0::eF (.rep eStr A x1)::eF (.rep eStr A x1)::[]) ?_ ?_
 exact om h0<|op (fun Q U W H D=>zA6 call286 (zFj (q2 Z) (d.fr W.size) ((f_v0.fr W).eq (D.g 0 Z)) (zJ1 [] Z call287 (fun x r hr' w'' a p hA' ha=>zGJ hr' hA' (zHF ha)))))<|op (fun Q U W H D=>zA0 (D.g 0 Z))<|oz
 intro R w m n p d j
 obtain ⟨u3,h2,f_u3⟩:∃ u,R 2=u∧Rep eStr A w u x1:=⟨_,Z,p 2 _ _ Z Z Z⟩
 refine HT.ret ?_
 obtain rfl:=si c
 exact ⟨.inr Z,[R 2],⟨Z,N⟩,(f_u3.eq h2),j⟩
def zBs (fu:Nat) (p0:Int):Option Bool:=
 bd ((decide (97≤p0))&&(decide (p0≤122))) fun x1=>
 some x1
theorem zDV {fu : Nat} {A : Av} {p0 : Int} {r : Bool} (c : zBs fu p0 = some r) {w : World} {v0 : Value} (d : AvOK A w) (h0 : v0 = .int .u8 p0) :
 Calls prog 288 #[v0] w fun e w'=>∃ v,e = .returned v∧(v = .bool r∧Fr w w'):=by
 unfold zBs at c
 obtain ⟨w0,hw0⟩:∃ w0,w0=w:=⟨_,Z⟩
 have j:Fr w0 w:=hw0 ▸ Fr.refl _
 rw [show Fr w=Fr w0 from hw0 ▸ Z]
 clear hw0
 refine zA2 [.tmp 2] func288 ntmps288 (by decide) Z Z (nb Z) ?_
 intro R hR
 replace h0:R 0 = .int .u8 p0:=(hR 0 _ Z).trans h0
 clear hR
 refine HT.su d j (eB false::[]) ?_ ?_
 exact op (fun Q U W H D=>zA0 Z)<|oz
 intro R w m n p d j
 replace h0:=k1 n h0
 refine HT.seq ?_
 obtain ⟨x1,q2,c⟩:=zAB c
 refine HT.u d j (eU p0::eB (decide (97≤p0))::eB (decide (97≤p0))::gU (true&&((decide (97≤p0))==true)) p0::gB (true&&((decide (97≤p0))==true)) (decide (p0≤122))::eB x1::eB x1::[]) ?_ ?_
 exact om h0<|op (fun Q U W H D=>zDt (D.g 0 Z) Z)<|ov<|gm 2 true h0<|og 2 true (fun G Q U W H D=>zDu (D.h 0 G Z) Z)<|op (fun Q U W H D=>zAC (decide (97≤p0)) (D.g 0 Z) (fun hc=>by have a1:Q 7 = .bool (decide (p0≤122)):=D 1 _ _ _ Z Z Z Z (zAZ Z (zAM hc));show _=Value.bool x1;rw [q2,hc];exact a1) (fun hc=>by show _=Value.bool x1;rw [q2,hc];exact Z))<|oa<|oz
 intro R w m n p d j
 have h2:=p.r 6 Z
 refine HT.ret ?_
 obtain rfl:=si c
 exact ⟨.inr Z,[R 2],⟨Z,N⟩,h2,j⟩
def zCF (fu:Nat) (p0:Int):Option Bool:=
 bd ((decide (48≤p0))&&(decide (p0≤57))) fun x1=>
 some x1
theorem zEH {fu : Nat} {A : Av} {p0 : Int} {r : Bool} (c : zCF fu p0 = some r) {w : World} {v0 : Value} (d : AvOK A w) (h0 : v0 = .int .u8 p0) :
 Calls prog 215 #[v0] w fun e w'=>∃ v,e = .returned v∧(v = .bool r∧Fr w w'):=by
 unfold zCF at c
 obtain ⟨w0,hw0⟩:∃ w0,w0=w:=⟨_,Z⟩
 have j:Fr w0 w:=hw0 ▸ Fr.refl _
 rw [show Fr w=Fr w0 from hw0 ▸ Z]
 clear hw0
 refine zA2 [.tmp 2] func215 ntmps215 (by decide) Z Z (nb Z) ?_
 intro R hR
 replace h0:R 0 = .int .u8 p0:=(hR 0 _ Z).trans h0
 clear hR
 refine HT.su d j (eB false::[]) ?_ ?_
 exact op (fun Q U W H D=>zA0 Z)<|oz
 intro R w m n p d j
 replace h0:=k1 n h0
 refine HT.seq ?_
 obtain ⟨x1,q2,c⟩:=zAB c
 refine HT.u d j (eU p0::eB (decide (48≤p0))::eB (decide (48≤p0))::gU (true&&((decide (48≤p0))==true)) p0::gB (true&&((decide (48≤p0))==true)) (decide (p0≤57))::eB x1::eB x1::[]) ?_ ?_
 exact om h0<|op (fun Q U W H D=>zDt (D.g 0 Z) Z)<|ov<|gm 2 true h0<|og 2 true (fun G Q U W H D=>zDu (D.h 0 G Z) Z)<|op (fun Q U W H D=>zAC (decide (48≤p0)) (D.g 0 Z) (fun hc=>by have a1:Q 7 = .bool (decide (p0≤57)):=D 1 _ _ _ Z Z Z Z (zAZ Z (zAM hc));show _=Value.bool x1;rw [q2,hc];exact a1) (fun hc=>by show _=Value.bool x1;rw [q2,hc];exact Z))<|oa<|oz
 intro R w m n p d j
 have h2:=p.r 6 Z
 refine HT.ret ?_
 obtain rfl:=si c
 exact ⟨.inr Z,[R 2],⟨Z,N⟩,h2,j⟩
def zCr (fu:Nat) (p0:Int):Option Bool:=
 cl true (zBs fu p0) fun x1=>
 bd ((decide (65≤p0))&&(decide (p0≤90))) fun x3=>
 bd (x1 || x3) fun x5=>
 cl (true&&(x5==false)) (zCF fu p0) fun x7=>
 bd (x5 || x7) fun x9=>
 some x9
theorem zGG {fu : Nat} {A : Av} {p0 : Int} {r : Bool} (c : zCr fu p0 = some r) {w : World} {v0 : Value} (d : AvOK A w) (h0 : v0 = .int .u8 p0) :
 Calls prog 294 #[v0] w fun e w'=>∃ v,e = .returned v∧(v = .bool r∧Fr w w'):=by
 unfold zCr at c
 obtain ⟨w0,hw0⟩:∃ w0,w0=w:=⟨_,Z⟩
 have j:Fr w0 w:=hw0 ▸ Fr.refl _
 rw [show Fr w=Fr w0 from hw0 ▸ Z]
 clear hw0
 refine zA2 [.tmp 2] func294 ntmps294 (by decide) Z Z (nb Z) ?_
 intro R hR
 replace h0:R 0 = .int .u8 p0:=(hR 0 _ Z).trans h0
 clear hR
 refine HT.su d j (eB false::[]) ?_ ?_
 exact op (fun Q U W H D=>zA0 Z)<|oz
 intro R w m n p d j
 replace h0:=k1 n h0
 refine HT.seq ?_
 obtain ⟨x1,q2,c⟩:=zA3 c
 obtain ⟨x3,q4,c⟩:=zAB c
 obtain ⟨x5,q6,c⟩:=zAB c
 obtain ⟨x7,q8,c⟩:=zA3 c
 obtain ⟨x9,q10,c⟩:=zAB c
 refine HT.u d j (eU p0::eB x1::eB x1::gU (true&&(x1==false)) p0::gB (true&&(x1==false)) (decide (65≤p0))::gB (true&&(x1==false)) (decide (65≤p0))::gU ((true&&(x1==false))&&((decide (65≤p0))==true)) p0::gB ((true&&(x1==false))&&((decide (65≤p0))==true)) (decide (p0≤90))::gB (true&&(x1==false)) x3::eB x5::eB x5::gU (true&&(x5==false)) p0::gB (true&&(x5==false)) x7::eB x9::eB x9::[]) ?_ ?_
 exact om h0<|op (fun Q U W H D=>zA6 call288 (zDV (q2 Z) (d.fr W.size) (D.g 0 Z)))<|ov<|gm 2 false h0<|og 2 false (fun G Q U W H D=>zDt (D.h 0 G Z) Z)<|og 2 false (fun G Q U W H D=>zCE (D.h 0 G Z))<|gm 5 true h0<|og 5 true (fun G Q U W H D=>zDu (D.h 0 G Z) Z)<|og 2 false (fun G Q U W H D=>zAC (decide (65≤p0)) (D.h 0 G Z) (fun hc=>by have a1:Q 10 = .bool (decide (p0≤90)):=D 1 _ _ _ Z Z Z Z (zAZ G (zAM hc));show _=Value.bool x3;rw [q4,hc];exact a1) (fun hc=>by show _=Value.bool x3;rw [q4,hc];exact Z))<|op (fun Q U W H D=>zAC x1 (D.g 0 Z) (fun hc=>by show _=Value.bool x5;rw [q6,hc];exact Z) (fun hc=>by have a2:Q 11 = .bool x3:=D 1 _ _ _ Z Z Z Z (zAZ Z (zAM hc));show _=Value.bool x5;rw [q6,hc];exact a2))<|ov<|gm 10 false h0<|og 10 false (fun G Q U W H D=>zA6 call215 (zEH (q8 G) (d.fr W.size) (D.h 0 G Z)))<|op (fun Q U W H D=>zAC x5 (D.g 0 Z) (fun hc=>by show _=Value.bool x9;rw [q10,hc];exact Z) (fun hc=>by have a2:Q 15 = .bool x7:=D 1 _ _ _ Z Z Z Z (zAZ Z (zAM hc));show _=Value.bool x9;rw [q10,hc];exact a2))<|oa<|oz
 intro R w m n p d j
 have h2:=p.r 14 Z
 refine HT.ret ?_
 obtain rfl:=si c
 exact ⟨.inr Z,[R 2],⟨Z,N⟩,h2,j⟩
def zCw (fu:Nat) (p0:Int):Option Int:=
 cl true (zCr fu p0) fun x1=>
 bif x1 then (
 some p0
 ) else (
 some 32
 )
theorem zFl {fu : Nat} {A : Av} {p0 : Int} {r : Int} (c : zCw fu p0 = some r) {w : World} {v0 : Value} (d : AvOK A w) (h0 : v0 = .int .u8 p0) :
 Calls prog 293 #[v0] w fun e w'=>∃ v,e = .returned v∧(v = .int .u8 r∧Fr w w'):=by
 unfold zCw at c
 obtain ⟨w0,hw0⟩:∃ w0,w0=w:=⟨_,Z⟩
 have j:Fr w0 w:=hw0 ▸ Fr.refl _
 rw [show Fr w=Fr w0 from hw0 ▸ Z]
 clear hw0
 refine zA2 [.tmp 2] func293 ntmps293 (by decide) Z Z (nb Z) ?_
 intro R hR
 replace h0:R 0 = .int .u8 p0:=(hR 0 _ Z).trans h0
 clear hR
 refine HT.su d j (eU 0::[]) ?_ ?_
 exact op (fun Q U W H D=>zA0 Z)<|oz
 intro R w m n p d j
 replace h0:=k1 n h0
 refine HT.seq ?_
 obtain ⟨x1,q2,c⟩:=zA3 c
 refine HT.su d j (eU p0::eB x1::[]) ?_ ?_
 exact om h0<|op (fun Q U W H D=>zA6 call294 (zGG (q2 Z) (d.fr W.size) (D.g 0 Z)))<|oz
 intro R w m n p d j
 replace h0:=k1 n h0
 have h4:=p.r 1 Z
 refine HT.cond x1 h4 (fun c3=>?_) (fun c3=>?_)
 have c:=zAK c3 c
 refine HT.su d j (eU p0::eU p0::[]) ?_ ?_
 exact om h0<|oa<|oz
 intro R w m n p d j
 have h2:=p.r 1 Z
 refine HT.ret ?_
 obtain rfl:=si c
 exact ⟨.inr Z,[R 2],⟨Z,N⟩,h2,j⟩
 have c:=zAL c3 c
 refine HT.skip ?_
 refine HT.su d j (eU 32::[]) ?_ ?_
 exact op (fun Q U W H D=>zA0 Z)<|oz
 intro R w m n p d j
 have h2:=p.r 0 Z
 refine HT.ret ?_
 obtain rfl:=si c
 exact ⟨.inr Z,[R 2],⟨Z,N⟩,h2,j⟩
def zCl (fu:Nat) (p0:List UInt8):Option (List UInt8):=
 cl true (zG2 fu p0 ([39]:List UInt8) ([]:List UInt8)) fun x1=>
 cl true (zDS fu x1 (fun x=>zCw fu x)) fun x3=>
 some x3
theorem zGH {fu : Nat} {A : Av} {p0 : List UInt8} {r : List UInt8} (c : zCl fu p0 = some r) {w : World} {v0 : Value} (d : AvOK A w) (hG : GTab w) (h0 : Rep eStr A w v0 p0) :
 Calls prog 253 #[v0] w fun e w'=>∃ v,e = .returned v∧(Rep eStr A w' v r∧Fr w w'):=by
 unfold zCl at c
 obtain ⟨w0,hw0⟩:∃ w0,w0=w:=⟨_,Z⟩
 have j:Fr w0 w:=hw0 ▸ Fr.refl _
 rw [show Fr w=Fr w0 from hw0 ▸ Z]
 have hG0:GTab w0:=hw0 ▸ hG
 clear hw0
 refine zA2 [.tmp 2] func253 ntmps253 (by decide) Z Z (nb Z) ?_
 intro R hR
 have f_v0:=h0
 replace h0:R 0=v0:=hR 0 _ Z
 clear hR
 refine HT.su d j (eF (.rep eStr A ([]:List UInt8))::[]) ?_ ?_
 exact op (fun Q U W H D=>zA0 ⟨_,Z,⟨_,Z,Z,by decide⟩⟩)<|oz
 intro R w m n p d j
 replace h0:=k1 n h0
 replace f_v0:=f_v0.fr m
 obtain ⟨x1,q2,c⟩:=zA3 c
 obtain ⟨x3,q4,c⟩:=zA3 c
 refine HT.su d j (eR v0::eF (.rep eStr A x1)::eF (.rep eStr A x3)::eF (.rep eStr A x3)::[]) ?_ ?_
 exact om h0<|op (fun Q U W H D=>zA6 call292 (zIB (q2 Z) (d.fr W.size) (hG0.fr (j.trans W)) ((f_v0.fr W).eq (D.g 0 Z)) ⟨_,Z,⟨_,Z,Z,by decide⟩⟩ ⟨_,Z,⟨_,Z,Z,by decide⟩⟩))<|op (fun Q U W H D=>zA6 call286 (zFj (q4 Z) (d.fr W.size) (D.g 0 Z) (zJ1 [] Z call293 (fun x r hr' w'' a p hA' ha=>zFl hr' hA' (zHF ha)))))<|op (fun Q U W H D=>zA0 (D.g 0 Z))<|oz
 intro R w m n p d j
 obtain ⟨u5,h2,f_u5⟩:∃ u,R 2=u∧Rep eStr A w u x3:=⟨_,Z,p 3 _ _ Z Z Z⟩
 refine HT.ret ?_
 obtain rfl:=si c
 exact ⟨.inr Z,[R 2],⟨Z,N⟩,(f_u5.eq h2),j⟩
def zAY (fu:Nat) (p0:List UInt8) (p1:List UInt8):Option Bool:=
 ck (!(true&&((decide ((p1.length:Int)≤(p0.length:Int)))==true)) || i64B ((p0.length:Int)-(p1.length:Int))) <|
 ck (!(true&&((decide ((p1.length:Int)≤(p0.length:Int)))==true)) || subR ((p0.length:Int)-(p1.length:Int)) (p0.length:Int) p0.length) <|
 bd ((decide ((p1.length:Int)≤(p0.length:Int)))&&((subL p0 ((p0.length:Int)-(p1.length:Int)) (p0.length:Int))==p1)) fun x3=>
 some x3
theorem zCP {fu : Nat} {A : Av} {p0 : List UInt8} {p1 : List UInt8} {r : Bool} (c : zAY fu p0 p1 = some r) {w : World} {v0 : Value} {v1 : Value} (d : AvOK A w) (h0 : Rep eStr A w v0 p0) (h1 : Rep eStr A w v1 p1) :
 Calls prog 267 #[v0,v1] w fun e w'=>∃ v,e = .returned v∧(v = .bool r∧Fr w w'):=by
 unfold zAY at c
 obtain ⟨w0,hw0⟩:∃ w0,w0=w:=⟨_,Z⟩
 have j:Fr w0 w:=hw0 ▸ Fr.refl _
 rw [show Fr w=Fr w0 from hw0 ▸ Z]
 clear hw0
 refine zA2 [.tmp 4] func267 ntmps267 (by decide) Z Z (nb Z) ?_
 intro R hR
 have f_v0:=h0
 replace h0:R 0=v0:=hR 0 _ Z
 have f_v1:=h1
 replace h1:R 1=v1:=hR 1 _ Z
 clear hR
 refine HT.su d j (eB false::[]) ?_ ?_
 exact op (fun Q U W H D=>zA0 Z)<|oz
 intro R w m n p d j
 obtain ⟨h0,h1⟩:=k2 n h0 h1
 replace f_v0:=f_v0.fr m
 replace f_v1:=f_v1.fr m
 refine HT.seq ?_
 obtain ⟨e1,e2,c⟩:=ck2 c
 obtain ⟨x3,q4,c⟩:=zAB c
 refine HT.u d j (eR v0::eI (p0.length:Int)::eR v1::eI (p1.length:Int)::eB (decide ((p1.length:Int)≤(p0.length:Int)))::eB (decide ((p1.length:Int)≤(p0.length:Int)))::gR (true&&((decide ((p1.length:Int)≤(p0.length:Int)))==true)) v0::gR (true&&((decide ((p1.length:Int)≤(p0.length:Int)))==true)) v0::gI (true&&((decide ((p1.length:Int)≤(p0.length:Int)))==true)) (p0.length:Int)::gR (true&&((decide ((p1.length:Int)≤(p0.length:Int)))==true)) v1::gI (true&&((decide ((p1.length:Int)≤(p0.length:Int)))==true)) (p1.length:Int)::gI (true&&((decide ((p1.length:Int)≤(p0.length:Int)))==true)) ((p0.length:Int)-(p1.length:Int))::gF (true&&((decide ((p1.length:Int)≤(p0.length:Int)))==true)) (.rep eStr A (subL p0 ((p0.length:Int)-(p1.length:Int)) (p0.length:Int)))::gR (true&&((decide ((p1.length:Int)≤(p0.length:Int)))==true)) v1::gB (true&&((decide ((p1.length:Int)≤(p0.length:Int)))==true)) ((subL p0 ((p0.length:Int)-(p1.length:Int)) (p0.length:Int))==p1)::eB x3::eB x3::[]) ?_ ?_
 exact om h0<|op (fun Q U W H D=>zAG ((f_v0.fr W).eq (D.g 0 Z)) underlying9)<|om h1<|op (fun Q U W H D=>zAG ((f_v1.fr W).eq (D.g 0 Z)) underlying9)<|op (fun Q U W H D=>zDt (D.g 0 Z) (D.g 1 Z))<|ov<|gm 5 true h0<|gm 5 true h0<|og 5 true (fun G Q U W H D=>zAG ((f_v0.fr W).eq (D.h 0 G Z)) underlying9)<|gm 5 true h1<|og 5 true (fun G Q U W H D=>zAG ((f_v1.fr W).eq (D.h 0 G Z)) underlying9)<|og 5 true (fun G Q U W H D=>zAX (D.h 0 G Z) (D.h 1 G Z) (gd e1 G))<|og 5 true (fun G Q U W H D=>zG4 ((f_v0.fr W).eq (D.h 0 G Z)) (D.h 1 G Z) underlying9  (gd e2 G))<|gm 5 true h1<|og 5 true (fun G Q U W H D=>zB4 (D.h 0 G Z) ((f_v1.fr W).eq (D.h 1 G Z)))<|op (fun Q U W H D=>zAC (decide ((p1.length:Int)≤(p0.length:Int))) (D.g 0 Z) (fun hc=>by have a1:Q 19 = .bool ((subL p0 ((p0.length:Int)-(p1.length:Int)) (p0.length:Int))==p1):=D 1 _ _ _ Z Z Z Z (zAZ Z (zAM hc));show _=Value.bool x3;rw [q4,hc];exact a1) (fun hc=>by show _=Value.bool x3;rw [q4,hc];exact Z))<|oa<|oz
 intro R w m n p d j
 have h4:=p.r 16 Z
 refine HT.ret ?_
 obtain rfl:=si c
 exact ⟨.inr Z,[R 4],⟨Z,N⟩,h4,j⟩
def zAp (fu:Nat) (p0:List UInt8) (p1:List UInt8):Option (List UInt8):=
 cl true (zAY fu p0 p1) fun x1=>
 bif x1 then (
 ck (i64B ((p0.length:Int)-(p1.length:Int))) <|
 ck (subR 0 ((p0.length:Int)-(p1.length:Int)) p0.length) <|
 some (subL p0 0 ((p0.length:Int)-(p1.length:Int)))
 ) else (
 some p0
 )
theorem zDb {fu : Nat} {A : Av} {p0 : List UInt8} {p1 : List UInt8} {r : List UInt8} (c : zAp fu p0 p1 = some r) {w : World} {v0 : Value} {v1 : Value} (d : AvOK A w) (h0 : Rep eStr A w v0 p0) (h1 : Rep eStr A w v1 p1) :
 Calls prog 316 #[v0,v1] w fun e w'=>∃ v,e = .returned v∧(Rep eStr A w' v r∧Fr w w'):=by
 unfold zAp at c
 obtain ⟨w0,hw0⟩:∃ w0,w0=w:=⟨_,Z⟩
 have j:Fr w0 w:=hw0 ▸ Fr.refl _
 rw [show Fr w=Fr w0 from hw0 ▸ Z]
 clear hw0
 refine zA2 [.tmp 4] func316 ntmps316 (by decide) Z Z (nb Z) ?_
 intro R hR
 have f_v0:=h0
 replace h0:R 0=v0:=hR 0 _ Z
 have f_v1:=h1
 replace h1:R 1=v1:=hR 1 _ Z
 clear hR
 refine HT.su d j (eF (.rep eStr A ([]:List UInt8))::[]) ?_ ?_
 exact op (fun Q U W H D=>zA0 ⟨_,Z,⟨_,Z,Z,by decide⟩⟩)<|oz
 intro R w m n p d j
 obtain ⟨h0,h1⟩:=k2 n h0 h1
 replace f_v0:=f_v0.fr m
 replace f_v1:=f_v1.fr m
 refine HT.seq ?_
 obtain ⟨x1,q2,c⟩:=zA3 c
 refine HT.su d j (eR v0::eR v1::eB x1::[]) ?_ ?_
 exact om h0<|om h1<|op (fun Q U W H D=>zA6 call267 (zCP (q2 Z) (d.fr W.size) ((f_v0.fr W).eq (D.g 0 Z)) ((f_v1.fr W).eq (D.g 1 Z))))<|oz
 intro R w m n p d j
 obtain ⟨h0,h1⟩:=k2 n h0 h1
 have h7:=p.r 2 Z
 replace f_v0:=f_v0.fr m
 replace f_v1:=f_v1.fr m
 refine HT.cond x1 h7 (fun c3=>?_) (fun c3=>?_)
 have c:=zAK c3 c
 obtain ⟨e4,e5,c⟩:=ck2 c
 refine HT.su d j (eR v0::eR v0::eI (p0.length:Int)::eR v1::eI (p1.length:Int)::eI ((p0.length:Int)-(p1.length:Int))::eF (.rep eStr A (subL p0 0 ((p0.length:Int)-(p1.length:Int))))::eF (.rep eStr A (subL p0 0 ((p0.length:Int)-(p1.length:Int))))::[]) ?_ ?_
 exact om h0<|om h0<|op (fun Q U W H D=>zAG ((f_v0.fr W).eq (D.g 0 Z)) underlying9)<|om h1<|op (fun Q U W H D=>zAG ((f_v1.fr W).eq (D.g 0 Z)) underlying9)<|op (fun Q U W H D=>zAX (D.g 0 Z) (D.g 1 Z) e4)<|op (fun Q U W H D=>zE4 ((f_v0.fr W).eq (D.g 0 Z)) (D.g 1 Z) underlying9  e5)<|op (fun Q U W H D=>zA0 (D.g 0 Z))<|oz
 intro R w m n p d j
 obtain ⟨u6,h4,f_u6⟩:∃ u,R 4=u∧Rep eStr A w u (subL p0 0 ((p0.length:Int)-(p1.length:Int))):=⟨_,Z,p 7 _ _ Z Z Z⟩
 refine HT.ret ?_
 obtain rfl:=si c
 exact ⟨.inr Z,[R 4],⟨Z,N⟩,(f_u6.eq h4),j⟩
 have c:=zAL c3 c
 refine HT.skip ?_
 refine HT.su d j (eR v0::eR v0::[]) ?_ ?_
 exact om h0<|oa<|oz
 intro R w m n p d j
 have h4:=p.r 1 Z
 replace f_v0:=f_v0.fr m
 refine HT.ret ?_
 obtain rfl:=si c
 exact ⟨.inr Z,[R 4],⟨Z,N⟩,(f_v0.eq h4),j⟩
def zBJ (fu:Nat) (p0:List UInt8) (p1:List UInt8):Option (List UInt8):=
 cl true (zAp fu p0 p1) fun x1=>
 some x1
theorem zFR {fu : Nat} {A : Av} {p0 : List UInt8} {p1 : List UInt8} {r : List UInt8} (c : zBJ fu p0 p1 = some r) {w : World} {v0 : Value} {v1 : Value} (d : AvOK A w) (h0 : Rep eStr A w v0 p0) (h1 : Rep eStr A w v1 p1) :
 Calls prog 291 #[v0,v1] w fun e w'=>∃ v,e = .returned v∧(Rep eStr A w' v r∧Fr w w'):=by
 unfold zBJ at c
 obtain ⟨w0,hw0⟩:∃ w0,w0=w:=⟨_,Z⟩
 have j:Fr w0 w:=hw0 ▸ Fr.refl _
 rw [show Fr w=Fr w0 from hw0 ▸ Z]
 clear hw0
 refine zA2 [.tmp 4] func291 ntmps291 (by decide) Z Z (nb Z) ?_
 intro R hR
 have f_v0:=h0
 replace h0:R 0=v0:=hR 0 _ Z
 have f_v1:=h1
 replace h1:R 1=v1:=hR 1 _ Z
 clear hR
 refine HT.su d j (eF (.rep eStr A ([]:List UInt8))::[]) ?_ ?_
 exact op (fun Q U W H D=>zA0 ⟨_,Z,⟨_,Z,Z,by decide⟩⟩)<|oz
 intro R w m n p d j
 obtain ⟨h0,h1⟩:=k2 n h0 h1
 replace f_v0:=f_v0.fr m
 replace f_v1:=f_v1.fr m
 obtain ⟨x1,q2,c⟩:=zA3 c
 refine HT.su d j (eR v0::eR v1::eF (.rep eStr A x1)::eF (.rep eStr A x1)::[]) ?_ ?_
 exact om h0<|om h1<|op (fun Q U W H D=>zA6 call316 (zDb (q2 Z) (d.fr W.size) ((f_v0.fr W).eq (D.g 0 Z)) ((f_v1.fr W).eq (D.g 1 Z))))<|op (fun Q U W H D=>zA0 (D.g 0 Z))<|oz
 intro R w m n p d j
 obtain ⟨u3,h4,f_u3⟩:∃ u,R 4=u∧Rep eStr A w u x1:=⟨_,Z,p 3 _ _ Z Z Z⟩
 refine HT.ret ?_
 obtain rfl:=si c
 exact ⟨.inr Z,[R 4],⟨Z,N⟩,(f_u3.eq h4),j⟩
def zAk (fu : Nat) (p0 : List UInt8) : Nat → Int → (List Int) → Option (List Int)
 | 0,_,_=>none
 | k+1,y5,y6=>
 bif (decide (y5<(p0.length:Int))) then (
 ck (inR y5 p0.length) <|
 ck (!((true&&(((bAt p0 y5) != 32)==false))&&((decide (0<(y6.length:Int)))==true)) || i64B ((y6.length:Int)-1)) <|
 ck (!((true&&(((bAt p0 y5) != 32)==false))&&((decide (0<(y6.length:Int)))==true)) || inR ((y6.length:Int)-1) y6.length) <|
 bd ((decide (0<(y6.length:Int)))&&((gtD y6 ((y6.length:Int)-1)) != 32)) fun x11=>
 bd (((bAt p0 y5) != 32) || x11) fun x13=>
 bif x13 then (
 ck (inR y5 p0.length) <|
 ck (zCV (y6.length+([(bAt p0 y5)]:List Int).length)) <|
 ck (i64B (y5+1)) <|
 zAk fu p0 k (y5+1) (y6++([(bAt p0 y5)]:List Int))
 ) else (
 ck (i64B (y5+1)) <|
 zAk fu p0 k (y5+1) y6
 )
 ) else (
 some y6
 )
def zBu (fu:Nat) (p0:List UInt8):Option (List UInt8):=
 cl true (zAk fu p0 fu 0 ([]:List Int)) fun s4=>
 cl true (zBJ fu (strB s4) ([32]:List UInt8)) fun x21=>
 some x21
theorem zFH {fu : Nat} {A0 : Av} {p0 : List UInt8} {r : List UInt8} (c : zBu fu p0 = some r) {w : World} {v0 : Value} (d : AvOK A0 w) (h0 : Rep eStr A0 w v0 p0) :
 Calls prog 252 #[v0] w fun e w'=>∃ v,e = .returned v∧(Rep eStr A0 w' v r∧Fr w w'):=by
 unfold zBu at c
 obtain ⟨w0,hw0⟩:∃ w0,w0=w:=⟨_,Z⟩
 have j:Fr w0 w:=hw0 ▸ Fr.refl _
 have C:∀ b o,A0 b o→b<w0.heap.size:=fun b o h=>hw0 ▸ d b o h
 have hA00:AvOK A0 w0:=C
 rw [show Fr w=Fr w0 from hw0 ▸ Z]
 clear hw0
 obtain ⟨A,hAe⟩:∃ A,A=A0:=⟨_,Z⟩
 have B:∀ b o,A0 b o→A b o:=fun b o h=>hAe ▸ h
 replace d:AvOK A w:=hAe ▸ d
 have q:IniOK [] A w:=IniOK.nil
 refine zA2 [.tmp 2] func252 ntmps252 (by decide) Z Z (nb Z) ?_
 intro R hR
 have f_v0:Rep eStr A w v0 p0:=hAe ▸ h0
 replace h0:R 0=v0:=hR 0 _ Z
 clear hR hAe
 refine HT.su d j (eF (.rep eStr A ([]:List UInt8))::[]) ?_ ?_
 exact op (fun Q U W H D=>zA0 ⟨_,Z,⟨_,Z,Z,by decide⟩⟩)<|oz
 intro R w m n p d j
 replace h0:=k1 n h0
 replace f_v0:=f_v0.fr m
 replace q:=q.fr m
 refine HT.su d j (eR (.slice none 0 0)::[]) ?_ ?_
 exact op (fun Q U W H D=>zA0 Z)<|oz
 intro R w m n p d j
 replace h0:=k1 n h0
 obtain ⟨u1,n_u1⟩:∃ u,u=Value.slice none 0 0:=⟨_,Z⟩
 have h3:R 3=u1:=(p 0 _ _ Z Z Z).trans n_u1.symm
 replace f_v0:=f_v0.fr m
 replace q:=q.fr m
 replace q:=q.nilcons (u:=u1) n_u1 w0.heap.size 5 (eInt .u8)
 refine HT.seq ?_
 refine HT.su d j (eR v0::eI (p0.length:Int)::eI 0::[]) ?_ ?_
 exact om h0<|op (fun Q U W H D=>zAG ((f_v0.fr W).eq (D.g 0 Z)) underlying9)<|op (fun Q U W H D=>zCE Z)<|oz
 intro R w m n p d j
 obtain ⟨h0,h3⟩:=k2 n h0 h3
 have h6:=p.r 1 Z
 have h7:=p.r 2 Z
 replace f_v0:=f_v0.fr m
 replace q:=q.fr m
 obtain ⟨rl2,q3,c⟩:=zA3 c
 replace q3:=q3 Z
 refine HT.cut0 (fun R w=>∃ A:Av,∃ (s4:(List Int)) (uo_u1:Value),rl2=s4∧AvOK A w∧Fr w0 w∧(∀ b o,A0 b o→A b o)∧IniOK [ob uo_u1 (.vec w0.heap.size 5 (eInt .u8) s4)] A w∧R 3=uo_u1) ?_ ?_
 refine HT.block ?_
 refine HT.loop (fun k R w=>∃ A:Av,∃ (y5:Int) (y6:List Int) (ul_u1:Value),zAk fu p0 k y5 y6=some rl2∧AvOK A w∧Fr w0 w∧(∀ b o,A0 b o→A b o)∧IniOK [ob ul_u1 (.vec w0.heap.size 5 (eInt .u8) y6)] A w∧R 0=v0∧R 3=ul_u1∧R 6 = .int .i64 (p0.length:Int)∧R 7 = .int .i64 y5∧Rep eStr A w v0 p0) fu ⟨_,_,_,u1,q3,d,j,B,q,h0,h3,h6,h7,f_v0⟩ ?_
 have hr0:=c;clear c q3
 rintro k R w ⟨A,y5,y6,ul_u1,c,d,j,B,q,h0,h3,h6,h7,f_v0⟩
 rcases k with _ | k
 cases (show none=some _ from c)
 rw [zAk] at c
 refine HT.su d j (eB (decide (y5<(p0.length:Int)))::[]) ?_ ?_
 exact op (fun Q U W H D=>zAf ((H 7 Z).trans h7) ((H 6 Z).trans h6))<|oz
 intro R w m n p d j
 obtain ⟨h0,h3,h6,h7⟩:=k4 n h0 h3 h6 h7
 have h8:=p.r 0 Z
 replace f_v0:=f_v0.fr m
 replace q:=q.fr m
 refine HT.seq ?_
 refine HT.cond (decide (y5<(p0.length:Int))) h8 (fun c7=>?_) (fun c7=>?_)
 have c:=zAK c7 c
 refine HT.skip ?_
 refine HT.seq ?_
 refine HT.block ?_
 refine HT.su d j (eI y5::eI y5::[]) ?_ ?_
 exact om h7<|oa<|oz
 intro R w m n p d j
 obtain ⟨h0,h3,h6,h7⟩:=k4 n h0 h3 h6 h7
 have h4:=p.r 1 Z
 replace f_v0:=f_v0.fr m
 replace q:=q.fr m
 refine HT.seq ?_
 obtain ⟨e8,e9,e10,c⟩:=ck3 c
 obtain ⟨x11,q12,c⟩:=zAB c
 obtain ⟨x13,q14,c⟩:=zAB c
 refine HT.u d j (eR v0::eI y5::eU (bAt p0 y5)::eB ((bAt p0 y5) != 32)::eB ((bAt p0 y5) != 32)::gR (true&&(((bAt p0 y5) != 32)==false)) ul_u1::gI (true&&(((bAt p0 y5) != 32)==false)) (y6.length:Int)::gB (true&&(((bAt p0 y5) != 32)==false)) (decide (0<(y6.length:Int)))::gB (true&&(((bAt p0 y5) != 32)==false)) (decide (0<(y6.length:Int)))::gR ((true&&(((bAt p0 y5) != 32)==false))&&((decide (0<(y6.length:Int)))==true)) ul_u1::gR ((true&&(((bAt p0 y5) != 32)==false))&&((decide (0<(y6.length:Int)))==true)) ul_u1::gI ((true&&(((bAt p0 y5) != 32)==false))&&((decide (0<(y6.length:Int)))==true)) (y6.length:Int)::gI ((true&&(((bAt p0 y5) != 32)==false))&&((decide (0<(y6.length:Int)))==true)) ((y6.length:Int)-1)::gR ((true&&(((bAt p0 y5) != 32)==false))&&((decide (0<(y6.length:Int)))==true)) (vptr ul_u1 (((y6.length:Int)-1).toNat*1))::gU ((true&&(((bAt p0 y5) != 32)==false))&&((decide (0<(y6.length:Int)))==true)) (gtD y6 ((y6.length:Int)-1))::gB ((true&&(((bAt p0 y5) != 32)==false))&&((decide (0<(y6.length:Int)))==true)) ((gtD y6 ((y6.length:Int)-1)) != 32)::gB (true&&(((bAt p0 y5) != 32)==false)) x11::eB x13::[]) ?_ ?_
 exact om h0<|om h4<|op (fun Q U W H D=>zA8 ((f_v0.fr W).eq (D.g 0 Z)) (D.g 1 Z) underlying9 e8)<|op (fun Q U W H D=>zEc (D.g 0 Z) Z)<|ov<|gm 4 false h3<|og 4 false (fun G Q U W H D=>zCG (q.ok 0 _ Z).1 (D.h 0 G Z) underlying22)<|og 4 false (fun G Q U W H D=>zCM (D.h 0 G Z) Z)<|og 4 false (fun G Q U W H D=>zCE (D.h 0 G Z))<|gm 8 true h3<|gm 8 true h3<|og 8 true (fun G Q U W H D=>zCG (q.ok 0 _ Z).1 (D.h 0 G Z) underlying22)<|og 8 true (fun G Q U W H D=>zAX (D.h 0 G Z) Z (gd e9 G))<|og 8 true (fun G Q U W H D=>zAF (q.ok 0 _ Z).1 (D.h 0 G Z) (D.h 1 G Z) underlying22 sizeOf5 (gd e10 G) Z)<|og 8 true (fun G Q U W H D=>OpF.int (zAs ((q.fr W).ok 0 _ Z).1 (D.h 0 G Z) (gd e10 G) Z (Fld.id _) Z isAgg5 sizeOf5))<|og 8 true (fun G Q U W H D=>zEc (D.h 0 G Z) Z)<|og 4 false (fun G Q U W H D=>zAC (decide (0<(y6.length:Int))) (D.h 0 G Z) (fun hc=>by have a1:Q 25 = .bool ((gtD y6 ((y6.length:Int)-1)) != 32):=D 1 _ _ _ Z Z Z Z (zAZ G (zAM hc));show _=Value.bool x11;rw [q12,hc];exact a1) (fun hc=>by show _=Value.bool x11;rw [q12,hc];exact Z))<|op (fun Q U W H D=>zAC ((bAt p0 y5) != 32) (D.g 0 Z) (fun hc=>by show _=Value.bool x13;rw [q14,hc];exact Z) (fun hc=>by have a2:Q 26 = .bool x11:=D 1 _ _ _ Z Z Z Z (zAZ Z (zAM hc));show _=Value.bool x13;rw [q14,hc];exact a2))<|oz
 intro R w m n p d j
 obtain ⟨h0,h3,h4,h6,h7⟩:=k5 n h0 h3 h4 h6 h7
 have h27:=p.r 17 Z
 replace f_v0:=f_v0.fr m
 replace q:=q.fr m
 refine HT.cond x13 h27 (fun c15=>?_) (fun c15=>?_)
 have c:=zAK c15 c
 obtain ⟨e16,e17,c⟩:=ck2 c
 refine HT.x [ob ul_u1 (.vec w0.heap.size 5 (eInt .u8) y6)] (rR ul_u1::rR v0::rI y5::rU (bAt p0 y5)::(rF fun A=>.rep (eSl (eInt .u8)) A ([(bAt p0 y5)]:List Int))::⟨_,true,[0],some (.vec w0.heap.size 5 (eInt .u8) (y6++([(bAt p0 y5)]:List Int))),true,fun A=>.any⟩::⟨_,true,[6],some (.vec w0.heap.size 5 (eInt .u8) (y6++([(bAt p0 y5)]:List Int))),true,fun A=>.any⟩::[]) (ur (ur (ur (ur (up (ua (ua (UAll.nil)))))))) q d ?_ ?_
 exact rm h3<|rm h0<|rm h4<|rp (fun V Q U O D=>zA8 ((f_v0.stp O.stp).eq (D.g 0 Z)) (D.g 1 Z) underlying9 e16)<|rp (fun V Q U O D=>zBZ [_] (E:=eInt .u8) ⟨(zAe.eq (D.g 0 Z)),N⟩ underlying22 sizeOf5 zeroValue5 Z Z Z O.av)<|rc (OblR.took 0 _ _ Z Z Z Z Z fun V Q U O D u hok hav hin hop hds=>by have a0:Q 28=ul_u1:=D.g 0 Z;have a1:Rep (eSl (eInt .u8)) V U (Q 32) ([(bAt p0 y5)]:List Int):=D.g 1 Z;exact zAw (a0.trans (hin _ Z).symm) hok hav (Nat.le_trans j.size O.ch.size) a1 underlying22 el_5 e17)<|rc (OblR.took 6 _ _ Z Z Z Z Z fun V Q U O D u hok hav hin hop hds=>by exact zAH (hop _ _ Z Z Z Z).symm hok hav)<|rz
 intro done ρ σ A R w y s
 obtain ⟨h0,h6,h7⟩:=k3 s.rg h0 h6 h7
 obtain ⟨u18,e_u18⟩:∃ u,ρ 7=u:=⟨_,Z⟩
 have h3:=s.ov y 7 6 e_u18
 replace f_v0:=f_v0.stp s.stp
 obtain ⟨B,j,d⟩:=s.s B C j q ⟨Z,N⟩
 replace q:=s.left y [(7,ob u18 (.vec w0.heap.size 5 (eInt .u8) (y6++([(bAt p0 y5)]:List Int))))] ⟨Z,Z,e_u18,Z,Z,N⟩
 obtain ⟨e19,c⟩:=zA4 c
 refine HT.u d j (eI (y5+1)::eI (y5+1)::[]) ?_ ?_
 exact op (fun Q U W H D=>zAN ((H 7 Z).trans h7) Z e19)<|ov<|oz
 intro R w m n p d j
 obtain ⟨h0,h3,h6⟩:=k3 n h0 h3 h6
 have h7:=p.r 1 Z
 replace f_v0:=f_v0.fr m
 replace q:=q.fr m
 exact ei k (And.intro (Nat.lt_succ_self k) ⟨_,_,_,u18,c,d,j,B,q,h0,h3,h6,h7,f_v0⟩)
 have c:=zAL c15 c
 refine HT.skip ?_
 obtain ⟨e20,c⟩:=zA4 c
 refine HT.u d j (eI (y5+1)::eI (y5+1)::[]) ?_ ?_
 exact op (fun Q U W H D=>zAN ((H 7 Z).trans h7) Z e20)<|ov<|oz
 intro R w m n p d j
 obtain ⟨h0,h3,h6⟩:=k3 n h0 h3 h6
 have h7:=p.r 1 Z
 replace f_v0:=f_v0.fr m
 replace q:=q.fr m
 exact ei k (And.intro (Nat.lt_succ_self k) ⟨_,_,_,ul_u1,c,d,j,B,q,h0,h3,h6,h7,f_v0⟩)
 have c:=zAL c7 c
 refine HT.exit ?_
 obtain rfl:=si c
 exact ei _ ⟨_,ul_u1,Z,d,j,B,q,h3⟩
 rintro R w ⟨A,s4,uo_u1,es,d,j,B,q,h3⟩
 obtain rfl:=es.symm
 obtain ⟨x21,q22,c⟩:=zA3 c
 refine HT.su d j (eR uo_u1::eF (.rep eStr A (strB s4))::eF (.rep eStr A x21)::eF (.rep eStr A x21)::[]) ?_ ?_
 exact om h3<|op (fun Q U W H D=>zBF ((zCD ((q.fr W).ok 0 _ Z).1 B C).eq (D.g 0 Z)) underlying22 underlying5 underlying9)<|op (fun Q U W H D=>zA6 call291 (zFR (q22 Z) (d.fr W.size) (D.g 0 Z) ⟨_,Z,⟨_,Z,Z,by decide⟩⟩))<|op (fun Q U W H D=>zA0 (D.g 0 Z))<|oz
 intro R w m n p d j
 obtain ⟨u23,h2,f_u23⟩:∃ u,R 2=u∧Rep eStr A w u x21:=⟨_,Z,p 3 _ _ Z Z Z⟩
 replace q:=q.fr m
 replace q:IniOK [] A w:=q.sub [] N
 refine HT.ret ?_
 obtain rfl:=si c
 exact ⟨.inr Z,[R 2],⟨Z,N⟩,(f_u23.eq h2).down B,j⟩
def zC2 (fu:Nat) (p0:List UInt8):Option (List UInt8):=
 cl true (zCn fu p0) fun x1=>
 cl true (zCl fu x1) fun x3=>
 cl true (zBu fu x3) fun x5=>
 some x5
theorem zDp {fu : Nat} {A : Av} {p0 : List UInt8} {r : List UInt8} (c : zC2 fu p0 = some r) {w : World} {v0 : Value} (d : AvOK A w) (hG : GTab w) (h0 : Rep eStr A w v0 p0) :
 Calls prog 218 #[v0] w fun e w'=>∃ v,e = .returned v∧(Rep eStr A w' v r∧Fr w w'):=by
 unfold zC2 at c
 obtain ⟨w0,hw0⟩:∃ w0,w0=w:=⟨_,Z⟩
 have j:Fr w0 w:=hw0 ▸ Fr.refl _
 rw [show Fr w=Fr w0 from hw0 ▸ Z]
 have hG0:GTab w0:=hw0 ▸ hG
 clear hw0
 refine zA2 [.tmp 2] func218 ntmps218 (by decide) Z Z (nb Z) ?_
 intro R hR
 have f_v0:=h0
 replace h0:R 0=v0:=hR 0 _ Z
 clear hR
 refine HT.su d j (eF (.rep eStr A ([]:List UInt8))::[]) ?_ ?_
 exact op (fun Q U W H D=>zA0 ⟨_,Z,⟨_,Z,Z,by decide⟩⟩)<|oz
 intro R w m n p d j
 replace h0:=k1 n h0
 replace f_v0:=f_v0.fr m
 obtain ⟨x1,q2,c⟩:=zA3 c
 obtain ⟨x3,q4,c⟩:=zA3 c
 obtain ⟨x5,q6,c⟩:=zA3 c
 refine HT.su d j (eR v0::eF (.rep eStr A x1)::eF (.rep eStr A x3)::eF (.rep eStr A x5)::eF (.rep eStr A x5)::[]) ?_ ?_
 exact om h0<|op (fun Q U W H D=>zA6 call247 (zEx (q2 Z) (d.fr W.size) ((f_v0.fr W).eq (D.g 0 Z))))<|op (fun Q U W H D=>zA6 call253 (zGH (q4 Z) (d.fr W.size) (hG0.fr (j.trans W)) (D.g 0 Z)))<|op (fun Q U W H D=>zA6 call252 (zFH (q6 Z) (d.fr W.size) (D.g 0 Z)))<|op (fun Q U W H D=>zA0 (D.g 0 Z))<|oz
 intro R w m n p d j
 obtain ⟨u7,h2,f_u7⟩:∃ u,R 2=u∧Rep eStr A w u x5:=⟨_,Z,p 4 _ _ Z Z Z⟩
 refine HT.ret ?_
 obtain rfl:=si c
 exact ⟨.inr Z,[R 2],⟨Z,N⟩,(f_u7.eq h2),j⟩
def zDg (fu:Nat) (p0:Int):Option Bool:=
 some (p0==32)
theorem zHN {fu : Nat} {A : Av} {p0 : Int} {r : Bool} (c : zDg fu p0 = some r) {w : World} {v0 : Value} (d : AvOK A w) (h0 : v0 = .int .i32 p0) :
 Calls prog 251 #[v0] w fun e w'=>∃ v,e = .returned v∧(v = .bool r∧Fr w w'):=by
 unfold zDg at c
 obtain ⟨w0,hw0⟩:∃ w0,w0=w:=⟨_,Z⟩
 have j:Fr w0 w:=hw0 ▸ Fr.refl _
 rw [show Fr w=Fr w0 from hw0 ▸ Z]
 clear hw0
 refine zA2 [.tmp 2] func251 ntmps251 (by decide) Z Z (nb Z) ?_
 intro R hR
 replace h0:R 0 = .int .i32 p0:=(hR 0 _ Z).trans h0
 clear hR
 refine HT.su d j (eB false::[]) ?_ ?_
 exact op (fun Q U W H D=>zA0 Z)<|oz
 intro R w m n p d j
 replace h0:=k1 n h0
 refine HT.su d j (eR (.int .i32 p0)::eB (p0==32)::eB (p0==32)::[]) ?_ ?_
 exact om h0<|op (fun Q U W H D=>zBA (D.g 0 Z) Z)<|oa<|oz
 intro R w m n p d j
 have h2:=p.r 2 Z
 refine HT.ret ?_
 obtain rfl:=si c
 exact ⟨.inr Z,[R 2],⟨Z,N⟩,h2,j⟩
def zEQ (fu:Nat) (p0:List UInt8):Option (List (List UInt8)):=
 cl true (zHj fu p0 (fun x=>zDg fu x)) fun x1=>
 some x1
theorem zI1 {fu : Nat} {A : Av} {p0 : List UInt8} {r : List (List UInt8)} (c : zEQ fu p0 = some r) {w : World} {v0 : Value} (d : AvOK A w) (h0 : Rep eStr A w v0 p0) :
 Calls prog 217 #[v0] w fun e w'=>∃ v,e = .returned v∧(Rep (eSl eStr) A w' v r∧Fr w w'):=by
 unfold zEQ at c
 obtain ⟨w0,hw0⟩:∃ w0,w0=w:=⟨_,Z⟩
 have j:Fr w0 w:=hw0 ▸ Fr.refl _
 rw [show Fr w=Fr w0 from hw0 ▸ Z]
 clear hw0
 refine zA2 [.tmp 2] func217 ntmps217 (by decide) Z Z (nb Z) ?_
 intro R hR
 have f_v0:=h0
 replace h0:R 0=v0:=hR 0 _ Z
 clear hR
 refine HT.su d j (eF (.rep (eSl eStr) A ([]:List (List UInt8)))::[]) ?_ ?_
 exact op (fun Q U W H D=>zA0 zJK)<|oz
 intro R w m n p d j
 replace h0:=k1 n h0
 replace f_v0:=f_v0.fr m
 obtain ⟨x1,q2,c⟩:=zA3 c
 refine HT.su d j (eR v0::eF (.rep (eSl eStr) A x1)::eF (.rep (eSl eStr) A x1)::[]) ?_ ?_
 exact om h0<|op (fun Q U W H D=>zA6 call250 (zKR (q2 Z) (d.fr W.size) ((f_v0.fr W).eq (D.g 0 Z)) (zJ1 [] Z call251 (fun x r hr' w'' a p hA' ha=>zHN hr' hA' (zHF ha)))))<|op (fun Q U W H D=>zA0 (D.g 0 Z))<|oz
 intro R w m n p d j
 obtain ⟨u3,h2,f_u3⟩:∃ u,R 2=u∧Rep (eSl eStr) A w u x1:=⟨_,Z,p 2 _ _ Z Z Z⟩
 refine HT.ret ?_
 obtain rfl:=si c
 exact ⟨.inr Z,[R 2],⟨Z,N⟩,(f_u3.eq h2),j⟩
def zAg (fu:Nat) (p0:List (List UInt8)):Option (List (List UInt8)):=
 ck (zCV (([]:List (List UInt8)).length+p0.length)) <|
 some (([]:List (List UInt8))++p0)
theorem zBo {fu : Nat} {A0 : Av} {p0 : List (List UInt8)} {r : List (List UInt8)} (c : zAg fu p0 = some r) {w : World} {v0 : Value} (d : AvOK A0 w) (h0 : Rep (eSl eStr) A0 w v0 p0) :
 Calls prog 173 #[v0] w fun e w'=>∃ v,e = .returned v∧((Res.vec w.heap.size 9 eStr r).ok (addA A0 v) v w'∧Fr w w'):=by
 unfold zAg at c
 obtain ⟨w0,hw0⟩:∃ w0,w0=w:=⟨_,Z⟩
 have j:Fr w0 w:=hw0 ▸ Fr.refl _
 have C:∀ b o,A0 b o→b<w0.heap.size:=fun b o h=>hw0 ▸ d b o h
 have hA00:AvOK A0 w0:=C
 rw [show w.heap.size=w0.heap.size from hw0 ▸ Z]
 rw [show Fr w=Fr w0 from hw0 ▸ Z]
 clear hw0
 obtain ⟨A,hAe⟩:∃ A,A=A0:=⟨_,Z⟩
 have B:∀ b o,A0 b o→A b o:=fun b o h=>hAe ▸ h
 replace d:AvOK A w:=hAe ▸ d
 have q:IniOK [] A w:=IniOK.nil
 refine zA2 [.tmp 2] func173 ntmps173 (by decide) Z Z (nb Z) ?_
 intro R hR
 have f_v0:Rep (eSl eStr) A w v0 p0:=hAe ▸ h0
 replace h0:R 0=v0:=hR 0 _ Z
 clear hR hAe
 refine HT.su d j (eA::[]) ?_ ?_
 exact op (fun Q U W H D=>zA0 N)<|oz
 intro R w m n p d j
 replace h0:=k1 n h0
 replace f_v0:=f_v0.fr m
 replace q:=q.fr m
 refine HT.seq ?_
 refine HT.su d j (eR v0::eB (zKu v0)::[]) ?_ ?_
 exact om h0<|op (fun Q U W H D=>zLd (D.g 0 Z) (f_v0.fr W) Z underlying46)<|oz
 intro R w m n p d j
 replace h0:=k1 n h0
 have h4:=p.r 1 Z
 replace f_v0:=f_v0.fr m
 replace q:=q.fr m
 refine HT.cond (zKu v0) h4 (fun c1=>?_) (fun c1=>?_)
 obtain rfl:=zLW f_v0 c1
 refine HT.su d j (eR (.slice none 0 0)::[]) ?_ ?_
 exact op (fun Q U W H D=>zA0 Z)<|oz
 intro R w m n p d j
 obtain ⟨u2,n_u2⟩:∃ u,u=Value.slice none 0 0:=⟨_,Z⟩
 have h2:R 2=u2:=(p 0 _ _ Z Z Z).trans n_u2.symm
 replace q:=q.fr m
 replace q:=q.nilcons (u:=u2) n_u2 w0.heap.size 9 eStr
 refine HT.ret ?_
 replace c:some ([]:List (List UInt8))=some r:=c
 obtain rfl:=si c
 exact ⟨.inr Z,[R 2],⟨Z,N⟩,(zCT (q.ok 0 _ Z) B h2),j⟩
 refine HT.skip ?_
 obtain ⟨e3,c⟩:=zA4 c
 refine HT.sx [] (⟨_,true,[],some (.vec w0.heap.size 9 eStr ([]:List (List UInt8))),true,fun A=>.any⟩::rR v0::⟨_,true,[0],some (.vec w0.heap.size 9 eStr (([]:List (List UInt8))++p0)),true,fun A=>.any⟩::⟨_,true,[2],some (.vec w0.heap.size 9 eStr (([]:List (List UInt8))++p0)),true,fun A=>.any⟩::[]) (ua (ur (ua (ua (UAll.nil))))) q d ?_ ?_
 exact rc (OblR.made _ Z Z Z Z fun V Q U O D=>by exact zBb [] (E:=eStr) N underlying46 sizeOf9 zeroValue9 Z Z Z (Nat.le_trans j.size O.ch.size))<|rm h0<|rc (OblR.took 0 _ _ Z Z Z Z Z fun V Q U O D u hok hav hin hop hds=>by have a1:Q 6=v0:=D.g 1 Z;have ra1:=(f_v0.stp O.stp).eq a1;exact zAw (hop _ _ Z Z Z Z).symm hok hav (Nat.le_trans j.size O.ch.size) ra1 underlying46 el_9 e3)<|rc (OblR.took 2 _ _ Z Z Z Z Z fun V Q U O D u hok hav hin hop hds=>by exact zAH (hop _ _ Z Z Z Z).symm hok hav)<|rz
 intro done ρ σ A R w y s
 obtain ⟨u4,e_u4⟩:∃ u,ρ 3=u:=⟨_,Z⟩
 have h2:=s.ov y 3 3 e_u4
 obtain ⟨B,j,d⟩:=s.s B C j q N
 replace q:=s.left y [(3,ob u4 (.vec w0.heap.size 9 eStr (([]:List (List UInt8))++p0)))] ⟨Z,Z,e_u4,Z,Z,N⟩
 refine HT.ret ?_
 obtain rfl:=si c
 exact ⟨.inr Z,[R 2],⟨Z,N⟩,(zCT (q.ok 0 _ Z) B h2),j⟩
def zAS (fu : Nat) (y5 : Int) (x13 : Nat) : Nat → Int → Int → (List (List UInt8)) → Option (Int × (List (List UInt8)))
 | 0,_,_,_=>none
 | k+1,y18,y19,y20=>
 bif (decide (y19<(x13:Int))) then (
 ck (inR y19 x13) <|
 ck (decide (0≤y5)) <|
 ck (inR (y5+y19) y20.length) <|
 ck (i64B (y19-1)) <|
 ck (inR (y19-1) x13) <|
 ck (decide (0≤y5)) <|
 ck (inR (y5+(y19-1)) y20.length) <|
 bif (!((gtD y20 (y5+y19))==(gtD y20 (y5+(y19-1))))) then (
 ck (inR y19 x13) <|
 ck (decide (0≤y5)) <|
 ck (inR (y5+y19) y20.length) <|
 ck (inR y18 y20.length) <|
 ck (i64B (y18+1)) <|
 ck (i64B (y19+1)) <|
 zAS fu y5 x13 k (y18+1) (y19+1) (y20.set y18.toNat (gtD y20 (y5+y19)))
 ) else (
 ck (i64B (y19+1)) <|
 zAS fu y5 x13 k y18 (y19+1) y20
 )
 ) else (
 some (y18,y20)
 )
def zAT (fu : Nat) : Nat → Int → (List (List UInt8)) → Option (Ex (List (List UInt8)) (List (List UInt8)))
 | 0,_,_=>none
 | k+1,y5,y6=>
 bif (decide (y5<(y6.length:Int))) then (
 ck (inR y5 y6.length) <|
 ck (i64B (y5-1)) <|
 ck (inR (y5-1) y6.length) <|
 bif ((gtD y6 y5)==(gtD y6 (y5-1))) then (
 ck (subR y5 (y6.length:Int) y6.length) <|
 bd ((y6.length:Int).toNat-y5.toNat) fun x13=>
 cl true (zAS fu y5 x13 fu y5 1 y6) fun s17=>
 ck (subR s17.1 (s17.2.length:Int) s17.2.length) <|
 bd ((s17.2.length:Int).toNat-s17.1.toNat) fun x40=>
 ck (subR s17.1 s17.2.length s17.2.length) <|
 ck (x40==s17.2.length-s17.1.toNat) <|
 ck (subR 0 s17.1 (s17.2.take s17.1.toNat++List.replicate (s17.2.length-s17.1.toNat) ([]:List UInt8)).length) <|
 some (Ex.ret (subL (s17.2.take s17.1.toNat++List.replicate (s17.2.length-s17.1.toNat) ([]:List UInt8)) 0 s17.1))
 ) else (
 ck (i64B (y5+1)) <|
 zAT fu k (y5+1) y6
 )
 ) else (
 some (Ex.go y6)
 )
def zB0 (fu:Nat) (p0:List (List UInt8)):Option (List (List UInt8)):=
 bif (decide ((p0.length:Int)<2)) then (
 some p0
 ) else (
 cl true (zAT fu fu 1 p0) fun rl2=>
 exM rl2 (fun r=>some r) fun s4=>
 some s4
 )
theorem zEB {fu : Nat} {A0 : Av} {p0 : List (List UInt8)} {r : List (List UInt8)} (c : zB0 fu p0 = some r) {w : World} {v0 : Value} {B0 : Nat} (d : AvOK A0 w) (K : ∀ b o, A0 b o → ¬ zAW v0 b) (h0 : (Res.vec B0 9 eStr p0).ok A0 v0 w) :
 Calls prog 175 #[v0] w fun e w'=>∃ v,e = .returned v∧Took (addA A0 v0) true v0 (.vec B0 9 eStr r) (fun _=>.any) w v w':=by
 unfold zB0 at c
 obtain ⟨w0,hw0⟩:∃ w0,w0=w:=⟨_,Z⟩
 have j:Ch (zAW v0) w0 w:=hw0 ▸ Ch.refl _ _
 have C:∀ b o,A0 b o→b<w0.heap.size:=fun b o h=>hw0 ▸ d b o h
 have hA00:AvOK A0 w0:=C
 rw [show Took (addA A0 v0) true v0 (.vec B0 9 eStr r) (fun _=>.any) w=Took (addA A0 v0) true v0 (.vec B0 9 eStr r) (fun _=>.any) w0 from hw0 ▸ Z]
 clear hw0
 obtain ⟨A,hAe⟩:∃ A,A=addA A0 v0:=⟨_,Z⟩
 have B:∀ b o,A0 b o→A b o:=fun b o h=>hAe ▸ .inl h
 replace d:AvOK A w:=hAe ▸ d.one h0
 have q:IniOK [ob v0 (.vec B0 9 eStr p0)] A w:=hAe ▸ IniOK.one h0 (fun _ _ _ _ _ h=>h)
 refine zA2 [.tmp 2] func175 ntmps175 (by decide) Z Z (nb Z) ?_
 intro R hR
 replace h0:R 0=v0:=hR 0 _ Z
 clear hR hAe
 refine HT.seq ?_
 refine HT.t (eA::[]) ?_ ?_
 exact op (fun Q U W H D=>zA0 N)<|oz
 intro R w m n p
 replace h0:=k1 n h0
 replace q:=q.fr m
 replace d:=d.fr m.size
 replace j:=j.tr (m.ch noB) fun _ h=>False.elim h
 refine HT.seq ?_
 refine HT.seq ?_
 refine HT.t (eR v0::eI (p0.length:Int)::eB (decide ((p0.length:Int)<2))::[]) ?_ ?_
 exact om h0<|op (fun Q U W H D=>zCG (q.ok 0 _ Z).1 (D.g 0 Z) underlying46)<|op (fun Q U W H D=>zAf (D.g 0 Z) Z)<|oz
 intro R w m n p
 replace h0:=k1 n h0
 have h8:=p.r 2 Z
 replace q:=q.fr m
 replace d:=d.fr m.size
 replace j:=j.tr (m.ch noB) fun _ h=>False.elim h
 refine HT.cond (decide ((p0.length:Int)<2)) h8 (fun c1=>?_) (fun c1=>?_)
 have c:=zAK c1 c
 refine HT.seq ?_
 refine HT.t (eR v0::eR v0::[]) ?_ ?_
 exact om h0<|oa<|oz
 intro R w m n p
 have h2:=p.r 1 Z
 replace q:=q.fr m
 replace d:=d.fr m.size
 replace j:=j.tr (m.ch noB) fun _ h=>False.elim h
 refine HT.ret ?_
 obtain rfl:=si c
 exact ⟨.inr Z,[R 2],⟨Z,N⟩,by show Took _ true _ _ _ w0 (R 2) w;rw [h2];exact zGC (fun k h o=>.inr h) j (q.ok 0 _ Z).1 (q.own_ge (⟨.inr (fun k h=>.inr h),N⟩) (i:=0) Z) (fun _ _ _ _ _ h=>h)⟩
 have c:=zAL c1 c
 refine HT.skip ?_
 refine HT.seq ?_
 refine HT.seq ?_
 refine HT.t (eI 1::[]) ?_ ?_
 exact op (fun Q U W H D=>zA0 Z)<|oz
 intro R w m n p
 replace h0:=k1 n h0
 have h3:=p.r 0 Z
 replace q:=q.fr m
 replace d:=d.fr m.size
 replace j:=j.tr (m.ch noB) fun _ h=>False.elim h
 obtain ⟨rl2,q3,c⟩:=zA3 c
 replace q3:=q3 Z
 refine HT.cut0 (fun R w=>∃ A:Av,∃ (s4:(List (List UInt8))),rl2=Ex.go s4∧AvOK A w∧Ch (zAW v0) w0 w∧(∀ b o,A0 b o→A b o)∧IniOK [ob v0 (.vec B0 9 eStr s4)] A w∧R 0=v0) ?_ ?_
 refine HT.block ?_
 refine HT.loop (fun k R w=>∃ A:Av,∃ (y5:Int) (y6:List (List UInt8)),zAT fu k y5 y6=some rl2∧AvOK A w∧Ch (zAW v0) w0 w∧(∀ b o,A0 b o→A b o)∧IniOK [ob v0 (.vec B0 9 eStr y6)] A w∧R 0=v0∧R 3 = .int .i64 y5) fu ⟨_,_,_,q3,d,j,B,q,h0,h3⟩ ?_
 have hr0:=c;clear c q3
 rintro k R w ⟨A,y5,y6,c,d,j,B,q,h0,h3⟩
 rcases k with _ | k
 cases (show none=some _ from c)
 rw [zAT] at c
 refine HT.seq ?_
 refine HT.seq ?_
 refine HT.t (eI y5::eR v0::eI (y6.length:Int)::eB (decide (y5<(y6.length:Int)))::[]) ?_ ?_
 exact om h3<|om h0<|op (fun Q U W H D=>zCG (q.ok 0 _ Z).1 (D.g 0 Z) underlying46)<|op (fun Q U W H D=>zAf (D.g 0 Z) (D.g 1 Z))<|oz
 intro R w m n p
 obtain ⟨h0,h3⟩:=k2 n h0 h3
 have h13:=p.r 3 Z
 replace q:=q.fr m
 replace d:=d.fr m.size
 replace j:=j.tr (m.ch noB) fun _ h=>False.elim h
 refine HT.cond (decide (y5<(y6.length:Int))) h13 (fun c7=>?_) (fun c7=>?_)
 have c:=zAK c7 c
 refine HT.skip ?_
 refine HT.seq ?_
 refine HT.block ?_
 refine HT.seq ?_
 obtain ⟨e8,e9,e10,c⟩:=ck3 c
 refine HT.draw (by kernel_rfl) (l:=eR v0::eI y5::eR (vptr v0 (y5.toNat*1))::eF (.rep eStr A (gtD y6 y5))::eR v0::eI y5::eI (y5-1)::eR (vptr v0 ((y5-1).toNat*1))::eF (.rep eStr A (gtD y6 (y5-1)))::eB ((gtD y6 y5)==(gtD y6 (y5-1)))::[]) (tl:=[]) (by kernel_rfl) (by kernel_rfl) (by kernel_rfl) (by kernel_rfl) ?_ ?_
 exact om h0<|om h3<|op (fun Q U W H D=>zAF (q.ok 0 _ Z).1 (D.g 0 Z) (D.g 1 Z) underlying46 sizeOf9 e8 Z)<|op (fun Q U W H D=>(zAs ((q.fr W).ok 0 _ Z).1 (D.g 0 Z) e8 Z (Fld.id _) Z isAgg9 sizeOf9))<|om h0<|om h3<|op (fun Q U W H D=>zAX (D.g 0 Z) Z e9)<|op (fun Q U W H D=>zAF (q.ok 0 _ Z).1 (D.g 0 Z) (D.g 1 Z) underlying46 sizeOf9 e10 Z)<|op (fun Q U W H D=>(zAs ((q.fr W).ok 0 _ Z).1 (D.g 0 Z) e10 Z (Fld.id _) Z isAgg9 sizeOf9))<|op (fun Q U W H D=>zB4 (D.g 0 Z) (D.g 1 Z))<|oz
 intro R w m n p
 obtain ⟨h0,h3⟩:=k2 n h0 h3
 have h25:=p.r 9 Z
 replace q:=q.fr m
 replace d:=d.fr m.size
 replace j:=j.tr (m.ch noB) fun _ h=>False.elim h
 refine HT.cond ((gtD y6 y5)==(gtD y6 (y5-1))) h25 (fun c11=>?_) (fun c11=>?_)
 have c:=zAK c11 c
 refine HT.seq ?_
 obtain ⟨e12,c⟩:=zA4 c
 obtain ⟨x13,q14,c⟩:=zAB c
 refine HT.t (eR v0::eI y5::eR (vsub v0 y5.toNat x13 1)::eR (vsub v0 y5.toNat x13 1)::[]) ?_ ?_
 exact om h0<|om h3<|op (fun Q U W H D=>(q14 ▸ zKY (q.ok 0 _ Z).1 (D.g 0 Z) (D.g 1 Z) underlying46 sizeOf9 e12))<|oa<|oz
 intro R w m n p
 obtain ⟨h0,h3⟩:=k2 n h0 h3
 have h4:=p.r 3 Z
 replace q:=q.fr m
 replace d:=d.fr m.size
 replace j:=j.tr (m.ch noB) fun _ h=>False.elim h
 refine HT.seq ?_
 refine HT.seq ?_
 refine HT.t (eI 1::[]) ?_ ?_
 exact op (fun Q U W H D=>zA0 Z)<|oz
 intro R w m n p
 obtain ⟨h0,h3,h4⟩:=k3 n h0 h3 h4
 have h5:=p.r 0 Z
 replace q:=q.fr m
 replace d:=d.fr m.size
 replace j:=j.tr (m.ch noB) fun _ h=>False.elim h
 obtain ⟨rl15,q16,c⟩:=zA3 c
 replace q16:=q16 Z
 refine HT.cut0 (fun R w=>∃ A:Av,∃ (s17:Int × (List (List UInt8))),rl15=s17∧AvOK A w∧Ch (zAW v0) w0 w∧(∀ b o,A0 b o→A b o)∧IniOK [ob v0 (.vec B0 9 eStr s17.2)] A w∧R 0=v0∧R 3 = .int .i64 s17.1) ?_ ?_
 refine HT.block ?_
 refine HT.loop (fun k R w=>∃ A:Av,∃ (y18:Int) (y19:Int) (y20:List (List UInt8)),zAS fu y5 x13 k y18 y19 y20=some rl15∧AvOK A w∧Ch (zAW v0) w0 w∧(∀ b o,A0 b o→A b o)∧IniOK [ob v0 (.vec B0 9 eStr y20)] A w∧R 0=v0∧R 3 = .int .i64 y18∧R 4=(vsub v0 y5.toNat x13 1)∧R 5 = .int .i64 y19) fu ⟨_,_,_,_,q16,d,j,B,q,h0,h3,h4,h5⟩ ?_
 have hr1:=c;clear c q16
 rintro k R w ⟨A,y18,y19,y20,c,d,j,B,q,h0,h3,h4,h5⟩
 rcases k with _ | k
 cases (show none=some _ from c)
 rw [zAS] at c
 refine HT.seq ?_
 refine HT.seq ?_
 refine HT.t (eI y19::eR (vsub v0 y5.toNat x13 1)::eI (x13:Int)::eB (decide (y19<(x13:Int)))::[]) ?_ ?_
 exact om h5<|om h4<|op (fun Q U W H D=>zKV (q.ok 0 _ Z).1 (D.g 0 Z) underlying46)<|op (fun Q U W H D=>zAf (D.g 0 Z) (D.g 1 Z))<|oz
 intro R w m n p
 obtain ⟨h0,h3,h4,h5⟩:=k4 n h0 h3 h4 h5
 have h32:=p.r 3 Z
 replace q:=q.fr m
 replace d:=d.fr m.size
 replace j:=j.tr (m.ch noB) fun _ h=>False.elim h
 refine HT.cond (decide (y19<(x13:Int))) h32 (fun c21=>?_) (fun c21=>?_)
 have c:=zAK c21 c
 refine HT.skip ?_
 refine HT.seq ?_
 refine HT.block ?_
 refine HT.seq ?_
 obtain ⟨e22,e23,e24,e25,c⟩:=ck4 c
 obtain ⟨e26,e27,e28,c⟩:=ck3 c
 refine HT.draw (by kernel_rfl) (l:=eR (vsub v0 y5.toNat x13 1)::eI y19::eR (vptr v0 ((y5+y19).toNat*1))::eF (.rep eStr A (gtD y20 (y5+y19)))::eR (vsub v0 y5.toNat x13 1)::eI y19::eI (y19-1)::eR (vptr v0 ((y5+(y19-1)).toNat*1))::eF (.rep eStr A (gtD y20 (y5+(y19-1))))::eB (!((gtD y20 (y5+y19))==(gtD y20 (y5+(y19-1)))))::[]) (tl:=[]) (by kernel_rfl) (by kernel_rfl) (by kernel_rfl) (by kernel_rfl) ?_ ?_
 exact om h4<|om h5<|op (fun Q U W H D=>zEF (q.ok 0 _ Z).1 (D.g 0 Z) (D.g 1 Z) underlying46 sizeOf9 e22 e23 e24 Z)<|op (fun Q U W H D=>(zAs ((q.fr W).ok 0 _ Z).1 (D.g 0 Z) e24 Z (Fld.id _) Z isAgg9 sizeOf9))<|om h4<|om h5<|op (fun Q U W H D=>zAX (D.g 0 Z) Z e25)<|op (fun Q U W H D=>zEF (q.ok 0 _ Z).1 (D.g 0 Z) (D.g 1 Z) underlying46 sizeOf9 e26 e27 e28 Z)<|op (fun Q U W H D=>(zAs ((q.fr W).ok 0 _ Z).1 (D.g 0 Z) e28 Z (Fld.id _) Z isAgg9 sizeOf9))<|op (fun Q U W H D=>zFW (D.g 0 Z) (D.g 1 Z))<|oz
 intro R w m n p
 obtain ⟨h0,h3,h4,h5⟩:=k4 n h0 h3 h4 h5
 have h44:=p.r 9 Z
 replace q:=q.fr m
 replace d:=d.fr m.size
 replace j:=j.tr (m.ch noB) fun _ h=>False.elim h
 refine HT.cond (!((gtD y20 (y5+y19))==(gtD y20 (y5+(y19-1))))) h44 (fun c29=>?_) (fun c29=>?_)
 have c:=zAK c29 c
 obtain ⟨e30,e31,e32,e33,c⟩:=ck4 c
 refine HT.sx [ob v0 (.vec B0 9 eStr y20)] (rR v0::rI y18::rR (vsub v0 y5.toNat x13 1)::rI y19::rR (vptr v0 ((y5+y19).toNat*1))::(rF fun A=>.rep eStr A (gtD y20 (y5+y19)))::rR (vptr v0 (y18.toNat*1))::⟨_,true,[0],some (.vec B0 9 eStr (y20.set y18.toNat (gtD y20 (y5+y19)))),false,fun A=>.any⟩::[]) (ur (ur (ur (ur (ur (up (ur (ua (UAll.nil))))))))) q d ?_ ?_
 exact rm h0<|rm h3<|rm h4<|rm h5<|rp (fun V Q U O D=>zEF (q.ok 0 _ Z).1 (D.g 0 Z) (D.g 1 Z) underlying46 sizeOf9 e30 e31 e32 Z)<|rp (fun V Q U O D=>(zAs (O.rd 0 _ Z Z) (D.g 0 Z) e32 Z (Fld.id _) Z isAgg9 sizeOf9))<|rp (fun V Q U O D=>zAF (q.ok 0 _ Z).1 (D.g 0 Z) (D.g 1 Z) underlying46 sizeOf9 e33 Z)<|rc (OblR.took 0 _ _ Z Z Z Z Z fun V Q U O D u hok hav hin hop hds=>by have a0:Q 51=(vptr v0 (y18.toNat*1)):=D.g 0 Z;have a1:Rep eStr V U (Q 50) (gtD y20 (y5+y19)):=D.g 1 Z;obtain rfl:=hin _ Z;exact zBY a1 hok hav a0 e33 Z (FldS.id _) sizeOf9 Z)<|rz
 intro done ρ σ A R w y s
 obtain ⟨h0,h3,h4,h5⟩:=k4 s.rg h0 h3 h4 h5
 have z34:=s.inivR 0 Z
 have z35:=s.on y 8 7 Z Z Z Z Z z34
 replace B:=s.lowK B C K (q.geK (⟨.inr (fun k h=>.inr h),N⟩))
 replace j:Ch (zAW v0) w0 w:=j.tr s.ch (q.geK (⟨.inr (fun k h=>.inr h),N⟩))
 replace q:=s.left y [(8,ob v0 (.vec B0 9 eStr (y20.set y18.toNat (gtD y20 (y5+y19)))))] ⟨Z,Z,z35,Z,Z,N⟩
 replace d:=s.avok
 obtain ⟨e36,c⟩:=zA4 c
 refine HT.t (eI y18::eI (y18+1)::eI (y18+1)::[]) ?_ ?_
 exact om h3<|op (fun Q U W H D=>zAN (D.g 0 Z) Z e36)<|oa<|oz
 intro R w m n p
 obtain ⟨h0,h4,h5⟩:=k3 n h0 h4 h5
 have h3:=p.r 2 Z
 replace q:=q.fr m
 replace d:=d.fr m.size
 replace j:=j.tr (m.ch noB) fun _ h=>False.elim h
 obtain ⟨e37,c⟩:=zA4 c
 refine HT.t (eI y19::eI (y19+1)::eI (y19+1)::[]) ?_ ?_
 exact om h5<|op (fun Q U W H D=>zAN (D.g 0 Z) Z e37)<|oa<|oz
 intro R w m n p
 obtain ⟨h0,h3,h4⟩:=k3 n h0 h3 h4
 have h5:=p.r 2 Z
 replace q:=q.fr m
 replace d:=d.fr m.size
 replace j:=j.tr (m.ch noB) fun _ h=>False.elim h
 exact ei k (And.intro (Nat.lt_succ_self k) ⟨_,_,_,_,c,d,j,B,q,h0,h3,h4,h5⟩)
 have c:=zAL c29 c
 refine HT.skip ?_
 obtain ⟨e38,c⟩:=zA4 c
 refine HT.t (eI y19::eI (y19+1)::eI (y19+1)::[]) ?_ ?_
 exact om h5<|op (fun Q U W H D=>zAN (D.g 0 Z) Z e38)<|oa<|oz
 intro R w m n p
 obtain ⟨h0,h3,h4⟩:=k3 n h0 h3 h4
 have h5:=p.r 2 Z
 replace q:=q.fr m
 replace d:=d.fr m.size
 replace j:=j.tr (m.ch noB) fun _ h=>False.elim h
 exact ei k (And.intro (Nat.lt_succ_self k) ⟨_,_,_,_,c,d,j,B,q,h0,h3,h4,h5⟩)
 have c:=zAL c21 c
 refine HT.exit ?_
 obtain rfl:=si c
 exact ei _ ⟨_,Z,d,j,B,q,h0,h3⟩
 rintro R w ⟨A,s17,es,d,j,B,q,h0,h3⟩
 obtain rfl:=es.symm
 refine HT.seq ?_
 obtain ⟨e39,c⟩:=zA4 c
 obtain ⟨x40,q41,c⟩:=zAB c
 obtain ⟨e42,e43,c⟩:=ck2 c
 refine HT.x [ob v0 (.vec B0 9 eStr s17.2)] (rR v0::rI s17.1::rR (vsub v0 s17.1.toNat x40 1)::⟨_,true,[0],some (.vec B0 9 eStr (s17.2.take s17.1.toNat++List.replicate (s17.2.length-s17.1.toNat) ([]:List UInt8))),false,fun A=>.any⟩::[]) (ur (ur (ur (ua (UAll.nil))))) q d ?_ ?_
 exact rm h0<|rm h3<|rp (fun V Q U O D=>(q41 ▸ zKY (q.ok 0 _ Z).1 (D.g 0 Z) (D.g 1 Z) underlying46 sizeOf9 e39))<|rc (OblR.took 0 _ _ Z Z Z Z Z fun V Q U O D u hok hav hin hop hds=>by have a0:Q 56=(vsub v0 s17.1.toNat x40 1):=D.g 0 Z;obtain rfl:=hin _ Z;exact zLY a0 hok hav underlying46 Z zeroValue9 (fun A w=>(zKr Z (by decide))) e42 e43 Z)<|rz
 intro done ρ σ A R w y s
 obtain ⟨h0,h3⟩:=k2 s.rg h0 h3
 have z44:=s.inivR 0 Z
 have z45:=s.on y 4 3 Z Z Z Z Z z44
 replace B:=s.lowK B C K (q.geK (⟨.inr (fun k h=>.inr h),N⟩))
 replace j:Ch (zAW v0) w0 w:=j.tr s.ch (q.geK (⟨.inr (fun k h=>.inr h),N⟩))
 replace q:=s.left y [(4,ob v0 (.vec B0 9 eStr (s17.2.take s17.1.toNat++List.replicate (s17.2.length-s17.1.toNat) ([]:List UInt8))))] ⟨Z,Z,z45,Z,Z,N⟩
 replace d:=s.avok
 obtain ⟨e46,c⟩:=zA4 c
 refine HT.sx [ob v0 (.vec B0 9 eStr (s17.2.take s17.1.toNat++List.replicate (s17.2.length-s17.1.toNat) ([]:List UInt8)))] (rR v0::rI s17.1::⟨_,true,[0],some (.vec B0 9 eStr (subL (s17.2.take s17.1.toNat++List.replicate (s17.2.length-s17.1.toNat) ([]:List UInt8)) 0 s17.1)),true,fun A=>.any⟩::⟨_,true,[3],some (.vec B0 9 eStr (subL (s17.2.take s17.1.toNat++List.replicate (s17.2.length-s17.1.toNat) ([]:List UInt8)) 0 s17.1)),true,fun A=>.any⟩::[]) (ur (ur (ua (ua (UAll.nil))))) q d ?_ ?_
 exact rm h0<|rm h3<|rc (OblR.took 0 _ _ Z Z Z Z Z fun V Q U O D u hok hav hin hop hds=>by have a0:Q 57=v0:=D.g 0 Z;have a1:Q 58 = .int .i64 s17.1:=D.g 1 Z;exact zK7 (a0.trans (hin _ Z).symm) hok hav a1 underlying46 sizeOf9 e46 Z)<|rc (OblR.took 3 _ _ Z Z Z Z Z fun V Q U O D u hok hav hin hop hds=>by exact zAH (hop _ _ Z Z Z Z).symm hok hav)<|rz
 intro done ρ σ A R w y s
 obtain ⟨u47,e_u47⟩:∃ u,ρ 4=u:=⟨_,Z⟩
 have h2:=s.ov y 4 3 e_u47
 have hK_u47:∀ k,zAW u47 k→w0.heap.size≤k∨(zAW v0) k:=s.geK y 4 Z Z Z e_u47 (q.geK (⟨.inr (fun k h=>.inr h),N⟩)) j.size
 replace B:=s.lowK B C K (q.geK (⟨.inr (fun k h=>.inr h),N⟩))
 replace j:Ch (zAW v0) w0 w:=j.tr s.ch (q.geK (⟨.inr (fun k h=>.inr h),N⟩))
 replace q:=s.left y [(4,ob u47 (.vec B0 9 eStr (subL (s17.2.take s17.1.toNat++List.replicate (s17.2.length-s17.1.toNat) ([]:List UInt8)) 0 s17.1)))] ⟨Z,Z,e_u47,Z,Z,N⟩
 replace d:=s.avok
 obtain ⟨Yg47,g_Yg47⟩:∃ z,z=(subL (s17.2.take s17.1.toNat++List.replicate (s17.2.length-s17.1.toNat) ([]:List UInt8)) 0 s17.1):=⟨_,Z⟩
 rw [← g_Yg47] at q
 try rw [← g_Yg47] at c
 refine HT.ret ?_
 obtain rfl:=si c
 have c:=hr0
 replace c:some _=some _:=c
 obtain rfl:=si c
 exact ⟨.inr Z,[R 2],⟨Z,N⟩,by show Took _ true _ _ _ w0 (R 2) w;rw [h2];exact zGC (fun k h o=>.inr h) j (q.ok 0 _ Z).1 (q.own_ge (⟨.inr hK_u47,N⟩) (i:=0) Z) (fun _ _ _ _ _ h=>h)⟩
 have c:=zAL c11 c
 refine HT.skip ?_
 obtain ⟨e49,c⟩:=zA4 c
 refine HT.t (eI y5::eI (y5+1)::eI (y5+1)::[]) ?_ ?_
 exact om h3<|op (fun Q U W H D=>zAN (D.g 0 Z) Z e49)<|oa<|oz
 intro R w m n p
 replace h0:=k1 n h0
 have h3:=p.r 2 Z
 replace q:=q.fr m
 replace d:=d.fr m.size
 replace j:=j.tr (m.ch noB) fun _ h=>False.elim h
 exact ei k (And.intro (Nat.lt_succ_self k) ⟨_,_,_,c,d,j,B,q,h0,h3⟩)
 have c:=zAL c7 c
 refine HT.exit ?_
 obtain rfl:=si c
 exact ei _ ⟨_,Z,d,j,B,q,h0⟩
 rintro R w ⟨A,s4,rfl,d,j,B,q,h0⟩
 have c:=zEP c
 refine HT.seq ?_
 refine HT.t (eR v0::eR v0::[]) ?_ ?_
 exact om h0<|oa<|oz
 intro R w m n p
 have h2:=p.r 1 Z
 replace q:=q.fr m
 replace d:=d.fr m.size
 replace j:=j.tr (m.ch noB) fun _ h=>False.elim h
 refine HT.ret ?_
 obtain rfl:=si c
 exact ⟨.inr Z,[R 2],⟨Z,N⟩,by show Took _ true _ _ _ w0 (R 2) w;rw [h2];exact zGC (fun k h o=>.inr h) j (q.ok 0 _ Z).1 (q.own_ge (⟨.inr (fun k h=>.inr h),N⟩) (i:=0) Z) (fun _ _ _ _ _ h=>h)⟩
def zCW (fu:Nat) (p0:List (List UInt8)):Option (List (List UInt8)):=
 cl true (zAg fu p0) fun x1=>
 cl true (zHE fu x1) fun x4=>
 cl true (zB0 fu x4) fun x8=>
 some x8
theorem zEn {fu : Nat} {A0 : Av} {p0 : List (List UInt8)} {r : List (List UInt8)} (c : zCW fu p0 = some r) {w : World} {v0 : Value} (d : AvOK A0 w) (h0 : Rep (eSl eStr) A0 w v0 p0) :
 Calls prog 122 #[v0] w fun e w'=>∃ v,e = .returned v∧((Res.vec w.heap.size 9 eStr r).ok (addA A0 v) v w'∧Fr w w'):=by
 unfold zCW at c
 obtain ⟨w0,hw0⟩:∃ w0,w0=w:=⟨_,Z⟩
 have j:Fr w0 w:=hw0 ▸ Fr.refl _
 have C:∀ b o,A0 b o→b<w0.heap.size:=fun b o h=>hw0 ▸ d b o h
 have hA00:AvOK A0 w0:=C
 rw [show w.heap.size=w0.heap.size from hw0 ▸ Z]
 rw [show Fr w=Fr w0 from hw0 ▸ Z]
 clear hw0
 obtain ⟨A,hAe⟩:∃ A,A=A0:=⟨_,Z⟩
 have B:∀ b o,A0 b o→A b o:=fun b o h=>hAe ▸ h
 replace d:AvOK A w:=hAe ▸ d
 have q:IniOK [] A w:=IniOK.nil
 refine zA2 [.tmp 2] func122 ntmps122 (by decide) Z Z (nb Z) ?_
 intro R hR
 have f_v0:Rep (eSl eStr) A w v0 p0:=hAe ▸ h0
 replace h0:R 0=v0:=hR 0 _ Z
 clear hR hAe
 refine HT.su d j (eA::[]) ?_ ?_
 exact op (fun Q U W H D=>zA0 N)<|oz
 intro R w m n p d j
 replace h0:=k1 n h0
 replace f_v0:=f_v0.fr m
 replace q:=q.fr m
 obtain ⟨x1,q2,c⟩:=zA3 c
 refine HT.sx [] (rR v0::⟨_,true,[],some (.vec w0.heap.size 9 eStr x1),true,fun A=>.any⟩::⟨_,true,[1],some (.vec w0.heap.size 9 eStr x1),true,fun A=>.any⟩::[]) (ur (ua (ua (UAll.nil)))) q d ?_ ?_
 exact rm h0<|rc (OblR.made _ Z Z Z Z fun V Q U O D=>by have a0:Q 4=v0:=D.g 0 Z;have ra0:=(f_v0.stp O.stp).eq a0;exact zEi call173 (zBo (q2 Z) O.av ra0) (Nat.le_trans j.size O.ch.size))<|rc (OblR.took 1 _ _ Z Z Z Z Z fun V Q U O D u hok hav hin hop hds=>by exact zAH (hop _ _ Z Z Z Z).symm hok hav)<|rz
 intro done ρ σ A R w y s
 obtain ⟨u3,e_u3⟩:∃ u,ρ 2=u:=⟨_,Z⟩
 have h3:=s.ov y 2 2 e_u3
 obtain ⟨B,j,d⟩:=s.s B C j q N
 replace q:=s.left y [(2,ob u3 (.vec w0.heap.size 9 eStr x1))] ⟨Z,Z,e_u3,Z,Z,N⟩
 obtain ⟨x4,q5,c⟩:=zA3 c
 refine HT.sx [ob u3 (.vec w0.heap.size 9 eStr x1)] (rR u3::⟨_,true,[0],some (.vec w0.heap.size 9 eStr x4),false,fun A=>.any⟩::[]) (ur (ua (UAll.nil))) q d ?_ ?_
 exact rm h3<|rc (OblR.took 0 _ _ Z Z Z Z Z fun V Q U O D u hok hav hin hop hds=>by have a0:Q 6=u3:=D.g 0 Z;have hu0:zAD Q (.tmp 6)=u:=a0.trans (hin _ Z).symm;exact zGz call174 hav (fun _ _ _ _ _ h=>h) (by simp only [List.map,hu0];exact Calls.mono (zHB (q5 Z) (O.av.sub _) (fun b o h=>h.2) (Vec.flat hok (fun _ _ _ _ _ h=>h))) (fun _ _ ⟨v,h1,h2,h3,h4⟩=>⟨v,h1,N,h3,h4⟩)))<|rz
 intro done ρ σ A R w y s
 replace h3:=k1 s.rg h3
 have z6:=s.inivR 0 Z
 have z7:=s.on y 2 1 Z Z Z Z Z z6
 obtain ⟨B,j,d⟩:=s.s B C j q ⟨Z,N⟩
 replace q:=s.left y [(2,ob u3 (.vec w0.heap.size 9 eStr x4))] ⟨Z,Z,z7,Z,Z,N⟩
 obtain ⟨x8,q9,c⟩:=zA3 c
 refine HT.sx [ob u3 (.vec w0.heap.size 9 eStr x4)] (rR u3::⟨_,true,[0],some (.vec w0.heap.size 9 eStr x8),true,fun A=>.any⟩::⟨_,true,[2],some (.vec w0.heap.size 9 eStr x8),true,fun A=>.any⟩::[]) (ur (ua (ua (UAll.nil)))) q d ?_ ?_
 exact rm h3<|rc (OblR.took 0 _ _ Z Z Z Z Z fun V Q U O D u hok hav hin hop hds=>by have a0:Q 8=u3:=D.g 0 Z;have hu0:zAD Q (.tmp 8)=u:=a0.trans (hin _ Z).symm;exact zEh call175 hav (by simp only [List.map,hu0];exact zEB (q9 Z) (O.av.sub _) (fun b o h=>h.2) (Vec.flat hok (fun _ _ _ _ _ h=>h))))<|rc (OblR.took 2 _ _ Z Z Z Z Z fun V Q U O D u hok hav hin hop hds=>by exact zAH (hop _ _ Z Z Z Z).symm hok hav)<|rz
 intro done ρ σ A R w y s
 obtain ⟨u10,e_u10⟩:∃ u,ρ 3=u:=⟨_,Z⟩
 have h2:=s.ov y 3 2 e_u10
 obtain ⟨B,j,d⟩:=s.s B C j q ⟨Z,N⟩
 replace q:=s.left y [(3,ob u10 (.vec w0.heap.size 9 eStr x8))] ⟨Z,Z,e_u10,Z,Z,N⟩
 refine HT.ret ?_
 obtain rfl:=si c
 exact ⟨.inr Z,[R 2],⟨Z,N⟩,(zCT (q.ok 0 _ Z) B h2),j⟩
def zCe (fu:Nat) (p0:List UInt8):Option (List (List UInt8)):=
 cl true (zC2 fu p0) fun x1=>
 cl true (zEQ fu x1) fun x3=>
 cl true (zCW fu x3) fun x5=>
 some x5
theorem zHh {fu : Nat} {A0 : Av} {p0 : List UInt8} {r : List (List UInt8)} (c : zCe fu p0 = some r) {w : World} {v0 : Value} (d : AvOK A0 w) (hG : GTab w) (h0 : Rep eStr A0 w v0 p0) :
 Calls prog 167 #[v0] w fun e w'=>∃ v,e = .returned v∧((Res.vec w.heap.size 9 eStr r).ok (addA A0 v) v w'∧Fr w w'):=by
 unfold zCe at c
 obtain ⟨w0,hw0⟩:∃ w0,w0=w:=⟨_,Z⟩
 have j:Fr w0 w:=hw0 ▸ Fr.refl _
 have C:∀ b o,A0 b o→b<w0.heap.size:=fun b o h=>hw0 ▸ d b o h
 have hA00:AvOK A0 w0:=C
 rw [show w.heap.size=w0.heap.size from hw0 ▸ Z]
 rw [show Fr w=Fr w0 from hw0 ▸ Z]
 have hG0:GTab w0:=hw0 ▸ hG
 clear hw0
 obtain ⟨A,hAe⟩:∃ A,A=A0:=⟨_,Z⟩
 have B:∀ b o,A0 b o→A b o:=fun b o h=>hAe ▸ h
 replace d:AvOK A w:=hAe ▸ d
 have q:IniOK [] A w:=IniOK.nil
 refine zA2 [.tmp 2] func167 ntmps167 (by decide) Z Z (nb Z) ?_
 intro R hR
 have f_v0:Rep eStr A w v0 p0:=hAe ▸ h0
 replace h0:R 0=v0:=hR 0 _ Z
 clear hR hAe
 refine HT.su d j (eA::[]) ?_ ?_
 exact op (fun Q U W H D=>zA0 N)<|oz
 intro R w m n p d j
 replace h0:=k1 n h0
 replace f_v0:=f_v0.fr m
 replace q:=q.fr m
 obtain ⟨x1,q2,c⟩:=zA3 c
 obtain ⟨x3,q4,c⟩:=zA3 c
 obtain ⟨x5,q6,c⟩:=zA3 c
 refine HT.sx [] (rR v0::(rF fun A=>.rep eStr A x1)::(rF fun A=>.rep (eSl eStr) A x3)::⟨_,true,[],some (.vec w0.heap.size 9 eStr x5),true,fun A=>.any⟩::⟨_,true,[3],some (.vec w0.heap.size 9 eStr x5),true,fun A=>.any⟩::[]) (ur (up (up (ua (ua (UAll.nil)))))) q d ?_ ?_
 exact rm h0<|rp (fun V Q U O D=>zA6 call218 (zDp (q2 Z) O.av (hG0.fr (j.tr O.ch (q.ge (N)))) ((f_v0.stp O.stp).eq (D.g 0 Z))))<|rp (fun V Q U O D=>zA6 call217 (zI1 (q4 Z) O.av (D.g 0 Z)))<|rc (OblR.made _ Z Z Z Z fun V Q U O D=>by have a0:Rep (eSl eStr) V U (Q 5) x3:=D.g 0 Z;exact zEi call122 (zEn (q6 Z) O.av a0) (Nat.le_trans j.size O.ch.size))<|rc (OblR.took 3 _ _ Z Z Z Z Z fun V Q U O D u hok hav hin hop hds=>by exact zAH (hop _ _ Z Z Z Z).symm hok hav)<|rz
 intro done ρ σ A R w y s
 obtain ⟨u7,e_u7⟩:∃ u,ρ 4=u:=⟨_,Z⟩
 have h2:=s.ov y 4 4 e_u7
 obtain ⟨B,j,d⟩:=s.s B C j q N
 replace q:=s.left y [(4,ob u7 (.vec w0.heap.size 9 eStr x5))] ⟨Z,Z,e_u7,Z,Z,N⟩
 refine HT.ret ?_
 obtain rfl:=si c
 exact ⟨.inr Z,[R 2],⟨Z,N⟩,(zCT (q.ok 0 _ Z) B h2),j⟩
theorem zEG {fu : Nat} {A0 : Av} {p0 : List UInt8} {r : List (List UInt8)} (c : zCe fu p0 = some r) {w : World} {v0 : Value} (d : AvOK A0 w) (hG : GTab w) (h0 : Rep eStr A0 w v0 p0) :
 Calls prog 167 #[v0] w fun e w'=>∃ v,e = .returned v∧(Rep (eSl eStr) A0 w' v r∧Fr w w'):=by
 refine Calls.mono (zHh c d hG h0) ?_
 rintro e w' ⟨v,he,hv,hf⟩
 exact ⟨v,he,zCD hv (fun b o h=>.inl h) d,hf⟩
def zC9 (fu:Nat) (p0:Int):Option Int:=
 bd ((decide (65≤p0))&&(decide (p0≤90))) fun x1=>
 bif x1 then (
 cl true (zBs fu (IntKind.u8.wrap (p0+32))) fun x4=>
 bif (!x4) then (
 some (-2)
 ) else (
 ck (inR (IntKind.u8.wrap ((IntKind.u8.wrap (p0+32))-97)) sndL.length) <|
 some (gtD sndL (IntKind.u8.wrap ((IntKind.u8.wrap (p0+32))-97)))
 )
 ) else (
 cl true (zBs fu p0) fun x8=>
 bif (!x8) then (
 some (-2)
 ) else (
 ck (inR (IntKind.u8.wrap (p0-97)) sndL.length) <|
 some (gtD sndL (IntKind.u8.wrap (p0-97)))
 )
 )
theorem zEq {fu : Nat} {A : Av} {p0 : Int} {r : Int} (c : zC9 fu p0 = some r) {w : World} {v0 : Value} (d : AvOK A w) (hG : GTab w) (h0 : v0 = .int .u8 p0) :
 Calls prog 248 #[v0] w fun e w'=>∃ v,e = .returned v∧(v = .int .i64 r∧Fr w w'):=by
 unfold zC9 at c
 obtain ⟨w0,hw0⟩:∃ w0,w0=w:=⟨_,Z⟩
 have j:Fr w0 w:=hw0 ▸ Fr.refl _
 rw [show Fr w=Fr w0 from hw0 ▸ Z]
 have hG0:GTab w0:=hw0 ▸ hG
 clear hw0
 refine zA2 [.tmp 2] func248 ntmps248 (by decide) Z Z (nb Z) ?_
 intro R hR
 replace h0:R 0 = .int .u8 p0:=(hR 0 _ Z).trans h0
 clear hR
 refine HT.su d j (eI 0::[]) ?_ ?_
 exact op (fun Q U W H D=>zA0 Z)<|oz
 intro R w m n p d j
 replace h0:=k1 n h0
 refine HT.seq ?_
 refine HT.seq ?_
 obtain ⟨x1,q2,c⟩:=zAB c
 refine HT.u d j (eU p0::eB (decide (65≤p0))::eB (decide (65≤p0))::gU (true&&((decide (65≤p0))==true)) p0::gB (true&&((decide (65≤p0))==true)) (decide (p0≤90))::eB x1::[]) ?_ ?_
 exact om h0<|op (fun Q U W H D=>zDt (D.g 0 Z) Z)<|ov<|gm 2 true h0<|og 2 true (fun G Q U W H D=>zDu (D.h 0 G Z) Z)<|op (fun Q U W H D=>zAC (decide (65≤p0)) (D.g 0 Z) (fun hc=>by have a1:Q 7 = .bool (decide (p0≤90)):=D 1 _ _ _ Z Z Z Z (zAZ Z (zAM hc));show _=Value.bool x1;rw [q2,hc];exact a1) (fun hc=>by show _=Value.bool x1;rw [q2,hc];exact Z))<|oz
 intro R w m n p d j
 replace h0:=k1 n h0
 have h8:=p.r 5 Z
 refine HT.cond x1 h8 (fun c3=>?_) (fun c3=>?_)
 have c:=zAK c3 c
 refine HT.u d j (eU p0::eU (IntKind.u8.wrap (p0+32))::eU (IntKind.u8.wrap (p0+32))::[]) ?_ ?_
 exact om h0<|op (fun Q U W H D=>zJ6 (D.g 0 Z) Z)<|oa<|oz
 intro R w m n p d j
 have h0:=p.r 2 Z
 refine HT.seq ?_
 obtain ⟨x4,q5,c⟩:=zA3 c
 refine HT.su d j (eU (IntKind.u8.wrap (p0+32))::eB x4::eB (!x4)::[]) ?_ ?_
 exact om h0<|op (fun Q U W H D=>zA6 call288 (zDV (q5 Z) (d.fr W.size) (D.g 0 Z)))<|op (fun Q U W H D=>zBh (D.g 0 Z))<|oz
 intro R w m n p d j
 replace h0:=k1 n h0
 have h13:=p.r 2 Z
 refine HT.cond (!x4) h13 (fun c6=>?_) (fun c6=>?_)
 have c:=zAK c6 c
 refine HT.su d j (eI (-2)::[]) ?_ ?_
 exact op (fun Q U W H D=>zA0 Z)<|oz
 intro R w m n p d j
 have h2:=p.r 0 Z
 refine HT.ret ?_
 obtain rfl:=si c
 exact ⟨.inr Z,[R 2],⟨Z,N⟩,h2,j⟩
 have c:=zAL c6 c
 refine HT.skip ?_
 obtain ⟨e7,c⟩:=zA4 c
 refine HT.su d j (eU (IntKind.u8.wrap (p0+32))::eU (IntKind.u8.wrap ((IntKind.u8.wrap (p0+32))-97))::eR (.pointer (some ⟨1,(IntKind.u8.wrap ((IntKind.u8.wrap (p0+32))-97)).toNat,none⟩))::eI (gtD sndL (IntKind.u8.wrap ((IntKind.u8.wrap (p0+32))-97)))::eI (gtD sndL (IntKind.u8.wrap ((IntKind.u8.wrap (p0+32))-97)))::[]) ?_ ?_
 exact om h0<|op (fun Q U W H D=>zJB (D.g 0 Z) Z)<|op (fun Q U W H D=>zGS (D.g 0 Z) underlying247 sizeOf3 e7)<|op (fun Q U W H D=>OpF.int (zAQ ((hG0.fr (j.trans W)).sndAt e7 ((D.g 0 Z))) isAgg3 sizeOf3))<|oa<|oz
 intro R w m n p d j
 have h2:=p.r 4 Z
 refine HT.ret ?_
 obtain rfl:=si c
 exact ⟨.inr Z,[R 2],⟨Z,N⟩,h2,j⟩
 have c:=zAL c3 c
 refine HT.skip ?_
 refine HT.seq ?_
 obtain ⟨x8,q9,c⟩:=zA3 c
 refine HT.su d j (eU p0::eB x8::eB (!x8)::[]) ?_ ?_
 exact om h0<|op (fun Q U W H D=>zA6 call288 (zDV (q9 Z) (d.fr W.size) (D.g 0 Z)))<|op (fun Q U W H D=>zBh (D.g 0 Z))<|oz
 intro R w m n p d j
 replace h0:=k1 n h0
 have h13:=p.r 2 Z
 refine HT.cond (!x8) h13 (fun c10=>?_) (fun c10=>?_)
 have c:=zAK c10 c
 refine HT.su d j (eI (-2)::[]) ?_ ?_
 exact op (fun Q U W H D=>zA0 Z)<|oz
 intro R w m n p d j
 have h2:=p.r 0 Z
 refine HT.ret ?_
 obtain rfl:=si c
 exact ⟨.inr Z,[R 2],⟨Z,N⟩,h2,j⟩
 have c:=zAL c10 c
 refine HT.skip ?_
 obtain ⟨e11,c⟩:=zA4 c
 refine HT.su d j (eU p0::eU (IntKind.u8.wrap (p0-97))::eR (.pointer (some ⟨1,(IntKind.u8.wrap (p0-97)).toNat,none⟩))::eI (gtD sndL (IntKind.u8.wrap (p0-97)))::eI (gtD sndL (IntKind.u8.wrap (p0-97)))::[]) ?_ ?_
 exact om h0<|op (fun Q U W H D=>zJB (D.g 0 Z) Z)<|op (fun Q U W H D=>zGS (D.g 0 Z) underlying247 sizeOf3 e11)<|op (fun Q U W H D=>OpF.int (zAQ ((hG0.fr (j.trans W)).sndAt e11 ((D.g 0 Z))) isAgg3 sizeOf3))<|oa<|oz
 intro R w m n p d j
 have h2:=p.r 4 Z
 refine HT.ret ?_
 obtain rfl:=si c
 exact ⟨.inr Z,[R 2],⟨Z,N⟩,h2,j⟩
def zB5 (fu : Nat) (p0 : List UInt8) : Nat → Int → Int → (List Int) → Option (Ex (List UInt8) (List Int))
 | 0,_,_,_=>none
 | k+1,y14,y15,y16=>
 bif (decide (y15<(p0.length:Int))) then (
 ck (inR y15 p0.length) <|
 cl true (zC9 fu (bAt p0 y15)) fun x19=>
 bif (x19==(-2)) then (
 some (Ex.ret ([]:List UInt8))
 ) else (
 bd ((y15==0) || (decide (x19<0))) fun x23=>
 bif x23 then (
 ck (i64B (y15+1)) <|
 zB5 fu p0 k y14 (y15+1) y16
 ) else (
 bd ((decide (0<x19))&&(x19 != y14)) fun x27=>
 bif x27 then (
 ck (i64B (48+x19)) <|
 ck (zCV (y16.length+([(IntKind.u8.wrap (48+x19))]:List Int).length)) <|
 ck (i64B (y15+1)) <|
 zB5 fu p0 k x19 (y15+1) (y16++([(IntKind.u8.wrap (48+x19))]:List Int))
 ) else (
 ck (i64B (y15+1)) <|
 zB5 fu p0 k x19 (y15+1) y16
 )
 )
 )
 ) else (
 some (Ex.go y16)
 )
def zDf (fu:Nat) (p0:List UInt8):Option (List UInt8):=
 bif (p0==([]:List UInt8)) then (
 some ([]:List UInt8)
 ) else (
 ck (subR 0 1 p0.length) <|
 cl true (zCn fu (subL p0 0 1)) fun x4=>
 ck (zCV x4.length) <|
 ck (inR 0 p0.length) <|
 cl true (zC9 fu (bAt p0 0)) fun x9=>
 cl true (zB5 fu p0 fu x9 0 (bytL x4)) fun rl11=>
 exM rl11 (fun r=>some r) fun s13=>
 ck (zCV ((strB s13)++([48,48,48]:List UInt8)).length) <|
 ck (subR 0 4 ((strB s13)++([48,48,48]:List UInt8)).length) <|
 some (subL ((strB s13)++([48,48,48]:List UInt8)) 0 4)
 )
theorem zHS {fu : Nat} {A0 : Av} {p0 : List UInt8} {r : List UInt8} (c : zDf fu p0 = some r) {w : World} {v0 : Value} (d : AvOK A0 w) (hG : GTab w) (h0 : Rep eStr A0 w v0 p0) :
 Calls prog 214 #[v0] w fun e w'=>∃ v,e = .returned v∧(Rep eStr A0 w' v r∧Fr w w'):=by
 unfold zDf at c
 obtain ⟨w0,hw0⟩:∃ w0,w0=w:=⟨_,Z⟩
 have j:Fr w0 w:=hw0 ▸ Fr.refl _
 have C:∀ b o,A0 b o→b<w0.heap.size:=fun b o h=>hw0 ▸ d b o h
 have hA00:AvOK A0 w0:=C
 rw [show Fr w=Fr w0 from hw0 ▸ Z]
 have hG0:GTab w0:=hw0 ▸ hG
 clear hw0
 obtain ⟨A,hAe⟩:∃ A,A=A0:=⟨_,Z⟩
 have B:∀ b o,A0 b o→A b o:=fun b o h=>hAe ▸ h
 replace d:AvOK A w:=hAe ▸ d
 have q:IniOK [] A w:=IniOK.nil
 refine zA2 [.tmp 2] func214 ntmps214 (by decide) Z Z (nb Z) ?_
 intro R hR
 have f_v0:Rep eStr A w v0 p0:=hAe ▸ h0
 replace h0:R 0=v0:=hR 0 _ Z
 clear hR hAe
 refine HT.su d j (eF (.rep eStr A ([]:List UInt8))::[]) ?_ ?_
 exact op (fun Q U W H D=>zA0 ⟨_,Z,⟨_,Z,Z,by decide⟩⟩)<|oz
 intro R w m n p d j
 replace h0:=k1 n h0
 replace f_v0:=f_v0.fr m
 replace q:=q.fr m
 refine HT.seq ?_
 refine HT.su d j (eR v0::eB (p0==([]:List UInt8))::[]) ?_ ?_
 exact om h0<|op (fun Q U W H D=>zB4 ((f_v0.fr W).eq (D.g 0 Z)) ⟨_,Z,⟨_,Z,Z,by decide⟩⟩)<|oz
 intro R w m n p d j
 replace h0:=k1 n h0
 have h8:=p.r 1 Z
 replace f_v0:=f_v0.fr m
 replace q:=q.fr m
 refine HT.cond (p0==([]:List UInt8)) h8 (fun c1=>?_) (fun c1=>?_)
 have c:=zAK c1 c
 refine HT.su d j (eF (.rep eStr A ([]:List UInt8))::[]) ?_ ?_
 exact op (fun Q U W H D=>zA0 ⟨_,Z,⟨_,Z,Z,by decide⟩⟩)<|oz
 intro R w m n p d j
 obtain ⟨u2,h2,f_u2⟩:∃ u,R 2=u∧Rep eStr A w u ([]:List UInt8):=⟨_,Z,p 0 _ _ Z Z Z⟩
 replace q:=q.fr m
 refine HT.ret ?_
 obtain rfl:=si c
 exact ⟨.inr Z,[R 2],⟨Z,N⟩,(f_u2.eq h2).down B,j⟩
 have c:=zAL c1 c
 refine HT.skip ?_
 obtain ⟨e3,c⟩:=zA4 c
 obtain ⟨x4,q5,c⟩:=zA3 c
 obtain ⟨e6,c⟩:=zA4 c
 refine HT.sx [] (rR v0::(rF fun A=>.rep eStr A (subL p0 0 1))::(rF fun A=>.rep eStr A x4)::⟨_,true,[],some (.vec w0.heap.size 5 (eInt .u8) (bytL x4)),true,fun A=>.any⟩::⟨_,true,[3],some (.vec w0.heap.size 5 (eInt .u8) (bytL x4)),true,fun A=>.any⟩::[]) (ur (up (up (ua (ua (UAll.nil)))))) q d ?_ ?_
 exact rm h0<|rp (fun V Q U O D=>zE4 ((f_v0.stp O.stp).eq (D.g 0 Z)) Z underlying9  e3)<|rp (fun V Q U O D=>zA6 call247 (zEx (q5 Z) O.av (D.g 0 Z)))<|rc (OblR.made _ Z Z Z Z fun V Q U O D=>by have a0:Rep eStr V U (Q 11) x4:=D.g 0 Z;exact zIk a0 underlying9 underlying22 underlying5 Z e6 (Nat.le_trans j.size O.ch.size))<|rc (OblR.took 3 _ _ Z Z Z Z Z fun V Q U O D u hok hav hin hop hds=>by exact zAH (hop _ _ Z Z Z Z).symm hok hav)<|rz
 intro done ρ σ A R w y s
 replace h0:=k1 s.rg h0
 obtain ⟨u7,e_u7⟩:∃ u,ρ 4=u:=⟨_,Z⟩
 have h3:=s.ov y 4 4 e_u7
 replace f_v0:=f_v0.stp s.stp
 obtain ⟨B,j,d⟩:=s.s B C j q N
 replace q:=s.left y [(4,ob u7 (.vec w0.heap.size 5 (eInt .u8) (bytL x4)))] ⟨Z,Z,e_u7,Z,Z,N⟩
 obtain ⟨e8,c⟩:=zA4 c
 obtain ⟨x9,q10,c⟩:=zA3 c
 refine HT.su d j (eR v0::eU (bAt p0 0)::eI x9::eI x9::[]) ?_ ?_
 exact om h0<|op (fun Q U W H D=>zA8 ((f_v0.fr W).eq (D.g 0 Z)) Z underlying9 e8)<|op (fun Q U W H D=>zA6 call248 (zEq (q10 Z) (d.fr W.size) (hG0.fr (j.trans W)) (D.g 0 Z)))<|oa<|oz
 intro R w m n p d j
 obtain ⟨h0,h3⟩:=k2 n h0 h3
 have h4:=p.r 3 Z
 replace f_v0:=f_v0.fr m
 replace q:=q.fr m
 refine HT.seq ?_
 refine HT.su d j (eR v0::eI (p0.length:Int)::eI 0::[]) ?_ ?_
 exact om h0<|op (fun Q U W H D=>zAG ((f_v0.fr W).eq (D.g 0 Z)) underlying9)<|op (fun Q U W H D=>zCE Z)<|oz
 intro R w m n p d j
 obtain ⟨h0,h3,h4⟩:=k3 n h0 h3 h4
 have h17:=p.r 1 Z
 have h18:=p.r 2 Z
 replace f_v0:=f_v0.fr m
 replace q:=q.fr m
 obtain ⟨rl11,q12,c⟩:=zA3 c
 replace q12:=q12 Z
 refine HT.cut0 (fun R w=>∃ A:Av,∃ (s13:(List Int)) (uo_u7:Value),rl11=Ex.go s13∧AvOK A w∧Fr w0 w∧(∀ b o,A0 b o→A b o)∧IniOK [ob uo_u7 (.vec w0.heap.size 5 (eInt .u8) s13)] A w∧R 3=uo_u7) ?_ ?_
 refine HT.block ?_
 refine HT.loop (fun k R w=>∃ A:Av,∃ (y14:Int) (y15:Int) (y16:List Int) (ul_u7:Value),zB5 fu p0 k y14 y15 y16=some rl11∧AvOK A w∧Fr w0 w∧(∀ b o,A0 b o→A b o)∧IniOK [ob ul_u7 (.vec w0.heap.size 5 (eInt .u8) y16)] A w∧R 0=v0∧R 3=ul_u7∧R 4 = .int .i64 y14∧R 17 = .int .i64 (p0.length:Int)∧R 18 = .int .i64 y15∧Rep eStr A w v0 p0) fu ⟨_,_,_,_,u7,q12,d,j,B,q,h0,h3,h4,h17,h18,f_v0⟩ ?_
 have hr0:=c;clear c q12
 rintro k R w ⟨A,y14,y15,y16,ul_u7,c,d,j,B,q,h0,h3,h4,h17,h18,f_v0⟩
 rcases k with _ | k
 cases (show none=some _ from c)
 rw [zB5] at c
 refine HT.su d j (eB (decide (y15<(p0.length:Int)))::[]) ?_ ?_
 exact op (fun Q U W H D=>zAf ((H 18 Z).trans h18) ((H 17 Z).trans h17))<|oz
 intro R w m n p d j
 obtain ⟨h0,h3,h4,h17,h18⟩:=k5 n h0 h3 h4 h17 h18
 have h19:=p.r 0 Z
 replace f_v0:=f_v0.fr m
 replace q:=q.fr m
 refine HT.seq ?_
 refine HT.cond (decide (y15<(p0.length:Int))) h19 (fun c17=>?_) (fun c17=>?_)
 have c:=zAK c17 c
 refine HT.skip ?_
 refine HT.seq ?_
 refine HT.block ?_
 refine HT.su d j (eI y15::eI y15::[]) ?_ ?_
 exact om h18<|oa<|oz
 intro R w m n p d j
 obtain ⟨h0,h3,h4,h17,h18⟩:=k5 n h0 h3 h4 h17 h18
 have h5:=p.r 1 Z
 replace f_v0:=f_v0.fr m
 replace q:=q.fr m
 obtain ⟨e18,c⟩:=zA4 c
 obtain ⟨x19,q20,c⟩:=zA3 c
 refine HT.su d j (eR v0::eI y15::eU (bAt p0 y15)::eI x19::eI x19::[]) ?_ ?_
 exact om h0<|om h5<|op (fun Q U W H D=>zA8 ((f_v0.fr W).eq (D.g 0 Z)) (D.g 1 Z) underlying9 e18)<|op (fun Q U W H D=>zA6 call248 (zEq (q20 Z) (d.fr W.size) (hG0.fr (j.trans W)) (D.g 0 Z)))<|oa<|oz
 intro R w m n p d j
 obtain ⟨h0,h3,h4,h5,h17,h18⟩:=k6 n h0 h3 h4 h5 h17 h18
 have h6:=p.r 4 Z
 replace f_v0:=f_v0.fr m
 replace q:=q.fr m
 refine HT.seq ?_
 refine HT.su d j (eI x19::eB (x19==(-2))::[]) ?_ ?_
 exact om h6<|op (fun Q U W H D=>zBA (D.g 0 Z) Z)<|oz
 intro R w m n p d j
 obtain ⟨h0,h3,h4,h5,h6,h17⟩:=k6 n h0 h3 h4 h5 h6 h17
 replace h18:=k1 n h18
 have h26:=p.r 1 Z
 replace f_v0:=f_v0.fr m
 replace q:=q.fr m
 refine HT.cond (x19==(-2)) h26 (fun c21=>?_) (fun c21=>?_)
 have c:=zAK c21 c
 refine HT.su d j (eF (.rep eStr A ([]:List UInt8))::[]) ?_ ?_
 exact op (fun Q U W H D=>zA0 ⟨_,Z,⟨_,Z,Z,by decide⟩⟩)<|oz
 intro R w m n p d j
 obtain ⟨u22,h2,f_u22⟩:∃ u,R 2=u∧Rep eStr A w u ([]:List UInt8):=⟨_,Z,p 0 _ _ Z Z Z⟩
 replace q:=q.fr m
 replace q:IniOK [] A w:=q.sub [] N
 refine HT.ret ?_
 obtain rfl:=si c
 have c:=hr0
 replace c:some _=some _:=c
 obtain rfl:=si c
 exact ⟨.inr Z,[R 2],⟨Z,N⟩,(f_u22.eq h2).down B,j⟩
 have c:=zAL c21 c
 refine HT.skip ?_
 refine HT.seq ?_
 refine HT.seq ?_
 obtain ⟨x23,q24,c⟩:=zAB c
 refine HT.u d j (eI y15::eB (y15==0)::eB (y15==0)::gI (true&&((y15==0)==false)) x19::gB (true&&((y15==0)==false)) (decide (x19<0))::eB x23::[]) ?_ ?_
 exact om h5<|op (fun Q U W H D=>zBA (D.g 0 Z) Z)<|ov<|gm 2 false h6<|og 2 false (fun G Q U W H D=>zAf (D.h 0 G Z) Z)<|op (fun Q U W H D=>zAC (y15==0) (D.g 0 Z) (fun hc=>by show _=Value.bool x23;rw [q24,hc];exact Z) (fun hc=>by have a2:Q 31 = .bool (decide (x19<0)):=D 1 _ _ _ Z Z Z Z (zAZ Z (zAM hc));show _=Value.bool x23;rw [q24,hc];exact a2))<|oz
 intro R w m n p d j
 obtain ⟨h0,h3,h4,h6,h17,h18⟩:=k6 n h0 h3 h4 h6 h17 h18
 have h32:=p.r 5 Z
 replace f_v0:=f_v0.fr m
 replace q:=q.fr m
 refine HT.cond x23 h32 (fun c25=>?_) (fun c25=>?_)
 have c:=zAK c25 c
 refine HT.exit ?_
 obtain ⟨e26,c⟩:=zA4 c
 refine HT.u d j (eI (y15+1)::eI (y15+1)::[]) ?_ ?_
 exact op (fun Q U W H D=>zAN ((H 18 Z).trans h18) Z e26)<|ov<|oz
 intro R w m n p d j
 obtain ⟨h0,h3,h4,h17⟩:=k4 n h0 h3 h4 h17
 have h18:=p.r 1 Z
 replace f_v0:=f_v0.fr m
 replace q:=q.fr m
 exact ei k (And.intro (Nat.lt_succ_self k) ⟨_,_,_,_,ul_u7,c,d,j,B,q,h0,h3,h4,h17,h18,f_v0⟩)
 have c:=zAL c25 c
 refine HT.skip ?_
 refine HT.seq ?_
 refine HT.seq ?_
 obtain ⟨x27,q28,c⟩:=zAB c
 refine HT.u d j (eI x19::eB (decide (0<x19))::eB (decide (0<x19))::gI (true&&((decide (0<x19))==true)) x19::gI (true&&((decide (0<x19))==true)) y14::gB (true&&((decide (0<x19))==true)) (x19 != y14)::eB x27::[]) ?_ ?_
 exact om h6<|op (fun Q U W H D=>zCM (D.g 0 Z) Z)<|ov<|gm 2 true h6<|gm 2 true h4<|og 2 true (fun G Q U W H D=>zEc (D.h 0 G Z) (D.h 1 G Z))<|op (fun Q U W H D=>zAC (decide (0<x19)) (D.g 0 Z) (fun hc=>by have a1:Q 38 = .bool (x19 != y14):=D 1 _ _ _ Z Z Z Z (zAZ Z (zAM hc));show _=Value.bool x27;rw [q28,hc];exact a1) (fun hc=>by show _=Value.bool x27;rw [q28,hc];exact Z))<|oz
 intro R w m n p d j
 obtain ⟨h0,h3,h6,h17,h18⟩:=k5 n h0 h3 h6 h17 h18
 have h39:=p.r 6 Z
 replace f_v0:=f_v0.fr m
 replace q:=q.fr m
 refine HT.cond x27 h39 (fun c29=>?_) (fun c29=>?_)
 have c:=zAK c29 c
 obtain ⟨e30,e31,c⟩:=ck2 c
 refine HT.x [ob ul_u7 (.vec w0.heap.size 5 (eInt .u8) y16)] (rR ul_u7::rI x19::rI (48+x19)::rU (IntKind.u8.wrap (48+x19))::(rF fun A=>.rep (eSl (eInt .u8)) A ([(IntKind.u8.wrap (48+x19))]:List Int))::⟨_,true,[0],some (.vec w0.heap.size 5 (eInt .u8) (y16++([(IntKind.u8.wrap (48+x19))]:List Int))),true,fun A=>.any⟩::⟨_,true,[6],some (.vec w0.heap.size 5 (eInt .u8) (y16++([(IntKind.u8.wrap (48+x19))]:List Int))),true,fun A=>.any⟩::[]) (ur (ur (ur (ur (up (ua (ua (UAll.nil)))))))) q d ?_ ?_
 exact rm h3<|rm h6<|rp (fun V Q U O D=>zAN Z (D.g 0 Z) e30)<|rp (fun V Q U O D=>zDn (D.g 0 Z) underlying3 underlying5)<|rp (fun V Q U O D=>zBZ [_] (E:=eInt .u8) ⟨(zAe.eq (D.g 0 Z)),N⟩ underlying22 sizeOf5 zeroValue5 Z Z Z O.av)<|rc (OblR.took 0 _ _ Z Z Z Z Z fun V Q U O D u hok hav hin hop hds=>by have a0:Q 40=ul_u7:=D.g 0 Z;have a1:Rep (eSl (eInt .u8)) V U (Q 44) ([(IntKind.u8.wrap (48+x19))]:List Int):=D.g 1 Z;exact zAw (a0.trans (hin _ Z).symm) hok hav (Nat.le_trans j.size O.ch.size) a1 underlying22 el_5 e31)<|rc (OblR.took 6 _ _ Z Z Z Z Z fun V Q U O D u hok hav hin hop hds=>by exact zAH (hop _ _ Z Z Z Z).symm hok hav)<|rz
 intro done ρ σ A R w y s
 obtain ⟨h0,h6,h17,h18⟩:=k4 s.rg h0 h6 h17 h18
 obtain ⟨u32,e_u32⟩:∃ u,ρ 7=u:=⟨_,Z⟩
 have h3:=s.ov y 7 6 e_u32
 replace f_v0:=f_v0.stp s.stp
 obtain ⟨B,j,d⟩:=s.s B C j q ⟨Z,N⟩
 replace q:=s.left y [(7,ob u32 (.vec w0.heap.size 5 (eInt .u8) (y16++([(IntKind.u8.wrap (48+x19))]:List Int))))] ⟨Z,Z,e_u32,Z,Z,N⟩
 refine HT.u d j (eI x19::eI x19::[]) ?_ ?_
 exact om h6<|oa<|oz
 intro R w m n p d j
 obtain ⟨h0,h3,h17,h18⟩:=k4 n h0 h3 h17 h18
 have h4:=p.r 1 Z
 replace f_v0:=f_v0.fr m
 replace q:=q.fr m
 obtain ⟨e33,c⟩:=zA4 c
 refine HT.u d j (eI (y15+1)::eI (y15+1)::[]) ?_ ?_
 exact op (fun Q U W H D=>zAN ((H 18 Z).trans h18) Z e33)<|ov<|oz
 intro R w m n p d j
 obtain ⟨h0,h3,h4,h17⟩:=k4 n h0 h3 h4 h17
 have h18:=p.r 1 Z
 replace f_v0:=f_v0.fr m
 replace q:=q.fr m
 exact ei k (And.intro (Nat.lt_succ_self k) ⟨_,_,_,_,u32,c,d,j,B,q,h0,h3,h4,h17,h18,f_v0⟩)
 have c:=zAL c29 c
 refine HT.skip ?_
 refine HT.u d j (eI x19::eI x19::[]) ?_ ?_
 exact om h6<|oa<|oz
 intro R w m n p d j
 obtain ⟨h0,h3,h17,h18⟩:=k4 n h0 h3 h17 h18
 have h4:=p.r 1 Z
 replace f_v0:=f_v0.fr m
 replace q:=q.fr m
 obtain ⟨e34,c⟩:=zA4 c
 refine HT.u d j (eI (y15+1)::eI (y15+1)::[]) ?_ ?_
 exact op (fun Q U W H D=>zAN ((H 18 Z).trans h18) Z e34)<|ov<|oz
 intro R w m n p d j
 obtain ⟨h0,h3,h4,h17⟩:=k4 n h0 h3 h4 h17
 have h18:=p.r 1 Z
 replace f_v0:=f_v0.fr m
 replace q:=q.fr m
 exact ei k (And.intro (Nat.lt_succ_self k) ⟨_,_,_,_,ul_u7,c,d,j,B,q,h0,h3,h4,h17,h18,f_v0⟩)
 have c:=zAL c17 c
 refine HT.exit ?_
 obtain rfl:=si c
 exact ei _ ⟨_,ul_u7,Z,d,j,B,q,h3⟩
 rintro R w ⟨A,s13,uo_u7,rfl,d,j,B,q,h3⟩
 have c:=zEP c
 obtain ⟨e35,e36,c⟩:=ck2 c
 refine HT.su d j (eR uo_u7::eF (.rep eStr A (strB s13))::eF (.rep eStr A ((strB s13)++([48,48,48]:List UInt8)))::eF (.rep eStr A (subL ((strB s13)++([48,48,48]:List UInt8)) 0 4))::eF (.rep eStr A (subL ((strB s13)++([48,48,48]:List UInt8)) 0 4))::[]) ?_ ?_
 exact om h3<|op (fun Q U W H D=>zBF ((zCD ((q.fr W).ok 0 _ Z).1 B C).eq (D.g 0 Z)) underlying22 underlying5 underlying9)<|op (fun Q U W H D=>zIT (D.g 0 Z) ⟨_,Z,⟨_,Z,Z,by decide⟩⟩ e35)<|op (fun Q U W H D=>zE4 (D.g 0 Z) Z underlying9  e36)<|op (fun Q U W H D=>zA0 (D.g 0 Z))<|oz
 intro R w m n p d j
 obtain ⟨u37,h2,f_u37⟩:∃ u,R 2=u∧Rep eStr A w u (subL ((strB s13)++([48,48,48]:List UInt8)) 0 4):=⟨_,Z,p 4 _ _ Z Z Z⟩
 replace q:=q.fr m
 replace q:IniOK [] A w:=q.sub [] N
 refine HT.ret ?_
 obtain rfl:=si c
 exact ⟨.inr Z,[R 2],⟨Z,N⟩,(f_u37.eq h2).down B,j⟩
def zBC (fu : Nat) (x2 : List (List UInt8)) : Nat → Int → (List (List UInt8)) → Option (List (List UInt8))
 | 0,_,_=>none
 | k+1,y8,y9=>
 bif (decide (y8<(x2.length:Int))) then (
 ck (inR y8 x2.length) <|
 cl true (zDf fu (gtD x2 y8)) fun x13=>
 bif (!(x13==([]:List UInt8))) then (
 ck (zCV (y9.length+([x13]:List (List UInt8)).length)) <|
 ck (i64B (y8+1)) <|
 zBC fu x2 k (y8+1) (y9++([x13]:List (List UInt8)))
 ) else (
 ck (i64B (y8+1)) <|
 zBC fu x2 k (y8+1) y9
 )
 ) else (
 some y9
 )
def zC1 (fu:Nat) (p0:List UInt8):Option (List (List UInt8)):=
 cl true (zCe fu p0) fun x2=>
 cl true (zBC fu x2 fu 0 ([]:List (List UInt8))) fun s7=>
 cl true (zCW fu s7) fun x21=>
 some x21
theorem zGU {fu : Nat} {A0 : Av} {p0 : List UInt8} {r : List (List UInt8)} (c : zC1 fu p0 = some r) {w : World} {v0 : Value} (d : AvOK A0 w) (hG : GTab w) (h0 : Rep eStr A0 w v0 p0) :
 Calls prog 164 #[v0] w fun e w'=>∃ v,e = .returned v∧((Res.vec w.heap.size 9 eStr r).ok (addA A0 v) v w'∧Fr w w'):=by
 unfold zC1 at c
 obtain ⟨w0,hw0⟩:∃ w0,w0=w:=⟨_,Z⟩
 have j:Fr w0 w:=hw0 ▸ Fr.refl _
 have C:∀ b o,A0 b o→b<w0.heap.size:=fun b o h=>hw0 ▸ d b o h
 have hA00:AvOK A0 w0:=C
 rw [show w.heap.size=w0.heap.size from hw0 ▸ Z]
 rw [show Fr w=Fr w0 from hw0 ▸ Z]
 have hG0:GTab w0:=hw0 ▸ hG
 clear hw0
 obtain ⟨A,hAe⟩:∃ A,A=A0:=⟨_,Z⟩
 have B:∀ b o,A0 b o→A b o:=fun b o h=>hAe ▸ h
 replace d:AvOK A w:=hAe ▸ d
 have q:IniOK [] A w:=IniOK.nil
 refine zA2 [.tmp 2] func164 ntmps164 (by decide) Z Z (nb Z) ?_
 intro R hR
 have f_v0:Rep eStr A w v0 p0:=hAe ▸ h0
 replace h0:R 0=v0:=hR 0 _ Z
 clear hR hAe
 refine HT.su d j (eA::[]) ?_ ?_
 exact op (fun Q U W H D=>zA0 N)<|oz
 intro R w m n p d j
 replace h0:=k1 n h0
 replace f_v0:=f_v0.fr m
 replace q:=q.fr m
 refine HT.su d j (eR (.slice none 0 0)::[]) ?_ ?_
 exact op (fun Q U W H D=>zA0 Z)<|oz
 intro R w m n p d j
 replace h0:=k1 n h0
 obtain ⟨u1,n_u1⟩:∃ u,u=Value.slice none 0 0:=⟨_,Z⟩
 have h3:R 3=u1:=(p 0 _ _ Z Z Z).trans n_u1.symm
 replace f_v0:=f_v0.fr m
 replace q:=q.fr m
 replace q:=q.nilcons (u:=u1) n_u1 w0.heap.size 9 eStr
 refine HT.seq ?_
 obtain ⟨x2,q3,c⟩:=zA3 c
 refine HT.su d j (eR v0::eF (.rep (eSl eStr) A x2)::eI (x2.length:Int)::eI 0::[]) ?_ ?_
 exact om h0<|op (fun Q U W H D=>zA6 call167 (zEG (q3 Z) (d.fr W.size) (hG0.fr (j.trans W)) ((f_v0.fr W).eq (D.g 0 Z))))<|op (fun Q U W H D=>zAb (aT:=#[]) (D.g 0 Z) underlying46)<|op (fun Q U W H D=>zCE Z)<|oz
 intro R w m n p d j
 replace h3:=k1 n h3
 obtain ⟨u4,h8,f_u4⟩:∃ u,R 8=u∧Rep (eSl eStr) A w u x2:=⟨_,Z,p 1 _ _ Z Z Z⟩
 have h9:=p.r 2 Z
 have h10:=p.r 3 Z
 replace q:=q.fr m
 obtain ⟨rl5,q6,c⟩:=zA3 c
 replace q6:=q6 Z
 refine HT.cut0 (fun R w=>∃ A:Av,∃ (s7:(List (List UInt8))) (uo_u1:Value),rl5=s7∧AvOK A w∧Fr w0 w∧(∀ b o,A0 b o→A b o)∧IniOK [ob uo_u1 (.vec w0.heap.size 9 eStr s7)] A w∧R 3=uo_u1) ?_ ?_
 refine HT.block ?_
 refine HT.loop (fun k R w=>∃ A:Av,∃ (y8:Int) (y9:List (List UInt8)) (ul_u1:Value),zBC fu x2 k y8 y9=some rl5∧AvOK A w∧Fr w0 w∧(∀ b o,A0 b o→A b o)∧IniOK [ob ul_u1 (.vec w0.heap.size 9 eStr y9)] A w∧R 3=ul_u1∧R 8=u4∧R 9 = .int .i64 (x2.length:Int)∧R 10 = .int .i64 y8∧Rep (eSl eStr) A w u4 x2) fu ⟨_,_,_,u1,q6,d,j,B,q,h3,h8,h9,h10,f_u4⟩ ?_
 have hr0:=c;clear c q6
 rintro k R w ⟨A,y8,y9,ul_u1,c,d,j,B,q,h3,h8,h9,h10,f_u4⟩
 rcases k with _ | k
 cases (show none=some _ from c)
 rw [zBC] at c
 refine HT.su d j (eB (decide (y8<(x2.length:Int)))::[]) ?_ ?_
 exact op (fun Q U W H D=>zAf ((H 10 Z).trans h10) ((H 9 Z).trans h9))<|oz
 intro R w m n p d j
 obtain ⟨h3,h8,h9,h10⟩:=k4 n h3 h8 h9 h10
 have h11:=p.r 0 Z
 replace f_u4:=f_u4.fr m
 replace q:=q.fr m
 refine HT.seq ?_
 refine HT.cond (decide (y8<(x2.length:Int))) h11 (fun c10=>?_) (fun c10=>?_)
 have c:=zAK c10 c
 refine HT.skip ?_
 refine HT.seq ?_
 refine HT.block ?_
 obtain ⟨e11,c⟩:=zA4 c
 refine HT.su d j (eF (.qtr eStr A (gtD x2 y8))::eF (.rep eStr A (gtD x2 y8))::eF (.rep eStr A (gtD x2 y8))::[]) ?_ ?_
 exact op (fun Q U W H D=>zA7 ((f_u4.fr W).eq ((H 8 Z).trans h8)) ((H 10 Z).trans h10) underlying46 sizeOf9 e11)<|op (fun Q U W H D=>(zAQ (QRep.ptr (D.g 0 Z)) isAgg9 sizeOf9))<|op (fun Q U W H D=>zA0 (D.g 0 Z))<|oz
 intro R w m n p d j
 obtain ⟨h3,h8,h9,h10⟩:=k4 n h3 h8 h9 h10
 obtain ⟨u12,h5,f_u12⟩:∃ u,R 5=u∧Rep eStr A w u (gtD x2 y8):=⟨_,Z,p 2 _ _ Z Z Z⟩
 replace f_u4:=f_u4.fr m
 replace q:=q.fr m
 obtain ⟨x13,q14,c⟩:=zA3 c
 refine HT.su d j (eR u12::eF (.rep eStr A x13)::eF (.rep eStr A x13)::[]) ?_ ?_
 exact om h5<|op (fun Q U W H D=>zA6 call214 (zHS (q14 Z) (d.fr W.size) (hG0.fr (j.trans W)) ((f_u12.fr W).eq (D.g 0 Z))))<|op (fun Q U W H D=>zA0 (D.g 0 Z))<|oz
 intro R w m n p d j
 obtain ⟨h3,h8,h9,h10⟩:=k4 n h3 h8 h9 h10
 obtain ⟨u15,h6,f_u15⟩:∃ u,R 6=u∧Rep eStr A w u x13:=⟨_,Z,p 2 _ _ Z Z Z⟩
 replace f_u4:=f_u4.fr m
 replace q:=q.fr m
 refine HT.su d j (eR u15::eB (!(x13==([]:List UInt8)))::[]) ?_ ?_
 exact om h6<|op (fun Q U W H D=>zFW ((f_u15.fr W).eq (D.g 0 Z)) ⟨_,Z,⟨_,Z,Z,by decide⟩⟩)<|oz
 intro R w m n p d j
 obtain ⟨h3,h6,h8,h9,h10⟩:=k5 n h3 h6 h8 h9 h10
 have h17:=p.r 1 Z
 replace f_u15:=f_u15.fr m
 replace f_u4:=f_u4.fr m
 replace q:=q.fr m
 refine HT.cond (!(x13==([]:List UInt8))) h17 (fun c16=>?_) (fun c16=>?_)
 have c:=zAK c16 c
 obtain ⟨e17,c⟩:=zA4 c
 refine HT.x [ob ul_u1 (.vec w0.heap.size 9 eStr y9)] (rR ul_u1::rR u15::(rF fun A=>.rep (eSl eStr) A ([x13]:List (List UInt8)))::⟨_,true,[0],some (.vec w0.heap.size 9 eStr (y9++([x13]:List (List UInt8)))),true,fun A=>.any⟩::⟨_,true,[4],some (.vec w0.heap.size 9 eStr (y9++([x13]:List (List UInt8)))),true,fun A=>.any⟩::[]) (ur (ur (up (ua (ua (UAll.nil)))))) q d ?_ ?_
 exact rm h3<|rm h6<|rp (fun V Q U O D=>zBZ [_] (E:=eStr) ⟨((f_u15.stp O.stp).eq (D.g 0 Z)),N⟩ underlying46 sizeOf9 zeroValue9 Z Z Z O.av)<|rc (OblR.took 0 _ _ Z Z Z Z Z fun V Q U O D u hok hav hin hop hds=>by have a0:Q 18=ul_u1:=D.g 0 Z;have a1:Rep (eSl eStr) V U (Q 20) ([x13]:List (List UInt8)):=D.g 1 Z;exact zAw (a0.trans (hin _ Z).symm) hok hav (Nat.le_trans j.size O.ch.size) a1 underlying46 el_9 e17)<|rc (OblR.took 4 _ _ Z Z Z Z Z fun V Q U O D u hok hav hin hop hds=>by exact zAH (hop _ _ Z Z Z Z).symm hok hav)<|rz
 intro done ρ σ A R w y s
 obtain ⟨h8,h9,h10⟩:=k3 s.rg h8 h9 h10
 obtain ⟨u18,e_u18⟩:∃ u,ρ 5=u:=⟨_,Z⟩
 have h3:=s.ov y 5 4 e_u18
 replace f_u4:=f_u4.stp s.stp
 obtain ⟨B,j,d⟩:=s.s B C j q ⟨Z,N⟩
 replace q:=s.left y [(5,ob u18 (.vec w0.heap.size 9 eStr (y9++([x13]:List (List UInt8)))))] ⟨Z,Z,e_u18,Z,Z,N⟩
 obtain ⟨e19,c⟩:=zA4 c
 refine HT.u d j (eI (y8+1)::eI (y8+1)::[]) ?_ ?_
 exact op (fun Q U W H D=>zAN ((H 10 Z).trans h10) Z e19)<|ov<|oz
 intro R w m n p d j
 obtain ⟨h3,h8,h9⟩:=k3 n h3 h8 h9
 have h10:=p.r 1 Z
 replace f_u4:=f_u4.fr m
 replace q:=q.fr m
 exact ei k (And.intro (Nat.lt_succ_self k) ⟨_,_,_,u18,c,d,j,B,q,h3,h8,h9,h10,f_u4⟩)
 have c:=zAL c16 c
 refine HT.skip ?_
 obtain ⟨e20,c⟩:=zA4 c
 refine HT.u d j (eI (y8+1)::eI (y8+1)::[]) ?_ ?_
 exact op (fun Q U W H D=>zAN ((H 10 Z).trans h10) Z e20)<|ov<|oz
 intro R w m n p d j
 obtain ⟨h3,h8,h9⟩:=k3 n h3 h8 h9
 have h10:=p.r 1 Z
 replace f_u4:=f_u4.fr m
 replace q:=q.fr m
 exact ei k (And.intro (Nat.lt_succ_self k) ⟨_,_,_,ul_u1,c,d,j,B,q,h3,h8,h9,h10,f_u4⟩)
 have c:=zAL c10 c
 refine HT.exit ?_
 obtain rfl:=si c
 exact ei _ ⟨_,ul_u1,Z,d,j,B,q,h3⟩
 rintro R w ⟨A,s7,uo_u1,es,d,j,B,q,h3⟩
 obtain rfl:=es.symm
 obtain ⟨x21,q22,c⟩:=zA3 c
 refine HT.sx [ob uo_u1 (.vec w0.heap.size 9 eStr s7)] (rR uo_u1::⟨_,true,[],some (.vec w0.heap.size 9 eStr x21),true,fun A=>.any⟩::⟨_,true,[2],some (.vec w0.heap.size 9 eStr x21),true,fun A=>.any⟩::[]) (ur (ua (ua (UAll.nil)))) q d ?_ ?_
 exact rm h3<|rc (OblR.made _ Z Z Z Z fun V Q U O D=>by have a0:Q 23=uo_u1:=D.g 0 Z;have ra0:=(zCD (O.rd 0 _ Z Z) (O.low' B C (q.ge (⟨Z,N⟩))) C).eq a0;exact zIV call122 (zEn (q22 Z) (hA00.fr ((Nat.le_trans j.size O.ch.size))) ra0) (Nat.le_trans j.size O.ch.size) (O.low' B C (q.ge (⟨Z,N⟩))) (fun _ _ _ _ _ h=>h))<|rc (OblR.took 2 _ _ Z Z Z Z Z fun V Q U O D u hok hav hin hop hds=>by exact zAH (hop _ _ Z Z Z Z).symm hok hav)<|rz
 intro done ρ σ A R w y s
 have z23:=s.inivR 0 Z
 obtain ⟨u24,e_u24⟩:∃ u,ρ 3=u:=⟨_,Z⟩
 have h2:=s.ov y 3 2 e_u24
 obtain ⟨B,j,d⟩:=s.s B C j q ⟨Z,N⟩
 replace q:=s.left y [(3,ob u24 (.vec w0.heap.size 9 eStr x21))] ⟨Z,Z,e_u24,Z,Z,N⟩
 refine HT.ret ?_
 obtain rfl:=si c
 exact ⟨.inr Z,[R 2],⟨Z,N⟩,(zCT (q.ok 0 _ Z) B h2),j⟩
theorem zEa {fu : Nat} {A0 : Av} {p0 : List UInt8} {r : List (List UInt8)} (c : zC1 fu p0 = some r) {w : World} {v0 : Value} (d : AvOK A0 w) (hG : GTab w) (h0 : Rep eStr A0 w v0 p0) :
 Calls prog 164 #[v0] w fun e w'=>∃ v,e = .returned v∧(Rep (eSl eStr) A0 w' v r∧Fr w w'):=by
 refine Calls.mono (zGU c d hG h0) ?_
 rintro e w' ⟨v,he,hv,hf⟩
 exact ⟨v,he,zCD hv (fun b o h=>.inl h) d,hf⟩
def zAz (fu : Nat) (p0 : List UInt8) : Nat → Int → (List Int) → Option (List Int)
 | 0,_,_=>none
 | k+1,y5,y6=>
 bif (decide (y5<(p0.length:Int))) then (
 ck (inR y5 p0.length) <|
 cl true (zCF fu (bAt p0 y5)) fun x9=>
 bif x9 then (
 ck (inR y5 p0.length) <|
 ck (zCV (y6.length+([(bAt p0 y5)]:List Int).length)) <|
 ck (i64B (y5+1)) <|
 zAz fu p0 k (y5+1) (y6++([(bAt p0 y5)]:List Int))
 ) else (
 ck (i64B (y5+1)) <|
 zAz fu p0 k (y5+1) y6
 )
 ) else (
 some y6
 )
def zCs (fu:Nat) (p0:List UInt8):Option (List UInt8):=
 cl true (zAz fu p0 fu 0 ([]:List Int)) fun s4=>
 some (strB s4)
theorem zEz {fu : Nat} {A0 : Av} {p0 : List UInt8} {r : List UInt8} (c : zCs fu p0 = some r) {w : World} {v0 : Value} (d : AvOK A0 w) (h0 : Rep eStr A0 w v0 p0) :
 Calls prog 165 #[v0] w fun e w'=>∃ v,e = .returned v∧(Rep eStr A0 w' v r∧Fr w w'):=by
 unfold zCs at c
 obtain ⟨w0,hw0⟩:∃ w0,w0=w:=⟨_,Z⟩
 have j:Fr w0 w:=hw0 ▸ Fr.refl _
 have C:∀ b o,A0 b o→b<w0.heap.size:=fun b o h=>hw0 ▸ d b o h
 have hA00:AvOK A0 w0:=C
 rw [show Fr w=Fr w0 from hw0 ▸ Z]
 clear hw0
 obtain ⟨A,hAe⟩:∃ A,A=A0:=⟨_,Z⟩
 have B:∀ b o,A0 b o→A b o:=fun b o h=>hAe ▸ h
 replace d:AvOK A w:=hAe ▸ d
 have q:IniOK [] A w:=IniOK.nil
 refine zA2 [.tmp 2] func165 ntmps165 (by decide) Z Z (nb Z) ?_
 intro R hR
 have f_v0:Rep eStr A w v0 p0:=hAe ▸ h0
 replace h0:R 0=v0:=hR 0 _ Z
 clear hR hAe
 refine HT.su d j (eF (.rep eStr A ([]:List UInt8))::[]) ?_ ?_
 exact op (fun Q U W H D=>zA0 ⟨_,Z,⟨_,Z,Z,by decide⟩⟩)<|oz
 intro R w m n p d j
 replace h0:=k1 n h0
 replace f_v0:=f_v0.fr m
 replace q:=q.fr m
 refine HT.su d j (eR (.slice none 0 0)::[]) ?_ ?_
 exact op (fun Q U W H D=>zA0 Z)<|oz
 intro R w m n p d j
 replace h0:=k1 n h0
 obtain ⟨u1,n_u1⟩:∃ u,u=Value.slice none 0 0:=⟨_,Z⟩
 have h3:R 3=u1:=(p 0 _ _ Z Z Z).trans n_u1.symm
 replace f_v0:=f_v0.fr m
 replace q:=q.fr m
 replace q:=q.nilcons (u:=u1) n_u1 w0.heap.size 5 (eInt .u8)
 refine HT.seq ?_
 refine HT.su d j (eR v0::eI (p0.length:Int)::eI 0::[]) ?_ ?_
 exact om h0<|op (fun Q U W H D=>zAG ((f_v0.fr W).eq (D.g 0 Z)) underlying9)<|op (fun Q U W H D=>zCE Z)<|oz
 intro R w m n p d j
 obtain ⟨h0,h3⟩:=k2 n h0 h3
 have h6:=p.r 1 Z
 have h7:=p.r 2 Z
 replace f_v0:=f_v0.fr m
 replace q:=q.fr m
 obtain ⟨rl2,q3,c⟩:=zA3 c
 replace q3:=q3 Z
 refine HT.cut0 (fun R w=>∃ A:Av,∃ (s4:(List Int)) (uo_u1:Value),rl2=s4∧AvOK A w∧Fr w0 w∧(∀ b o,A0 b o→A b o)∧IniOK [ob uo_u1 (.vec w0.heap.size 5 (eInt .u8) s4)] A w∧R 3=uo_u1) ?_ ?_
 refine HT.block ?_
 refine HT.loop (fun k R w=>∃ A:Av,∃ (y5:Int) (y6:List Int) (ul_u1:Value),zAz fu p0 k y5 y6=some rl2∧AvOK A w∧Fr w0 w∧(∀ b o,A0 b o→A b o)∧IniOK [ob ul_u1 (.vec w0.heap.size 5 (eInt .u8) y6)] A w∧R 0=v0∧R 3=ul_u1∧R 6 = .int .i64 (p0.length:Int)∧R 7 = .int .i64 y5∧Rep eStr A w v0 p0) fu ⟨_,_,_,u1,q3,d,j,B,q,h0,h3,h6,h7,f_v0⟩ ?_
 have hr0:=c;clear c q3
 rintro k R w ⟨A,y5,y6,ul_u1,c,d,j,B,q,h0,h3,h6,h7,f_v0⟩
 rcases k with _ | k
 cases (show none=some _ from c)
 rw [zAz] at c
 refine HT.su d j (eB (decide (y5<(p0.length:Int)))::[]) ?_ ?_
 exact op (fun Q U W H D=>zAf ((H 7 Z).trans h7) ((H 6 Z).trans h6))<|oz
 intro R w m n p d j
 obtain ⟨h0,h3,h6,h7⟩:=k4 n h0 h3 h6 h7
 have h8:=p.r 0 Z
 replace f_v0:=f_v0.fr m
 replace q:=q.fr m
 refine HT.seq ?_
 refine HT.cond (decide (y5<(p0.length:Int))) h8 (fun c7=>?_) (fun c7=>?_)
 have c:=zAK c7 c
 refine HT.skip ?_
 refine HT.seq ?_
 refine HT.block ?_
 refine HT.su d j (eI y5::eI y5::[]) ?_ ?_
 exact om h7<|oa<|oz
 intro R w m n p d j
 obtain ⟨h0,h3,h6,h7⟩:=k4 n h0 h3 h6 h7
 have h4:=p.r 1 Z
 replace f_v0:=f_v0.fr m
 replace q:=q.fr m
 obtain ⟨e8,c⟩:=zA4 c
 obtain ⟨x9,q10,c⟩:=zA3 c
 refine HT.su d j (eR v0::eI y5::eU (bAt p0 y5)::eB x9::[]) ?_ ?_
 exact om h0<|om h4<|op (fun Q U W H D=>zA8 ((f_v0.fr W).eq (D.g 0 Z)) (D.g 1 Z) underlying9 e8)<|op (fun Q U W H D=>zA6 call215 (zEH (q10 Z) (d.fr W.size) (D.g 0 Z)))<|oz
 intro R w m n p d j
 obtain ⟨h0,h3,h4,h6,h7⟩:=k5 n h0 h3 h4 h6 h7
 have h13:=p.r 3 Z
 replace f_v0:=f_v0.fr m
 replace q:=q.fr m
 refine HT.cond x9 h13 (fun c11=>?_) (fun c11=>?_)
 have c:=zAK c11 c
 obtain ⟨e12,e13,c⟩:=ck2 c
 refine HT.x [ob ul_u1 (.vec w0.heap.size 5 (eInt .u8) y6)] (rR ul_u1::rR v0::rI y5::rU (bAt p0 y5)::(rF fun A=>.rep (eSl (eInt .u8)) A ([(bAt p0 y5)]:List Int))::⟨_,true,[0],some (.vec w0.heap.size 5 (eInt .u8) (y6++([(bAt p0 y5)]:List Int))),true,fun A=>.any⟩::⟨_,true,[6],some (.vec w0.heap.size 5 (eInt .u8) (y6++([(bAt p0 y5)]:List Int))),true,fun A=>.any⟩::[]) (ur (ur (ur (ur (up (ua (ua (UAll.nil)))))))) q d ?_ ?_
 exact rm h3<|rm h0<|rm h4<|rp (fun V Q U O D=>zA8 ((f_v0.stp O.stp).eq (D.g 0 Z)) (D.g 1 Z) underlying9 e12)<|rp (fun V Q U O D=>zBZ [_] (E:=eInt .u8) ⟨(zAe.eq (D.g 0 Z)),N⟩ underlying22 sizeOf5 zeroValue5 Z Z Z O.av)<|rc (OblR.took 0 _ _ Z Z Z Z Z fun V Q U O D u hok hav hin hop hds=>by have a0:Q 14=ul_u1:=D.g 0 Z;have a1:Rep (eSl (eInt .u8)) V U (Q 18) ([(bAt p0 y5)]:List Int):=D.g 1 Z;exact zAw (a0.trans (hin _ Z).symm) hok hav (Nat.le_trans j.size O.ch.size) a1 underlying22 el_5 e13)<|rc (OblR.took 6 _ _ Z Z Z Z Z fun V Q U O D u hok hav hin hop hds=>by exact zAH (hop _ _ Z Z Z Z).symm hok hav)<|rz
 intro done ρ σ A R w y s
 obtain ⟨h0,h6,h7⟩:=k3 s.rg h0 h6 h7
 obtain ⟨u14,e_u14⟩:∃ u,ρ 7=u:=⟨_,Z⟩
 have h3:=s.ov y 7 6 e_u14
 replace f_v0:=f_v0.stp s.stp
 obtain ⟨B,j,d⟩:=s.s B C j q ⟨Z,N⟩
 replace q:=s.left y [(7,ob u14 (.vec w0.heap.size 5 (eInt .u8) (y6++([(bAt p0 y5)]:List Int))))] ⟨Z,Z,e_u14,Z,Z,N⟩
 obtain ⟨e15,c⟩:=zA4 c
 refine HT.u d j (eI (y5+1)::eI (y5+1)::[]) ?_ ?_
 exact op (fun Q U W H D=>zAN ((H 7 Z).trans h7) Z e15)<|ov<|oz
 intro R w m n p d j
 obtain ⟨h0,h3,h6⟩:=k3 n h0 h3 h6
 have h7:=p.r 1 Z
 replace f_v0:=f_v0.fr m
 replace q:=q.fr m
 exact ei k (And.intro (Nat.lt_succ_self k) ⟨_,_,_,u14,c,d,j,B,q,h0,h3,h6,h7,f_v0⟩)
 have c:=zAL c11 c
 refine HT.skip ?_
 obtain ⟨e16,c⟩:=zA4 c
 refine HT.u d j (eI (y5+1)::eI (y5+1)::[]) ?_ ?_
 exact op (fun Q U W H D=>zAN ((H 7 Z).trans h7) Z e16)<|ov<|oz
 intro R w m n p d j
 obtain ⟨h0,h3,h6⟩:=k3 n h0 h3 h6
 have h7:=p.r 1 Z
 replace f_v0:=f_v0.fr m
 replace q:=q.fr m
 exact ei k (And.intro (Nat.lt_succ_self k) ⟨_,_,_,ul_u1,c,d,j,B,q,h0,h3,h6,h7,f_v0⟩)
 have c:=zAL c7 c
 refine HT.exit ?_
 obtain rfl:=si c
 exact ei _ ⟨_,ul_u1,Z,d,j,B,q,h3⟩
 rintro R w ⟨A,s4,uo_u1,es,d,j,B,q,h3⟩
 obtain rfl:=es.symm
 refine HT.su d j (eR uo_u1::eF (.rep eStr A (strB s4))::eF (.rep eStr A (strB s4))::[]) ?_ ?_
 exact om h3<|op (fun Q U W H D=>zBF ((zCD ((q.fr W).ok 0 _ Z).1 B C).eq (D.g 0 Z)) underlying22 underlying5 underlying9)<|op (fun Q U W H D=>zA0 (D.g 0 Z))<|oz
 intro R w m n p d j
 obtain ⟨u17,h2,f_u17⟩:∃ u,R 2=u∧Rep eStr A w u (strB s4):=⟨_,Z,p 2 _ _ Z Z Z⟩
 replace q:=q.fr m
 replace q:IniOK [] A w:=q.sub [] N
 refine HT.ret ?_
 obtain rfl:=si c
 exact ⟨.inr Z,[R 2],⟨Z,N⟩,(f_u17.eq h2).down B,j⟩
def zCZ (fu:Nat) (p0:Int):Option (List UInt8):=
 cl true (zMN fu p0) fun x1=>
 some x1
theorem zGf {fu : Nat} {A : Av} {p0 : Int} {r : List UInt8} (c : zCZ fu p0 = some r) {w : World} {v0 : Value} (d : AvOK A w) (hG : GTab w) (h0 : v0 = .int .i64 p0) :
 Calls prog 86 #[v0] w fun e w'=>∃ v,e = .returned v∧(Rep eStr A w' v r∧Fr w w'):=by
 unfold zCZ at c
 obtain ⟨w0,hw0⟩:∃ w0,w0=w:=⟨_,Z⟩
 have j:Fr w0 w:=hw0 ▸ Fr.refl _
 rw [show Fr w=Fr w0 from hw0 ▸ Z]
 have hG0:GTab w0:=hw0 ▸ hG
 clear hw0
 refine zA2 [.tmp 2] func86 ntmps86 (by decide) Z Z (nb Z) ?_
 intro R hR
 replace h0:R 0 = .int .i64 p0:=(hR 0 _ Z).trans h0
 clear hR
 refine HT.su d j (eF (.rep eStr A ([]:List UInt8))::[]) ?_ ?_
 exact op (fun Q U W H D=>zA0 ⟨_,Z,⟨_,Z,Z,by decide⟩⟩)<|oz
 intro R w m n p d j
 replace h0:=k1 n h0
 obtain ⟨x1,q2,c⟩:=zA3 c
 refine HT.su d j (eI p0::eF (.rep eStr A x1)::eF (.rep eStr A x1)::[]) ?_ ?_
 exact om h0<|op (fun Q U W H D=>zA6 call155 (zM7 (q2 Z) (d.fr W.size) (hG0.fr (j.trans W)) (D.g 0 Z)))<|op (fun Q U W H D=>zA0 (D.g 0 Z))<|oz
 intro R w m n p d j
 obtain ⟨u3,h2,f_u3⟩:∃ u,R 2=u∧Rep eStr A w u x1:=⟨_,Z,p 2 _ _ Z Z Z⟩
 refine HT.ret ?_
 obtain rfl:=si c
 exact ⟨.inr Z,[R 2],⟨Z,N⟩,(f_u3.eq h2),j⟩
def zDM (fu:Nat) (p0:List UInt8):Option (Int × Bool):=
 cl true (zMP fu p0) fun x1=>
 cl (true&&(x1.2==false)) (zCZ fu x1.1) fun x4=>
 bd (x1.2 || (!(x4==p0))) fun x6=>
 cl (true&&(x6==false)) (zB9 fu x1.1 (-999999999) 999999999) fun x8=>
 bd (x6 || (!x8)) fun x10=>
 bif x10 then (
 some (0,false)
 ) else (
 some (x1.1,true)
 )
theorem zH6 {fu : Nat} {A : Av} {p0 : List UInt8} {r : Int × Bool} (c : zDM fu p0 = some r) {w : World} {v0 : Value} (d : AvOK A w) (hG : GTab w) (h0 : Rep eStr A w v0 p0) :
 Calls prog 216 #[v0] w fun e w'=>∃ v,e = .returned v∧((∃ a b,v = .tuple #[a,b]∧a = .int .i64 r.1∧b = .bool r.2)∧Fr w w'):=by
 unfold zDM at c
 obtain ⟨w0,hw0⟩:∃ w0,w0=w:=⟨_,Z⟩
 have j:Fr w0 w:=hw0 ▸ Fr.refl _
 rw [show Fr w=Fr w0 from hw0 ▸ Z]
 have hG0:GTab w0:=hw0 ▸ hG
 clear hw0
 refine zA2 [.tmp 2,.tmp 3] func216 ntmps216 (by decide) Z Z (nb Z) ?_
 intro R hR
 have f_v0:=h0
 replace h0:R 0=v0:=hR 0 _ Z
 clear hR
 refine HT.su d j (eI 0::eB false::[]) ?_ ?_
 exact op (fun Q U W H D=>zA0 Z)<|op (fun Q U W H D=>zA0 Z)<|oz
 intro R w m n p d j
 replace h0:=k1 n h0
 replace f_v0:=f_v0.fr m
 obtain ⟨x1,q2,c⟩:=zA3 c
 refine HT.su d j (eR v0::eF (.tup2 (.raw (.int .i64 x1.1)) (.rep eErr A x1.2))::eF (.tup2 (.raw (.int .i64 x1.1)) (.rep eErr A x1.2))::eI x1.1::eF (.rep eErr A x1.2)::eI x1.1::eF (.rep eErr A x1.2)::[]) ?_ ?_
 exact om h0<|op (fun Q U W H D=>zA6 call249 (zMr (q2 Z) (d.fr W.size) (hG0.fr (j.trans W)) ((f_v0.fr W).eq (D.g 0 Z))))<|op (fun Q U W H D=>zCE (D.g 0 Z))<|op (fun Q U W H D=>zFV (D.g 0 Z))<|op (fun Q U W H D=>zFP (D.g 0 Z))<|oa<|op (fun Q U W H D=>zA0 (D.g 0 Z))<|oz
 intro R w m n p d j
 replace h0:=k1 n h0
 have h4:=p.r 5 Z
 obtain ⟨u3,h5,f_u3⟩:∃ u,R 5=u∧Rep eErr A w u x1.2:=⟨_,Z,p 6 _ _ Z Z Z⟩
 replace f_v0:=f_v0.fr m
 refine HT.seq ?_
 refine HT.seq ?_
 obtain ⟨x4,q5,c⟩:=zA3 c
 obtain ⟨x6,q7,c⟩:=zAB c
 obtain ⟨x8,q9,c⟩:=zA3 c
 obtain ⟨x10,q11,c⟩:=zAB c
 refine HT.u d j (eR u3::eB x1.2::eB x1.2::gI (true&&(x1.2==false)) x1.1::gF (true&&(x1.2==false)) (.rep eStr A x4)::gR (true&&(x1.2==false)) v0::gB (true&&(x1.2==false)) (!(x4==p0))::eB x6::eB x6::gI (true&&(x6==false)) x1.1::gB (true&&(x6==false)) x8::gB (true&&(x6==false)) (!x8)::eB x10::[]) ?_ ?_
 exact om h5<|op (fun Q U W H D=>zLh ((f_u3.fr W).eq (D.g 0 Z)) (by kernel_rfl))<|ov<|gm 2 false h4<|og 2 false (fun G Q U W H D=>zA6 call86 (zGf (q5 G) (d.fr W.size) (hG0.fr (j.trans W)) (D.h 0 G Z)))<|gm 2 false h0<|og 2 false (fun G Q U W H D=>zFW (D.h 0 G Z) ((f_v0.fr W).eq (D.h 1 G Z)))<|op (fun Q U W H D=>zAC x1.2 (D.g 0 Z) (fun hc=>by show _=Value.bool x6;rw [q7,hc];exact Z) (fun hc=>by have a2:Q 17 = .bool (!(x4==p0)):=D 1 _ _ _ Z Z Z Z (zAZ Z (zAM hc));show _=Value.bool x6;rw [q7,hc];exact a2))<|ov<|gm 8 false h4<|og 8 false (fun G Q U W H D=>zA6 call94 (zBO (q9 G) (d.fr W.size) (D.h 0 G Z) Z Z))<|og 8 false (fun G Q U W H D=>zBh (D.h 0 G Z))<|op (fun Q U W H D=>zAC x6 (D.g 0 Z) (fun hc=>by show _=Value.bool x10;rw [q11,hc];exact Z) (fun hc=>by have a2:Q 22 = .bool (!x8):=D 1 _ _ _ Z Z Z Z (zAZ Z (zAM hc));show _=Value.bool x10;rw [q11,hc];exact a2))<|oz
 intro R w m n p d j
 replace h4:=k1 n h4
 have h23:=p.r 12 Z
 refine HT.cond x10 h23 (fun c12=>?_) (fun c12=>?_)
 have c:=zAK c12 c
 refine HT.su d j (eI 0::eB false::[]) ?_ ?_
 exact op (fun Q U W H D=>zA0 Z)<|op (fun Q U W H D=>zA0 Z)<|oz
 intro R w m n p d j
 have h2:=p.r 0 Z
 have h3:=p.r 1 Z
 refine HT.ret ?_
 obtain rfl:=si c
 exact ⟨.inr Z,[R 2,R 3],⟨Z,⟨Z,N⟩⟩,⟨_,_,Z,h2,h3⟩,j⟩
 have c:=zAL c12 c
 refine HT.skip ?_
 refine HT.su d j (eI x1.1::eI x1.1::eB true::[]) ?_ ?_
 exact om h4<|oa<|op (fun Q U W H D=>zA0 Z)<|oz
 intro R w m n p d j
 have h2:=p.r 1 Z
 have h3:=p.r 2 Z
 refine HT.ret ?_
 obtain rfl:=si c
 exact ⟨.inr Z,[R 2,R 3],⟨Z,⟨Z,N⟩⟩,⟨_,_,Z,h2,h3⟩,j⟩
def zBP (fu:Nat) (p0:List UInt8):Option Int:=
 cl true (zDM fu p0) fun x1=>
 cl (true&&(x1.2==true)) (zB9 fu x1.1 1000 9999) fun x3=>
 bd (x1.2&&x3) fun x5=>
 bif x5 then (
 some x1.1
 ) else (
 some 0
 )
theorem zEl {fu : Nat} {A : Av} {p0 : List UInt8} {r : Int} (c : zBP fu p0 = some r) {w : World} {v0 : Value} (d : AvOK A w) (hG : GTab w) (h0 : Rep eStr A w v0 p0) :
 Calls prog 166 #[v0] w fun e w'=>∃ v,e = .returned v∧(v = .int .i64 r∧Fr w w'):=by
 unfold zBP at c
 obtain ⟨w0,hw0⟩:∃ w0,w0=w:=⟨_,Z⟩
 have j:Fr w0 w:=hw0 ▸ Fr.refl _
 rw [show Fr w=Fr w0 from hw0 ▸ Z]
 have hG0:GTab w0:=hw0 ▸ hG
 clear hw0
 refine zA2 [.tmp 2] func166 ntmps166 (by decide) Z Z (nb Z) ?_
 intro R hR
 have f_v0:=h0
 replace h0:R 0=v0:=hR 0 _ Z
 clear hR
 refine HT.su d j (eI 0::[]) ?_ ?_
 exact op (fun Q U W H D=>zA0 Z)<|oz
 intro R w m n p d j
 replace h0:=k1 n h0
 replace f_v0:=f_v0.fr m
 refine HT.seq ?_
 obtain ⟨x1,q2,c⟩:=zA3 c
 refine HT.su d j (eR v0::eF (.tup2 (.raw (.int .i64 x1.1)) (.raw (.bool x1.2)))::eF (.tup2 (.raw (.int .i64 x1.1)) (.raw (.bool x1.2)))::eI x1.1::eB x1.2::eI x1.1::eB x1.2::[]) ?_ ?_
 exact om h0<|op (fun Q U W H D=>zA6 call216 (zH6 (q2 Z) (d.fr W.size) (hG0.fr (j.trans W)) ((f_v0.fr W).eq (D.g 0 Z))))<|op (fun Q U W H D=>zCE (D.g 0 Z))<|op (fun Q U W H D=>zFV (D.g 0 Z))<|op (fun Q U W H D=>zFP (D.g 0 Z))<|oa<|oa<|oz
 intro R w m n p d j
 have h3:=p.r 5 Z
 have h4:=p.r 6 Z
 refine HT.seq ?_
 obtain ⟨x3,q4,c⟩:=zA3 c
 obtain ⟨x5,q6,c⟩:=zAB c
 refine HT.u d j (eB x1.2::eB x1.2::gI (true&&(x1.2==true)) x1.1::gB (true&&(x1.2==true)) x3::eB x5::[]) ?_ ?_
 exact om h4<|ov<|gm 1 true h3<|og 1 true (fun G Q U W H D=>zA6 call94 (zBO (q4 G) (d.fr W.size) (D.h 0 G Z) Z Z))<|op (fun Q U W H D=>zAC x1.2 (D.g 0 Z) (fun hc=>by have a1:Q 13 = .bool x3:=D 1 _ _ _ Z Z Z Z (zAZ Z (zAM hc));show _=Value.bool x5;rw [q6,hc];exact a1) (fun hc=>by show _=Value.bool x5;rw [q6,hc];exact Z))<|oz
 intro R w m n p d j
 replace h3:=k1 n h3
 have h14:=p.r 4 Z
 refine HT.cond x5 h14 (fun c7=>?_) (fun c7=>?_)
 have c:=zAK c7 c
 refine HT.su d j (eI x1.1::eI x1.1::[]) ?_ ?_
 exact om h3<|oa<|oz
 intro R w m n p d j
 have h2:=p.r 1 Z
 refine HT.ret ?_
 obtain rfl:=si c
 exact ⟨.inr Z,[R 2],⟨Z,N⟩,h2,j⟩
 have c:=zAL c7 c
 refine HT.skip ?_
 refine HT.su d j (eI 0::[]) ?_ ?_
 exact op (fun Q U W H D=>zA0 Z)<|oz
 intro R w m n p d j
 have h2:=p.r 0 Z
 refine HT.ret ?_
 obtain rfl:=si c
 exact ⟨.inr Z,[R 2],⟨Z,N⟩,h2,j⟩
end Go.Proofs.YtcodfkieaoomnaaGreatDoor
namespace Go.Proofs.YtcodfkieaoomnaaGreatDoor
open Go.RowKit
set_option linter.unusedVariables false
open _root_.Go.Proofs.Tryz
set_option maxRecDepth 100000
set_option maxHeartbeats 4000000
def zBR (fu : Nat) (p0 : List (List UInt8)) (p1 : List (List UInt8)) : Nat → Int → Option (Ex Bool Unit)
 | 0,_=>none
 | k+1,y5=>
 bif (decide (y5<(p0.length:Int))) then (
 ck (inR y5 p0.length) <|
 ck (inR y5 p1.length) <|
 bif (!((gtD p0 y5)==(gtD p1 y5))) then (
 some (Ex.ret false)
 ) else (
 ck (i64B (y5+1)) <|
 zBR fu p0 p1 k (y5+1)
 )
 ) else (
 some (Ex.go ())
 )
def zD6 (fu:Nat) (p0:List (List UInt8)) (p1:List (List UInt8)):Option Bool:=
 bif ((p0.length:Int) != (p1.length:Int)) then (
 some false
 ) else (
 cl true (zBR fu p0 p1 fu 0) fun rl2=>
 exM rl2 (fun r=>some r) fun s4=>
 some true
 )
theorem zGb {fu : Nat} {A : Av} {p0 : List (List UInt8)} {p1 : List (List UInt8)} {r : Bool} (c : zD6 fu p0 p1 = some r) {w : World} {v0 : Value} {v1 : Value} (d : AvOK A w) (h0 : Rep (eSl eStr) A w v0 p0) (h1 : Rep (eSl eStr) A w v1 p1) :
 Calls prog 35 #[v0,v1] w fun e w'=>∃ v,e = .returned v∧(v = .bool r∧Fr w w'):=by
 unfold zD6 at c
 obtain ⟨w0,hw0⟩:∃ w0,w0=w:=⟨_,Z⟩
 have j:Fr w0 w:=hw0 ▸ Fr.refl _
 rw [show Fr w=Fr w0 from hw0 ▸ Z]
 clear hw0
 refine zA2 [.tmp 4] func35 ntmps35 (by decide) Z Z (nb Z) ?_
 intro R hR
 have f_v0:=h0
 replace h0:R 0=v0:=hR 0 _ Z
 have f_v1:=h1
 replace h1:R 1=v1:=hR 1 _ Z
 clear hR
 refine HT.su d j (eB false::[]) ?_ ?_
 exact op (fun Q U W H D=>zA0 Z)<|oz
 intro R w m n p d j
 obtain ⟨h0,h1⟩:=k2 n h0 h1
 replace f_v0:=f_v0.fr m
 replace f_v1:=f_v1.fr m
 refine HT.seq ?_
 refine HT.su d j (eR v0::eI (p0.length:Int)::eR v1::eI (p1.length:Int)::eB ((p0.length:Int) != (p1.length:Int))::[]) ?_ ?_
 exact om h0<|op (fun Q U W H D=>zAb (aT:=#[]) ((f_v0.fr W).eq (D.g 0 Z)) underlying46)<|om h1<|op (fun Q U W H D=>zAb (aT:=#[]) ((f_v1.fr W).eq (D.g 0 Z)) underlying46)<|op (fun Q U W H D=>zEc (D.g 0 Z) (D.g 1 Z))<|oz
 intro R w m n p d j
 obtain ⟨h0,h1⟩:=k2 n h0 h1
 have h10:=p.r 4 Z
 replace f_v0:=f_v0.fr m
 replace f_v1:=f_v1.fr m
 refine HT.cond ((p0.length:Int) != (p1.length:Int)) h10 (fun c1=>?_) (fun c1=>?_)
 have c:=zAK c1 c
 refine HT.su d j (eB false::[]) ?_ ?_
 exact op (fun Q U W H D=>zA0 Z)<|oz
 intro R w m n p d j
 have h4:=p.r 0 Z
 refine HT.ret ?_
 obtain rfl:=si c
 exact ⟨.inr Z,[R 4],⟨Z,N⟩,h4,j⟩
 have c:=zAL c1 c
 refine HT.skip ?_
 refine HT.seq ?_
 refine HT.su d j (eI 0::[]) ?_ ?_
 exact op (fun Q U W H D=>zA0 Z)<|oz
 intro R w m n p d j
 obtain ⟨h0,h1⟩:=k2 n h0 h1
 have h5:=p.r 0 Z
 replace f_v0:=f_v0.fr m
 replace f_v1:=f_v1.fr m
 obtain ⟨rl2,q3,c⟩:=zA3 c
 replace q3:=q3 Z
 refine HT.cut0 (fun R w=>∃ (s4:Unit),rl2=Ex.go s4∧AvOK A w∧Fr w0 w) ?_ ?_
 refine HT.block ?_
 refine HT.loop (fun k R w=>∃ (y5:Int),zBR fu p0 p1 k y5=some rl2∧AvOK A w∧Fr w0 w∧R 0=v0∧R 1=v1∧R 5 = .int .i64 y5∧Rep (eSl eStr) A w v0 p0∧Rep (eSl eStr) A w v1 p1) fu ⟨_,q3,d,j,h0,h1,h5,f_v0,f_v1⟩ ?_
 have hr0:=c;clear c q3
 rintro k R w ⟨y5,c,d,j,h0,h1,h5,f_v0,f_v1⟩
 rcases k with _ | k
 cases (show none=some _ from c)
 rw [zBR] at c
 refine HT.seq ?_
 refine HT.su d j (eI y5::eR v0::eI (p0.length:Int)::eB (decide (y5<(p0.length:Int)))::[]) ?_ ?_
 exact om h5<|om h0<|op (fun Q U W H D=>zAb (aT:=#[]) ((f_v0.fr W).eq (D.g 0 Z)) underlying46)<|op (fun Q U W H D=>zAf (D.g 0 Z) (D.g 1 Z))<|oz
 intro R w m n p d j
 obtain ⟨h0,h1,h5⟩:=k3 n h0 h1 h5
 have h14:=p.r 3 Z
 replace f_v0:=f_v0.fr m
 replace f_v1:=f_v1.fr m
 refine HT.cond (decide (y5<(p0.length:Int))) h14 (fun c6=>?_) (fun c6=>?_)
 have c:=zAK c6 c
 refine HT.skip ?_
 refine HT.seq ?_
 refine HT.block ?_
 refine HT.seq ?_
 obtain ⟨e7,e8,c⟩:=ck2 c
 refine HT.draw (by kernel_rfl) (l:=eR v0::eI y5::eF (.qtr eStr A (gtD p0 y5))::eF (.rep eStr A (gtD p0 y5))::eR v1::eI y5::eF (.qtr eStr A (gtD p1 y5))::eF (.rep eStr A (gtD p1 y5))::eB (!((gtD p0 y5)==(gtD p1 y5)))::[]) (tl:=[]) (by kernel_rfl) (by kernel_rfl) (by kernel_rfl) (by kernel_rfl) ?_ ?_
 exact om h0<|om h5<|op (fun Q U W H D=>zA7 ((f_v0.fr W).eq (D.g 0 Z)) (D.g 1 Z) underlying46 sizeOf9 e7)<|op (fun Q U W H D=>(zAQ (QRep.ptr (D.g 0 Z)) isAgg9 sizeOf9))<|om h1<|om h5<|op (fun Q U W H D=>zA7 ((f_v1.fr W).eq (D.g 0 Z)) (D.g 1 Z) underlying46 sizeOf9 e8)<|op (fun Q U W H D=>(zAQ (QRep.ptr (D.g 0 Z)) isAgg9 sizeOf9))<|op (fun Q U W H D=>zFW (D.g 0 Z) (D.g 1 Z))<|oz
 intro R w m n p
 obtain ⟨h0,h1,h5⟩:=k3 n h0 h1 h5
 have h25:=p.r 8 Z
 replace f_v0:=f_v0.fr m
 replace f_v1:=f_v1.fr m
 replace d:=d.fr m.size
 replace j:=j.trans m
 refine HT.cond (!((gtD p0 y5)==(gtD p1 y5))) h25 (fun c9=>?_) (fun c9=>?_)
 have c:=zAK c9 c
 refine HT.su d j (eB false::[]) ?_ ?_
 exact op (fun Q U W H D=>zA0 Z)<|oz
 intro R w m n p d j
 have h4:=p.r 0 Z
 refine HT.ret ?_
 obtain rfl:=si c
 have c:=hr0
 replace c:some _=some _:=c
 obtain rfl:=si c
 exact ⟨.inr Z,[R 4],⟨Z,N⟩,h4,j⟩
 have c:=zAL c9 c
 refine HT.skip ?_
 obtain ⟨e10,c⟩:=zA4 c
 refine HT.u d j (eI y5::eI (y5+1)::eI (y5+1)::[]) ?_ ?_
 exact om h5<|op (fun Q U W H D=>zAN (D.g 0 Z) Z e10)<|oa<|oz
 intro R w m n p d j
 obtain ⟨h0,h1⟩:=k2 n h0 h1
 have h5:=p.r 2 Z
 replace f_v0:=f_v0.fr m
 replace f_v1:=f_v1.fr m
 exact ei k (And.intro (Nat.lt_succ_self k) ⟨_,c,d,j,h0,h1,h5,f_v0,f_v1⟩)
 have c:=zAL c6 c
 refine HT.exit ?_
 obtain rfl:=si c
 exact ei _ ⟨Z,d,j⟩
 rintro R w ⟨s4,rfl,d,j⟩
 have c:=zEP c
 refine HT.su d j (eB true::[]) ?_ ?_
 exact op (fun Q U W H D=>zA0 Z)<|oz
 intro R w m n p d j
 have h4:=p.r 0 Z
 refine HT.ret ?_
 obtain rfl:=si c
 exact ⟨.inr Z,[R 4],⟨Z,N⟩,h4,j⟩
def zBv (fu:Nat) (p0:zAA) (p1:zAA):Option Bool:=
 bif (p0.1 != p1.1) then (
 some false
 ) else (
 bif (p0.2.1 != p1.2.1) then (
 some false
 ) else (
 bif (p0.2.2.1 != p1.2.2.1) then (
 some false
 ) else (
 cl true (zD6 fu p0.2.2.2 p1.2.2.2) fun x6=>
 bif (!x6) then (
 some false
 ) else (
 some true
 )
 )
 )
 )
theorem zEy {fu : Nat} {A0 : Av} {p0 : zAA} {p1 : zAA} {r : Bool} (c : zBv fu p0 p1 = some r) {w : World} {v0 : Value} {v1 : Value} (d : AvOK A0 w) (h0 : Rep zA1 A0 w v0 p0) (h1 : Rep zA1 A0 w v1 p1) :
 Calls prog 36 #[v0,v1] w fun e w'=>∃ v,e = .returned v∧(v = .bool r∧Fr w w'):=by
 unfold zBv at c
 obtain ⟨w0,hw0⟩:∃ w0,w0=w:=⟨_,Z⟩
 have j:Fr w0 w:=hw0 ▸ Fr.refl _
 have C:∀ b o,A0 b o→b<w0.heap.size:=fun b o h=>hw0 ▸ d b o h
 have hA00:AvOK A0 w0:=C
 rw [show Fr w=Fr w0 from hw0 ▸ Z]
 clear hw0
 obtain ⟨A,hAe⟩:∃ A,A=A0:=⟨_,Z⟩
 have B:∀ b o,A0 b o→A b o:=fun b o h=>hAe ▸ h
 replace d:AvOK A w:=hAe ▸ d
 have q:IniOK [] A w:=IniOK.nil
 refine zA2 [.tmp 4] func36 ntmps36 (by decide) Z Z (nb Z) ?_
 intro R hR
 have f_v0:Rep zA1 A w v0 p0:=hAe ▸ h0
 replace h0:R 0=v0:=hR 0 _ Z
 have f_v1:Rep zA1 A w v1 p1:=hAe ▸ h1
 replace h1:R 1=v1:=hR 1 _ Z
 clear hR hAe
 refine HT.sx [] (⟨_,true,[],some (.box w0.heap.size 51 zA1 p0),true,fun A=>.any⟩::⟨_,true,[],some (.box w0.heap.size 51 zA1 p1),true,fun A=>.any⟩::rB false::[]) (ua (ua (ur (UAll.nil)))) q d ?_ ?_
 exact rc (OblR.made _ Z Z Z Z fun V Q U O D=>by have a0:Q 0=v0:=(O.old 0 Z).trans h0;have ra0:=(f_v0.stp O.stp).eq a0;exact zDE ra0 (Nat.le_trans j.size O.ch.size))<|rc (OblR.made _ Z Z Z Z fun V Q U O D=>by have a0:Q 1=v1:=(O.old 1 Z).trans h1;have ra0:=(f_v1.stp O.stp).eq a0;exact zDE ra0 (Nat.le_trans j.size O.ch.size))<|rp (fun V Q U O D=>zA0 Z)<|rz
 intro done ρ σ A R w y s
 obtain ⟨b2_0,e_b2_0⟩:=s.boxv y 0 Z Z
 have h2:=s.ov y 0 0 e_b2_0
 obtain ⟨b3_1,e_b3_1⟩:=s.boxv y 1 Z Z
 have h3:=s.ov y 1 1 e_b3_1
 obtain ⟨B,j,d⟩:=s.s B C j q N
 replace q:=s.left y [(0,ob (.pointer (some ⟨b2_0,0,none⟩)) (.box w0.heap.size 51 zA1 p0)),(1,ob (.pointer (some ⟨b3_1,0,none⟩)) (.box w0.heap.size 51 zA1 p1))] ⟨Z,Z,e_b2_0,Z,Z,⟨Z,Z,e_b3_1,Z,Z,N⟩⟩
 refine HT.seq ?_
 refine HT.su d j (eR (.pointer (some ⟨b2_0,0,none⟩))::eI p0.1::eR (.pointer (some ⟨b3_1,0,none⟩))::eI p1.1::eB (p0.1 != p1.1)::[]) ?_ ?_
 exact op (fun Q U W H D=>zA9 ((H 2 Z).trans h2) zI3 sizeOf3 (by decide) Z)<|op (fun Q U W H D=>OpF.int (zAE ((q.fr W).ok 0 _ Z).1 (D.g 0 Z) zD5 Z isAgg3 sizeOf3))<|op (fun Q U W H D=>zA9 ((H 3 Z).trans h3) zI3 sizeOf3 (by decide) Z)<|op (fun Q U W H D=>OpF.int (zAE ((q.fr W).ok 1 _ Z).1 (D.g 0 Z) zD5 Z isAgg3 sizeOf3))<|op (fun Q U W H D=>zEc (D.g 0 Z) (D.g 1 Z))<|oz
 intro R w m n p d j
 obtain ⟨h2,h3⟩:=k2 n h2 h3
 have h9:=p.r 4 Z
 replace q:=q.fr m
 refine HT.cond (p0.1 != p1.1) h9 (fun c3=>?_) (fun c3=>?_)
 have c:=zAK c3 c
 refine HT.su d j (eB false::[]) ?_ ?_
 exact op (fun Q U W H D=>zA0 Z)<|oz
 intro R w m n p d j
 have h4:=p.r 0 Z
 replace q:=q.fr m
 replace q:IniOK [] A w:=q.sub [] N
 refine HT.ret ?_
 obtain rfl:=si c
 exact ⟨.inr Z,[R 4],⟨Z,N⟩,h4,j⟩
 have c:=zAL c3 c
 refine HT.skip ?_
 refine HT.seq ?_
 refine HT.su d j (eR (.pointer (some ⟨b2_0,1,none⟩))::eI p0.2.1::eR (.pointer (some ⟨b3_1,1,none⟩))::eI p1.2.1::eB (p0.2.1 != p1.2.1)::[]) ?_ ?_
 exact op (fun Q U W H D=>zA9 ((H 2 Z).trans h2) zIF sizeOf3 (by decide) Z)<|op (fun Q U W H D=>OpF.int (zAE ((q.fr W).ok 0 _ Z).1 (D.g 0 Z) zD7 Z isAgg3 sizeOf3))<|op (fun Q U W H D=>zA9 ((H 3 Z).trans h3) zIF sizeOf3 (by decide) Z)<|op (fun Q U W H D=>OpF.int (zAE ((q.fr W).ok 1 _ Z).1 (D.g 0 Z) zD7 Z isAgg3 sizeOf3))<|op (fun Q U W H D=>zEc (D.g 0 Z) (D.g 1 Z))<|oz
 intro R w m n p d j
 obtain ⟨h2,h3⟩:=k2 n h2 h3
 have h14:=p.r 4 Z
 replace q:=q.fr m
 refine HT.cond (p0.2.1 != p1.2.1) h14 (fun c4=>?_) (fun c4=>?_)
 have c:=zAK c4 c
 refine HT.su d j (eB false::[]) ?_ ?_
 exact op (fun Q U W H D=>zA0 Z)<|oz
 intro R w m n p d j
 have h4:=p.r 0 Z
 replace q:=q.fr m
 replace q:IniOK [] A w:=q.sub [] N
 refine HT.ret ?_
 obtain rfl:=si c
 exact ⟨.inr Z,[R 4],⟨Z,N⟩,h4,j⟩
 have c:=zAL c4 c
 refine HT.skip ?_
 refine HT.seq ?_
 refine HT.su d j (eR (.pointer (some ⟨b2_0,2,none⟩))::eI p0.2.2.1::eR (.pointer (some ⟨b3_1,2,none⟩))::eI p1.2.2.1::eB (p0.2.2.1 != p1.2.2.1)::[]) ?_ ?_
 exact op (fun Q U W H D=>zA9 ((H 2 Z).trans h2) zHp sizeOf3 (by decide) Z)<|op (fun Q U W H D=>OpF.int (zAE ((q.fr W).ok 0 _ Z).1 (D.g 0 Z) zD9 Z isAgg3 sizeOf3))<|op (fun Q U W H D=>zA9 ((H 3 Z).trans h3) zHp sizeOf3 (by decide) Z)<|op (fun Q U W H D=>OpF.int (zAE ((q.fr W).ok 1 _ Z).1 (D.g 0 Z) zD9 Z isAgg3 sizeOf3))<|op (fun Q U W H D=>zEc (D.g 0 Z) (D.g 1 Z))<|oz
 intro R w m n p d j
 obtain ⟨h2,h3⟩:=k2 n h2 h3
 have h19:=p.r 4 Z
 replace q:=q.fr m
 refine HT.cond (p0.2.2.1 != p1.2.2.1) h19 (fun c5=>?_) (fun c5=>?_)
 have c:=zAK c5 c
 refine HT.su d j (eB false::[]) ?_ ?_
 exact op (fun Q U W H D=>zA0 Z)<|oz
 intro R w m n p d j
 have h4:=p.r 0 Z
 replace q:=q.fr m
 replace q:IniOK [] A w:=q.sub [] N
 refine HT.ret ?_
 obtain rfl:=si c
 exact ⟨.inr Z,[R 4],⟨Z,N⟩,h4,j⟩
 have c:=zAL c5 c
 refine HT.skip ?_
 refine HT.seq ?_
 obtain ⟨x6,q7,c⟩:=zA3 c
 refine HT.su d j (eR (.pointer (some ⟨b2_0,3,none⟩))::eF (.rep (eSl eStr) A p0.2.2.2)::eR (.pointer (some ⟨b3_1,3,none⟩))::eF (.rep (eSl eStr) A p1.2.2.2)::eB x6::eB (!x6)::[]) ?_ ?_
 exact op (fun Q U W H D=>zA9 ((H 2 Z).trans h2) zCR sizeOf46 (by decide) Z)<|op (fun Q U W H D=>(zAE ((q.fr W).ok 0 _ Z).1 (D.g 0 Z) zAO Z isAgg46 sizeOf46))<|op (fun Q U W H D=>zA9 ((H 3 Z).trans h3) zCR sizeOf46 (by decide) Z)<|op (fun Q U W H D=>(zAE ((q.fr W).ok 1 _ Z).1 (D.g 0 Z) zAO Z isAgg46 sizeOf46))<|op (fun Q U W H D=>zA6 call35 (zGb (q7 Z) (d.fr W.size) (D.g 0 Z) (D.g 1 Z)))<|op (fun Q U W H D=>zBh (D.g 0 Z))<|oz
 intro R w m n p d j
 have h25:=p.r 5 Z
 replace q:=q.fr m
 replace q:IniOK [] A w:=q.sub [] N
 refine HT.cond (!x6) h25 (fun c8=>?_) (fun c8=>?_)
 have c:=zAK c8 c
 refine HT.su d j (eB false::[]) ?_ ?_
 exact op (fun Q U W H D=>zA0 Z)<|oz
 intro R w m n p d j
 have h4:=p.r 0 Z
 replace q:=q.fr m
 refine HT.ret ?_
 obtain rfl:=si c
 exact ⟨.inr Z,[R 4],⟨Z,N⟩,h4,j⟩
 have c:=zAL c8 c
 refine HT.skip ?_
 refine HT.su d j (eB true::[]) ?_ ?_
 exact op (fun Q U W H D=>zA0 Z)<|oz
 intro R w m n p d j
 have h4:=p.r 0 Z
 replace q:=q.fr m
 refine HT.ret ?_
 obtain rfl:=si c
 exact ⟨.inr Z,[R 4],⟨Z,N⟩,h4,j⟩
def zBN (fu : Nat) : Nat → Int → (List UInt8) → Option (List UInt8)
 | 0,_,_=>none
 | k+1,y7,y8=>
 bif (decide (0<y7)) then (
 ck ((10:Int) != 0) <|
 ck (i64B (48+(y7.tmod 10))) <|
 ck (zCV ((strB ([(IntKind.u8.wrap (48+(y7.tmod 10)))]:List Int))++y8).length) <|
 ck ((10:Int) != 0) <|
 ck (i64B (y7.tdiv 10)) <|
 zBN fu k (y7.tdiv 10) ((strB ([(IntKind.u8.wrap (48+(y7.tmod 10)))]:List Int))++y8)
 ) else (
 some y8
 )
def zCt (fu:Nat) (p0:Int):Option (List UInt8):=
 bif (decide (p0≤0)) then (
 some ([109,48]:List UInt8)
 ) else (
 cl true (zBN fu fu p0 ([]:List UInt8)) fun s6=>
 ck (zCV (([109]:List UInt8)++s6).length) <|
 some (([109]:List UInt8)++s6)
 )
theorem zH8 {fu : Nat} {A : Av} {p0 : Int} {r : List UInt8} (c : zCt fu p0 = some r) {w : World} {v0 : Value} (d : AvOK A w) (h0 : v0 = .int .i64 p0) :
 Calls prog 115 #[v0] w fun e w'=>∃ v,e = .returned v∧(Rep eStr A w' v r∧Fr w w'):=by
 unfold zCt at c
 obtain ⟨w0,hw0⟩:∃ w0,w0=w:=⟨_,Z⟩
 have j:Fr w0 w:=hw0 ▸ Fr.refl _
 rw [show Fr w=Fr w0 from hw0 ▸ Z]
 clear hw0
 refine zA2 [.tmp 2] func115 ntmps115 (by decide) Z Z (nb Z) ?_
 intro R hR
 replace h0:R 0 = .int .i64 p0:=(hR 0 _ Z).trans h0
 clear hR
 refine HT.su d j (eF (.rep eStr A ([]:List UInt8))::[]) ?_ ?_
 exact op (fun Q U W H D=>zA0 ⟨_,Z,⟨_,Z,Z,by decide⟩⟩)<|oz
 intro R w m n p d j
 replace h0:=k1 n h0
 refine HT.seq ?_
 refine HT.su d j (eI p0::eB (decide (p0≤0))::[]) ?_ ?_
 exact om h0<|op (fun Q U W H D=>zDu (D.g 0 Z) Z)<|oz
 intro R w m n p d j
 replace h0:=k1 n h0
 have h5:=p.r 1 Z
 refine HT.cond (decide (p0≤0)) h5 (fun c1=>?_) (fun c1=>?_)
 have c:=zAK c1 c
 refine HT.su d j (eF (.rep eStr A ([109,48]:List UInt8))::[]) ?_ ?_
 exact op (fun Q U W H D=>zA0 ⟨_,Z,⟨_,Z,Z,by decide⟩⟩)<|oz
 intro R w m n p d j
 obtain ⟨u2,h2,f_u2⟩:∃ u,R 2=u∧Rep eStr A w u ([109,48]:List UInt8):=⟨_,Z,p 0 _ _ Z Z Z⟩
 refine HT.ret ?_
 obtain rfl:=si c
 exact ⟨.inr Z,[R 2],⟨Z,N⟩,(f_u2.eq h2),j⟩
 have c:=zAL c1 c
 refine HT.skip ?_
 refine HT.su d j (eF (.rep eStr A ([]:List UInt8))::[]) ?_ ?_
 exact op (fun Q U W H D=>zA0 ⟨_,Z,⟨_,Z,Z,by decide⟩⟩)<|oz
 intro R w m n p d j
 replace h0:=k1 n h0
 obtain ⟨u3,h3,f_u3⟩:∃ u,R 3=u∧Rep eStr A w u ([]:List UInt8):=⟨_,Z,p 0 _ _ Z Z Z⟩
 obtain ⟨rl4,q5,c⟩:=zA3 c
 replace q5:=q5 Z
 refine HT.cut (fun R w=>∃ (s6:(List UInt8)) (wo_3:Value),rl4=s6∧AvOK A w∧Fr w0 w∧R 3=wo_3∧Rep eStr A w wo_3 s6) ?_ ?_
 refine HT.block ?_
 refine HT.loop (fun k R w=>∃ (y7:Int) (y8:List UInt8) (wl_3:Value),zBN fu k y7 y8=some rl4∧AvOK A w∧Fr w0 w∧R 0 = .int .i64 y7∧R 3=wl_3∧Rep eStr A w wl_3 y8) fu ⟨_,_,u3,q5,d,j,h0,h3,f_u3⟩ ?_
 have hr0:=c;clear c q5
 rintro k R w ⟨y7,y8,wl_3,c,d,j,h0,h3,f_wl_3⟩
 rcases k with _ | k
 cases (show none=some _ from c)
 rw [zBN] at c
 refine HT.seq ?_
 refine HT.su d j (eI y7::eB (decide (0<y7))::[]) ?_ ?_
 exact om h0<|op (fun Q U W H D=>zCM (D.g 0 Z) Z)<|oz
 intro R w m n p d j
 obtain ⟨h0,h3⟩:=k2 n h0 h3
 have h7:=p.r 1 Z
 replace f_wl_3:=f_wl_3.fr m
 refine HT.cond (decide (0<y7)) h7 (fun c9=>?_) (fun c9=>?_)
 have c:=zAK c9 c
 refine HT.skip ?_
 refine HT.block ?_
 obtain ⟨e10,e11,e12,c⟩:=ck3 c
 refine HT.su d j (eI y7::eI (y7.tmod 10)::eI (48+(y7.tmod 10))::eU (IntKind.u8.wrap (48+(y7.tmod 10)))::eF (.rep (eSl (eInt .u8)) A ([(IntKind.u8.wrap (48+(y7.tmod 10)))]:List Int))::eF (.rep eStr A (strB ([(IntKind.u8.wrap (48+(y7.tmod 10)))]:List Int)))::eR wl_3::eF (.rep eStr A ((strB ([(IntKind.u8.wrap (48+(y7.tmod 10)))]:List Int))++y8))::eF (.rep eStr A ((strB ([(IntKind.u8.wrap (48+(y7.tmod 10)))]:List Int))++y8))::[]) ?_ ?_
 exact om h0<|op (fun Q U W H D=>zOH (D.g 0 Z) Z e10)<|op (fun Q U W H D=>zAN Z (D.g 0 Z) e11)<|op (fun Q U W H D=>zDn (D.g 0 Z) underlying3 underlying5)<|op (fun Q U W H D=>zBZ [_] (E:=eInt .u8) ⟨(zAe.eq (D.g 0 Z)),N⟩ underlying22 sizeOf5 zeroValue5 Z Z Z (d.fr W.size))<|op (fun Q U W H D=>zBF (D.g 0 Z) underlying22 underlying5 underlying9)<|om h3<|op (fun Q U W H D=>zIT (D.g 0 Z) ((f_wl_3.fr W).eq (D.g 1 Z)) e12)<|op (fun Q U W H D=>zA0 (D.g 0 Z))<|oz
 intro R w m n p d j
 replace h0:=k1 n h0
 obtain ⟨u13,h3,f_u13⟩:∃ u,R 3=u∧Rep eStr A w u ((strB ([(IntKind.u8.wrap (48+(y7.tmod 10)))]:List Int))++y8):=⟨_,Z,p 8 _ _ Z Z Z⟩
 obtain ⟨e14,e15,c⟩:=ck2 c
 refine HT.u d j (eI y7::eI (y7.tdiv 10)::eI (y7.tdiv 10)::[]) ?_ ?_
 exact om h0<|op (fun Q U W H D=>zH0 (D.g 0 Z) Z e14 e15)<|oa<|oz
 intro R w m n p d j
 replace h3:=k1 n h3
 have h0:=p.r 2 Z
 replace f_u13:=f_u13.fr m
 exact ei k (And.intro (Nat.lt_succ_self k) ⟨_,_,u13,c,d,j,h0,h3,f_u13⟩)
 have c:=zAL c9 c
 refine HT.exit ?_
 obtain rfl:=si c
 exact ei _ ⟨wl_3,Z,d,j,h3,f_wl_3⟩
 rintro R w ⟨s6,wo_3,es,d,j,h3,f_wo_3⟩
 obtain rfl:=es.symm
 obtain ⟨e16,c⟩:=zA4 c
 refine HT.su d j (eR wo_3::eF (.rep eStr A (([109]:List UInt8)++s6))::eF (.rep eStr A (([109]:List UInt8)++s6))::[]) ?_ ?_
 exact om h3<|op (fun Q U W H D=>zIT ⟨_,Z,⟨_,Z,Z,by decide⟩⟩ ((f_wo_3.fr W).eq (D.g 0 Z)) e16)<|op (fun Q U W H D=>zA0 (D.g 0 Z))<|oz
 intro R w m n p d j
 obtain ⟨u17,h2,f_u17⟩:∃ u,R 2=u∧Rep eStr A w u (([109]:List UInt8)++s6):=⟨_,Z,p 2 _ _ Z Z Z⟩
 refine HT.ret ?_
 obtain rfl:=si c
 exact ⟨.inr Z,[R 2],⟨Z,N⟩,(f_u17.eq h2),j⟩
def zBD (fu : Nat) : Nat → Int → Int → (List (List UInt8)) → Option (Int × (List (List UInt8)))
 | 0,_,_,_=>none
 | k+1,y4,y5,y6=>
 bif (decide (y5<(y6.length:Int))) then (
 cl true (zCt fu y4) fun x8=>
 ck (inR y5 y6.length) <|
 ck (i64B (y4+1)) <|
 ck (i64B (y5+1)) <|
 zBD fu k (y4+1) (y5+1) (y6.set y5.toNat x8)
 ) else (
 some (y4,y6)
 )
def zCd (fu:Nat) (p0:List (List UInt8)) (p1:Int):Option (Int × List (List UInt8)):=
 cl true (zBD fu fu p1 0 p0) fun s3=>
 some (s3.1,s3.2)
theorem zFs {fu : Nat} {A0 : Av} {p0 : List (List UInt8)} {p1 : Int} {r : Int × List (List UInt8)} (c : zCd fu p0 p1 = some r) {w : World} {v0 : Value} {v1 : Value} {B0 : Nat} (d : AvOK A0 w) (K : ∀ b o, A0 b o → ¬ zAW v0 b) (h0 : (Res.vec B0 9 eStr p0).ok A0 v0 w) (h1 : v1 = .int .i64 p1) :
 Calls prog 38 #[v0,v1] w fun e w'=>∃ v,e = .returned v∧(v = .int .i64 r.1∧(Res.vec B0 9 eStr r.2).ok A0 v0 w'∧Ch (zAW v0) w w'):=by
 unfold zCd at c
 obtain ⟨w0,hw0⟩:∃ w0,w0=w:=⟨_,Z⟩
 have j:Ch (zAW v0) w0 w:=hw0 ▸ Ch.refl _ _
 have C:∀ b o,A0 b o→b<w0.heap.size:=fun b o h=>hw0 ▸ d b o h
 have hA00:AvOK A0 w0:=C
 rw [show Ch (zAW v0) w=Ch (zAW v0) w0 from hw0 ▸ Z]
 clear hw0
 obtain ⟨A,hAe⟩:∃ A,A=addA A0 v0:=⟨_,Z⟩
 have B:∀ b o,A0 b o→A b o:=fun b o h=>hAe ▸ .inl h
 replace d:AvOK A w:=hAe ▸ d.one h0
 have q:IniOK [ob v0 (.vec B0 9 eStr p0)] A w:=hAe ▸ IniOK.one h0 (fun _ _ _ _ _ h=>h)
 refine zA2 [.tmp 4] func38 ntmps38 (by decide) Z Z (nb Z) ?_
 intro R hR
 replace h0:R 0=v0:=hR 0 _ Z
 replace h1:R 1 = .int .i64 p1:=(hR 1 _ Z).trans h1
 clear hR hAe
 refine HT.seq ?_
 refine HT.t (eI 0::[]) ?_ ?_
 exact op (fun Q U W H D=>zA0 Z)<|oz
 intro R w m n p
 obtain ⟨h0,h1⟩:=k2 n h0 h1
 replace q:=q.fr m
 replace d:=d.fr m.size
 replace j:=j.tr (m.ch noB) fun _ h=>False.elim h
 refine HT.seq ?_
 refine HT.seq ?_
 refine HT.t (eI 0::[]) ?_ ?_
 exact op (fun Q U W H D=>zA0 Z)<|oz
 intro R w m n p
 obtain ⟨h0,h1⟩:=k2 n h0 h1
 have h5:=p.r 0 Z
 replace q:=q.fr m
 replace d:=d.fr m.size
 replace j:=j.tr (m.ch noB) fun _ h=>False.elim h
 obtain ⟨rl1,q2,c⟩:=zA3 c
 replace q2:=q2 Z
 refine HT.cut0 (fun R w=>∃ A:Av,∃ (s3:Int × (List (List UInt8))),rl1=s3∧AvOK A w∧Ch (zAW v0) w0 w∧(∀ b o,A0 b o→A b o)∧IniOK [ob v0 (.vec B0 9 eStr s3.2)] A w∧R 1 = .int .i64 s3.1) ?_ ?_
 refine HT.block ?_
 refine HT.loop (fun k R w=>∃ A:Av,∃ (y4:Int) (y5:Int) (y6:List (List UInt8)),zBD fu k y4 y5 y6=some rl1∧AvOK A w∧Ch (zAW v0) w0 w∧(∀ b o,A0 b o→A b o)∧IniOK [ob v0 (.vec B0 9 eStr y6)] A w∧R 0=v0∧R 1 = .int .i64 y4∧R 5 = .int .i64 y5) fu ⟨_,_,_,_,q2,d,j,B,q,h0,h1,h5⟩ ?_
 have hr0:=c;clear c q2
 rintro k R w ⟨A,y4,y5,y6,c,d,j,B,q,h0,h1,h5⟩
 rcases k with _ | k
 cases (show none=some _ from c)
 rw [zBD] at c
 refine HT.seq ?_
 refine HT.seq ?_
 refine HT.t (eI y5::eR v0::eI (y6.length:Int)::eB (decide (y5<(y6.length:Int)))::[]) ?_ ?_
 exact om h5<|om h0<|op (fun Q U W H D=>zCG (q.ok 0 _ Z).1 (D.g 0 Z) underlying46)<|op (fun Q U W H D=>zAf (D.g 0 Z) (D.g 1 Z))<|oz
 intro R w m n p
 obtain ⟨h0,h1,h5⟩:=k3 n h0 h1 h5
 have h9:=p.r 3 Z
 replace q:=q.fr m
 replace d:=d.fr m.size
 replace j:=j.tr (m.ch noB) fun _ h=>False.elim h
 refine HT.cond (decide (y5<(y6.length:Int))) h9 (fun c7=>?_) (fun c7=>?_)
 have c:=zAK c7 c
 refine HT.skip ?_
 refine HT.seq ?_
 refine HT.block ?_
 obtain ⟨x8,q9,c⟩:=zA3 c
 obtain ⟨e10,c⟩:=zA4 c
 refine HT.sx [ob v0 (.vec B0 9 eStr y6)] (rR v0::rI y5::rI y4::(rF fun A=>.rep eStr A x8)::rR (vptr v0 (y5.toNat*1))::⟨_,true,[0],some (.vec B0 9 eStr (y6.set y5.toNat x8)),false,fun A=>.any⟩::[]) (ur (ur (ur (up (ur (ua (UAll.nil))))))) q d ?_ ?_
 exact rm h0<|rm h5<|rm h1<|rp (fun V Q U O D=>zA6 call115 (zH8 (q9 Z) O.av (D.g 0 Z)))<|rp (fun V Q U O D=>zAF (q.ok 0 _ Z).1 (D.g 0 Z) (D.g 1 Z) underlying46 sizeOf9 e10 Z)<|rc (OblR.took 0 _ _ Z Z Z Z Z fun V Q U O D u hok hav hin hop hds=>by have a0:Q 16=(vptr v0 (y5.toNat*1)):=D.g 0 Z;have a1:Rep eStr V U (Q 15) x8:=D.g 1 Z;obtain rfl:=hin _ Z;exact zBY a1 hok hav a0 e10 Z (FldS.id _) sizeOf9 Z)<|rz
 intro done ρ σ A R w y s
 obtain ⟨h0,h1,h5⟩:=k3 s.rg h0 h1 h5
 have z11:=s.inivR 0 Z
 have z12:=s.on y 6 5 Z Z Z Z Z z11
 replace B:=s.lowK B C K (q.geK (⟨.inr (fun k h=>.inr h),N⟩))
 replace j:Ch (zAW v0) w0 w:=j.tr s.ch (q.geK (⟨.inr (fun k h=>.inr h),N⟩))
 replace q:=s.left y [(6,ob v0 (.vec B0 9 eStr (y6.set y5.toNat x8)))] ⟨Z,Z,z12,Z,Z,N⟩
 replace d:=s.avok
 obtain ⟨e13,c⟩:=zA4 c
 refine HT.t (eI y4::eI (y4+1)::eI (y4+1)::[]) ?_ ?_
 exact om h1<|op (fun Q U W H D=>zAN (D.g 0 Z) Z e13)<|oa<|oz
 intro R w m n p
 obtain ⟨h0,h5⟩:=k2 n h0 h5
 have h1:=p.r 2 Z
 replace q:=q.fr m
 replace d:=d.fr m.size
 replace j:=j.tr (m.ch noB) fun _ h=>False.elim h
 obtain ⟨e14,c⟩:=zA4 c
 refine HT.t (eI y5::eI (y5+1)::eI (y5+1)::[]) ?_ ?_
 exact om h5<|op (fun Q U W H D=>zAN (D.g 0 Z) Z e14)<|oa<|oz
 intro R w m n p
 obtain ⟨h0,h1⟩:=k2 n h0 h1
 have h5:=p.r 2 Z
 replace q:=q.fr m
 replace d:=d.fr m.size
 replace j:=j.tr (m.ch noB) fun _ h=>False.elim h
 exact ei k (And.intro (Nat.lt_succ_self k) ⟨_,_,_,_,c,d,j,B,q,h0,h1,h5⟩)
 have c:=zAL c7 c
 refine HT.exit ?_
 obtain rfl:=si c
 exact ei _ ⟨_,Z,d,j,B,q,h1⟩
 rintro R w ⟨A,s3,es,d,j,B,q,h1⟩
 obtain rfl:=es.symm
 refine HT.seq ?_
 refine HT.t (eI s3.1::eI s3.1::[]) ?_ ?_
 exact om h1<|oa<|oz
 intro R w m n p
 have h4:=p.r 1 Z
 replace q:=q.fr m
 replace d:=d.fr m.size
 replace j:=j.tr (m.ch noB) fun _ h=>False.elim h
 refine HT.ret ?_
 obtain rfl:=si c
 exact ⟨.inr Z,[R 4],⟨Z,N⟩,h4,Vec.flat (q.ok 0 _ Z).1 (fun _ _ _ _ _ h=>h),j⟩
def zBU (fu:Nat) (p0:zAA) (p1:Int):Option (Int × zAA):=
 cl true (zCd fu p0.2.2.2 p1) fun x5=>
 some (x5.1,(p0.1,p0.2.1,p0.2.2.1,x5.2))
theorem zEY {fu : Nat} {A0 : Av} {p0 : zAA} {p1 : Int} {r : Int × zAA} (c : zBU fu p0 p1 = some r) {w : World} {v0 : Value} {v1 : Value} {S0 : Nat → Prop} (d : AvOK A0 w) (K : ∀ b o, A0 b o → ¬ S0 b) (h0 : (trP (oPr (oRd (eInt .i64)) (oPr (oRd (eInt .i64)) (oPr (oRd (eInt .i64)) (oSl 9 (oRd eStr))))) p0 []).P (addS A0 S0) w S0 v0) (h1 : v1 = .int .i64 p1) :
 Calls prog 37 #[v0,v1] w fun e w'=>∃ v,e = .returned v∧(v = .int .i64 r.1∧Gave (oPr (oRd (eInt .i64)) (oPr (oRd (eInt .i64)) (oPr (oRd (eInt .i64)) (oSl 9 (oRd eStr))))) A0 S0 w v0 r.2 w'):=by
 unfold zBU at c
 obtain ⟨w0,hw0⟩:∃ w0,w0=w:=⟨_,Z⟩
 have j:Ch S0 w0 w:=hw0 ▸ Ch.refl _ _
 have C:∀ b o,A0 b o→b<w0.heap.size:=fun b o h=>hw0 ▸ d b o h
 have hA00:AvOK A0 w0:=C
 rw [show Gave (oPr (oRd (eInt .i64)) (oPr (oRd (eInt .i64)) (oPr (oRd (eInt .i64)) (oSl 9 (oRd eStr))))) A0 S0 w=Gave (oPr (oRd (eInt .i64)) (oPr (oRd (eInt .i64)) (oPr (oRd (eInt .i64)) (oSl 9 (oRd eStr))))) A0 S0 w0 from hw0 ▸ Z]
 have hw0s:w.heap.size=w0.heap.size:=hw0 ▸ Z
 obtain ⟨cs_0,ecs_0,lcs_0,ocs_0⟩:=zNC h0
 clear hw0
 have q:=IniOK.oneT h0
 have hA1:=d.oneT h0
 rw [show w.heap.size=w0.heap.size from hw0s] at q
 obtain ⟨A,hAe⟩:∃ A,A=addS A0 S0:=⟨_,Z⟩
 have B:∀ b o,A0 b o→A b o:=fun b o h=>hAe ▸ .inl h
 replace d:AvOK A w:=hAe ▸ hA1
 replace q:IniOK [⟨v0,S0,trR (fun k=>w0.heap.size≤k∨S0 k) (oPr (oRd (eInt .i64)) (oPr (oRd (eInt .i64)) (oPr (oRd (eInt .i64)) (oSl 9 (oRd eStr))))) p0 []⟩] A w:=hAe ▸ q
 refine zA2 [.tmp 4] func37 ntmps37 (by decide) Z Z (nb Z) ?_
 intro R hR
 replace h0:R 0=v0:=hR 0 _ Z
 replace h1:R 1 = .int .i64 p1:=(hR 1 _ Z).trans h1
 clear hR hAe
 refine HT.sx [⟨v0,S0,trR (fun k=>w0.heap.size≤k∨S0 k) (oPr (oRd (eInt .i64)) (oPr (oRd (eInt .i64)) (oPr (oRd (eInt .i64)) (oSl 9 (oRd eStr))))) p0 []⟩] (⟨_,true,[0],some (.gen (fun k=>w0.heap.size≤k∨S0 k) (trB 51 (oPr (oRd (eInt .i64)) (oPr (oRd (eInt .i64)) (oPr (oRd (eInt .i64)) (oSl 9 (oRd eStr))))) p0 cs_0)),true,fun A=>.any⟩::rI 0::[]) (ua (ur (UAll.nil))) q d ?_ ?_
 exact rc (OblR.tookS 0 _ _ Z Z Z Z Z fun V Q U O D u S hok hown hav hin hop hds=>by have a0:Q 0=v0:=(O.old 0 Z).trans h0;have e0:=(hin _ Z).1;rw [e0] at hown ⊢;exact zM4 hown.2 ecs_0 lcs_0 ocs_0 a0 hav hown.1 (fun k hk=>.inl (Nat.le_trans (Nat.le_trans j.size O.ch.size) hk)))<|rp (fun V Q U O D=>zA0 Z)<|rz
 intro done ρ σ A R w y s
 replace h1:=k1 s.rg h1
 obtain ⟨u1,e_u1⟩:∃ u,ρ 1=u:=⟨_,Z⟩
 have h2:=s.ov y 1 0 e_u1
 obtain ⟨S2,eS_u1⟩:∃ S,σ 1=S:=⟨_,Z⟩
 replace B:=s.lowK B C K (q.geK (⟨fun _ h=>h,N⟩))
 replace j:Ch S0 w0 w:=j.tr s.ch (q.geK (⟨fun _ h=>h,N⟩))
 replace q:=s.left y [(1,⟨u1,S2,.gen (fun k=>w0.heap.size≤k∨S0 k) (trB 51 (oPr (oRd (eInt .i64)) (oPr (oRd (eInt .i64)) (oPr (oRd (eInt .i64)) (oSl 9 (oRd eStr))))) p0 cs_0)⟩)] ⟨Z,Z,e_u1,eS_u1,Z,N⟩
 replace d:=s.avok
 replace q:IniOK [⟨u1,S2,trR (fun k=>w0.heap.size≤k∨S0 k) (oPt 51 (oPr (oRd (eInt .i64)) (oPr (oRd (eInt .i64)) (oPr (oRd (eInt .i64)) (oSl 9 (oRd eStr)))))) p0 [(u1,cs_0)]⟩] A w:=q.repin 0 Z (fun h=>trP.pin h.2 h.1)
 refine HT.seq ?_
 obtain ⟨h3,p_h3⟩:=((((((zAJ (q.own 0 _ Z).2).ptr).snd Z).snd (zEp _ _ _)).snd (zEp _ _ _))).open1 Z
 replace q:IniOK [⟨u1,S2,trR (fun k=>w0.heap.size≤k∨S0 k) (oPt 51 (oPr (oRd (eInt .i64)) (oPr (oRd (eInt .i64)) (oPr (oRd (eInt .i64)) (oSl 9 (oRd eStr)))))) p0 [((padd u1 3),[h3]),(u1,cs_0)]⟩] A w:=q.repin 0 Z (trP.pin p_h3)
 obtain ⟨x5,q6,c⟩:=zA3 c
 refine HT.x [⟨u1,S2,trR (fun k=>w0.heap.size≤k∨S0 k) (oPt 51 (oPr (oRd (eInt .i64)) (oPr (oRd (eInt .i64)) (oPr (oRd (eInt .i64)) (oSl 9 (oRd eStr)))))) p0 [((padd u1 3),[h3]),(u1,cs_0)]⟩] (rR (padd u1 3)::rR h3::rI p1::⟨_,true,[0],some (trR (fun k=>w0.heap.size≤k∨S0 k) (oPt 51 (oPr (oRd (eInt .i64)) (oPr (oRd (eInt .i64)) (oPr (oRd (eInt .i64)) (oSl 9 (oRd eStr)))))) (p0.1,p0.2.1,p0.2.2.1,x5.2) [(u1,cs_0)]),false,fun A=>.raw (.int .i64 x5.1)⟩::rI x5.1::[]) (ur (ur (ur (ur (ur (UAll.nil)))))) q d ?_ ?_
 exact rp (fun V Q U O D=>zDL ((zAJ (q.own 0 _ Z).2).ptr).ad ((O.old 2 Z).trans h2) zCR sizeOf46 (by decide) Z)<|rp (fun V Q U O D=>zB8 ((O.rdo 0 _ Z Z).2.2 _ (.head _)) (D.g 0 Z) isAgg46 sizeOf46)<|rm h1<|rc (OblR.tookS 0 _ _ Z Z Z Z Z fun V Q U O D u S hok hown hav hin hop hds=>by have a0:Q 6=h3:=D.g 0 Z;have a1:Q 7 = .int .i64 p1:=D.g 1 Z;have e0:=(hin _ Z).1;rw [e0] at hown ⊢;have hu0:zAD Q (.tmp 6)=h3:=a0;exact zHQ call38 (((((((zAJ hown.2).ptr).snd Z).snd (zEp _ _ _)).snd (zEp _ _ _))).pinK (hown.2.2 _ (.head _)) Z (hown.2.2 _ (.tail _ (.head _))) (zNb (zAJ hown.2).ptr.ad 3)) hav hown.1 (fun k hk=>.inl (Nat.le_trans (Nat.le_trans j.size O.ch.size) hk)) (fun k hk=>SP.lt _ hown.2 hk) (fun S1 hS1 hP=>by simp only [List.map,hu0];exact Calls.mono (zFs (q6 Z) (O.av.subS _) (fun b o h hb=>h.2 ((zLO (fun _ _ _ _ _ h=>h) hP) ▸ hb)) (zJv (fun _ _ _ _ _ h=>h) hP).1 a1) (fun _ _ ⟨v,h1,h2⟩=>⟨v,h1,zKC (fun _ _ _ _ _ h=>h) hP h2 (zLO (fun _ _ _ _ _ h=>h) hP)⟩)) (fun _ _ _ h=>trP.pin h.2 h.1))<|ra<|rz
 intro done ρ σ A R w y s
 have z7:=s.inivR 0 Z
 have z8:=s.on y 4 3 Z Z Z Z Z z7
 obtain ⟨S9,eS_u1⟩:∃ S,σ 4=S:=⟨_,Z⟩
 have h1:=s.r y 4 Z
 replace B:=s.lowK B C K (q.geK (⟨fun _ h=>h,N⟩))
 replace j:Ch S0 w0 w:=j.tr s.ch (q.geK (⟨fun _ h=>h,N⟩))
 replace q:=s.left y [(4,⟨u1,S9,trR (fun k=>w0.heap.size≤k∨S0 k) (oPt 51 (oPr (oRd (eInt .i64)) (oPr (oRd (eInt .i64)) (oPr (oRd (eInt .i64)) (oSl 9 (oRd eStr)))))) (p0.1,p0.2.1,p0.2.2.1,x5.2) [(u1,cs_0)]⟩)] ⟨Z,Z,z8,eS_u1,Z,N⟩
 replace d:=s.avok
 refine HT.seq ?_
 refine HT.t (eI x5.1::eI x5.1::[]) ?_ ?_
 exact om h1<|oa<|oz
 intro R w m n p
 have h4:=p.r 1 Z
 replace q:=q.fr m
 replace d:=d.fr m.size
 replace j:=j.tr (m.ch noB) fun _ h=>False.elim h
 refine HT.ret ?_
 obtain rfl:=si c
 exact ⟨.inr Z,[R 4],⟨Z,N⟩,h4,zJ8 Z (q.own 0 _ Z) (q.ok 0 _ Z).2 B ecs_0 lcs_0 j⟩
end Go.Proofs.YtcodfkieaoomnaaGreatDoor
namespace Go.Proofs.YtcodfkieaoomnaaGreatDoor
open Go.RowKit
set_option linter.unusedVariables false
open _root_.Go.Proofs.Tryz
set_option maxRecDepth 100000
set_option maxHeartbeats 4000000
def zCQ (fu : Nat) (p0 : List (List UInt8)) (p1 : List UInt8) : Nat → Int → Option (Ex Bool Unit)
 | 0,_=>none
 | k+1,y4=>
 bif (decide (y4<(p0.length:Int))) then (
 ck (inR y4 p0.length) <|
 bif ((gtD p0 y4)==p1) then (
 some (Ex.ret true)
 ) else (
 ck (i64B (y4+1)) <|
 zCQ fu p0 p1 k (y4+1)
 )
 ) else (
 some (Ex.go ())
 )
def zER (fu:Nat) (p0:List (List UInt8)) (p1:List UInt8):Option Bool:=
 cl true (zCQ fu p0 p1 fu 0) fun rl1=>
 exM rl1 (fun r=>some r) fun s3=>
 some false
theorem zHs {fu : Nat} {A : Av} {p0 : List (List UInt8)} {p1 : List UInt8} {r : Bool} (c : zER fu p0 p1 = some r) {w : World} {v0 : Value} {v1 : Value} (d : AvOK A w) (h0 : Rep (eSl eStr) A w v0 p0) (h1 : Rep eStr A w v1 p1) :
 Calls prog 120 #[v0,v1] w fun e w'=>∃ v,e = .returned v∧(v = .bool r∧Fr w w'):=by
 unfold zER at c
 obtain ⟨w0,hw0⟩:∃ w0,w0=w:=⟨_,Z⟩
 have j:Fr w0 w:=hw0 ▸ Fr.refl _
 rw [show Fr w=Fr w0 from hw0 ▸ Z]
 clear hw0
 refine zA2 [.tmp 4] func120 ntmps120 (by decide) Z Z (nb Z) ?_
 intro R hR
 have f_v0:=h0
 replace h0:R 0=v0:=hR 0 _ Z
 have f_v1:=h1
 replace h1:R 1=v1:=hR 1 _ Z
 clear hR
 refine HT.su d j (eB false::[]) ?_ ?_
 exact op (fun Q U W H D=>zA0 Z)<|oz
 intro R w m n p d j
 obtain ⟨h0,h1⟩:=k2 n h0 h1
 replace f_v0:=f_v0.fr m
 replace f_v1:=f_v1.fr m
 refine HT.seq ?_
 refine HT.su d j (eI 0::[]) ?_ ?_
 exact op (fun Q U W H D=>zA0 Z)<|oz
 intro R w m n p d j
 obtain ⟨h0,h1⟩:=k2 n h0 h1
 have h5:=p.r 0 Z
 replace f_v0:=f_v0.fr m
 replace f_v1:=f_v1.fr m
 obtain ⟨rl1,q2,c⟩:=zA3 c
 replace q2:=q2 Z
 refine HT.cut0 (fun R w=>∃ (s3:Unit),rl1=Ex.go s3∧AvOK A w∧Fr w0 w) ?_ ?_
 refine HT.block ?_
 refine HT.loop (fun k R w=>∃ (y4:Int),zCQ fu p0 p1 k y4=some rl1∧AvOK A w∧Fr w0 w∧R 0=v0∧R 1=v1∧R 5 = .int .i64 y4∧Rep (eSl eStr) A w v0 p0∧Rep eStr A w v1 p1) fu ⟨_,q2,d,j,h0,h1,h5,f_v0,f_v1⟩ ?_
 have hr0:=c;clear c q2
 rintro k R w ⟨y4,c,d,j,h0,h1,h5,f_v0,f_v1⟩
 rcases k with _ | k
 cases (show none=some _ from c)
 rw [zCQ] at c
 refine HT.seq ?_
 refine HT.su d j (eI y4::eR v0::eI (p0.length:Int)::eB (decide (y4<(p0.length:Int)))::[]) ?_ ?_
 exact om h5<|om h0<|op (fun Q U W H D=>zAb (aT:=#[]) ((f_v0.fr W).eq (D.g 0 Z)) underlying46)<|op (fun Q U W H D=>zAf (D.g 0 Z) (D.g 1 Z))<|oz
 intro R w m n p d j
 obtain ⟨h0,h1,h5⟩:=k3 n h0 h1 h5
 have h9:=p.r 3 Z
 replace f_v0:=f_v0.fr m
 replace f_v1:=f_v1.fr m
 refine HT.cond (decide (y4<(p0.length:Int))) h9 (fun c5=>?_) (fun c5=>?_)
 have c:=zAK c5 c
 refine HT.skip ?_
 refine HT.seq ?_
 refine HT.block ?_
 obtain ⟨e6,c⟩:=zA4 c
 refine HT.su d j (eR v0::eI y4::eF (.qtr eStr A (gtD p0 y4))::eF (.rep eStr A (gtD p0 y4))::eR v1::eB ((gtD p0 y4)==p1)::[]) ?_ ?_
 exact om h0<|om h5<|op (fun Q U W H D=>zA7 ((f_v0.fr W).eq (D.g 0 Z)) (D.g 1 Z) underlying46 sizeOf9 e6)<|op (fun Q U W H D=>(zAQ (QRep.ptr (D.g 0 Z)) isAgg9 sizeOf9))<|om h1<|op (fun Q U W H D=>zB4 (D.g 0 Z) ((f_v1.fr W).eq (D.g 1 Z)))<|oz
 intro R w m n p d j
 obtain ⟨h0,h1,h5⟩:=k3 n h0 h1 h5
 have h17:=p.r 5 Z
 replace f_v0:=f_v0.fr m
 replace f_v1:=f_v1.fr m
 refine HT.cond ((gtD p0 y4)==p1) h17 (fun c7=>?_) (fun c7=>?_)
 have c:=zAK c7 c
 refine HT.su d j (eB true::[]) ?_ ?_
 exact op (fun Q U W H D=>zA0 Z)<|oz
 intro R w m n p d j
 have h4:=p.r 0 Z
 refine HT.ret ?_
 obtain rfl:=si c
 have c:=hr0
 replace c:some _=some _:=c
 obtain rfl:=si c
 exact ⟨.inr Z,[R 4],⟨Z,N⟩,h4,j⟩
 have c:=zAL c7 c
 refine HT.skip ?_
 obtain ⟨e8,c⟩:=zA4 c
 refine HT.u d j (eI y4::eI (y4+1)::eI (y4+1)::[]) ?_ ?_
 exact om h5<|op (fun Q U W H D=>zAN (D.g 0 Z) Z e8)<|oa<|oz
 intro R w m n p d j
 obtain ⟨h0,h1⟩:=k2 n h0 h1
 have h5:=p.r 2 Z
 replace f_v0:=f_v0.fr m
 replace f_v1:=f_v1.fr m
 exact ei k (And.intro (Nat.lt_succ_self k) ⟨_,c,d,j,h0,h1,h5,f_v0,f_v1⟩)
 have c:=zAL c5 c
 refine HT.exit ?_
 obtain rfl:=si c
 exact ei _ ⟨Z,d,j⟩
 rintro R w ⟨s3,rfl,d,j⟩
 have c:=zEP c
 refine HT.su d j (eB false::[]) ?_ ?_
 exact op (fun Q U W H D=>zA0 Z)<|oz
 intro R w m n p d j
 have h4:=p.r 0 Z
 refine HT.ret ?_
 obtain rfl:=si c
 exact ⟨.inr Z,[R 4],⟨Z,N⟩,h4,j⟩
def zAd (fu : Nat) (p0 : List (List UInt8)) (p1 : List (List UInt8)) : Nat → Int → (List (List UInt8)) → Option (List (List UInt8))
 | 0,_,_=>none
 | k+1,y5,y6=>
 bif (decide (y5<(p0.length:Int))) then (
 ck (inR y5 p0.length) <|
 cl true (zER fu p1 (gtD p0 y5)) fun x9=>
 bif x9 then (
 ck (inR y5 p0.length) <|
 cl true (zCc fu y6 (gtD p0 y5) false) fun x13=>
 ck (i64B (y5+1)) <|
 zAd fu p0 p1 k (y5+1) x13
 ) else (
 ck (i64B (y5+1)) <|
 zAd fu p0 p1 k (y5+1) y6
 )
 ) else (
 some y6
 )
def zBj (fu:Nat) (p0:List (List UInt8)) (p1:List (List UInt8)):Option (List (List UInt8)):=
 cl true (zAd fu p0 p1 fu 0 ([]:List (List UInt8))) fun s4=>
 some s4
theorem zFq {fu : Nat} {A0 : Av} {p0 : List (List UInt8)} {p1 : List (List UInt8)} {r : List (List UInt8)} (c : zBj fu p0 p1 = some r) {w : World} {v0 : Value} {v1 : Value} (d : AvOK A0 w) (h0 : Rep (eSl eStr) A0 w v0 p0) (h1 : Rep (eSl eStr) A0 w v1 p1) :
 Calls prog 116 #[v0,v1] w fun e w'=>∃ v,e = .returned v∧((Res.vec w.heap.size 9 eStr r).ok (addA A0 v) v w'∧Fr w w'):=by
 unfold zBj at c
 obtain ⟨w0,hw0⟩:∃ w0,w0=w:=⟨_,Z⟩
 have j:Fr w0 w:=hw0 ▸ Fr.refl _
 have C:∀ b o,A0 b o→b<w0.heap.size:=fun b o h=>hw0 ▸ d b o h
 have hA00:AvOK A0 w0:=C
 rw [show w.heap.size=w0.heap.size from hw0 ▸ Z]
 rw [show Fr w=Fr w0 from hw0 ▸ Z]
 clear hw0
 obtain ⟨A,hAe⟩:∃ A,A=A0:=⟨_,Z⟩
 have B:∀ b o,A0 b o→A b o:=fun b o h=>hAe ▸ h
 replace d:AvOK A w:=hAe ▸ d
 have q:IniOK [] A w:=IniOK.nil
 refine zA2 [.tmp 4] func116 ntmps116 (by decide) Z Z (nb Z) ?_
 intro R hR
 have f_v0:Rep (eSl eStr) A w v0 p0:=hAe ▸ h0
 replace h0:R 0=v0:=hR 0 _ Z
 have f_v1:Rep (eSl eStr) A w v1 p1:=hAe ▸ h1
 replace h1:R 1=v1:=hR 1 _ Z
 clear hR hAe
 refine HT.su d j (eA::[]) ?_ ?_
 exact op (fun Q U W H D=>zA0 N)<|oz
 intro R w m n p d j
 obtain ⟨h0,h1⟩:=k2 n h0 h1
 replace f_v0:=f_v0.fr m
 replace f_v1:=f_v1.fr m
 replace q:=q.fr m
 refine HT.sx [] (⟨_,true,[],some (.vec w0.heap.size 9 eStr ([]:List (List UInt8))),true,fun A=>.any⟩::⟨_,true,[0],some (.vec w0.heap.size 9 eStr ([]:List (List UInt8))),true,fun A=>.any⟩::[]) (ua (ua (UAll.nil))) q d ?_ ?_
 exact rc (OblR.made _ Z Z Z Z fun V Q U O D=>by exact zBb [] (E:=eStr) N underlying46 sizeOf9 zeroValue9 Z Z Z (Nat.le_trans j.size O.ch.size))<|rc (OblR.took 0 _ _ Z Z Z Z Z fun V Q U O D u hok hav hin hop hds=>by exact zAH (hop _ _ Z Z Z Z).symm hok hav)<|rz
 intro done ρ σ A R w y s
 obtain ⟨h0,h1⟩:=k2 s.rg h0 h1
 obtain ⟨u1,e_u1⟩:∃ u,ρ 1=u:=⟨_,Z⟩
 have h5:=s.ov y 1 1 e_u1
 replace f_v0:=f_v0.stp s.stp
 replace f_v1:=f_v1.stp s.stp
 obtain ⟨B,j,d⟩:=s.s B C j q N
 replace q:=s.left y [(1,ob u1 (.vec w0.heap.size 9 eStr ([]:List (List UInt8))))] ⟨Z,Z,e_u1,Z,Z,N⟩
 refine HT.seq ?_
 refine HT.su d j (eI 0::[]) ?_ ?_
 exact op (fun Q U W H D=>zA0 Z)<|oz
 intro R w m n p d j
 obtain ⟨h0,h1,h5⟩:=k3 n h0 h1 h5
 have h6:=p.r 0 Z
 replace f_v0:=f_v0.fr m
 replace f_v1:=f_v1.fr m
 replace q:=q.fr m
 obtain ⟨rl2,q3,c⟩:=zA3 c
 replace q3:=q3 Z
 refine HT.cut0 (fun R w=>∃ A:Av,∃ (s4:(List (List UInt8))) (uo_u1:Value),rl2=s4∧AvOK A w∧Fr w0 w∧(∀ b o,A0 b o→A b o)∧IniOK [ob uo_u1 (.vec w0.heap.size 9 eStr s4)] A w∧R 5=uo_u1) ?_ ?_
 refine HT.block ?_
 refine HT.loop (fun k R w=>∃ A:Av,∃ (y5:Int) (y6:List (List UInt8)) (ul_u1:Value),zAd fu p0 p1 k y5 y6=some rl2∧AvOK A w∧Fr w0 w∧(∀ b o,A0 b o→A b o)∧IniOK [ob ul_u1 (.vec w0.heap.size 9 eStr y6)] A w∧R 0=v0∧R 1=v1∧R 5=ul_u1∧R 6 = .int .i64 y5∧Rep (eSl eStr) A w v0 p0∧Rep (eSl eStr) A w v1 p1) fu ⟨_,_,_,u1,q3,d,j,B,q,h0,h1,h5,h6,f_v0,f_v1⟩ ?_
 have hr0:=c;clear c q3
 rintro k R w ⟨A,y5,y6,ul_u1,c,d,j,B,q,h0,h1,h5,h6,f_v0,f_v1⟩
 rcases k with _ | k
 cases (show none=some _ from c)
 rw [zAd] at c
 refine HT.seq ?_
 refine HT.su d j (eI y5::eR v0::eI (p0.length:Int)::eB (decide (y5<(p0.length:Int)))::[]) ?_ ?_
 exact om h6<|om h0<|op (fun Q U W H D=>zAb (aT:=#[]) ((f_v0.fr W).eq (D.g 0 Z)) underlying46)<|op (fun Q U W H D=>zAf (D.g 0 Z) (D.g 1 Z))<|oz
 intro R w m n p d j
 obtain ⟨h0,h1,h5,h6⟩:=k4 n h0 h1 h5 h6
 have h11:=p.r 3 Z
 replace f_v0:=f_v0.fr m
 replace f_v1:=f_v1.fr m
 replace q:=q.fr m
 refine HT.cond (decide (y5<(p0.length:Int))) h11 (fun c7=>?_) (fun c7=>?_)
 have c:=zAK c7 c
 refine HT.skip ?_
 refine HT.seq ?_
 refine HT.block ?_
 obtain ⟨e8,c⟩:=zA4 c
 obtain ⟨x9,q10,c⟩:=zA3 c
 refine HT.su d j (eR v1::eR v0::eI y5::eF (.qtr eStr A (gtD p0 y5))::eF (.rep eStr A (gtD p0 y5))::eB x9::[]) ?_ ?_
 exact om h1<|om h0<|om h6<|op (fun Q U W H D=>zA7 ((f_v0.fr W).eq (D.g 0 Z)) (D.g 1 Z) underlying46 sizeOf9 e8)<|op (fun Q U W H D=>(zAQ (QRep.ptr (D.g 0 Z)) isAgg9 sizeOf9))<|op (fun Q U W H D=>zA6 call120 (zHs (q10 Z) (d.fr W.size) ((f_v1.fr W).eq (D.g 0 Z)) (D.g 1 Z)))<|oz
 intro R w m n p d j
 obtain ⟨h0,h1,h5,h6⟩:=k4 n h0 h1 h5 h6
 have h19:=p.r 5 Z
 replace f_v0:=f_v0.fr m
 replace f_v1:=f_v1.fr m
 replace q:=q.fr m
 refine HT.cond x9 h19 (fun c11=>?_) (fun c11=>?_)
 have c:=zAK c11 c
 obtain ⟨e12,c⟩:=zA4 c
 obtain ⟨x13,q14,c⟩:=zA3 c
 refine HT.x [ob ul_u1 (.vec w0.heap.size 9 eStr y6)] (rR ul_u1::rR v0::rI y5::(rF fun A=>.qtr eStr A (gtD p0 y5))::(rF fun A=>.rep eStr A (gtD p0 y5))::⟨_,true,[0],some (.vec w0.heap.size 9 eStr x13),true,fun A=>.any⟩::⟨_,true,[6],some (.vec w0.heap.size 9 eStr x13),true,fun A=>.any⟩::[]) (ur (ur (ur (UAll.cons zBG (up (ua (ua (UAll.nil)))))))) q d ?_ ?_
 exact rm h5<|rm h0<|rm h6<|rp (fun V Q U O D=>zA7 ((f_v0.stp O.stp).eq (D.g 0 Z)) (D.g 1 Z) underlying46 sizeOf9 e12)<|rp (fun V Q U O D=>(zAQ (QRep.ptr (D.g 0 Z)) isAgg9 sizeOf9))<|rc (OblR.took 0 _ _ Z Z Z Z Z fun V Q U O D u hok hav hin hop hds=>by have a0:Q 20=ul_u1:=D.g 0 Z;have a1:Rep eStr V U (Q 24) (gtD p0 y5):=D.g 1 Z;have hu0:zAD Q (.tmp 20)=u:=a0.trans (hin _ Z).symm;exact zEh call109 hav (by simp only [List.map,hu0];exact zDN (q14 Z) (O.av.sub _) (fun b o h=>h.2) (Nat.le_trans j.size O.ch.size) (Vec.flat hok (fun _ _ _ _ _ h=>h)) (a1.less fun b o h=>h.1) Z))<|rc (OblR.took 6 _ _ Z Z Z Z Z fun V Q U O D u hok hav hin hop hds=>by exact zAH (hop _ _ Z Z Z Z).symm hok hav)<|rz
 intro done ρ σ A R w y s
 obtain ⟨h0,h1,h6⟩:=k3 s.rg h0 h1 h6
 obtain ⟨u15,e_u15⟩:∃ u,ρ 7=u:=⟨_,Z⟩
 have h5:=s.ov y 7 6 e_u15
 replace f_v0:=f_v0.stp s.stp
 replace f_v1:=f_v1.stp s.stp
 obtain ⟨B,j,d⟩:=s.s B C j q ⟨Z,N⟩
 replace q:=s.left y [(7,ob u15 (.vec w0.heap.size 9 eStr x13))] ⟨Z,Z,e_u15,Z,Z,N⟩
 obtain ⟨e16,c⟩:=zA4 c
 refine HT.u d j (eI y5::eI (y5+1)::eI (y5+1)::[]) ?_ ?_
 exact om h6<|op (fun Q U W H D=>zAN (D.g 0 Z) Z e16)<|oa<|oz
 intro R w m n p d j
 obtain ⟨h0,h1,h5⟩:=k3 n h0 h1 h5
 have h6:=p.r 2 Z
 replace f_v0:=f_v0.fr m
 replace f_v1:=f_v1.fr m
 replace q:=q.fr m
 exact ei k (And.intro (Nat.lt_succ_self k) ⟨_,_,_,u15,c,d,j,B,q,h0,h1,h5,h6,f_v0,f_v1⟩)
 have c:=zAL c11 c
 refine HT.skip ?_
 obtain ⟨e17,c⟩:=zA4 c
 refine HT.u d j (eI y5::eI (y5+1)::eI (y5+1)::[]) ?_ ?_
 exact om h6<|op (fun Q U W H D=>zAN (D.g 0 Z) Z e17)<|oa<|oz
 intro R w m n p d j
 obtain ⟨h0,h1,h5⟩:=k3 n h0 h1 h5
 have h6:=p.r 2 Z
 replace f_v0:=f_v0.fr m
 replace f_v1:=f_v1.fr m
 replace q:=q.fr m
 exact ei k (And.intro (Nat.lt_succ_self k) ⟨_,_,_,ul_u1,c,d,j,B,q,h0,h1,h5,h6,f_v0,f_v1⟩)
 have c:=zAL c7 c
 refine HT.exit ?_
 obtain rfl:=si c
 exact ei _ ⟨_,ul_u1,Z,d,j,B,q,h5⟩
 rintro R w ⟨A,s4,uo_u1,es,d,j,B,q,h5⟩
 obtain rfl:=es.symm
 refine HT.su d j (eR uo_u1::eR uo_u1::[]) ?_ ?_
 exact om h5<|oa<|oz
 intro R w m n p d j
 have h4:=p.r 1 Z
 replace q:=q.fr m
 refine HT.ret ?_
 obtain rfl:=si c
 exact ⟨.inr Z,[R 4],⟨Z,N⟩,(zCT (q.ok 0 _ Z) B h4),j⟩
theorem zFS {fu : Nat} {A0 : Av} {p0 : List (List UInt8)} {p1 : List (List UInt8)} {r : List (List UInt8)} (c : zBj fu p0 p1 = some r) {w : World} {v0 : Value} {v1 : Value} (d : AvOK A0 w) (h0 : Rep (eSl eStr) A0 w v0 p0) (h1 : Rep (eSl eStr) A0 w v1 p1) :
 Calls prog 116 #[v0,v1] w fun e w'=>∃ v,e = .returned v∧(Rep (eSl eStr) A0 w' v r∧Fr w w'):=by
 refine Calls.mono (zFq c d h0 h1) ?_
 rintro e w' ⟨v,he,hv,hf⟩
 exact ⟨v,he,zCD hv (fun b o h=>.inl h) d,hf⟩
end Go.Proofs.YtcodfkieaoomnaaGreatDoor
