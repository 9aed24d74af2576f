/- Own texts laid together. No statement of the seat is proved here. -/
import Derived.Test.YtcodfkieaoomnaaGreatDoorZq4
namespace Go.Proofs.YtcodfkieaoomnaaGreatDoor
open Go.RowKit
set_option linter.unusedVariables false
open _root_.Go.Proofs.Tryz
set_option maxRecDepth 100000
set_option maxHeartbeats 4000000
def zEf (fu:Nat) (p0:List UInt8) (p1:List UInt8):Option Bool:=
 bd ((decide ((p0.length:Int)≤40))&&(decide ((p1.length:Int)≤40))) fun x1=>
 some x1
theorem zHc {fu : Nat} {A : Av} {p0 : List UInt8} {p1 : List UInt8} {r : Bool} (c : zEf fu p0 p1 = some r) {w : World} {v0 : Value} {v1 : Value} (d : AvOK A w) (h0 : Rep eStr A w v0 p0) (h1 : Rep eStr A w v1 p1) :
 Calls prog 268 #[v0,v1] w fun e w'=>∃ v,e = .returned v∧(v = .bool r∧Fr w w'):=by
 unfold zEf at c
 obtain ⟨w0,hw0⟩:∃ w0,w0=w:=⟨_,Z⟩
 have j:Fr w0 w:=hw0 ▸ Fr.refl _
 rw [show Fr w=Fr w0 from hw0 ▸ Z]
 clear hw0
 refine zA2 [.tmp 4] func268 ntmps268 (by decide) Z Z (nb Z) ?_
 intro R hR
 have f_v0:=h0
 replace h0:R 0=v0:=hR 0 _ Z
 have f_v1:=h1
 replace h1:R 1=v1:=hR 1 _ Z
 clear hR
 refine HT.su d j (eB false::[]) ?_ ?_
 exact op (fun Q U W H D=>zA0 Z)<|oz
 intro R w m n p d j
 obtain ⟨h0,h1⟩:=k2 n h0 h1
 replace f_v0:=f_v0.fr m
 replace f_v1:=f_v1.fr m
 refine HT.seq ?_
 obtain ⟨x1,q2,c⟩:=zAB c
 refine HT.u d j (eR v0::eI (p0.length:Int)::eB (decide ((p0.length:Int)≤40))::eB (decide ((p0.length:Int)≤40))::gR (true&&((decide ((p0.length:Int)≤40))==true)) v1::gI (true&&((decide ((p0.length:Int)≤40))==true)) (p1.length:Int)::gB (true&&((decide ((p0.length:Int)≤40))==true)) (decide ((p1.length:Int)≤40))::eB x1::eB x1::[]) ?_ ?_
 exact om h0<|op (fun Q U W H D=>zAG ((f_v0.fr W).eq (D.g 0 Z)) underlying9)<|op (fun Q U W H D=>zDu (D.g 0 Z) Z)<|ov<|gm 3 true h1<|og 3 true (fun G Q U W H D=>zAG ((f_v1.fr W).eq (D.h 0 G Z)) underlying9)<|og 3 true (fun G Q U W H D=>zDu (D.h 0 G Z) Z)<|op (fun Q U W H D=>zAC (decide ((p0.length:Int)≤40)) (D.g 0 Z) (fun hc=>by have a1:Q 11 = .bool (decide ((p1.length:Int)≤40)):=D 1 _ _ _ Z Z Z Z (zAZ Z (zAM hc));show _=Value.bool x1;rw [q2,hc];exact a1) (fun hc=>by show _=Value.bool x1;rw [q2,hc];exact Z))<|oa<|oz
 intro R w m n p d j
 have h4:=p.r 8 Z
 refine HT.ret ?_
 obtain rfl:=si c
 exact ⟨.inr Z,[R 4],⟨Z,N⟩,h4,j⟩
def zAU (fu : Nat) (p0 : List UInt8) (p1 : List UInt8) (p2 : Bool) (y5 : Int) (y6 : List (List Int)) : Nat → Int → (List Int) → Option (List Int)
 | 0,_,_=>none
 | k+1,y15,y16=>
 bif (decide (y15≤(p1.length:Int))) then (
 bif (y5==0) then (
 ck (inR y15 y16.length) <|
 bd (p2&&(decide (1<y5))) fun x23=>
 bd (x23&&(decide (1<y15))) fun x25=>
 ck (!(true&&(x25==true)) || i64B (y5-1)) <|
 ck (!(true&&(x25==true)) || inR (y5-1) p0.length) <|
 ck (!(true&&(x25==true)) || i64B (y15-2)) <|
 ck (!(true&&(x25==true)) || inR (y15-2) p1.length) <|
 bd (x25&&((bAt p0 (y5-1))==(bAt p1 (y15-2)))) fun x31=>
 ck (!(true&&(x31==true)) || i64B (y5-2)) <|
 ck (!(true&&(x31==true)) || inR (y5-2) p0.length) <|
 ck (!(true&&(x31==true)) || i64B (y15-1)) <|
 ck (!(true&&(x31==true)) || inR (y15-1) p1.length) <|
 bd (x31&&((bAt p0 (y5-2))==(bAt p1 (y15-1)))) fun x37=>
 bif x37 then (
 ck (inR y15 (y16.set y15.toNat y15).length) <|
 ck (i64B (y5-2)) <|
 ck (inR (y5-2) y6.length) <|
 ck (i64B (y15-2)) <|
 ck (inR (y15-2) (gtD y6 (y5-2)).length) <|
 ck (i64B ((gtD (gtD y6 (y5-2)) (y15-2))+1)) <|
 ck (inR y15 (y16.set y15.toNat y15).length) <|
 ck (i64B (y15+1)) <|
 zAU fu p0 p1 p2 y5 y6 k (y15+1) ((y16.set y15.toNat y15).set y15.toNat (min (gtD (y16.set y15.toNat y15) y15) ((gtD (gtD y6 (y5-2)) (y15-2))+1)))
 ) else (
 ck (i64B (y15+1)) <|
 zAU fu p0 p1 p2 y5 y6 k (y15+1) (y16.set y15.toNat y15)
 )
 ) else (
 bif (y15==0) then (
 ck (inR y15 y16.length) <|
 bd (p2&&(decide (1<y5))) fun x58=>
 bd (x58&&(decide (1<y15))) fun x60=>
 ck (!(true&&(x60==true)) || i64B (y5-1)) <|
 ck (!(true&&(x60==true)) || inR (y5-1) p0.length) <|
 ck (!(true&&(x60==true)) || i64B (y15-2)) <|
 ck (!(true&&(x60==true)) || inR (y15-2) p1.length) <|
 bd (x60&&((bAt p0 (y5-1))==(bAt p1 (y15-2)))) fun x66=>
 ck (!(true&&(x66==true)) || i64B (y5-2)) <|
 ck (!(true&&(x66==true)) || inR (y5-2) p0.length) <|
 ck (!(true&&(x66==true)) || i64B (y15-1)) <|
 ck (!(true&&(x66==true)) || inR (y15-1) p1.length) <|
 bd (x66&&((bAt p0 (y5-2))==(bAt p1 (y15-1)))) fun x72=>
 bif x72 then (
 ck (inR y15 (y16.set y15.toNat y5).length) <|
 ck (i64B (y5-2)) <|
 ck (inR (y5-2) y6.length) <|
 ck (i64B (y15-2)) <|
 ck (inR (y15-2) (gtD y6 (y5-2)).length) <|
 ck (i64B ((gtD (gtD y6 (y5-2)) (y15-2))+1)) <|
 ck (inR y15 (y16.set y15.toNat y5).length) <|
 ck (i64B (y15+1)) <|
 zAU fu p0 p1 p2 y5 y6 k (y15+1) ((y16.set y15.toNat y5).set y15.toNat (min (gtD (y16.set y15.toNat y5) y15) ((gtD (gtD y6 (y5-2)) (y15-2))+1)))
 ) else (
 ck (i64B (y15+1)) <|
 zAU fu p0 p1 p2 y5 y6 k (y15+1) (y16.set y15.toNat y5)
 )
 ) else (
 ck (i64B (y5-1)) <|
 ck (inR (y5-1) p0.length) <|
 ck (i64B (y15-1)) <|
 ck (inR (y15-1) p1.length) <|
 bif ((bAt p0 (y5-1))==(bAt p1 (y15-1))) then (
 ck (i64B (y5-1)) <|
 ck (inR (y5-1) y6.length) <|
 ck (i64B (y15-1)) <|
 ck (inR (y15-1) (gtD y6 (y5-1)).length) <|
 ck (inR y15 y16.length) <|
 bd (p2&&(decide (1<y5))) fun x101=>
 bd (x101&&(decide (1<y15))) fun x103=>
 ck (!(true&&(x103==true)) || i64B (y5-1)) <|
 ck (!(true&&(x103==true)) || inR (y5-1) p0.length) <|
 ck (!(true&&(x103==true)) || i64B (y15-2)) <|
 ck (!(true&&(x103==true)) || inR (y15-2) p1.length) <|
 bd (x103&&((bAt p0 (y5-1))==(bAt p1 (y15-2)))) fun x109=>
 ck (!(true&&(x109==true)) || i64B (y5-2)) <|
 ck (!(true&&(x109==true)) || inR (y5-2) p0.length) <|
 ck (!(true&&(x109==true)) || i64B (y15-1)) <|
 ck (!(true&&(x109==true)) || inR (y15-1) p1.length) <|
 bd (x109&&((bAt p0 (y5-2))==(bAt p1 (y15-1)))) fun x115=>
 bif x115 then (
 ck (inR y15 (y16.set y15.toNat (gtD (gtD y6 (y5-1)) (y15-1))).length) <|
 ck (i64B (y5-2)) <|
 ck (inR (y5-2) y6.length) <|
 ck (i64B (y15-2)) <|
 ck (inR (y15-2) (gtD y6 (y5-2)).length) <|
 ck (i64B ((gtD (gtD y6 (y5-2)) (y15-2))+1)) <|
 ck (inR y15 (y16.set y15.toNat (gtD (gtD y6 (y5-1)) (y15-1))).length) <|
 ck (i64B (y15+1)) <|
 zAU fu p0 p1 p2 y5 y6 k (y15+1) ((y16.set y15.toNat (gtD (gtD y6 (y5-1)) (y15-1))).set y15.toNat (min (gtD (y16.set y15.toNat (gtD (gtD y6 (y5-1)) (y15-1))) y15) ((gtD (gtD y6 (y5-2)) (y15-2))+1)))
 ) else (
 ck (i64B (y15+1)) <|
 zAU fu p0 p1 p2 y5 y6 k (y15+1) (y16.set y15.toNat (gtD (gtD y6 (y5-1)) (y15-1)))
 )
 ) else (
 ck (i64B (y5-1)) <|
 ck (inR (y5-1) y6.length) <|
 ck (inR y15 (gtD y6 (y5-1)).length) <|
 ck (i64B (y15-1)) <|
 ck (inR (y15-1) y16.length) <|
 ck (i64B (y5-1)) <|
 ck (inR (y5-1) y6.length) <|
 ck (i64B (y15-1)) <|
 ck (inR (y15-1) (gtD y6 (y5-1)).length) <|
 ck (i64B (1+(min (min (gtD (gtD y6 (y5-1)) y15) (gtD y16 (y15-1))) (gtD (gtD y6 (y5-1)) (y15-1))))) <|
 ck (inR y15 y16.length) <|
 bd (p2&&(decide (1<y5))) fun x146=>
 bd (x146&&(decide (1<y15))) fun x148=>
 ck (!(true&&(x148==true)) || i64B (y5-1)) <|
 ck (!(true&&(x148==true)) || inR (y5-1) p0.length) <|
 ck (!(true&&(x148==true)) || i64B (y15-2)) <|
 ck (!(true&&(x148==true)) || inR (y15-2) p1.length) <|
 bd (x148&&((bAt p0 (y5-1))==(bAt p1 (y15-2)))) fun x154=>
 ck (!(true&&(x154==true)) || i64B (y5-2)) <|
 ck (!(true&&(x154==true)) || inR (y5-2) p0.length) <|
 ck (!(true&&(x154==true)) || i64B (y15-1)) <|
 ck (!(true&&(x154==true)) || inR (y15-1) p1.length) <|
 bd (x154&&((bAt p0 (y5-2))==(bAt p1 (y15-1)))) fun x160=>
 bif x160 then (
 ck (inR y15 (y16.set y15.toNat (1+(min (min (gtD (gtD y6 (y5-1)) y15) (gtD y16 (y15-1))) (gtD (gtD y6 (y5-1)) (y15-1))))).length) <|
 ck (i64B (y5-2)) <|
 ck (inR (y5-2) y6.length) <|
 ck (i64B (y15-2)) <|
 ck (inR (y15-2) (gtD y6 (y5-2)).length) <|
 ck (i64B ((gtD (gtD y6 (y5-2)) (y15-2))+1)) <|
 ck (inR y15 (y16.set y15.toNat (1+(min (min (gtD (gtD y6 (y5-1)) y15) (gtD y16 (y15-1))) (gtD (gtD y6 (y5-1)) (y15-1))))).length) <|
 ck (i64B (y15+1)) <|
 zAU fu p0 p1 p2 y5 y6 k (y15+1) ((y16.set y15.toNat (1+(min (min (gtD (gtD y6 (y5-1)) y15) (gtD y16 (y15-1))) (gtD (gtD y6 (y5-1)) (y15-1))))).set y15.toNat (min (gtD (y16.set y15.toNat (1+(min (min (gtD (gtD y6 (y5-1)) y15) (gtD y16 (y15-1))) (gtD (gtD y6 (y5-1)) (y15-1))))) y15) ((gtD (gtD y6 (y5-2)) (y15-2))+1)))
 ) else (
 ck (i64B (y15+1)) <|
 zAU fu p0 p1 p2 y5 y6 k (y15+1) (y16.set y15.toNat (1+(min (min (gtD (gtD y6 (y5-1)) y15) (gtD y16 (y15-1))) (gtD (gtD y6 (y5-1)) (y15-1)))))
 )
 )
 )
 )
 ) else (
 some y16
 )
def zBm (fu : Nat) (p0 : List UInt8) (p1 : List UInt8) (p2 : Bool) : Nat → Int → (List (List Int)) → Option (List (List Int))
 | 0,_,_=>none
 | k+1,y5,y6=>
 bif (decide (y5≤(p0.length:Int))) then (
 ck (i64B ((p1.length:Int)+1)) <|
 ck (mkOK ((p1.length:Int)+1)) <|
 cl true (zAU fu p0 p1 p2 y5 y6 fu 0 (List.replicate ((p1.length:Int)+1).toNat 0)) fun s14=>
 ck (zCV (y6.length+([s14]:List (List Int)).length)) <|
 ck (i64B (y5+1)) <|
 zBm fu p0 p1 p2 k (y5+1) (y6++([s14]:List (List Int)))
 ) else (
 some y6
 )
def zDC (fu:Nat) (p0:List UInt8) (p1:List UInt8) (p2:Bool):Option (List (List Int)):=
 cl true (zBm fu p0 p1 p2 fu 0 ([]:List (List Int))) fun s4=>
 some s4
theorem zHO {fu : Nat} {A0 : Av} {p0 : List UInt8} {p1 : List UInt8} {p2 : Bool} {r : List (List Int)} (c : zDC fu p0 p1 p2 = some r) {w : World} {v0 : Value} {v1 : Value} {v2 : Value} (d : AvOK A0 w) (h0 : Rep eStr A0 w v0 p0) (h1 : Rep eStr A0 w v1 p1) (h2 : v2 = .bool p2) :
 Calls prog 269 #[v0,v1,v2] w fun e w'=>∃ v,e = .returned v∧((Res.vec w.heap.size 27 (eSl (eInt .i64)) r).ok (addA A0 v) v w'∧Fr w w'):=by
 unfold zDC at c
 obtain ⟨w0,hw0⟩:∃ w0,w0=w:=⟨_,Z⟩
 have j:Fr w0 w:=hw0 ▸ Fr.refl _
 have C:∀ b o,A0 b o→b<w0.heap.size:=fun b o h=>hw0 ▸ d b o h
 have hA00:AvOK A0 w0:=C
 rw [show w.heap.size=w0.heap.size from hw0 ▸ Z]
 rw [show Fr w=Fr w0 from hw0 ▸ Z]
 clear hw0
 obtain ⟨A,hAe⟩:∃ A,A=A0:=⟨_,Z⟩
 have B:∀ b o,A0 b o→A b o:=fun b o h=>hAe ▸ h
 replace d:AvOK A w:=hAe ▸ d
 have q:IniOK [] A w:=IniOK.nil
 refine zA2 [.tmp 6] func269 ntmps269 (by decide) Z Z (nb Z) ?_
 intro R hR
 have f_v0:Rep eStr A w v0 p0:=hAe ▸ h0
 replace h0:R 0=v0:=hR 0 _ Z
 have f_v1:Rep eStr A w v1 p1:=hAe ▸ h1
 replace h1:R 1=v1:=hR 1 _ Z
 replace h2:R 2 = .bool p2:=(hR 2 _ Z).trans h2
 clear hR hAe
 refine HT.su d j (eA::[]) ?_ ?_
 exact op (fun Q U W H D=>zA0 N)<|oz
 intro R w m n p d j
 obtain ⟨h0,h1,h2⟩:=k3 n h0 h1 h2
 replace f_v0:=f_v0.fr m
 replace f_v1:=f_v1.fr m
 replace q:=q.fr m
 refine HT.sx [] (⟨_,true,[],some (.vec w0.heap.size 27 (eSl (eInt .i64)) ([]:List (List Int))),true,fun A=>.any⟩::⟨_,true,[0],some (.vec w0.heap.size 27 (eSl (eInt .i64)) ([]:List (List Int))),true,fun A=>.any⟩::[]) (ua (ua (UAll.nil))) q d ?_ ?_
 exact rc (OblR.made _ Z Z Z Z fun V Q U O D=>by exact zBb [] (E:=eSl (eInt .i64)) N underlying227 sizeOf27 zeroValue27 Z Z Z (Nat.le_trans j.size O.ch.size))<|rc (OblR.took 0 _ _ Z Z Z Z Z fun V Q U O D u hok hav hin hop hds=>by exact zAH (hop _ _ Z Z Z Z).symm hok hav)<|rz
 intro done ρ σ A R w y s
 obtain ⟨h0,h1,h2⟩:=k3 s.rg h0 h1 h2
 obtain ⟨u1,e_u1⟩:∃ u,ρ 1=u:=⟨_,Z⟩
 have h7:=s.ov y 1 1 e_u1
 replace f_v0:=f_v0.stp s.stp
 replace f_v1:=f_v1.stp s.stp
 obtain ⟨B,j,d⟩:=s.s B C j q N
 replace q:=s.left y [(1,ob u1 (.vec w0.heap.size 27 (eSl (eInt .i64)) ([]:List (List Int))))] ⟨Z,Z,e_u1,Z,Z,N⟩
 refine HT.seq ?_
 refine HT.su d j (eI 0::[]) ?_ ?_
 exact op (fun Q U W H D=>zA0 Z)<|oz
 intro R w m n p d j
 obtain ⟨h0,h1,h2,h7⟩:=k4 n h0 h1 h2 h7
 have h8:=p.r 0 Z
 replace f_v0:=f_v0.fr m
 replace f_v1:=f_v1.fr m
 replace q:=q.fr m
 obtain ⟨rl2,q3,c⟩:=zA3 c
 replace q3:=q3 Z
 refine HT.cut0 (fun R w=>∃ A:Av,∃ (s4:(List (List Int))) (uo_u1:Value),rl2=s4∧AvOK A w∧Fr w0 w∧(∀ b o,A0 b o→A b o)∧IniOK [ob uo_u1 (.vec w0.heap.size 27 (eSl (eInt .i64)) s4)] A w∧R 7=uo_u1) ?_ ?_
 refine HT.block ?_
 refine HT.loop (fun k R w=>∃ A:Av,∃ (y5:Int) (y6:List (List Int)) (ul_u1:Value),zBm fu p0 p1 p2 k y5 y6=some rl2∧AvOK A w∧Fr w0 w∧(∀ b o,A0 b o→A b o)∧IniOK [ob ul_u1 (.vec w0.heap.size 27 (eSl (eInt .i64)) y6)] A w∧R 0=v0∧R 1=v1∧R 2 = .bool p2∧R 7=ul_u1∧R 8 = .int .i64 y5∧Rep eStr A w v0 p0∧Rep eStr A w v1 p1) fu ⟨_,_,_,u1,q3,d,j,B,q,h0,h1,h2,h7,h8,f_v0,f_v1⟩ ?_
 have hr0:=c;clear c q3
 rintro k R w ⟨A,y5,y6,ul_u1,c,d,j,B,q,h0,h1,h2,h7,h8,f_v0,f_v1⟩
 rcases k with _ | k
 cases (show none=some _ from c)
 rw [zBm] at c
 refine HT.seq ?_
 refine HT.su d j (eI y5::eR v0::eI (p0.length:Int)::eB (decide (y5≤(p0.length:Int)))::[]) ?_ ?_
 exact om h8<|om h0<|op (fun Q U W H D=>zAG ((f_v0.fr W).eq (D.g 0 Z)) underlying9)<|op (fun Q U W H D=>zDu (D.g 0 Z) (D.g 1 Z))<|oz
 intro R w m n p d j
 obtain ⟨h0,h1,h2,h7,h8⟩:=k5 n h0 h1 h2 h7 h8
 have h15:=p.r 3 Z
 replace f_v0:=f_v0.fr m
 replace f_v1:=f_v1.fr m
 replace q:=q.fr m
 refine HT.cond (decide (y5≤(p0.length:Int))) h15 (fun c7=>?_) (fun c7=>?_)
 have c:=zAK c7 c
 refine HT.skip ?_
 refine HT.seq ?_
 refine HT.block ?_
 obtain ⟨e8,e9,c⟩:=ck2 c
 refine HT.sx [ob ul_u1 (.vec w0.heap.size 27 (eSl (eInt .i64)) y6)] (rR v1::rI (p1.length:Int)::rI ((p1.length:Int)+1)::⟨_,true,[],some (.vec w0.heap.size 3 (eInt .i64) (List.replicate ((p1.length:Int)+1).toNat 0)),true,fun A=>.any⟩::⟨_,true,[4],some (.vec w0.heap.size 3 (eInt .i64) (List.replicate ((p1.length:Int)+1).toNat 0)),true,fun A=>.any⟩::[]) (ur (ur (ur (ua (ua (UAll.nil)))))) q d ?_ ?_
 exact rm h1<|rp (fun V Q U O D=>zAG ((f_v1.stp O.stp).eq (D.g 0 Z)) underlying9)<|rp (fun V Q U O D=>zAN (D.g 0 Z) Z e8)<|rc (OblR.made _ Z Z Z Z fun V Q U O D=>by have a0:Q 20 = .int .i64 ((p1.length:Int)+1):=D.g 0 Z;have a1:Q 20 = .int .i64 ((p1.length:Int)+1):=D.g 0 Z;exact zI7 a0 a1 e9 underlying27 el_3 zeroValue3 (fun A w=>zDJ) (Nat.le_trans j.size O.ch.size))<|rc (OblR.took 4 _ _ Z Z Z Z Z fun V Q U O D u hok hav hin hop hds=>by exact zAH (hop _ _ Z Z Z Z).symm hok hav)<|rz
 intro done ρ σ A R w y s
 obtain ⟨h0,h1,h2,h7,h8⟩:=k5 s.rg h0 h1 h2 h7 h8
 have z10:=s.inivR 0 Z
 obtain ⟨u11,e_u11⟩:∃ u,ρ 5=u:=⟨_,Z⟩
 have h9:=s.ov y 5 4 e_u11
 replace f_v0:=f_v0.stp s.stp
 replace f_v1:=f_v1.stp s.stp
 obtain ⟨B,j,d⟩:=s.s B C j q ⟨Z,N⟩
 replace q:=s.left y [(0,ob ul_u1 (.vec w0.heap.size 27 (eSl (eInt .i64)) y6)),(5,ob u11 (.vec w0.heap.size 3 (eInt .i64) (List.replicate ((p1.length:Int)+1).toNat 0)))] ⟨Z,Z,z10,Z,Z,⟨Z,Z,e_u11,Z,Z,N⟩⟩
 refine HT.seq ?_
 refine HT.su d j (eI 0::[]) ?_ ?_
 exact op (fun Q U W H D=>zA0 Z)<|oz
 intro R w m n p d j
 obtain ⟨h0,h1,h2,h7,h8,h9⟩:=k6 n h0 h1 h2 h7 h8 h9
 have h10:=p.r 0 Z
 replace f_v0:=f_v0.fr m
 replace f_v1:=f_v1.fr m
 replace q:=q.fr m
 obtain ⟨rl12,q13,c⟩:=zA3 c
 replace q13:=q13 Z
 refine HT.cut0 (fun R w=>∃ A:Av,∃ (s14:(List Int)),rl12=s14∧AvOK A w∧Fr w0 w∧(∀ b o,A0 b o→A b o)∧IniOK [ob ul_u1 (.vec w0.heap.size 27 (eSl (eInt .i64)) y6),ob u11 (.vec w0.heap.size 3 (eInt .i64) s14)] A w∧R 0=v0∧R 1=v1∧R 2 = .bool p2∧R 7=ul_u1∧R 8 = .int .i64 y5∧R 9=u11∧Rep eStr A w v0 p0∧Rep eStr A w v1 p1) ?_ ?_
 refine HT.block ?_
 refine HT.loop (fun k R w=>∃ A:Av,∃ (y15:Int) (y16:List Int),zAU fu p0 p1 p2 y5 y6 k y15 y16=some rl12∧AvOK A w∧Fr w0 w∧(∀ b o,A0 b o→A b o)∧IniOK [ob ul_u1 (.vec w0.heap.size 27 (eSl (eInt .i64)) y6),ob u11 (.vec w0.heap.size 3 (eInt .i64) y16)] A w∧R 0=v0∧R 1=v1∧R 2 = .bool p2∧R 7=ul_u1∧R 8 = .int .i64 y5∧R 9=u11∧R 10 = .int .i64 y15∧Rep eStr A w v0 p0∧Rep eStr A w v1 p1) fu ⟨_,_,_,q13,d,j,B,q,h0,h1,h2,h7,h8,h9,h10,f_v0,f_v1⟩ ?_
 have hr0:=c;clear c q13
 rintro k R w ⟨A,y15,y16,c,d,j,B,q,h0,h1,h2,h7,h8,h9,h10,f_v0,f_v1⟩
 rcases k with _ | k
 cases (show none=some _ from c)
 rw [zAU] at c
 refine HT.seq ?_
 refine HT.su d j (eI y15::eR v1::eI (p1.length:Int)::eB (decide (y15≤(p1.length:Int)))::[]) ?_ ?_
 exact om h10<|om h1<|op (fun Q U W H D=>zAG ((f_v1.fr W).eq (D.g 0 Z)) underlying9)<|op (fun Q U W H D=>zDu (D.g 0 Z) (D.g 1 Z))<|oz
 intro R w m n p d j
 obtain ⟨h0,h1,h2,h7,h8,h9⟩:=k6 n h0 h1 h2 h7 h8 h9
 replace h10:=k1 n h10
 have h25:=p.r 3 Z
 replace f_v0:=f_v0.fr m
 replace f_v1:=f_v1.fr m
 replace q:=q.fr m
 refine HT.cond (decide (y15≤(p1.length:Int))) h25 (fun c17=>?_) (fun c17=>?_)
 have c:=zAK c17 c
 refine HT.skip ?_
 refine HT.seq ?_
 refine HT.block ?_
 refine HT.seq ?_
 refine HT.block ?_
 refine HT.su d j (eI y5::eB (y5==0)::eB (y5==0)::[]) ?_ ?_
 exact om h8<|op (fun Q U W H D=>zBA (D.g 0 Z) Z)<|oa<|oz
 intro R w m n p d j
 obtain ⟨h0,h1,h2,h7,h8,h9⟩:=k6 n h0 h1 h2 h7 h8 h9
 replace h10:=k1 n h10
 have h55:=p.r 2 Z
 replace f_v0:=f_v0.fr m
 replace f_v1:=f_v1.fr m
 replace q:=q.fr m
 refine HT.cond (y5==0) h55 (fun c18=>?_) (fun c18=>?_)
 have c:=zAK c18 c
 obtain ⟨e19,c⟩:=zA4 c
 refine HT.x [ob ul_u1 (.vec w0.heap.size 27 (eSl (eInt .i64)) y6),ob u11 (.vec w0.heap.size 3 (eInt .i64) y16)] (rR u11::rI y15::rI y15::rR (vptr u11 (y15.toNat*1))::⟨_,true,[1],some (.vec w0.heap.size 3 (eInt .i64) (y16.set y15.toNat y15)),false,fun A=>.any⟩::[]) (ur (ur (ur (ur (ua (UAll.nil)))))) q d ?_ ?_
 exact rm h9<|rm h10<|rm h10<|rp (fun V Q U O D=>zAF (q.ok 1 _ Z).1 (D.g 0 Z) (D.g 1 Z) underlying27 sizeOf3 e19 Z)<|rc (OblR.took 1 _ _ Z Z Z Z Z fun V Q U O D u hok hav hin hop hds=>by have a0:Q 61=(vptr u11 (y15.toNat*1)):=D.g 0 Z;have a1:Q 60 = .int .i64 y15:=D.g 1 Z;obtain rfl:=hin _ Z;exact zBY (zAe.eq a1) hok hav a0 e19 Z (FldS.id _) sizeOf3 Z)<|rz
 intro done ρ σ A R w y s
 obtain ⟨h0,h1,h2,h7,h8,h9⟩:=k6 s.rg h0 h1 h2 h7 h8 h9
 replace h10:=k1 s.rg h10
 have z20:=s.inivR 0 Z
 have z21:=s.inivR 1 Z
 have z22:=s.on y 6 4 Z Z Z Z Z z21
 replace f_v0:=f_v0.stp s.stp
 replace f_v1:=f_v1.stp s.stp
 obtain ⟨B,j,d⟩:=s.s B C j q ⟨Z,⟨Z,N⟩⟩
 replace q:=s.left y [(0,ob ul_u1 (.vec w0.heap.size 27 (eSl (eInt .i64)) y6)),(6,ob u11 (.vec w0.heap.size 3 (eInt .i64) (y16.set y15.toNat y15)))] ⟨Z,Z,z20,Z,Z,⟨Z,Z,z22,Z,Z,N⟩⟩
 refine HT.seq ?_
 obtain ⟨x23,q24,c⟩:=zAB c
 obtain ⟨x25,q26,c⟩:=zAB c
 obtain ⟨e27,e28,e29,e30,c⟩:=ck4 c
 obtain ⟨x31,q32,c⟩:=zAB c
 obtain ⟨e33,e34,e35,e36,c⟩:=ck4 c
 obtain ⟨x37,q38,c⟩:=zAB c
 refine HT.draw (by kernel_rfl) (l:=eB p2::eB p2::gI (true&&(p2==true)) y5::gB (true&&(p2==true)) (decide (1<y5))::eB x23::eB x23::gI (true&&(x23==true)) y15::gB (true&&(x23==true)) (decide (1<y15))::eB x25::eB x25::gR (true&&(x25==true)) v0::gI (true&&(x25==true)) y5::gI (true&&(x25==true)) (y5-1)::gU (true&&(x25==true)) (bAt p0 (y5-1))::gR (true&&(x25==true)) v1::gI (true&&(x25==true)) y15::gI (true&&(x25==true)) (y15-2)::gU (true&&(x25==true)) (bAt p1 (y15-2))::gB (true&&(x25==true)) ((bAt p0 (y5-1))==(bAt p1 (y15-2)))::eB x31::eB x31::gR (true&&(x31==true)) v0::gI (true&&(x31==true)) y5::gI (true&&(x31==true)) (y5-2)::gU (true&&(x31==true)) (bAt p0 (y5-2))::gR (true&&(x31==true)) v1::gI (true&&(x31==true)) y15::gI (true&&(x31==true)) (y15-1)::gU (true&&(x31==true)) (bAt p1 (y15-1))::gB (true&&(x31==true)) ((bAt p0 (y5-2))==(bAt p1 (y15-1)))::eB x37::[]) (tl:=[]) (by kernel_rfl) (by kernel_rfl) (by kernel_rfl) (by kernel_rfl) ?_ ?_
 exact om h2<|ov<|gm 1 true h8<|og 1 true (fun G Q U W H D=>zCM (D.h 0 G Z) Z)<|op (fun Q U W H D=>zAC p2 (D.g 0 Z) (fun hc=>by have a1:Q 94 = .bool (decide (1<y5)):=D 1 _ _ _ Z Z Z Z (zAZ Z (zAM hc));show _=Value.bool x23;rw [q24,hc];exact a1) (fun hc=>by show _=Value.bool x23;rw [q24,hc];exact Z))<|ov<|gm 5 true h10<|og 5 true (fun G Q U W H D=>zCM (D.h 0 G Z) Z)<|op (fun Q U W H D=>zAC x23 (D.g 0 Z) (fun hc=>by have a1:Q 98 = .bool (decide (1<y15)):=D 1 _ _ _ Z Z Z Z (zAZ Z (zAM hc));show _=Value.bool x25;rw [q26,hc];exact a1) (fun hc=>by show _=Value.bool x25;rw [q26,hc];exact Z))<|ov<|gm 9 true h0<|gm 9 true h8<|og 9 true (fun G Q U W H D=>zAX (D.h 0 G Z) Z (gd e27 G))<|og 9 true (fun G Q U W H D=>zA8 ((f_v0.fr W).eq (D.h 0 G Z)) (D.h 1 G Z) underlying9 (gd e28 G))<|gm 9 true h1<|gm 9 true h10<|og 9 true (fun G Q U W H D=>zAX (D.h 0 G Z) Z (gd e29 G))<|og 9 true (fun G Q U W H D=>zA8 ((f_v1.fr W).eq (D.h 0 G Z)) (D.h 1 G Z) underlying9 (gd e30 G))<|og 9 true (fun G Q U W H D=>zBA (D.h 0 G Z) (D.h 1 G Z))<|op (fun Q U W H D=>zAC x25 (D.g 0 Z) (fun hc=>by have a1:Q 109 = .bool ((bAt p0 (y5-1))==(bAt p1 (y15-2))):=D 1 _ _ _ Z Z Z Z (zAZ Z (zAM hc));show _=Value.bool x31;rw [q32,hc];exact a1) (fun hc=>by show _=Value.bool x31;rw [q32,hc];exact Z))<|ov<|gm 20 true h0<|gm 20 true h8<|og 20 true (fun G Q U W H D=>zAX (D.h 0 G Z) Z (gd e33 G))<|og 20 true (fun G Q U W H D=>zA8 ((f_v0.fr W).eq (D.h 0 G Z)) (D.h 1 G Z) underlying9 (gd e34 G))<|gm 20 true h1<|gm 20 true h10<|og 20 true (fun G Q U W H D=>zAX (D.h 0 G Z) Z (gd e35 G))<|og 20 true (fun G Q U W H D=>zA8 ((f_v1.fr W).eq (D.h 0 G Z)) (D.h 1 G Z) underlying9 (gd e36 G))<|og 20 true (fun G Q U W H D=>zBA (D.h 0 G Z) (D.h 1 G Z))<|op (fun Q U W H D=>zAC x31 (D.g 0 Z) (fun hc=>by have a1:Q 120 = .bool ((bAt p0 (y5-2))==(bAt p1 (y15-1))):=D 1 _ _ _ Z Z Z Z (zAZ Z (zAM hc));show _=Value.bool x37;rw [q38,hc];exact a1) (fun hc=>by show _=Value.bool x37;rw [q38,hc];exact Z))<|oz
 intro R w m n p
 obtain ⟨h0,h1,h2,h7,h8,h9⟩:=k6 n h0 h1 h2 h7 h8 h9
 replace h10:=k1 n h10
 have h121:=p.r 30 Z
 replace f_v0:=f_v0.fr m
 replace f_v1:=f_v1.fr m
 replace q:=q.fr m
 replace d:=d.fr m.size
 replace j:=j.trans m
 refine HT.cond x37 h121 (fun c39=>?_) (fun c39=>?_)
 have c:=zAK c39 c
 obtain ⟨e40,e41,e42,e43,c⟩:=ck4 c
 obtain ⟨e44,e45,e46,c⟩:=ck3 c
 refine HT.drawR [ob ul_u1 (.vec w0.heap.size 27 (eSl (eInt .i64)) y6),ob u11 (.vec w0.heap.size 3 (eInt .i64) (y16.set y15.toNat y15))] (rR u11::rI y15::rR u11::rI y15::rR (vptr u11 (y15.toNat*1))::rI (gtD (y16.set y15.toNat y15) y15)::rR ul_u1::rI y5::rI (y5-2)::rR (vptr ul_u1 ((y5-2).toNat*1))::(rF fun A=>.rep (eSl (eInt .i64)) A (gtD y6 (y5-2)))::rI y15::rI (y15-2)::(rF fun A=>.qtr (eInt .i64) A (gtD (gtD y6 (y5-2)) (y15-2)))::rI (gtD (gtD y6 (y5-2)) (y15-2))::rI ((gtD (gtD y6 (y5-2)) (y15-2))+1)::rI (min (gtD (y16.set y15.toNat y15) y15) ((gtD (gtD y6 (y5-2)) (y15-2))+1))::rR (vptr u11 (y15.toNat*1))::⟨_,true,[1],some (.vec w0.heap.size 3 (eInt .i64) ((y16.set y15.toNat y15).set y15.toNat (min (gtD (y16.set y15.toNat y15) y15) ((gtD (gtD y6 (y5-2)) (y15-2))+1)))),false,fun A=>.any⟩::[]) (by kernel_rfl) (by kernel_rfl) (by kernel_rfl) (Wf.mk' (by kernel_rfl) (ur (ur (ur (ur (ur (ur (ur (ur (ur (ur (up (ur (ur (UAll.cons zBG (ur (ur (ur (ur (ua (UAll.nil)))))))))))))))))))) (by kernel_rfl) (by kernel_rfl)) q d ?_ ?_
 exact rm h9<|rm h10<|rm h9<|rm h10<|rp (fun V Q U O D=>zAF (q.ok 1 _ Z).1 (D.g 0 Z) (D.g 1 Z) underlying27 sizeOf3 e40 Z)<|rp (fun V Q U O D=>OpF.int (zAs (O.rd 1 _ Z Z) (D.g 0 Z) e40 Z (Fld.id _) Z isAgg3 sizeOf3))<|rm h7<|rm h8<|rp (fun V Q U O D=>zAX (D.g 0 Z) Z e41)<|rp (fun V Q U O D=>zAF (q.ok 0 _ Z).1 (D.g 0 Z) (D.g 1 Z) underlying227 sizeOf27 e42 Z)<|rp (fun V Q U O D=>(zAs (O.rd 0 _ Z Z) (D.g 0 Z) e42 Z (Fld.id _) Z isAgg27 sizeOf27))<|rm h10<|rp (fun V Q U O D=>zAX (D.g 0 Z) Z e43)<|rp (fun V Q U O D=>zA7 (D.g 0 Z) (D.g 1 Z) underlying27 sizeOf3 e44)<|rp (fun V Q U O D=>OpF.int (zAQ (QRep.ptr (D.g 0 Z)) isAgg3 sizeOf3))<|rp (fun V Q U O D=>zAN (D.g 0 Z) Z e45)<|rp (fun V Q U O D=>zGh (D.g 0 Z) (D.g 1 Z))<|rp (fun V Q U O D=>zAF (q.ok 1 _ Z).1 (D.g 0 Z) (D.g 1 Z) underlying27 sizeOf3 e46 Z)<|rc (OblR.took 1 _ _ Z Z Z Z Z fun V Q U O D u hok hav hin hop hds=>by have a0:Q 139=(vptr u11 (y15.toNat*1)):=D.g 0 Z;have a1:Q 138 = .int .i64 (min (gtD (y16.set y15.toNat y15) y15) ((gtD (gtD y6 (y5-2)) (y15-2))+1)):=D.g 1 Z;obtain rfl:=hin _ Z;exact zBY (zAe.eq a1) hok hav a0 e46 Z (FldS.id _) sizeOf3 Z)<|rz
 intro done ρ σ A R w y s
 obtain ⟨h0,h1,h2,h7,h8,h9⟩:=k6 s.rg h0 h1 h2 h7 h8 h9
 replace h10:=k1 s.rg h10
 have z47:=s.inivR 0 Z
 have z48:=s.inivR 1 Z
 have z49:=s.on y 20 18 Z Z Z Z Z z48
 replace f_v0:=f_v0.stp s.stp
 replace f_v1:=f_v1.stp s.stp
 obtain ⟨B,j,d⟩:=s.s B C j q ⟨Z,⟨Z,N⟩⟩
 replace q:=s.left y [(0,ob ul_u1 (.vec w0.heap.size 27 (eSl (eInt .i64)) y6)),(20,ob u11 (.vec w0.heap.size 3 (eInt .i64) ((y16.set y15.toNat y15).set y15.toNat (min (gtD (y16.set y15.toNat y15) y15) ((gtD (gtD y6 (y5-2)) (y15-2))+1)))))] ⟨Z,Z,z47,Z,Z,⟨Z,Z,z49,Z,Z,N⟩⟩
 obtain ⟨Yg49,g_Yg49⟩:∃ z,z=((y16.set y15.toNat y15).set y15.toNat (min (gtD (y16.set y15.toNat y15) y15) ((gtD (gtD y6 (y5-2)) (y15-2))+1))):=⟨_,Z⟩
 rw [← g_Yg49] at q
 try rw [← g_Yg49] at c
 obtain ⟨e51,c⟩:=zA4 c
 refine HT.u d j (eI y15::eI (y15+1)::eI (y15+1)::[]) ?_ ?_
 exact om h10<|op (fun Q U W H D=>zAN (D.g 0 Z) Z e51)<|oa<|oz
 intro R w m n p d j
 obtain ⟨h0,h1,h2,h7,h8,h9⟩:=k6 n h0 h1 h2 h7 h8 h9
 have h10:=p.r 2 Z
 replace f_v0:=f_v0.fr m
 replace f_v1:=f_v1.fr m
 replace q:=q.fr m
 exact ei k (And.intro (Nat.lt_succ_self k) ⟨_,_,_,c,d,j,B,q,h0,h1,h2,h7,h8,h9,h10,f_v0,f_v1⟩)
 have c:=zAL c39 c
 refine HT.skip ?_
 obtain ⟨e52,c⟩:=zA4 c
 refine HT.u d j (eI y15::eI (y15+1)::eI (y15+1)::[]) ?_ ?_
 exact om h10<|op (fun Q U W H D=>zAN (D.g 0 Z) Z e52)<|oa<|oz
 intro R w m n p d j
 obtain ⟨h0,h1,h2,h7,h8,h9⟩:=k6 n h0 h1 h2 h7 h8 h9
 have h10:=p.r 2 Z
 replace f_v0:=f_v0.fr m
 replace f_v1:=f_v1.fr m
 replace q:=q.fr m
 exact ei k (And.intro (Nat.lt_succ_self k) ⟨_,_,_,c,d,j,B,q,h0,h1,h2,h7,h8,h9,h10,f_v0,f_v1⟩)
 have c:=zAL c18 c
 refine HT.su d j (eI y15::eB (y15==0)::eB (y15==0)::[]) ?_ ?_
 exact om h10<|op (fun Q U W H D=>zBA (D.g 0 Z) Z)<|oa<|oz
 intro R w m n p d j
 obtain ⟨h0,h1,h2,h7,h8,h9⟩:=k6 n h0 h1 h2 h7 h8 h9
 replace h10:=k1 n h10
 have h62:=p.r 2 Z
 replace f_v0:=f_v0.fr m
 replace f_v1:=f_v1.fr m
 replace q:=q.fr m
 refine HT.cond (y15==0) h62 (fun c53=>?_) (fun c53=>?_)
 have c:=zAK c53 c
 obtain ⟨e54,c⟩:=zA4 c
 refine HT.x [ob ul_u1 (.vec w0.heap.size 27 (eSl (eInt .i64)) y6),ob u11 (.vec w0.heap.size 3 (eInt .i64) y16)] (rR u11::rI y15::rI y5::rR (vptr u11 (y15.toNat*1))::⟨_,true,[1],some (.vec w0.heap.size 3 (eInt .i64) (y16.set y15.toNat y5)),false,fun A=>.any⟩::[]) (ur (ur (ur (ur (ua (UAll.nil)))))) q d ?_ ?_
 exact rm h9<|rm h10<|rm h8<|rp (fun V Q U O D=>zAF (q.ok 1 _ Z).1 (D.g 0 Z) (D.g 1 Z) underlying27 sizeOf3 e54 Z)<|rc (OblR.took 1 _ _ Z Z Z Z Z fun V Q U O D u hok hav hin hop hds=>by have a0:Q 68=(vptr u11 (y15.toNat*1)):=D.g 0 Z;have a1:Q 67 = .int .i64 y5:=D.g 1 Z;obtain rfl:=hin _ Z;exact zBY (zAe.eq a1) hok hav a0 e54 Z (FldS.id _) sizeOf3 Z)<|rz
 intro done ρ σ A R w y s
 obtain ⟨h0,h1,h2,h7,h8,h9⟩:=k6 s.rg h0 h1 h2 h7 h8 h9
 replace h10:=k1 s.rg h10
 have z55:=s.inivR 0 Z
 have z56:=s.inivR 1 Z
 have z57:=s.on y 6 4 Z Z Z Z Z z56
 replace f_v0:=f_v0.stp s.stp
 replace f_v1:=f_v1.stp s.stp
 obtain ⟨B,j,d⟩:=s.s B C j q ⟨Z,⟨Z,N⟩⟩
 replace q:=s.left y [(0,ob ul_u1 (.vec w0.heap.size 27 (eSl (eInt .i64)) y6)),(6,ob u11 (.vec w0.heap.size 3 (eInt .i64) (y16.set y15.toNat y5)))] ⟨Z,Z,z55,Z,Z,⟨Z,Z,z57,Z,Z,N⟩⟩
 refine HT.seq ?_
 obtain ⟨x58,q59,c⟩:=zAB c
 obtain ⟨x60,q61,c⟩:=zAB c
 obtain ⟨e62,e63,e64,e65,c⟩:=ck4 c
 obtain ⟨x66,q67,c⟩:=zAB c
 obtain ⟨e68,e69,e70,e71,c⟩:=ck4 c
 obtain ⟨x72,q73,c⟩:=zAB c
 refine HT.draw (by kernel_rfl) (l:=eB p2::eB p2::gI (true&&(p2==true)) y5::gB (true&&(p2==true)) (decide (1<y5))::eB x58::eB x58::gI (true&&(x58==true)) y15::gB (true&&(x58==true)) (decide (1<y15))::eB x60::eB x60::gR (true&&(x60==true)) v0::gI (true&&(x60==true)) y5::gI (true&&(x60==true)) (y5-1)::gU (true&&(x60==true)) (bAt p0 (y5-1))::gR (true&&(x60==true)) v1::gI (true&&(x60==true)) y15::gI (true&&(x60==true)) (y15-2)::gU (true&&(x60==true)) (bAt p1 (y15-2))::gB (true&&(x60==true)) ((bAt p0 (y5-1))==(bAt p1 (y15-2)))::eB x66::eB x66::gR (true&&(x66==true)) v0::gI (true&&(x66==true)) y5::gI (true&&(x66==true)) (y5-2)::gU (true&&(x66==true)) (bAt p0 (y5-2))::gR (true&&(x66==true)) v1::gI (true&&(x66==true)) y15::gI (true&&(x66==true)) (y15-1)::gU (true&&(x66==true)) (bAt p1 (y15-1))::gB (true&&(x66==true)) ((bAt p0 (y5-2))==(bAt p1 (y15-1)))::eB x72::[]) (tl:=[]) (by kernel_rfl) (by kernel_rfl) (by kernel_rfl) (by kernel_rfl) ?_ ?_
 exact om h2<|ov<|gm 1 true h8<|og 1 true (fun G Q U W H D=>zCM (D.h 0 G Z) Z)<|op (fun Q U W H D=>zAC p2 (D.g 0 Z) (fun hc=>by have a1:Q 94 = .bool (decide (1<y5)):=D 1 _ _ _ Z Z Z Z (zAZ Z (zAM hc));show _=Value.bool x58;rw [q59,hc];exact a1) (fun hc=>by show _=Value.bool x58;rw [q59,hc];exact Z))<|ov<|gm 5 true h10<|og 5 true (fun G Q U W H D=>zCM (D.h 0 G Z) Z)<|op (fun Q U W H D=>zAC x58 (D.g 0 Z) (fun hc=>by have a1:Q 98 = .bool (decide (1<y15)):=D 1 _ _ _ Z Z Z Z (zAZ Z (zAM hc));show _=Value.bool x60;rw [q61,hc];exact a1) (fun hc=>by show _=Value.bool x60;rw [q61,hc];exact Z))<|ov<|gm 9 true h0<|gm 9 true h8<|og 9 true (fun G Q U W H D=>zAX (D.h 0 G Z) Z (gd e62 G))<|og 9 true (fun G Q U W H D=>zA8 ((f_v0.fr W).eq (D.h 0 G Z)) (D.h 1 G Z) underlying9 (gd e63 G))<|gm 9 true h1<|gm 9 true h10<|og 9 true (fun G Q U W H D=>zAX (D.h 0 G Z) Z (gd e64 G))<|og 9 true (fun G Q U W H D=>zA8 ((f_v1.fr W).eq (D.h 0 G Z)) (D.h 1 G Z) underlying9 (gd e65 G))<|og 9 true (fun G Q U W H D=>zBA (D.h 0 G Z) (D.h 1 G Z))<|op (fun Q U W H D=>zAC x60 (D.g 0 Z) (fun hc=>by have a1:Q 109 = .bool ((bAt p0 (y5-1))==(bAt p1 (y15-2))):=D 1 _ _ _ Z Z Z Z (zAZ Z (zAM hc));show _=Value.bool x66;rw [q67,hc];exact a1) (fun hc=>by show _=Value.bool x66;rw [q67,hc];exact Z))<|ov<|gm 20 true h0<|gm 20 true h8<|og 20 true (fun G Q U W H D=>zAX (D.h 0 G Z) Z (gd e68 G))<|og 20 true (fun G Q U W H D=>zA8 ((f_v0.fr W).eq (D.h 0 G Z)) (D.h 1 G Z) underlying9 (gd e69 G))<|gm 20 true h1<|gm 20 true h10<|og 20 true (fun G Q U W H D=>zAX (D.h 0 G Z) Z (gd e70 G))<|og 20 true (fun G Q U W H D=>zA8 ((f_v1.fr W).eq (D.h 0 G Z)) (D.h 1 G Z) underlying9 (gd e71 G))<|og 20 true (fun G Q U W H D=>zBA (D.h 0 G Z) (D.h 1 G Z))<|op (fun Q U W H D=>zAC x66 (D.g 0 Z) (fun hc=>by have a1:Q 120 = .bool ((bAt p0 (y5-2))==(bAt p1 (y15-1))):=D 1 _ _ _ Z Z Z Z (zAZ Z (zAM hc));show _=Value.bool x72;rw [q73,hc];exact a1) (fun hc=>by show _=Value.bool x72;rw [q73,hc];exact Z))<|oz
 intro R w m n p
 obtain ⟨h0,h1,h2,h7,h8,h9⟩:=k6 n h0 h1 h2 h7 h8 h9
 replace h10:=k1 n h10
 have h121:=p.r 30 Z
 replace f_v0:=f_v0.fr m
 replace f_v1:=f_v1.fr m
 replace q:=q.fr m
 replace d:=d.fr m.size
 replace j:=j.trans m
 refine HT.cond x72 h121 (fun c74=>?_) (fun c74=>?_)
 have c:=zAK c74 c
 obtain ⟨e75,e76,e77,e78,c⟩:=ck4 c
 obtain ⟨e79,e80,e81,c⟩:=ck3 c
 refine HT.drawR [ob ul_u1 (.vec w0.heap.size 27 (eSl (eInt .i64)) y6),ob u11 (.vec w0.heap.size 3 (eInt .i64) (y16.set y15.toNat y5))] (rR u11::rI y15::rR u11::rI y15::rR (vptr u11 (y15.toNat*1))::rI (gtD (y16.set y15.toNat y5) y15)::rR ul_u1::rI y5::rI (y5-2)::rR (vptr ul_u1 ((y5-2).toNat*1))::(rF fun A=>.rep (eSl (eInt .i64)) A (gtD y6 (y5-2)))::rI y15::rI (y15-2)::(rF fun A=>.qtr (eInt .i64) A (gtD (gtD y6 (y5-2)) (y15-2)))::rI (gtD (gtD y6 (y5-2)) (y15-2))::rI ((gtD (gtD y6 (y5-2)) (y15-2))+1)::rI (min (gtD (y16.set y15.toNat y5) y15) ((gtD (gtD y6 (y5-2)) (y15-2))+1))::rR (vptr u11 (y15.toNat*1))::⟨_,true,[1],some (.vec w0.heap.size 3 (eInt .i64) ((y16.set y15.toNat y5).set y15.toNat (min (gtD (y16.set y15.toNat y5) y15) ((gtD (gtD y6 (y5-2)) (y15-2))+1)))),false,fun A=>.any⟩::[]) (by kernel_rfl) (by kernel_rfl) (by kernel_rfl) (Wf.mk' (by kernel_rfl) (ur (ur (ur (ur (ur (ur (ur (ur (ur (ur (up (ur (ur (UAll.cons zBG (ur (ur (ur (ur (ua (UAll.nil)))))))))))))))))))) (by kernel_rfl) (by kernel_rfl)) q d ?_ ?_
 exact rm h9<|rm h10<|rm h9<|rm h10<|rp (fun V Q U O D=>zAF (q.ok 1 _ Z).1 (D.g 0 Z) (D.g 1 Z) underlying27 sizeOf3 e75 Z)<|rp (fun V Q U O D=>OpF.int (zAs (O.rd 1 _ Z Z) (D.g 0 Z) e75 Z (Fld.id _) Z isAgg3 sizeOf3))<|rm h7<|rm h8<|rp (fun V Q U O D=>zAX (D.g 0 Z) Z e76)<|rp (fun V Q U O D=>zAF (q.ok 0 _ Z).1 (D.g 0 Z) (D.g 1 Z) underlying227 sizeOf27 e77 Z)<|rp (fun V Q U O D=>(zAs (O.rd 0 _ Z Z) (D.g 0 Z) e77 Z (Fld.id _) Z isAgg27 sizeOf27))<|rm h10<|rp (fun V Q U O D=>zAX (D.g 0 Z) Z e78)<|rp (fun V Q U O D=>zA7 (D.g 0 Z) (D.g 1 Z) underlying27 sizeOf3 e79)<|rp (fun V Q U O D=>OpF.int (zAQ (QRep.ptr (D.g 0 Z)) isAgg3 sizeOf3))<|rp (fun V Q U O D=>zAN (D.g 0 Z) Z e80)<|rp (fun V Q U O D=>zGh (D.g 0 Z) (D.g 1 Z))<|rp (fun V Q U O D=>zAF (q.ok 1 _ Z).1 (D.g 0 Z) (D.g 1 Z) underlying27 sizeOf3 e81 Z)<|rc (OblR.took 1 _ _ Z Z Z Z Z fun V Q U O D u hok hav hin hop hds=>by have a0:Q 139=(vptr u11 (y15.toNat*1)):=D.g 0 Z;have a1:Q 138 = .int .i64 (min (gtD (y16.set y15.toNat y5) y15) ((gtD (gtD y6 (y5-2)) (y15-2))+1)):=D.g 1 Z;obtain rfl:=hin _ Z;exact zBY (zAe.eq a1) hok hav a0 e81 Z (FldS.id _) sizeOf3 Z)<|rz
 intro done ρ σ A R w y s
 obtain ⟨h0,h1,h2,h7,h8,h9⟩:=k6 s.rg h0 h1 h2 h7 h8 h9
 replace h10:=k1 s.rg h10
 have z82:=s.inivR 0 Z
 have z83:=s.inivR 1 Z
 have z84:=s.on y 20 18 Z Z Z Z Z z83
 replace f_v0:=f_v0.stp s.stp
 replace f_v1:=f_v1.stp s.stp
 obtain ⟨B,j,d⟩:=s.s B C j q ⟨Z,⟨Z,N⟩⟩
 replace q:=s.left y [(0,ob ul_u1 (.vec w0.heap.size 27 (eSl (eInt .i64)) y6)),(20,ob u11 (.vec w0.heap.size 3 (eInt .i64) ((y16.set y15.toNat y5).set y15.toNat (min (gtD (y16.set y15.toNat y5) y15) ((gtD (gtD y6 (y5-2)) (y15-2))+1)))))] ⟨Z,Z,z82,Z,Z,⟨Z,Z,z84,Z,Z,N⟩⟩
 obtain ⟨Yg84,g_Yg84⟩:∃ z,z=((y16.set y15.toNat y5).set y15.toNat (min (gtD (y16.set y15.toNat y5) y15) ((gtD (gtD y6 (y5-2)) (y15-2))+1))):=⟨_,Z⟩
 rw [← g_Yg84] at q
 try rw [← g_Yg84] at c
 obtain ⟨e86,c⟩:=zA4 c
 refine HT.u d j (eI y15::eI (y15+1)::eI (y15+1)::[]) ?_ ?_
 exact om h10<|op (fun Q U W H D=>zAN (D.g 0 Z) Z e86)<|oa<|oz
 intro R w m n p d j
 obtain ⟨h0,h1,h2,h7,h8,h9⟩:=k6 n h0 h1 h2 h7 h8 h9
 have h10:=p.r 2 Z
 replace f_v0:=f_v0.fr m
 replace f_v1:=f_v1.fr m
 replace q:=q.fr m
 exact ei k (And.intro (Nat.lt_succ_self k) ⟨_,_,_,c,d,j,B,q,h0,h1,h2,h7,h8,h9,h10,f_v0,f_v1⟩)
 have c:=zAL c74 c
 refine HT.skip ?_
 obtain ⟨e87,c⟩:=zA4 c
 refine HT.u d j (eI y15::eI (y15+1)::eI (y15+1)::[]) ?_ ?_
 exact om h10<|op (fun Q U W H D=>zAN (D.g 0 Z) Z e87)<|oa<|oz
 intro R w m n p d j
 obtain ⟨h0,h1,h2,h7,h8,h9⟩:=k6 n h0 h1 h2 h7 h8 h9
 have h10:=p.r 2 Z
 replace f_v0:=f_v0.fr m
 replace f_v1:=f_v1.fr m
 replace q:=q.fr m
 exact ei k (And.intro (Nat.lt_succ_self k) ⟨_,_,_,c,d,j,B,q,h0,h1,h2,h7,h8,h9,h10,f_v0,f_v1⟩)
 have c:=zAL c53 c
 refine HT.seq ?_
 obtain ⟨e88,e89,e90,e91,c⟩:=ck4 c
 refine HT.draw (by kernel_rfl) (l:=eR v0::eI y5::eI (y5-1)::eU (bAt p0 (y5-1))::eR v1::eI y15::eI (y15-1)::eU (bAt p1 (y15-1))::eB ((bAt p0 (y5-1))==(bAt p1 (y15-1)))::eB ((bAt p0 (y5-1))==(bAt p1 (y15-1)))::[]) (tl:=[]) (by kernel_rfl) (by kernel_rfl) (by kernel_rfl) (by kernel_rfl) ?_ ?_
 exact om h0<|om h8<|op (fun Q U W H D=>zAX (D.g 0 Z) Z e88)<|op (fun Q U W H D=>zA8 ((f_v0.fr W).eq (D.g 0 Z)) (D.g 1 Z) underlying9 e89)<|om h1<|om h10<|op (fun Q U W H D=>zAX (D.g 0 Z) Z e90)<|op (fun Q U W H D=>zA8 ((f_v1.fr W).eq (D.g 0 Z)) (D.g 1 Z) underlying9 e91)<|op (fun Q U W H D=>zBA (D.g 0 Z) (D.g 1 Z))<|oa<|oz
 intro R w m n p
 obtain ⟨h0,h1,h2,h7,h8,h9⟩:=k6 n h0 h1 h2 h7 h8 h9
 replace h10:=k1 n h10
 have h69:=p.r 9 Z
 replace f_v0:=f_v0.fr m
 replace f_v1:=f_v1.fr m
 replace q:=q.fr m
 replace d:=d.fr m.size
 replace j:=j.trans m
 refine HT.cond ((bAt p0 (y5-1))==(bAt p1 (y15-1))) h69 (fun c92=>?_) (fun c92=>?_)
 have c:=zAK c92 c
 obtain ⟨e93,e94,e95,e96,c⟩:=ck4 c
 obtain ⟨e97,c⟩:=zA4 c
 refine HT.x [ob ul_u1 (.vec w0.heap.size 27 (eSl (eInt .i64)) y6),ob u11 (.vec w0.heap.size 3 (eInt .i64) y16)] (rR u11::rI y15::rR ul_u1::rI y5::rI (y5-1)::rR (vptr ul_u1 ((y5-1).toNat*1))::(rF fun A=>.rep (eSl (eInt .i64)) A (gtD y6 (y5-1)))::rI y15::rI (y15-1)::(rF fun A=>.qtr (eInt .i64) A (gtD (gtD y6 (y5-1)) (y15-1)))::rI (gtD (gtD y6 (y5-1)) (y15-1))::rR (vptr u11 (y15.toNat*1))::⟨_,true,[1],some (.vec w0.heap.size 3 (eInt .i64) (y16.set y15.toNat (gtD (gtD y6 (y5-1)) (y15-1)))),false,fun A=>.any⟩::[]) (ur (ur (ur (ur (ur (ur (up (ur (ur (UAll.cons zBG (ur (ur (ua (UAll.nil)))))))))))))) q d ?_ ?_
 exact rm h9<|rm h10<|rm h7<|rm h8<|rp (fun V Q U O D=>zAX (D.g 0 Z) Z e93)<|rp (fun V Q U O D=>zAF (q.ok 0 _ Z).1 (D.g 0 Z) (D.g 1 Z) underlying227 sizeOf27 e94 Z)<|rp (fun V Q U O D=>(zAs (O.rd 0 _ Z Z) (D.g 0 Z) e94 Z (Fld.id _) Z isAgg27 sizeOf27))<|rm h10<|rp (fun V Q U O D=>zAX (D.g 0 Z) Z e95)<|rp (fun V Q U O D=>zA7 (D.g 0 Z) (D.g 1 Z) underlying27 sizeOf3 e96)<|rp (fun V Q U O D=>OpF.int (zAQ (QRep.ptr (D.g 0 Z)) isAgg3 sizeOf3))<|rp (fun V Q U O D=>zAF (q.ok 1 _ Z).1 (D.g 0 Z) (D.g 1 Z) underlying27 sizeOf3 e97 Z)<|rc (OblR.took 1 _ _ Z Z Z Z Z fun V Q U O D u hok hav hin hop hds=>by have a0:Q 90=(vptr u11 (y15.toNat*1)):=D.g 0 Z;have a1:Q 89 = .int .i64 (gtD (gtD y6 (y5-1)) (y15-1)):=D.g 1 Z;obtain rfl:=hin _ Z;exact zBY (zAe.eq a1) hok hav a0 e97 Z (FldS.id _) sizeOf3 Z)<|rz
 intro done ρ σ A R w y s
 obtain ⟨h0,h1,h2,h7,h8,h9⟩:=k6 s.rg h0 h1 h2 h7 h8 h9
 replace h10:=k1 s.rg h10
 have z98:=s.inivR 0 Z
 have z99:=s.inivR 1 Z
 have z100:=s.on y 14 12 Z Z Z Z Z z99
 replace f_v0:=f_v0.stp s.stp
 replace f_v1:=f_v1.stp s.stp
 obtain ⟨B,j,d⟩:=s.s B C j q ⟨Z,⟨Z,N⟩⟩
 replace q:=s.left y [(0,ob ul_u1 (.vec w0.heap.size 27 (eSl (eInt .i64)) y6)),(14,ob u11 (.vec w0.heap.size 3 (eInt .i64) (y16.set y15.toNat (gtD (gtD y6 (y5-1)) (y15-1)))))] ⟨Z,Z,z98,Z,Z,⟨Z,Z,z100,Z,Z,N⟩⟩
 refine HT.seq ?_
 obtain ⟨x101,q102,c⟩:=zAB c
 obtain ⟨x103,q104,c⟩:=zAB c
 obtain ⟨e105,e106,e107,e108,c⟩:=ck4 c
 obtain ⟨x109,q110,c⟩:=zAB c
 obtain ⟨e111,e112,e113,e114,c⟩:=ck4 c
 obtain ⟨x115,q116,c⟩:=zAB c
 refine HT.draw (by kernel_rfl) (l:=eB p2::eB p2::gI (true&&(p2==true)) y5::gB (true&&(p2==true)) (decide (1<y5))::eB x101::eB x101::gI (true&&(x101==true)) y15::gB (true&&(x101==true)) (decide (1<y15))::eB x103::eB x103::gR (true&&(x103==true)) v0::gI (true&&(x103==true)) y5::gI (true&&(x103==true)) (y5-1)::gU (true&&(x103==true)) (bAt p0 (y5-1))::gR (true&&(x103==true)) v1::gI (true&&(x103==true)) y15::gI (true&&(x103==true)) (y15-2)::gU (true&&(x103==true)) (bAt p1 (y15-2))::gB (true&&(x103==true)) ((bAt p0 (y5-1))==(bAt p1 (y15-2)))::eB x109::eB x109::gR (true&&(x109==true)) v0::gI (true&&(x109==true)) y5::gI (true&&(x109==true)) (y5-2)::gU (true&&(x109==true)) (bAt p0 (y5-2))::gR (true&&(x109==true)) v1::gI (true&&(x109==true)) y15::gI (true&&(x109==true)) (y15-1)::gU (true&&(x109==true)) (bAt p1 (y15-1))::gB (true&&(x109==true)) ((bAt p0 (y5-2))==(bAt p1 (y15-1)))::eB x115::[]) (tl:=[]) (by kernel_rfl) (by kernel_rfl) (by kernel_rfl) (by kernel_rfl) ?_ ?_
 exact om h2<|ov<|gm 1 true h8<|og 1 true (fun G Q U W H D=>zCM (D.h 0 G Z) Z)<|op (fun Q U W H D=>zAC p2 (D.g 0 Z) (fun hc=>by have a1:Q 94 = .bool (decide (1<y5)):=D 1 _ _ _ Z Z Z Z (zAZ Z (zAM hc));show _=Value.bool x101;rw [q102,hc];exact a1) (fun hc=>by show _=Value.bool x101;rw [q102,hc];exact Z))<|ov<|gm 5 true h10<|og 5 true (fun G Q U W H D=>zCM (D.h 0 G Z) Z)<|op (fun Q U W H D=>zAC x101 (D.g 0 Z) (fun hc=>by have a1:Q 98 = .bool (decide (1<y15)):=D 1 _ _ _ Z Z Z Z (zAZ Z (zAM hc));show _=Value.bool x103;rw [q104,hc];exact a1) (fun hc=>by show _=Value.bool x103;rw [q104,hc];exact Z))<|ov<|gm 9 true h0<|gm 9 true h8<|og 9 true (fun G Q U W H D=>zAX (D.h 0 G Z) Z (gd e105 G))<|og 9 true (fun G Q U W H D=>zA8 ((f_v0.fr W).eq (D.h 0 G Z)) (D.h 1 G Z) underlying9 (gd e106 G))<|gm 9 true h1<|gm 9 true h10<|og 9 true (fun G Q U W H D=>zAX (D.h 0 G Z) Z (gd e107 G))<|og 9 true (fun G Q U W H D=>zA8 ((f_v1.fr W).eq (D.h 0 G Z)) (D.h 1 G Z) underlying9 (gd e108 G))<|og 9 true (fun G Q U W H D=>zBA (D.h 0 G Z) (D.h 1 G Z))<|op (fun Q U W H D=>zAC x103 (D.g 0 Z) (fun hc=>by have a1:Q 109 = .bool ((bAt p0 (y5-1))==(bAt p1 (y15-2))):=D 1 _ _ _ Z Z Z Z (zAZ Z (zAM hc));show _=Value.bool x109;rw [q110,hc];exact a1) (fun hc=>by show _=Value.bool x109;rw [q110,hc];exact Z))<|ov<|gm 20 true h0<|gm 20 true h8<|og 20 true (fun G Q U W H D=>zAX (D.h 0 G Z) Z (gd e111 G))<|og 20 true (fun G Q U W H D=>zA8 ((f_v0.fr W).eq (D.h 0 G Z)) (D.h 1 G Z) underlying9 (gd e112 G))<|gm 20 true h1<|gm 20 true h10<|og 20 true (fun G Q U W H D=>zAX (D.h 0 G Z) Z (gd e113 G))<|og 20 true (fun G Q U W H D=>zA8 ((f_v1.fr W).eq (D.h 0 G Z)) (D.h 1 G Z) underlying9 (gd e114 G))<|og 20 true (fun G Q U W H D=>zBA (D.h 0 G Z) (D.h 1 G Z))<|op (fun Q U W H D=>zAC x109 (D.g 0 Z) (fun hc=>by have a1:Q 120 = .bool ((bAt p0 (y5-2))==(bAt p1 (y15-1))):=D 1 _ _ _ Z Z Z Z (zAZ Z (zAM hc));show _=Value.bool x115;rw [q116,hc];exact a1) (fun hc=>by show _=Value.bool x115;rw [q116,hc];exact Z))<|oz
 intro R w m n p
 obtain ⟨h0,h1,h2,h7,h8,h9⟩:=k6 n h0 h1 h2 h7 h8 h9
 replace h10:=k1 n h10
 have h121:=p.r 30 Z
 replace f_v0:=f_v0.fr m
 replace f_v1:=f_v1.fr m
 replace q:=q.fr m
 replace d:=d.fr m.size
 replace j:=j.trans m
 refine HT.cond x115 h121 (fun c117=>?_) (fun c117=>?_)
 have c:=zAK c117 c
 obtain ⟨e118,e119,e120,e121,c⟩:=ck4 c
 obtain ⟨e122,e123,e124,c⟩:=ck3 c
 refine HT.drawR [ob ul_u1 (.vec w0.heap.size 27 (eSl (eInt .i64)) y6),ob u11 (.vec w0.heap.size 3 (eInt .i64) (y16.set y15.toNat (gtD (gtD y6 (y5-1)) (y15-1))))] (rR u11::rI y15::rR u11::rI y15::rR (vptr u11 (y15.toNat*1))::rI (gtD (y16.set y15.toNat (gtD (gtD y6 (y5-1)) (y15-1))) y15)::rR ul_u1::rI y5::rI (y5-2)::rR (vptr ul_u1 ((y5-2).toNat*1))::(rF fun A=>.rep (eSl (eInt .i64)) A (gtD y6 (y5-2)))::rI y15::rI (y15-2)::(rF fun A=>.qtr (eInt .i64) A (gtD (gtD y6 (y5-2)) (y15-2)))::rI (gtD (gtD y6 (y5-2)) (y15-2))::rI ((gtD (gtD y6 (y5-2)) (y15-2))+1)::rI (min (gtD (y16.set y15.toNat (gtD (gtD y6 (y5-1)) (y15-1))) y15) ((gtD (gtD y6 (y5-2)) (y15-2))+1))::rR (vptr u11 (y15.toNat*1))::⟨_,true,[1],some (.vec w0.heap.size 3 (eInt .i64) ((y16.set y15.toNat (gtD (gtD y6 (y5-1)) (y15-1))).set y15.toNat (min (gtD (y16.set y15.toNat (gtD (gtD y6 (y5-1)) (y15-1))) y15) ((gtD (gtD y6 (y5-2)) (y15-2))+1)))),false,fun A=>.any⟩::[]) (by kernel_rfl) (by kernel_rfl) (by kernel_rfl) (Wf.mk' (by kernel_rfl) (ur (ur (ur (ur (ur (ur (ur (ur (ur (ur (up (ur (ur (UAll.cons zBG (ur (ur (ur (ur (ua (UAll.nil)))))))))))))))))))) (by kernel_rfl) (by kernel_rfl)) q d ?_ ?_
 exact rm h9<|rm h10<|rm h9<|rm h10<|rp (fun V Q U O D=>zAF (q.ok 1 _ Z).1 (D.g 0 Z) (D.g 1 Z) underlying27 sizeOf3 e118 Z)<|rp (fun V Q U O D=>OpF.int (zAs (O.rd 1 _ Z Z) (D.g 0 Z) e118 Z (Fld.id _) Z isAgg3 sizeOf3))<|rm h7<|rm h8<|rp (fun V Q U O D=>zAX (D.g 0 Z) Z e119)<|rp (fun V Q U O D=>zAF (q.ok 0 _ Z).1 (D.g 0 Z) (D.g 1 Z) underlying227 sizeOf27 e120 Z)<|rp (fun V Q U O D=>(zAs (O.rd 0 _ Z Z) (D.g 0 Z) e120 Z (Fld.id _) Z isAgg27 sizeOf27))<|rm h10<|rp (fun V Q U O D=>zAX (D.g 0 Z) Z e121)<|rp (fun V Q U O D=>zA7 (D.g 0 Z) (D.g 1 Z) underlying27 sizeOf3 e122)<|rp (fun V Q U O D=>OpF.int (zAQ (QRep.ptr (D.g 0 Z)) isAgg3 sizeOf3))<|rp (fun V Q U O D=>zAN (D.g 0 Z) Z e123)<|rp (fun V Q U O D=>zGh (D.g 0 Z) (D.g 1 Z))<|rp (fun V Q U O D=>zAF (q.ok 1 _ Z).1 (D.g 0 Z) (D.g 1 Z) underlying27 sizeOf3 e124 Z)<|rc (OblR.took 1 _ _ Z Z Z Z Z fun V Q U O D u hok hav hin hop hds=>by have a0:Q 139=(vptr u11 (y15.toNat*1)):=D.g 0 Z;have a1:Q 138 = .int .i64 (min (gtD (y16.set y15.toNat (gtD (gtD y6 (y5-1)) (y15-1))) y15) ((gtD (gtD y6 (y5-2)) (y15-2))+1)):=D.g 1 Z;obtain rfl:=hin _ Z;exact zBY (zAe.eq a1) hok hav a0 e124 Z (FldS.id _) sizeOf3 Z)<|rz
 intro done ρ σ A R w y s
 obtain ⟨h0,h1,h2,h7,h8,h9⟩:=k6 s.rg h0 h1 h2 h7 h8 h9
 replace h10:=k1 s.rg h10
 have z125:=s.inivR 0 Z
 have z126:=s.inivR 1 Z
 have z127:=s.on y 20 18 Z Z Z Z Z z126
 replace f_v0:=f_v0.stp s.stp
 replace f_v1:=f_v1.stp s.stp
 obtain ⟨B,j,d⟩:=s.s B C j q ⟨Z,⟨Z,N⟩⟩
 replace q:=s.left y [(0,ob ul_u1 (.vec w0.heap.size 27 (eSl (eInt .i64)) y6)),(20,ob u11 (.vec w0.heap.size 3 (eInt .i64) ((y16.set y15.toNat (gtD (gtD y6 (y5-1)) (y15-1))).set y15.toNat (min (gtD (y16.set y15.toNat (gtD (gtD y6 (y5-1)) (y15-1))) y15) ((gtD (gtD y6 (y5-2)) (y15-2))+1)))))] ⟨Z,Z,z125,Z,Z,⟨Z,Z,z127,Z,Z,N⟩⟩
 obtain ⟨Yg127,g_Yg127⟩:∃ z,z=((y16.set y15.toNat (gtD (gtD y6 (y5-1)) (y15-1))).set y15.toNat (min (gtD (y16.set y15.toNat (gtD (gtD y6 (y5-1)) (y15-1))) y15) ((gtD (gtD y6 (y5-2)) (y15-2))+1))):=⟨_,Z⟩
 rw [← g_Yg127] at q
 try rw [← g_Yg127] at c
 obtain ⟨e129,c⟩:=zA4 c
 refine HT.u d j (eI y15::eI (y15+1)::eI (y15+1)::[]) ?_ ?_
 exact om h10<|op (fun Q U W H D=>zAN (D.g 0 Z) Z e129)<|oa<|oz
 intro R w m n p d j
 obtain ⟨h0,h1,h2,h7,h8,h9⟩:=k6 n h0 h1 h2 h7 h8 h9
 have h10:=p.r 2 Z
 replace f_v0:=f_v0.fr m
 replace f_v1:=f_v1.fr m
 replace q:=q.fr m
 exact ei k (And.intro (Nat.lt_succ_self k) ⟨_,_,_,c,d,j,B,q,h0,h1,h2,h7,h8,h9,h10,f_v0,f_v1⟩)
 have c:=zAL c117 c
 refine HT.skip ?_
 obtain ⟨e130,c⟩:=zA4 c
 refine HT.u d j (eI y15::eI (y15+1)::eI (y15+1)::[]) ?_ ?_
 exact om h10<|op (fun Q U W H D=>zAN (D.g 0 Z) Z e130)<|oa<|oz
 intro R w m n p d j
 obtain ⟨h0,h1,h2,h7,h8,h9⟩:=k6 n h0 h1 h2 h7 h8 h9
 have h10:=p.r 2 Z
 replace f_v0:=f_v0.fr m
 replace f_v1:=f_v1.fr m
 replace q:=q.fr m
 exact ei k (And.intro (Nat.lt_succ_self k) ⟨_,_,_,c,d,j,B,q,h0,h1,h2,h7,h8,h9,h10,f_v0,f_v1⟩)
 have c:=zAL c92 c
 obtain ⟨e131,e132,e133,e134,c⟩:=ck4 c
 obtain ⟨e135,e136,e137,e138,c⟩:=ck4 c
 obtain ⟨e139,e140,e141,c⟩:=ck3 c
 refine HT.drawR [ob ul_u1 (.vec w0.heap.size 27 (eSl (eInt .i64)) y6),ob u11 (.vec w0.heap.size 3 (eInt .i64) y16)] (rR u11::rI y15::rR ul_u1::rI y5::rI (y5-1)::rR (vptr ul_u1 ((y5-1).toNat*1))::(rF fun A=>.rep (eSl (eInt .i64)) A (gtD y6 (y5-1)))::rI y15::(rF fun A=>.qtr (eInt .i64) A (gtD (gtD y6 (y5-1)) y15))::rI (gtD (gtD y6 (y5-1)) y15)::rR u11::rI y15::rI (y15-1)::rR (vptr u11 ((y15-1).toNat*1))::rI (gtD y16 (y15-1))::rR ul_u1::rI y5::rI (y5-1)::rR (vptr ul_u1 ((y5-1).toNat*1))::(rF fun A=>.rep (eSl (eInt .i64)) A (gtD y6 (y5-1)))::rI y15::rI (y15-1)::(rF fun A=>.qtr (eInt .i64) A (gtD (gtD y6 (y5-1)) (y15-1)))::rI (gtD (gtD y6 (y5-1)) (y15-1))::rI (min (min (gtD (gtD y6 (y5-1)) y15) (gtD y16 (y15-1))) (gtD (gtD y6 (y5-1)) (y15-1)))::rI (1+(min (min (gtD (gtD y6 (y5-1)) y15) (gtD y16 (y15-1))) (gtD (gtD y6 (y5-1)) (y15-1))))::rR (vptr u11 (y15.toNat*1))::⟨_,true,[1],some (.vec w0.heap.size 3 (eInt .i64) (y16.set y15.toNat (1+(min (min (gtD (gtD y6 (y5-1)) y15) (gtD y16 (y15-1))) (gtD (gtD y6 (y5-1)) (y15-1)))))),false,fun A=>.any⟩::[]) (by kernel_rfl) (by kernel_rfl) (by kernel_rfl) (Wf.mk' (by kernel_rfl) (ur (ur (ur (ur (ur (ur (up (ur (UAll.cons zBG (ur (ur (ur (ur (ur (ur (ur (ur (ur (ur (up (ur (ur (UAll.cons zBG (ur (ur (ur (ur (ua (UAll.nil))))))))))))))))))))))))))))) (by kernel_rfl) (by kernel_rfl)) q d ?_ ?_
 exact rm h9<|rm h10<|rm h7<|rm h8<|rp (fun V Q U O D=>zAX (D.g 0 Z) Z e131)<|rp (fun V Q U O D=>zAF (q.ok 0 _ Z).1 (D.g 0 Z) (D.g 1 Z) underlying227 sizeOf27 e132 Z)<|rp (fun V Q U O D=>(zAs (O.rd 0 _ Z Z) (D.g 0 Z) e132 Z (Fld.id _) Z isAgg27 sizeOf27))<|rm h10<|rp (fun V Q U O D=>zA7 (D.g 0 Z) (D.g 1 Z) underlying27 sizeOf3 e133)<|rp (fun V Q U O D=>OpF.int (zAQ (QRep.ptr (D.g 0 Z)) isAgg3 sizeOf3))<|rm h9<|rm h10<|rp (fun V Q U O D=>zAX (D.g 0 Z) Z e134)<|rp (fun V Q U O D=>zAF (q.ok 1 _ Z).1 (D.g 0 Z) (D.g 1 Z) underlying27 sizeOf3 e135 Z)<|rp (fun V Q U O D=>OpF.int (zAs (O.rd 1 _ Z Z) (D.g 0 Z) e135 Z (Fld.id _) Z isAgg3 sizeOf3))<|rm h7<|rm h8<|rp (fun V Q U O D=>zAX (D.g 0 Z) Z e136)<|rp (fun V Q U O D=>zAF (q.ok 0 _ Z).1 (D.g 0 Z) (D.g 1 Z) underlying227 sizeOf27 e137 Z)<|rp (fun V Q U O D=>(zAs (O.rd 0 _ Z Z) (D.g 0 Z) e137 Z (Fld.id _) Z isAgg27 sizeOf27))<|rm h10<|rp (fun V Q U O D=>zAX (D.g 0 Z) Z e138)<|rp (fun V Q U O D=>zA7 (D.g 0 Z) (D.g 1 Z) underlying27 sizeOf3 e139)<|rp (fun V Q U O D=>OpF.int (zAQ (QRep.ptr (D.g 0 Z)) isAgg3 sizeOf3))<|rp (fun V Q U O D=>zKQ (D.g 0 Z) (D.g 1 Z) (D.g 2 Z))<|rp (fun V Q U O D=>zAN Z (D.g 0 Z) e140)<|rp (fun V Q U O D=>zAF (q.ok 1 _ Z).1 (D.g 0 Z) (D.g 1 Z) underlying27 sizeOf3 e141 Z)<|rc (OblR.took 1 _ _ Z Z Z Z Z fun V Q U O D u hok hav hin hop hds=>by have a0:Q 54=(vptr u11 (y15.toNat*1)):=D.g 0 Z;have a1:Q 53 = .int .i64 (1+(min (min (gtD (gtD y6 (y5-1)) y15) (gtD y16 (y15-1))) (gtD (gtD y6 (y5-1)) (y15-1)))):=D.g 1 Z;obtain rfl:=hin _ Z;exact zBY (zAe.eq a1) hok hav a0 e141 Z (FldS.id _) sizeOf3 Z)<|rz
 intro done ρ σ A R w y s
 obtain ⟨h0,h1,h2,h7,h8,h9⟩:=k6 s.rg h0 h1 h2 h7 h8 h9
 replace h10:=k1 s.rg h10
 have z142:=s.inivR 0 Z
 have z143:=s.inivR 1 Z
 have z144:=s.on y 29 27 Z Z Z Z Z z143
 replace f_v0:=f_v0.stp s.stp
 replace f_v1:=f_v1.stp s.stp
 obtain ⟨B,j,d⟩:=s.s B C j q ⟨Z,⟨Z,N⟩⟩
 replace q:=s.left y [(0,ob ul_u1 (.vec w0.heap.size 27 (eSl (eInt .i64)) y6)),(29,ob u11 (.vec w0.heap.size 3 (eInt .i64) (y16.set y15.toNat (1+(min (min (gtD (gtD y6 (y5-1)) y15) (gtD y16 (y15-1))) (gtD (gtD y6 (y5-1)) (y15-1)))))))] ⟨Z,Z,z142,Z,Z,⟨Z,Z,z144,Z,Z,N⟩⟩
 obtain ⟨Yg144,g_Yg144⟩:∃ z,z=(y16.set y15.toNat (1+(min (min (gtD (gtD y6 (y5-1)) y15) (gtD y16 (y15-1))) (gtD (gtD y6 (y5-1)) (y15-1))))):=⟨_,Z⟩
 rw [← g_Yg144] at q
 try rw [← g_Yg144] at c
 refine HT.seq ?_
 obtain ⟨x146,q147,c⟩:=zAB c
 obtain ⟨x148,q149,c⟩:=zAB c
 obtain ⟨e150,e151,e152,e153,c⟩:=ck4 c
 obtain ⟨x154,q155,c⟩:=zAB c
 obtain ⟨e156,e157,e158,e159,c⟩:=ck4 c
 obtain ⟨x160,q161,c⟩:=zAB c
 refine HT.draw (by kernel_rfl) (l:=eB p2::eB p2::gI (true&&(p2==true)) y5::gB (true&&(p2==true)) (decide (1<y5))::eB x146::eB x146::gI (true&&(x146==true)) y15::gB (true&&(x146==true)) (decide (1<y15))::eB x148::eB x148::gR (true&&(x148==true)) v0::gI (true&&(x148==true)) y5::gI (true&&(x148==true)) (y5-1)::gU (true&&(x148==true)) (bAt p0 (y5-1))::gR (true&&(x148==true)) v1::gI (true&&(x148==true)) y15::gI (true&&(x148==true)) (y15-2)::gU (true&&(x148==true)) (bAt p1 (y15-2))::gB (true&&(x148==true)) ((bAt p0 (y5-1))==(bAt p1 (y15-2)))::eB x154::eB x154::gR (true&&(x154==true)) v0::gI (true&&(x154==true)) y5::gI (true&&(x154==true)) (y5-2)::gU (true&&(x154==true)) (bAt p0 (y5-2))::gR (true&&(x154==true)) v1::gI (true&&(x154==true)) y15::gI (true&&(x154==true)) (y15-1)::gU (true&&(x154==true)) (bAt p1 (y15-1))::gB (true&&(x154==true)) ((bAt p0 (y5-2))==(bAt p1 (y15-1)))::eB x160::[]) (tl:=[]) (by kernel_rfl) (by kernel_rfl) (by kernel_rfl) (by kernel_rfl) ?_ ?_
 exact om h2<|ov<|gm 1 true h8<|og 1 true (fun G Q U W H D=>zCM (D.h 0 G Z) Z)<|op (fun Q U W H D=>zAC p2 (D.g 0 Z) (fun hc=>by have a1:Q 94 = .bool (decide (1<y5)):=D 1 _ _ _ Z Z Z Z (zAZ Z (zAM hc));show _=Value.bool x146;rw [q147,hc];exact a1) (fun hc=>by show _=Value.bool x146;rw [q147,hc];exact Z))<|ov<|gm 5 true h10<|og 5 true (fun G Q U W H D=>zCM (D.h 0 G Z) Z)<|op (fun Q U W H D=>zAC x146 (D.g 0 Z) (fun hc=>by have a1:Q 98 = .bool (decide (1<y15)):=D 1 _ _ _ Z Z Z Z (zAZ Z (zAM hc));show _=Value.bool x148;rw [q149,hc];exact a1) (fun hc=>by show _=Value.bool x148;rw [q149,hc];exact Z))<|ov<|gm 9 true h0<|gm 9 true h8<|og 9 true (fun G Q U W H D=>zAX (D.h 0 G Z) Z (gd e150 G))<|og 9 true (fun G Q U W H D=>zA8 ((f_v0.fr W).eq (D.h 0 G Z)) (D.h 1 G Z) underlying9 (gd e151 G))<|gm 9 true h1<|gm 9 true h10<|og 9 true (fun G Q U W H D=>zAX (D.h 0 G Z) Z (gd e152 G))<|og 9 true (fun G Q U W H D=>zA8 ((f_v1.fr W).eq (D.h 0 G Z)) (D.h 1 G Z) underlying9 (gd e153 G))<|og 9 true (fun G Q U W H D=>zBA (D.h 0 G Z) (D.h 1 G Z))<|op (fun Q U W H D=>zAC x148 (D.g 0 Z) (fun hc=>by have a1:Q 109 = .bool ((bAt p0 (y5-1))==(bAt p1 (y15-2))):=D 1 _ _ _ Z Z Z Z (zAZ Z (zAM hc));show _=Value.bool x154;rw [q155,hc];exact a1) (fun hc=>by show _=Value.bool x154;rw [q155,hc];exact Z))<|ov<|gm 20 true h0<|gm 20 true h8<|og 20 true (fun G Q U W H D=>zAX (D.h 0 G Z) Z (gd e156 G))<|og 20 true (fun G Q U W H D=>zA8 ((f_v0.fr W).eq (D.h 0 G Z)) (D.h 1 G Z) underlying9 (gd e157 G))<|gm 20 true h1<|gm 20 true h10<|og 20 true (fun G Q U W H D=>zAX (D.h 0 G Z) Z (gd e158 G))<|og 20 true (fun G Q U W H D=>zA8 ((f_v1.fr W).eq (D.h 0 G Z)) (D.h 1 G Z) underlying9 (gd e159 G))<|og 20 true (fun G Q U W H D=>zBA (D.h 0 G Z) (D.h 1 G Z))<|op (fun Q U W H D=>zAC x154 (D.g 0 Z) (fun hc=>by have a1:Q 120 = .bool ((bAt p0 (y5-2))==(bAt p1 (y15-1))):=D 1 _ _ _ Z Z Z Z (zAZ Z (zAM hc));show _=Value.bool x160;rw [q161,hc];exact a1) (fun hc=>by show _=Value.bool x160;rw [q161,hc];exact Z))<|oz
 intro R w m n p
 obtain ⟨h0,h1,h2,h7,h8,h9⟩:=k6 n h0 h1 h2 h7 h8 h9
 replace h10:=k1 n h10
 have h121:=p.r 30 Z
 replace f_v0:=f_v0.fr m
 replace f_v1:=f_v1.fr m
 replace q:=q.fr m
 replace d:=d.fr m.size
 replace j:=j.trans m
 refine HT.cond x160 h121 (fun c162=>?_) (fun c162=>?_)
 have c:=zAK c162 c
 obtain ⟨e163,e164,e165,e166,c⟩:=ck4 c
 obtain ⟨e167,e168,e169,c⟩:=ck3 c
 refine HT.drawR [ob ul_u1 (.vec w0.heap.size 27 (eSl (eInt .i64)) y6),ob u11 (.vec w0.heap.size 3 (eInt .i64) Yg144)] (rR u11::rI y15::rR u11::rI y15::rR (vptr u11 (y15.toNat*1))::rI (gtD Yg144 y15)::rR ul_u1::rI y5::rI (y5-2)::rR (vptr ul_u1 ((y5-2).toNat*1))::(rF fun A=>.rep (eSl (eInt .i64)) A (gtD y6 (y5-2)))::rI y15::rI (y15-2)::(rF fun A=>.qtr (eInt .i64) A (gtD (gtD y6 (y5-2)) (y15-2)))::rI (gtD (gtD y6 (y5-2)) (y15-2))::rI ((gtD (gtD y6 (y5-2)) (y15-2))+1)::rI (min (gtD Yg144 y15) ((gtD (gtD y6 (y5-2)) (y15-2))+1))::rR (vptr u11 (y15.toNat*1))::⟨_,true,[1],some (.vec w0.heap.size 3 (eInt .i64) (Yg144.set y15.toNat (min (gtD Yg144 y15) ((gtD (gtD y6 (y5-2)) (y15-2))+1)))),false,fun A=>.any⟩::[]) (by kernel_rfl) (by kernel_rfl) (by kernel_rfl) (Wf.mk' (by kernel_rfl) (ur (ur (ur (ur (ur (ur (ur (ur (ur (ur (up (ur (ur (UAll.cons zBG (ur (ur (ur (ur (ua (UAll.nil)))))))))))))))))))) (by kernel_rfl) (by kernel_rfl)) q d ?_ ?_
 exact rm h9<|rm h10<|rm h9<|rm h10<|rp (fun V Q U O D=>zAF (q.ok 1 _ Z).1 (D.g 0 Z) (D.g 1 Z) underlying27 sizeOf3 e163 Z)<|rp (fun V Q U O D=>OpF.int (zAs (O.rd 1 _ Z Z) (D.g 0 Z) e163 Z (Fld.id _) Z isAgg3 sizeOf3))<|rm h7<|rm h8<|rp (fun V Q U O D=>zAX (D.g 0 Z) Z e164)<|rp (fun V Q U O D=>zAF (q.ok 0 _ Z).1 (D.g 0 Z) (D.g 1 Z) underlying227 sizeOf27 e165 Z)<|rp (fun V Q U O D=>(zAs (O.rd 0 _ Z Z) (D.g 0 Z) e165 Z (Fld.id _) Z isAgg27 sizeOf27))<|rm h10<|rp (fun V Q U O D=>zAX (D.g 0 Z) Z e166)<|rp (fun V Q U O D=>zA7 (D.g 0 Z) (D.g 1 Z) underlying27 sizeOf3 e167)<|rp (fun V Q U O D=>OpF.int (zAQ (QRep.ptr (D.g 0 Z)) isAgg3 sizeOf3))<|rp (fun V Q U O D=>zAN (D.g 0 Z) Z e168)<|rp (fun V Q U O D=>zGh (D.g 0 Z) (D.g 1 Z))<|rp (fun V Q U O D=>zAF (q.ok 1 _ Z).1 (D.g 0 Z) (D.g 1 Z) underlying27 sizeOf3 e169 Z)<|rc (OblR.took 1 _ _ Z Z Z Z Z fun V Q U O D u hok hav hin hop hds=>by have a0:Q 139=(vptr u11 (y15.toNat*1)):=D.g 0 Z;have a1:Q 138 = .int .i64 (min (gtD Yg144 y15) ((gtD (gtD y6 (y5-2)) (y15-2))+1)):=D.g 1 Z;obtain rfl:=hin _ Z;exact zBY (zAe.eq a1) hok hav a0 e169 Z (FldS.id _) sizeOf3 Z)<|rz
 intro done ρ σ A R w y s
 obtain ⟨h0,h1,h2,h7,h8,h9⟩:=k6 s.rg h0 h1 h2 h7 h8 h9
 replace h10:=k1 s.rg h10
 have z170:=s.inivR 0 Z
 have z171:=s.inivR 1 Z
 have z172:=s.on y 20 18 Z Z Z Z Z z171
 replace f_v0:=f_v0.stp s.stp
 replace f_v1:=f_v1.stp s.stp
 obtain ⟨B,j,d⟩:=s.s B C j q ⟨Z,⟨Z,N⟩⟩
 replace q:=s.left y [(0,ob ul_u1 (.vec w0.heap.size 27 (eSl (eInt .i64)) y6)),(20,ob u11 (.vec w0.heap.size 3 (eInt .i64) (Yg144.set y15.toNat (min (gtD Yg144 y15) ((gtD (gtD y6 (y5-2)) (y15-2))+1)))))] ⟨Z,Z,z170,Z,Z,⟨Z,Z,z172,Z,Z,N⟩⟩
 obtain ⟨Yg172,g_Yg172⟩:∃ z,z=(Yg144.set y15.toNat (min (gtD Yg144 y15) ((gtD (gtD y6 (y5-2)) (y15-2))+1))):=⟨_,Z⟩
 rw [← g_Yg172] at q
 try rw [← g_Yg172] at c
 obtain ⟨e174,c⟩:=zA4 c
 refine HT.u d j (eI y15::eI (y15+1)::eI (y15+1)::[]) ?_ ?_
 exact om h10<|op (fun Q U W H D=>zAN (D.g 0 Z) Z e174)<|oa<|oz
 intro R w m n p d j
 obtain ⟨h0,h1,h2,h7,h8,h9⟩:=k6 n h0 h1 h2 h7 h8 h9
 have h10:=p.r 2 Z
 replace f_v0:=f_v0.fr m
 replace f_v1:=f_v1.fr m
 replace q:=q.fr m
 exact ei k (And.intro (Nat.lt_succ_self k) ⟨_,_,_,c,d,j,B,q,h0,h1,h2,h7,h8,h9,h10,f_v0,f_v1⟩)
 have c:=zAL c162 c
 refine HT.skip ?_
 obtain ⟨e175,c⟩:=zA4 c
 refine HT.u d j (eI y15::eI (y15+1)::eI (y15+1)::[]) ?_ ?_
 exact om h10<|op (fun Q U W H D=>zAN (D.g 0 Z) Z e175)<|oa<|oz
 intro R w m n p d j
 obtain ⟨h0,h1,h2,h7,h8,h9⟩:=k6 n h0 h1 h2 h7 h8 h9
 have h10:=p.r 2 Z
 replace f_v0:=f_v0.fr m
 replace f_v1:=f_v1.fr m
 replace q:=q.fr m
 exact ei k (And.intro (Nat.lt_succ_self k) ⟨_,_,_,c,d,j,B,q,h0,h1,h2,h7,h8,h9,h10,f_v0,f_v1⟩)
 have c:=zAL c17 c
 refine HT.exit ?_
 obtain rfl:=si c
 exact ei _ ⟨_,Z,d,j,B,q,h0,h1,h2,h7,h8,h9,f_v0,f_v1⟩
 rintro R w ⟨A,s14,es,d,j,B,q,h0,h1,h2,h7,h8,h9,f_v0,f_v1⟩
 obtain rfl:=es.symm
 obtain ⟨e176,c⟩:=zA4 c
 refine HT.x [ob ul_u1 (.vec w0.heap.size 27 (eSl (eInt .i64)) y6),ob u11 (.vec w0.heap.size 3 (eInt .i64) s14)] (rR ul_u1::⟨_,true,[1],some (.nul),false,fun A=>.rep (eSl (eInt .i64)) A s14⟩::(rF fun A=>.rep (eSl (eSl (eInt .i64))) A ([s14]:List (List Int)))::⟨_,true,[0],some (.vec w0.heap.size 27 (eSl (eInt .i64)) (y6++([s14]:List (List Int)))),true,fun A=>.any⟩::⟨_,true,[5],some (.vec w0.heap.size 27 (eSl (eInt .i64)) (y6++([s14]:List (List Int)))),true,fun A=>.any⟩::[]) (ur (up (up (ua (ua (UAll.nil)))))) q d ?_ ?_
 exact rm h7<|rc (OblR.frz 1 _ Z Z Z Z Z fun V Q U O D u hok hav hin hop hds=>by have a0:Q 9=u11:=(O.old 9 Z).trans h9;exact zNU (a0.trans (hin _ Z).symm) hok O.av hav)<|rp (fun V Q U O D=>zBZ [_] (E:=eSl (eInt .i64)) ⟨(D.g 0 Z),N⟩ underlying227 sizeOf27 zeroValue27 Z Z Z O.av)<|rc (OblR.took 0 _ _ Z Z Z Z Z fun V Q U O D u hok hav hin hop hds=>by have a0:Q 140=ul_u1:=D.g 0 Z;have a1:Rep (eSl (eSl (eInt .i64))) V U (Q 142) ([s14]:List (List Int)):=D.g 1 Z;exact zAw (a0.trans (hin _ Z).symm) hok hav (Nat.le_trans j.size O.ch.size) a1 underlying227 zPJ e176)<|rc (OblR.took 5 _ _ Z Z Z Z Z fun V Q U O D u hok hav hin hop hds=>by exact zAH (hop _ _ Z Z Z Z).symm hok hav)<|rz
 intro done ρ σ A R w y s
 obtain ⟨h0,h1,h2,h8⟩:=k4 s.rg h0 h1 h2 h8
 obtain ⟨u177,e_u177⟩:∃ u,ρ 6=u:=⟨_,Z⟩
 have h7:=s.ov y 6 4 e_u177
 replace f_v0:=f_v0.stp s.stp
 replace f_v1:=f_v1.stp s.stp
 obtain ⟨B,j,d⟩:=s.s B C j q ⟨Z,⟨Z,N⟩⟩
 replace q:=s.left y [(6,ob u177 (.vec w0.heap.size 27 (eSl (eInt .i64)) (y6++([s14]:List (List Int)))))] ⟨Z,Z,e_u177,Z,Z,N⟩
 obtain ⟨e178,c⟩:=zA4 c
 refine HT.u d j (eI y5::eI (y5+1)::eI (y5+1)::[]) ?_ ?_
 exact om h8<|op (fun Q U W H D=>zAN (D.g 0 Z) Z e178)<|oa<|oz
 intro R w m n p d j
 obtain ⟨h0,h1,h2,h7⟩:=k4 n h0 h1 h2 h7
 have h8:=p.r 2 Z
 replace f_v0:=f_v0.fr m
 replace f_v1:=f_v1.fr m
 replace q:=q.fr m
 exact ei k (And.intro (Nat.lt_succ_self k) ⟨_,_,_,u177,c,d,j,B,q,h0,h1,h2,h7,h8,f_v0,f_v1⟩)
 have c:=zAL c7 c
 refine HT.exit ?_
 obtain rfl:=si c
 exact ei _ ⟨_,ul_u1,Z,d,j,B,q,h7⟩
 rintro R w ⟨A,s4,uo_u1,es,d,j,B,q,h7⟩
 obtain rfl:=es.symm
 refine HT.su d j (eR uo_u1::eR uo_u1::[]) ?_ ?_
 exact om h7<|oa<|oz
 intro R w m n p d j
 have h6:=p.r 1 Z
 replace q:=q.fr m
 refine HT.ret ?_
 obtain rfl:=si c
 exact ⟨.inr Z,[R 6],⟨Z,N⟩,(zCT (q.ok 0 _ Z) B h6),j⟩
theorem zH7 {fu : Nat} {A0 : Av} {p0 : List UInt8} {p1 : List UInt8} {p2 : Bool} {r : List (List Int)} (c : zDC fu p0 p1 p2 = some r) {w : World} {v0 : Value} {v1 : Value} {v2 : Value} (d : AvOK A0 w) (h0 : Rep eStr A0 w v0 p0) (h1 : Rep eStr A0 w v1 p1) (h2 : v2 = .bool p2) :
 Calls prog 269 #[v0,v1,v2] w fun e w'=>∃ v,e = .returned v∧(Rep (eSl (eSl (eInt .i64))) A0 w' v r∧Fr w w'):=by
 refine Calls.mono (zHO c d h0 h1 h2) ?_
 rintro e w' ⟨v,he,hv,hf⟩
 exact ⟨v,he,zCD hv (fun b o h=>.inl h) d,hf⟩
def zCO (fu:Nat) (p0:List UInt8) (p1:List UInt8):Option Int:=
 cl true (zEf fu p0 p1) fun x1=>
 bif (!x1) then (
 some (-1)
 ) else (
 cl true (zDC fu p0 p1 false) fun x4=>
 ck (inR (p0.length:Int) x4.length) <|
 ck (inR (p1.length:Int) (gtD x4 (p0.length:Int)).length) <|
 some (gtD (gtD x4 (p0.length:Int)) (p1.length:Int))
 )
theorem zFr {fu : Nat} {A : Av} {p0 : List UInt8} {p1 : List UInt8} {r : Int} (c : zCO fu p0 p1 = some r) {w : World} {v0 : Value} {v1 : Value} (d : AvOK A w) (h0 : Rep eStr A w v0 p0) (h1 : Rep eStr A w v1 p1) :
 Calls prog 227 #[v0,v1] w fun e w'=>∃ v,e = .returned v∧(v = .int .i64 r∧Fr w w'):=by
 unfold zCO at c
 obtain ⟨w0,hw0⟩:∃ w0,w0=w:=⟨_,Z⟩
 have j:Fr w0 w:=hw0 ▸ Fr.refl _
 rw [show Fr w=Fr w0 from hw0 ▸ Z]
 clear hw0
 refine zA2 [.tmp 4] func227 ntmps227 (by decide) Z Z (nb Z) ?_
 intro R hR
 have f_v0:=h0
 replace h0:R 0=v0:=hR 0 _ Z
 have f_v1:=h1
 replace h1:R 1=v1:=hR 1 _ Z
 clear hR
 refine HT.su d j (eI 0::[]) ?_ ?_
 exact op (fun Q U W H D=>zA0 Z)<|oz
 intro R w m n p d j
 obtain ⟨h0,h1⟩:=k2 n h0 h1
 replace f_v0:=f_v0.fr m
 replace f_v1:=f_v1.fr m
 refine HT.seq ?_
 obtain ⟨x1,q2,c⟩:=zA3 c
 refine HT.su d j (eR v0::eR v1::eB x1::eB (!x1)::[]) ?_ ?_
 exact om h0<|om h1<|op (fun Q U W H D=>zA6 call268 (zHc (q2 Z) (d.fr W.size) ((f_v0.fr W).eq (D.g 0 Z)) ((f_v1.fr W).eq (D.g 1 Z))))<|op (fun Q U W H D=>zBh (D.g 0 Z))<|oz
 intro R w m n p d j
 obtain ⟨h0,h1⟩:=k2 n h0 h1
 have h8:=p.r 3 Z
 replace f_v0:=f_v0.fr m
 replace f_v1:=f_v1.fr m
 refine HT.cond (!x1) h8 (fun c3=>?_) (fun c3=>?_)
 have c:=zAK c3 c
 refine HT.su d j (eI (-1)::[]) ?_ ?_
 exact op (fun Q U W H D=>zA0 Z)<|oz
 intro R w m n p d j
 have h4:=p.r 0 Z
 refine HT.ret ?_
 obtain rfl:=si c
 exact ⟨.inr Z,[R 4],⟨Z,N⟩,h4,j⟩
 have c:=zAL c3 c
 refine HT.skip ?_
 obtain ⟨x4,q5,c⟩:=zA3 c
 obtain ⟨e6,e7,c⟩:=ck2 c
 refine HT.su d j (eR v0::eR v1::eF (.rep (eSl (eSl (eInt .i64))) A x4)::eR v0::eI (p0.length:Int)::eF (.qtr (eSl (eInt .i64)) A (gtD x4 (p0.length:Int)))::eF (.rep (eSl (eInt .i64)) A (gtD x4 (p0.length:Int)))::eR v1::eI (p1.length:Int)::eF (.qtr (eInt .i64) A (gtD (gtD x4 (p0.length:Int)) (p1.length:Int)))::eI (gtD (gtD x4 (p0.length:Int)) (p1.length:Int))::eI (gtD (gtD x4 (p0.length:Int)) (p1.length:Int))::[]) ?_ ?_
 exact om h0<|om h1<|op (fun Q U W H D=>zA6 call269 (zH7 (q5 Z) (d.fr W.size) ((f_v0.fr W).eq (D.g 0 Z)) ((f_v1.fr W).eq (D.g 1 Z)) Z))<|om h0<|op (fun Q U W H D=>zAG ((f_v0.fr W).eq (D.g 0 Z)) underlying9)<|op (fun Q U W H D=>zA7 (D.g 0 Z) (D.g 1 Z) underlying227 sizeOf27 e6)<|op (fun Q U W H D=>(zAQ (QRep.ptr (D.g 0 Z)) isAgg27 sizeOf27))<|om h1<|op (fun Q U W H D=>zAG ((f_v1.fr W).eq (D.g 0 Z)) underlying9)<|op (fun Q U W H D=>zA7 (D.g 0 Z) (D.g 1 Z) underlying27 sizeOf3 e7)<|op (fun Q U W H D=>OpF.int (zAQ (QRep.ptr (D.g 0 Z)) isAgg3 sizeOf3))<|oa<|oz
 intro R w m n p d j
 have h4:=p.r 11 Z
 refine HT.ret ?_
 obtain rfl:=si c
 exact ⟨.inr Z,[R 4],⟨Z,N⟩,h4,j⟩
def zDj (fu:Nat) (p0:List UInt8) (p1:List UInt8):Option Int:=
 cl true (zCO fu p0 p1) fun x1=>
 bif (decide (x1<0)) then (
 some 0
 ) else (
 bif ((max (p0.length:Int) (p1.length:Int))==0) then (
 some 1000
 ) else (
 ck (i64B ((max (p0.length:Int) (p1.length:Int))-x1)) <|
 ck (i64B (1000*((max (p0.length:Int) (p1.length:Int))-x1))) <|
 ck ((max (p0.length:Int) (p1.length:Int)) != 0) <|
 ck (i64B ((1000*((max (p0.length:Int) (p1.length:Int))-x1)).tdiv (max (p0.length:Int) (p1.length:Int)))) <|
 some ((1000*((max (p0.length:Int) (p1.length:Int))-x1)).tdiv (max (p0.length:Int) (p1.length:Int)))
 )
 )
theorem zGi {fu : Nat} {A : Av} {p0 : List UInt8} {p1 : List UInt8} {r : Int} (c : zDj fu p0 p1 = some r) {w : World} {v0 : Value} {v1 : Value} (d : AvOK A w) (h0 : Rep eStr A w v0 p0) (h1 : Rep eStr A w v1 p1) :
 Calls prog 184 #[v0,v1] w fun e w'=>∃ v,e = .returned v∧(v = .int .i64 r∧Fr w w'):=by
 unfold zDj at c
 obtain ⟨w0,hw0⟩:∃ w0,w0=w:=⟨_,Z⟩
 have j:Fr w0 w:=hw0 ▸ Fr.refl _
 rw [show Fr w=Fr w0 from hw0 ▸ Z]
 clear hw0
 refine zA2 [.tmp 4] func184 ntmps184 (by decide) Z Z (nb Z) ?_
 intro R hR
 have f_v0:=h0
 replace h0:R 0=v0:=hR 0 _ Z
 have f_v1:=h1
 replace h1:R 1=v1:=hR 1 _ Z
 clear hR
 refine HT.su d j (eI 0::[]) ?_ ?_
 exact op (fun Q U W H D=>zA0 Z)<|oz
 intro R w m n p d j
 obtain ⟨h0,h1⟩:=k2 n h0 h1
 replace f_v0:=f_v0.fr m
 replace f_v1:=f_v1.fr m
 obtain ⟨x1,q2,c⟩:=zA3 c
 refine HT.su d j (eR v0::eR v1::eI x1::eI x1::[]) ?_ ?_
 exact om h0<|om h1<|op (fun Q U W H D=>zA6 call227 (zFr (q2 Z) (d.fr W.size) ((f_v0.fr W).eq (D.g 0 Z)) ((f_v1.fr W).eq (D.g 1 Z))))<|oa<|oz
 intro R w m n p d j
 obtain ⟨h0,h1⟩:=k2 n h0 h1
 have h5:=p.r 3 Z
 replace f_v0:=f_v0.fr m
 replace f_v1:=f_v1.fr m
 refine HT.su d j (eR v0::eI (p0.length:Int)::eR v1::eI (p1.length:Int)::eI (max (p0.length:Int) (p1.length:Int))::eI (max (p0.length:Int) (p1.length:Int))::[]) ?_ ?_
 exact om h0<|op (fun Q U W H D=>zAG ((f_v0.fr W).eq (D.g 0 Z)) underlying9)<|om h1<|op (fun Q U W H D=>zAG ((f_v1.fr W).eq (D.g 0 Z)) underlying9)<|op (fun Q U W H D=>zIK (D.g 0 Z) (D.g 1 Z))<|oa<|oz
 intro R w m n p d j
 replace h5:=k1 n h5
 have h6:=p.r 5 Z
 refine HT.seq ?_
 refine HT.block ?_
 refine HT.su d j (eI x1::eB (decide (x1<0))::eB (decide (x1<0))::[]) ?_ ?_
 exact om h5<|op (fun Q U W H D=>zAf (D.g 0 Z) Z)<|oa<|oz
 intro R w m n p d j
 obtain ⟨h5,h6⟩:=k2 n h5 h6
 have h15:=p.r 2 Z
 refine HT.cond (decide (x1<0)) h15 (fun c3=>?_) (fun c3=>?_)
 have c:=zAK c3 c
 refine HT.su d j (eI 0::[]) ?_ ?_
 exact op (fun Q U W H D=>zA0 Z)<|oz
 intro R w m n p d j
 have h4:=p.r 0 Z
 refine HT.ret ?_
 obtain rfl:=si c
 exact ⟨.inr Z,[R 4],⟨Z,N⟩,h4,j⟩
 have c:=zAL c3 c
 refine HT.su d j (eI (max (p0.length:Int) (p1.length:Int))::eB ((max (p0.length:Int) (p1.length:Int))==0)::eB ((max (p0.length:Int) (p1.length:Int))==0)::[]) ?_ ?_
 exact om h6<|op (fun Q U W H D=>zBA (D.g 0 Z) Z)<|oa<|oz
 intro R w m n p d j
 obtain ⟨h5,h6⟩:=k2 n h5 h6
 have h18:=p.r 2 Z
 refine HT.cond ((max (p0.length:Int) (p1.length:Int))==0) h18 (fun c4=>?_) (fun c4=>?_)
 have c:=zAK c4 c
 refine HT.su d j (eI 1000::[]) ?_ ?_
 exact op (fun Q U W H D=>zA0 Z)<|oz
 intro R w m n p d j
 have h4:=p.r 0 Z
 refine HT.ret ?_
 obtain rfl:=si c
 exact ⟨.inr Z,[R 4],⟨Z,N⟩,h4,j⟩
 have c:=zAL c4 c
 refine HT.skip ?_
 obtain ⟨e5,e6,e7,e8,c⟩:=ck4 c
 refine HT.su d j (eI (max (p0.length:Int) (p1.length:Int))::eI x1::eI ((max (p0.length:Int) (p1.length:Int))-x1)::eI (1000*((max (p0.length:Int) (p1.length:Int))-x1))::eI (max (p0.length:Int) (p1.length:Int))::eI ((1000*((max (p0.length:Int) (p1.length:Int))-x1)).tdiv (max (p0.length:Int) (p1.length:Int)))::eI ((1000*((max (p0.length:Int) (p1.length:Int))-x1)).tdiv (max (p0.length:Int) (p1.length:Int)))::[]) ?_ ?_
 exact om h6<|om h5<|op (fun Q U W H D=>zAX (D.g 0 Z) (D.g 1 Z) e5)<|op (fun Q U W H D=>zHq Z (D.g 0 Z) e6)<|om h6<|op (fun Q U W H D=>zH0 (D.g 0 Z) (D.g 1 Z) e7 e8)<|oa<|oz
 intro R w m n p d j
 have h4:=p.r 6 Z
 refine HT.ret ?_
 obtain rfl:=si c
 exact ⟨.inr Z,[R 4],⟨Z,N⟩,h4,j⟩
def zDT (fu:Nat) (p0:List UInt8) (p1:List UInt8):Option Int:=
 cl true (zC4 fu p0) fun x1=>
 cl true (zC4 fu p1) fun x4=>
 bd ((x1==([]:List UInt8)) || (x4==([]:List UInt8))) fun x7=>
 bif x7 then (
 some 0
 ) else (
 cl true (zDj fu x1 x4) fun x10=>
 some x10
 )
theorem zFi {fu : Nat} {A : Av} {p0 : List UInt8} {p1 : List UInt8} {r : Int} (c : zDT fu p0 p1 = some r) {w : World} {v0 : Value} {v1 : Value} (d : AvOK A w) (h0 : Rep eStr A w v0 p0) (h1 : Rep eStr A w v1 p1) :
 Calls prog 126 #[v0,v1] w fun e w'=>∃ v,e = .returned v∧(v = .int .i64 r∧Fr w w'):=by
 unfold zDT at c
 obtain ⟨w0,hw0⟩:∃ w0,w0=w:=⟨_,Z⟩
 have j:Fr w0 w:=hw0 ▸ Fr.refl _
 rw [show Fr w=Fr w0 from hw0 ▸ Z]
 clear hw0
 refine zA2 [.tmp 4] func126 ntmps126 (by decide) Z Z (nb Z) ?_
 intro R hR
 have f_v0:=h0
 replace h0:R 0=v0:=hR 0 _ Z
 have f_v1:=h1
 replace h1:R 1=v1:=hR 1 _ Z
 clear hR
 refine HT.su d j (eI 0::[]) ?_ ?_
 exact op (fun Q U W H D=>zA0 Z)<|oz
 intro R w m n p d j
 obtain ⟨h0,h1⟩:=k2 n h0 h1
 replace f_v0:=f_v0.fr m
 replace f_v1:=f_v1.fr m
 obtain ⟨x1,q2,c⟩:=zA3 c
 refine HT.su d j (eR v0::eF (.rep eStr A x1)::eF (.rep eStr A x1)::[]) ?_ ?_
 exact om h0<|op (fun Q U W H D=>zA6 call60 (zDq (q2 Z) (d.fr W.size) ((f_v0.fr W).eq (D.g 0 Z))))<|op (fun Q U W H D=>zA0 (D.g 0 Z))<|oz
 intro R w m n p d j
 replace h1:=k1 n h1
 obtain ⟨u3,h5,f_u3⟩:∃ u,R 5=u∧Rep eStr A w u x1:=⟨_,Z,p 2 _ _ Z Z Z⟩
 replace f_v1:=f_v1.fr m
 obtain ⟨x4,q5,c⟩:=zA3 c
 refine HT.su d j (eR v1::eF (.rep eStr A x4)::eF (.rep eStr A x4)::[]) ?_ ?_
 exact om h1<|op (fun Q U W H D=>zA6 call60 (zDq (q5 Z) (d.fr W.size) ((f_v1.fr W).eq (D.g 0 Z))))<|op (fun Q U W H D=>zA0 (D.g 0 Z))<|oz
 intro R w m n p d j
 replace h5:=k1 n h5
 obtain ⟨u6,h6,f_u6⟩:∃ u,R 6=u∧Rep eStr A w u x4:=⟨_,Z,p 2 _ _ Z Z Z⟩
 replace f_u3:=f_u3.fr m
 refine HT.seq ?_
 refine HT.seq ?_
 obtain ⟨x7,q8,c⟩:=zAB c
 refine HT.u d j (eR u3::eB (x1==([]:List UInt8))::eB (x1==([]:List UInt8))::gR (true&&((x1==([]:List UInt8))==false)) u6::gB (true&&((x1==([]:List UInt8))==false)) (x4==([]:List UInt8))::eB x7::[]) ?_ ?_
 exact om h5<|op (fun Q U W H D=>zB4 ((f_u3.fr W).eq (D.g 0 Z)) ⟨_,Z,⟨_,Z,Z,by decide⟩⟩)<|ov<|gm 2 false h6<|og 2 false (fun G Q U W H D=>zB4 ((f_u6.fr W).eq (D.h 0 G Z)) ⟨_,Z,⟨_,Z,Z,by decide⟩⟩)<|op (fun Q U W H D=>zAC (x1==([]:List UInt8)) (D.g 0 Z) (fun hc=>by show _=Value.bool x7;rw [q8,hc];exact Z) (fun hc=>by have a2:Q 15 = .bool (x4==([]:List UInt8)):=D 1 _ _ _ Z Z Z Z (zAZ Z (zAM hc));show _=Value.bool x7;rw [q8,hc];exact a2))<|oz
 intro R w m n p d j
 obtain ⟨h5,h6⟩:=k2 n h5 h6
 have h16:=p.r 5 Z
 replace f_u3:=f_u3.fr m
 replace f_u6:=f_u6.fr m
 refine HT.cond x7 h16 (fun c9=>?_) (fun c9=>?_)
 have c:=zAK c9 c
 refine HT.su d j (eI 0::[]) ?_ ?_
 exact op (fun Q U W H D=>zA0 Z)<|oz
 intro R w m n p d j
 have h4:=p.r 0 Z
 refine HT.ret ?_
 obtain rfl:=si c
 exact ⟨.inr Z,[R 4],⟨Z,N⟩,h4,j⟩
 have c:=zAL c9 c
 refine HT.skip ?_
 obtain ⟨x10,q11,c⟩:=zA3 c
 refine HT.su d j (eR u3::eR u6::eI x10::eI x10::[]) ?_ ?_
 exact om h5<|om h6<|op (fun Q U W H D=>zA6 call184 (zGi (q11 Z) (d.fr W.size) ((f_u3.fr W).eq (D.g 0 Z)) ((f_u6.fr W).eq (D.g 1 Z))))<|oa<|oz
 intro R w m n p d j
 have h4:=p.r 3 Z
 refine HT.ret ?_
 obtain rfl:=si c
 exact ⟨.inr Z,[R 4],⟨Z,N⟩,h4,j⟩
def zAu (fu : Nat) (p0 : List (List UInt8)) (y4 : Int) : Nat → Int → Option (Ex Bool Unit)
 | 0,_=>none
 | k+1,y18=>
 ck (inR y4 p0.length) <|
 bif (decide (y18<((gtD p0 y4).length:Int))) then (
 ck (inR y4 p0.length) <|
 ck (inR y18 (gtD p0 y4).length) <|
 cl true (zD1 fu (bAt (gtD p0 y4) y18)) fun x23=>
 ck (!(true&&((!x23)==false)) || inR y4 p0.length) <|
 cl (true&&((!x23)==false)) (zBX fu (gtD p0 y4)) fun x26=>
 ck (!(true&&((!x23)==false)) || inR y4 p0.length) <|
 bd ((!x23) || (!(x26==(gtD p0 y4)))) fun x29=>
 bif x29 then (
 some (Ex.ret false)
 ) else (
 ck (i64B (y18+1)) <|
 zAu fu p0 y4 k (y18+1)
 )
 ) else (
 some (Ex.go ())
 )
def zB6 (fu : Nat) (p0 : List (List UInt8)) : Nat → Int → Option (Ex Bool Unit)
 | 0,_=>none
 | k+1,y4=>
 bif (decide (y4<(p0.length:Int))) then (
 ck (inR y4 p0.length) <|
 ck (!((true&&(((gtD p0 y4)==([]:List UInt8))==false))&&((decide (0<y4))==true)) || i64B (y4-1)) <|
 ck (!((true&&(((gtD p0 y4)==([]:List UInt8))==false))&&((decide (0<y4))==true)) || inR (y4-1) p0.length) <|
 ck (!((true&&(((gtD p0 y4)==([]:List UInt8))==false))&&((decide (0<y4))==true)) || inR y4 p0.length) <|
 bd ((decide (0<y4))&&(!(bLt (gtD p0 (y4-1)) (gtD p0 y4)))) fun x10=>
 bd (((gtD p0 y4)==([]:List UInt8)) || x10) fun x12=>
 bif x12 then (
 some (Ex.ret false)
 ) else (
 cl true (zAu fu p0 y4 fu 0) fun rl15=>
 exM rl15 (fun r=>some (Ex.ret r)) fun s17=>
 ck (i64B (y4+1)) <|
 zB6 fu p0 k (y4+1)
 )
 ) else (
 some (Ex.go ())
 )
def zCH (fu:Nat) (p0:List (List UInt8)):Option Bool:=
 cl true (zB6 fu p0 fu 0) fun rl1=>
 exM rl1 (fun r=>some r) fun s3=>
 some true
theorem zEb {fu : Nat} {A : Av} {p0 : List (List UInt8)} {r : Bool} (c : zCH fu p0 = some r) {w : World} {v0 : Value} (d : AvOK A w) (h0 : Rep (eSl eStr) A w v0 p0) :
 Calls prog 270 #[v0] w fun e w'=>∃ v,e = .returned v∧(v = .bool r∧Fr w w'):=by
 unfold zCH at c
 obtain ⟨w0,hw0⟩:∃ w0,w0=w:=⟨_,Z⟩
 have j:Fr w0 w:=hw0 ▸ Fr.refl _
 rw [show Fr w=Fr w0 from hw0 ▸ Z]
 clear hw0
 refine zA2 [.tmp 2] func270 ntmps270 (by decide) Z Z (nb Z) ?_
 intro R hR
 have f_v0:=h0
 replace h0:R 0=v0:=hR 0 _ Z
 clear hR
 refine HT.su d j (eB false::[]) ?_ ?_
 exact op (fun Q U W H D=>zA0 Z)<|oz
 intro R w m n p d j
 replace h0:=k1 n h0
 replace f_v0:=f_v0.fr m
 refine HT.seq ?_
 refine HT.su d j (eI 0::[]) ?_ ?_
 exact op (fun Q U W H D=>zA0 Z)<|oz
 intro R w m n p d j
 replace h0:=k1 n h0
 have h3:=p.r 0 Z
 replace f_v0:=f_v0.fr m
 obtain ⟨rl1,q2,c⟩:=zA3 c
 replace q2:=q2 Z
 refine HT.cut0 (fun R w=>∃ (s3:Unit),rl1=Ex.go s3∧AvOK A w∧Fr w0 w) ?_ ?_
 refine HT.block ?_
 refine HT.loop (fun k R w=>∃ (y4:Int),zB6 fu p0 k y4=some rl1∧AvOK A w∧Fr w0 w∧R 0=v0∧R 3 = .int .i64 y4∧Rep (eSl eStr) A w v0 p0) fu ⟨_,q2,d,j,h0,h3,f_v0⟩ ?_
 have hr0:=c;clear c q2
 rintro k R w ⟨y4,c,d,j,h0,h3,f_v0⟩
 rcases k with _ | k
 cases (show none=some _ from c)
 rw [zB6] at c
 refine HT.seq ?_
 refine HT.su d j (eI y4::eR v0::eI (p0.length:Int)::eB (decide (y4<(p0.length:Int)))::[]) ?_ ?_
 exact om h3<|om h0<|op (fun Q U W H D=>zAb (aT:=#[]) ((f_v0.fr W).eq (D.g 0 Z)) underlying46)<|op (fun Q U W H D=>zAf (D.g 0 Z) (D.g 1 Z))<|oz
 intro R w m n p d j
 obtain ⟨h0,h3⟩:=k2 n h0 h3
 have h8:=p.r 3 Z
 replace f_v0:=f_v0.fr m
 refine HT.cond (decide (y4<(p0.length:Int))) h8 (fun c5=>?_) (fun c5=>?_)
 have c:=zAK c5 c
 refine HT.skip ?_
 refine HT.seq ?_
 refine HT.block ?_
 refine HT.seq ?_
 refine HT.seq ?_
 obtain ⟨e6,e7,e8,e9,c⟩:=ck4 c
 obtain ⟨x10,q11,c⟩:=zAB c
 obtain ⟨x12,q13,c⟩:=zAB c
 refine HT.draw (by kernel_rfl) (l:=eR v0::eI y4::eF (.qtr eStr A (gtD p0 y4))::eF (.rep eStr A (gtD p0 y4))::eB ((gtD p0 y4)==([]:List UInt8))::eB ((gtD p0 y4)==([]:List UInt8))::gI (true&&(((gtD p0 y4)==([]:List UInt8))==false)) y4::gB (true&&(((gtD p0 y4)==([]:List UInt8))==false)) (decide (0<y4))::gB (true&&(((gtD p0 y4)==([]:List UInt8))==false)) (decide (0<y4))::gR ((true&&(((gtD p0 y4)==([]:List UInt8))==false))&&((decide (0<y4))==true)) v0::gI ((true&&(((gtD p0 y4)==([]:List UInt8))==false))&&((decide (0<y4))==true)) y4::gI ((true&&(((gtD p0 y4)==([]:List UInt8))==false))&&((decide (0<y4))==true)) (y4-1)::gF ((true&&(((gtD p0 y4)==([]:List UInt8))==false))&&((decide (0<y4))==true)) (.qtr eStr A (gtD p0 (y4-1)))::gF ((true&&(((gtD p0 y4)==([]:List UInt8))==false))&&((decide (0<y4))==true)) (.rep eStr A (gtD p0 (y4-1)))::gR ((true&&(((gtD p0 y4)==([]:List UInt8))==false))&&((decide (0<y4))==true)) v0::gI ((true&&(((gtD p0 y4)==([]:List UInt8))==false))&&((decide (0<y4))==true)) y4::gF ((true&&(((gtD p0 y4)==([]:List UInt8))==false))&&((decide (0<y4))==true)) (.qtr eStr A (gtD p0 y4))::gF ((true&&(((gtD p0 y4)==([]:List UInt8))==false))&&((decide (0<y4))==true)) (.rep eStr A (gtD p0 y4))::gB ((true&&(((gtD p0 y4)==([]:List UInt8))==false))&&((decide (0<y4))==true)) (!(bLt (gtD p0 (y4-1)) (gtD p0 y4)))::gB (true&&(((gtD p0 y4)==([]:List UInt8))==false)) x10::eB x12::[]) (tl:=[]) (by kernel_rfl) (by kernel_rfl) (by kernel_rfl) (by kernel_rfl) ?_ ?_
 exact om h0<|om h3<|op (fun Q U W H D=>zA7 ((f_v0.fr W).eq (D.g 0 Z)) (D.g 1 Z) underlying46 sizeOf9 e6)<|op (fun Q U W H D=>(zAQ (QRep.ptr (D.g 0 Z)) isAgg9 sizeOf9))<|op (fun Q U W H D=>zB4 (D.g 0 Z) ⟨_,Z,⟨_,Z,Z,by decide⟩⟩)<|ov<|gm 5 false h3<|og 5 false (fun G Q U W H D=>zCM (D.h 0 G Z) Z)<|og 5 false (fun G Q U W H D=>zCE (D.h 0 G Z))<|gm 8 true h0<|gm 8 true h3<|og 8 true (fun G Q U W H D=>zAX (D.h 0 G Z) Z (gd e7 G))<|og 8 true (fun G Q U W H D=>zA7 ((f_v0.fr W).eq (D.h 0 G Z)) (D.h 1 G Z) underlying46 sizeOf9 (gd e8 G))<|og 8 true (fun G Q U W H D=>(zAQ (QRep.ptr (D.h 0 G Z)) isAgg9 sizeOf9))<|gm 8 true h0<|gm 8 true h3<|og 8 true (fun G Q U W H D=>zA7 ((f_v0.fr W).eq (D.h 0 G Z)) (D.h 1 G Z) underlying46 sizeOf9 (gd e9 G))<|og 8 true (fun G Q U W H D=>(zAQ (QRep.ptr (D.h 0 G Z)) isAgg9 sizeOf9))<|og 8 true (fun G Q U W H D=>zMq (D.h 0 G Z) (D.h 1 G Z))<|og 5 false (fun G Q U W H D=>zAC (decide (0<y4)) (D.h 0 G Z) (fun hc=>by have a1:Q 29 = .bool (!(bLt (gtD p0 (y4-1)) (gtD p0 y4))):=D 1 _ _ _ Z Z Z Z (zAZ G (zAM hc));show _=Value.bool x10;rw [q11,hc];exact a1) (fun hc=>by show _=Value.bool x10;rw [q11,hc];exact Z))<|op (fun Q U W H D=>zAC ((gtD p0 y4)==([]:List UInt8)) (D.g 0 Z) (fun hc=>by show _=Value.bool x12;rw [q13,hc];exact Z) (fun hc=>by have a2:Q 30 = .bool x10:=D 1 _ _ _ Z Z Z Z (zAZ Z (zAM hc));show _=Value.bool x12;rw [q13,hc];exact a2))<|oz
 intro R w m n p
 obtain ⟨h0,h3⟩:=k2 n h0 h3
 have h31:=p.r 20 Z
 replace f_v0:=f_v0.fr m
 replace d:=d.fr m.size
 replace j:=j.trans m
 refine HT.cond x12 h31 (fun c14=>?_) (fun c14=>?_)
 have c:=zAK c14 c
 refine HT.su d j (eB false::[]) ?_ ?_
 exact op (fun Q U W H D=>zA0 Z)<|oz
 intro R w m n p d j
 have h2:=p.r 0 Z
 refine HT.ret ?_
 obtain rfl:=si c
 have c:=hr0
 replace c:some _=some _:=c
 obtain rfl:=si c
 exact ⟨.inr Z,[R 2],⟨Z,N⟩,h2,j⟩
 have c:=zAL c14 c
 refine HT.skip ?_
 refine HT.su d j (eI 0::[]) ?_ ?_
 exact op (fun Q U W H D=>zA0 Z)<|oz
 intro R w m n p d j
 obtain ⟨h0,h3⟩:=k2 n h0 h3
 have h4:=p.r 0 Z
 replace f_v0:=f_v0.fr m
 obtain ⟨rl15,q16,c⟩:=zA3 c
 replace q16:=q16 Z
 refine HT.cut0 (fun R w=>∃ (s17:Unit),rl15=Ex.go s17∧AvOK A w∧Fr w0 w∧R 0=v0∧R 3 = .int .i64 y4∧Rep (eSl eStr) A w v0 p0) ?_ ?_
 refine HT.block ?_
 refine HT.loop (fun k R w=>∃ (y18:Int),zAu fu p0 y4 k y18=some rl15∧AvOK A w∧Fr w0 w∧R 0=v0∧R 3 = .int .i64 y4∧R 4 = .int .i64 y18∧Rep (eSl eStr) A w v0 p0) fu ⟨_,q16,d,j,h0,h3,h4,f_v0⟩ ?_
 have hr1:=c;clear c q16
 rintro k R w ⟨y18,c,d,j,h0,h3,h4,f_v0⟩
 rcases k with _ | k
 cases (show none=some _ from c)
 rw [zAu] at c
 refine HT.seq ?_
 obtain ⟨e19,c⟩:=zA4 c
 refine HT.su d j (eI y18::eR v0::eI y4::eF (.qtr eStr A (gtD p0 y4))::eF (.rep eStr A (gtD p0 y4))::eI ((gtD p0 y4).length:Int)::eB (decide (y18<((gtD p0 y4).length:Int)))::[]) ?_ ?_
 exact om h4<|om h0<|om h3<|op (fun Q U W H D=>zA7 ((f_v0.fr W).eq (D.g 0 Z)) (D.g 1 Z) underlying46 sizeOf9 e19)<|op (fun Q U W H D=>(zAQ (QRep.ptr (D.g 0 Z)) isAgg9 sizeOf9))<|op (fun Q U W H D=>zAG (D.g 0 Z) underlying9)<|op (fun Q U W H D=>zAf (D.g 0 Z) (D.g 1 Z))<|oz
 intro R w m n p d j
 obtain ⟨h0,h3,h4⟩:=k3 n h0 h3 h4
 have h38:=p.r 6 Z
 replace f_v0:=f_v0.fr m
 refine HT.cond (decide (y18<((gtD p0 y4).length:Int))) h38 (fun c20=>?_) (fun c20=>?_)
 have c:=zAK c20 c
 refine HT.skip ?_
 refine HT.seq ?_
 refine HT.block ?_
 refine HT.seq ?_
 obtain ⟨e21,e22,c⟩:=ck2 c
 obtain ⟨x23,q24,c⟩:=zA3 c
 obtain ⟨e25,c⟩:=zA4 c
 obtain ⟨x26,q27,c⟩:=zA3 c
 obtain ⟨e28,c⟩:=zA4 c
 obtain ⟨x29,q30,c⟩:=zAB c
 refine HT.draw (by kernel_rfl) (l:=eR v0::eI y4::eF (.qtr eStr A (gtD p0 y4))::eF (.rep eStr A (gtD p0 y4))::eI y18::eU (bAt (gtD p0 y4) y18)::eB x23::eB (!x23)::eB (!x23)::gR (true&&((!x23)==false)) v0::gI (true&&((!x23)==false)) y4::gF (true&&((!x23)==false)) (.qtr eStr A (gtD p0 y4))::gF (true&&((!x23)==false)) (.rep eStr A (gtD p0 y4))::gF (true&&((!x23)==false)) (.rep eStr A x26)::gR (true&&((!x23)==false)) v0::gI (true&&((!x23)==false)) y4::gF (true&&((!x23)==false)) (.qtr eStr A (gtD p0 y4))::gF (true&&((!x23)==false)) (.rep eStr A (gtD p0 y4))::gB (true&&((!x23)==false)) (!(x26==(gtD p0 y4)))::eB x29::[]) (tl:=[]) (by kernel_rfl) (by kernel_rfl) (by kernel_rfl) (by kernel_rfl) ?_ ?_
 exact om h0<|om h3<|op (fun Q U W H D=>zA7 ((f_v0.fr W).eq (D.g 0 Z)) (D.g 1 Z) underlying46 sizeOf9 e21)<|op (fun Q U W H D=>(zAQ (QRep.ptr (D.g 0 Z)) isAgg9 sizeOf9))<|om h4<|op (fun Q U W H D=>zA8 (D.g 0 Z) (D.g 1 Z) underlying9 e22)<|op (fun Q U W H D=>zA6 call188 (zFk (q24 Z) (d.fr W.size) (D.g 0 Z)))<|op (fun Q U W H D=>zBh (D.g 0 Z))<|ov<|gm 8 false h0<|gm 8 false h3<|og 8 false (fun G Q U W H D=>zA7 ((f_v0.fr W).eq (D.h 0 G Z)) (D.h 1 G Z) underlying46 sizeOf9 (gd e25 G))<|og 8 false (fun G Q U W H D=>(zAQ (QRep.ptr (D.h 0 G Z)) isAgg9 sizeOf9))<|og 8 false (fun G Q U W H D=>zA6 call133 (zDI (q27 G) (d.fr W.size) (D.h 0 G Z)))<|gm 8 false h0<|gm 8 false h3<|og 8 false (fun G Q U W H D=>zA7 ((f_v0.fr W).eq (D.h 0 G Z)) (D.h 1 G Z) underlying46 sizeOf9 (gd e28 G))<|og 8 false (fun G Q U W H D=>(zAQ (QRep.ptr (D.h 0 G Z)) isAgg9 sizeOf9))<|og 8 false (fun G Q U W H D=>zFW (D.h 0 G Z) (D.h 1 G Z))<|op (fun Q U W H D=>zAC (!x23) (D.g 0 Z) (fun hc=>by show _=Value.bool x29;rw [q30,hc];exact Z) (fun hc=>by have a2:Q 59 = .bool (!(x26==(gtD p0 y4))):=D 1 _ _ _ Z Z Z Z (zAZ Z (zAM hc));show _=Value.bool x29;rw [q30,hc];exact a2))<|oz
 intro R w m n p
 obtain ⟨h0,h3,h4⟩:=k3 n h0 h3 h4
 have h60:=p.r 19 Z
 replace f_v0:=f_v0.fr m
 replace d:=d.fr m.size
 replace j:=j.trans m
 refine HT.cond x29 h60 (fun c31=>?_) (fun c31=>?_)
 have c:=zAK c31 c
 refine HT.su d j (eB false::[]) ?_ ?_
 exact op (fun Q U W H D=>zA0 Z)<|oz
 intro R w m n p d j
 have h2:=p.r 0 Z
 refine HT.ret ?_
 obtain rfl:=si c
 have c:=hr1
 replace c:some _=some _:=c
 obtain rfl:=si c
 have c:=hr0
 replace c:some _=some _:=c
 obtain rfl:=si c
 exact ⟨.inr Z,[R 2],⟨Z,N⟩,h2,j⟩
 have c:=zAL c31 c
 refine HT.skip ?_
 obtain ⟨e32,c⟩:=zA4 c
 refine HT.u d j (eI y18::eI (y18+1)::eI (y18+1)::[]) ?_ ?_
 exact om h4<|op (fun Q U W H D=>zAN (D.g 0 Z) Z e32)<|oa<|oz
 intro R w m n p d j
 obtain ⟨h0,h3⟩:=k2 n h0 h3
 have h4:=p.r 2 Z
 replace f_v0:=f_v0.fr m
 exact ei k (And.intro (Nat.lt_succ_self k) ⟨_,c,d,j,h0,h3,h4,f_v0⟩)
 have c:=zAL c20 c
 refine HT.exit ?_
 obtain rfl:=si c
 exact ei _ ⟨Z,d,j,h0,h3,f_v0⟩
 rintro R w ⟨s17,rfl,d,j,h0,h3,f_v0⟩
 have c:=zEP c
 obtain ⟨e33,c⟩:=zA4 c
 refine HT.u d j (eI y4::eI (y4+1)::eI (y4+1)::[]) ?_ ?_
 exact om h3<|op (fun Q U W H D=>zAN (D.g 0 Z) Z e33)<|oa<|oz
 intro R w m n p d j
 replace h0:=k1 n h0
 have h3:=p.r 2 Z
 replace f_v0:=f_v0.fr m
 exact ei k (And.intro (Nat.lt_succ_self k) ⟨_,c,d,j,h0,h3,f_v0⟩)
 have c:=zAL c5 c
 refine HT.exit ?_
 obtain rfl:=si c
 exact ei _ ⟨Z,d,j⟩
 rintro R w ⟨s3,rfl,d,j⟩
 have c:=zEP c
 refine HT.su d j (eB true::[]) ?_ ?_
 exact op (fun Q U W H D=>zA0 Z)<|oz
 intro R w m n p d j
 have h2:=p.r 0 Z
 refine HT.ret ?_
 obtain rfl:=si c
 exact ⟨.inr Z,[R 2],⟨Z,N⟩,h2,j⟩
def zEd (fu:Nat) (p0:List (List UInt8)) (p1:List (List UInt8)):Option Bool:=
 cl true (zCH fu p0) fun x1=>
 cl (true&&(x1==true)) (zCH fu p1) fun x3=>
 bd (x1&&x3) fun x5=>
 some x5
theorem zHW {fu : Nat} {A : Av} {p0 : List (List UInt8)} {p1 : List (List UInt8)} {r : Bool} (c : zEd fu p0 p1 = some r) {w : World} {v0 : Value} {v1 : Value} (d : AvOK A w) (h0 : Rep (eSl eStr) A w v0 p0) (h1 : Rep (eSl eStr) A w v1 p1) :
 Calls prog 228 #[v0,v1] w fun e w'=>∃ v,e = .returned v∧(v = .bool r∧Fr w w'):=by
 unfold zEd at c
 obtain ⟨w0,hw0⟩:∃ w0,w0=w:=⟨_,Z⟩
 have j:Fr w0 w:=hw0 ▸ Fr.refl _
 rw [show Fr w=Fr w0 from hw0 ▸ Z]
 clear hw0
 refine zA2 [.tmp 4] func228 ntmps228 (by decide) Z Z (nb Z) ?_
 intro R hR
 have f_v0:=h0
 replace h0:R 0=v0:=hR 0 _ Z
 have f_v1:=h1
 replace h1:R 1=v1:=hR 1 _ Z
 clear hR
 refine HT.su d j (eB false::[]) ?_ ?_
 exact op (fun Q U W H D=>zA0 Z)<|oz
 intro R w m n p d j
 obtain ⟨h0,h1⟩:=k2 n h0 h1
 replace f_v0:=f_v0.fr m
 replace f_v1:=f_v1.fr m
 refine HT.seq ?_
 obtain ⟨x1,q2,c⟩:=zA3 c
 obtain ⟨x3,q4,c⟩:=zA3 c
 obtain ⟨x5,q6,c⟩:=zAB c
 refine HT.u d j (eR v0::eB x1::eB x1::gR (true&&(x1==true)) v1::gB (true&&(x1==true)) x3::eB x5::eB x5::[]) ?_ ?_
 exact om h0<|op (fun Q U W H D=>zA6 call270 (zEb (q2 Z) (d.fr W.size) ((f_v0.fr W).eq (D.g 0 Z))))<|ov<|gm 2 true h1<|og 2 true (fun G Q U W H D=>zA6 call270 (zEb (q4 G) (d.fr W.size) ((f_v1.fr W).eq (D.h 0 G Z))))<|op (fun Q U W H D=>zAC x1 (D.g 0 Z) (fun hc=>by have a1:Q 9 = .bool x3:=D 1 _ _ _ Z Z Z Z (zAZ Z (zAM hc));show _=Value.bool x5;rw [q6,hc];exact a1) (fun hc=>by show _=Value.bool x5;rw [q6,hc];exact Z))<|oa<|oz
 intro R w m n p d j
 have h4:=p.r 6 Z
 refine HT.ret ?_
 obtain rfl:=si c
 exact ⟨.inr Z,[R 4],⟨Z,N⟩,h4,j⟩
def zAm (fu : Nat) (p0 : List (List UInt8)) : Nat → Int → (List (List UInt8)) → Option (List (List UInt8))
 | 0,_,_=>none
 | k+1,y5,y6=>
 bif (decide (y5<(p0.length:Int))) then (
 ck (inR y5 p0.length) <|
 cl true (zCc fu y6 (gtD p0 y5) false) fun x9=>
 ck (i64B (y5+1)) <|
 zAm fu p0 k (y5+1) x9
 ) else (
 some y6
 )
def zAo (fu : Nat) (p1 : List (List UInt8)) : Nat → Int → (List (List UInt8)) → Option (List (List UInt8))
 | 0,_,_=>none
 | k+1,y16,y17=>
 bif (decide (y16<(p1.length:Int))) then (
 ck (inR y16 p1.length) <|
 cl true (zCc fu y17 (gtD p1 y16) false) fun x20=>
 ck (i64B (y16+1)) <|
 zAo fu p1 k (y16+1) x20
 ) else (
 some y17
 )
def zBz (fu:Nat) (p0:List (List UInt8)) (p1:List (List UInt8)):Option (List (List UInt8)):=
 cl true (zAm fu p0 fu 0 ([]:List (List UInt8))) fun s4=>
 cl true (zAo fu p1 fu 0 s4) fun s15=>
 some s15
theorem zG1 {fu : Nat} {A0 : Av} {p0 : List (List UInt8)} {p1 : List (List UInt8)} {r : List (List UInt8)} (c : zBz fu p0 p1 = some r) {w : World} {v0 : Value} {v1 : Value} (d : AvOK A0 w) (h0 : Rep (eSl eStr) A0 w v0 p0) (h1 : Rep (eSl eStr) A0 w v1 p1) :
 Calls prog 119 #[v0,v1] w fun e w'=>∃ v,e = .returned v∧((Res.vec w.heap.size 9 eStr r).ok (addA A0 v) v w'∧Fr w w'):=by
 unfold zBz at c
 obtain ⟨w0,hw0⟩:∃ w0,w0=w:=⟨_,Z⟩
 have j:Fr w0 w:=hw0 ▸ Fr.refl _
 have C:∀ b o,A0 b o→b<w0.heap.size:=fun b o h=>hw0 ▸ d b o h
 have hA00:AvOK A0 w0:=C
 rw [show w.heap.size=w0.heap.size from hw0 ▸ Z]
 rw [show Fr w=Fr w0 from hw0 ▸ Z]
 clear hw0
 obtain ⟨A,hAe⟩:∃ A,A=A0:=⟨_,Z⟩
 have B:∀ b o,A0 b o→A b o:=fun b o h=>hAe ▸ h
 replace d:AvOK A w:=hAe ▸ d
 have q:IniOK [] A w:=IniOK.nil
 refine zA2 [.tmp 4] func119 ntmps119 (by decide) Z Z (nb Z) ?_
 intro R hR
 have f_v0:Rep (eSl eStr) A w v0 p0:=hAe ▸ h0
 replace h0:R 0=v0:=hR 0 _ Z
 have f_v1:Rep (eSl eStr) A w v1 p1:=hAe ▸ h1
 replace h1:R 1=v1:=hR 1 _ Z
 clear hR hAe
 refine HT.su d j (eA::[]) ?_ ?_
 exact op (fun Q U W H D=>zA0 N)<|oz
 intro R w m n p d j
 obtain ⟨h0,h1⟩:=k2 n h0 h1
 replace f_v0:=f_v0.fr m
 replace f_v1:=f_v1.fr m
 replace q:=q.fr m
 refine HT.sx [] (⟨_,true,[],some (.vec w0.heap.size 9 eStr ([]:List (List UInt8))),true,fun A=>.any⟩::⟨_,true,[0],some (.vec w0.heap.size 9 eStr ([]:List (List UInt8))),true,fun A=>.any⟩::[]) (ua (ua (UAll.nil))) q d ?_ ?_
 exact rc (OblR.made _ Z Z Z Z fun V Q U O D=>by exact zBb [] (E:=eStr) N underlying46 sizeOf9 zeroValue9 Z Z Z (Nat.le_trans j.size O.ch.size))<|rc (OblR.took 0 _ _ Z Z Z Z Z fun V Q U O D u hok hav hin hop hds=>by exact zAH (hop _ _ Z Z Z Z).symm hok hav)<|rz
 intro done ρ σ A R w y s
 obtain ⟨h0,h1⟩:=k2 s.rg h0 h1
 obtain ⟨u1,e_u1⟩:∃ u,ρ 1=u:=⟨_,Z⟩
 have h5:=s.ov y 1 1 e_u1
 replace f_v0:=f_v0.stp s.stp
 replace f_v1:=f_v1.stp s.stp
 obtain ⟨B,j,d⟩:=s.s B C j q N
 replace q:=s.left y [(1,ob u1 (.vec w0.heap.size 9 eStr ([]:List (List UInt8))))] ⟨Z,Z,e_u1,Z,Z,N⟩
 refine HT.seq ?_
 refine HT.su d j (eI 0::[]) ?_ ?_
 exact op (fun Q U W H D=>zA0 Z)<|oz
 intro R w m n p d j
 obtain ⟨h0,h1,h5⟩:=k3 n h0 h1 h5
 have h6:=p.r 0 Z
 replace f_v0:=f_v0.fr m
 replace f_v1:=f_v1.fr m
 replace q:=q.fr m
 obtain ⟨rl2,q3,c⟩:=zA3 c
 replace q3:=q3 Z
 refine HT.cut0 (fun R w=>∃ A:Av,∃ (s4:(List (List UInt8))) (uo_u1:Value),rl2=s4∧AvOK A w∧Fr w0 w∧(∀ b o,A0 b o→A b o)∧IniOK [ob uo_u1 (.vec w0.heap.size 9 eStr s4)] A w∧R 1=v1∧R 5=uo_u1∧Rep (eSl eStr) A w v1 p1) ?_ ?_
 refine HT.block ?_
 refine HT.loop (fun k R w=>∃ A:Av,∃ (y5:Int) (y6:List (List UInt8)) (ul_u1:Value),zAm fu p0 k y5 y6=some rl2∧AvOK A w∧Fr w0 w∧(∀ b o,A0 b o→A b o)∧IniOK [ob ul_u1 (.vec w0.heap.size 9 eStr y6)] A w∧R 0=v0∧R 1=v1∧R 5=ul_u1∧R 6 = .int .i64 y5∧Rep (eSl eStr) A w v0 p0∧Rep (eSl eStr) A w v1 p1) fu ⟨_,_,_,u1,q3,d,j,B,q,h0,h1,h5,h6,f_v0,f_v1⟩ ?_
 have hr0:=c;clear c q3
 rintro k R w ⟨A,y5,y6,ul_u1,c,d,j,B,q,h0,h1,h5,h6,f_v0,f_v1⟩
 rcases k with _ | k
 cases (show none=some _ from c)
 rw [zAm] at c
 refine HT.seq ?_
 refine HT.su d j (eI y5::eR v0::eI (p0.length:Int)::eB (decide (y5<(p0.length:Int)))::[]) ?_ ?_
 exact om h6<|om h0<|op (fun Q U W H D=>zAb (aT:=#[]) ((f_v0.fr W).eq (D.g 0 Z)) underlying46)<|op (fun Q U W H D=>zAf (D.g 0 Z) (D.g 1 Z))<|oz
 intro R w m n p d j
 obtain ⟨h0,h1,h5,h6⟩:=k4 n h0 h1 h5 h6
 have h12:=p.r 3 Z
 replace f_v0:=f_v0.fr m
 replace f_v1:=f_v1.fr m
 replace q:=q.fr m
 refine HT.cond (decide (y5<(p0.length:Int))) h12 (fun c7=>?_) (fun c7=>?_)
 have c:=zAK c7 c
 refine HT.skip ?_
 refine HT.seq ?_
 refine HT.block ?_
 obtain ⟨e8,c⟩:=zA4 c
 obtain ⟨x9,q10,c⟩:=zA3 c
 refine HT.x [ob ul_u1 (.vec w0.heap.size 9 eStr y6)] (rR ul_u1::rR v0::rI y5::(rF fun A=>.qtr eStr A (gtD p0 y5))::(rF fun A=>.rep eStr A (gtD p0 y5))::⟨_,true,[0],some (.vec w0.heap.size 9 eStr x9),true,fun A=>.any⟩::⟨_,true,[6],some (.vec w0.heap.size 9 eStr x9),true,fun A=>.any⟩::[]) (ur (ur (ur (UAll.cons zBG (up (ua (ua (UAll.nil)))))))) q d ?_ ?_
 exact rm h5<|rm h0<|rm h6<|rp (fun V Q U O D=>zA7 ((f_v0.stp O.stp).eq (D.g 0 Z)) (D.g 1 Z) underlying46 sizeOf9 e8)<|rp (fun V Q U O D=>(zAQ (QRep.ptr (D.g 0 Z)) isAgg9 sizeOf9))<|rc (OblR.took 0 _ _ Z Z Z Z Z fun V Q U O D u hok hav hin hop hds=>by have a0:Q 15=ul_u1:=D.g 0 Z;have a1:Rep eStr V U (Q 19) (gtD p0 y5):=D.g 1 Z;have hu0:zAD Q (.tmp 15)=u:=a0.trans (hin _ Z).symm;exact zEh call109 hav (by simp only [List.map,hu0];exact zDN (q10 Z) (O.av.sub _) (fun b o h=>h.2) (Nat.le_trans j.size O.ch.size) (Vec.flat hok (fun _ _ _ _ _ h=>h)) (a1.less fun b o h=>h.1) Z))<|rc (OblR.took 6 _ _ Z Z Z Z Z fun V Q U O D u hok hav hin hop hds=>by exact zAH (hop _ _ Z Z Z Z).symm hok hav)<|rz
 intro done ρ σ A R w y s
 obtain ⟨h0,h1,h6⟩:=k3 s.rg h0 h1 h6
 obtain ⟨u11,e_u11⟩:∃ u,ρ 7=u:=⟨_,Z⟩
 have h5:=s.ov y 7 6 e_u11
 replace f_v0:=f_v0.stp s.stp
 replace f_v1:=f_v1.stp s.stp
 obtain ⟨B,j,d⟩:=s.s B C j q ⟨Z,N⟩
 replace q:=s.left y [(7,ob u11 (.vec w0.heap.size 9 eStr x9))] ⟨Z,Z,e_u11,Z,Z,N⟩
 obtain ⟨e12,c⟩:=zA4 c
 refine HT.u d j (eI y5::eI (y5+1)::eI (y5+1)::[]) ?_ ?_
 exact om h6<|op (fun Q U W H D=>zAN (D.g 0 Z) Z e12)<|oa<|oz
 intro R w m n p d j
 obtain ⟨h0,h1,h5⟩:=k3 n h0 h1 h5
 have h6:=p.r 2 Z
 replace f_v0:=f_v0.fr m
 replace f_v1:=f_v1.fr m
 replace q:=q.fr m
 exact ei k (And.intro (Nat.lt_succ_self k) ⟨_,_,_,u11,c,d,j,B,q,h0,h1,h5,h6,f_v0,f_v1⟩)
 have c:=zAL c7 c
 refine HT.exit ?_
 obtain rfl:=si c
 exact ei _ ⟨_,ul_u1,Z,d,j,B,q,h1,h5,f_v1⟩
 rintro R w ⟨A,s4,uo_u1,es,d,j,B,q,h1,h5,f_v1⟩
 obtain rfl:=es.symm
 refine HT.seq ?_
 refine HT.su d j (eI 0::[]) ?_ ?_
 exact op (fun Q U W H D=>zA0 Z)<|oz
 intro R w m n p d j
 obtain ⟨h1,h5⟩:=k2 n h1 h5
 have h7:=p.r 0 Z
 replace f_v1:=f_v1.fr m
 replace q:=q.fr m
 obtain ⟨rl13,q14,c⟩:=zA3 c
 replace q14:=q14 Z
 refine HT.cut0 (fun R w=>∃ A:Av,∃ (s15:(List (List UInt8))) (uo_uo_u1:Value),rl13=s15∧AvOK A w∧Fr w0 w∧(∀ b o,A0 b o→A b o)∧IniOK [ob uo_uo_u1 (.vec w0.heap.size 9 eStr s15)] A w∧R 5=uo_uo_u1) ?_ ?_
 refine HT.block ?_
 refine HT.loop (fun k R w=>∃ A:Av,∃ (y16:Int) (y17:List (List UInt8)) (ul_uo_u1:Value),zAo fu p1 k y16 y17=some rl13∧AvOK A w∧Fr w0 w∧(∀ b o,A0 b o→A b o)∧IniOK [ob ul_uo_u1 (.vec w0.heap.size 9 eStr y17)] A w∧R 1=v1∧R 5=ul_uo_u1∧R 7 = .int .i64 y16∧Rep (eSl eStr) A w v1 p1) fu ⟨_,_,_,uo_u1,q14,d,j,B,q,h1,h5,h7,f_v1⟩ ?_
 have hr0:=c;clear c q14
 rintro k R w ⟨A,y16,y17,ul_uo_u1,c,d,j,B,q,h1,h5,h7,f_v1⟩
 rcases k with _ | k
 cases (show none=some _ from c)
 rw [zAo] at c
 refine HT.seq ?_
 refine HT.su d j (eI y16::eR v1::eI (p1.length:Int)::eB (decide (y16<(p1.length:Int)))::[]) ?_ ?_
 exact om h7<|om h1<|op (fun Q U W H D=>zAb (aT:=#[]) ((f_v1.fr W).eq (D.g 0 Z)) underlying46)<|op (fun Q U W H D=>zAf (D.g 0 Z) (D.g 1 Z))<|oz
 intro R w m n p d j
 obtain ⟨h1,h5,h7⟩:=k3 n h1 h5 h7
 have h24:=p.r 3 Z
 replace f_v1:=f_v1.fr m
 replace q:=q.fr m
 refine HT.cond (decide (y16<(p1.length:Int))) h24 (fun c18=>?_) (fun c18=>?_)
 have c:=zAK c18 c
 refine HT.skip ?_
 refine HT.seq ?_
 refine HT.block ?_
 obtain ⟨e19,c⟩:=zA4 c
 obtain ⟨x20,q21,c⟩:=zA3 c
 refine HT.x [ob ul_uo_u1 (.vec w0.heap.size 9 eStr y17)] (rR ul_uo_u1::rR v1::rI y16::(rF fun A=>.qtr eStr A (gtD p1 y16))::(rF fun A=>.rep eStr A (gtD p1 y16))::⟨_,true,[0],some (.vec w0.heap.size 9 eStr x20),true,fun A=>.any⟩::⟨_,true,[6],some (.vec w0.heap.size 9 eStr x20),true,fun A=>.any⟩::[]) (ur (ur (ur (UAll.cons zBG (up (ua (ua (UAll.nil)))))))) q d ?_ ?_
 exact rm h5<|rm h1<|rm h7<|rp (fun V Q U O D=>zA7 ((f_v1.stp O.stp).eq (D.g 0 Z)) (D.g 1 Z) underlying46 sizeOf9 e19)<|rp (fun V Q U O D=>(zAQ (QRep.ptr (D.g 0 Z)) isAgg9 sizeOf9))<|rc (OblR.took 0 _ _ Z Z Z Z Z fun V Q U O D u hok hav hin hop hds=>by have a0:Q 27=ul_uo_u1:=D.g 0 Z;have a1:Rep eStr V U (Q 31) (gtD p1 y16):=D.g 1 Z;have hu0:zAD Q (.tmp 27)=u:=a0.trans (hin _ Z).symm;exact zEh call109 hav (by simp only [List.map,hu0];exact zDN (q21 Z) (O.av.sub _) (fun b o h=>h.2) (Nat.le_trans j.size O.ch.size) (Vec.flat hok (fun _ _ _ _ _ h=>h)) (a1.less fun b o h=>h.1) Z))<|rc (OblR.took 6 _ _ Z Z Z Z Z fun V Q U O D u hok hav hin hop hds=>by exact zAH (hop _ _ Z Z Z Z).symm hok hav)<|rz
 intro done ρ σ A R w y s
 obtain ⟨h1,h7⟩:=k2 s.rg h1 h7
 obtain ⟨u22,e_u22⟩:∃ u,ρ 7=u:=⟨_,Z⟩
 have h5:=s.ov y 7 6 e_u22
 replace f_v1:=f_v1.stp s.stp
 obtain ⟨B,j,d⟩:=s.s B C j q ⟨Z,N⟩
 replace q:=s.left y [(7,ob u22 (.vec w0.heap.size 9 eStr x20))] ⟨Z,Z,e_u22,Z,Z,N⟩
 obtain ⟨e23,c⟩:=zA4 c
 refine HT.u d j (eI y16::eI (y16+1)::eI (y16+1)::[]) ?_ ?_
 exact om h7<|op (fun Q U W H D=>zAN (D.g 0 Z) Z e23)<|oa<|oz
 intro R w m n p d j
 obtain ⟨h1,h5⟩:=k2 n h1 h5
 have h7:=p.r 2 Z
 replace f_v1:=f_v1.fr m
 replace q:=q.fr m
 exact ei k (And.intro (Nat.lt_succ_self k) ⟨_,_,_,u22,c,d,j,B,q,h1,h5,h7,f_v1⟩)
 have c:=zAL c18 c
 refine HT.exit ?_
 obtain rfl:=si c
 exact ei _ ⟨_,ul_uo_u1,Z,d,j,B,q,h5⟩
 rintro R w ⟨A,s15,uo_uo_u1,es,d,j,B,q,h5⟩
 obtain rfl:=es.symm
 refine HT.su d j (eR uo_uo_u1::eR uo_uo_u1::[]) ?_ ?_
 exact om h5<|oa<|oz
 intro R w m n p d j
 have h4:=p.r 1 Z
 replace q:=q.fr m
 refine HT.ret ?_
 obtain rfl:=si c
 exact ⟨.inr Z,[R 4],⟨Z,N⟩,(zCT (q.ok 0 _ Z) B h4),j⟩
theorem zFn {fu : Nat} {A0 : Av} {p0 : List (List UInt8)} {p1 : List (List UInt8)} {r : List (List UInt8)} (c : zBz fu p0 p1 = some r) {w : World} {v0 : Value} {v1 : Value} (d : AvOK A0 w) (h0 : Rep (eSl eStr) A0 w v0 p0) (h1 : Rep (eSl eStr) A0 w v1 p1) :
 Calls prog 119 #[v0,v1] w fun e w'=>∃ v,e = .returned v∧(Rep (eSl eStr) A0 w' v r∧Fr w w'):=by
 refine Calls.mono (zG1 c d h0 h1) ?_
 rintro e w' ⟨v,he,hv,hf⟩
 exact ⟨v,he,zCD hv (fun b o h=>.inl h) d,hf⟩
def zEL (fu:Nat) (p0:Int) (p1:Int):Option Int:=
 bif (p1==0) then (
 some 1000
 ) else (
 ck (i64B (1000*p0)) <|
 ck (p1 != 0) <|
 ck (i64B ((1000*p0).tdiv p1)) <|
 some ((1000*p0).tdiv p1)
 )
theorem zHP {fu : Nat} {A : Av} {p0 : Int} {p1 : Int} {r : Int} (c : zEL fu p0 p1 = some r) {w : World} {v0 : Value} {v1 : Value} (d : AvOK A w) (h0 : v0 = .int .i64 p0) (h1 : v1 = .int .i64 p1) :
 Calls prog 229 #[v0,v1] w fun e w'=>∃ v,e = .returned v∧(v = .int .i64 r∧Fr w w'):=by
 unfold zEL at c
 obtain ⟨w0,hw0⟩:∃ w0,w0=w:=⟨_,Z⟩
 have j:Fr w0 w:=hw0 ▸ Fr.refl _
 rw [show Fr w=Fr w0 from hw0 ▸ Z]
 clear hw0
 refine zA2 [.tmp 4] func229 ntmps229 (by decide) Z Z (nb Z) ?_
 intro R hR
 replace h0:R 0 = .int .i64 p0:=(hR 0 _ Z).trans h0
 replace h1:R 1 = .int .i64 p1:=(hR 1 _ Z).trans h1
 clear hR
 refine HT.su d j (eI 0::[]) ?_ ?_
 exact op (fun Q U W H D=>zA0 Z)<|oz
 intro R w m n p d j
 obtain ⟨h0,h1⟩:=k2 n h0 h1
 refine HT.seq ?_
 refine HT.su d j (eI p1::eB (p1==0)::[]) ?_ ?_
 exact om h1<|op (fun Q U W H D=>zBA (D.g 0 Z) Z)<|oz
 intro R w m n p d j
 obtain ⟨h0,h1⟩:=k2 n h0 h1
 have h6:=p.r 1 Z
 refine HT.cond (p1==0) h6 (fun c1=>?_) (fun c1=>?_)
 have c:=zAK c1 c
 refine HT.su d j (eI 1000::[]) ?_ ?_
 exact op (fun Q U W H D=>zA0 Z)<|oz
 intro R w m n p d j
 have h4:=p.r 0 Z
 refine HT.ret ?_
 obtain rfl:=si c
 exact ⟨.inr Z,[R 4],⟨Z,N⟩,h4,j⟩
 have c:=zAL c1 c
 refine HT.skip ?_
 obtain ⟨e2,e3,e4,c⟩:=ck3 c
 refine HT.su d j (eI p0::eI (1000*p0)::eI p1::eI ((1000*p0).tdiv p1)::eI ((1000*p0).tdiv p1)::[]) ?_ ?_
 exact om h0<|op (fun Q U W H D=>zHq Z (D.g 0 Z) e2)<|om h1<|op (fun Q U W H D=>zH0 (D.g 0 Z) (D.g 1 Z) e3 e4)<|oa<|oz
 intro R w m n p d j
 have h4:=p.r 4 Z
 refine HT.ret ?_
 obtain rfl:=si c
 exact ⟨.inr Z,[R 4],⟨Z,N⟩,h4,j⟩
def zDh (fu:Nat) (p0:List (List UInt8)) (p1:List (List UInt8)):Option Int:=
 cl true (zEd fu p0 p1) fun x1=>
 bif (!x1) then (
 some 0
 ) else (
 cl true (zBj fu p0 p1) fun x4=>
 cl true (zBz fu p0 p1) fun x6=>
 cl true (zEL fu (x4.length:Int) (x6.length:Int)) fun x8=>
 some x8
 )
theorem zHK {fu : Nat} {A : Av} {p0 : List (List UInt8)} {p1 : List (List UInt8)} {r : Int} (c : zDh fu p0 p1 = some r) {w : World} {v0 : Value} {v1 : Value} (d : AvOK A w) (h0 : Rep (eSl eStr) A w v0 p0) (h1 : Rep (eSl eStr) A w v1 p1) :
 Calls prog 185 #[v0,v1] w fun e w'=>∃ v,e = .returned v∧(v = .int .i64 r∧Fr w w'):=by
 unfold zDh at c
 obtain ⟨w0,hw0⟩:∃ w0,w0=w:=⟨_,Z⟩
 have j:Fr w0 w:=hw0 ▸ Fr.refl _
 rw [show Fr w=Fr w0 from hw0 ▸ Z]
 clear hw0
 refine zA2 [.tmp 4] func185 ntmps185 (by decide) Z Z (nb Z) ?_
 intro R hR
 have f_v0:=h0
 replace h0:R 0=v0:=hR 0 _ Z
 have f_v1:=h1
 replace h1:R 1=v1:=hR 1 _ Z
 clear hR
 refine HT.su d j (eI 0::[]) ?_ ?_
 exact op (fun Q U W H D=>zA0 Z)<|oz
 intro R w m n p d j
 obtain ⟨h0,h1⟩:=k2 n h0 h1
 replace f_v0:=f_v0.fr m
 replace f_v1:=f_v1.fr m
 refine HT.seq ?_
 obtain ⟨x1,q2,c⟩:=zA3 c
 refine HT.su d j (eR v0::eR v1::eB x1::eB (!x1)::[]) ?_ ?_
 exact om h0<|om h1<|op (fun Q U W H D=>zA6 call228 (zHW (q2 Z) (d.fr W.size) ((f_v0.fr W).eq (D.g 0 Z)) ((f_v1.fr W).eq (D.g 1 Z))))<|op (fun Q U W H D=>zBh (D.g 0 Z))<|oz
 intro R w m n p d j
 obtain ⟨h0,h1⟩:=k2 n h0 h1
 have h8:=p.r 3 Z
 replace f_v0:=f_v0.fr m
 replace f_v1:=f_v1.fr m
 refine HT.cond (!x1) h8 (fun c3=>?_) (fun c3=>?_)
 have c:=zAK c3 c
 refine HT.su d j (eI 0::[]) ?_ ?_
 exact op (fun Q U W H D=>zA0 Z)<|oz
 intro R w m n p d j
 have h4:=p.r 0 Z
 refine HT.ret ?_
 obtain rfl:=si c
 exact ⟨.inr Z,[R 4],⟨Z,N⟩,h4,j⟩
 have c:=zAL c3 c
 refine HT.skip ?_
 obtain ⟨x4,q5,c⟩:=zA3 c
 obtain ⟨x6,q7,c⟩:=zA3 c
 obtain ⟨x8,q9,c⟩:=zA3 c
 refine HT.su d j (eR v0::eR v1::eF (.rep (eSl eStr) A x4)::eI (x4.length:Int)::eR v0::eR v1::eF (.rep (eSl eStr) A x6)::eI (x6.length:Int)::eI x8::eI x8::[]) ?_ ?_
 exact om h0<|om h1<|op (fun Q U W H D=>zA6 call116 (zFS (q5 Z) (d.fr W.size) ((f_v0.fr W).eq (D.g 0 Z)) ((f_v1.fr W).eq (D.g 1 Z))))<|op (fun Q U W H D=>zAb (aT:=#[]) (D.g 0 Z) underlying46)<|om h0<|om h1<|op (fun Q U W H D=>zA6 call119 (zFn (q7 Z) (d.fr W.size) ((f_v0.fr W).eq (D.g 0 Z)) ((f_v1.fr W).eq (D.g 1 Z))))<|op (fun Q U W H D=>zAb (aT:=#[]) (D.g 0 Z) underlying46)<|op (fun Q U W H D=>zA6 call229 (zHP (q9 Z) (d.fr W.size) (D.g 0 Z) (D.g 1 Z)))<|oa<|oz
 intro R w m n p d j
 have h4:=p.r 9 Z
 refine HT.ret ?_
 obtain rfl:=si c
 exact ⟨.inr Z,[R 4],⟨Z,N⟩,h4,j⟩
def zDW (fu:Nat) (p0:List (List UInt8)) (p1:List (List UInt8)):Option Int:=
 bd (((p0.length:Int)==0) || ((p1.length:Int)==0)) fun x1=>
 bif x1 then (
 some 0
 ) else (
 cl true (zDh fu p0 p1) fun x4=>
 some x4
 )
theorem zFe {fu : Nat} {A : Av} {p0 : List (List UInt8)} {p1 : List (List UInt8)} {r : Int} (c : zDW fu p0 p1 = some r) {w : World} {v0 : Value} {v1 : Value} (d : AvOK A w) (h0 : Rep (eSl eStr) A w v0 p0) (h1 : Rep (eSl eStr) A w v1 p1) :
 Calls prog 127 #[v0,v1] w fun e w'=>∃ v,e = .returned v∧(v = .int .i64 r∧Fr w w'):=by
 unfold zDW at c
 obtain ⟨w0,hw0⟩:∃ w0,w0=w:=⟨_,Z⟩
 have j:Fr w0 w:=hw0 ▸ Fr.refl _
 rw [show Fr w=Fr w0 from hw0 ▸ Z]
 clear hw0
 refine zA2 [.tmp 4] func127 ntmps127 (by decide) Z Z (nb Z) ?_
 intro R hR
 have f_v0:=h0
 replace h0:R 0=v0:=hR 0 _ Z
 have f_v1:=h1
 replace h1:R 1=v1:=hR 1 _ Z
 clear hR
 refine HT.su d j (eI 0::[]) ?_ ?_
 exact op (fun Q U W H D=>zA0 Z)<|oz
 intro R w m n p d j
 obtain ⟨h0,h1⟩:=k2 n h0 h1
 replace f_v0:=f_v0.fr m
 replace f_v1:=f_v1.fr m
 refine HT.seq ?_
 refine HT.seq ?_
 obtain ⟨x1,q2,c⟩:=zAB c
 refine HT.u d j (eR v0::eI (p0.length:Int)::eB ((p0.length:Int)==0)::eB ((p0.length:Int)==0)::gR (true&&(((p0.length:Int)==0)==false)) v1::gI (true&&(((p0.length:Int)==0)==false)) (p1.length:Int)::gB (true&&(((p0.length:Int)==0)==false)) ((p1.length:Int)==0)::eB x1::[]) ?_ ?_
 exact om h0<|op (fun Q U W H D=>zAb (aT:=#[]) ((f_v0.fr W).eq (D.g 0 Z)) underlying46)<|op (fun Q U W H D=>zBA (D.g 0 Z) Z)<|ov<|gm 3 false h1<|og 3 false (fun G Q U W H D=>zAb (aT:=#[]) ((f_v1.fr W).eq (D.h 0 G Z)) underlying46)<|og 3 false (fun G Q U W H D=>zBA (D.h 0 G Z) Z)<|op (fun Q U W H D=>zAC ((p0.length:Int)==0) (D.g 0 Z) (fun hc=>by show _=Value.bool x1;rw [q2,hc];exact Z) (fun hc=>by have a2:Q 11 = .bool ((p1.length:Int)==0):=D 1 _ _ _ Z Z Z Z (zAZ Z (zAM hc));show _=Value.bool x1;rw [q2,hc];exact a2))<|oz
 intro R w m n p d j
 obtain ⟨h0,h1⟩:=k2 n h0 h1
 have h12:=p.r 7 Z
 replace f_v0:=f_v0.fr m
 replace f_v1:=f_v1.fr m
 refine HT.cond x1 h12 (fun c3=>?_) (fun c3=>?_)
 have c:=zAK c3 c
 refine HT.su d j (eI 0::[]) ?_ ?_
 exact op (fun Q U W H D=>zA0 Z)<|oz
 intro R w m n p d j
 have h4:=p.r 0 Z
 refine HT.ret ?_
 obtain rfl:=si c
 exact ⟨.inr Z,[R 4],⟨Z,N⟩,h4,j⟩
 have c:=zAL c3 c
 refine HT.skip ?_
 obtain ⟨x4,q5,c⟩:=zA3 c
 refine HT.su d j (eR v0::eR v1::eI x4::eI x4::[]) ?_ ?_
 exact om h0<|om h1<|op (fun Q U W H D=>zA6 call185 (zHK (q5 Z) (d.fr W.size) ((f_v0.fr W).eq (D.g 0 Z)) ((f_v1.fr W).eq (D.g 1 Z))))<|oa<|oz
 intro R w m n p d j
 have h4:=p.r 3 Z
 refine HT.ret ?_
 obtain rfl:=si c
 exact ⟨.inr Z,[R 4],⟨Z,N⟩,h4,j⟩
def zBI (fu : Nat) (x1 : List UInt8) (x4 : List UInt8) : Nat → Int → Option Int
 | 0,_=>none
 | k+1,y10=>
 bd ((decide (y10<(x1.length:Int)))&&(decide (y10<(x4.length:Int)))) fun x11=>
 ck (!(true&&(x11==true)) || i64B ((x1.length:Int)-1)) <|
 ck (!(true&&(x11==true)) || i64B (((x1.length:Int)-1)-y10)) <|
 ck (!(true&&(x11==true)) || inR (((x1.length:Int)-1)-y10) x1.length) <|
 ck (!(true&&(x11==true)) || i64B ((x4.length:Int)-1)) <|
 ck (!(true&&(x11==true)) || i64B (((x4.length:Int)-1)-y10)) <|
 ck (!(true&&(x11==true)) || inR (((x4.length:Int)-1)-y10) x4.length) <|
 bd (x11&&((bAt x1 (((x1.length:Int)-1)-y10))==(bAt x4 (((x4.length:Int)-1)-y10)))) fun x19=>
 bif x19 then (
 ck (i64B (y10+1)) <|
 zBI fu x1 x4 k (y10+1)
 ) else (
 some y10
 )
def zCv (fu:Nat) (p0:List UInt8) (p1:List UInt8):Option Int:=
 cl true (zCj fu p0) fun x1=>
 cl true (zCj fu p1) fun x4=>
 cl true (zBI fu x1 x4 fu 0) fun s9=>
 bd ((decide ((x1.length:Int)<4)) || (decide ((x4.length:Int)<4))) fun x23=>
 bd (x23 || (decide (s9<4))) fun x25=>
 bif x25 then (
 some 0
 ) else (
 bd ((s9==(x1.length:Int))&&(s9==(x4.length:Int))) fun x28=>
 bif x28 then (
 some 1000
 ) else (
 bd ((decide (7≤s9)) || (s9==(x1.length:Int))) fun x31=>
 bd (x31 || (s9==(x4.length:Int))) fun x33=>
 bif x33 then (
 some 800
 ) else (
 some 400
 )
 )
 )
theorem zGN {fu : Nat} {A : Av} {p0 : List UInt8} {p1 : List UInt8} {r : Int} (c : zCv fu p0 p1 = some r) {w : World} {v0 : Value} {v1 : Value} (d : AvOK A w) (h0 : Rep eStr A w v0 p0) (h1 : Rep eStr A w v1 p1) :
 Calls prog 128 #[v0,v1] w fun e w'=>∃ v,e = .returned v∧(v = .int .i64 r∧Fr w w'):=by
 unfold zCv at c
 obtain ⟨w0,hw0⟩:∃ w0,w0=w:=⟨_,Z⟩
 have j:Fr w0 w:=hw0 ▸ Fr.refl _
 rw [show Fr w=Fr w0 from hw0 ▸ Z]
 clear hw0
 refine zA2 [.tmp 4] func128 ntmps128 (by decide) Z Z (nb Z) ?_
 intro R hR
 have f_v0:=h0
 replace h0:R 0=v0:=hR 0 _ Z
 have f_v1:=h1
 replace h1:R 1=v1:=hR 1 _ Z
 clear hR
 refine HT.su d j (eI 0::[]) ?_ ?_
 exact op (fun Q U W H D=>zA0 Z)<|oz
 intro R w m n p d j
 obtain ⟨h0,h1⟩:=k2 n h0 h1
 replace f_v0:=f_v0.fr m
 replace f_v1:=f_v1.fr m
 obtain ⟨x1,q2,c⟩:=zA3 c
 refine HT.su d j (eR v0::eF (.rep eStr A x1)::eF (.rep eStr A x1)::[]) ?_ ?_
 exact om h0<|op (fun Q U W H D=>zA6 call110 (zF7 (q2 Z) (d.fr W.size) ((f_v0.fr W).eq (D.g 0 Z))))<|op (fun Q U W H D=>zA0 (D.g 0 Z))<|oz
 intro R w m n p d j
 replace h1:=k1 n h1
 obtain ⟨u3,h5,f_u3⟩:∃ u,R 5=u∧Rep eStr A w u x1:=⟨_,Z,p 2 _ _ Z Z Z⟩
 replace f_v1:=f_v1.fr m
 obtain ⟨x4,q5,c⟩:=zA3 c
 refine HT.su d j (eR v1::eF (.rep eStr A x4)::eF (.rep eStr A x4)::[]) ?_ ?_
 exact om h1<|op (fun Q U W H D=>zA6 call110 (zF7 (q5 Z) (d.fr W.size) ((f_v1.fr W).eq (D.g 0 Z))))<|op (fun Q U W H D=>zA0 (D.g 0 Z))<|oz
 intro R w m n p d j
 replace h5:=k1 n h5
 obtain ⟨u6,h6,f_u6⟩:∃ u,R 6=u∧Rep eStr A w u x4:=⟨_,Z,p 2 _ _ Z Z Z⟩
 replace f_u3:=f_u3.fr m
 refine HT.su d j (eI 0::[]) ?_ ?_
 exact op (fun Q U W H D=>zA0 Z)<|oz
 intro R w m n p d j
 obtain ⟨h5,h6⟩:=k2 n h5 h6
 have h7:=p.r 0 Z
 replace f_u3:=f_u3.fr m
 replace f_u6:=f_u6.fr m
 obtain ⟨rl7,q8,c⟩:=zA3 c
 replace q8:=q8 Z
 refine HT.cut (fun R w=>∃ (s9:Int),rl7=s9∧AvOK A w∧Fr w0 w∧R 5=u3∧R 6=u6∧R 7 = .int .i64 s9∧Rep eStr A w u3 x1∧Rep eStr A w u6 x4) ?_ ?_
 refine HT.block ?_
 refine HT.loop (fun k R w=>∃ (y10:Int),zBI fu x1 x4 k y10=some rl7∧AvOK A w∧Fr w0 w∧R 5=u3∧R 6=u6∧R 7 = .int .i64 y10∧Rep eStr A w u3 x1∧Rep eStr A w u6 x4) fu ⟨_,q8,d,j,h5,h6,h7,f_u3,f_u6⟩ ?_
 have hr0:=c;clear c q8
 rintro k R w ⟨y10,c,d,j,h5,h6,h7,f_u3,f_u6⟩
 rcases k with _ | k
 cases (show none=some _ from c)
 rw [zBI] at c
 refine HT.seq ?_
 refine HT.seq ?_
 obtain ⟨x11,q12,c⟩:=zAB c
 obtain ⟨e13,e14,e15,e16,c⟩:=ck4 c
 obtain ⟨e17,e18,c⟩:=ck2 c
 obtain ⟨x19,q20,c⟩:=zAB c
 refine HT.draw (by kernel_rfl) (l:=eI y10::eR u3::eI (x1.length:Int)::eB (decide (y10<(x1.length:Int)))::eB (decide (y10<(x1.length:Int)))::gI (true&&((decide (y10<(x1.length:Int)))==true)) y10::gR (true&&((decide (y10<(x1.length:Int)))==true)) u6::gI (true&&((decide (y10<(x1.length:Int)))==true)) (x4.length:Int)::gB (true&&((decide (y10<(x1.length:Int)))==true)) (decide (y10<(x4.length:Int)))::eB x11::eB x11::gR (true&&(x11==true)) u3::gR (true&&(x11==true)) u3::gI (true&&(x11==true)) (x1.length:Int)::gI (true&&(x11==true)) ((x1.length:Int)-1)::gI (true&&(x11==true)) y10::gI (true&&(x11==true)) (((x1.length:Int)-1)-y10)::gU (true&&(x11==true)) (bAt x1 (((x1.length:Int)-1)-y10))::gR (true&&(x11==true)) u6::gR (true&&(x11==true)) u6::gI (true&&(x11==true)) (x4.length:Int)::gI (true&&(x11==true)) ((x4.length:Int)-1)::gI (true&&(x11==true)) y10::gI (true&&(x11==true)) (((x4.length:Int)-1)-y10)::gU (true&&(x11==true)) (bAt x4 (((x4.length:Int)-1)-y10))::gB (true&&(x11==true)) ((bAt x1 (((x1.length:Int)-1)-y10))==(bAt x4 (((x4.length:Int)-1)-y10)))::eB x19::[]) (tl:=[]) (by kernel_rfl) (by kernel_rfl) (by kernel_rfl) (by kernel_rfl) ?_ ?_
 exact om h7<|om h5<|op (fun Q U W H D=>zAG ((f_u3.fr W).eq (D.g 0 Z)) underlying9)<|op (fun Q U W H D=>zAf (D.g 0 Z) (D.g 1 Z))<|ov<|gm 4 true h7<|gm 4 true h6<|og 4 true (fun G Q U W H D=>zAG ((f_u6.fr W).eq (D.h 0 G Z)) underlying9)<|og 4 true (fun G Q U W H D=>zAf (D.h 0 G Z) (D.h 1 G Z))<|op (fun Q U W H D=>zAC (decide (y10<(x1.length:Int))) (D.g 0 Z) (fun hc=>by have a1:Q 20 = .bool (decide (y10<(x4.length:Int))):=D 1 _ _ _ Z Z Z Z (zAZ Z (zAM hc));show _=Value.bool x11;rw [q12,hc];exact a1) (fun hc=>by show _=Value.bool x11;rw [q12,hc];exact Z))<|ov<|gm 10 true h5<|gm 10 true h5<|og 10 true (fun G Q U W H D=>zAG ((f_u3.fr W).eq (D.h 0 G Z)) underlying9)<|og 10 true (fun G Q U W H D=>zAX (D.h 0 G Z) Z (gd e13 G))<|gm 10 true h7<|og 10 true (fun G Q U W H D=>zAX (D.h 0 G Z) (D.h 1 G Z) (gd e14 G))<|og 10 true (fun G Q U W H D=>zA8 ((f_u3.fr W).eq (D.h 0 G Z)) (D.h 1 G Z) underlying9 (gd e15 G))<|gm 10 true h6<|gm 10 true h6<|og 10 true (fun G Q U W H D=>zAG ((f_u6.fr W).eq (D.h 0 G Z)) underlying9)<|og 10 true (fun G Q U W H D=>zAX (D.h 0 G Z) Z (gd e16 G))<|gm 10 true h7<|og 10 true (fun G Q U W H D=>zAX (D.h 0 G Z) (D.h 1 G Z) (gd e17 G))<|og 10 true (fun G Q U W H D=>zA8 ((f_u6.fr W).eq (D.h 0 G Z)) (D.h 1 G Z) underlying9 (gd e18 G))<|og 10 true (fun G Q U W H D=>zBA (D.h 0 G Z) (D.h 1 G Z))<|op (fun Q U W H D=>zAC x11 (D.g 0 Z) (fun hc=>by have a1:Q 37 = .bool ((bAt x1 (((x1.length:Int)-1)-y10))==(bAt x4 (((x4.length:Int)-1)-y10))):=D 1 _ _ _ Z Z Z Z (zAZ Z (zAM hc));show _=Value.bool x19;rw [q20,hc];exact a1) (fun hc=>by show _=Value.bool x19;rw [q20,hc];exact Z))<|oz
 intro R w m n p
 obtain ⟨h5,h6,h7⟩:=k3 n h5 h6 h7
 have h38:=p.r 26 Z
 replace f_u3:=f_u3.fr m
 replace f_u6:=f_u6.fr m
 replace d:=d.fr m.size
 replace j:=j.trans m
 refine HT.cond x19 h38 (fun c21=>?_) (fun c21=>?_)
 have c:=zAK c21 c
 refine HT.skip ?_
 refine HT.block ?_
 obtain ⟨e22,c⟩:=zA4 c
 refine HT.u d j (eI y10::eI (y10+1)::eI (y10+1)::[]) ?_ ?_
 exact om h7<|op (fun Q U W H D=>zAN (D.g 0 Z) Z e22)<|oa<|oz
 intro R w m n p d j
 obtain ⟨h5,h6⟩:=k2 n h5 h6
 have h7:=p.r 2 Z
 replace f_u3:=f_u3.fr m
 replace f_u6:=f_u6.fr m
 exact ei k (And.intro (Nat.lt_succ_self k) ⟨_,c,d,j,h5,h6,h7,f_u3,f_u6⟩)
 have c:=zAL c21 c
 refine HT.exit ?_
 obtain rfl:=si c
 exact ei _ ⟨Z,d,j,h5,h6,h7,f_u3,f_u6⟩
 rintro R w ⟨s9,es,d,j,h5,h6,h7,f_u3,f_u6⟩
 obtain rfl:=es.symm
 refine HT.seq ?_
 refine HT.block ?_
 refine HT.seq ?_
 obtain ⟨x23,q24,c⟩:=zAB c
 obtain ⟨x25,q26,c⟩:=zAB c
 refine HT.u d j (eR u3::eI (x1.length:Int)::eB (decide ((x1.length:Int)<4))::eB (decide ((x1.length:Int)<4))::gR (true&&((decide ((x1.length:Int)<4))==false)) u6::gI (true&&((decide ((x1.length:Int)<4))==false)) (x4.length:Int)::gB (true&&((decide ((x1.length:Int)<4))==false)) (decide ((x4.length:Int)<4))::eB x23::eB x23::gI (true&&(x23==false)) s9::gB (true&&(x23==false)) (decide (s9<4))::eB x25::eB x25::[]) ?_ ?_
 exact om h5<|op (fun Q U W H D=>zAG ((f_u3.fr W).eq (D.g 0 Z)) underlying9)<|op (fun Q U W H D=>zAf (D.g 0 Z) Z)<|ov<|gm 3 false h6<|og 3 false (fun G Q U W H D=>zAG ((f_u6.fr W).eq (D.h 0 G Z)) underlying9)<|og 3 false (fun G Q U W H D=>zAf (D.h 0 G Z) Z)<|op (fun Q U W H D=>zAC (decide ((x1.length:Int)<4)) (D.g 0 Z) (fun hc=>by show _=Value.bool x23;rw [q24,hc];exact Z) (fun hc=>by have a2:Q 48 = .bool (decide ((x4.length:Int)<4)):=D 1 _ _ _ Z Z Z Z (zAZ Z (zAM hc));show _=Value.bool x23;rw [q24,hc];exact a2))<|ov<|gm 8 false h7<|og 8 false (fun G Q U W H D=>zAf (D.h 0 G Z) Z)<|op (fun Q U W H D=>zAC x23 (D.g 0 Z) (fun hc=>by show _=Value.bool x25;rw [q26,hc];exact Z) (fun hc=>by have a2:Q 52 = .bool (decide (s9<4)):=D 1 _ _ _ Z Z Z Z (zAZ Z (zAM hc));show _=Value.bool x25;rw [q26,hc];exact a2))<|oa<|oz
 intro R w m n p d j
 obtain ⟨h5,h6,h7⟩:=k3 n h5 h6 h7
 have h41:=p.r 12 Z
 replace f_u3:=f_u3.fr m
 replace f_u6:=f_u6.fr m
 refine HT.cond x25 h41 (fun c27=>?_) (fun c27=>?_)
 have c:=zAK c27 c
 refine HT.su d j (eI 0::[]) ?_ ?_
 exact op (fun Q U W H D=>zA0 Z)<|oz
 intro R w m n p d j
 have h4:=p.r 0 Z
 refine HT.ret ?_
 obtain rfl:=si c
 exact ⟨.inr Z,[R 4],⟨Z,N⟩,h4,j⟩
 have c:=zAL c27 c
 refine HT.seq ?_
 obtain ⟨x28,q29,c⟩:=zAB c
 refine HT.u d j (eI s9::eR u3::eI (x1.length:Int)::eB (s9==(x1.length:Int))::eB (s9==(x1.length:Int))::gI (true&&((s9==(x1.length:Int))==true)) s9::gR (true&&((s9==(x1.length:Int))==true)) u6::gI (true&&((s9==(x1.length:Int))==true)) (x4.length:Int)::gB (true&&((s9==(x1.length:Int))==true)) (s9==(x4.length:Int))::eB x28::eB x28::[]) ?_ ?_
 exact om h7<|om h5<|op (fun Q U W H D=>zAG ((f_u3.fr W).eq (D.g 0 Z)) underlying9)<|op (fun Q U W H D=>zBA (D.g 0 Z) (D.g 1 Z))<|ov<|gm 4 true h7<|gm 4 true h6<|og 4 true (fun G Q U W H D=>zAG ((f_u6.fr W).eq (D.h 0 G Z)) underlying9)<|og 4 true (fun G Q U W H D=>zBA (D.h 0 G Z) (D.h 1 G Z))<|op (fun Q U W H D=>zAC (s9==(x1.length:Int)) (D.g 0 Z) (fun hc=>by have a1:Q 63 = .bool (s9==(x4.length:Int)):=D 1 _ _ _ Z Z Z Z (zAZ Z (zAM hc));show _=Value.bool x28;rw [q29,hc];exact a1) (fun hc=>by show _=Value.bool x28;rw [q29,hc];exact Z))<|oa<|oz
 intro R w m n p d j
 obtain ⟨h5,h6,h7⟩:=k3 n h5 h6 h7
 have h54:=p.r 10 Z
 replace f_u3:=f_u3.fr m
 replace f_u6:=f_u6.fr m
 refine HT.cond x28 h54 (fun c30=>?_) (fun c30=>?_)
 have c:=zAK c30 c
 refine HT.su d j (eI 1000::[]) ?_ ?_
 exact op (fun Q U W H D=>zA0 Z)<|oz
 intro R w m n p d j
 have h4:=p.r 0 Z
 refine HT.ret ?_
 obtain rfl:=si c
 exact ⟨.inr Z,[R 4],⟨Z,N⟩,h4,j⟩
 have c:=zAL c30 c
 refine HT.seq ?_
 obtain ⟨x31,q32,c⟩:=zAB c
 obtain ⟨x33,q34,c⟩:=zAB c
 refine HT.u d j (eI s9::eB (decide (7≤s9))::eB (decide (7≤s9))::gI (true&&((decide (7≤s9))==false)) s9::gR (true&&((decide (7≤s9))==false)) u3::gI (true&&((decide (7≤s9))==false)) (x1.length:Int)::gB (true&&((decide (7≤s9))==false)) (s9==(x1.length:Int))::eB x31::eB x31::gI (true&&(x31==false)) s9::gR (true&&(x31==false)) u6::gI (true&&(x31==false)) (x4.length:Int)::gB (true&&(x31==false)) (s9==(x4.length:Int))::eB x33::eB x33::[]) ?_ ?_
 exact om h7<|op (fun Q U W H D=>zDt (D.g 0 Z) Z)<|ov<|gm 2 false h7<|gm 2 false h5<|og 2 false (fun G Q U W H D=>zAG ((f_u3.fr W).eq (D.h 0 G Z)) underlying9)<|og 2 false (fun G Q U W H D=>zBA (D.h 0 G Z) (D.h 1 G Z))<|op (fun Q U W H D=>zAC (decide (7≤s9)) (D.g 0 Z) (fun hc=>by show _=Value.bool x31;rw [q32,hc];exact Z) (fun hc=>by have a2:Q 72 = .bool (s9==(x1.length:Int)):=D 1 _ _ _ Z Z Z Z (zAZ Z (zAM hc));show _=Value.bool x31;rw [q32,hc];exact a2))<|ov<|gm 8 false h7<|gm 8 false h6<|og 8 false (fun G Q U W H D=>zAG ((f_u6.fr W).eq (D.h 0 G Z)) underlying9)<|og 8 false (fun G Q U W H D=>zBA (D.h 0 G Z) (D.h 1 G Z))<|op (fun Q U W H D=>zAC x31 (D.g 0 Z) (fun hc=>by show _=Value.bool x33;rw [q34,hc];exact Z) (fun hc=>by have a2:Q 78 = .bool (s9==(x4.length:Int)):=D 1 _ _ _ Z Z Z Z (zAZ Z (zAM hc));show _=Value.bool x33;rw [q34,hc];exact a2))<|oa<|oz
 intro R w m n p d j
 have h65:=p.r 14 Z
 refine HT.cond x33 h65 (fun c35=>?_) (fun c35=>?_)
 have c:=zAK c35 c
 refine HT.su d j (eI 800::[]) ?_ ?_
 exact op (fun Q U W H D=>zA0 Z)<|oz
 intro R w m n p d j
 have h4:=p.r 0 Z
 refine HT.ret ?_
 obtain rfl:=si c
 exact ⟨.inr Z,[R 4],⟨Z,N⟩,h4,j⟩
 have c:=zAL c35 c
 refine HT.skip ?_
 refine HT.su d j (eI 400::[]) ?_ ?_
 exact op (fun Q U W H D=>zA0 Z)<|oz
 intro R w m n p d j
 have h4:=p.r 0 Z
 refine HT.ret ?_
 obtain rfl:=si c
 exact ⟨.inr Z,[R 4],⟨Z,N⟩,h4,j⟩
def zET (fu:Nat) (p0:Int):Option Bool:=
 cl true (zCz fu p0 0 9999) fun x1=>
 some x1
theorem zG9 {fu : Nat} {A : Av} {p0 : Int} {r : Bool} (c : zET fu p0 = some r) {w : World} {v0 : Value} (d : AvOK A w) (h0 : v0 = .int .i64 p0) :
 Calls prog 186 #[v0] w fun e w'=>∃ v,e = .returned v∧(v = .bool r∧Fr w w'):=by
 unfold zET at c
 obtain ⟨w0,hw0⟩:∃ w0,w0=w:=⟨_,Z⟩
 have j:Fr w0 w:=hw0 ▸ Fr.refl _
 rw [show Fr w=Fr w0 from hw0 ▸ Z]
 clear hw0
 refine zA2 [.tmp 2] func186 ntmps186 (by decide) Z Z (nb Z) ?_
 intro R hR
 replace h0:R 0 = .int .i64 p0:=(hR 0 _ Z).trans h0
 clear hR
 refine HT.su d j (eB false::[]) ?_ ?_
 exact op (fun Q U W H D=>zA0 Z)<|oz
 intro R w m n p d j
 replace h0:=k1 n h0
 obtain ⟨x1,q2,c⟩:=zA3 c
 refine HT.su d j (eI p0::eB x1::eB x1::[]) ?_ ?_
 exact om h0<|op (fun Q U W H D=>zA6 call99 (zDB (q2 Z) (d.fr W.size) (D.g 0 Z) Z Z))<|oa<|oz
 intro R w m n p d j
 have h2:=p.r 2 Z
 refine HT.ret ?_
 obtain rfl:=si c
 exact ⟨.inr Z,[R 2],⟨Z,N⟩,h2,j⟩
def zCh (fu:Nat) (p0:Int) (p1:Int) (p2:Int):Option Int:=
 cl true (zET fu p0) fun x1=>
 cl (true&&((!x1)==false)) (zET fu p1) fun x3=>
 bd ((!x1) || (!x3)) fun x5=>
 cl (true&&(x5==false)) (zCz fu p2 1 9999) fun x7=>
 bd (x5 || (!x7)) fun x9=>
 bif x9 then (
 some 0
 ) else (
 ck (i64B ((max p0 p1)-(min p0 p1))) <|
 bif (decide (p2≤((max p0 p1)-(min p0 p1)))) then (
 some 0
 ) else (
 ck (i64B (p2-((max p0 p1)-(min p0 p1)))) <|
 ck (i64B (1000*(p2-((max p0 p1)-(min p0 p1))))) <|
 ck (p2 != 0) <|
 ck (i64B ((1000*(p2-((max p0 p1)-(min p0 p1)))).tdiv p2)) <|
 some ((1000*(p2-((max p0 p1)-(min p0 p1)))).tdiv p2)
 )
 )
theorem zFz {fu : Nat} {A : Av} {p0 : Int} {p1 : Int} {p2 : Int} {r : Int} (c : zCh fu p0 p1 p2 = some r) {w : World} {v0 : Value} {v1 : Value} {v2 : Value} (d : AvOK A w) (h0 : v0 = .int .i64 p0) (h1 : v1 = .int .i64 p1) (h2 : v2 = .int .i64 p2) :
 Calls prog 129 #[v0,v1,v2] w fun e w'=>∃ v,e = .returned v∧(v = .int .i64 r∧Fr w w'):=by
 unfold zCh at c
 obtain ⟨w0,hw0⟩:∃ w0,w0=w:=⟨_,Z⟩
 have j:Fr w0 w:=hw0 ▸ Fr.refl _
 rw [show Fr w=Fr w0 from hw0 ▸ Z]
 clear hw0
 refine zA2 [.tmp 6] func129 ntmps129 (by decide) Z Z (nb Z) ?_
 intro R hR
 replace h0:R 0 = .int .i64 p0:=(hR 0 _ Z).trans h0
 replace h1:R 1 = .int .i64 p1:=(hR 1 _ Z).trans h1
 replace h2:R 2 = .int .i64 p2:=(hR 2 _ Z).trans h2
 clear hR
 refine HT.su d j (eI 0::[]) ?_ ?_
 exact op (fun Q U W H D=>zA0 Z)<|oz
 intro R w m n p d j
 obtain ⟨h0,h1,h2⟩:=k3 n h0 h1 h2
 refine HT.seq ?_
 refine HT.seq ?_
 obtain ⟨x1,q2,c⟩:=zA3 c
 obtain ⟨x3,q4,c⟩:=zA3 c
 obtain ⟨x5,q6,c⟩:=zAB c
 obtain ⟨x7,q8,c⟩:=zA3 c
 obtain ⟨x9,q10,c⟩:=zAB c
 refine HT.u d j (eI p0::eB x1::eB (!x1)::eB (!x1)::gI (true&&((!x1)==false)) p1::gB (true&&((!x1)==false)) x3::gB (true&&((!x1)==false)) (!x3)::eB x5::eB x5::gI (true&&(x5==false)) p2::gB (true&&(x5==false)) x7::gB (true&&(x5==false)) (!x7)::eB x9::[]) ?_ ?_
 exact om h0<|op (fun Q U W H D=>zA6 call186 (zG9 (q2 Z) (d.fr W.size) (D.g 0 Z)))<|op (fun Q U W H D=>zBh (D.g 0 Z))<|ov<|gm 3 false h1<|og 3 false (fun G Q U W H D=>zA6 call186 (zG9 (q4 G) (d.fr W.size) (D.h 0 G Z)))<|og 3 false (fun G Q U W H D=>zBh (D.h 0 G Z))<|op (fun Q U W H D=>zAC (!x1) (D.g 0 Z) (fun hc=>by show _=Value.bool x5;rw [q6,hc];exact Z) (fun hc=>by have a2:Q 14 = .bool (!x3):=D 1 _ _ _ Z Z Z Z (zAZ Z (zAM hc));show _=Value.bool x5;rw [q6,hc];exact a2))<|ov<|gm 8 false h2<|og 8 false (fun G Q U W H D=>zA6 call99 (zDB (q8 G) (d.fr W.size) (D.h 0 G Z) Z Z))<|og 8 false (fun G Q U W H D=>zBh (D.h 0 G Z))<|op (fun Q U W H D=>zAC x5 (D.g 0 Z) (fun hc=>by show _=Value.bool x9;rw [q10,hc];exact Z) (fun hc=>by have a2:Q 19 = .bool (!x7):=D 1 _ _ _ Z Z Z Z (zAZ Z (zAM hc));show _=Value.bool x9;rw [q10,hc];exact a2))<|oz
 intro R w m n p d j
 obtain ⟨h0,h1,h2⟩:=k3 n h0 h1 h2
 have h20:=p.r 12 Z
 refine HT.cond x9 h20 (fun c11=>?_) (fun c11=>?_)
 have c:=zAK c11 c
 refine HT.su d j (eI 0::[]) ?_ ?_
 exact op (fun Q U W H D=>zA0 Z)<|oz
 intro R w m n p d j
 have h6:=p.r 0 Z
 refine HT.ret ?_
 obtain rfl:=si c
 exact ⟨.inr Z,[R 6],⟨Z,N⟩,h6,j⟩
 have c:=zAL c11 c
 refine HT.skip ?_
 obtain ⟨e12,c⟩:=zA4 c
 refine HT.su d j (eI p0::eI p1::eI (max p0 p1)::eI p0::eI p1::eI (min p0 p1)::eI ((max p0 p1)-(min p0 p1))::eI ((max p0 p1)-(min p0 p1))::[]) ?_ ?_
 exact om h0<|om h1<|op (fun Q U W H D=>zIK (D.g 0 Z) (D.g 1 Z))<|om h0<|om h1<|op (fun Q U W H D=>zGh (D.g 0 Z) (D.g 1 Z))<|op (fun Q U W H D=>zAX (D.g 0 Z) (D.g 1 Z) e12)<|oa<|oz
 intro R w m n p d j
 replace h2:=k1 n h2
 have h7:=p.r 7 Z
 refine HT.seq ?_
 refine HT.su d j (eI ((max p0 p1)-(min p0 p1))::eI p2::eB (decide (p2≤((max p0 p1)-(min p0 p1))))::[]) ?_ ?_
 exact om h7<|om h2<|op (fun Q U W H D=>zDt (D.g 0 Z) (D.g 1 Z))<|oz
 intro R w m n p d j
 obtain ⟨h2,h7⟩:=k2 n h2 h7
 have h30:=p.r 2 Z
 refine HT.cond (decide (p2≤((max p0 p1)-(min p0 p1)))) h30 (fun c13=>?_) (fun c13=>?_)
 have c:=zAK c13 c
 refine HT.su d j (eI 0::[]) ?_ ?_
 exact op (fun Q U W H D=>zA0 Z)<|oz
 intro R w m n p d j
 have h6:=p.r 0 Z
 refine HT.ret ?_
 obtain rfl:=si c
 exact ⟨.inr Z,[R 6],⟨Z,N⟩,h6,j⟩
 have c:=zAL c13 c
 refine HT.skip ?_
 obtain ⟨e14,e15,e16,e17,c⟩:=ck4 c
 refine HT.su d j (eI p2::eI ((max p0 p1)-(min p0 p1))::eI (p2-((max p0 p1)-(min p0 p1)))::eI (1000*(p2-((max p0 p1)-(min p0 p1))))::eI p2::eI ((1000*(p2-((max p0 p1)-(min p0 p1)))).tdiv p2)::eI ((1000*(p2-((max p0 p1)-(min p0 p1)))).tdiv p2)::[]) ?_ ?_
 exact om h2<|om h7<|op (fun Q U W H D=>zAX (D.g 0 Z) (D.g 1 Z) e14)<|op (fun Q U W H D=>zHq Z (D.g 0 Z) e15)<|om h2<|op (fun Q U W H D=>zH0 (D.g 0 Z) (D.g 1 Z) e16 e17)<|oa<|oz
 intro R w m n p d j
 have h6:=p.r 6 Z
 refine HT.ret ?_
 obtain rfl:=si c
 exact ⟨.inr Z,[R 6],⟨Z,N⟩,h6,j⟩
def zB1 (fu:Nat) (p0:zAA) (p1:zAA):Option (List Int):=
 cl true (zBd fu p0) fun x3=>
 cl (true&&((!x3)==false)) (zBd fu p1) fun x5=>
 bd ((!x3) || (!x5)) fun x7=>
 bif x7 then (
 some ([]:List Int)
 ) else (
 ck (inR 0 p0.2.2.2.length) <|
 ck (inR 0 p1.2.2.2.length) <|
 cl true (zDT fu (gtD p0.2.2.2 0) (gtD p1.2.2.2 0)) fun x17=>
 ck (inR 0 p0.2.2.2.length) <|
 cl true (zCf fu (gtD p0.2.2.2 0)) fun x20=>
 ck (inR 0 p1.2.2.2.length) <|
 cl true (zCf fu (gtD p1.2.2.2 0)) fun x23=>
 cl true (zDW fu x20 x23) fun x25=>
 ck (inR 0 p0.2.2.2.length) <|
 cl true (zC8 fu (gtD p0.2.2.2 0)) fun x28=>
 ck (inR 0 p1.2.2.2.length) <|
 cl true (zC8 fu (gtD p1.2.2.2 0)) fun x31=>
 cl true (zDW fu x28 x31) fun x33=>
 ck (inR 1 p0.2.2.2.length) <|
 ck (inR 1 p1.2.2.2.length) <|
 cl true (zDT fu (gtD p0.2.2.2 1) (gtD p1.2.2.2 1)) fun x37=>
 ck (inR 3 p0.2.2.2.length) <|
 ck (inR 3 p1.2.2.2.length) <|
 cl true (zCv fu (gtD p0.2.2.2 3) (gtD p1.2.2.2 3)) fun x41=>
 ck (inR 2 p0.2.2.2.length) <|
 cl true (zC7 fu (gtD p0.2.2.2 2)) fun x45=>
 ck (inR 2 p1.2.2.2.length) <|
 cl true (zC7 fu (gtD p1.2.2.2 2)) fun x48=>
 bd ((decide (0<x45))&&(decide (0<x48))) fun x50=>
 bif x50 then (
 cl true (zCh fu x45 x48 10) fun x53=>
 ck (inR 4 ([x17,x25,x33,x37,0,x41]:List Int).length) <|
 some (([x17,x25,x33,x37,0,x41]:List Int).set (4:Int).toNat x53)
 ) else (
 some ([x17,x25,x33,x37,0,x41]:List Int)
 )
 )
theorem zFo {fu : Nat} {A0 : Av} {p0 : zAA} {p1 : zAA} {r : List Int} (c : zB1 fu p0 p1 = some r) {w : World} {v0 : Value} {v1 : Value} (d : AvOK A0 w) (h0 : Rep zA1 A0 w v0 p0) (h1 : Rep zA1 A0 w v1 p1) :
 Calls prog 58 #[v0,v1] w fun e w'=>∃ v,e = .returned v∧((Res.vec w.heap.size 3 (eInt .i64) r).ok (addA A0 v) v w'∧Fr w w'):=by
 unfold zB1 at c
 obtain ⟨w0,hw0⟩:∃ w0,w0=w:=⟨_,Z⟩
 have j:Fr w0 w:=hw0 ▸ Fr.refl _
 have C:∀ b o,A0 b o→b<w0.heap.size:=fun b o h=>hw0 ▸ d b o h
 have hA00:AvOK A0 w0:=C
 rw [show w.heap.size=w0.heap.size from hw0 ▸ Z]
 rw [show Fr w=Fr w0 from hw0 ▸ Z]
 clear hw0
 obtain ⟨A,hAe⟩:∃ A,A=A0:=⟨_,Z⟩
 have B:∀ b o,A0 b o→A b o:=fun b o h=>hAe ▸ h
 replace d:AvOK A w:=hAe ▸ d
 have q:IniOK [] A w:=IniOK.nil
 refine zA2 [.tmp 4] func58 ntmps58 (by decide) Z Z (nb Z) ?_
 intro R hR
 have f_v0:Rep zA1 A w v0 p0:=hAe ▸ h0
 replace h0:R 0=v0:=hR 0 _ Z
 have f_v1:Rep zA1 A w v1 p1:=hAe ▸ h1
 replace h1:R 1=v1:=hR 1 _ Z
 clear hR hAe
 refine HT.sx [] (⟨_,true,[],some (.box w0.heap.size 51 zA1 p0),true,fun A=>.any⟩::⟨_,true,[],some (.box w0.heap.size 51 zA1 p1),true,fun A=>.any⟩::rA::[]) (ua (ua (ua (UAll.nil)))) q d ?_ ?_
 exact rc (OblR.made _ Z Z Z Z fun V Q U O D=>by have a0:Q 0=v0:=(O.old 0 Z).trans h0;have ra0:=(f_v0.stp O.stp).eq a0;exact zDE ra0 (Nat.le_trans j.size O.ch.size))<|rc (OblR.made _ Z Z Z Z fun V Q U O D=>by have a0:Q 1=v1:=(O.old 1 Z).trans h1;have ra0:=(f_v1.stp O.stp).eq a0;exact zDE ra0 (Nat.le_trans j.size O.ch.size))<|rp (fun V Q U O D=>zA0 N)<|rz
 intro done ρ σ A R w y s
 obtain ⟨b2_0,e_b2_0⟩:=s.boxv y 0 Z Z
 have h2:=s.ov y 0 0 e_b2_0
 obtain ⟨b3_1,e_b3_1⟩:=s.boxv y 1 Z Z
 have h3:=s.ov y 1 1 e_b3_1
 obtain ⟨B,j,d⟩:=s.s B C j q N
 replace q:=s.left y [(0,ob (.pointer (some ⟨b2_0,0,none⟩)) (.box w0.heap.size 51 zA1 p0)),(1,ob (.pointer (some ⟨b3_1,0,none⟩)) (.box w0.heap.size 51 zA1 p1))] ⟨Z,Z,e_b2_0,Z,Z,⟨Z,Z,e_b3_1,Z,Z,N⟩⟩
 refine HT.seq ?_
 refine HT.seq ?_
 obtain ⟨x3,q4,c⟩:=zA3 c
 obtain ⟨x5,q6,c⟩:=zA3 c
 obtain ⟨x7,q8,c⟩:=zAB c
 refine HT.u d j (eF (.rep zA1 A p0)::eB x3::eB (!x3)::eB (!x3)::gF (true&&((!x3)==false)) (.rep zA1 A p1)::gB (true&&((!x3)==false)) x5::gB (true&&((!x3)==false)) (!x5)::eB x7::[]) ?_ ?_
 exact op (fun Q U W H D=>(zAE ((q.fr W).ok 0 _ Z).1 ((H 2 Z).trans h2) (Fld.id _) Z isAgg51 sizeOf51))<|op (fun Q U W H D=>zA6 call59 (zE8 (q4 Z) (d.fr W.size) (D.g 0 Z)))<|op (fun Q U W H D=>zBh (D.g 0 Z))<|ov<|og 3 false (fun G Q U W H D=>(zAE ((q.fr W).ok 1 _ Z).1 ((H 3 Z).trans h3) (Fld.id _) Z isAgg51 sizeOf51))<|og 3 false (fun G Q U W H D=>zA6 call59 (zE8 (q6 G) (d.fr W.size) (D.h 0 G Z)))<|og 3 false (fun G Q U W H D=>zBh (D.h 0 G Z))<|op (fun Q U W H D=>zAC (!x3) (D.g 0 Z) (fun hc=>by show _=Value.bool x7;rw [q8,hc];exact Z) (fun hc=>by have a2:Q 17 = .bool (!x5):=D 1 _ _ _ Z Z Z Z (zAZ Z (zAM hc));show _=Value.bool x7;rw [q8,hc];exact a2))<|oz
 intro R w m n p d j
 obtain ⟨h2,h3⟩:=k2 n h2 h3
 have h18:=p.r 7 Z
 replace q:=q.fr m
 refine HT.cond x7 h18 (fun c9=>?_) (fun c9=>?_)
 have c:=zAK c9 c
 refine HT.sx [ob (.pointer (some ⟨b2_0,0,none⟩)) (.box w0.heap.size 51 zA1 p0),ob (.pointer (some ⟨b3_1,0,none⟩)) (.box w0.heap.size 51 zA1 p1)] (⟨_,true,[],some (.vec w0.heap.size 3 (eInt .i64) ([]:List Int)),true,fun A=>.any⟩::⟨_,true,[2],some (.vec w0.heap.size 3 (eInt .i64) ([]:List Int)),true,fun A=>.any⟩::[]) (ua (ua (UAll.nil))) q d ?_ ?_
 exact rc (OblR.made _ Z Z Z Z fun V Q U O D=>by exact zBb [] (E:=eInt .i64) N underlying27 sizeOf3 zeroValue3 Z Z Z (Nat.le_trans j.size O.ch.size))<|rc (OblR.took 2 _ _ Z Z Z Z Z fun V Q U O D u hok hav hin hop hds=>by exact zAH (hop _ _ Z Z Z Z).symm hok hav)<|rz
 intro done ρ σ A R w y s
 have z10:=s.inivR 0 Z
 have z11:=s.inivR 1 Z
 obtain ⟨u12,e_u12⟩:∃ u,ρ 3=u:=⟨_,Z⟩
 have h4:=s.ov y 3 1 e_u12
 obtain ⟨B,j,d⟩:=s.s B C j q ⟨Z,⟨Z,N⟩⟩
 replace q:=s.left y [(3,ob u12 (.vec w0.heap.size 3 (eInt .i64) ([]:List Int)))] ⟨Z,Z,e_u12,Z,Z,N⟩
 refine HT.ret ?_
 obtain rfl:=si c
 exact ⟨.inr Z,[R 4],⟨Z,N⟩,(zCT (q.ok 0 _ Z) B h4),j⟩
 have c:=zAL c9 c
 refine HT.skip ?_
 refine HT.su d j (eR (.pointer (some ⟨b2_0,3,none⟩))::eF (.rep (eSl eStr) A p0.2.2.2)::eF (.rep (eSl eStr) A p0.2.2.2)::[]) ?_ ?_
 exact op (fun Q U W H D=>zA9 ((H 2 Z).trans h2) zCR sizeOf46 (by decide) Z)<|op (fun Q U W H D=>(zAE ((q.fr W).ok 0 _ Z).1 (D.g 0 Z) zAO Z isAgg46 sizeOf46))<|op (fun Q U W H D=>zA0 (D.g 0 Z))<|oz
 intro R w m n p d j
 replace h3:=k1 n h3
 obtain ⟨u13,h5,f_u13⟩:∃ u,R 5=u∧Rep (eSl eStr) A w u p0.2.2.2:=⟨_,Z,p 2 _ _ Z Z Z⟩
 replace q:=q.fr m
 replace q:IniOK [ob (.pointer (some ⟨b3_1,0,none⟩)) (.box w0.heap.size 51 zA1 p1)] A w:=q.sub [(1,ob (.pointer (some ⟨b3_1,0,none⟩)) (.box w0.heap.size 51 zA1 p1))] ⟨Z,Z,N⟩
 refine HT.su d j (eR (.pointer (some ⟨b3_1,3,none⟩))::eF (.rep (eSl eStr) A p1.2.2.2)::eF (.rep (eSl eStr) A p1.2.2.2)::[]) ?_ ?_
 exact op (fun Q U W H D=>zA9 ((H 3 Z).trans h3) zCR sizeOf46 (by decide) Z)<|op (fun Q U W H D=>(zAE ((q.fr W).ok 0 _ Z).1 (D.g 0 Z) zAO Z isAgg46 sizeOf46))<|op (fun Q U W H D=>zA0 (D.g 0 Z))<|oz
 intro R w m n p d j
 replace h5:=k1 n h5
 obtain ⟨u14,h6,f_u14⟩:∃ u,R 6=u∧Rep (eSl eStr) A w u p1.2.2.2:=⟨_,Z,p 2 _ _ Z Z Z⟩
 replace f_u13:=f_u13.fr m
 replace q:=q.fr m
 replace q:IniOK [] A w:=q.sub [] N
 refine HT.su d j (eI 0::[]) ?_ ?_
 exact op (fun Q U W H D=>zA0 Z)<|oz
 intro R w m n p d j
 obtain ⟨h5,h6⟩:=k2 n h5 h6
 have h7:=p.r 0 Z
 replace f_u13:=f_u13.fr m
 replace f_u14:=f_u14.fr m
 replace q:=q.fr m
 refine HT.seq ?_
 obtain ⟨e15,e16,c⟩:=ck2 c
 obtain ⟨x17,q18,c⟩:=zA3 c
 obtain ⟨e19,c⟩:=zA4 c
 obtain ⟨x20,q21,c⟩:=zA3 c
 obtain ⟨e22,c⟩:=zA4 c
 obtain ⟨x23,q24,c⟩:=zA3 c
 obtain ⟨x25,q26,c⟩:=zA3 c
 obtain ⟨e27,c⟩:=zA4 c
 obtain ⟨x28,q29,c⟩:=zA3 c
 obtain ⟨e30,c⟩:=zA4 c
 obtain ⟨x31,q32,c⟩:=zA3 c
 obtain ⟨x33,q34,c⟩:=zA3 c
 obtain ⟨e35,e36,c⟩:=ck2 c
 obtain ⟨x37,q38,c⟩:=zA3 c
 obtain ⟨e39,e40,c⟩:=ck2 c
 obtain ⟨x41,q42,c⟩:=zA3 c
 refine HT.drawR [] (rR u13::rI 0::(rF fun A=>.qtr eStr A (gtD p0.2.2.2 0))::(rF fun A=>.rep eStr A (gtD p0.2.2.2 0))::rR u14::rI 0::(rF fun A=>.qtr eStr A (gtD p1.2.2.2 0))::(rF fun A=>.rep eStr A (gtD p1.2.2.2 0))::rI x17::rR u13::rI 0::(rF fun A=>.qtr eStr A (gtD p0.2.2.2 0))::(rF fun A=>.rep eStr A (gtD p0.2.2.2 0))::(rF fun A=>.rep (eSl eStr) A x20)::rR u14::rI 0::(rF fun A=>.qtr eStr A (gtD p1.2.2.2 0))::(rF fun A=>.rep eStr A (gtD p1.2.2.2 0))::(rF fun A=>.rep (eSl eStr) A x23)::rI x25::rR u13::rI 0::(rF fun A=>.qtr eStr A (gtD p0.2.2.2 0))::(rF fun A=>.rep eStr A (gtD p0.2.2.2 0))::(rF fun A=>.rep (eSl eStr) A x28)::rR u14::rI 0::(rF fun A=>.qtr eStr A (gtD p1.2.2.2 0))::(rF fun A=>.rep eStr A (gtD p1.2.2.2 0))::(rF fun A=>.rep (eSl eStr) A x31)::rI x33::rR u13::(rF fun A=>.qtr eStr A (gtD p0.2.2.2 1))::(rF fun A=>.rep eStr A (gtD p0.2.2.2 1))::rR u14::(rF fun A=>.qtr eStr A (gtD p1.2.2.2 1))::(rF fun A=>.rep eStr A (gtD p1.2.2.2 1))::rI x37::rR u13::(rF fun A=>.qtr eStr A (gtD p0.2.2.2 3))::(rF fun A=>.rep eStr A (gtD p0.2.2.2 3))::rR u14::(rF fun A=>.qtr eStr A (gtD p1.2.2.2 3))::(rF fun A=>.rep eStr A (gtD p1.2.2.2 3))::rI x41::⟨_,true,[],some (.vec w0.heap.size 3 (eInt .i64) ([x17,x25,x33,x37,0,x41]:List Int)),true,fun A=>.any⟩::⟨_,true,[45],some (.vec w0.heap.size 3 (eInt .i64) ([x17,x25,x33,x37,0,x41]:List Int)),true,fun A=>.any⟩::[]) (by kernel_rfl) (by kernel_rfl) (by kernel_rfl) (Wf.mk' (by kernel_rfl) (ur (ur (UAll.cons zBG (up (ur (ur (UAll.cons zBG (up (ur (ur (ur (UAll.cons zBG (up (up (ur (ur (UAll.cons zBG (up (up (ur (ur (ur (UAll.cons zBG (up (up (ur (ur (UAll.cons zBG (up (up (ur (ur (UAll.cons zBG (up (ur (UAll.cons zBG (up (ur (ur (UAll.cons zBG (up (ur (UAll.cons zBG (up (ur (ua (ua (UAll.nil)))))))))))))))))))))))))))))))))))))))))))))))) (by kernel_rfl) (by kernel_rfl)) q d ?_ ?_
 exact rm h5<|rm h7<|rp (fun V Q U O D=>zA7 ((f_u13.stp O.stp).eq (D.g 0 Z)) (D.g 1 Z) underlying46 sizeOf9 e15)<|rp (fun V Q U O D=>(zAQ (QRep.ptr (D.g 0 Z)) isAgg9 sizeOf9))<|rm h6<|rm h7<|rp (fun V Q U O D=>zA7 ((f_u14.stp O.stp).eq (D.g 0 Z)) (D.g 1 Z) underlying46 sizeOf9 e16)<|rp (fun V Q U O D=>(zAQ (QRep.ptr (D.g 0 Z)) isAgg9 sizeOf9))<|rp (fun V Q U O D=>zA6 call126 (zFi (q18 Z) O.av (D.g 0 Z) (D.g 1 Z)))<|rm h5<|rm h7<|rp (fun V Q U O D=>zA7 ((f_u13.stp O.stp).eq (D.g 0 Z)) (D.g 1 Z) underlying46 sizeOf9 e19)<|rp (fun V Q U O D=>(zAQ (QRep.ptr (D.g 0 Z)) isAgg9 sizeOf9))<|rp (fun V Q U O D=>zA6 call111 (zEI (q21 Z) O.av (D.g 0 Z)))<|rm h6<|rm h7<|rp (fun V Q U O D=>zA7 ((f_u14.stp O.stp).eq (D.g 0 Z)) (D.g 1 Z) underlying46 sizeOf9 e22)<|rp (fun V Q U O D=>(zAQ (QRep.ptr (D.g 0 Z)) isAgg9 sizeOf9))<|rp (fun V Q U O D=>zA6 call111 (zEI (q24 Z) O.av (D.g 0 Z)))<|rp (fun V Q U O D=>zA6 call127 (zFe (q26 Z) O.av (D.g 0 Z) (D.g 1 Z)))<|rm h5<|rm h7<|rp (fun V Q U O D=>zA7 ((f_u13.stp O.stp).eq (D.g 0 Z)) (D.g 1 Z) underlying46 sizeOf9 e27)<|rp (fun V Q U O D=>(zAQ (QRep.ptr (D.g 0 Z)) isAgg9 sizeOf9))<|rp (fun V Q U O D=>zA6 call108 (zEW (q29 Z) O.av (D.g 0 Z)))<|rm h6<|rm h7<|rp (fun V Q U O D=>zA7 ((f_u14.stp O.stp).eq (D.g 0 Z)) (D.g 1 Z) underlying46 sizeOf9 e30)<|rp (fun V Q U O D=>(zAQ (QRep.ptr (D.g 0 Z)) isAgg9 sizeOf9))<|rp (fun V Q U O D=>zA6 call108 (zEW (q32 Z) O.av (D.g 0 Z)))<|rp (fun V Q U O D=>zA6 call127 (zFe (q34 Z) O.av (D.g 0 Z) (D.g 1 Z)))<|rm h5<|rp (fun V Q U O D=>zA7 ((f_u13.stp O.stp).eq (D.g 0 Z)) Z underlying46 sizeOf9 e35)<|rp (fun V Q U O D=>(zAQ (QRep.ptr (D.g 0 Z)) isAgg9 sizeOf9))<|rm h6<|rp (fun V Q U O D=>zA7 ((f_u14.stp O.stp).eq (D.g 0 Z)) Z underlying46 sizeOf9 e36)<|rp (fun V Q U O D=>(zAQ (QRep.ptr (D.g 0 Z)) isAgg9 sizeOf9))<|rp (fun V Q U O D=>zA6 call126 (zFi (q38 Z) O.av (D.g 0 Z) (D.g 1 Z)))<|rm h5<|rp (fun V Q U O D=>zA7 ((f_u13.stp O.stp).eq (D.g 0 Z)) Z underlying46 sizeOf9 e39)<|rp (fun V Q U O D=>(zAQ (QRep.ptr (D.g 0 Z)) isAgg9 sizeOf9))<|rm h6<|rp (fun V Q U O D=>zA7 ((f_u14.stp O.stp).eq (D.g 0 Z)) Z underlying46 sizeOf9 e40)<|rp (fun V Q U O D=>(zAQ (QRep.ptr (D.g 0 Z)) isAgg9 sizeOf9))<|rp (fun V Q U O D=>zA6 call128 (zGN (q42 Z) O.av (D.g 0 Z) (D.g 1 Z)))<|rc (OblR.made _ Z Z Z Z fun V Q U O D=>by have a0:Q 32 = .int .i64 x17:=D.g 0 Z;have a1:Q 43 = .int .i64 x25:=D.g 1 Z;have a2:Q 54 = .int .i64 x33:=D.g 2 Z;have a3:Q 61 = .int .i64 x37:=D.g 3 Z;have a5:Q 68 = .int .i64 x41:=D.g 4 Z;exact zBb [_,_,_,_,_,_] (E:=eInt .i64) ⟨(zAe.eq a0),⟨(zAe.eq a1),⟨(zAe.eq a2),⟨(zAe.eq a3),⟨(zAe.eq Z),⟨(zAe.eq a5),N⟩⟩⟩⟩⟩⟩ underlying27 sizeOf3 zeroValue3 Z Z Z (Nat.le_trans j.size O.ch.size))<|rc (OblR.took 45 _ _ Z Z Z Z Z fun V Q U O D u hok hav hin hop hds=>by exact zAH (hop _ _ Z Z Z Z).symm hok hav)<|rz
 intro done ρ σ A R w y s
 obtain ⟨h5,h6⟩:=k2 s.rg h5 h6
 obtain ⟨u43,e_u43⟩:∃ u,ρ 46=u:=⟨_,Z⟩
 have h8:=s.ov y 46 46 e_u43
 replace f_u13:=f_u13.stp s.stp
 replace f_u14:=f_u14.stp s.stp
 obtain ⟨B,j,d⟩:=s.s B C j q N
 replace q:=s.left y [(46,ob u43 (.vec w0.heap.size 3 (eInt .i64) ([x17,x25,x33,x37,0,x41]:List Int)))] ⟨Z,Z,e_u43,Z,Z,N⟩
 obtain ⟨e44,c⟩:=zA4 c
 obtain ⟨x45,q46,c⟩:=zA3 c
 refine HT.su d j (eR u13::eF (.qtr eStr A (gtD p0.2.2.2 2))::eF (.rep eStr A (gtD p0.2.2.2 2))::eI x45::eI x45::[]) ?_ ?_
 exact om h5<|op (fun Q U W H D=>zA7 ((f_u13.fr W).eq (D.g 0 Z)) Z underlying46 sizeOf9 e44)<|op (fun Q U W H D=>(zAQ (QRep.ptr (D.g 0 Z)) isAgg9 sizeOf9))<|op (fun Q U W H D=>zA6 call61 (zEr (q46 Z) (d.fr W.size) (D.g 0 Z)))<|oa<|oz
 intro R w m n p d j
 obtain ⟨h6,h8⟩:=k2 n h6 h8
 have h9:=p.r 4 Z
 replace f_u14:=f_u14.fr m
 replace q:=q.fr m
 obtain ⟨e47,c⟩:=zA4 c
 obtain ⟨x48,q49,c⟩:=zA3 c
 refine HT.su d j (eR u14::eF (.qtr eStr A (gtD p1.2.2.2 2))::eF (.rep eStr A (gtD p1.2.2.2 2))::eI x48::eI x48::[]) ?_ ?_
 exact om h6<|op (fun Q U W H D=>zA7 ((f_u14.fr W).eq (D.g 0 Z)) Z underlying46 sizeOf9 e47)<|op (fun Q U W H D=>(zAQ (QRep.ptr (D.g 0 Z)) isAgg9 sizeOf9))<|op (fun Q U W H D=>zA6 call61 (zEr (q49 Z) (d.fr W.size) (D.g 0 Z)))<|oa<|oz
 intro R w m n p d j
 obtain ⟨h8,h9⟩:=k2 n h8 h9
 have h10:=p.r 4 Z
 replace q:=q.fr m
 refine HT.seq ?_
 refine HT.seq ?_
 obtain ⟨x50,q51,c⟩:=zAB c
 refine HT.u d j (eI x45::eB (decide (0<x45))::eB (decide (0<x45))::gI (true&&((decide (0<x45))==true)) x48::gB (true&&((decide (0<x45))==true)) (decide (0<x48))::eB x50::[]) ?_ ?_
 exact om h9<|op (fun Q U W H D=>zCM (D.g 0 Z) Z)<|ov<|gm 2 true h10<|og 2 true (fun G Q U W H D=>zCM (D.h 0 G Z) Z)<|op (fun Q U W H D=>zAC (decide (0<x45)) (D.g 0 Z) (fun hc=>by have a1:Q 82 = .bool (decide (0<x48)):=D 1 _ _ _ Z Z Z Z (zAZ Z (zAM hc));show _=Value.bool x50;rw [q51,hc];exact a1) (fun hc=>by show _=Value.bool x50;rw [q51,hc];exact Z))<|oz
 intro R w m n p d j
 obtain ⟨h8,h9,h10⟩:=k3 n h8 h9 h10
 have h83:=p.r 5 Z
 replace q:=q.fr m
 refine HT.cond x50 h83 (fun c52=>?_) (fun c52=>?_)
 have c:=zAK c52 c
 obtain ⟨x53,q54,c⟩:=zA3 c
 obtain ⟨e55,c⟩:=zA4 c
 refine HT.x [ob u43 (.vec w0.heap.size 3 (eInt .i64) ([x17,x25,x33,x37,0,x41]:List Int))] (rR u43::rI x45::rI x48::rI x53::rR (vptr u43 ((4:Int).toNat*1))::⟨_,true,[0],some (.vec w0.heap.size 3 (eInt .i64) (([x17,x25,x33,x37,0,x41]:List Int).set (4:Int).toNat x53)),false,fun A=>.any⟩::[]) (ur (ur (ur (ur (ur (ua (UAll.nil))))))) q d ?_ ?_
 exact rm h8<|rm h9<|rm h10<|rp (fun V Q U O D=>zA6 call129 (zFz (q54 Z) O.av (D.g 0 Z) (D.g 1 Z) Z))<|rp (fun V Q U O D=>zAF (q.ok 0 _ Z).1 (D.g 0 Z) Z underlying27 sizeOf3 e55 Z)<|rc (OblR.took 0 _ _ Z Z Z Z Z fun V Q U O D u hok hav hin hop hds=>by have a0:Q 88=(vptr u43 ((4:Int).toNat*1)):=D.g 0 Z;have a1:Q 87 = .int .i64 x53:=D.g 1 Z;obtain rfl:=hin _ Z;exact zBY (zAe.eq a1) hok hav a0 e55 Z (FldS.id _) sizeOf3 Z)<|rz
 intro done ρ σ A R w y s
 replace h8:=k1 s.rg h8
 have z56:=s.inivR 0 Z
 have z57:=s.on y 6 5 Z Z Z Z Z z56
 obtain ⟨B,j,d⟩:=s.s B C j q ⟨Z,N⟩
 replace q:=s.left y [(6,ob u43 (.vec w0.heap.size 3 (eInt .i64) (([x17,x25,x33,x37,0,x41]:List Int).set (4:Int).toNat x53)))] ⟨Z,Z,z57,Z,Z,N⟩
 refine HT.su d j (eR u43::eR u43::[]) ?_ ?_
 exact om h8<|oa<|oz
 intro R w m n p d j
 have h4:=p.r 1 Z
 replace q:=q.fr m
 refine HT.ret ?_
 obtain rfl:=si c
 exact ⟨.inr Z,[R 4],⟨Z,N⟩,(zCT (q.ok 0 _ Z) B h4),j⟩
 have c:=zAL c52 c
 refine HT.skip ?_
 refine HT.su d j (eR u43::eR u43::[]) ?_ ?_
 exact om h8<|oa<|oz
 intro R w m n p d j
 have h4:=p.r 1 Z
 replace q:=q.fr m
 refine HT.ret ?_
 obtain rfl:=si c
 exact ⟨.inr Z,[R 4],⟨Z,N⟩,(zCT (q.ok 0 _ Z) B h4),j⟩
theorem zFT {fu : Nat} {A0 : Av} {p0 : zAA} {p1 : zAA} {r : List Int} (c : zB1 fu p0 p1 = some r) {w : World} {v0 : Value} {v1 : Value} (d : AvOK A0 w) (h0 : Rep zA1 A0 w v0 p0) (h1 : Rep zA1 A0 w v1 p1) :
 Calls prog 58 #[v0,v1] w fun e w'=>∃ v,e = .returned v∧(Rep (eSl (eInt .i64)) A0 w' v r∧Fr w w'):=by
 refine Calls.mono (zFo c d h0 h1) ?_
 rintro e w' ⟨v,he,hv,hf⟩
 exact ⟨v,he,zCD hv (fun b o h=>.inl h) d,hf⟩
end Go.Proofs.YtcodfkieaoomnaaGreatDoor
