/- Own texts laid together. No statement of the seat is proved here. -/
import Derived.Test.YtcodfkieaoomnaaGreatDoorZq5
import Derived.Sort.Walk0
import Derived.Lib.Bytealg
import Derived.Lib.SplitLaws
namespace Go.Proofs.YtcodfkieaoomnaaGreatDoor
open Go.RowKit
set_option linter.unusedVariables false
open _root_.Go.Proofs.Tryz
set_option maxRecDepth 100000
set_option maxHeartbeats 4000000
def zAR (fu : Nat) (p0 : List UInt8) (p1 : List UInt8) (p2 : Bool) (y8 : Int) (y9 : List (List Int)) : Nat → Int → (List (List Int)) → Option (List (List Int))
 | 0,_,_=>none
 | k+1,y23,y24=>
 bif (decide (y23<((gtD (y9.set y8.toNat (List.replicate ((p1.length:Int)+1).toNat 0)) y8).length:Int))) then (
 bif (y8==0) then (
 ck (inR y8 y24.length) <|
 ck (inR y23 (gtD y24 y8).length) <|
 ck (i64B (y23+1)) <|
 zAR fu p0 p1 p2 y8 y9 k (y23+1) (y24.set y8.toNat ((gtD y24 y8).set y23.toNat y23))
 ) else (
 bif (y23==0) then (
 ck (inR y8 y24.length) <|
 ck (inR y23 (gtD y24 y8).length) <|
 ck (i64B (y23+1)) <|
 zAR fu p0 p1 p2 y8 y9 k (y23+1) (y24.set y8.toNat ((gtD y24 y8).set y23.toNat y8))
 ) else (
 ck (i64B (y8-1)) <|
 ck (inR (y8-1) p0.length) <|
 ck (i64B (y23-1)) <|
 ck (inR (y23-1) p1.length) <|
 bif ((bAt p0 (y8-1))==(bAt p1 (y23-1))) then (
 ck (inR y8 y24.length) <|
 ck (i64B (y8-1)) <|
 ck (inR (y8-1) y24.length) <|
 ck (inR y23 (gtD y24 (y8-1)).length) <|
 ck (i64B ((gtD (gtD y24 (y8-1)) y23)+1)) <|
 ck (inR y8 y24.length) <|
 ck (i64B (y23-1)) <|
 ck (inR (y23-1) (gtD y24 y8).length) <|
 ck (i64B ((gtD (gtD y24 y8) (y23-1))+1)) <|
 ck (i64B (y8-1)) <|
 ck (inR (y8-1) y24.length) <|
 ck (i64B (y23-1)) <|
 ck (inR (y23-1) (gtD y24 (y8-1)).length) <|
 ck (i64B ((gtD (gtD y24 (y8-1)) (y23-1))+0)) <|
 ck (inR y23 (gtD y24 y8).length) <|
 bd (p2&&(decide (1<y8))) fun x76=>
 bd (x76&&(decide (1<y23))) fun x78=>
 ck (!(true&&(x78==true)) || i64B (y8-1)) <|
 ck (!(true&&(x78==true)) || inR (y8-1) p0.length) <|
 ck (!(true&&(x78==true)) || i64B (y23-2)) <|
 ck (!(true&&(x78==true)) || inR (y23-2) p1.length) <|
 bd (x78&&((bAt p0 (y8-1))==(bAt p1 (y23-2)))) fun x84=>
 ck (!(true&&(x84==true)) || i64B (y8-2)) <|
 ck (!(true&&(x84==true)) || inR (y8-2) p0.length) <|
 ck (!(true&&(x84==true)) || i64B (y23-1)) <|
 ck (!(true&&(x84==true)) || inR (y23-1) p1.length) <|
 bd (x84&&((bAt p0 (y8-2))==(bAt p1 (y23-1)))) fun x90=>
 bif x90 then (
 ck (inR y8 (y24.set y8.toNat ((gtD y24 y8).set y23.toNat (min (min ((gtD (gtD y24 (y8-1)) y23)+1) ((gtD (gtD y24 y8) (y23-1))+1)) ((gtD (gtD y24 (y8-1)) (y23-1))+0)))).length) <|
 ck (inR y8 (y24.set y8.toNat ((gtD y24 y8).set y23.toNat (min (min ((gtD (gtD y24 (y8-1)) y23)+1) ((gtD (gtD y24 y8) (y23-1))+1)) ((gtD (gtD y24 (y8-1)) (y23-1))+0)))).length) <|
 ck (inR y23 (gtD (y24.set y8.toNat ((gtD y24 y8).set y23.toNat (min (min ((gtD (gtD y24 (y8-1)) y23)+1) ((gtD (gtD y24 y8) (y23-1))+1)) ((gtD (gtD y24 (y8-1)) (y23-1))+0)))) y8).length) <|
 ck (i64B (y8-2)) <|
 ck (inR (y8-2) (y24.set y8.toNat ((gtD y24 y8).set y23.toNat (min (min ((gtD (gtD y24 (y8-1)) y23)+1) ((gtD (gtD y24 y8) (y23-1))+1)) ((gtD (gtD y24 (y8-1)) (y23-1))+0)))).length) <|
 ck (i64B (y23-2)) <|
 ck (inR (y23-2) (gtD (y24.set y8.toNat ((gtD y24 y8).set y23.toNat (min (min ((gtD (gtD y24 (y8-1)) y23)+1) ((gtD (gtD y24 y8) (y23-1))+1)) ((gtD (gtD y24 (y8-1)) (y23-1))+0)))) (y8-2)).length) <|
 ck (i64B ((gtD (gtD (y24.set y8.toNat ((gtD y24 y8).set y23.toNat (min (min ((gtD (gtD y24 (y8-1)) y23)+1) ((gtD (gtD y24 y8) (y23-1))+1)) ((gtD (gtD y24 (y8-1)) (y23-1))+0)))) (y8-2)) (y23-2))+1)) <|
 ck (inR y23 (gtD (y24.set y8.toNat ((gtD y24 y8).set y23.toNat (min (min ((gtD (gtD y24 (y8-1)) y23)+1) ((gtD (gtD y24 y8) (y23-1))+1)) ((gtD (gtD y24 (y8-1)) (y23-1))+0)))) y8).length) <|
 ck (i64B (y23+1)) <|
 zAR fu p0 p1 p2 y8 y9 k (y23+1) ((y24.set y8.toNat ((gtD y24 y8).set y23.toNat (min (min ((gtD (gtD y24 (y8-1)) y23)+1) ((gtD (gtD y24 y8) (y23-1))+1)) ((gtD (gtD y24 (y8-1)) (y23-1))+0)))).set y8.toNat ((gtD (y24.set y8.toNat ((gtD y24 y8).set y23.toNat (min (min ((gtD (gtD y24 (y8-1)) y23)+1) ((gtD (gtD y24 y8) (y23-1))+1)) ((gtD (gtD y24 (y8-1)) (y23-1))+0)))) y8).set y23.toNat (min (gtD (gtD (y24.set y8.toNat ((gtD y24 y8).set y23.toNat (min (min ((gtD (gtD y24 (y8-1)) y23)+1) ((gtD (gtD y24 y8) (y23-1))+1)) ((gtD (gtD y24 (y8-1)) (y23-1))+0)))) y8) y23) ((gtD (gtD (y24.set y8.toNat ((gtD y24 y8).set y23.toNat (min (min ((gtD (gtD y24 (y8-1)) y23)+1) ((gtD (gtD y24 y8) (y23-1))+1)) ((gtD (gtD y24 (y8-1)) (y23-1))+0)))) (y8-2)) (y23-2))+1))))
 ) else (
 ck (i64B (y23+1)) <|
 zAR fu p0 p1 p2 y8 y9 k (y23+1) (y24.set y8.toNat ((gtD y24 y8).set y23.toNat (min (min ((gtD (gtD y24 (y8-1)) y23)+1) ((gtD (gtD y24 y8) (y23-1))+1)) ((gtD (gtD y24 (y8-1)) (y23-1))+0))))
 )
 ) else (
 ck (inR y8 y24.length) <|
 ck (i64B (y8-1)) <|
 ck (inR (y8-1) y24.length) <|
 ck (inR y23 (gtD y24 (y8-1)).length) <|
 ck (i64B ((gtD (gtD y24 (y8-1)) y23)+1)) <|
 ck (inR y8 y24.length) <|
 ck (i64B (y23-1)) <|
 ck (inR (y23-1) (gtD y24 y8).length) <|
 ck (i64B ((gtD (gtD y24 y8) (y23-1))+1)) <|
 ck (i64B (y8-1)) <|
 ck (inR (y8-1) y24.length) <|
 ck (i64B (y23-1)) <|
 ck (inR (y23-1) (gtD y24 (y8-1)).length) <|
 ck (i64B ((gtD (gtD y24 (y8-1)) (y23-1))+1)) <|
 ck (inR y23 (gtD y24 y8).length) <|
 bd (p2&&(decide (1<y8))) fun x141=>
 bd (x141&&(decide (1<y23))) fun x143=>
 ck (!(true&&(x143==true)) || i64B (y8-1)) <|
 ck (!(true&&(x143==true)) || inR (y8-1) p0.length) <|
 ck (!(true&&(x143==true)) || i64B (y23-2)) <|
 ck (!(true&&(x143==true)) || inR (y23-2) p1.length) <|
 bd (x143&&((bAt p0 (y8-1))==(bAt p1 (y23-2)))) fun x149=>
 ck (!(true&&(x149==true)) || i64B (y8-2)) <|
 ck (!(true&&(x149==true)) || inR (y8-2) p0.length) <|
 ck (!(true&&(x149==true)) || i64B (y23-1)) <|
 ck (!(true&&(x149==true)) || inR (y23-1) p1.length) <|
 bd (x149&&((bAt p0 (y8-2))==(bAt p1 (y23-1)))) fun x155=>
 bif x155 then (
 ck (inR y8 (y24.set y8.toNat ((gtD y24 y8).set y23.toNat (min (min ((gtD (gtD y24 (y8-1)) y23)+1) ((gtD (gtD y24 y8) (y23-1))+1)) ((gtD (gtD y24 (y8-1)) (y23-1))+1)))).length) <|
 ck (inR y8 (y24.set y8.toNat ((gtD y24 y8).set y23.toNat (min (min ((gtD (gtD y24 (y8-1)) y23)+1) ((gtD (gtD y24 y8) (y23-1))+1)) ((gtD (gtD y24 (y8-1)) (y23-1))+1)))).length) <|
 ck (inR y23 (gtD (y24.set y8.toNat ((gtD y24 y8).set y23.toNat (min (min ((gtD (gtD y24 (y8-1)) y23)+1) ((gtD (gtD y24 y8) (y23-1))+1)) ((gtD (gtD y24 (y8-1)) (y23-1))+1)))) y8).length) <|
 ck (i64B (y8-2)) <|
 ck (inR (y8-2) (y24.set y8.toNat ((gtD y24 y8).set y23.toNat (min (min ((gtD (gtD y24 (y8-1)) y23)+1) ((gtD (gtD y24 y8) (y23-1))+1)) ((gtD (gtD y24 (y8-1)) (y23-1))+1)))).length) <|
 ck (i64B (y23-2)) <|
 ck (inR (y23-2) (gtD (y24.set y8.toNat ((gtD y24 y8).set y23.toNat (min (min ((gtD (gtD y24 (y8-1)) y23)+1) ((gtD (gtD y24 y8) (y23-1))+1)) ((gtD (gtD y24 (y8-1)) (y23-1))+1)))) (y8-2)).length) <|
 ck (i64B ((gtD (gtD (y24.set y8.toNat ((gtD y24 y8).set y23.toNat (min (min ((gtD (gtD y24 (y8-1)) y23)+1) ((gtD (gtD y24 y8) (y23-1))+1)) ((gtD (gtD y24 (y8-1)) (y23-1))+1)))) (y8-2)) (y23-2))+1)) <|
 ck (inR y23 (gtD (y24.set y8.toNat ((gtD y24 y8).set y23.toNat (min (min ((gtD (gtD y24 (y8-1)) y23)+1) ((gtD (gtD y24 y8) (y23-1))+1)) ((gtD (gtD y24 (y8-1)) (y23-1))+1)))) y8).length) <|
 ck (i64B (y23+1)) <|
 zAR fu p0 p1 p2 y8 y9 k (y23+1) ((y24.set y8.toNat ((gtD y24 y8).set y23.toNat (min (min ((gtD (gtD y24 (y8-1)) y23)+1) ((gtD (gtD y24 y8) (y23-1))+1)) ((gtD (gtD y24 (y8-1)) (y23-1))+1)))).set y8.toNat ((gtD (y24.set y8.toNat ((gtD y24 y8).set y23.toNat (min (min ((gtD (gtD y24 (y8-1)) y23)+1) ((gtD (gtD y24 y8) (y23-1))+1)) ((gtD (gtD y24 (y8-1)) (y23-1))+1)))) y8).set y23.toNat (min (gtD (gtD (y24.set y8.toNat ((gtD y24 y8).set y23.toNat (min (min ((gtD (gtD y24 (y8-1)) y23)+1) ((gtD (gtD y24 y8) (y23-1))+1)) ((gtD (gtD y24 (y8-1)) (y23-1))+1)))) y8) y23) ((gtD (gtD (y24.set y8.toNat ((gtD y24 y8).set y23.toNat (min (min ((gtD (gtD y24 (y8-1)) y23)+1) ((gtD (gtD y24 y8) (y23-1))+1)) ((gtD (gtD y24 (y8-1)) (y23-1))+1)))) (y8-2)) (y23-2))+1))))
 ) else (
 ck (i64B (y23+1)) <|
 zAR fu p0 p1 p2 y8 y9 k (y23+1) (y24.set y8.toNat ((gtD y24 y8).set y23.toNat (min (min ((gtD (gtD y24 (y8-1)) y23)+1) ((gtD (gtD y24 y8) (y23-1))+1)) ((gtD (gtD y24 (y8-1)) (y23-1))+1))))
 )
 )
 )
 )
 ) else (
 some y24
 )
def zBQ (fu : Nat) (p0 : List UInt8) (p1 : List UInt8) (p2 : Bool) : Nat → Int → (List (List Int)) → Option (List (List Int))
 | 0,_,_=>none
 | k+1,y8,y9=>
 bif (decide (y8<((List.replicate ((p0.length:Int)+1).toNat ([]:List Int)).length:Int))) then (
 ck (i64B ((p1.length:Int)+1)) <|
 ck (mkOK ((p1.length:Int)+1)) <|
 ck (inR y8 y9.length) <|
 ck (inR y8 (y9.set y8.toNat (List.replicate ((p1.length:Int)+1).toNat 0)).length) <|
 cl true (zAR fu p0 p1 p2 y8 y9 fu 0 (y9.set y8.toNat (List.replicate ((p1.length:Int)+1).toNat 0))) fun s22=>
 ck (i64B (y8+1)) <|
 zBQ fu p0 p1 p2 k (y8+1) s22
 ) else (
 some y9
 )
def zCX (fu:Nat) (p0:List UInt8) (p1:List UInt8) (p2:Bool):Option (List (List Int)):=
 ck (i64B ((p0.length:Int)+1)) <|
 ck (mkOK ((p0.length:Int)+1)) <|
 cl true (zBQ fu p0 p1 p2 fu 0 (List.replicate ((p0.length:Int)+1).toNat ([]:List Int))) fun s7=>
 some s7
theorem zGX {fu : Nat} {A0 : Av} {p0 : List UInt8} {p1 : List UInt8} {p2 : Bool} {r : List (List Int)} (c : zCX fu p0 p1 p2 = some r) {w : World} {v0 : Value} {v1 : Value} {v2 : Value} (d : AvOK A0 w) (h0 : Rep eStr A0 w v0 p0) (h1 : Rep eStr A0 w v1 p1) (h2 : v2 = .bool p2) :
 Calls prog 319 #[v0,v1,v2] w fun e w'=>∃ v,e = .returned v∧(zFN A0 (trR (geB w.heap.size) (oSl 27 (oSl 3 (oRd (eInt .i64)))) r []) (fun _=>.any) w v w'):=by
 unfold zCX at c
 obtain ⟨w0,hw0⟩:∃ w0,w0=w:=⟨_,Z⟩
 have j:Fr w0 w:=hw0 ▸ Fr.refl _
 have C:∀ b o,A0 b o→b<w0.heap.size:=fun b o h=>hw0 ▸ d b o h
 have hA00:AvOK A0 w0:=C
 rw [show zFN A0 (trR (geB w.heap.size) (oSl 27 (oSl 3 (oRd (eInt .i64)))) r []) (fun _=>.any) w=zFN A0 (trR (geB w0.heap.size) (oSl 27 (oSl 3 (oRd (eInt .i64)))) r []) (fun _=>.any) w0 from hw0 ▸ Z]
 clear hw0
 obtain ⟨A,hAe⟩:∃ A,A=A0:=⟨_,Z⟩
 have B:∀ b o,A0 b o→A b o:=fun b o h=>hAe ▸ h
 replace d:AvOK A w:=hAe ▸ d
 have q:IniOK [] A w:=IniOK.nil
 refine zA2 [.tmp 6] func319 ntmps319 (by decide) Z Z (nb Z) ?_
 intro R hR
 have f_v0:Rep eStr A w v0 p0:=hAe ▸ h0
 replace h0:R 0=v0:=hR 0 _ Z
 have f_v1:Rep eStr A w v1 p1:=hAe ▸ h1
 replace h1:R 1=v1:=hR 1 _ Z
 replace h2:R 2 = .bool p2:=(hR 2 _ Z).trans h2
 clear hR hAe
 refine HT.su d j (eA::[]) ?_ ?_
 exact op (fun Q U W H D=>zA0 N)<|oz
 intro R w m n p d j
 obtain ⟨h0,h1,h2⟩:=k3 n h0 h1 h2
 replace f_v0:=f_v0.fr m
 replace f_v1:=f_v1.fr m
 replace q:=q.fr m
 obtain ⟨e1,e2,c⟩:=ck2 c
 refine HT.sx [] (rR v0::rI (p0.length:Int)::rI ((p0.length:Int)+1)::⟨_,true,[],some (trR (geB w0.heap.size) (oSl 27 (oSl 3 (oRd (eInt .i64)))) (List.replicate ((p0.length:Int)+1).toNat ([]:List Int)) []),true,fun A=>.any⟩::⟨_,true,[3],some (trR (geB w0.heap.size) (oSl 27 (oSl 3 (oRd (eInt .i64)))) (List.replicate ((p0.length:Int)+1).toNat ([]:List Int)) []),true,fun A=>.any⟩::[]) (ur (ur (ur (ua (ua (UAll.nil)))))) q d ?_ ?_
 exact rm h0<|rp (fun V Q U O D=>zAG ((f_v0.stp O.stp).eq (D.g 0 Z)) underlying9)<|rp (fun V Q U O D=>zAN (D.g 0 Z) Z e1)<|rc (OblR.madeS _ Z Z Z Z fun V Q U O D=>by have a0:Q 13 = .int .i64 ((p0.length:Int)+1):=D.g 0 Z;have a1:Q 13 = .int .i64 ((p0.length:Int)+1):=D.g 0 Z;exact zLu a0 a1 e2 underlying227 zPJ zeroValue27 (fun A w=>zHo) (fun k hk=>Nat.le_trans (Nat.le_trans j.size O.ch.size) hk))<|rc (OblR.tookS 3 _ _ Z Z Z Z Z fun V Q U O D u S hok hown hav hin hop hds=>by exact zJj (hop _ _ Z Z Z Z).symm (trP.nopin hown.2) hav hown.1)<|rz
 intro done ρ σ A R w y s
 obtain ⟨h0,h1,h2⟩:=k3 s.rg h0 h1 h2
 obtain ⟨u3,e_u3⟩:∃ u,ρ 4=u:=⟨_,Z⟩
 have h7:=s.ov y 4 4 e_u3
 obtain ⟨S4,eS_u3⟩:∃ S,σ 4=S:=⟨_,Z⟩
 replace f_v0:=f_v0.stp s.stp
 replace f_v1:=f_v1.stp s.stp
 obtain ⟨B,j,d⟩:=s.s B C j q N
 replace q:=s.left y [(4,⟨u3,S4,trR (geB w0.heap.size) (oSl 27 (oSl 3 (oRd (eInt .i64)))) (List.replicate ((p0.length:Int)+1).toNat ([]:List Int)) []⟩)] ⟨Z,Z,e_u3,eS_u3,Z,N⟩
 refine HT.seq ?_
 refine HT.su d j (eR u3::eI ((List.replicate ((p0.length:Int)+1).toNat ([]:List Int)).length:Int)::eI 0::[]) ?_ ?_
 exact om h7<|op (fun Q U W H D=>zJR (zAJ (q.own 0 _ Z).2) (D.g 0 Z) underlying227)<|op (fun Q U W H D=>zCE Z)<|oz
 intro R w m n p d j
 obtain ⟨h0,h1,h2,h7⟩:=k4 n h0 h1 h2 h7
 have h16:=p.r 1 Z
 have h17:=p.r 2 Z
 replace f_v0:=f_v0.fr m
 replace f_v1:=f_v1.fr m
 replace q:=q.fr m
 obtain ⟨rl5,q6,c⟩:=zA3 c
 replace q6:=q6 Z
 refine HT.cut0 (fun R w=>∃ A:Av,∃ (s7:(List (List Int))) (So_u3:Nat→Prop),rl5=s7∧AvOK A w∧Fr w0 w∧(∀ b o,A0 b o→A b o)∧IniOK [⟨u3,So_u3,trR (geB w0.heap.size) (oSl 27 (oSl 3 (oRd (eInt .i64)))) s7 []⟩] A w∧R 7=u3) ?_ ?_
 refine HT.block ?_
 refine HT.loop (fun k R w=>∃ A:Av,∃ (y8:Int) (y9:List (List Int)) (Sl_u3:Nat→Prop),zBQ fu p0 p1 p2 k y8 y9=some rl5∧AvOK A w∧Fr w0 w∧(∀ b o,A0 b o→A b o)∧IniOK [⟨u3,Sl_u3,trR (geB w0.heap.size) (oSl 27 (oSl 3 (oRd (eInt .i64)))) y9 []⟩] A w∧R 0=v0∧R 1=v1∧R 2 = .bool p2∧R 7=u3∧R 16 = .int .i64 ((List.replicate ((p0.length:Int)+1).toNat ([]:List Int)).length:Int)∧R 17 = .int .i64 y8∧Rep eStr A w v0 p0∧Rep eStr A w v1 p1) fu ⟨_,_,_,S4,q6,d,j,B,q,h0,h1,h2,h7,h16,h17,f_v0,f_v1⟩ ?_
 have hr0:=c;clear c q6
 rintro k R w ⟨A,y8,y9,Sl_u3,c,d,j,B,q,h0,h1,h2,h7,h16,h17,f_v0,f_v1⟩
 rcases k with _ | k
 cases (show none=some _ from c)
 rw [zBQ] at c
 refine HT.su d j (eB (decide (y8<((List.replicate ((p0.length:Int)+1).toNat ([]:List Int)).length:Int)))::[]) ?_ ?_
 exact op (fun Q U W H D=>zAf ((H 17 Z).trans h17) ((H 16 Z).trans h16))<|oz
 intro R w m n p d j
 obtain ⟨h0,h1,h2,h7,h16,h17⟩:=k6 n h0 h1 h2 h7 h16 h17
 have h18:=p.r 0 Z
 replace f_v0:=f_v0.fr m
 replace f_v1:=f_v1.fr m
 replace q:=q.fr m
 refine HT.seq ?_
 refine HT.cond (decide (y8<((List.replicate ((p0.length:Int)+1).toNat ([]:List Int)).length:Int))) h18 (fun c10=>?_) (fun c10=>?_)
 have c:=zAK c10 c
 refine HT.skip ?_
 refine HT.seq ?_
 refine HT.block ?_
 refine HT.su d j (eI y8::eI y8::[]) ?_ ?_
 exact om h17<|oa<|oz
 intro R w m n p d j
 obtain ⟨h0,h1,h2,h7,h16,h17⟩:=k6 n h0 h1 h2 h7 h16 h17
 have h8:=p.r 1 Z
 replace f_v0:=f_v0.fr m
 replace f_v1:=f_v1.fr m
 replace q:=q.fr m
 obtain ⟨e11,e12,e13,c⟩:=ck3 c
 refine HT.sx [⟨u3,Sl_u3,trR (geB w0.heap.size) (oSl 27 (oSl 3 (oRd (eInt .i64)))) y9 []⟩] (rR u3::rI y8::rR v1::rI (p1.length:Int)::rI ((p1.length:Int)+1)::⟨_,true,[],some (.vec w0.heap.size 3 (eInt .i64) (List.replicate ((p1.length:Int)+1).toNat 0)),true,fun A=>.any⟩::rR (vptr u3 (y8.toNat*1))::⟨_,true,[0,6],some (trR (geB w0.heap.size) (oSl 27 (oSl 3 (oRd (eInt .i64)))) (y9.set y8.toNat (List.replicate ((p1.length:Int)+1).toNat 0)) []),false,fun A=>.any⟩::[]) (ur (ur (ur (ur (ur (ua (ur (ua (UAll.nil))))))))) q d ?_ ?_
 exact rm h7<|rm h8<|rm h1<|rp (fun V Q U O D=>zAG ((f_v1.stp O.stp).eq (D.g 0 Z)) underlying9)<|rp (fun V Q U O D=>zAN (D.g 0 Z) Z e11)<|rc (OblR.made _ Z Z Z Z fun V Q U O D=>by have a0:Q 24 = .int .i64 ((p1.length:Int)+1):=D.g 0 Z;have a1:Q 24 = .int .i64 ((p1.length:Int)+1):=D.g 0 Z;exact zI7 a0 a1 e12 underlying27 el_3 zeroValue3 (fun A w=>zDJ) (Nat.le_trans j.size O.ch.size))<|rp (fun V Q U O D=>zAI (zAJ (q.own 0 _ Z).2) (D.g 0 Z) (D.g 1 Z) underlying227 sizeOf27 e13 Z)<|rc (OblR.tookM 0 [6] _ Z Z Z Z fun V Q U O D ρ σ hok hav hin hop hds hdd=>by have a0:Q 26=(vptr u3 (y8.toNat*1)):=D.g 0 Z;have k1:=hok 0 (.head _) _ Z;have e0:=(hin 0 (.head _) _ Z).1;rw [e0] at k1 ⊢;exact zG8 Z ((zAJ k1.2.2).elem e13 Z) (zHr (hok 6 (.tail _ (.head _)) _ Z).1 (hok 6 (.tail _ (.head _)) _ Z).2) (hop 6 (.tail _ (.head _)) _ _ Z Z Z Z).symm a0 hav hdd k1.2.1 (zOA (hok 6 (.tail _ (.head _)) _ Z).1 (hok 6 (.tail _ (.head _)) _ Z).2) sizeOf27 (fun _ _ _ h=>h))<|rz
 intro done ρ σ A R w y s
 obtain ⟨h0,h1,h2,h7,h8,h16⟩:=k6 s.rg h0 h1 h2 h7 h8 h16
 replace h17:=k1 s.rg h17
 have z14:=s.inivR 0 Z
 have z15:=s.on y 8 7 Z Z Z Z Z z14
 obtain ⟨S16,eS_u3⟩:∃ S,σ 8=S:=⟨_,Z⟩
 replace f_v0:=f_v0.stp s.stp
 replace f_v1:=f_v1.stp s.stp
 obtain ⟨B,j,d⟩:=s.s B C j q ⟨fun _ h=>h,N⟩
 replace q:=s.left y [(8,⟨u3,S16,trR (geB w0.heap.size) (oSl 27 (oSl 3 (oRd (eInt .i64)))) (y9.set y8.toNat (List.replicate ((p1.length:Int)+1).toNat 0)) []⟩)] ⟨Z,Z,z15,eS_u3,Z,N⟩
 refine HT.seq ?_
 obtain ⟨e17,c⟩:=zA4 c
 obtain ⟨h18,p_h18⟩:=(((zAJ (q.own 0 _ Z).2).elem e17 Z)).open1 Z
 replace q:IniOK [⟨u3,S16,trR (geB w0.heap.size) (oSl 27 (oSl 3 (oRd (eInt .i64)))) (y9.set y8.toNat (List.replicate ((p1.length:Int)+1).toNat 0)) [((vptr u3 (y8.toNat*1)),[h18])]⟩] A w:=q.repin 0 Z (trP.pin p_h18)
 refine HT.u d j (eR u3::eI y8::eR (vptr u3 (y8.toNat*1))::eR h18::eI ((gtD (y9.set y8.toNat (List.replicate ((p1.length:Int)+1).toNat 0)) y8).length:Int)::eI 0::[]) ?_ ?_
 exact om h7<|om h8<|op (fun Q U W H D=>zAI (zAJ (q.own 0 _ Z).2) (D.g 0 Z) (D.g 1 Z) underlying227 sizeOf27 e17 Z)<|op (fun Q U W H D=>zB8 (((q.fr W).own 0 _ Z).2.2 _ (.head _)) (D.g 0 Z) isAgg27 sizeOf27)<|op (fun Q U W H D=>zJR ((((zAJ (q.own 0 _ Z).2).elem e17 Z)).pin ((q.own 0 _ Z).2.2 _ (.head _)) Z) (D.g 0 Z) underlying27)<|op (fun Q U W H D=>zCE Z)<|oz
 intro R w m n p d j
 obtain ⟨h0,h1,h2,h7,h8,h16⟩:=k6 n h0 h1 h2 h7 h8 h16
 replace h17:=k1 n h17
 have h31:=p.r 4 Z
 have h32:=p.r 5 Z
 replace f_v0:=f_v0.fr m
 replace f_v1:=f_v1.fr m
 replace q:=q.fr m
 replace q:IniOK [⟨u3,S16,trR (geB w0.heap.size) (oSl 27 (oSl 3 (oRd (eInt .i64)))) (y9.set y8.toNat (List.replicate ((p1.length:Int)+1).toNat 0)) []⟩] A w:=q.repin 0 Z trP.nopin
 obtain ⟨rl20,q21,c⟩:=zA3 c
 replace q21:=q21 Z
 refine HT.cut0 (fun R w=>∃ A:Av,∃ (s22:(List (List Int))) (So_u3:Nat→Prop),rl20=s22∧AvOK A w∧Fr w0 w∧(∀ b o,A0 b o→A b o)∧IniOK [⟨u3,So_u3,trR (geB w0.heap.size) (oSl 27 (oSl 3 (oRd (eInt .i64)))) s22 []⟩] A w∧R 0=v0∧R 1=v1∧R 2 = .bool p2∧R 7=u3∧R 16 = .int .i64 ((List.replicate ((p0.length:Int)+1).toNat ([]:List Int)).length:Int)∧R 17 = .int .i64 y8∧Rep eStr A w v0 p0∧Rep eStr A w v1 p1) ?_ ?_
 refine HT.block ?_
 refine HT.loop (fun k R w=>∃ A:Av,∃ (y23:Int) (y24:List (List Int)) (Sl_u3:Nat→Prop),zAR fu p0 p1 p2 y8 y9 k y23 y24=some rl20∧AvOK A w∧Fr w0 w∧(∀ b o,A0 b o→A b o)∧IniOK [⟨u3,Sl_u3,trR (geB w0.heap.size) (oSl 27 (oSl 3 (oRd (eInt .i64)))) y24 []⟩] A w∧R 0=v0∧R 1=v1∧R 2 = .bool p2∧R 7=u3∧R 8 = .int .i64 y8∧R 16 = .int .i64 ((List.replicate ((p0.length:Int)+1).toNat ([]:List Int)).length:Int)∧R 17 = .int .i64 y8∧R 31 = .int .i64 ((gtD (y9.set y8.toNat (List.replicate ((p1.length:Int)+1).toNat 0)) y8).length:Int)∧R 32 = .int .i64 y23∧Rep eStr A w v0 p0∧Rep eStr A w v1 p1) fu ⟨_,_,_,S16,q21,d,j,B,q,h0,h1,h2,h7,h8,h16,h17,h31,h32,f_v0,f_v1⟩ ?_
 have hr0:=c;clear c q21
 rintro k R w ⟨A,y23,y24,Sl_u3,c,d,j,B,q,h0,h1,h2,h7,h8,h16,h17,h31,h32,f_v0,f_v1⟩
 rcases k with _ | k
 cases (show none=some _ from c)
 rw [zAR] at c
 refine HT.su d j (eB (decide (y23<((gtD (y9.set y8.toNat (List.replicate ((p1.length:Int)+1).toNat 0)) y8).length:Int)))::[]) ?_ ?_
 exact op (fun Q U W H D=>zAf ((H 32 Z).trans h32) ((H 31 Z).trans h31))<|oz
 intro R w m n p d j
 obtain ⟨h0,h1,h2,h7,h8,h16⟩:=k6 n h0 h1 h2 h7 h8 h16
 obtain ⟨h17,h31,h32⟩:=k3 n h17 h31 h32
 have h33:=p.r 0 Z
 replace f_v0:=f_v0.fr m
 replace f_v1:=f_v1.fr m
 replace q:=q.fr m
 refine HT.seq ?_
 refine HT.cond (decide (y23<((gtD (y9.set y8.toNat (List.replicate ((p1.length:Int)+1).toNat 0)) y8).length:Int))) h33 (fun c25=>?_) (fun c25=>?_)
 have c:=zAK c25 c
 refine HT.skip ?_
 refine HT.seq ?_
 refine HT.block ?_
 refine HT.su d j (eI y23::eI y23::[]) ?_ ?_
 exact om h32<|oa<|oz
 intro R w m n p d j
 obtain ⟨h0,h1,h2,h7,h8,h16⟩:=k6 n h0 h1 h2 h7 h8 h16
 obtain ⟨h17,h31,h32⟩:=k3 n h17 h31 h32
 have h9:=p.r 1 Z
 replace f_v0:=f_v0.fr m
 replace f_v1:=f_v1.fr m
 replace q:=q.fr m
 refine HT.seq ?_
 refine HT.block ?_
 refine HT.su d j (eI y8::eB (y8==0)::eB (y8==0)::[]) ?_ ?_
 exact om h8<|op (fun Q U W H D=>zBA (D.g 0 Z) Z)<|oa<|oz
 intro R w m n p d j
 obtain ⟨h0,h1,h2,h7,h8,h9⟩:=k6 n h0 h1 h2 h7 h8 h9
 obtain ⟨h16,h17,h31,h32⟩:=k4 n h16 h17 h31 h32
 have h35:=p.r 2 Z
 replace f_v0:=f_v0.fr m
 replace f_v1:=f_v1.fr m
 replace q:=q.fr m
 refine HT.cond (y8==0) h35 (fun c26=>?_) (fun c26=>?_)
 have c:=zAK c26 c
 refine HT.seq ?_
 obtain ⟨e27,c⟩:=zA4 c
 obtain ⟨h28,p_h28⟩:=(((zAJ (q.own 0 _ Z).2).elem e27 Z)).open1 Z
 replace q:IniOK [⟨u3,Sl_u3,trR (geB w0.heap.size) (oSl 27 (oSl 3 (oRd (eInt .i64)))) y24 [((vptr u3 (y8.toNat*1)),[h28])]⟩] A w:=q.repin 0 Z (trP.pin p_h28)
 obtain ⟨e30,c⟩:=zA4 c
 refine HT.x [⟨u3,Sl_u3,trR (geB w0.heap.size) (oSl 27 (oSl 3 (oRd (eInt .i64)))) y24 [((vptr u3 (y8.toNat*1)),[h28])]⟩] (rR u3::rI y8::rR (vptr u3 (y8.toNat*1))::rR h28::rI y23::rI y23::rR (vptr h28 (y23.toNat*1))::⟨_,true,[0],some (trR (geB w0.heap.size) (oSl 27 (oSl 3 (oRd (eInt .i64)))) (y24.set y8.toNat ((gtD y24 y8).set y23.toNat y23)) []),false,fun A=>.any⟩::[]) (ur (ur (ur (ur (ur (ur (ur (ua (UAll.nil))))))))) q d ?_ ?_
 exact rm h7<|rm h8<|rp (fun V Q U O D=>zAI (zAJ (q.own 0 _ Z).2) (D.g 0 Z) (D.g 1 Z) underlying227 sizeOf27 e27 Z)<|rp (fun V Q U O D=>zB8 ((O.rdo 0 _ Z Z).2.2 _ (.head _)) (D.g 0 Z) isAgg27 sizeOf27)<|rm h9<|rm h9<|rp (fun V Q U O D=>zAI ((((zAJ (q.own 0 _ Z).2).elem e27 Z)).pin ((q.own 0 _ Z).2.2 _ (.head _)) Z) (D.g 0 Z) (D.g 1 Z) underlying27 sizeOf3 e30 Z)<|rc (OblR.tookS 0 _ _ Z Z Z Z Z fun V Q U O D u S hok hown hav hin hop hds=>by have a0:Q 44=(vptr h28 (y23.toNat*1)):=D.g 0 Z;have a1:Q 43 = .int .i64 y23:=D.g 1 Z;have e0:=(hin _ Z).1;rw [e0] at hown ⊢;exact zCy (((((zAJ hown.2).elem e27 Z)).pin (hown.2.2 _ (.head _)) Z).elem e30 Z) (zAe.eq a1) a0 hav hown.1 sizeOf3 (fun _ _ _ h=>h))<|rz
 intro done ρ σ A R w y s
 obtain ⟨h0,h1,h2,h7,h8,h16⟩:=k6 s.rg h0 h1 h2 h7 h8 h16
 obtain ⟨h17,h31,h32⟩:=k3 s.rg h17 h31 h32
 have z31:=s.inivR 0 Z
 have z32:=s.on y 8 7 Z Z Z Z Z z31
 obtain ⟨S33,eS_u3⟩:∃ S,σ 8=S:=⟨_,Z⟩
 replace f_v0:=f_v0.stp s.stp
 replace f_v1:=f_v1.stp s.stp
 obtain ⟨B,j,d⟩:=s.s B C j q ⟨fun _ h=>h,N⟩
 replace q:=s.left y [(8,⟨u3,S33,trR (geB w0.heap.size) (oSl 27 (oSl 3 (oRd (eInt .i64)))) (y24.set y8.toNat ((gtD y24 y8).set y23.toNat y23)) []⟩)] ⟨Z,Z,z32,eS_u3,Z,N⟩
 refine HT.exit ?_
 obtain ⟨e34,c⟩:=zA4 c
 refine HT.u d j (eI (y23+1)::eI (y23+1)::[]) ?_ ?_
 exact op (fun Q U W H D=>zAN ((H 32 Z).trans h32) Z e34)<|ov<|oz
 intro R w m n p d j
 obtain ⟨h0,h1,h2,h7,h8,h16⟩:=k6 n h0 h1 h2 h7 h8 h16
 obtain ⟨h17,h31⟩:=k2 n h17 h31
 have h32:=p.r 1 Z
 replace f_v0:=f_v0.fr m
 replace f_v1:=f_v1.fr m
 replace q:=q.fr m
 exact ei k (And.intro (Nat.lt_succ_self k) ⟨_,_,_,S33,c,d,j,B,q,h0,h1,h2,h7,h8,h16,h17,h31,h32,f_v0,f_v1⟩)
 have c:=zAL c26 c
 refine HT.su d j (eI y23::eB (y23==0)::eB (y23==0)::[]) ?_ ?_
 exact om h9<|op (fun Q U W H D=>zBA (D.g 0 Z) Z)<|oa<|oz
 intro R w m n p d j
 obtain ⟨h0,h1,h2,h7,h8,h9⟩:=k6 n h0 h1 h2 h7 h8 h9
 obtain ⟨h16,h17,h31,h32⟩:=k4 n h16 h17 h31 h32
 have h45:=p.r 2 Z
 replace f_v0:=f_v0.fr m
 replace f_v1:=f_v1.fr m
 replace q:=q.fr m
 refine HT.cond (y23==0) h45 (fun c35=>?_) (fun c35=>?_)
 have c:=zAK c35 c
 refine HT.seq ?_
 obtain ⟨e36,c⟩:=zA4 c
 obtain ⟨h37,p_h37⟩:=(((zAJ (q.own 0 _ Z).2).elem e36 Z)).open1 Z
 replace q:IniOK [⟨u3,Sl_u3,trR (geB w0.heap.size) (oSl 27 (oSl 3 (oRd (eInt .i64)))) y24 [((vptr u3 (y8.toNat*1)),[h37])]⟩] A w:=q.repin 0 Z (trP.pin p_h37)
 obtain ⟨e39,c⟩:=zA4 c
 refine HT.x [⟨u3,Sl_u3,trR (geB w0.heap.size) (oSl 27 (oSl 3 (oRd (eInt .i64)))) y24 [((vptr u3 (y8.toNat*1)),[h37])]⟩] (rR u3::rI y8::rR (vptr u3 (y8.toNat*1))::rR h37::rI y23::rI y8::rR (vptr h37 (y23.toNat*1))::⟨_,true,[0],some (trR (geB w0.heap.size) (oSl 27 (oSl 3 (oRd (eInt .i64)))) (y24.set y8.toNat ((gtD y24 y8).set y23.toNat y8)) []),false,fun A=>.any⟩::[]) (ur (ur (ur (ur (ur (ur (ur (ua (UAll.nil))))))))) q d ?_ ?_
 exact rm h7<|rm h8<|rp (fun V Q U O D=>zAI (zAJ (q.own 0 _ Z).2) (D.g 0 Z) (D.g 1 Z) underlying227 sizeOf27 e36 Z)<|rp (fun V Q U O D=>zB8 ((O.rdo 0 _ Z Z).2.2 _ (.head _)) (D.g 0 Z) isAgg27 sizeOf27)<|rm h9<|rm h8<|rp (fun V Q U O D=>zAI ((((zAJ (q.own 0 _ Z).2).elem e36 Z)).pin ((q.own 0 _ Z).2.2 _ (.head _)) Z) (D.g 0 Z) (D.g 1 Z) underlying27 sizeOf3 e39 Z)<|rc (OblR.tookS 0 _ _ Z Z Z Z Z fun V Q U O D u S hok hown hav hin hop hds=>by have a0:Q 54=(vptr h37 (y23.toNat*1)):=D.g 0 Z;have a1:Q 53 = .int .i64 y8:=D.g 1 Z;have e0:=(hin _ Z).1;rw [e0] at hown ⊢;exact zCy (((((zAJ hown.2).elem e36 Z)).pin (hown.2.2 _ (.head _)) Z).elem e39 Z) (zAe.eq a1) a0 hav hown.1 sizeOf3 (fun _ _ _ h=>h))<|rz
 intro done ρ σ A R w y s
 obtain ⟨h0,h1,h2,h7,h8,h16⟩:=k6 s.rg h0 h1 h2 h7 h8 h16
 obtain ⟨h17,h31,h32⟩:=k3 s.rg h17 h31 h32
 have z40:=s.inivR 0 Z
 have z41:=s.on y 8 7 Z Z Z Z Z z40
 obtain ⟨S42,eS_u3⟩:∃ S,σ 8=S:=⟨_,Z⟩
 replace f_v0:=f_v0.stp s.stp
 replace f_v1:=f_v1.stp s.stp
 obtain ⟨B,j,d⟩:=s.s B C j q ⟨fun _ h=>h,N⟩
 replace q:=s.left y [(8,⟨u3,S42,trR (geB w0.heap.size) (oSl 27 (oSl 3 (oRd (eInt .i64)))) (y24.set y8.toNat ((gtD y24 y8).set y23.toNat y8)) []⟩)] ⟨Z,Z,z41,eS_u3,Z,N⟩
 refine HT.exit ?_
 obtain ⟨e43,c⟩:=zA4 c
 refine HT.u d j (eI (y23+1)::eI (y23+1)::[]) ?_ ?_
 exact op (fun Q U W H D=>zAN ((H 32 Z).trans h32) Z e43)<|ov<|oz
 intro R w m n p d j
 obtain ⟨h0,h1,h2,h7,h8,h16⟩:=k6 n h0 h1 h2 h7 h8 h16
 obtain ⟨h17,h31⟩:=k2 n h17 h31
 have h32:=p.r 1 Z
 replace f_v0:=f_v0.fr m
 replace f_v1:=f_v1.fr m
 replace q:=q.fr m
 exact ei k (And.intro (Nat.lt_succ_self k) ⟨_,_,_,S42,c,d,j,B,q,h0,h1,h2,h7,h8,h16,h17,h31,h32,f_v0,f_v1⟩)
 have c:=zAL c35 c
 refine HT.skip ?_
 refine HT.su d j (eI 1::[]) ?_ ?_
 exact op (fun Q U W H D=>zA0 Z)<|oz
 intro R w m n p d j
 obtain ⟨h0,h1,h2,h7,h8,h9⟩:=k6 n h0 h1 h2 h7 h8 h9
 obtain ⟨h16,h17,h31,h32⟩:=k4 n h16 h17 h31 h32
 have h10:=p.r 0 Z
 replace f_v0:=f_v0.fr m
 replace f_v1:=f_v1.fr m
 replace q:=q.fr m
 refine HT.seq ?_
 refine HT.seq ?_
 obtain ⟨e44,e45,e46,e47,c⟩:=ck4 c
 refine HT.draw (by kernel_rfl) (l:=eR v0::eI y8::eI (y8-1)::eU (bAt p0 (y8-1))::eR v1::eI y23::eI (y23-1)::eU (bAt p1 (y23-1))::eB ((bAt p0 (y8-1))==(bAt p1 (y23-1)))::[]) (tl:=[]) (by kernel_rfl) (by kernel_rfl) (by kernel_rfl) (by kernel_rfl) ?_ ?_
 exact om h0<|om h8<|op (fun Q U W H D=>zAX (D.g 0 Z) Z e44)<|op (fun Q U W H D=>zA8 ((f_v0.fr W).eq (D.g 0 Z)) (D.g 1 Z) underlying9 e45)<|om h1<|om h9<|op (fun Q U W H D=>zAX (D.g 0 Z) Z e46)<|op (fun Q U W H D=>zA8 ((f_v1.fr W).eq (D.g 0 Z)) (D.g 1 Z) underlying9 e47)<|op (fun Q U W H D=>zBA (D.g 0 Z) (D.g 1 Z))<|oz
 intro R w m n p
 obtain ⟨h0,h1,h2,h7,h8,h9⟩:=k6 n h0 h1 h2 h7 h8 h9
 obtain ⟨h10,h16,h17,h31,h32⟩:=k5 n h10 h16 h17 h31 h32
 have h63:=p.r 8 Z
 replace f_v0:=f_v0.fr m
 replace f_v1:=f_v1.fr m
 replace q:=q.fr m
 replace d:=d.fr m.size
 replace j:=j.trans m
 refine HT.cond ((bAt p0 (y8-1))==(bAt p1 (y23-1))) h63 (fun c48=>?_) (fun c48=>?_)
 have c:=zAK c48 c
 refine HT.u d j (eI 0::[]) ?_ ?_
 exact op (fun Q U W H D=>zA0 Z)<|oz
 intro R w m n p d j
 obtain ⟨h0,h1,h2,h7,h8,h9⟩:=k6 n h0 h1 h2 h7 h8 h9
 obtain ⟨h16,h17,h31,h32⟩:=k4 n h16 h17 h31 h32
 have h10:=p.r 0 Z
 replace f_v0:=f_v0.fr m
 replace f_v1:=f_v1.fr m
 replace q:=q.fr m
 refine HT.seq ?_
 obtain ⟨e49,c⟩:=zA4 c
 obtain ⟨h50,p_h50⟩:=(((zAJ (q.own 0 _ Z).2).elem e49 Z)).open1 Z
 replace q:IniOK [⟨u3,Sl_u3,trR (geB w0.heap.size) (oSl 27 (oSl 3 (oRd (eInt .i64)))) y24 [((vptr u3 (y8.toNat*1)),[h50])]⟩] A w:=q.repin 0 Z (trP.pin p_h50)
 obtain ⟨e52,e53,c⟩:=ck2 c
 obtain ⟨h54,p_h54⟩:=(((zAJ (q.own 0 _ Z).2).elem e53 Z)).open1 Z
 replace q:IniOK [⟨u3,Sl_u3,trR (geB w0.heap.size) (oSl 27 (oSl 3 (oRd (eInt .i64)))) y24 [((vptr u3 ((y8-1).toNat*1)),[h54]),((vptr u3 (y8.toNat*1)),[h50])]⟩] A w:=q.repin 0 Z (trP.pin p_h54)
 obtain ⟨e56,e57,e58,c⟩:=ck3 c
 obtain ⟨h59,p_h59⟩:=(((zAJ (q.own 0 _ Z).2).elem e58 Z)).open1 Z
 replace q:IniOK [⟨u3,Sl_u3,trR (geB w0.heap.size) (oSl 27 (oSl 3 (oRd (eInt .i64)))) y24 [((vptr u3 (y8.toNat*1)),[h59]),((vptr u3 ((y8-1).toNat*1)),[h54]),((vptr u3 (y8.toNat*1)),[h50])]⟩] A w:=q.repin 0 Z (trP.pin p_h59)
 obtain ⟨e61,e62,e63,e64,c⟩:=ck4 c
 obtain ⟨e65,c⟩:=zA4 c
 obtain ⟨h66,p_h66⟩:=(((zAJ (q.own 0 _ Z).2).elem e65 Z)).open1 Z
 replace q:IniOK [⟨u3,Sl_u3,trR (geB w0.heap.size) (oSl 27 (oSl 3 (oRd (eInt .i64)))) y24 [((vptr u3 ((y8-1).toNat*1)),[h66]),((vptr u3 (y8.toNat*1)),[h59]),((vptr u3 ((y8-1).toNat*1)),[h54]),((vptr u3 (y8.toNat*1)),[h50])]⟩] A w:=q.repin 0 Z (trP.pin p_h66)
 obtain ⟨e68,e69,e70,e71,c⟩:=ck4 c
 refine HT.drawR [⟨u3,Sl_u3,trR (geB w0.heap.size) (oSl 27 (oSl 3 (oRd (eInt .i64)))) y24 [((vptr u3 ((y8-1).toNat*1)),[h66]),((vptr u3 (y8.toNat*1)),[h59]),((vptr u3 ((y8-1).toNat*1)),[h54]),((vptr u3 (y8.toNat*1)),[h50])]⟩] (rR u3::rI y8::rR (vptr u3 (y8.toNat*1))::rR h50::rI y23::rR u3::rI y8::rI (y8-1)::rR (vptr u3 ((y8-1).toNat*1))::rR h54::rI y23::rR (vptr h54 (y23.toNat*1))::rI (gtD (gtD y24 (y8-1)) y23)::rI ((gtD (gtD y24 (y8-1)) y23)+1)::rR u3::rI y8::rR (vptr u3 (y8.toNat*1))::rR h59::rI y23::rI (y23-1)::rR (vptr h59 ((y23-1).toNat*1))::rI (gtD (gtD y24 y8) (y23-1))::rI ((gtD (gtD y24 y8) (y23-1))+1)::rR u3::rI y8::rI (y8-1)::rR (vptr u3 ((y8-1).toNat*1))::rR h66::rI y23::rI (y23-1)::rR (vptr h66 ((y23-1).toNat*1))::rI (gtD (gtD y24 (y8-1)) (y23-1))::rI 0::rI ((gtD (gtD y24 (y8-1)) (y23-1))+0)::rI (min (min ((gtD (gtD y24 (y8-1)) y23)+1) ((gtD (gtD y24 y8) (y23-1))+1)) ((gtD (gtD y24 (y8-1)) (y23-1))+0))::rR (vptr h50 (y23.toNat*1))::⟨_,true,[0],some (trR (geB w0.heap.size) (oSl 27 (oSl 3 (oRd (eInt .i64)))) (y24.set y8.toNat ((gtD y24 y8).set y23.toNat (min (min ((gtD (gtD y24 (y8-1)) y23)+1) ((gtD (gtD y24 y8) (y23-1))+1)) ((gtD (gtD y24 (y8-1)) (y23-1))+0)))) []),false,fun A=>.any⟩::[]) (by kernel_rfl) (by kernel_rfl) (by kernel_rfl) (Wf.mk' (by kernel_rfl) (ur (ur (ur (ur (ur (ur (ur (ur (ur (ur (ur (ur (ur (ur (ur (ur (ur (ur (ur (ur (ur (ur (ur (ur (ur (ur (ur (ur (ur (ur (ur (ur (ur (ur (ur (ur (ua (UAll.nil)))))))))))))))))))))))))))))))))))))) (by kernel_rfl) (by kernel_rfl)) q d ?_ ?_
 exact rm h7<|rm h8<|rp (fun V Q U O D=>zAI (zAJ (q.own 0 _ Z).2) (D.g 0 Z) (D.g 1 Z) underlying227 sizeOf27 e49 Z)<|rp (fun V Q U O D=>zB8 ((O.rdo 0 _ Z Z).2.2 _ (.tail _ (.tail _ (.tail _ (.head _))))) (D.g 0 Z) isAgg27 sizeOf27)<|rm h9<|rm h7<|rm h8<|rp (fun V Q U O D=>zAX (D.g 0 Z) Z e52)<|rp (fun V Q U O D=>zAI (zAJ (q.own 0 _ Z).2) (D.g 0 Z) (D.g 1 Z) underlying227 sizeOf27 e53 Z)<|rp (fun V Q U O D=>zB8 ((O.rdo 0 _ Z Z).2.2 _ (.tail _ (.tail _ (.head _)))) (D.g 0 Z) isAgg27 sizeOf27)<|rm h9<|rp (fun V Q U O D=>zAI ((((zAJ (q.own 0 _ Z).2).elem e53 Z)).pin ((q.own 0 _ Z).2.2 _ (.tail _ (.tail _ (.head _)))) Z) (D.g 0 Z) (D.g 1 Z) underlying27 sizeOf3 e56 Z)<|rp (fun V Q U O D=>OpF.int (zDA ((((((zAJ (O.rdo 0 _ Z Z).2).elem e53 Z)).pin ((O.rdo 0 _ Z Z).2.2 _ (.tail _ (.tail _ (.head _)))) Z).elem e56 Z)) (D.g 0 Z) isAgg3 sizeOf3))<|rp (fun V Q U O D=>zAN (D.g 0 Z) Z e57)<|rm h7<|rm h8<|rp (fun V Q U O D=>zAI (zAJ (q.own 0 _ Z).2) (D.g 0 Z) (D.g 1 Z) underlying227 sizeOf27 e58 Z)<|rp (fun V Q U O D=>zB8 ((O.rdo 0 _ Z Z).2.2 _ (.tail _ (.head _))) (D.g 0 Z) isAgg27 sizeOf27)<|rm h9<|rp (fun V Q U O D=>zAX (D.g 0 Z) Z e61)<|rp (fun V Q U O D=>zAI ((((zAJ (q.own 0 _ Z).2).elem e58 Z)).pin ((q.own 0 _ Z).2.2 _ (.tail _ (.head _))) Z) (D.g 0 Z) (D.g 1 Z) underlying27 sizeOf3 e62 Z)<|rp (fun V Q U O D=>OpF.int (zDA ((((((zAJ (O.rdo 0 _ Z Z).2).elem e58 Z)).pin ((O.rdo 0 _ Z Z).2.2 _ (.tail _ (.head _))) Z).elem e62 Z)) (D.g 0 Z) isAgg3 sizeOf3))<|rp (fun V Q U O D=>zAN (D.g 0 Z) Z e63)<|rm h7<|rm h8<|rp (fun V Q U O D=>zAX (D.g 0 Z) Z e64)<|rp (fun V Q U O D=>zAI (zAJ (q.own 0 _ Z).2) (D.g 0 Z) (D.g 1 Z) underlying227 sizeOf27 e65 Z)<|rp (fun V Q U O D=>zB8 ((O.rdo 0 _ Z Z).2.2 _ (.head _)) (D.g 0 Z) isAgg27 sizeOf27)<|rm h9<|rp (fun V Q U O D=>zAX (D.g 0 Z) Z e68)<|rp (fun V Q U O D=>zAI ((((zAJ (q.own 0 _ Z).2).elem e65 Z)).pin ((q.own 0 _ Z).2.2 _ (.head _)) Z) (D.g 0 Z) (D.g 1 Z) underlying27 sizeOf3 e69 Z)<|rp (fun V Q U O D=>OpF.int (zDA ((((((zAJ (O.rdo 0 _ Z Z).2).elem e65 Z)).pin ((O.rdo 0 _ Z Z).2.2 _ (.head _)) Z).elem e69 Z)) (D.g 0 Z) isAgg3 sizeOf3))<|rm h10<|rp (fun V Q U O D=>zAN (D.g 0 Z) (D.g 1 Z) e70)<|rp (fun V Q U O D=>zKQ (D.g 0 Z) (D.g 1 Z) (D.g 2 Z))<|rp (fun V Q U O D=>zAI ((((zAJ (q.own 0 _ Z).2).elem e49 Z)).pin ((q.own 0 _ Z).2.2 _ (.tail _ (.tail _ (.tail _ (.head _))))) Z) (D.g 0 Z) (D.g 1 Z) underlying27 sizeOf3 e71 Z)<|rc (OblR.tookS 0 _ _ Z Z Z Z Z fun V Q U O D u S hok hown hav hin hop hds=>by have a0:Q 99=(vptr h50 (y23.toNat*1)):=D.g 0 Z;have a1:Q 98 = .int .i64 (min (min ((gtD (gtD y24 (y8-1)) y23)+1) ((gtD (gtD y24 y8) (y23-1))+1)) ((gtD (gtD y24 (y8-1)) (y23-1))+0)):=D.g 1 Z;have e0:=(hin _ Z).1;rw [e0] at hown ⊢;exact zCy (((((zAJ hown.2).elem e49 Z)).pin (hown.2.2 _ (.tail _ (.tail _ (.tail _ (.head _))))) Z).elem e71 Z) (zAe.eq a1) a0 hav hown.1 sizeOf3 (fun _ _ _ h=>h))<|rz
 intro done ρ σ A R w y s
 obtain ⟨h0,h1,h2,h7,h8,h9⟩:=k6 s.rg h0 h1 h2 h7 h8 h9
 obtain ⟨h16,h17,h31,h32⟩:=k4 s.rg h16 h17 h31 h32
 have z72:=s.inivR 0 Z
 have z73:=s.on y 37 36 Z Z Z Z Z z72
 obtain ⟨S74,eS_u3⟩:∃ S,σ 37=S:=⟨_,Z⟩
 replace f_v0:=f_v0.stp s.stp
 replace f_v1:=f_v1.stp s.stp
 obtain ⟨B,j,d⟩:=s.s B C j q ⟨fun _ h=>h,N⟩
 replace q:=s.left y [(37,⟨u3,S74,trR (geB w0.heap.size) (oSl 27 (oSl 3 (oRd (eInt .i64)))) (y24.set y8.toNat ((gtD y24 y8).set y23.toNat (min (min ((gtD (gtD y24 (y8-1)) y23)+1) ((gtD (gtD y24 y8) (y23-1))+1)) ((gtD (gtD y24 (y8-1)) (y23-1))+0)))) []⟩)] ⟨Z,Z,z73,eS_u3,Z,N⟩
 obtain ⟨Yg74,g_Yg74⟩:∃ z,z=(y24.set y8.toNat ((gtD y24 y8).set y23.toNat (min (min ((gtD (gtD y24 (y8-1)) y23)+1) ((gtD (gtD y24 y8) (y23-1))+1)) ((gtD (gtD y24 (y8-1)) (y23-1))+0)))):=⟨_,Z⟩
 rw [← g_Yg74] at q
 try rw [← g_Yg74] at c
 refine HT.seq ?_
 obtain ⟨x76,q77,c⟩:=zAB c
 obtain ⟨x78,q79,c⟩:=zAB c
 obtain ⟨e80,e81,e82,e83,c⟩:=ck4 c
 obtain ⟨x84,q85,c⟩:=zAB c
 obtain ⟨e86,e87,e88,e89,c⟩:=ck4 c
 obtain ⟨x90,q91,c⟩:=zAB c
 refine HT.draw (by kernel_rfl) (l:=eB p2::eB p2::gI (true&&(p2==true)) y8::gB (true&&(p2==true)) (decide (1<y8))::eB x76::eB x76::gI (true&&(x76==true)) y23::gB (true&&(x76==true)) (decide (1<y23))::eB x78::eB x78::gR (true&&(x78==true)) v0::gI (true&&(x78==true)) y8::gI (true&&(x78==true)) (y8-1)::gU (true&&(x78==true)) (bAt p0 (y8-1))::gR (true&&(x78==true)) v1::gI (true&&(x78==true)) y23::gI (true&&(x78==true)) (y23-2)::gU (true&&(x78==true)) (bAt p1 (y23-2))::gB (true&&(x78==true)) ((bAt p0 (y8-1))==(bAt p1 (y23-2)))::eB x84::eB x84::gR (true&&(x84==true)) v0::gI (true&&(x84==true)) y8::gI (true&&(x84==true)) (y8-2)::gU (true&&(x84==true)) (bAt p0 (y8-2))::gR (true&&(x84==true)) v1::gI (true&&(x84==true)) y23::gI (true&&(x84==true)) (y23-1)::gU (true&&(x84==true)) (bAt p1 (y23-1))::gB (true&&(x84==true)) ((bAt p0 (y8-2))==(bAt p1 (y23-1)))::eB x90::[]) (tl:=[]) (by kernel_rfl) (by kernel_rfl) (by kernel_rfl) (by kernel_rfl) ?_ ?_
 exact om h2<|ov<|gm 1 true h8<|og 1 true (fun G Q U W H D=>zCM (D.h 0 G Z) Z)<|op (fun Q U W H D=>zAC p2 (D.g 0 Z) (fun hc=>by have a1:Q 103 = .bool (decide (1<y8)):=D 1 _ _ _ Z Z Z Z (zAZ Z (zAM hc));show _=Value.bool x76;rw [q77,hc];exact a1) (fun hc=>by show _=Value.bool x76;rw [q77,hc];exact Z))<|ov<|gm 5 true h9<|og 5 true (fun G Q U W H D=>zCM (D.h 0 G Z) Z)<|op (fun Q U W H D=>zAC x76 (D.g 0 Z) (fun hc=>by have a1:Q 107 = .bool (decide (1<y23)):=D 1 _ _ _ Z Z Z Z (zAZ Z (zAM hc));show _=Value.bool x78;rw [q79,hc];exact a1) (fun hc=>by show _=Value.bool x78;rw [q79,hc];exact Z))<|ov<|gm 9 true h0<|gm 9 true h8<|og 9 true (fun G Q U W H D=>zAX (D.h 0 G Z) Z (gd e80 G))<|og 9 true (fun G Q U W H D=>zA8 ((f_v0.fr W).eq (D.h 0 G Z)) (D.h 1 G Z) underlying9 (gd e81 G))<|gm 9 true h1<|gm 9 true h9<|og 9 true (fun G Q U W H D=>zAX (D.h 0 G Z) Z (gd e82 G))<|og 9 true (fun G Q U W H D=>zA8 ((f_v1.fr W).eq (D.h 0 G Z)) (D.h 1 G Z) underlying9 (gd e83 G))<|og 9 true (fun G Q U W H D=>zBA (D.h 0 G Z) (D.h 1 G Z))<|op (fun Q U W H D=>zAC x78 (D.g 0 Z) (fun hc=>by have a1:Q 118 = .bool ((bAt p0 (y8-1))==(bAt p1 (y23-2))):=D 1 _ _ _ Z Z Z Z (zAZ Z (zAM hc));show _=Value.bool x84;rw [q85,hc];exact a1) (fun hc=>by show _=Value.bool x84;rw [q85,hc];exact Z))<|ov<|gm 20 true h0<|gm 20 true h8<|og 20 true (fun G Q U W H D=>zAX (D.h 0 G Z) Z (gd e86 G))<|og 20 true (fun G Q U W H D=>zA8 ((f_v0.fr W).eq (D.h 0 G Z)) (D.h 1 G Z) underlying9 (gd e87 G))<|gm 20 true h1<|gm 20 true h9<|og 20 true (fun G Q U W H D=>zAX (D.h 0 G Z) Z (gd e88 G))<|og 20 true (fun G Q U W H D=>zA8 ((f_v1.fr W).eq (D.h 0 G Z)) (D.h 1 G Z) underlying9 (gd e89 G))<|og 20 true (fun G Q U W H D=>zBA (D.h 0 G Z) (D.h 1 G Z))<|op (fun Q U W H D=>zAC x84 (D.g 0 Z) (fun hc=>by have a1:Q 129 = .bool ((bAt p0 (y8-2))==(bAt p1 (y23-1))):=D 1 _ _ _ Z Z Z Z (zAZ Z (zAM hc));show _=Value.bool x90;rw [q91,hc];exact a1) (fun hc=>by show _=Value.bool x90;rw [q91,hc];exact Z))<|oz
 intro R w m n p
 obtain ⟨h0,h1,h2,h7,h8,h9⟩:=k6 n h0 h1 h2 h7 h8 h9
 obtain ⟨h16,h17,h31,h32⟩:=k4 n h16 h17 h31 h32
 have h130:=p.r 30 Z
 replace f_v0:=f_v0.fr m
 replace f_v1:=f_v1.fr m
 replace q:=q.fr m
 replace d:=d.fr m.size
 replace j:=j.trans m
 refine HT.cond x90 h130 (fun c92=>?_) (fun c92=>?_)
 have c:=zAK c92 c
 obtain ⟨e93,c⟩:=zA4 c
 obtain ⟨h94,p_h94⟩:=(((zAJ (q.own 0 _ Z).2).elem e93 Z)).open1 Z
 replace q:IniOK [⟨u3,S74,trR (geB w0.heap.size) (oSl 27 (oSl 3 (oRd (eInt .i64)))) Yg74 [((vptr u3 (y8.toNat*1)),[h94])]⟩] A w:=q.repin 0 Z (trP.pin p_h94)
 obtain ⟨e96,c⟩:=zA4 c
 obtain ⟨h97,p_h97⟩:=(((zAJ (q.own 0 _ Z).2).elem e96 Z)).open1 Z
 replace q:IniOK [⟨u3,S74,trR (geB w0.heap.size) (oSl 27 (oSl 3 (oRd (eInt .i64)))) Yg74 [((vptr u3 (y8.toNat*1)),[h97]),((vptr u3 (y8.toNat*1)),[h94])]⟩] A w:=q.repin 0 Z (trP.pin p_h97)
 obtain ⟨e99,e100,e101,c⟩:=ck3 c
 obtain ⟨h102,p_h102⟩:=(((zAJ (q.own 0 _ Z).2).elem e101 Z)).open1 Z
 replace q:IniOK [⟨u3,S74,trR (geB w0.heap.size) (oSl 27 (oSl 3 (oRd (eInt .i64)))) Yg74 [((vptr u3 ((y8-2).toNat*1)),[h102]),((vptr u3 (y8.toNat*1)),[h97]),((vptr u3 (y8.toNat*1)),[h94])]⟩] A w:=q.repin 0 Z (trP.pin p_h102)
 obtain ⟨e104,e105,e106,e107,c⟩:=ck4 c
 refine HT.drawR [⟨u3,S74,trR (geB w0.heap.size) (oSl 27 (oSl 3 (oRd (eInt .i64)))) Yg74 [((vptr u3 ((y8-2).toNat*1)),[h102]),((vptr u3 (y8.toNat*1)),[h97]),((vptr u3 (y8.toNat*1)),[h94])]⟩] (rR u3::rI y8::rR (vptr u3 (y8.toNat*1))::rR h94::rI y23::rR u3::rI y8::rR (vptr u3 (y8.toNat*1))::rR h97::rI y23::rR (vptr h97 (y23.toNat*1))::rI (gtD (gtD Yg74 y8) y23)::rR u3::rI y8::rI (y8-2)::rR (vptr u3 ((y8-2).toNat*1))::rR h102::rI y23::rI (y23-2)::rR (vptr h102 ((y23-2).toNat*1))::rI (gtD (gtD Yg74 (y8-2)) (y23-2))::rI ((gtD (gtD Yg74 (y8-2)) (y23-2))+1)::rI (min (gtD (gtD Yg74 y8) y23) ((gtD (gtD Yg74 (y8-2)) (y23-2))+1))::rR (vptr h94 (y23.toNat*1))::⟨_,true,[0],some (trR (geB w0.heap.size) (oSl 27 (oSl 3 (oRd (eInt .i64)))) (Yg74.set y8.toNat ((gtD Yg74 y8).set y23.toNat (min (gtD (gtD Yg74 y8) y23) ((gtD (gtD Yg74 (y8-2)) (y23-2))+1)))) []),false,fun A=>.any⟩::[]) (by kernel_rfl) (by kernel_rfl) (by kernel_rfl) (Wf.mk' (by kernel_rfl) (ur (ur (ur (ur (ur (ur (ur (ur (ur (ur (ur (ur (ur (ur (ur (ur (ur (ur (ur (ur (ur (ur (ur (ur (ua (UAll.nil)))))))))))))))))))))))))) (by kernel_rfl) (by kernel_rfl)) q d ?_ ?_
 exact rm h7<|rm h8<|rp (fun V Q U O D=>zAI (zAJ (q.own 0 _ Z).2) (D.g 0 Z) (D.g 1 Z) underlying227 sizeOf27 e93 Z)<|rp (fun V Q U O D=>zB8 ((O.rdo 0 _ Z Z).2.2 _ (.tail _ (.tail _ (.head _)))) (D.g 0 Z) isAgg27 sizeOf27)<|rm h9<|rm h7<|rm h8<|rp (fun V Q U O D=>zAI (zAJ (q.own 0 _ Z).2) (D.g 0 Z) (D.g 1 Z) underlying227 sizeOf27 e96 Z)<|rp (fun V Q U O D=>zB8 ((O.rdo 0 _ Z Z).2.2 _ (.tail _ (.head _))) (D.g 0 Z) isAgg27 sizeOf27)<|rm h9<|rp (fun V Q U O D=>zAI ((((zAJ (q.own 0 _ Z).2).elem e96 Z)).pin ((q.own 0 _ Z).2.2 _ (.tail _ (.head _))) Z) (D.g 0 Z) (D.g 1 Z) underlying27 sizeOf3 e99 Z)<|rp (fun V Q U O D=>OpF.int (zDA ((((((zAJ (O.rdo 0 _ Z Z).2).elem e96 Z)).pin ((O.rdo 0 _ Z Z).2.2 _ (.tail _ (.head _))) Z).elem e99 Z)) (D.g 0 Z) isAgg3 sizeOf3))<|rm h7<|rm h8<|rp (fun V Q U O D=>zAX (D.g 0 Z) Z e100)<|rp (fun V Q U O D=>zAI (zAJ (q.own 0 _ Z).2) (D.g 0 Z) (D.g 1 Z) underlying227 sizeOf27 e101 Z)<|rp (fun V Q U O D=>zB8 ((O.rdo 0 _ Z Z).2.2 _ (.head _)) (D.g 0 Z) isAgg27 sizeOf27)<|rm h9<|rp (fun V Q U O D=>zAX (D.g 0 Z) Z e104)<|rp (fun V Q U O D=>zAI ((((zAJ (q.own 0 _ Z).2).elem e101 Z)).pin ((q.own 0 _ Z).2.2 _ (.head _)) Z) (D.g 0 Z) (D.g 1 Z) underlying27 sizeOf3 e105 Z)<|rp (fun V Q U O D=>OpF.int (zDA ((((((zAJ (O.rdo 0 _ Z Z).2).elem e101 Z)).pin ((O.rdo 0 _ Z Z).2.2 _ (.head _)) Z).elem e105 Z)) (D.g 0 Z) isAgg3 sizeOf3))<|rp (fun V Q U O D=>zAN (D.g 0 Z) Z e106)<|rp (fun V Q U O D=>zGh (D.g 0 Z) (D.g 1 Z))<|rp (fun V Q U O D=>zAI ((((zAJ (q.own 0 _ Z).2).elem e93 Z)).pin ((q.own 0 _ Z).2.2 _ (.tail _ (.tail _ (.head _)))) Z) (D.g 0 Z) (D.g 1 Z) underlying27 sizeOf3 e107 Z)<|rc (OblR.tookS 0 _ _ Z Z Z Z Z fun V Q U O D u S hok hown hav hin hop hds=>by have a0:Q 154=(vptr h94 (y23.toNat*1)):=D.g 0 Z;have a1:Q 153 = .int .i64 (min (gtD (gtD Yg74 y8) y23) ((gtD (gtD Yg74 (y8-2)) (y23-2))+1)):=D.g 1 Z;have e0:=(hin _ Z).1;rw [e0] at hown ⊢;exact zCy (((((zAJ hown.2).elem e93 Z)).pin (hown.2.2 _ (.tail _ (.tail _ (.head _)))) Z).elem e107 Z) (zAe.eq a1) a0 hav hown.1 sizeOf3 (fun _ _ _ h=>h))<|rz
 intro done ρ σ A R w y s
 obtain ⟨h0,h1,h2,h7,h8,h16⟩:=k6 s.rg h0 h1 h2 h7 h8 h16
 obtain ⟨h17,h31,h32⟩:=k3 s.rg h17 h31 h32
 have z108:=s.inivR 0 Z
 have z109:=s.on y 25 24 Z Z Z Z Z z108
 obtain ⟨S110,eS_u3⟩:∃ S,σ 25=S:=⟨_,Z⟩
 replace f_v0:=f_v0.stp s.stp
 replace f_v1:=f_v1.stp s.stp
 obtain ⟨B,j,d⟩:=s.s B C j q ⟨fun _ h=>h,N⟩
 replace q:=s.left y [(25,⟨u3,S110,trR (geB w0.heap.size) (oSl 27 (oSl 3 (oRd (eInt .i64)))) (Yg74.set y8.toNat ((gtD Yg74 y8).set y23.toNat (min (gtD (gtD Yg74 y8) y23) ((gtD (gtD Yg74 (y8-2)) (y23-2))+1)))) []⟩)] ⟨Z,Z,z109,eS_u3,Z,N⟩
 obtain ⟨Yg110,g_Yg110⟩:∃ z,z=(Yg74.set y8.toNat ((gtD Yg74 y8).set y23.toNat (min (gtD (gtD Yg74 y8) y23) ((gtD (gtD Yg74 (y8-2)) (y23-2))+1)))):=⟨_,Z⟩
 rw [← g_Yg110] at q
 try rw [← g_Yg110] at c
 obtain ⟨e112,c⟩:=zA4 c
 refine HT.u d j (eI (y23+1)::eI (y23+1)::[]) ?_ ?_
 exact op (fun Q U W H D=>zAN ((H 32 Z).trans h32) Z e112)<|ov<|oz
 intro R w m n p d j
 obtain ⟨h0,h1,h2,h7,h8,h16⟩:=k6 n h0 h1 h2 h7 h8 h16
 obtain ⟨h17,h31⟩:=k2 n h17 h31
 have h32:=p.r 1 Z
 replace f_v0:=f_v0.fr m
 replace f_v1:=f_v1.fr m
 replace q:=q.fr m
 exact ei k (And.intro (Nat.lt_succ_self k) ⟨_,_,_,S110,c,d,j,B,q,h0,h1,h2,h7,h8,h16,h17,h31,h32,f_v0,f_v1⟩)
 have c:=zAL c92 c
 refine HT.skip ?_
 obtain ⟨e113,c⟩:=zA4 c
 refine HT.u d j (eI (y23+1)::eI (y23+1)::[]) ?_ ?_
 exact op (fun Q U W H D=>zAN ((H 32 Z).trans h32) Z e113)<|ov<|oz
 intro R w m n p d j
 obtain ⟨h0,h1,h2,h7,h8,h16⟩:=k6 n h0 h1 h2 h7 h8 h16
 obtain ⟨h17,h31⟩:=k2 n h17 h31
 have h32:=p.r 1 Z
 replace f_v0:=f_v0.fr m
 replace f_v1:=f_v1.fr m
 replace q:=q.fr m
 exact ei k (And.intro (Nat.lt_succ_self k) ⟨_,_,_,S74,c,d,j,B,q,h0,h1,h2,h7,h8,h16,h17,h31,h32,f_v0,f_v1⟩)
 have c:=zAL c48 c
 refine HT.skip ?_
 refine HT.seq ?_
 obtain ⟨e114,c⟩:=zA4 c
 obtain ⟨h115,p_h115⟩:=(((zAJ (q.own 0 _ Z).2).elem e114 Z)).open1 Z
 replace q:IniOK [⟨u3,Sl_u3,trR (geB w0.heap.size) (oSl 27 (oSl 3 (oRd (eInt .i64)))) y24 [((vptr u3 (y8.toNat*1)),[h115])]⟩] A w:=q.repin 0 Z (trP.pin p_h115)
 obtain ⟨e117,e118,c⟩:=ck2 c
 obtain ⟨h119,p_h119⟩:=(((zAJ (q.own 0 _ Z).2).elem e118 Z)).open1 Z
 replace q:IniOK [⟨u3,Sl_u3,trR (geB w0.heap.size) (oSl 27 (oSl 3 (oRd (eInt .i64)))) y24 [((vptr u3 ((y8-1).toNat*1)),[h119]),((vptr u3 (y8.toNat*1)),[h115])]⟩] A w:=q.repin 0 Z (trP.pin p_h119)
 obtain ⟨e121,e122,e123,c⟩:=ck3 c
 obtain ⟨h124,p_h124⟩:=(((zAJ (q.own 0 _ Z).2).elem e123 Z)).open1 Z
 replace q:IniOK [⟨u3,Sl_u3,trR (geB w0.heap.size) (oSl 27 (oSl 3 (oRd (eInt .i64)))) y24 [((vptr u3 (y8.toNat*1)),[h124]),((vptr u3 ((y8-1).toNat*1)),[h119]),((vptr u3 (y8.toNat*1)),[h115])]⟩] A w:=q.repin 0 Z (trP.pin p_h124)
 obtain ⟨e126,e127,e128,e129,c⟩:=ck4 c
 obtain ⟨e130,c⟩:=zA4 c
 obtain ⟨h131,p_h131⟩:=(((zAJ (q.own 0 _ Z).2).elem e130 Z)).open1 Z
 replace q:IniOK [⟨u3,Sl_u3,trR (geB w0.heap.size) (oSl 27 (oSl 3 (oRd (eInt .i64)))) y24 [((vptr u3 ((y8-1).toNat*1)),[h131]),((vptr u3 (y8.toNat*1)),[h124]),((vptr u3 ((y8-1).toNat*1)),[h119]),((vptr u3 (y8.toNat*1)),[h115])]⟩] A w:=q.repin 0 Z (trP.pin p_h131)
 obtain ⟨e133,e134,e135,e136,c⟩:=ck4 c
 refine HT.drawR [⟨u3,Sl_u3,trR (geB w0.heap.size) (oSl 27 (oSl 3 (oRd (eInt .i64)))) y24 [((vptr u3 ((y8-1).toNat*1)),[h131]),((vptr u3 (y8.toNat*1)),[h124]),((vptr u3 ((y8-1).toNat*1)),[h119]),((vptr u3 (y8.toNat*1)),[h115])]⟩] (rR u3::rI y8::rR (vptr u3 (y8.toNat*1))::rR h115::rI y23::rR u3::rI y8::rI (y8-1)::rR (vptr u3 ((y8-1).toNat*1))::rR h119::rI y23::rR (vptr h119 (y23.toNat*1))::rI (gtD (gtD y24 (y8-1)) y23)::rI ((gtD (gtD y24 (y8-1)) y23)+1)::rR u3::rI y8::rR (vptr u3 (y8.toNat*1))::rR h124::rI y23::rI (y23-1)::rR (vptr h124 ((y23-1).toNat*1))::rI (gtD (gtD y24 y8) (y23-1))::rI ((gtD (gtD y24 y8) (y23-1))+1)::rR u3::rI y8::rI (y8-1)::rR (vptr u3 ((y8-1).toNat*1))::rR h131::rI y23::rI (y23-1)::rR (vptr h131 ((y23-1).toNat*1))::rI (gtD (gtD y24 (y8-1)) (y23-1))::rI 1::rI ((gtD (gtD y24 (y8-1)) (y23-1))+1)::rI (min (min ((gtD (gtD y24 (y8-1)) y23)+1) ((gtD (gtD y24 y8) (y23-1))+1)) ((gtD (gtD y24 (y8-1)) (y23-1))+1))::rR (vptr h115 (y23.toNat*1))::⟨_,true,[0],some (trR (geB w0.heap.size) (oSl 27 (oSl 3 (oRd (eInt .i64)))) (y24.set y8.toNat ((gtD y24 y8).set y23.toNat (min (min ((gtD (gtD y24 (y8-1)) y23)+1) ((gtD (gtD y24 y8) (y23-1))+1)) ((gtD (gtD y24 (y8-1)) (y23-1))+1)))) []),false,fun A=>.any⟩::[]) (by kernel_rfl) (by kernel_rfl) (by kernel_rfl) (Wf.mk' (by kernel_rfl) (ur (ur (ur (ur (ur (ur (ur (ur (ur (ur (ur (ur (ur (ur (ur (ur (ur (ur (ur (ur (ur (ur (ur (ur (ur (ur (ur (ur (ur (ur (ur (ur (ur (ur (ur (ur (ua (UAll.nil)))))))))))))))))))))))))))))))))))))) (by kernel_rfl) (by kernel_rfl)) q d ?_ ?_
 exact rm h7<|rm h8<|rp (fun V Q U O D=>zAI (zAJ (q.own 0 _ Z).2) (D.g 0 Z) (D.g 1 Z) underlying227 sizeOf27 e114 Z)<|rp (fun V Q U O D=>zB8 ((O.rdo 0 _ Z Z).2.2 _ (.tail _ (.tail _ (.tail _ (.head _))))) (D.g 0 Z) isAgg27 sizeOf27)<|rm h9<|rm h7<|rm h8<|rp (fun V Q U O D=>zAX (D.g 0 Z) Z e117)<|rp (fun V Q U O D=>zAI (zAJ (q.own 0 _ Z).2) (D.g 0 Z) (D.g 1 Z) underlying227 sizeOf27 e118 Z)<|rp (fun V Q U O D=>zB8 ((O.rdo 0 _ Z Z).2.2 _ (.tail _ (.tail _ (.head _)))) (D.g 0 Z) isAgg27 sizeOf27)<|rm h9<|rp (fun V Q U O D=>zAI ((((zAJ (q.own 0 _ Z).2).elem e118 Z)).pin ((q.own 0 _ Z).2.2 _ (.tail _ (.tail _ (.head _)))) Z) (D.g 0 Z) (D.g 1 Z) underlying27 sizeOf3 e121 Z)<|rp (fun V Q U O D=>OpF.int (zDA ((((((zAJ (O.rdo 0 _ Z Z).2).elem e118 Z)).pin ((O.rdo 0 _ Z Z).2.2 _ (.tail _ (.tail _ (.head _)))) Z).elem e121 Z)) (D.g 0 Z) isAgg3 sizeOf3))<|rp (fun V Q U O D=>zAN (D.g 0 Z) Z e122)<|rm h7<|rm h8<|rp (fun V Q U O D=>zAI (zAJ (q.own 0 _ Z).2) (D.g 0 Z) (D.g 1 Z) underlying227 sizeOf27 e123 Z)<|rp (fun V Q U O D=>zB8 ((O.rdo 0 _ Z Z).2.2 _ (.tail _ (.head _))) (D.g 0 Z) isAgg27 sizeOf27)<|rm h9<|rp (fun V Q U O D=>zAX (D.g 0 Z) Z e126)<|rp (fun V Q U O D=>zAI ((((zAJ (q.own 0 _ Z).2).elem e123 Z)).pin ((q.own 0 _ Z).2.2 _ (.tail _ (.head _))) Z) (D.g 0 Z) (D.g 1 Z) underlying27 sizeOf3 e127 Z)<|rp (fun V Q U O D=>OpF.int (zDA ((((((zAJ (O.rdo 0 _ Z Z).2).elem e123 Z)).pin ((O.rdo 0 _ Z Z).2.2 _ (.tail _ (.head _))) Z).elem e127 Z)) (D.g 0 Z) isAgg3 sizeOf3))<|rp (fun V Q U O D=>zAN (D.g 0 Z) Z e128)<|rm h7<|rm h8<|rp (fun V Q U O D=>zAX (D.g 0 Z) Z e129)<|rp (fun V Q U O D=>zAI (zAJ (q.own 0 _ Z).2) (D.g 0 Z) (D.g 1 Z) underlying227 sizeOf27 e130 Z)<|rp (fun V Q U O D=>zB8 ((O.rdo 0 _ Z Z).2.2 _ (.head _)) (D.g 0 Z) isAgg27 sizeOf27)<|rm h9<|rp (fun V Q U O D=>zAX (D.g 0 Z) Z e133)<|rp (fun V Q U O D=>zAI ((((zAJ (q.own 0 _ Z).2).elem e130 Z)).pin ((q.own 0 _ Z).2.2 _ (.head _)) Z) (D.g 0 Z) (D.g 1 Z) underlying27 sizeOf3 e134 Z)<|rp (fun V Q U O D=>OpF.int (zDA ((((((zAJ (O.rdo 0 _ Z Z).2).elem e130 Z)).pin ((O.rdo 0 _ Z Z).2.2 _ (.head _)) Z).elem e134 Z)) (D.g 0 Z) isAgg3 sizeOf3))<|rm h10<|rp (fun V Q U O D=>zAN (D.g 0 Z) (D.g 1 Z) e135)<|rp (fun V Q U O D=>zKQ (D.g 0 Z) (D.g 1 Z) (D.g 2 Z))<|rp (fun V Q U O D=>zAI ((((zAJ (q.own 0 _ Z).2).elem e114 Z)).pin ((q.own 0 _ Z).2.2 _ (.tail _ (.tail _ (.tail _ (.head _))))) Z) (D.g 0 Z) (D.g 1 Z) underlying27 sizeOf3 e136 Z)<|rc (OblR.tookS 0 _ _ Z Z Z Z Z fun V Q U O D u S hok hown hav hin hop hds=>by have a0:Q 99=(vptr h115 (y23.toNat*1)):=D.g 0 Z;have a1:Q 98 = .int .i64 (min (min ((gtD (gtD y24 (y8-1)) y23)+1) ((gtD (gtD y24 y8) (y23-1))+1)) ((gtD (gtD y24 (y8-1)) (y23-1))+1)):=D.g 1 Z;have e0:=(hin _ Z).1;rw [e0] at hown ⊢;exact zCy (((((zAJ hown.2).elem e114 Z)).pin (hown.2.2 _ (.tail _ (.tail _ (.tail _ (.head _))))) Z).elem e136 Z) (zAe.eq a1) a0 hav hown.1 sizeOf3 (fun _ _ _ h=>h))<|rz
 intro done ρ σ A R w y s
 obtain ⟨h0,h1,h2,h7,h8,h9⟩:=k6 s.rg h0 h1 h2 h7 h8 h9
 obtain ⟨h16,h17,h31,h32⟩:=k4 s.rg h16 h17 h31 h32
 have z137:=s.inivR 0 Z
 have z138:=s.on y 37 36 Z Z Z Z Z z137
 obtain ⟨S139,eS_u3⟩:∃ S,σ 37=S:=⟨_,Z⟩
 replace f_v0:=f_v0.stp s.stp
 replace f_v1:=f_v1.stp s.stp
 obtain ⟨B,j,d⟩:=s.s B C j q ⟨fun _ h=>h,N⟩
 replace q:=s.left y [(37,⟨u3,S139,trR (geB w0.heap.size) (oSl 27 (oSl 3 (oRd (eInt .i64)))) (y24.set y8.toNat ((gtD y24 y8).set y23.toNat (min (min ((gtD (gtD y24 (y8-1)) y23)+1) ((gtD (gtD y24 y8) (y23-1))+1)) ((gtD (gtD y24 (y8-1)) (y23-1))+1)))) []⟩)] ⟨Z,Z,z138,eS_u3,Z,N⟩
 obtain ⟨Yg139,g_Yg139⟩:∃ z,z=(y24.set y8.toNat ((gtD y24 y8).set y23.toNat (min (min ((gtD (gtD y24 (y8-1)) y23)+1) ((gtD (gtD y24 y8) (y23-1))+1)) ((gtD (gtD y24 (y8-1)) (y23-1))+1)))):=⟨_,Z⟩
 rw [← g_Yg139] at q
 try rw [← g_Yg139] at c
 refine HT.seq ?_
 obtain ⟨x141,q142,c⟩:=zAB c
 obtain ⟨x143,q144,c⟩:=zAB c
 obtain ⟨e145,e146,e147,e148,c⟩:=ck4 c
 obtain ⟨x149,q150,c⟩:=zAB c
 obtain ⟨e151,e152,e153,e154,c⟩:=ck4 c
 obtain ⟨x155,q156,c⟩:=zAB c
 refine HT.draw (by kernel_rfl) (l:=eB p2::eB p2::gI (true&&(p2==true)) y8::gB (true&&(p2==true)) (decide (1<y8))::eB x141::eB x141::gI (true&&(x141==true)) y23::gB (true&&(x141==true)) (decide (1<y23))::eB x143::eB x143::gR (true&&(x143==true)) v0::gI (true&&(x143==true)) y8::gI (true&&(x143==true)) (y8-1)::gU (true&&(x143==true)) (bAt p0 (y8-1))::gR (true&&(x143==true)) v1::gI (true&&(x143==true)) y23::gI (true&&(x143==true)) (y23-2)::gU (true&&(x143==true)) (bAt p1 (y23-2))::gB (true&&(x143==true)) ((bAt p0 (y8-1))==(bAt p1 (y23-2)))::eB x149::eB x149::gR (true&&(x149==true)) v0::gI (true&&(x149==true)) y8::gI (true&&(x149==true)) (y8-2)::gU (true&&(x149==true)) (bAt p0 (y8-2))::gR (true&&(x149==true)) v1::gI (true&&(x149==true)) y23::gI (true&&(x149==true)) (y23-1)::gU (true&&(x149==true)) (bAt p1 (y23-1))::gB (true&&(x149==true)) ((bAt p0 (y8-2))==(bAt p1 (y23-1)))::eB x155::[]) (tl:=[]) (by kernel_rfl) (by kernel_rfl) (by kernel_rfl) (by kernel_rfl) ?_ ?_
 exact om h2<|ov<|gm 1 true h8<|og 1 true (fun G Q U W H D=>zCM (D.h 0 G Z) Z)<|op (fun Q U W H D=>zAC p2 (D.g 0 Z) (fun hc=>by have a1:Q 103 = .bool (decide (1<y8)):=D 1 _ _ _ Z Z Z Z (zAZ Z (zAM hc));show _=Value.bool x141;rw [q142,hc];exact a1) (fun hc=>by show _=Value.bool x141;rw [q142,hc];exact Z))<|ov<|gm 5 true h9<|og 5 true (fun G Q U W H D=>zCM (D.h 0 G Z) Z)<|op (fun Q U W H D=>zAC x141 (D.g 0 Z) (fun hc=>by have a1:Q 107 = .bool (decide (1<y23)):=D 1 _ _ _ Z Z Z Z (zAZ Z (zAM hc));show _=Value.bool x143;rw [q144,hc];exact a1) (fun hc=>by show _=Value.bool x143;rw [q144,hc];exact Z))<|ov<|gm 9 true h0<|gm 9 true h8<|og 9 true (fun G Q U W H D=>zAX (D.h 0 G Z) Z (gd e145 G))<|og 9 true (fun G Q U W H D=>zA8 ((f_v0.fr W).eq (D.h 0 G Z)) (D.h 1 G Z) underlying9 (gd e146 G))<|gm 9 true h1<|gm 9 true h9<|og 9 true (fun G Q U W H D=>zAX (D.h 0 G Z) Z (gd e147 G))<|og 9 true (fun G Q U W H D=>zA8 ((f_v1.fr W).eq (D.h 0 G Z)) (D.h 1 G Z) underlying9 (gd e148 G))<|og 9 true (fun G Q U W H D=>zBA (D.h 0 G Z) (D.h 1 G Z))<|op (fun Q U W H D=>zAC x143 (D.g 0 Z) (fun hc=>by have a1:Q 118 = .bool ((bAt p0 (y8-1))==(bAt p1 (y23-2))):=D 1 _ _ _ Z Z Z Z (zAZ Z (zAM hc));show _=Value.bool x149;rw [q150,hc];exact a1) (fun hc=>by show _=Value.bool x149;rw [q150,hc];exact Z))<|ov<|gm 20 true h0<|gm 20 true h8<|og 20 true (fun G Q U W H D=>zAX (D.h 0 G Z) Z (gd e151 G))<|og 20 true (fun G Q U W H D=>zA8 ((f_v0.fr W).eq (D.h 0 G Z)) (D.h 1 G Z) underlying9 (gd e152 G))<|gm 20 true h1<|gm 20 true h9<|og 20 true (fun G Q U W H D=>zAX (D.h 0 G Z) Z (gd e153 G))<|og 20 true (fun G Q U W H D=>zA8 ((f_v1.fr W).eq (D.h 0 G Z)) (D.h 1 G Z) underlying9 (gd e154 G))<|og 20 true (fun G Q U W H D=>zBA (D.h 0 G Z) (D.h 1 G Z))<|op (fun Q U W H D=>zAC x149 (D.g 0 Z) (fun hc=>by have a1:Q 129 = .bool ((bAt p0 (y8-2))==(bAt p1 (y23-1))):=D 1 _ _ _ Z Z Z Z (zAZ Z (zAM hc));show _=Value.bool x155;rw [q156,hc];exact a1) (fun hc=>by show _=Value.bool x155;rw [q156,hc];exact Z))<|oz
 intro R w m n p
 obtain ⟨h0,h1,h2,h7,h8,h9⟩:=k6 n h0 h1 h2 h7 h8 h9
 obtain ⟨h16,h17,h31,h32⟩:=k4 n h16 h17 h31 h32
 have h130:=p.r 30 Z
 replace f_v0:=f_v0.fr m
 replace f_v1:=f_v1.fr m
 replace q:=q.fr m
 replace d:=d.fr m.size
 replace j:=j.trans m
 refine HT.cond x155 h130 (fun c157=>?_) (fun c157=>?_)
 have c:=zAK c157 c
 obtain ⟨e158,c⟩:=zA4 c
 obtain ⟨h159,p_h159⟩:=(((zAJ (q.own 0 _ Z).2).elem e158 Z)).open1 Z
 replace q:IniOK [⟨u3,S139,trR (geB w0.heap.size) (oSl 27 (oSl 3 (oRd (eInt .i64)))) Yg139 [((vptr u3 (y8.toNat*1)),[h159])]⟩] A w:=q.repin 0 Z (trP.pin p_h159)
 obtain ⟨e161,c⟩:=zA4 c
 obtain ⟨h162,p_h162⟩:=(((zAJ (q.own 0 _ Z).2).elem e161 Z)).open1 Z
 replace q:IniOK [⟨u3,S139,trR (geB w0.heap.size) (oSl 27 (oSl 3 (oRd (eInt .i64)))) Yg139 [((vptr u3 (y8.toNat*1)),[h162]),((vptr u3 (y8.toNat*1)),[h159])]⟩] A w:=q.repin 0 Z (trP.pin p_h162)
 obtain ⟨e164,e165,e166,c⟩:=ck3 c
 obtain ⟨h167,p_h167⟩:=(((zAJ (q.own 0 _ Z).2).elem e166 Z)).open1 Z
 replace q:IniOK [⟨u3,S139,trR (geB w0.heap.size) (oSl 27 (oSl 3 (oRd (eInt .i64)))) Yg139 [((vptr u3 ((y8-2).toNat*1)),[h167]),((vptr u3 (y8.toNat*1)),[h162]),((vptr u3 (y8.toNat*1)),[h159])]⟩] A w:=q.repin 0 Z (trP.pin p_h167)
 obtain ⟨e169,e170,e171,e172,c⟩:=ck4 c
 refine HT.drawR [⟨u3,S139,trR (geB w0.heap.size) (oSl 27 (oSl 3 (oRd (eInt .i64)))) Yg139 [((vptr u3 ((y8-2).toNat*1)),[h167]),((vptr u3 (y8.toNat*1)),[h162]),((vptr u3 (y8.toNat*1)),[h159])]⟩] (rR u3::rI y8::rR (vptr u3 (y8.toNat*1))::rR h159::rI y23::rR u3::rI y8::rR (vptr u3 (y8.toNat*1))::rR h162::rI y23::rR (vptr h162 (y23.toNat*1))::rI (gtD (gtD Yg139 y8) y23)::rR u3::rI y8::rI (y8-2)::rR (vptr u3 ((y8-2).toNat*1))::rR h167::rI y23::rI (y23-2)::rR (vptr h167 ((y23-2).toNat*1))::rI (gtD (gtD Yg139 (y8-2)) (y23-2))::rI ((gtD (gtD Yg139 (y8-2)) (y23-2))+1)::rI (min (gtD (gtD Yg139 y8) y23) ((gtD (gtD Yg139 (y8-2)) (y23-2))+1))::rR (vptr h159 (y23.toNat*1))::⟨_,true,[0],some (trR (geB w0.heap.size) (oSl 27 (oSl 3 (oRd (eInt .i64)))) (Yg139.set y8.toNat ((gtD Yg139 y8).set y23.toNat (min (gtD (gtD Yg139 y8) y23) ((gtD (gtD Yg139 (y8-2)) (y23-2))+1)))) []),false,fun A=>.any⟩::[]) (by kernel_rfl) (by kernel_rfl) (by kernel_rfl) (Wf.mk' (by kernel_rfl) (ur (ur (ur (ur (ur (ur (ur (ur (ur (ur (ur (ur (ur (ur (ur (ur (ur (ur (ur (ur (ur (ur (ur (ur (ua (UAll.nil)))))))))))))))))))))))))) (by kernel_rfl) (by kernel_rfl)) q d ?_ ?_
 exact rm h7<|rm h8<|rp (fun V Q U O D=>zAI (zAJ (q.own 0 _ Z).2) (D.g 0 Z) (D.g 1 Z) underlying227 sizeOf27 e158 Z)<|rp (fun V Q U O D=>zB8 ((O.rdo 0 _ Z Z).2.2 _ (.tail _ (.tail _ (.head _)))) (D.g 0 Z) isAgg27 sizeOf27)<|rm h9<|rm h7<|rm h8<|rp (fun V Q U O D=>zAI (zAJ (q.own 0 _ Z).2) (D.g 0 Z) (D.g 1 Z) underlying227 sizeOf27 e161 Z)<|rp (fun V Q U O D=>zB8 ((O.rdo 0 _ Z Z).2.2 _ (.tail _ (.head _))) (D.g 0 Z) isAgg27 sizeOf27)<|rm h9<|rp (fun V Q U O D=>zAI ((((zAJ (q.own 0 _ Z).2).elem e161 Z)).pin ((q.own 0 _ Z).2.2 _ (.tail _ (.head _))) Z) (D.g 0 Z) (D.g 1 Z) underlying27 sizeOf3 e164 Z)<|rp (fun V Q U O D=>OpF.int (zDA ((((((zAJ (O.rdo 0 _ Z Z).2).elem e161 Z)).pin ((O.rdo 0 _ Z Z).2.2 _ (.tail _ (.head _))) Z).elem e164 Z)) (D.g 0 Z) isAgg3 sizeOf3))<|rm h7<|rm h8<|rp (fun V Q U O D=>zAX (D.g 0 Z) Z e165)<|rp (fun V Q U O D=>zAI (zAJ (q.own 0 _ Z).2) (D.g 0 Z) (D.g 1 Z) underlying227 sizeOf27 e166 Z)<|rp (fun V Q U O D=>zB8 ((O.rdo 0 _ Z Z).2.2 _ (.head _)) (D.g 0 Z) isAgg27 sizeOf27)<|rm h9<|rp (fun V Q U O D=>zAX (D.g 0 Z) Z e169)<|rp (fun V Q U O D=>zAI ((((zAJ (q.own 0 _ Z).2).elem e166 Z)).pin ((q.own 0 _ Z).2.2 _ (.head _)) Z) (D.g 0 Z) (D.g 1 Z) underlying27 sizeOf3 e170 Z)<|rp (fun V Q U O D=>OpF.int (zDA ((((((zAJ (O.rdo 0 _ Z Z).2).elem e166 Z)).pin ((O.rdo 0 _ Z Z).2.2 _ (.head _)) Z).elem e170 Z)) (D.g 0 Z) isAgg3 sizeOf3))<|rp (fun V Q U O D=>zAN (D.g 0 Z) Z e171)<|rp (fun V Q U O D=>zGh (D.g 0 Z) (D.g 1 Z))<|rp (fun V Q U O D=>zAI ((((zAJ (q.own 0 _ Z).2).elem e158 Z)).pin ((q.own 0 _ Z).2.2 _ (.tail _ (.tail _ (.head _)))) Z) (D.g 0 Z) (D.g 1 Z) underlying27 sizeOf3 e172 Z)<|rc (OblR.tookS 0 _ _ Z Z Z Z Z fun V Q U O D u S hok hown hav hin hop hds=>by have a0:Q 154=(vptr h159 (y23.toNat*1)):=D.g 0 Z;have a1:Q 153 = .int .i64 (min (gtD (gtD Yg139 y8) y23) ((gtD (gtD Yg139 (y8-2)) (y23-2))+1)):=D.g 1 Z;have e0:=(hin _ Z).1;rw [e0] at hown ⊢;exact zCy (((((zAJ hown.2).elem e158 Z)).pin (hown.2.2 _ (.tail _ (.tail _ (.head _)))) Z).elem e172 Z) (zAe.eq a1) a0 hav hown.1 sizeOf3 (fun _ _ _ h=>h))<|rz
 intro done ρ σ A R w y s
 obtain ⟨h0,h1,h2,h7,h8,h16⟩:=k6 s.rg h0 h1 h2 h7 h8 h16
 obtain ⟨h17,h31,h32⟩:=k3 s.rg h17 h31 h32
 have z173:=s.inivR 0 Z
 have z174:=s.on y 25 24 Z Z Z Z Z z173
 obtain ⟨S175,eS_u3⟩:∃ S,σ 25=S:=⟨_,Z⟩
 replace f_v0:=f_v0.stp s.stp
 replace f_v1:=f_v1.stp s.stp
 obtain ⟨B,j,d⟩:=s.s B C j q ⟨fun _ h=>h,N⟩
 replace q:=s.left y [(25,⟨u3,S175,trR (geB w0.heap.size) (oSl 27 (oSl 3 (oRd (eInt .i64)))) (Yg139.set y8.toNat ((gtD Yg139 y8).set y23.toNat (min (gtD (gtD Yg139 y8) y23) ((gtD (gtD Yg139 (y8-2)) (y23-2))+1)))) []⟩)] ⟨Z,Z,z174,eS_u3,Z,N⟩
 obtain ⟨Yg175,g_Yg175⟩:∃ z,z=(Yg139.set y8.toNat ((gtD Yg139 y8).set y23.toNat (min (gtD (gtD Yg139 y8) y23) ((gtD (gtD Yg139 (y8-2)) (y23-2))+1)))):=⟨_,Z⟩
 rw [← g_Yg175] at q
 try rw [← g_Yg175] at c
 obtain ⟨e177,c⟩:=zA4 c
 refine HT.u d j (eI (y23+1)::eI (y23+1)::[]) ?_ ?_
 exact op (fun Q U W H D=>zAN ((H 32 Z).trans h32) Z e177)<|ov<|oz
 intro R w m n p d j
 obtain ⟨h0,h1,h2,h7,h8,h16⟩:=k6 n h0 h1 h2 h7 h8 h16
 obtain ⟨h17,h31⟩:=k2 n h17 h31
 have h32:=p.r 1 Z
 replace f_v0:=f_v0.fr m
 replace f_v1:=f_v1.fr m
 replace q:=q.fr m
 exact ei k (And.intro (Nat.lt_succ_self k) ⟨_,_,_,S175,c,d,j,B,q,h0,h1,h2,h7,h8,h16,h17,h31,h32,f_v0,f_v1⟩)
 have c:=zAL c157 c
 refine HT.skip ?_
 obtain ⟨e178,c⟩:=zA4 c
 refine HT.u d j (eI (y23+1)::eI (y23+1)::[]) ?_ ?_
 exact op (fun Q U W H D=>zAN ((H 32 Z).trans h32) Z e178)<|ov<|oz
 intro R w m n p d j
 obtain ⟨h0,h1,h2,h7,h8,h16⟩:=k6 n h0 h1 h2 h7 h8 h16
 obtain ⟨h17,h31⟩:=k2 n h17 h31
 have h32:=p.r 1 Z
 replace f_v0:=f_v0.fr m
 replace f_v1:=f_v1.fr m
 replace q:=q.fr m
 exact ei k (And.intro (Nat.lt_succ_self k) ⟨_,_,_,S139,c,d,j,B,q,h0,h1,h2,h7,h8,h16,h17,h31,h32,f_v0,f_v1⟩)
 have c:=zAL c25 c
 refine HT.exit ?_
 obtain rfl:=si c
 exact ei _ ⟨_,Sl_u3,Z,d,j,B,q,h0,h1,h2,h7,h16,h17,f_v0,f_v1⟩
 rintro R w ⟨A,s22,So_u3,es,d,j,B,q,h0,h1,h2,h7,h16,h17,f_v0,f_v1⟩
 obtain rfl:=es.symm
 obtain ⟨e179,c⟩:=zA4 c
 refine HT.u d j (eI (y8+1)::eI (y8+1)::[]) ?_ ?_
 exact op (fun Q U W H D=>zAN ((H 17 Z).trans h17) Z e179)<|ov<|oz
 intro R w m n p d j
 obtain ⟨h0,h1,h2,h7,h16⟩:=k5 n h0 h1 h2 h7 h16
 have h17:=p.r 1 Z
 replace f_v0:=f_v0.fr m
 replace f_v1:=f_v1.fr m
 replace q:=q.fr m
 exact ei k (And.intro (Nat.lt_succ_self k) ⟨_,_,_,So_u3,c,d,j,B,q,h0,h1,h2,h7,h16,h17,f_v0,f_v1⟩)
 have c:=zAL c10 c
 refine HT.exit ?_
 obtain rfl:=si c
 exact ei _ ⟨_,Sl_u3,Z,d,j,B,q,h7⟩
 rintro R w ⟨A,s7,So_u3,es,d,j,B,q,h7⟩
 obtain rfl:=es.symm
 refine HT.sx [⟨u3,So_u3,trR (geB w0.heap.size) (oSl 27 (oSl 3 (oRd (eInt .i64)))) s7 []⟩] (rR u3::rR u3::[]) (ur (ur (UAll.nil))) q d ?_ ?_
 exact rm h7<|ra<|rz
 intro done ρ σ A R w y s
 have z180:=s.inivR 0 Z
 have eS_u3:=s.inisR 0 Z
 have h6:=s.r y 1 Z
 obtain ⟨B,j,d⟩:=s.s B C j q ⟨fun _ h=>h,N⟩
 replace q:=s.left y [(0,⟨u3,So_u3,trR (geB w0.heap.size) (oSl 27 (oSl 3 (oRd (eInt .i64)))) s7 []⟩)] ⟨Z,Z,z180,eS_u3,Z,N⟩
 refine HT.ret ?_
 obtain rfl:=si c
 exact ⟨.inr Z,[R 6],⟨Z,N⟩,zN0 Z (q.own 0 _ Z) (q.ok 0 _ Z).2 B j h6 N⟩
theorem zGL {fu : Nat} {A0 : Av} {p0 : List UInt8} {p1 : List UInt8} {p2 : Bool} {r : List (List Int)} (c : zCX fu p0 p1 p2 = some r) {w : World} {v0 : Value} {v1 : Value} {v2 : Value} (d : AvOK A0 w) (h0 : Rep eStr A0 w v0 p0) (h1 : Rep eStr A0 w v1 p1) (h2 : v2 = .bool p2) :
 Calls prog 319 #[v0,v1,v2] w fun e w'=>∃ v,e = .returned v∧(Rep (eSl (eSl (eInt .i64))) A0 w' v r∧Fr w w'):=by
 refine Calls.mono (zGX c d h0 h1 h2) ?_
 rintro e w' ⟨v,he,h⟩
 exact ⟨v,he,zJn h d⟩
def zE2 (fu:Nat) (p0:List UInt8) (p1:List UInt8) (p2:Bool):Option Int:=
 bd ((decide (40<(p0.length:Int))) || (decide (40<(p1.length:Int)))) fun x1=>
 bif x1 then (
 some (-1)
 ) else (
 cl true (zCX fu p0 p1 p2) fun x4=>
 ck (inR (p0.length:Int) x4.length) <|
 ck (inR (p1.length:Int) (gtD x4 (p0.length:Int)).length) <|
 some (gtD (gtD x4 (p0.length:Int)) (p1.length:Int))
 )
theorem zGx {fu : Nat} {A : Av} {p0 : List UInt8} {p1 : List UInt8} {p2 : Bool} {r : Int} (c : zE2 fu p0 p1 p2 = some r) {w : World} {v0 : Value} {v1 : Value} {v2 : Value} (d : AvOK A w) (h0 : Rep eStr A w v0 p0) (h1 : Rep eStr A w v1 p1) (h2 : v2 = .bool p2) :
 Calls prog 299 #[v0,v1,v2] w fun e w'=>∃ v,e = .returned v∧(v = .int .i64 r∧Fr w w'):=by
 unfold zE2 at c
 obtain ⟨w0,hw0⟩:∃ w0,w0=w:=⟨_,Z⟩
 have j:Fr w0 w:=hw0 ▸ Fr.refl _
 rw [show Fr w=Fr w0 from hw0 ▸ Z]
 clear hw0
 refine zA2 [.tmp 6] func299 ntmps299 (by decide) Z Z (nb Z) ?_
 intro R hR
 have f_v0:=h0
 replace h0:R 0=v0:=hR 0 _ Z
 have f_v1:=h1
 replace h1:R 1=v1:=hR 1 _ Z
 replace h2:R 2 = .bool p2:=(hR 2 _ Z).trans h2
 clear hR
 refine HT.su d j (eI 0::[]) ?_ ?_
 exact op (fun Q U W H D=>zA0 Z)<|oz
 intro R w m n p d j
 obtain ⟨h0,h1,h2⟩:=k3 n h0 h1 h2
 replace f_v0:=f_v0.fr m
 replace f_v1:=f_v1.fr m
 refine HT.seq ?_
 refine HT.seq ?_
 obtain ⟨x1,q2,c⟩:=zAB c
 refine HT.u d j (eR v0::eI (p0.length:Int)::eB (decide (40<(p0.length:Int)))::eB (decide (40<(p0.length:Int)))::gR (true&&((decide (40<(p0.length:Int)))==false)) v1::gI (true&&((decide (40<(p0.length:Int)))==false)) (p1.length:Int)::gB (true&&((decide (40<(p0.length:Int)))==false)) (decide (40<(p1.length:Int)))::eB x1::[]) ?_ ?_
 exact om h0<|op (fun Q U W H D=>zAG ((f_v0.fr W).eq (D.g 0 Z)) underlying9)<|op (fun Q U W H D=>zCM (D.g 0 Z) Z)<|ov<|gm 3 false h1<|og 3 false (fun G Q U W H D=>zAG ((f_v1.fr W).eq (D.h 0 G Z)) underlying9)<|og 3 false (fun G Q U W H D=>zCM (D.h 0 G Z) Z)<|op (fun Q U W H D=>zAC (decide (40<(p0.length:Int))) (D.g 0 Z) (fun hc=>by show _=Value.bool x1;rw [q2,hc];exact Z) (fun hc=>by have a2:Q 13 = .bool (decide (40<(p1.length:Int))):=D 1 _ _ _ Z Z Z Z (zAZ Z (zAM hc));show _=Value.bool x1;rw [q2,hc];exact a2))<|oz
 intro R w m n p d j
 obtain ⟨h0,h1,h2⟩:=k3 n h0 h1 h2
 have h14:=p.r 7 Z
 replace f_v0:=f_v0.fr m
 replace f_v1:=f_v1.fr m
 refine HT.cond x1 h14 (fun c3=>?_) (fun c3=>?_)
 have c:=zAK c3 c
 refine HT.su d j (eI (-1)::[]) ?_ ?_
 exact op (fun Q U W H D=>zA0 Z)<|oz
 intro R w m n p d j
 have h6:=p.r 0 Z
 refine HT.ret ?_
 obtain rfl:=si c
 exact ⟨.inr Z,[R 6],⟨Z,N⟩,h6,j⟩
 have c:=zAL c3 c
 refine HT.skip ?_
 obtain ⟨x4,q5,c⟩:=zA3 c
 obtain ⟨e6,e7,c⟩:=ck2 c
 refine HT.su d j (eR v0::eR v1::eB p2::eF (.rep (eSl (eSl (eInt .i64))) A x4)::eR v0::eI (p0.length:Int)::eF (.qtr (eSl (eInt .i64)) A (gtD x4 (p0.length:Int)))::eF (.rep (eSl (eInt .i64)) A (gtD x4 (p0.length:Int)))::eR v1::eI (p1.length:Int)::eF (.qtr (eInt .i64) A (gtD (gtD x4 (p0.length:Int)) (p1.length:Int)))::eI (gtD (gtD x4 (p0.length:Int)) (p1.length:Int))::eI (gtD (gtD x4 (p0.length:Int)) (p1.length:Int))::[]) ?_ ?_
 exact om h0<|om h1<|om h2<|op (fun Q U W H D=>zA6 call319 (zGL (q5 Z) (d.fr W.size) ((f_v0.fr W).eq (D.g 0 Z)) ((f_v1.fr W).eq (D.g 1 Z)) (D.g 2 Z)))<|om h0<|op (fun Q U W H D=>zAG ((f_v0.fr W).eq (D.g 0 Z)) underlying9)<|op (fun Q U W H D=>zA7 (D.g 0 Z) (D.g 1 Z) underlying227 sizeOf27 e6)<|op (fun Q U W H D=>(zAQ (QRep.ptr (D.g 0 Z)) isAgg27 sizeOf27))<|om h1<|op (fun Q U W H D=>zAG ((f_v1.fr W).eq (D.g 0 Z)) underlying9)<|op (fun Q U W H D=>zA7 (D.g 0 Z) (D.g 1 Z) underlying27 sizeOf3 e7)<|op (fun Q U W H D=>OpF.int (zAQ (QRep.ptr (D.g 0 Z)) isAgg3 sizeOf3))<|oa<|oz
 intro R w m n p d j
 have h6:=p.r 12 Z
 refine HT.ret ?_
 obtain rfl:=si c
 exact ⟨.inr Z,[R 6],⟨Z,N⟩,h6,j⟩
def zCK (fu:Nat) (p0:List UInt8) (p1:List UInt8):Option Int:=
 cl true (zE2 fu p0 p1 false) fun x1=>
 some x1
theorem zFp {fu : Nat} {A : Av} {p0 : List UInt8} {p1 : List UInt8} {r : Int} (c : zCK fu p0 p1 = some r) {w : World} {v0 : Value} {v1 : Value} (d : AvOK A w) (h0 : Rep eStr A w v0 p0) (h1 : Rep eStr A w v1 p1) :
 Calls prog 263 #[v0,v1] w fun e w'=>∃ v,e = .returned v∧(v = .int .i64 r∧Fr w w'):=by
 unfold zCK at c
 obtain ⟨w0,hw0⟩:∃ w0,w0=w:=⟨_,Z⟩
 have j:Fr w0 w:=hw0 ▸ Fr.refl _
 rw [show Fr w=Fr w0 from hw0 ▸ Z]
 clear hw0
 refine zA2 [.tmp 4] func263 ntmps263 (by decide) Z Z (nb Z) ?_
 intro R hR
 have f_v0:=h0
 replace h0:R 0=v0:=hR 0 _ Z
 have f_v1:=h1
 replace h1:R 1=v1:=hR 1 _ Z
 clear hR
 refine HT.su d j (eI 0::[]) ?_ ?_
 exact op (fun Q U W H D=>zA0 Z)<|oz
 intro R w m n p d j
 obtain ⟨h0,h1⟩:=k2 n h0 h1
 replace f_v0:=f_v0.fr m
 replace f_v1:=f_v1.fr m
 obtain ⟨x1,q2,c⟩:=zA3 c
 refine HT.su d j (eR v0::eR v1::eI x1::eI x1::[]) ?_ ?_
 exact om h0<|om h1<|op (fun Q U W H D=>zA6 call299 (zGx (q2 Z) (d.fr W.size) ((f_v0.fr W).eq (D.g 0 Z)) ((f_v1.fr W).eq (D.g 1 Z)) Z))<|oa<|oz
 intro R w m n p d j
 have h4:=p.r 3 Z
 refine HT.ret ?_
 obtain rfl:=si c
 exact ⟨.inr Z,[R 4],⟨Z,N⟩,h4,j⟩
def zDk (fu:Nat) (p0:List UInt8) (p1:List UInt8):Option Int:=
 cl true (zCK fu p0 p1) fun x1=>
 bif (decide (x1<0)) then (
 some 0
 ) else (
 bif ((max (p0.length:Int) (p1.length:Int))==0) then (
 some 1000
 ) else (
 ck (i64B ((max (p0.length:Int) (p1.length:Int))-x1)) <|
 ck (i64B (1000*((max (p0.length:Int) (p1.length:Int))-x1))) <|
 ck ((max (p0.length:Int) (p1.length:Int)) != 0) <|
 ck (i64B ((1000*((max (p0.length:Int) (p1.length:Int))-x1)).tdiv (max (p0.length:Int) (p1.length:Int)))) <|
 some ((1000*((max (p0.length:Int) (p1.length:Int))-x1)).tdiv (max (p0.length:Int) (p1.length:Int)))
 )
 )
theorem zGl {fu : Nat} {A : Av} {p0 : List UInt8} {p1 : List UInt8} {r : Int} (c : zDk fu p0 p1 = some r) {w : World} {v0 : Value} {v1 : Value} (d : AvOK A w) (h0 : Rep eStr A w v0 p0) (h1 : Rep eStr A w v1 p1) :
 Calls prog 223 #[v0,v1] w fun e w'=>∃ v,e = .returned v∧(v = .int .i64 r∧Fr w w'):=by
 unfold zDk at c
 obtain ⟨w0,hw0⟩:∃ w0,w0=w:=⟨_,Z⟩
 have j:Fr w0 w:=hw0 ▸ Fr.refl _
 rw [show Fr w=Fr w0 from hw0 ▸ Z]
 clear hw0
 refine zA2 [.tmp 4] func223 ntmps223 (by decide) Z Z (nb Z) ?_
 intro R hR
 have f_v0:=h0
 replace h0:R 0=v0:=hR 0 _ Z
 have f_v1:=h1
 replace h1:R 1=v1:=hR 1 _ Z
 clear hR
 refine HT.su d j (eI 0::[]) ?_ ?_
 exact op (fun Q U W H D=>zA0 Z)<|oz
 intro R w m n p d j
 obtain ⟨h0,h1⟩:=k2 n h0 h1
 replace f_v0:=f_v0.fr m
 replace f_v1:=f_v1.fr m
 obtain ⟨x1,q2,c⟩:=zA3 c
 refine HT.su d j (eR v0::eR v1::eI x1::eR v0::eI (p0.length:Int)::eR v1::eI (p1.length:Int)::eI (max (p0.length:Int) (p1.length:Int))::eI x1::eI (max (p0.length:Int) (p1.length:Int))::[]) ?_ ?_
 exact om h0<|om h1<|op (fun Q U W H D=>zA6 call263 (zFp (q2 Z) (d.fr W.size) ((f_v0.fr W).eq (D.g 0 Z)) ((f_v1.fr W).eq (D.g 1 Z))))<|om h0<|op (fun Q U W H D=>zAG ((f_v0.fr W).eq (D.g 0 Z)) underlying9)<|om h1<|op (fun Q U W H D=>zAG ((f_v1.fr W).eq (D.g 0 Z)) underlying9)<|op (fun Q U W H D=>zIK (D.g 0 Z) (D.g 1 Z))<|oa<|oa<|oz
 intro R w m n p d j
 have h5:=p.r 8 Z
 have h6:=p.r 9 Z
 refine HT.seq ?_
 refine HT.block ?_
 refine HT.su d j (eI x1::eB (decide (x1<0))::eB (decide (x1<0))::[]) ?_ ?_
 exact om h5<|op (fun Q U W H D=>zAf (D.g 0 Z) Z)<|oa<|oz
 intro R w m n p d j
 obtain ⟨h5,h6⟩:=k2 n h5 h6
 have h15:=p.r 2 Z
 refine HT.cond (decide (x1<0)) h15 (fun c3=>?_) (fun c3=>?_)
 have c:=zAK c3 c
 refine HT.su d j (eI 0::[]) ?_ ?_
 exact op (fun Q U W H D=>zA0 Z)<|oz
 intro R w m n p d j
 have h4:=p.r 0 Z
 refine HT.ret ?_
 obtain rfl:=si c
 exact ⟨.inr Z,[R 4],⟨Z,N⟩,h4,j⟩
 have c:=zAL c3 c
 refine HT.su d j (eI (max (p0.length:Int) (p1.length:Int))::eB ((max (p0.length:Int) (p1.length:Int))==0)::eB ((max (p0.length:Int) (p1.length:Int))==0)::[]) ?_ ?_
 exact om h6<|op (fun Q U W H D=>zBA (D.g 0 Z) Z)<|oa<|oz
 intro R w m n p d j
 obtain ⟨h5,h6⟩:=k2 n h5 h6
 have h18:=p.r 2 Z
 refine HT.cond ((max (p0.length:Int) (p1.length:Int))==0) h18 (fun c4=>?_) (fun c4=>?_)
 have c:=zAK c4 c
 refine HT.su d j (eI 1000::[]) ?_ ?_
 exact op (fun Q U W H D=>zA0 Z)<|oz
 intro R w m n p d j
 have h4:=p.r 0 Z
 refine HT.ret ?_
 obtain rfl:=si c
 exact ⟨.inr Z,[R 4],⟨Z,N⟩,h4,j⟩
 have c:=zAL c4 c
 refine HT.skip ?_
 obtain ⟨e5,e6,e7,e8,c⟩:=ck4 c
 refine HT.su d j (eI (max (p0.length:Int) (p1.length:Int))::eI x1::eI ((max (p0.length:Int) (p1.length:Int))-x1)::eI (1000*((max (p0.length:Int) (p1.length:Int))-x1))::eI (max (p0.length:Int) (p1.length:Int))::eI ((1000*((max (p0.length:Int) (p1.length:Int))-x1)).tdiv (max (p0.length:Int) (p1.length:Int)))::eI ((1000*((max (p0.length:Int) (p1.length:Int))-x1)).tdiv (max (p0.length:Int) (p1.length:Int)))::[]) ?_ ?_
 exact om h6<|om h5<|op (fun Q U W H D=>zAX (D.g 0 Z) (D.g 1 Z) e5)<|op (fun Q U W H D=>zHq Z (D.g 0 Z) e6)<|om h6<|op (fun Q U W H D=>zH0 (D.g 0 Z) (D.g 1 Z) e7 e8)<|oa<|oz
 intro R w m n p d j
 have h4:=p.r 6 Z
 refine HT.ret ?_
 obtain rfl:=si c
 exact ⟨.inr Z,[R 4],⟨Z,N⟩,h4,j⟩
def zCY (fu:Nat) (p0:List UInt8) (p1:List UInt8):Option Int:=
 cl true (zC2 fu p0) fun x1=>
 cl true (zC2 fu p1) fun x3=>
 bd ((x1==([]:List UInt8)) || (x3==([]:List UInt8))) fun x7=>
 bif x7 then (
 some 0
 ) else (
 cl true (zDk fu x1 x3) fun x10=>
 some x10
 )
theorem zEu {fu : Nat} {A : Av} {p0 : List UInt8} {p1 : List UInt8} {r : Int} (c : zCY fu p0 p1 = some r) {w : World} {v0 : Value} {v1 : Value} (d : AvOK A w) (hG : GTab w) (h0 : Rep eStr A w v0 p0) (h1 : Rep eStr A w v1 p1) :
 Calls prog 180 #[v0,v1] w fun e w'=>∃ v,e = .returned v∧(v = .int .i64 r∧Fr w w'):=by
 unfold zCY at c
 obtain ⟨w0,hw0⟩:∃ w0,w0=w:=⟨_,Z⟩
 have j:Fr w0 w:=hw0 ▸ Fr.refl _
 rw [show Fr w=Fr w0 from hw0 ▸ Z]
 have hG0:GTab w0:=hw0 ▸ hG
 clear hw0
 refine zA2 [.tmp 4] func180 ntmps180 (by decide) Z Z (nb Z) ?_
 intro R hR
 have f_v0:=h0
 replace h0:R 0=v0:=hR 0 _ Z
 have f_v1:=h1
 replace h1:R 1=v1:=hR 1 _ Z
 clear hR
 refine HT.su d j (eI 0::[]) ?_ ?_
 exact op (fun Q U W H D=>zA0 Z)<|oz
 intro R w m n p d j
 obtain ⟨h0,h1⟩:=k2 n h0 h1
 replace f_v0:=f_v0.fr m
 replace f_v1:=f_v1.fr m
 obtain ⟨x1,q2,c⟩:=zA3 c
 obtain ⟨x3,q4,c⟩:=zA3 c
 refine HT.su d j (eR v0::eF (.rep eStr A x1)::eR v1::eF (.rep eStr A x3)::eF (.rep eStr A x1)::eF (.rep eStr A x3)::[]) ?_ ?_
 exact om h0<|op (fun Q U W H D=>zA6 call218 (zDp (q2 Z) (d.fr W.size) (hG0.fr (j.trans W)) ((f_v0.fr W).eq (D.g 0 Z))))<|om h1<|op (fun Q U W H D=>zA6 call218 (zDp (q4 Z) (d.fr W.size) (hG0.fr (j.trans W)) ((f_v1.fr W).eq (D.g 0 Z))))<|op (fun Q U W H D=>zA0 (D.g 0 Z))<|op (fun Q U W H D=>zA0 (D.g 0 Z))<|oz
 intro R w m n p d j
 obtain ⟨u5,h5,f_u5⟩:∃ u,R 5=u∧Rep eStr A w u x1:=⟨_,Z,p 4 _ _ Z Z Z⟩
 obtain ⟨u6,h6,f_u6⟩:∃ u,R 6=u∧Rep eStr A w u x3:=⟨_,Z,p 5 _ _ Z Z Z⟩
 refine HT.seq ?_
 refine HT.seq ?_
 obtain ⟨x7,q8,c⟩:=zAB c
 refine HT.u d j (eR u5::eB (x1==([]:List UInt8))::eB (x1==([]:List UInt8))::gR (true&&((x1==([]:List UInt8))==false)) u6::gB (true&&((x1==([]:List UInt8))==false)) (x3==([]:List UInt8))::eB x7::[]) ?_ ?_
 exact om h5<|op (fun Q U W H D=>zB4 ((f_u5.fr W).eq (D.g 0 Z)) ⟨_,Z,⟨_,Z,Z,by decide⟩⟩)<|ov<|gm 2 false h6<|og 2 false (fun G Q U W H D=>zB4 ((f_u6.fr W).eq (D.h 0 G Z)) ⟨_,Z,⟨_,Z,Z,by decide⟩⟩)<|op (fun Q U W H D=>zAC (x1==([]:List UInt8)) (D.g 0 Z) (fun hc=>by show _=Value.bool x7;rw [q8,hc];exact Z) (fun hc=>by have a2:Q 15 = .bool (x3==([]:List UInt8)):=D 1 _ _ _ Z Z Z Z (zAZ Z (zAM hc));show _=Value.bool x7;rw [q8,hc];exact a2))<|oz
 intro R w m n p d j
 obtain ⟨h5,h6⟩:=k2 n h5 h6
 have h16:=p.r 5 Z
 replace f_u5:=f_u5.fr m
 replace f_u6:=f_u6.fr m
 refine HT.cond x7 h16 (fun c9=>?_) (fun c9=>?_)
 have c:=zAK c9 c
 refine HT.su d j (eI 0::[]) ?_ ?_
 exact op (fun Q U W H D=>zA0 Z)<|oz
 intro R w m n p d j
 have h4:=p.r 0 Z
 refine HT.ret ?_
 obtain rfl:=si c
 exact ⟨.inr Z,[R 4],⟨Z,N⟩,h4,j⟩
 have c:=zAL c9 c
 refine HT.skip ?_
 obtain ⟨x10,q11,c⟩:=zA3 c
 refine HT.su d j (eR u5::eR u6::eI x10::eI x10::[]) ?_ ?_
 exact om h5<|om h6<|op (fun Q U W H D=>zA6 call223 (zGl (q11 Z) (d.fr W.size) ((f_u5.fr W).eq (D.g 0 Z)) ((f_u6.fr W).eq (D.g 1 Z))))<|oa<|oz
 intro R w m n p d j
 have h4:=p.r 3 Z
 refine HT.ret ?_
 obtain rfl:=si c
 exact ⟨.inr Z,[R 4],⟨Z,N⟩,h4,j⟩
def zAv (fu : Nat) (p0 : List UInt8) : Nat → Int → Option (Ex Bool Unit)
 | 0,_=>none
 | k+1,y4=>
 bif (decide (y4<(p0.length:Int))) then (
 ck (inR y4 p0.length) <|
 cl true (zBs fu (bAt p0 y4)) fun x7=>
 ck (!(true&&((!x7)==true)) || inR y4 p0.length) <|
 cl (true&&((!x7)==true)) (zCF fu (bAt p0 y4)) fun x10=>
 bd ((!x7)&&(!x10)) fun x12=>
 bif x12 then (
 some (Ex.ret false)
 ) else (
 ck (i64B (y4+1)) <|
 zAv fu p0 k (y4+1)
 )
 ) else (
 some (Ex.go ())
 )
def zBy (fu:Nat) (p0:List UInt8):Option Bool:=
 cl true (zAv fu p0 fu 0) fun rl1=>
 exM rl1 (fun r=>some r) fun s3=>
 some true
theorem zFF {fu : Nat} {A : Av} {p0 : List UInt8} {r : Bool} (c : zBy fu p0 = some r) {w : World} {v0 : Value} (d : AvOK A w) (h0 : Rep eStr A w v0 p0) :
 Calls prog 320 #[v0] w fun e w'=>∃ v,e = .returned v∧(v = .bool r∧Fr w w'):=by
 unfold zBy at c
 obtain ⟨w0,hw0⟩:∃ w0,w0=w:=⟨_,Z⟩
 have j:Fr w0 w:=hw0 ▸ Fr.refl _
 rw [show Fr w=Fr w0 from hw0 ▸ Z]
 clear hw0
 refine zA2 [.tmp 2] func320 ntmps320 (by decide) Z Z (nb Z) ?_
 intro R hR
 have f_v0:=h0
 replace h0:R 0=v0:=hR 0 _ Z
 clear hR
 refine HT.su d j (eB false::[]) ?_ ?_
 exact op (fun Q U W H D=>zA0 Z)<|oz
 intro R w m n p d j
 replace h0:=k1 n h0
 replace f_v0:=f_v0.fr m
 refine HT.seq ?_
 refine HT.su d j (eR v0::eI (p0.length:Int)::eI 0::[]) ?_ ?_
 exact om h0<|op (fun Q U W H D=>zAG ((f_v0.fr W).eq (D.g 0 Z)) underlying9)<|op (fun Q U W H D=>zCE Z)<|oz
 intro R w m n p d j
 replace h0:=k1 n h0
 have h5:=p.r 1 Z
 have h6:=p.r 2 Z
 replace f_v0:=f_v0.fr m
 obtain ⟨rl1,q2,c⟩:=zA3 c
 replace q2:=q2 Z
 refine HT.cut0 (fun R w=>∃ (s3:Unit),rl1=Ex.go s3∧AvOK A w∧Fr w0 w) ?_ ?_
 refine HT.block ?_
 refine HT.loop (fun k R w=>∃ (y4:Int),zAv fu p0 k y4=some rl1∧AvOK A w∧Fr w0 w∧R 0=v0∧R 5 = .int .i64 (p0.length:Int)∧R 6 = .int .i64 y4∧Rep eStr A w v0 p0) fu ⟨_,q2,d,j,h0,h5,h6,f_v0⟩ ?_
 have hr0:=c;clear c q2
 rintro k R w ⟨y4,c,d,j,h0,h5,h6,f_v0⟩
 rcases k with _ | k
 cases (show none=some _ from c)
 rw [zAv] at c
 refine HT.su d j (eB (decide (y4<(p0.length:Int)))::[]) ?_ ?_
 exact op (fun Q U W H D=>zAf ((H 6 Z).trans h6) ((H 5 Z).trans h5))<|oz
 intro R w m n p d j
 obtain ⟨h0,h5,h6⟩:=k3 n h0 h5 h6
 have h7:=p.r 0 Z
 replace f_v0:=f_v0.fr m
 refine HT.seq ?_
 refine HT.cond (decide (y4<(p0.length:Int))) h7 (fun c5=>?_) (fun c5=>?_)
 have c:=zAK c5 c
 refine HT.skip ?_
 refine HT.seq ?_
 refine HT.block ?_
 refine HT.su d j (eI y4::eI y4::[]) ?_ ?_
 exact om h6<|oa<|oz
 intro R w m n p d j
 obtain ⟨h0,h5,h6⟩:=k3 n h0 h5 h6
 have h3:=p.r 1 Z
 replace f_v0:=f_v0.fr m
 refine HT.seq ?_
 obtain ⟨e6,c⟩:=zA4 c
 obtain ⟨x7,q8,c⟩:=zA3 c
 obtain ⟨e9,c⟩:=zA4 c
 obtain ⟨x10,q11,c⟩:=zA3 c
 obtain ⟨x12,q13,c⟩:=zAB c
 refine HT.u d j (eR v0::eI y4::eU (bAt p0 y4)::eB x7::eB (!x7)::eB (!x7)::gR (true&&((!x7)==true)) v0::gI (true&&((!x7)==true)) y4::gU (true&&((!x7)==true)) (bAt p0 y4)::gB (true&&((!x7)==true)) x10::gB (true&&((!x7)==true)) (!x10)::eB x12::[]) ?_ ?_
 exact om h0<|om h3<|op (fun Q U W H D=>zA8 ((f_v0.fr W).eq (D.g 0 Z)) (D.g 1 Z) underlying9 e6)<|op (fun Q U W H D=>zA6 call288 (zDV (q8 Z) (d.fr W.size) (D.g 0 Z)))<|op (fun Q U W H D=>zBh (D.g 0 Z))<|ov<|gm 5 true h0<|gm 5 true h3<|og 5 true (fun G Q U W H D=>zA8 ((f_v0.fr W).eq (D.h 0 G Z)) (D.h 1 G Z) underlying9 (gd e9 G))<|og 5 true (fun G Q U W H D=>zA6 call215 (zEH (q11 G) (d.fr W.size) (D.h 0 G Z)))<|og 5 true (fun G Q U W H D=>zBh (D.h 0 G Z))<|op (fun Q U W H D=>zAC (!x7) (D.g 0 Z) (fun hc=>by have a1:Q 19 = .bool (!x10):=D 1 _ _ _ Z Z Z Z (zAZ Z (zAM hc));show _=Value.bool x12;rw [q13,hc];exact a1) (fun hc=>by show _=Value.bool x12;rw [q13,hc];exact Z))<|oz
 intro R w m n p d j
 obtain ⟨h0,h5,h6⟩:=k3 n h0 h5 h6
 have h20:=p.r 11 Z
 replace f_v0:=f_v0.fr m
 refine HT.cond x12 h20 (fun c14=>?_) (fun c14=>?_)
 have c:=zAK c14 c
 refine HT.su d j (eB false::[]) ?_ ?_
 exact op (fun Q U W H D=>zA0 Z)<|oz
 intro R w m n p d j
 have h2:=p.r 0 Z
 refine HT.ret ?_
 obtain rfl:=si c
 have c:=hr0
 replace c:some _=some _:=c
 obtain rfl:=si c
 exact ⟨.inr Z,[R 2],⟨Z,N⟩,h2,j⟩
 have c:=zAL c14 c
 refine HT.skip ?_
 obtain ⟨e15,c⟩:=zA4 c
 refine HT.u d j (eI (y4+1)::eI (y4+1)::[]) ?_ ?_
 exact op (fun Q U W H D=>zAN ((H 6 Z).trans h6) Z e15)<|ov<|oz
 intro R w m n p d j
 obtain ⟨h0,h5⟩:=k2 n h0 h5
 have h6:=p.r 1 Z
 replace f_v0:=f_v0.fr m
 exact ei k (And.intro (Nat.lt_succ_self k) ⟨_,c,d,j,h0,h5,h6,f_v0⟩)
 have c:=zAL c5 c
 refine HT.exit ?_
 obtain rfl:=si c
 exact ei _ ⟨Z,d,j⟩
 rintro R w ⟨s3,rfl,d,j⟩
 have c:=zEP c
 refine HT.su d j (eB true::[]) ?_ ?_
 exact op (fun Q U W H D=>zA0 Z)<|oz
 intro R w m n p d j
 have h2:=p.r 0 Z
 refine HT.ret ?_
 obtain rfl:=si c
 exact ⟨.inr Z,[R 2],⟨Z,N⟩,h2,j⟩
def zB7 (fu : Nat) (p0 : List (List UInt8)) : Nat → Int → Option (Ex Bool Unit)
 | 0,_=>none
 | k+1,y4=>
 bif (decide (y4<(p0.length:Int))) then (
 ck (inR y4 p0.length) <|
 cl (true&&(((gtD p0 y4)==([]:List UInt8))==false)) (zBy fu (gtD p0 y4)) fun x8=>
 bd (((gtD p0 y4)==([]:List UInt8)) || (!x8)) fun x10=>
 ck (!((true&&(x10==false))&&((decide (0<y4))==true)) || i64B (y4-1)) <|
 ck (!((true&&(x10==false))&&((decide (0<y4))==true)) || inR (y4-1) p0.length) <|
 bd ((decide (0<y4))&&(!(bLt (gtD p0 (y4-1)) (gtD p0 y4)))) fun x14=>
 bd (x10 || x14) fun x16=>
 bif x16 then (
 some (Ex.ret false)
 ) else (
 ck (i64B (y4+1)) <|
 zB7 fu p0 k (y4+1)
 )
 ) else (
 some (Ex.go ())
 )
def zCI (fu:Nat) (p0:List (List UInt8)):Option Bool:=
 cl true (zB7 fu p0 fu 0) fun rl1=>
 exM rl1 (fun r=>some r) fun s3=>
 some true
theorem zEX {fu : Nat} {A : Av} {p0 : List (List UInt8)} {r : Bool} (c : zCI fu p0 = some r) {w : World} {v0 : Value} (d : AvOK A w) (h0 : Rep (eSl eStr) A w v0 p0) :
 Calls prog 300 #[v0] w fun e w'=>∃ v,e = .returned v∧(v = .bool r∧Fr w w'):=by
 unfold zCI at c
 obtain ⟨w0,hw0⟩:∃ w0,w0=w:=⟨_,Z⟩
 have j:Fr w0 w:=hw0 ▸ Fr.refl _
 rw [show Fr w=Fr w0 from hw0 ▸ Z]
 clear hw0
 refine zA2 [.tmp 2] func300 ntmps300 (by decide) Z Z (nb Z) ?_
 intro R hR
 have f_v0:=h0
 replace h0:R 0=v0:=hR 0 _ Z
 clear hR
 refine HT.su d j (eB false::[]) ?_ ?_
 exact op (fun Q U W H D=>zA0 Z)<|oz
 intro R w m n p d j
 replace h0:=k1 n h0
 replace f_v0:=f_v0.fr m
 refine HT.seq ?_
 refine HT.su d j (eR v0::eI (p0.length:Int)::eI 0::[]) ?_ ?_
 exact om h0<|op (fun Q U W H D=>zAb (aT:=#[]) ((f_v0.fr W).eq (D.g 0 Z)) underlying46)<|op (fun Q U W H D=>zCE Z)<|oz
 intro R w m n p d j
 replace h0:=k1 n h0
 have h5:=p.r 0 Z
 have h6:=p.r 1 Z
 have h7:=p.r 2 Z
 replace f_v0:=f_v0.fr m
 obtain ⟨rl1,q2,c⟩:=zA3 c
 replace q2:=q2 Z
 refine HT.cut0 (fun R w=>∃ (s3:Unit),rl1=Ex.go s3∧AvOK A w∧Fr w0 w) ?_ ?_
 refine HT.block ?_
 refine HT.loop (fun k R w=>∃ (y4:Int),zB7 fu p0 k y4=some rl1∧AvOK A w∧Fr w0 w∧R 0=v0∧R 5=v0∧R 6 = .int .i64 (p0.length:Int)∧R 7 = .int .i64 y4∧Rep (eSl eStr) A w v0 p0) fu ⟨_,q2,d,j,h0,h5,h6,h7,f_v0⟩ ?_
 have hr0:=c;clear c q2
 rintro k R w ⟨y4,c,d,j,h0,h5,h6,h7,f_v0⟩
 rcases k with _ | k
 cases (show none=some _ from c)
 rw [zB7] at c
 refine HT.su d j (eB (decide (y4<(p0.length:Int)))::[]) ?_ ?_
 exact op (fun Q U W H D=>zAf ((H 7 Z).trans h7) ((H 6 Z).trans h6))<|oz
 intro R w m n p d j
 obtain ⟨h0,h5,h6,h7⟩:=k4 n h0 h5 h6 h7
 have h8:=p.r 0 Z
 replace f_v0:=f_v0.fr m
 refine HT.seq ?_
 refine HT.cond (decide (y4<(p0.length:Int))) h8 (fun c5=>?_) (fun c5=>?_)
 have c:=zAK c5 c
 refine HT.skip ?_
 refine HT.seq ?_
 refine HT.block ?_
 obtain ⟨e6,c⟩:=zA4 c
 refine HT.su d j (eI y4::eF (.qtr eStr A (gtD p0 y4))::eF (.rep eStr A (gtD p0 y4))::eI y4::eF (.rep eStr A (gtD p0 y4))::[]) ?_ ?_
 exact om h7<|op (fun Q U W H D=>zA7 ((f_v0.fr W).eq ((H 5 Z).trans h5)) ((H 7 Z).trans h7) underlying46 sizeOf9 e6)<|op (fun Q U W H D=>(zAQ (QRep.ptr (D.g 0 Z)) isAgg9 sizeOf9))<|oa<|op (fun Q U W H D=>zA0 (D.g 0 Z))<|oz
 intro R w m n p d j
 obtain ⟨h0,h5,h6,h7⟩:=k4 n h0 h5 h6 h7
 have h3:=p.r 3 Z
 obtain ⟨u7,h4,f_u7⟩:∃ u,R 4=u∧Rep eStr A w u (gtD p0 y4):=⟨_,Z,p 4 _ _ Z Z Z⟩
 replace f_v0:=f_v0.fr m
 refine HT.seq ?_
 obtain ⟨x8,q9,c⟩:=zA3 c
 obtain ⟨x10,q11,c⟩:=zAB c
 obtain ⟨e12,e13,c⟩:=ck2 c
 obtain ⟨x14,q15,c⟩:=zAB c
 obtain ⟨x16,q17,c⟩:=zAB c
 refine HT.u d j (eR u7::eB ((gtD p0 y4)==([]:List UInt8))::eB ((gtD p0 y4)==([]:List UInt8))::gR (true&&(((gtD p0 y4)==([]:List UInt8))==false)) u7::gB (true&&(((gtD p0 y4)==([]:List UInt8))==false)) x8::gB (true&&(((gtD p0 y4)==([]:List UInt8))==false)) (!x8)::eB x10::eB x10::gI (true&&(x10==false)) y4::gB (true&&(x10==false)) (decide (0<y4))::gB (true&&(x10==false)) (decide (0<y4))::gR ((true&&(x10==false))&&((decide (0<y4))==true)) v0::gI ((true&&(x10==false))&&((decide (0<y4))==true)) y4::gI ((true&&(x10==false))&&((decide (0<y4))==true)) (y4-1)::gF ((true&&(x10==false))&&((decide (0<y4))==true)) (.qtr eStr A (gtD p0 (y4-1)))::gF ((true&&(x10==false))&&((decide (0<y4))==true)) (.rep eStr A (gtD p0 (y4-1)))::gR ((true&&(x10==false))&&((decide (0<y4))==true)) u7::gB ((true&&(x10==false))&&((decide (0<y4))==true)) (!(bLt (gtD p0 (y4-1)) (gtD p0 y4)))::gB (true&&(x10==false)) x14::eB x16::[]) ?_ ?_
 exact om h4<|op (fun Q U W H D=>zB4 ((f_u7.fr W).eq (D.g 0 Z)) ⟨_,Z,⟨_,Z,Z,by decide⟩⟩)<|ov<|gm 2 false h4<|og 2 false (fun G Q U W H D=>zA6 call320 (zFF (q9 G) (d.fr W.size) ((f_u7.fr W).eq (D.h 0 G Z))))<|og 2 false (fun G Q U W H D=>zBh (D.h 0 G Z))<|op (fun Q U W H D=>zAC ((gtD p0 y4)==([]:List UInt8)) (D.g 0 Z) (fun hc=>by show _=Value.bool x10;rw [q11,hc];exact Z) (fun hc=>by have a2:Q 17 = .bool (!x8):=D 1 _ _ _ Z Z Z Z (zAZ Z (zAM hc));show _=Value.bool x10;rw [q11,hc];exact a2))<|ov<|gm 7 false h3<|og 7 false (fun G Q U W H D=>zCM (D.h 0 G Z) Z)<|og 7 false (fun G Q U W H D=>zCE (D.h 0 G Z))<|gm 10 true h0<|gm 10 true h3<|og 10 true (fun G Q U W H D=>zAX (D.h 0 G Z) Z (gd e12 G))<|og 10 true (fun G Q U W H D=>zA7 ((f_v0.fr W).eq (D.h 0 G Z)) (D.h 1 G Z) underlying46 sizeOf9 (gd e13 G))<|og 10 true (fun G Q U W H D=>(zAQ (QRep.ptr (D.h 0 G Z)) isAgg9 sizeOf9))<|gm 10 true h4<|og 10 true (fun G Q U W H D=>zMq (D.h 0 G Z) ((f_u7.fr W).eq (D.h 1 G Z)))<|og 7 false (fun G Q U W H D=>zAC (decide (0<y4)) (D.h 0 G Z) (fun hc=>by have a1:Q 29 = .bool (!(bLt (gtD p0 (y4-1)) (gtD p0 y4))):=D 1 _ _ _ Z Z Z Z (zAZ G (zAM hc));show _=Value.bool x14;rw [q15,hc];exact a1) (fun hc=>by show _=Value.bool x14;rw [q15,hc];exact Z))<|op (fun Q U W H D=>zAC x10 (D.g 0 Z) (fun hc=>by show _=Value.bool x16;rw [q17,hc];exact Z) (fun hc=>by have a2:Q 30 = .bool x14:=D 1 _ _ _ Z Z Z Z (zAZ Z (zAM hc));show _=Value.bool x16;rw [q17,hc];exact a2))<|oz
 intro R w m n p d j
 obtain ⟨h0,h5,h6,h7⟩:=k4 n h0 h5 h6 h7
 have h31:=p.r 19 Z
 replace f_v0:=f_v0.fr m
 refine HT.cond x16 h31 (fun c18=>?_) (fun c18=>?_)
 have c:=zAK c18 c
 refine HT.su d j (eB false::[]) ?_ ?_
 exact op (fun Q U W H D=>zA0 Z)<|oz
 intro R w m n p d j
 have h2:=p.r 0 Z
 refine HT.ret ?_
 obtain rfl:=si c
 have c:=hr0
 replace c:some _=some _:=c
 obtain rfl:=si c
 exact ⟨.inr Z,[R 2],⟨Z,N⟩,h2,j⟩
 have c:=zAL c18 c
 refine HT.skip ?_
 obtain ⟨e19,c⟩:=zA4 c
 refine HT.u d j (eI (y4+1)::eI (y4+1)::[]) ?_ ?_
 exact op (fun Q U W H D=>zAN ((H 7 Z).trans h7) Z e19)<|ov<|oz
 intro R w m n p d j
 obtain ⟨h0,h5,h6⟩:=k3 n h0 h5 h6
 have h7:=p.r 1 Z
 replace f_v0:=f_v0.fr m
 exact ei k (And.intro (Nat.lt_succ_self k) ⟨_,c,d,j,h0,h5,h6,h7,f_v0⟩)
 have c:=zAL c5 c
 refine HT.exit ?_
 obtain rfl:=si c
 exact ei _ ⟨Z,d,j⟩
 rintro R w ⟨s3,rfl,d,j⟩
 have c:=zEP c
 refine HT.su d j (eB true::[]) ?_ ?_
 exact op (fun Q U W H D=>zA0 Z)<|oz
 intro R w m n p d j
 have h2:=p.r 0 Z
 refine HT.ret ?_
 obtain rfl:=si c
 exact ⟨.inr Z,[R 2],⟨Z,N⟩,h2,j⟩
def zD0 (fu:Nat) (p0:List (List UInt8)) (p1:List (List UInt8)):Option Bool:=
 cl true (zCI fu p0) fun x1=>
 cl (true&&(x1==true)) (zCI fu p1) fun x3=>
 bd (x1&&x3) fun x5=>
 some x5
theorem zFm {fu : Nat} {A : Av} {p0 : List (List UInt8)} {p1 : List (List UInt8)} {r : Bool} (c : zD0 fu p0 p1 = some r) {w : World} {v0 : Value} {v1 : Value} (d : AvOK A w) (h0 : Rep (eSl eStr) A w v0 p0) (h1 : Rep (eSl eStr) A w v1 p1) :
 Calls prog 264 #[v0,v1] w fun e w'=>∃ v,e = .returned v∧(v = .bool r∧Fr w w'):=by
 unfold zD0 at c
 obtain ⟨w0,hw0⟩:∃ w0,w0=w:=⟨_,Z⟩
 have j:Fr w0 w:=hw0 ▸ Fr.refl _
 rw [show Fr w=Fr w0 from hw0 ▸ Z]
 clear hw0
 refine zA2 [.tmp 4] func264 ntmps264 (by decide) Z Z (nb Z) ?_
 intro R hR
 have f_v0:=h0
 replace h0:R 0=v0:=hR 0 _ Z
 have f_v1:=h1
 replace h1:R 1=v1:=hR 1 _ Z
 clear hR
 refine HT.su d j (eB false::[]) ?_ ?_
 exact op (fun Q U W H D=>zA0 Z)<|oz
 intro R w m n p d j
 obtain ⟨h0,h1⟩:=k2 n h0 h1
 replace f_v0:=f_v0.fr m
 replace f_v1:=f_v1.fr m
 refine HT.seq ?_
 obtain ⟨x1,q2,c⟩:=zA3 c
 obtain ⟨x3,q4,c⟩:=zA3 c
 obtain ⟨x5,q6,c⟩:=zAB c
 refine HT.u d j (eR v0::eB x1::eB x1::gR (true&&(x1==true)) v1::gB (true&&(x1==true)) x3::eB x5::eB x5::[]) ?_ ?_
 exact om h0<|op (fun Q U W H D=>zA6 call300 (zEX (q2 Z) (d.fr W.size) ((f_v0.fr W).eq (D.g 0 Z))))<|ov<|gm 2 true h1<|og 2 true (fun G Q U W H D=>zA6 call300 (zEX (q4 G) (d.fr W.size) ((f_v1.fr W).eq (D.h 0 G Z))))<|op (fun Q U W H D=>zAC x1 (D.g 0 Z) (fun hc=>by have a1:Q 9 = .bool x3:=D 1 _ _ _ Z Z Z Z (zAZ Z (zAM hc));show _=Value.bool x5;rw [q6,hc];exact a1) (fun hc=>by show _=Value.bool x5;rw [q6,hc];exact Z))<|oa<|oz
 intro R w m n p d j
 have h4:=p.r 6 Z
 refine HT.ret ?_
 obtain rfl:=si c
 exact ⟨.inr Z,[R 4],⟨Z,N⟩,h4,j⟩
def zAa (fu : Nat) : Nat → (List (List UInt8)) → (List (List UInt8)) → Int → Option Int
 | 0,_,_,_=>none
 | k+1,y20,y21,y22=>
 bd ((decide (0<(y20.length:Int)))&&(decide (0<(y21.length:Int)))) fun x23=>
 bif x23 then (
 ck (inR 0 y20.length) <|
 ck (inR 0 y21.length) <|
 bif (bLt (gtD y20 0) (gtD y21 0)) then (
 ck (subR 1 (y20.length:Int) y20.length) <|
 zAa fu k (subL y20 1 (y20.length:Int)) y21 y22
 ) else (
 ck (inR 0 y21.length) <|
 ck (inR 0 y20.length) <|
 bif (bLt (gtD y21 0) (gtD y20 0)) then (
 ck (subR 1 (y21.length:Int) y21.length) <|
 zAa fu k y20 (subL y21 1 (y21.length:Int)) y22
 ) else (
 ck (subR 1 (y20.length:Int) y20.length) <|
 ck (subR 1 (y21.length:Int) y21.length) <|
 ck (i64B (y22+1)) <|
 zAa fu k (subL y20 1 (y20.length:Int)) (subL y21 1 (y21.length:Int)) (y22+1)
 )
 )
 ) else (
 some y22
 )
def zDG (fu:Nat) (p0:List (List UInt8)) (p1:List (List UInt8)):Option Int:=
 cl true (zAg fu p0) fun x1=>
 cl true (zAg fu p1) fun x3=>
 cl true (zHE fu x1) fun x7=>
 cl true (zHE fu x3) fun x12=>
 cl true (zAa fu fu x7 x12 0) fun s19=>
 some s19
theorem zFy {fu : Nat} {A0 : Av} {p0 : List (List UInt8)} {p1 : List (List UInt8)} {r : Int} (c : zDG fu p0 p1 = some r) {w : World} {v0 : Value} {v1 : Value} (d : AvOK A0 w) (h0 : Rep (eSl eStr) A0 w v0 p0) (h1 : Rep (eSl eStr) A0 w v1 p1) :
 Calls prog 301 #[v0,v1] w fun e w'=>∃ v,e = .returned v∧(v = .int .i64 r∧Fr w w'):=by
 unfold zDG at c
 obtain ⟨w0,hw0⟩:∃ w0,w0=w:=⟨_,Z⟩
 have j:Fr w0 w:=hw0 ▸ Fr.refl _
 have C:∀ b o,A0 b o→b<w0.heap.size:=fun b o h=>hw0 ▸ d b o h
 have hA00:AvOK A0 w0:=C
 rw [show Fr w=Fr w0 from hw0 ▸ Z]
 clear hw0
 obtain ⟨A,hAe⟩:∃ A,A=A0:=⟨_,Z⟩
 have B:∀ b o,A0 b o→A b o:=fun b o h=>hAe ▸ h
 replace d:AvOK A w:=hAe ▸ d
 have q:IniOK [] A w:=IniOK.nil
 refine zA2 [.tmp 4] func301 ntmps301 (by decide) Z Z (nb Z) ?_
 intro R hR
 have f_v0:Rep (eSl eStr) A w v0 p0:=hAe ▸ h0
 replace h0:R 0=v0:=hR 0 _ Z
 have f_v1:Rep (eSl eStr) A w v1 p1:=hAe ▸ h1
 replace h1:R 1=v1:=hR 1 _ Z
 clear hR hAe
 refine HT.su d j (eI 0::[]) ?_ ?_
 exact op (fun Q U W H D=>zA0 Z)<|oz
 intro R w m n p d j
 obtain ⟨h0,h1⟩:=k2 n h0 h1
 replace f_v0:=f_v0.fr m
 replace f_v1:=f_v1.fr m
 replace q:=q.fr m
 obtain ⟨x1,q2,c⟩:=zA3 c
 obtain ⟨x3,q4,c⟩:=zA3 c
 refine HT.sx [] (rR v0::⟨_,true,[],some (.vec w0.heap.size 9 eStr x1),true,fun A=>.any⟩::rR v1::⟨_,true,[],some (.vec w0.heap.size 9 eStr x3),true,fun A=>.any⟩::⟨_,true,[1],some (.vec w0.heap.size 9 eStr x1),true,fun A=>.any⟩::⟨_,true,[3],some (.vec w0.heap.size 9 eStr x3),true,fun A=>.any⟩::[]) (ur (ua (ur (ua (ua (ua (UAll.nil))))))) q d ?_ ?_
 exact rm h0<|rc (OblR.made _ Z Z Z Z fun V Q U O D=>by have a0:Q 8=v0:=D.g 0 Z;have ra0:=(f_v0.stp O.stp).eq a0;exact zEi call173 (zBo (q2 Z) O.av ra0) (Nat.le_trans j.size O.ch.size))<|rm h1<|rc (OblR.made _ Z Z Z Z fun V Q U O D=>by have a0:Q 10=v1:=D.g 0 Z;have ra0:=(f_v1.stp O.stp).eq a0;exact zEi call173 (zBo (q4 Z) O.av ra0) (Nat.le_trans j.size O.ch.size))<|rc (OblR.took 1 _ _ Z Z Z Z Z fun V Q U O D u hok hav hin hop hds=>by exact zAH (hop _ _ Z Z Z Z).symm hok hav)<|rc (OblR.took 3 _ _ Z Z Z Z Z fun V Q U O D u hok hav hin hop hds=>by exact zAH (hop _ _ Z Z Z Z).symm hok hav)<|rz
 intro done ρ σ A R w y s
 obtain ⟨u5,e_u5⟩:∃ u,ρ 4=u:=⟨_,Z⟩
 have h5:=s.ov y 4 4 e_u5
 obtain ⟨u6,e_u6⟩:∃ u,ρ 5=u:=⟨_,Z⟩
 have h6:=s.ov y 5 5 e_u6
 obtain ⟨B,j,d⟩:=s.s B C j q N
 replace q:=s.left y [(4,ob u5 (.vec w0.heap.size 9 eStr x1)),(5,ob u6 (.vec w0.heap.size 9 eStr x3))] ⟨Z,Z,e_u5,Z,Z,⟨Z,Z,e_u6,Z,Z,N⟩⟩
 obtain ⟨x7,q8,c⟩:=zA3 c
 refine HT.sx [ob u5 (.vec w0.heap.size 9 eStr x1),ob u6 (.vec w0.heap.size 9 eStr x3)] (rR u5::⟨_,true,[0],some (.vec w0.heap.size 9 eStr x7),false,fun A=>.any⟩::[]) (ur (ua (UAll.nil))) q d ?_ ?_
 exact rm h5<|rc (OblR.took 0 _ _ Z Z Z Z Z fun V Q U O D u hok hav hin hop hds=>by have a0:Q 12=u5:=D.g 0 Z;have hu0:zAD Q (.tmp 12)=u:=a0.trans (hin _ Z).symm;exact zGz call174 hav (fun _ _ _ _ _ h=>h) (by simp only [List.map,hu0];exact Calls.mono (zHB (q8 Z) (O.av.sub _) (fun b o h=>h.2) (Vec.flat hok (fun _ _ _ _ _ h=>h))) (fun _ _ ⟨v,h1,h2,h3,h4⟩=>⟨v,h1,N,h3,h4⟩)))<|rz
 intro done ρ σ A R w y s
 obtain ⟨h5,h6⟩:=k2 s.rg h5 h6
 have z9:=s.inivR 0 Z
 have z10:=s.on y 3 1 Z Z Z Z Z z9
 have z11:=s.inivR 1 Z
 obtain ⟨B,j,d⟩:=s.s B C j q ⟨Z,⟨Z,N⟩⟩
 replace q:=s.left y [(3,ob u5 (.vec w0.heap.size 9 eStr x7)),(1,ob u6 (.vec w0.heap.size 9 eStr x3))] ⟨Z,Z,z10,Z,Z,⟨Z,Z,z11,Z,Z,N⟩⟩
 obtain ⟨x12,q13,c⟩:=zA3 c
 refine HT.sx [ob u5 (.vec w0.heap.size 9 eStr x7),ob u6 (.vec w0.heap.size 9 eStr x3)] (rR u6::⟨_,true,[1],some (.vec w0.heap.size 9 eStr x12),false,fun A=>.any⟩::[]) (ur (ua (UAll.nil))) q d ?_ ?_
 exact rm h6<|rc (OblR.took 1 _ _ Z Z Z Z Z fun V Q U O D u hok hav hin hop hds=>by have a0:Q 14=u6:=D.g 0 Z;have hu0:zAD Q (.tmp 14)=u:=a0.trans (hin _ Z).symm;exact zGz call174 hav (fun _ _ _ _ _ h=>h) (by simp only [List.map,hu0];exact Calls.mono (zHB (q13 Z) (O.av.sub _) (fun b o h=>h.2) (Vec.flat hok (fun _ _ _ _ _ h=>h))) (fun _ _ ⟨v,h1,h2,h3,h4⟩=>⟨v,h1,N,h3,h4⟩)))<|rz
 intro done ρ σ A R w y s
 obtain ⟨h5,h6⟩:=k2 s.rg h5 h6
 have z14:=s.inivR 0 Z
 have z15:=s.inivR 1 Z
 have z16:=s.on y 3 1 Z Z Z Z Z z15
 obtain ⟨B,j,d⟩:=s.s B C j q ⟨Z,⟨Z,N⟩⟩
 replace q:=s.left y [(0,ob u5 (.vec w0.heap.size 9 eStr x7)),(3,ob u6 (.vec w0.heap.size 9 eStr x12))] ⟨Z,Z,z14,Z,Z,⟨Z,Z,z16,Z,Z,N⟩⟩
 refine HT.su d j (eI 0::[]) ?_ ?_
 exact op (fun Q U W H D=>zA0 Z)<|oz
 intro R w m n p d j
 obtain ⟨h5,h6⟩:=k2 n h5 h6
 have h7:=p.r 0 Z
 replace q:=q.fr m
 replace q:IniOK [ob u5 (.vec w0.heap.size 9 eStr x7),ob u6 (.vec w0.heap.size 9 eStr x12)] A w:=q.sub [(0,ob u5 (.vec w0.heap.size 9 eStr x7)),(1,ob u6 (.vec w0.heap.size 9 eStr x12))] ⟨Z,Z,⟨Z,Z,N⟩⟩
 obtain ⟨A,hle,B,d,q,f_u5⟩:=q.freeze d B C
 clear hle
 replace q:IniOK [ob u6 (.vec w0.heap.size 9 eStr x12)] A w:=q.sub [(0,ob u6 (.vec w0.heap.size 9 eStr x12))] ⟨Z,Z,N⟩
 obtain ⟨A,hle,B,d,q,f_u6⟩:=q.freeze d B C
 replace f_u5:=f_u5.less hle
 clear hle
 obtain ⟨rl17,q18,c⟩:=zA3 c
 replace q18:=q18 Z
 refine HT.cut (fun R w=>∃ A:Av,∃ (s19:Int),rl17=s19∧AvOK A w∧Fr w0 w∧(∀ b o,A0 b o→A b o)∧IniOK [] A w∧R 7 = .int .i64 s19) ?_ ?_
 refine HT.block ?_
 refine HT.loop (fun k R w=>∃ A:Av,∃ (y20:List (List UInt8)) (y21:List (List UInt8)) (y22:Int) (wl_5:Value) (wl_6:Value),zAa fu k y20 y21 y22=some rl17∧AvOK A w∧Fr w0 w∧(∀ b o,A0 b o→A b o)∧IniOK [] A w∧R 5=wl_5∧R 6=wl_6∧R 7 = .int .i64 y22∧Rep (eSl eStr) A w wl_5 y20∧Rep (eSl eStr) A w wl_6 y21) fu ⟨_,_,_,_,u5,u6,q18,d,j,B,q,h5,h6,h7,f_u5,f_u6⟩ ?_
 have hr0:=c;clear c q18
 rintro k R w ⟨A,y20,y21,y22,wl_5,wl_6,c,d,j,B,q,h5,h6,h7,f_wl_5,f_wl_6⟩
 rcases k with _ | k
 cases (show none=some _ from c)
 rw [zAa] at c
 refine HT.seq ?_
 refine HT.seq ?_
 obtain ⟨x23,q24,c⟩:=zAB c
 refine HT.u d j (eR wl_5::eI (y20.length:Int)::eB (decide (0<(y20.length:Int)))::eB (decide (0<(y20.length:Int)))::gR (true&&((decide (0<(y20.length:Int)))==true)) wl_6::gI (true&&((decide (0<(y20.length:Int)))==true)) (y21.length:Int)::gB (true&&((decide (0<(y20.length:Int)))==true)) (decide (0<(y21.length:Int)))::eB x23::[]) ?_ ?_
 exact om h5<|op (fun Q U W H D=>zAb (aT:=#[]) ((f_wl_5.fr W).eq (D.g 0 Z)) underlying46)<|op (fun Q U W H D=>zCM (D.g 0 Z) Z)<|ov<|gm 3 true h6<|og 3 true (fun G Q U W H D=>zAb (aT:=#[]) ((f_wl_6.fr W).eq (D.h 0 G Z)) underlying46)<|og 3 true (fun G Q U W H D=>zCM (D.h 0 G Z) Z)<|op (fun Q U W H D=>zAC (decide (0<(y20.length:Int))) (D.g 0 Z) (fun hc=>by have a1:Q 22 = .bool (decide (0<(y21.length:Int))):=D 1 _ _ _ Z Z Z Z (zAZ Z (zAM hc));show _=Value.bool x23;rw [q24,hc];exact a1) (fun hc=>by show _=Value.bool x23;rw [q24,hc];exact Z))<|oz
 intro R w m n p d j
 obtain ⟨h5,h6,h7⟩:=k3 n h5 h6 h7
 have h23:=p.r 7 Z
 replace f_wl_5:=f_wl_5.fr m
 replace f_wl_6:=f_wl_6.fr m
 replace q:=q.fr m
 refine HT.cond x23 h23 (fun c25=>?_) (fun c25=>?_)
 have c:=zAK c25 c
 refine HT.skip ?_
 refine HT.block ?_
 refine HT.block ?_
 refine HT.seq ?_
 obtain ⟨e26,e27,c⟩:=ck2 c
 refine HT.draw (by kernel_rfl) (l:=eR wl_5::eF (.qtr eStr A (gtD y20 0))::eF (.rep eStr A (gtD y20 0))::eR wl_6::eF (.qtr eStr A (gtD y21 0))::eF (.rep eStr A (gtD y21 0))::eB (bLt (gtD y20 0) (gtD y21 0))::eB (bLt (gtD y20 0) (gtD y21 0))::[]) (tl:=[]) (by kernel_rfl) (by kernel_rfl) (by kernel_rfl) (by kernel_rfl) ?_ ?_
 exact om h5<|op (fun Q U W H D=>zA7 ((f_wl_5.fr W).eq (D.g 0 Z)) Z underlying46 sizeOf9 e26)<|op (fun Q U W H D=>(zAQ (QRep.ptr (D.g 0 Z)) isAgg9 sizeOf9))<|om h6<|op (fun Q U W H D=>zA7 ((f_wl_6.fr W).eq (D.g 0 Z)) Z underlying46 sizeOf9 e27)<|op (fun Q U W H D=>(zAQ (QRep.ptr (D.g 0 Z)) isAgg9 sizeOf9))<|op (fun Q U W H D=>zKA (D.g 0 Z) (D.g 1 Z))<|oa<|oz
 intro R w m n p
 obtain ⟨h5,h6,h7⟩:=k3 n h5 h6 h7
 have h30:=p.r 7 Z
 replace f_wl_5:=f_wl_5.fr m
 replace f_wl_6:=f_wl_6.fr m
 replace q:=q.fr m
 replace d:=d.fr m.size
 replace j:=j.trans m
 refine HT.cond (bLt (gtD y20 0) (gtD y21 0)) h30 (fun c28=>?_) (fun c28=>?_)
 have c:=zAK c28 c
 obtain ⟨e29,c⟩:=zA4 c
 refine HT.u d j (eR wl_5::eF (.rep (eSl eStr) A (subL y20 1 (y20.length:Int)))::eF (.rep (eSl eStr) A (subL y20 1 (y20.length:Int)))::[]) ?_ ?_
 exact om h5<|op (fun Q U W H D=>zEN ((f_wl_5.fr W).eq (D.g 0 Z)) Z underlying46 sizeOf9 e29)<|op (fun Q U W H D=>zA0 (D.g 0 Z))<|oz
 intro R w m n p d j
 obtain ⟨h6,h7⟩:=k2 n h6 h7
 obtain ⟨u30,h5,f_u30⟩:∃ u,R 5=u∧Rep (eSl eStr) A w u (subL y20 1 (y20.length:Int)):=⟨_,Z,p 2 _ _ Z Z Z⟩
 replace f_wl_6:=f_wl_6.fr m
 replace q:=q.fr m
 exact ei k (And.intro (Nat.lt_succ_self k) ⟨_,_,_,_,u30,wl_6,c,d,j,B,q,h5,h6,h7,f_u30,f_wl_6⟩)
 have c:=zAL c28 c
 refine HT.seq ?_
 obtain ⟨e31,e32,c⟩:=ck2 c
 refine HT.draw (by kernel_rfl) (l:=eR wl_6::eF (.qtr eStr A (gtD y21 0))::eF (.rep eStr A (gtD y21 0))::eR wl_5::eF (.qtr eStr A (gtD y20 0))::eF (.rep eStr A (gtD y20 0))::eB (bLt (gtD y21 0) (gtD y20 0))::eB (bLt (gtD y21 0) (gtD y20 0))::[]) (tl:=[]) (by kernel_rfl) (by kernel_rfl) (by kernel_rfl) (by kernel_rfl) ?_ ?_
 exact om h6<|op (fun Q U W H D=>zA7 ((f_wl_6.fr W).eq (D.g 0 Z)) Z underlying46 sizeOf9 e31)<|op (fun Q U W H D=>(zAQ (QRep.ptr (D.g 0 Z)) isAgg9 sizeOf9))<|om h5<|op (fun Q U W H D=>zA7 ((f_wl_5.fr W).eq (D.g 0 Z)) Z underlying46 sizeOf9 e32)<|op (fun Q U W H D=>(zAQ (QRep.ptr (D.g 0 Z)) isAgg9 sizeOf9))<|op (fun Q U W H D=>zKA (D.g 0 Z) (D.g 1 Z))<|oa<|oz
 intro R w m n p
 obtain ⟨h5,h6,h7⟩:=k3 n h5 h6 h7
 have h40:=p.r 7 Z
 replace f_wl_5:=f_wl_5.fr m
 replace f_wl_6:=f_wl_6.fr m
 replace q:=q.fr m
 replace d:=d.fr m.size
 replace j:=j.trans m
 refine HT.cond (bLt (gtD y21 0) (gtD y20 0)) h40 (fun c33=>?_) (fun c33=>?_)
 have c:=zAK c33 c
 obtain ⟨e34,c⟩:=zA4 c
 refine HT.u d j (eR wl_6::eF (.rep (eSl eStr) A (subL y21 1 (y21.length:Int)))::eF (.rep (eSl eStr) A (subL y21 1 (y21.length:Int)))::[]) ?_ ?_
 exact om h6<|op (fun Q U W H D=>zEN ((f_wl_6.fr W).eq (D.g 0 Z)) Z underlying46 sizeOf9 e34)<|op (fun Q U W H D=>zA0 (D.g 0 Z))<|oz
 intro R w m n p d j
 obtain ⟨h5,h7⟩:=k2 n h5 h7
 obtain ⟨u35,h6,f_u35⟩:∃ u,R 6=u∧Rep (eSl eStr) A w u (subL y21 1 (y21.length:Int)):=⟨_,Z,p 2 _ _ Z Z Z⟩
 replace f_wl_5:=f_wl_5.fr m
 replace q:=q.fr m
 exact ei k (And.intro (Nat.lt_succ_self k) ⟨_,_,_,_,wl_5,u35,c,d,j,B,q,h5,h6,h7,f_wl_5,f_u35⟩)
 have c:=zAL c33 c
 refine HT.seq ?_
 obtain ⟨e36,e37,c⟩:=ck2 c
 refine HT.draw (by kernel_rfl) (l:=eR wl_5::eF (.rep (eSl eStr) A (subL y20 1 (y20.length:Int)))::eR wl_6::eF (.rep (eSl eStr) A (subL y21 1 (y21.length:Int)))::eF (.rep (eSl eStr) A (subL y20 1 (y20.length:Int)))::eF (.rep (eSl eStr) A (subL y21 1 (y21.length:Int)))::[]) (tl:=[]) (by kernel_rfl) (by kernel_rfl) (by kernel_rfl) (by kernel_rfl) ?_ ?_
 exact om h5<|op (fun Q U W H D=>zEN ((f_wl_5.fr W).eq (D.g 0 Z)) Z underlying46 sizeOf9 e36)<|om h6<|op (fun Q U W H D=>zEN ((f_wl_6.fr W).eq (D.g 0 Z)) Z underlying46 sizeOf9 e37)<|op (fun Q U W H D=>zA0 (D.g 0 Z))<|op (fun Q U W H D=>zA0 (D.g 0 Z))<|oz
 intro R w m n p
 replace h7:=k1 n h7
 obtain ⟨u38,h5,f_u38⟩:∃ u,R 5=u∧Rep (eSl eStr) A w u (subL y20 1 (y20.length:Int)):=⟨_,Z,p 4 _ _ Z Z Z⟩
 obtain ⟨u39,h6,f_u39⟩:∃ u,R 6=u∧Rep (eSl eStr) A w u (subL y21 1 (y21.length:Int)):=⟨_,Z,p 5 _ _ Z Z Z⟩
 replace q:=q.fr m
 replace d:=d.fr m.size
 replace j:=j.trans m
 obtain ⟨e40,c⟩:=zA4 c
 refine HT.u d j (eI y22::eI (y22+1)::eI (y22+1)::[]) ?_ ?_
 exact om h7<|op (fun Q U W H D=>zAN (D.g 0 Z) Z e40)<|oa<|oz
 intro R w m n p d j
 obtain ⟨h5,h6⟩:=k2 n h5 h6
 have h7:=p.r 2 Z
 replace f_u38:=f_u38.fr m
 replace f_u39:=f_u39.fr m
 replace q:=q.fr m
 exact ei k (And.intro (Nat.lt_succ_self k) ⟨_,_,_,_,u38,u39,c,d,j,B,q,h5,h6,h7,f_u38,f_u39⟩)
 have c:=zAL c25 c
 refine HT.exit ?_
 obtain rfl:=si c
 exact ei _ ⟨_,Z,d,j,B,q,h7⟩
 rintro R w ⟨A,s19,es,d,j,B,q,h7⟩
 obtain rfl:=es.symm
 refine HT.su d j (eI s19::eI s19::[]) ?_ ?_
 exact om h7<|oa<|oz
 intro R w m n p d j
 have h4:=p.r 1 Z
 replace q:=q.fr m
 refine HT.ret ?_
 obtain rfl:=si c
 exact ⟨.inr Z,[R 4],⟨Z,N⟩,h4,j⟩
def zDe (fu:Nat) (p0:List (List UInt8)) (p1:List (List UInt8)):Option Int:=
 cl true (zDG fu p0 p1) fun x1=>
 some x1
theorem zHA {fu : Nat} {A : Av} {p0 : List (List UInt8)} {p1 : List (List UInt8)} {r : Int} (c : zDe fu p0 p1 = some r) {w : World} {v0 : Value} {v1 : Value} (d : AvOK A w) (h0 : Rep (eSl eStr) A w v0 p0) (h1 : Rep (eSl eStr) A w v1 p1) :
 Calls prog 265 #[v0,v1] w fun e w'=>∃ v,e = .returned v∧(v = .int .i64 r∧Fr w w'):=by
 unfold zDe at c
 obtain ⟨w0,hw0⟩:∃ w0,w0=w:=⟨_,Z⟩
 have j:Fr w0 w:=hw0 ▸ Fr.refl _
 rw [show Fr w=Fr w0 from hw0 ▸ Z]
 clear hw0
 refine zA2 [.tmp 4] func265 ntmps265 (by decide) Z Z (nb Z) ?_
 intro R hR
 have f_v0:=h0
 replace h0:R 0=v0:=hR 0 _ Z
 have f_v1:=h1
 replace h1:R 1=v1:=hR 1 _ Z
 clear hR
 refine HT.su d j (eI 0::[]) ?_ ?_
 exact op (fun Q U W H D=>zA0 Z)<|oz
 intro R w m n p d j
 obtain ⟨h0,h1⟩:=k2 n h0 h1
 replace f_v0:=f_v0.fr m
 replace f_v1:=f_v1.fr m
 obtain ⟨x1,q2,c⟩:=zA3 c
 refine HT.su d j (eR v0::eR v1::eI x1::eI x1::[]) ?_ ?_
 exact om h0<|om h1<|op (fun Q U W H D=>zA6 call301 (zFy (q2 Z) (d.fr W.size) ((f_v0.fr W).eq (D.g 0 Z)) ((f_v1.fr W).eq (D.g 1 Z))))<|oa<|oz
 intro R w m n p d j
 have h4:=p.r 3 Z
 refine HT.ret ?_
 obtain rfl:=si c
 exact ⟨.inr Z,[R 4],⟨Z,N⟩,h4,j⟩
def zDx (fu:Nat) (p0:Int) (p1:Int):Option Int:=
 bif (p1==0) then (
 some 1000
 ) else (
 ck (p1 != 0) <|
 ck (i64B (p0.tdiv p1)) <|
 some (p0.tdiv p1)
 )
theorem zGu {fu : Nat} {A : Av} {p0 : Int} {p1 : Int} {r : Int} (c : zDx fu p0 p1 = some r) {w : World} {v0 : Value} {v1 : Value} (d : AvOK A w) (h0 : v0 = .int .i64 p0) (h1 : v1 = .int .i64 p1) :
 Calls prog 266 #[v0,v1] w fun e w'=>∃ v,e = .returned v∧(v = .int .i64 r∧Fr w w'):=by
 unfold zDx at c
 obtain ⟨w0,hw0⟩:∃ w0,w0=w:=⟨_,Z⟩
 have j:Fr w0 w:=hw0 ▸ Fr.refl _
 rw [show Fr w=Fr w0 from hw0 ▸ Z]
 clear hw0
 refine zA2 [.tmp 4] func266 ntmps266 (by decide) Z Z (nb Z) ?_
 intro R hR
 replace h0:R 0 = .int .i64 p0:=(hR 0 _ Z).trans h0
 replace h1:R 1 = .int .i64 p1:=(hR 1 _ Z).trans h1
 clear hR
 refine HT.su d j (eI 0::[]) ?_ ?_
 exact op (fun Q U W H D=>zA0 Z)<|oz
 intro R w m n p d j
 obtain ⟨h0,h1⟩:=k2 n h0 h1
 refine HT.seq ?_
 refine HT.su d j (eI p1::eB (p1==0)::[]) ?_ ?_
 exact om h1<|op (fun Q U W H D=>zBA (D.g 0 Z) Z)<|oz
 intro R w m n p d j
 obtain ⟨h0,h1⟩:=k2 n h0 h1
 have h6:=p.r 1 Z
 refine HT.cond (p1==0) h6 (fun c1=>?_) (fun c1=>?_)
 have c:=zAK c1 c
 refine HT.su d j (eI 1000::[]) ?_ ?_
 exact op (fun Q U W H D=>zA0 Z)<|oz
 intro R w m n p d j
 have h4:=p.r 0 Z
 refine HT.ret ?_
 obtain rfl:=si c
 exact ⟨.inr Z,[R 4],⟨Z,N⟩,h4,j⟩
 have c:=zAL c1 c
 refine HT.skip ?_
 obtain ⟨e2,e3,c⟩:=ck2 c
 refine HT.su d j (eI p0::eI p1::eI (p0.tdiv p1)::eI (p0.tdiv p1)::[]) ?_ ?_
 exact om h0<|om h1<|op (fun Q U W H D=>zH0 (D.g 0 Z) (D.g 1 Z) e2 e3)<|oa<|oz
 intro R w m n p d j
 have h4:=p.r 3 Z
 refine HT.ret ?_
 obtain rfl:=si c
 exact ⟨.inr Z,[R 4],⟨Z,N⟩,h4,j⟩
def zDd (fu:Nat) (p0:List (List UInt8)) (p1:List (List UInt8)):Option Int:=
 cl true (zD0 fu p0 p1) fun x1=>
 bif (!x1) then (
 some 0
 ) else (
 cl true (zDe fu p0 p1) fun x4=>
 ck (i64B (1000*x4)) <|
 ck (i64B ((p0.length:Int)+(p1.length:Int))) <|
 ck (i64B (((p0.length:Int)+(p1.length:Int))-x4)) <|
 cl true (zDx fu (1000*x4) (((p0.length:Int)+(p1.length:Int))-x4)) fun x9=>
 some x9
 )
theorem zHD {fu : Nat} {A : Av} {p0 : List (List UInt8)} {p1 : List (List UInt8)} {r : Int} (c : zDd fu p0 p1 = some r) {w : World} {v0 : Value} {v1 : Value} (d : AvOK A w) (h0 : Rep (eSl eStr) A w v0 p0) (h1 : Rep (eSl eStr) A w v1 p1) :
 Calls prog 224 #[v0,v1] w fun e w'=>∃ v,e = .returned v∧(v = .int .i64 r∧Fr w w'):=by
 unfold zDd at c
 obtain ⟨w0,hw0⟩:∃ w0,w0=w:=⟨_,Z⟩
 have j:Fr w0 w:=hw0 ▸ Fr.refl _
 rw [show Fr w=Fr w0 from hw0 ▸ Z]
 clear hw0
 refine zA2 [.tmp 4] func224 ntmps224 (by decide) Z Z (nb Z) ?_
 intro R hR
 have f_v0:=h0
 replace h0:R 0=v0:=hR 0 _ Z
 have f_v1:=h1
 replace h1:R 1=v1:=hR 1 _ Z
 clear hR
 refine HT.su d j (eI 0::[]) ?_ ?_
 exact op (fun Q U W H D=>zA0 Z)<|oz
 intro R w m n p d j
 obtain ⟨h0,h1⟩:=k2 n h0 h1
 replace f_v0:=f_v0.fr m
 replace f_v1:=f_v1.fr m
 refine HT.seq ?_
 obtain ⟨x1,q2,c⟩:=zA3 c
 refine HT.su d j (eR v0::eR v1::eB x1::eB (!x1)::[]) ?_ ?_
 exact om h0<|om h1<|op (fun Q U W H D=>zA6 call264 (zFm (q2 Z) (d.fr W.size) ((f_v0.fr W).eq (D.g 0 Z)) ((f_v1.fr W).eq (D.g 1 Z))))<|op (fun Q U W H D=>zBh (D.g 0 Z))<|oz
 intro R w m n p d j
 obtain ⟨h0,h1⟩:=k2 n h0 h1
 have h9:=p.r 3 Z
 replace f_v0:=f_v0.fr m
 replace f_v1:=f_v1.fr m
 refine HT.cond (!x1) h9 (fun c3=>?_) (fun c3=>?_)
 have c:=zAK c3 c
 refine HT.su d j (eI 0::[]) ?_ ?_
 exact op (fun Q U W H D=>zA0 Z)<|oz
 intro R w m n p d j
 have h4:=p.r 0 Z
 refine HT.ret ?_
 obtain rfl:=si c
 exact ⟨.inr Z,[R 4],⟨Z,N⟩,h4,j⟩
 have c:=zAL c3 c
 refine HT.skip ?_
 obtain ⟨x4,q5,c⟩:=zA3 c
 refine HT.su d j (eR v0::eR v1::eI x4::eI x4::[]) ?_ ?_
 exact om h0<|om h1<|op (fun Q U W H D=>zA6 call265 (zHA (q5 Z) (d.fr W.size) ((f_v0.fr W).eq (D.g 0 Z)) ((f_v1.fr W).eq (D.g 1 Z))))<|oa<|oz
 intro R w m n p d j
 obtain ⟨h0,h1⟩:=k2 n h0 h1
 have h5:=p.r 3 Z
 replace f_v0:=f_v0.fr m
 replace f_v1:=f_v1.fr m
 obtain ⟨e6,e7,e8,c⟩:=ck3 c
 obtain ⟨x9,q10,c⟩:=zA3 c
 refine HT.su d j (eI x4::eI (1000*x4)::eR v0::eI (p0.length:Int)::eR v1::eI (p1.length:Int)::eI ((p0.length:Int)+(p1.length:Int))::eI x4::eI (((p0.length:Int)+(p1.length:Int))-x4)::eI x9::eI x9::[]) ?_ ?_
 exact om h5<|op (fun Q U W H D=>zHq Z (D.g 0 Z) e6)<|om h0<|op (fun Q U W H D=>zAb (aT:=#[]) ((f_v0.fr W).eq (D.g 0 Z)) underlying46)<|om h1<|op (fun Q U W H D=>zAb (aT:=#[]) ((f_v1.fr W).eq (D.g 0 Z)) underlying46)<|op (fun Q U W H D=>zAN (D.g 0 Z) (D.g 1 Z) e7)<|om h5<|op (fun Q U W H D=>zAX (D.g 0 Z) (D.g 1 Z) e8)<|op (fun Q U W H D=>zA6 call266 (zGu (q10 Z) (d.fr W.size) (D.g 0 Z) (D.g 1 Z)))<|oa<|oz
 intro R w m n p d j
 have h4:=p.r 10 Z
 refine HT.ret ?_
 obtain rfl:=si c
 exact ⟨.inr Z,[R 4],⟨Z,N⟩,h4,j⟩
def zCi (fu:Nat) (p0:List (List UInt8)) (p1:List (List UInt8)):Option Int:=
 bd (((p0.length:Int)==0) || ((p1.length:Int)==0)) fun x1=>
 bif x1 then (
 some 0
 ) else (
 cl true (zDd fu p0 p1) fun x4=>
 some x4
 )
theorem zF0 {fu : Nat} {A : Av} {p0 : List (List UInt8)} {p1 : List (List UInt8)} {r : Int} (c : zCi fu p0 p1 = some r) {w : World} {v0 : Value} {v1 : Value} (d : AvOK A w) (h0 : Rep (eSl eStr) A w v0 p0) (h1 : Rep (eSl eStr) A w v1 p1) :
 Calls prog 181 #[v0,v1] w fun e w'=>∃ v,e = .returned v∧(v = .int .i64 r∧Fr w w'):=by
 unfold zCi at c
 obtain ⟨w0,hw0⟩:∃ w0,w0=w:=⟨_,Z⟩
 have j:Fr w0 w:=hw0 ▸ Fr.refl _
 rw [show Fr w=Fr w0 from hw0 ▸ Z]
 clear hw0
 refine zA2 [.tmp 4] func181 ntmps181 (by decide) Z Z (nb Z) ?_
 intro R hR
 have f_v0:=h0
 replace h0:R 0=v0:=hR 0 _ Z
 have f_v1:=h1
 replace h1:R 1=v1:=hR 1 _ Z
 clear hR
 refine HT.su d j (eI 0::[]) ?_ ?_
 exact op (fun Q U W H D=>zA0 Z)<|oz
 intro R w m n p d j
 obtain ⟨h0,h1⟩:=k2 n h0 h1
 replace f_v0:=f_v0.fr m
 replace f_v1:=f_v1.fr m
 refine HT.seq ?_
 refine HT.seq ?_
 obtain ⟨x1,q2,c⟩:=zAB c
 refine HT.u d j (eR v0::eI (p0.length:Int)::eB ((p0.length:Int)==0)::eB ((p0.length:Int)==0)::gR (true&&(((p0.length:Int)==0)==false)) v1::gI (true&&(((p0.length:Int)==0)==false)) (p1.length:Int)::gB (true&&(((p0.length:Int)==0)==false)) ((p1.length:Int)==0)::eB x1::[]) ?_ ?_
 exact om h0<|op (fun Q U W H D=>zAb (aT:=#[]) ((f_v0.fr W).eq (D.g 0 Z)) underlying46)<|op (fun Q U W H D=>zBA (D.g 0 Z) Z)<|ov<|gm 3 false h1<|og 3 false (fun G Q U W H D=>zAb (aT:=#[]) ((f_v1.fr W).eq (D.h 0 G Z)) underlying46)<|og 3 false (fun G Q U W H D=>zBA (D.h 0 G Z) Z)<|op (fun Q U W H D=>zAC ((p0.length:Int)==0) (D.g 0 Z) (fun hc=>by show _=Value.bool x1;rw [q2,hc];exact Z) (fun hc=>by have a2:Q 11 = .bool ((p1.length:Int)==0):=D 1 _ _ _ Z Z Z Z (zAZ Z (zAM hc));show _=Value.bool x1;rw [q2,hc];exact a2))<|oz
 intro R w m n p d j
 obtain ⟨h0,h1⟩:=k2 n h0 h1
 have h12:=p.r 7 Z
 replace f_v0:=f_v0.fr m
 replace f_v1:=f_v1.fr m
 refine HT.cond x1 h12 (fun c3=>?_) (fun c3=>?_)
 have c:=zAK c3 c
 refine HT.su d j (eI 0::[]) ?_ ?_
 exact op (fun Q U W H D=>zA0 Z)<|oz
 intro R w m n p d j
 have h4:=p.r 0 Z
 refine HT.ret ?_
 obtain rfl:=si c
 exact ⟨.inr Z,[R 4],⟨Z,N⟩,h4,j⟩
 have c:=zAL c3 c
 refine HT.skip ?_
 obtain ⟨x4,q5,c⟩:=zA3 c
 refine HT.su d j (eR v0::eR v1::eI x4::eI x4::[]) ?_ ?_
 exact om h0<|om h1<|op (fun Q U W H D=>zA6 call224 (zHD (q5 Z) (d.fr W.size) ((f_v0.fr W).eq (D.g 0 Z)) ((f_v1.fr W).eq (D.g 1 Z))))<|oa<|oz
 intro R w m n p d j
 have h4:=p.r 3 Z
 refine HT.ret ?_
 obtain rfl:=si c
 exact ⟨.inr Z,[R 4],⟨Z,N⟩,h4,j⟩
def zCa (fu:Nat) (p0:Int) (p1:Int) (p2:Int):Option Int:=
 cl true (zB9 fu p0 0 9999) fun x1=>
 cl (true&&((!x1)==false)) (zB9 fu p1 0 9999) fun x3=>
 bd ((!x1) || (!x3)) fun x5=>
 cl (true&&(x5==false)) (zB9 fu p2 1 9999) fun x7=>
 bd (x5 || (!x7)) fun x9=>
 bif x9 then (
 some 0
 ) else (
 ck (i64B (p0-p1)) <|
 ck (i64B (p1-p0)) <|
 ck (i64B (p2-(max (p0-p1) (p1-p0)))) <|
 ck (i64B (1000*(max (p2-(max (p0-p1) (p1-p0))) 0))) <|
 ck (p2 != 0) <|
 ck (i64B ((1000*(max (p2-(max (p0-p1) (p1-p0))) 0)).tdiv p2)) <|
 some ((1000*(max (p2-(max (p0-p1) (p1-p0))) 0)).tdiv p2)
 )
theorem zGA {fu : Nat} {A : Av} {p0 : Int} {p1 : Int} {p2 : Int} {r : Int} (c : zCa fu p0 p1 p2 = some r) {w : World} {v0 : Value} {v1 : Value} {v2 : Value} (d : AvOK A w) (h0 : v0 = .int .i64 p0) (h1 : v1 = .int .i64 p1) (h2 : v2 = .int .i64 p2) :
 Calls prog 225 #[v0,v1,v2] w fun e w'=>∃ v,e = .returned v∧(v = .int .i64 r∧Fr w w'):=by
 unfold zCa at c
 obtain ⟨w0,hw0⟩:∃ w0,w0=w:=⟨_,Z⟩
 have j:Fr w0 w:=hw0 ▸ Fr.refl _
 rw [show Fr w=Fr w0 from hw0 ▸ Z]
 clear hw0
 refine zA2 [.tmp 6] func225 ntmps225 (by decide) Z Z (nb Z) ?_
 intro R hR
 replace h0:R 0 = .int .i64 p0:=(hR 0 _ Z).trans h0
 replace h1:R 1 = .int .i64 p1:=(hR 1 _ Z).trans h1
 replace h2:R 2 = .int .i64 p2:=(hR 2 _ Z).trans h2
 clear hR
 refine HT.su d j (eI 0::[]) ?_ ?_
 exact op (fun Q U W H D=>zA0 Z)<|oz
 intro R w m n p d j
 obtain ⟨h0,h1,h2⟩:=k3 n h0 h1 h2
 refine HT.seq ?_
 refine HT.seq ?_
 obtain ⟨x1,q2,c⟩:=zA3 c
 obtain ⟨x3,q4,c⟩:=zA3 c
 obtain ⟨x5,q6,c⟩:=zAB c
 obtain ⟨x7,q8,c⟩:=zA3 c
 obtain ⟨x9,q10,c⟩:=zAB c
 refine HT.u d j (eI p0::eB x1::eB (!x1)::eB (!x1)::gI (true&&((!x1)==false)) p1::gB (true&&((!x1)==false)) x3::gB (true&&((!x1)==false)) (!x3)::eB x5::eB x5::gI (true&&(x5==false)) p2::gB (true&&(x5==false)) x7::gB (true&&(x5==false)) (!x7)::eB x9::[]) ?_ ?_
 exact om h0<|op (fun Q U W H D=>zA6 call94 (zBO (q2 Z) (d.fr W.size) (D.g 0 Z) Z Z))<|op (fun Q U W H D=>zBh (D.g 0 Z))<|ov<|gm 3 false h1<|og 3 false (fun G Q U W H D=>zA6 call94 (zBO (q4 G) (d.fr W.size) (D.h 0 G Z) Z Z))<|og 3 false (fun G Q U W H D=>zBh (D.h 0 G Z))<|op (fun Q U W H D=>zAC (!x1) (D.g 0 Z) (fun hc=>by show _=Value.bool x5;rw [q6,hc];exact Z) (fun hc=>by have a2:Q 14 = .bool (!x3):=D 1 _ _ _ Z Z Z Z (zAZ Z (zAM hc));show _=Value.bool x5;rw [q6,hc];exact a2))<|ov<|gm 8 false h2<|og 8 false (fun G Q U W H D=>zA6 call94 (zBO (q8 G) (d.fr W.size) (D.h 0 G Z) Z Z))<|og 8 false (fun G Q U W H D=>zBh (D.h 0 G Z))<|op (fun Q U W H D=>zAC x5 (D.g 0 Z) (fun hc=>by show _=Value.bool x9;rw [q10,hc];exact Z) (fun hc=>by have a2:Q 19 = .bool (!x7):=D 1 _ _ _ Z Z Z Z (zAZ Z (zAM hc));show _=Value.bool x9;rw [q10,hc];exact a2))<|oz
 intro R w m n p d j
 obtain ⟨h0,h1,h2⟩:=k3 n h0 h1 h2
 have h20:=p.r 12 Z
 refine HT.cond x9 h20 (fun c11=>?_) (fun c11=>?_)
 have c:=zAK c11 c
 refine HT.su d j (eI 0::[]) ?_ ?_
 exact op (fun Q U W H D=>zA0 Z)<|oz
 intro R w m n p d j
 have h6:=p.r 0 Z
 refine HT.ret ?_
 obtain rfl:=si c
 exact ⟨.inr Z,[R 6],⟨Z,N⟩,h6,j⟩
 have c:=zAL c11 c
 refine HT.skip ?_
 obtain ⟨e12,e13,c⟩:=ck2 c
 refine HT.su d j (eI p0::eI p1::eI (p0-p1)::eI p1::eI p0::eI (p1-p0)::eI (max (p0-p1) (p1-p0))::eI (max (p0-p1) (p1-p0))::[]) ?_ ?_
 exact om h0<|om h1<|op (fun Q U W H D=>zAX (D.g 0 Z) (D.g 1 Z) e12)<|om h1<|om h0<|op (fun Q U W H D=>zAX (D.g 0 Z) (D.g 1 Z) e13)<|op (fun Q U W H D=>zIK (D.g 0 Z) (D.g 1 Z))<|oa<|oz
 intro R w m n p d j
 replace h2:=k1 n h2
 have h7:=p.r 7 Z
 obtain ⟨e14,e15,e16,e17,c⟩:=ck4 c
 refine HT.su d j (eI p2::eI (max (p0-p1) (p1-p0))::eI (p2-(max (p0-p1) (p1-p0)))::eI (max (p2-(max (p0-p1) (p1-p0))) 0)::eI (1000*(max (p2-(max (p0-p1) (p1-p0))) 0))::eI p2::eI ((1000*(max (p2-(max (p0-p1) (p1-p0))) 0)).tdiv p2)::eI ((1000*(max (p2-(max (p0-p1) (p1-p0))) 0)).tdiv p2)::[]) ?_ ?_
 exact om h2<|om h7<|op (fun Q U W H D=>zAX (D.g 0 Z) (D.g 1 Z) e14)<|op (fun Q U W H D=>zIK (D.g 0 Z) Z)<|op (fun Q U W H D=>zHq Z (D.g 0 Z) e15)<|om h2<|op (fun Q U W H D=>zH0 (D.g 0 Z) (D.g 1 Z) e16 e17)<|oa<|oz
 intro R w m n p d j
 have h6:=p.r 7 Z
 refine HT.ret ?_
 obtain rfl:=si c
 exact ⟨.inr Z,[R 6],⟨Z,N⟩,h6,j⟩
def zD2 (fu:Nat) (p0:List UInt8) (p1:List UInt8):Option Int:=
 cl true (zBP fu p0) fun x1=>
 cl true (zBP fu p1) fun x3=>
 bd ((x1==0) || (x3==0)) fun x5=>
 bif x5 then (
 some 0
 ) else (
 cl true (zCa fu x1 x3 10) fun x8=>
 some x8
 )
theorem zGd {fu : Nat} {A : Av} {p0 : List UInt8} {p1 : List UInt8} {r : Int} (c : zD2 fu p0 p1 = some r) {w : World} {v0 : Value} {v1 : Value} (d : AvOK A w) (hG : GTab w) (h0 : Rep eStr A w v0 p0) (h1 : Rep eStr A w v1 p1) :
 Calls prog 182 #[v0,v1] w fun e w'=>∃ v,e = .returned v∧(v = .int .i64 r∧Fr w w'):=by
 unfold zD2 at c
 obtain ⟨w0,hw0⟩:∃ w0,w0=w:=⟨_,Z⟩
 have j:Fr w0 w:=hw0 ▸ Fr.refl _
 rw [show Fr w=Fr w0 from hw0 ▸ Z]
 have hG0:GTab w0:=hw0 ▸ hG
 clear hw0
 refine zA2 [.tmp 4] func182 ntmps182 (by decide) Z Z (nb Z) ?_
 intro R hR
 have f_v0:=h0
 replace h0:R 0=v0:=hR 0 _ Z
 have f_v1:=h1
 replace h1:R 1=v1:=hR 1 _ Z
 clear hR
 refine HT.su d j (eI 0::[]) ?_ ?_
 exact op (fun Q U W H D=>zA0 Z)<|oz
 intro R w m n p d j
 obtain ⟨h0,h1⟩:=k2 n h0 h1
 replace f_v0:=f_v0.fr m
 replace f_v1:=f_v1.fr m
 obtain ⟨x1,q2,c⟩:=zA3 c
 obtain ⟨x3,q4,c⟩:=zA3 c
 refine HT.su d j (eR v0::eI x1::eR v1::eI x3::eI x1::eI x3::[]) ?_ ?_
 exact om h0<|op (fun Q U W H D=>zA6 call166 (zEl (q2 Z) (d.fr W.size) (hG0.fr (j.trans W)) ((f_v0.fr W).eq (D.g 0 Z))))<|om h1<|op (fun Q U W H D=>zA6 call166 (zEl (q4 Z) (d.fr W.size) (hG0.fr (j.trans W)) ((f_v1.fr W).eq (D.g 0 Z))))<|oa<|oa<|oz
 intro R w m n p d j
 have h5:=p.r 4 Z
 have h6:=p.r 5 Z
 refine HT.seq ?_
 refine HT.seq ?_
 obtain ⟨x5,q6,c⟩:=zAB c
 refine HT.u d j (eI x1::eB (x1==0)::eB (x1==0)::gI (true&&((x1==0)==false)) x3::gB (true&&((x1==0)==false)) (x3==0)::eB x5::[]) ?_ ?_
 exact om h5<|op (fun Q U W H D=>zBA (D.g 0 Z) Z)<|ov<|gm 2 false h6<|og 2 false (fun G Q U W H D=>zBA (D.h 0 G Z) Z)<|op (fun Q U W H D=>zAC (x1==0) (D.g 0 Z) (fun hc=>by show _=Value.bool x5;rw [q6,hc];exact Z) (fun hc=>by have a2:Q 15 = .bool (x3==0):=D 1 _ _ _ Z Z Z Z (zAZ Z (zAM hc));show _=Value.bool x5;rw [q6,hc];exact a2))<|oz
 intro R w m n p d j
 obtain ⟨h5,h6⟩:=k2 n h5 h6
 have h16:=p.r 5 Z
 refine HT.cond x5 h16 (fun c7=>?_) (fun c7=>?_)
 have c:=zAK c7 c
 refine HT.su d j (eI 0::[]) ?_ ?_
 exact op (fun Q U W H D=>zA0 Z)<|oz
 intro R w m n p d j
 have h4:=p.r 0 Z
 refine HT.ret ?_
 obtain rfl:=si c
 exact ⟨.inr Z,[R 4],⟨Z,N⟩,h4,j⟩
 have c:=zAL c7 c
 refine HT.skip ?_
 obtain ⟨x8,q9,c⟩:=zA3 c
 refine HT.su d j (eI x1::eI x3::eI x8::eI x8::[]) ?_ ?_
 exact om h5<|om h6<|op (fun Q U W H D=>zA6 call225 (zGA (q9 Z) (d.fr W.size) (D.g 0 Z) (D.g 1 Z) Z))<|oa<|oz
 intro R w m n p d j
 have h4:=p.r 3 Z
 refine HT.ret ?_
 obtain rfl:=si c
 exact ⟨.inr Z,[R 4],⟨Z,N⟩,h4,j⟩
def zBi (fu:Nat) (p0:List UInt8) (p1:List UInt8):Option Bool:=
 cl true (zAY fu p0 p1) fun x1=>
 some x1
theorem zEE {fu : Nat} {A : Av} {p0 : List UInt8} {p1 : List UInt8} {r : Bool} (c : zBi fu p0 p1 = some r) {w : World} {v0 : Value} {v1 : Value} (d : AvOK A w) (h0 : Rep eStr A w v0 p0) (h1 : Rep eStr A w v1 p1) :
 Calls prog 226 #[v0,v1] w fun e w'=>∃ v,e = .returned v∧(v = .bool r∧Fr w w'):=by
 unfold zBi at c
 obtain ⟨w0,hw0⟩:∃ w0,w0=w:=⟨_,Z⟩
 have j:Fr w0 w:=hw0 ▸ Fr.refl _
 rw [show Fr w=Fr w0 from hw0 ▸ Z]
 clear hw0
 refine zA2 [.tmp 4] func226 ntmps226 (by decide) Z Z (nb Z) ?_
 intro R hR
 have f_v0:=h0
 replace h0:R 0=v0:=hR 0 _ Z
 have f_v1:=h1
 replace h1:R 1=v1:=hR 1 _ Z
 clear hR
 refine HT.su d j (eB false::[]) ?_ ?_
 exact op (fun Q U W H D=>zA0 Z)<|oz
 intro R w m n p d j
 obtain ⟨h0,h1⟩:=k2 n h0 h1
 replace f_v0:=f_v0.fr m
 replace f_v1:=f_v1.fr m
 obtain ⟨x1,q2,c⟩:=zA3 c
 refine HT.su d j (eR v0::eR v1::eB x1::eB x1::[]) ?_ ?_
 exact om h0<|om h1<|op (fun Q U W H D=>zA6 call267 (zCP (q2 Z) (d.fr W.size) ((f_v0.fr W).eq (D.g 0 Z)) ((f_v1.fr W).eq (D.g 1 Z))))<|oa<|oz
 intro R w m n p d j
 have h4:=p.r 3 Z
 refine HT.ret ?_
 obtain rfl:=si c
 exact ⟨.inr Z,[R 4],⟨Z,N⟩,h4,j⟩
def zBL (fu : Nat) (x1 : List UInt8) (x3 : List UInt8) : Nat → Int → Option Int
 | 0,_=>none
 | k+1,y10=>
 bd ((decide (y10<(x1.length:Int)))&&(decide (y10<(x3.length:Int)))) fun x11=>
 ck (!(true&&(x11==true)) || i64B ((x1.length:Int)-1)) <|
 ck (!(true&&(x11==true)) || i64B (((x1.length:Int)-1)-y10)) <|
 ck (!(true&&(x11==true)) || inR (((x1.length:Int)-1)-y10) x1.length) <|
 ck (!(true&&(x11==true)) || i64B ((x3.length:Int)-1)) <|
 ck (!(true&&(x11==true)) || i64B (((x3.length:Int)-1)-y10)) <|
 ck (!(true&&(x11==true)) || inR (((x3.length:Int)-1)-y10) x3.length) <|
 bd (x11&&((bAt x1 (((x1.length:Int)-1)-y10))==(bAt x3 (((x3.length:Int)-1)-y10)))) fun x19=>
 bif x19 then (
 ck (i64B (y10+1)) <|
 zBL fu x1 x3 k (y10+1)
 ) else (
 some y10
 )
def zCp (fu:Nat) (p0:List UInt8) (p1:List UInt8):Option Int:=
 cl true (zCs fu p0) fun x1=>
 cl true (zCs fu p1) fun x3=>
 cl true (zBL fu x1 x3 fu 0) fun s9=>
 bd ((decide ((x1.length:Int)<4)) || (decide ((x3.length:Int)<4))) fun x23=>
 bd (x23 || (decide (s9<4))) fun x25=>
 bif x25 then (
 some 0
 ) else (
 bif (x1==x3) then (
 some 1000
 ) else (
 cl (true&&((decide (7≤s9))==false)) (zBi fu x1 x3) fun x29=>
 bd ((decide (7≤s9)) || x29) fun x31=>
 cl (true&&(x31==false)) (zBi fu x3 x1) fun x33=>
 bd (x31 || x33) fun x35=>
 bif x35 then (
 some 800
 ) else (
 some 400
 )
 )
 )
theorem zGI {fu : Nat} {A : Av} {p0 : List UInt8} {p1 : List UInt8} {r : Int} (c : zCp fu p0 p1 = some r) {w : World} {v0 : Value} {v1 : Value} (d : AvOK A w) (h0 : Rep eStr A w v0 p0) (h1 : Rep eStr A w v1 p1) :
 Calls prog 183 #[v0,v1] w fun e w'=>∃ v,e = .returned v∧(v = .int .i64 r∧Fr w w'):=by
 unfold zCp at c
 obtain ⟨w0,hw0⟩:∃ w0,w0=w:=⟨_,Z⟩
 have j:Fr w0 w:=hw0 ▸ Fr.refl _
 rw [show Fr w=Fr w0 from hw0 ▸ Z]
 clear hw0
 refine zA2 [.tmp 4] func183 ntmps183 (by decide) Z Z (nb Z) ?_
 intro R hR
 have f_v0:=h0
 replace h0:R 0=v0:=hR 0 _ Z
 have f_v1:=h1
 replace h1:R 1=v1:=hR 1 _ Z
 clear hR
 refine HT.su d j (eI 0::[]) ?_ ?_
 exact op (fun Q U W H D=>zA0 Z)<|oz
 intro R w m n p d j
 obtain ⟨h0,h1⟩:=k2 n h0 h1
 replace f_v0:=f_v0.fr m
 replace f_v1:=f_v1.fr m
 obtain ⟨x1,q2,c⟩:=zA3 c
 obtain ⟨x3,q4,c⟩:=zA3 c
 refine HT.su d j (eR v0::eF (.rep eStr A x1)::eR v1::eF (.rep eStr A x3)::eF (.rep eStr A x1)::eF (.rep eStr A x3)::[]) ?_ ?_
 exact om h0<|op (fun Q U W H D=>zA6 call165 (zEz (q2 Z) (d.fr W.size) ((f_v0.fr W).eq (D.g 0 Z))))<|om h1<|op (fun Q U W H D=>zA6 call165 (zEz (q4 Z) (d.fr W.size) ((f_v1.fr W).eq (D.g 0 Z))))<|op (fun Q U W H D=>zA0 (D.g 0 Z))<|op (fun Q U W H D=>zA0 (D.g 0 Z))<|oz
 intro R w m n p d j
 obtain ⟨u5,h5,f_u5⟩:∃ u,R 5=u∧Rep eStr A w u x1:=⟨_,Z,p 4 _ _ Z Z Z⟩
 obtain ⟨u6,h6,f_u6⟩:∃ u,R 6=u∧Rep eStr A w u x3:=⟨_,Z,p 5 _ _ Z Z Z⟩
 refine HT.su d j (eI 0::[]) ?_ ?_
 exact op (fun Q U W H D=>zA0 Z)<|oz
 intro R w m n p d j
 obtain ⟨h5,h6⟩:=k2 n h5 h6
 have h7:=p.r 0 Z
 replace f_u5:=f_u5.fr m
 replace f_u6:=f_u6.fr m
 obtain ⟨rl7,q8,c⟩:=zA3 c
 replace q8:=q8 Z
 refine HT.cut (fun R w=>∃ (s9:Int),rl7=s9∧AvOK A w∧Fr w0 w∧R 5=u5∧R 6=u6∧R 7 = .int .i64 s9∧Rep eStr A w u5 x1∧Rep eStr A w u6 x3) ?_ ?_
 refine HT.block ?_
 refine HT.loop (fun k R w=>∃ (y10:Int),zBL fu x1 x3 k y10=some rl7∧AvOK A w∧Fr w0 w∧R 5=u5∧R 6=u6∧R 7 = .int .i64 y10∧Rep eStr A w u5 x1∧Rep eStr A w u6 x3) fu ⟨_,q8,d,j,h5,h6,h7,f_u5,f_u6⟩ ?_
 have hr0:=c;clear c q8
 rintro k R w ⟨y10,c,d,j,h5,h6,h7,f_u5,f_u6⟩
 rcases k with _ | k
 cases (show none=some _ from c)
 rw [zBL] at c
 refine HT.seq ?_
 refine HT.seq ?_
 obtain ⟨x11,q12,c⟩:=zAB c
 obtain ⟨e13,e14,e15,e16,c⟩:=ck4 c
 obtain ⟨e17,e18,c⟩:=ck2 c
 obtain ⟨x19,q20,c⟩:=zAB c
 refine HT.draw (by kernel_rfl) (l:=eI y10::eR u5::eI (x1.length:Int)::eB (decide (y10<(x1.length:Int)))::eB (decide (y10<(x1.length:Int)))::gI (true&&((decide (y10<(x1.length:Int)))==true)) y10::gR (true&&((decide (y10<(x1.length:Int)))==true)) u6::gI (true&&((decide (y10<(x1.length:Int)))==true)) (x3.length:Int)::gB (true&&((decide (y10<(x1.length:Int)))==true)) (decide (y10<(x3.length:Int)))::eB x11::eB x11::gR (true&&(x11==true)) u5::gR (true&&(x11==true)) u5::gI (true&&(x11==true)) (x1.length:Int)::gI (true&&(x11==true)) ((x1.length:Int)-1)::gI (true&&(x11==true)) y10::gI (true&&(x11==true)) (((x1.length:Int)-1)-y10)::gU (true&&(x11==true)) (bAt x1 (((x1.length:Int)-1)-y10))::gR (true&&(x11==true)) u6::gR (true&&(x11==true)) u6::gI (true&&(x11==true)) (x3.length:Int)::gI (true&&(x11==true)) ((x3.length:Int)-1)::gI (true&&(x11==true)) y10::gI (true&&(x11==true)) (((x3.length:Int)-1)-y10)::gU (true&&(x11==true)) (bAt x3 (((x3.length:Int)-1)-y10))::gB (true&&(x11==true)) ((bAt x1 (((x1.length:Int)-1)-y10))==(bAt x3 (((x3.length:Int)-1)-y10)))::eB x19::[]) (tl:=[]) (by kernel_rfl) (by kernel_rfl) (by kernel_rfl) (by kernel_rfl) ?_ ?_
 exact om h7<|om h5<|op (fun Q U W H D=>zAG ((f_u5.fr W).eq (D.g 0 Z)) underlying9)<|op (fun Q U W H D=>zAf (D.g 0 Z) (D.g 1 Z))<|ov<|gm 4 true h7<|gm 4 true h6<|og 4 true (fun G Q U W H D=>zAG ((f_u6.fr W).eq (D.h 0 G Z)) underlying9)<|og 4 true (fun G Q U W H D=>zAf (D.h 0 G Z) (D.h 1 G Z))<|op (fun Q U W H D=>zAC (decide (y10<(x1.length:Int))) (D.g 0 Z) (fun hc=>by have a1:Q 20 = .bool (decide (y10<(x3.length:Int))):=D 1 _ _ _ Z Z Z Z (zAZ Z (zAM hc));show _=Value.bool x11;rw [q12,hc];exact a1) (fun hc=>by show _=Value.bool x11;rw [q12,hc];exact Z))<|ov<|gm 10 true h5<|gm 10 true h5<|og 10 true (fun G Q U W H D=>zAG ((f_u5.fr W).eq (D.h 0 G Z)) underlying9)<|og 10 true (fun G Q U W H D=>zAX (D.h 0 G Z) Z (gd e13 G))<|gm 10 true h7<|og 10 true (fun G Q U W H D=>zAX (D.h 0 G Z) (D.h 1 G Z) (gd e14 G))<|og 10 true (fun G Q U W H D=>zA8 ((f_u5.fr W).eq (D.h 0 G Z)) (D.h 1 G Z) underlying9 (gd e15 G))<|gm 10 true h6<|gm 10 true h6<|og 10 true (fun G Q U W H D=>zAG ((f_u6.fr W).eq (D.h 0 G Z)) underlying9)<|og 10 true (fun G Q U W H D=>zAX (D.h 0 G Z) Z (gd e16 G))<|gm 10 true h7<|og 10 true (fun G Q U W H D=>zAX (D.h 0 G Z) (D.h 1 G Z) (gd e17 G))<|og 10 true (fun G Q U W H D=>zA8 ((f_u6.fr W).eq (D.h 0 G Z)) (D.h 1 G Z) underlying9 (gd e18 G))<|og 10 true (fun G Q U W H D=>zBA (D.h 0 G Z) (D.h 1 G Z))<|op (fun Q U W H D=>zAC x11 (D.g 0 Z) (fun hc=>by have a1:Q 37 = .bool ((bAt x1 (((x1.length:Int)-1)-y10))==(bAt x3 (((x3.length:Int)-1)-y10))):=D 1 _ _ _ Z Z Z Z (zAZ Z (zAM hc));show _=Value.bool x19;rw [q20,hc];exact a1) (fun hc=>by show _=Value.bool x19;rw [q20,hc];exact Z))<|oz
 intro R w m n p
 obtain ⟨h5,h6,h7⟩:=k3 n h5 h6 h7
 have h38:=p.r 26 Z
 replace f_u5:=f_u5.fr m
 replace f_u6:=f_u6.fr m
 replace d:=d.fr m.size
 replace j:=j.trans m
 refine HT.cond x19 h38 (fun c21=>?_) (fun c21=>?_)
 have c:=zAK c21 c
 refine HT.skip ?_
 refine HT.block ?_
 obtain ⟨e22,c⟩:=zA4 c
 refine HT.u d j (eI y10::eI (y10+1)::eI (y10+1)::[]) ?_ ?_
 exact om h7<|op (fun Q U W H D=>zAN (D.g 0 Z) Z e22)<|oa<|oz
 intro R w m n p d j
 obtain ⟨h5,h6⟩:=k2 n h5 h6
 have h7:=p.r 2 Z
 replace f_u5:=f_u5.fr m
 replace f_u6:=f_u6.fr m
 exact ei k (And.intro (Nat.lt_succ_self k) ⟨_,c,d,j,h5,h6,h7,f_u5,f_u6⟩)
 have c:=zAL c21 c
 refine HT.exit ?_
 obtain rfl:=si c
 exact ei _ ⟨Z,d,j,h5,h6,h7,f_u5,f_u6⟩
 rintro R w ⟨s9,es,d,j,h5,h6,h7,f_u5,f_u6⟩
 obtain rfl:=es.symm
 refine HT.seq ?_
 refine HT.block ?_
 refine HT.seq ?_
 obtain ⟨x23,q24,c⟩:=zAB c
 obtain ⟨x25,q26,c⟩:=zAB c
 refine HT.u d j (eR u5::eI (x1.length:Int)::eB (decide ((x1.length:Int)<4))::eB (decide ((x1.length:Int)<4))::gR (true&&((decide ((x1.length:Int)<4))==false)) u6::gI (true&&((decide ((x1.length:Int)<4))==false)) (x3.length:Int)::gB (true&&((decide ((x1.length:Int)<4))==false)) (decide ((x3.length:Int)<4))::eB x23::eB x23::gI (true&&(x23==false)) s9::gB (true&&(x23==false)) (decide (s9<4))::eB x25::eB x25::[]) ?_ ?_
 exact om h5<|op (fun Q U W H D=>zAG ((f_u5.fr W).eq (D.g 0 Z)) underlying9)<|op (fun Q U W H D=>zAf (D.g 0 Z) Z)<|ov<|gm 3 false h6<|og 3 false (fun G Q U W H D=>zAG ((f_u6.fr W).eq (D.h 0 G Z)) underlying9)<|og 3 false (fun G Q U W H D=>zAf (D.h 0 G Z) Z)<|op (fun Q U W H D=>zAC (decide ((x1.length:Int)<4)) (D.g 0 Z) (fun hc=>by show _=Value.bool x23;rw [q24,hc];exact Z) (fun hc=>by have a2:Q 48 = .bool (decide ((x3.length:Int)<4)):=D 1 _ _ _ Z Z Z Z (zAZ Z (zAM hc));show _=Value.bool x23;rw [q24,hc];exact a2))<|ov<|gm 8 false h7<|og 8 false (fun G Q U W H D=>zAf (D.h 0 G Z) Z)<|op (fun Q U W H D=>zAC x23 (D.g 0 Z) (fun hc=>by show _=Value.bool x25;rw [q26,hc];exact Z) (fun hc=>by have a2:Q 52 = .bool (decide (s9<4)):=D 1 _ _ _ Z Z Z Z (zAZ Z (zAM hc));show _=Value.bool x25;rw [q26,hc];exact a2))<|oa<|oz
 intro R w m n p d j
 obtain ⟨h5,h6,h7⟩:=k3 n h5 h6 h7
 have h41:=p.r 12 Z
 replace f_u5:=f_u5.fr m
 replace f_u6:=f_u6.fr m
 refine HT.cond x25 h41 (fun c27=>?_) (fun c27=>?_)
 have c:=zAK c27 c
 refine HT.su d j (eI 0::[]) ?_ ?_
 exact op (fun Q U W H D=>zA0 Z)<|oz
 intro R w m n p d j
 have h4:=p.r 0 Z
 refine HT.ret ?_
 obtain rfl:=si c
 exact ⟨.inr Z,[R 4],⟨Z,N⟩,h4,j⟩
 have c:=zAL c27 c
 refine HT.su d j (eR u5::eR u6::eB (x1==x3)::eB (x1==x3)::[]) ?_ ?_
 exact om h5<|om h6<|op (fun Q U W H D=>zB4 ((f_u5.fr W).eq (D.g 0 Z)) ((f_u6.fr W).eq (D.g 1 Z)))<|oa<|oz
 intro R w m n p d j
 obtain ⟨h5,h6,h7⟩:=k3 n h5 h6 h7
 have h54:=p.r 3 Z
 replace f_u5:=f_u5.fr m
 replace f_u6:=f_u6.fr m
 refine HT.cond (x1==x3) h54 (fun c28=>?_) (fun c28=>?_)
 have c:=zAK c28 c
 refine HT.su d j (eI 1000::[]) ?_ ?_
 exact op (fun Q U W H D=>zA0 Z)<|oz
 intro R w m n p d j
 have h4:=p.r 0 Z
 refine HT.ret ?_
 obtain rfl:=si c
 exact ⟨.inr Z,[R 4],⟨Z,N⟩,h4,j⟩
 have c:=zAL c28 c
 refine HT.seq ?_
 obtain ⟨x29,q30,c⟩:=zA3 c
 obtain ⟨x31,q32,c⟩:=zAB c
 obtain ⟨x33,q34,c⟩:=zA3 c
 obtain ⟨x35,q36,c⟩:=zAB c
 refine HT.u d j (eI s9::eB (decide (7≤s9))::eB (decide (7≤s9))::gR (true&&((decide (7≤s9))==false)) u5::gR (true&&((decide (7≤s9))==false)) u6::gB (true&&((decide (7≤s9))==false)) x29::eB x31::eB x31::gR (true&&(x31==false)) u6::gR (true&&(x31==false)) u5::gB (true&&(x31==false)) x33::eB x35::eB x35::[]) ?_ ?_
 exact om h7<|op (fun Q U W H D=>zDt (D.g 0 Z) Z)<|ov<|gm 2 false h5<|gm 2 false h6<|og 2 false (fun G Q U W H D=>zA6 call226 (zEE (q30 G) (d.fr W.size) ((f_u5.fr W).eq (D.h 0 G Z)) ((f_u6.fr W).eq (D.h 1 G Z))))<|op (fun Q U W H D=>zAC (decide (7≤s9)) (D.g 0 Z) (fun hc=>by show _=Value.bool x31;rw [q32,hc];exact Z) (fun hc=>by have a2:Q 64 = .bool x29:=D 1 _ _ _ Z Z Z Z (zAZ Z (zAM hc));show _=Value.bool x31;rw [q32,hc];exact a2))<|ov<|gm 7 false h6<|gm 7 false h5<|og 7 false (fun G Q U W H D=>zA6 call226 (zEE (q34 G) (d.fr W.size) ((f_u6.fr W).eq (D.h 0 G Z)) ((f_u5.fr W).eq (D.h 1 G Z))))<|op (fun Q U W H D=>zAC x31 (D.g 0 Z) (fun hc=>by show _=Value.bool x35;rw [q36,hc];exact Z) (fun hc=>by have a2:Q 69 = .bool x33:=D 1 _ _ _ Z Z Z Z (zAZ Z (zAM hc));show _=Value.bool x35;rw [q36,hc];exact a2))<|oa<|oz
 intro R w m n p d j
 have h58:=p.r 12 Z
 refine HT.cond x35 h58 (fun c37=>?_) (fun c37=>?_)
 have c:=zAK c37 c
 refine HT.su d j (eI 800::[]) ?_ ?_
 exact op (fun Q U W H D=>zA0 Z)<|oz
 intro R w m n p d j
 have h4:=p.r 0 Z
 refine HT.ret ?_
 obtain rfl:=si c
 exact ⟨.inr Z,[R 4],⟨Z,N⟩,h4,j⟩
 have c:=zAL c37 c
 refine HT.skip ?_
 refine HT.su d j (eI 400::[]) ?_ ?_
 exact op (fun Q U W H D=>zA0 Z)<|oz
 intro R w m n p d j
 have h4:=p.r 0 Z
 refine HT.ret ?_
 obtain rfl:=si c
 exact ⟨.inr Z,[R 4],⟨Z,N⟩,h4,j⟩
def zE0 (fu:Nat) (p0:zAA) (p1:zAA):Option (List Int):=
 ck (inR 0 p0.2.2.2.length) <|
 ck (inR 0 p1.2.2.2.length) <|
 cl true (zCY fu (gtD p0.2.2.2 0) (gtD p1.2.2.2 0)) fun x5=>
 ck (inR 0 p0.2.2.2.length) <|
 cl true (zCe fu (gtD p0.2.2.2 0)) fun x8=>
 ck (inR 0 p1.2.2.2.length) <|
 cl true (zCe fu (gtD p1.2.2.2 0)) fun x11=>
 cl true (zCi fu x8 x11) fun x13=>
 ck (inR 0 p0.2.2.2.length) <|
 cl true (zC1 fu (gtD p0.2.2.2 0)) fun x16=>
 ck (inR 0 p1.2.2.2.length) <|
 cl true (zC1 fu (gtD p1.2.2.2 0)) fun x19=>
 cl true (zCi fu x16 x19) fun x21=>
 ck (inR 1 p0.2.2.2.length) <|
 ck (inR 1 p1.2.2.2.length) <|
 cl true (zCY fu (gtD p0.2.2.2 1) (gtD p1.2.2.2 1)) fun x25=>
 ck (inR 2 p0.2.2.2.length) <|
 ck (inR 2 p1.2.2.2.length) <|
 cl true (zD2 fu (gtD p0.2.2.2 2) (gtD p1.2.2.2 2)) fun x29=>
 ck (inR 3 p0.2.2.2.length) <|
 ck (inR 3 p1.2.2.2.length) <|
 cl true (zCp fu (gtD p0.2.2.2 3) (gtD p1.2.2.2 3)) fun x33=>
 some ([x5,x13,x21,x25,x29,x33]:List Int)
theorem zGp {fu : Nat} {A0 : Av} {p0 : zAA} {p1 : zAA} {r : List Int} (c : zE0 fu p0 p1 = some r) {w : World} {v0 : Value} {v1 : Value} (d : AvOK A0 w) (hG : GTab w) (h0 : Rep zA1 A0 w v0 p0) (h1 : Rep zA1 A0 w v1 p1) :
 Calls prog 125 #[v0,v1] w fun e w'=>∃ v,e = .returned v∧((Res.vec w.heap.size 3 (eInt .i64) r).ok (addA A0 v) v w'∧Fr w w'):=by
 unfold zE0 at c
 obtain ⟨w0,hw0⟩:∃ w0,w0=w:=⟨_,Z⟩
 have j:Fr w0 w:=hw0 ▸ Fr.refl _
 have C:∀ b o,A0 b o→b<w0.heap.size:=fun b o h=>hw0 ▸ d b o h
 have hA00:AvOK A0 w0:=C
 rw [show w.heap.size=w0.heap.size from hw0 ▸ Z]
 rw [show Fr w=Fr w0 from hw0 ▸ Z]
 have hG0:GTab w0:=hw0 ▸ hG
 clear hw0
 obtain ⟨A,hAe⟩:∃ A,A=A0:=⟨_,Z⟩
 have B:∀ b o,A0 b o→A b o:=fun b o h=>hAe ▸ h
 replace d:AvOK A w:=hAe ▸ d
 have q:IniOK [] A w:=IniOK.nil
 refine zA2 [.tmp 4] func125 ntmps125 (by decide) Z Z (nb Z) ?_
 intro R hR
 have f_v0:Rep zA1 A w v0 p0:=hAe ▸ h0
 replace h0:R 0=v0:=hR 0 _ Z
 have f_v1:Rep zA1 A w v1 p1:=hAe ▸ h1
 replace h1:R 1=v1:=hR 1 _ Z
 clear hR hAe
 refine HT.sx [] (⟨_,true,[],some (.box w0.heap.size 51 zA1 p0),true,fun A=>.any⟩::⟨_,true,[],some (.box w0.heap.size 51 zA1 p1),true,fun A=>.any⟩::rA::[]) (ua (ua (ua (UAll.nil)))) q d ?_ ?_
 exact rc (OblR.made _ Z Z Z Z fun V Q U O D=>by have a0:Q 0=v0:=(O.old 0 Z).trans h0;have ra0:=(f_v0.stp O.stp).eq a0;exact zDE ra0 (Nat.le_trans j.size O.ch.size))<|rc (OblR.made _ Z Z Z Z fun V Q U O D=>by have a0:Q 1=v1:=(O.old 1 Z).trans h1;have ra0:=(f_v1.stp O.stp).eq a0;exact zDE ra0 (Nat.le_trans j.size O.ch.size))<|rp (fun V Q U O D=>zA0 N)<|rz
 intro done ρ σ A R w y s
 obtain ⟨b2_0,e_b2_0⟩:=s.boxv y 0 Z Z
 have h2:=s.ov y 0 0 e_b2_0
 obtain ⟨b3_1,e_b3_1⟩:=s.boxv y 1 Z Z
 have h3:=s.ov y 1 1 e_b3_1
 obtain ⟨B,j,d⟩:=s.s B C j q N
 replace q:=s.left y [(0,ob (.pointer (some ⟨b2_0,0,none⟩)) (.box w0.heap.size 51 zA1 p0)),(1,ob (.pointer (some ⟨b3_1,0,none⟩)) (.box w0.heap.size 51 zA1 p1))] ⟨Z,Z,e_b2_0,Z,Z,⟨Z,Z,e_b3_1,Z,Z,N⟩⟩
 refine HT.seq ?_
 obtain ⟨e3,e4,c⟩:=ck2 c
 obtain ⟨x5,q6,c⟩:=zA3 c
 obtain ⟨e7,c⟩:=zA4 c
 obtain ⟨x8,q9,c⟩:=zA3 c
 obtain ⟨e10,c⟩:=zA4 c
 obtain ⟨x11,q12,c⟩:=zA3 c
 obtain ⟨x13,q14,c⟩:=zA3 c
 obtain ⟨e15,c⟩:=zA4 c
 obtain ⟨x16,q17,c⟩:=zA3 c
 obtain ⟨e18,c⟩:=zA4 c
 obtain ⟨x19,q20,c⟩:=zA3 c
 obtain ⟨x21,q22,c⟩:=zA3 c
 obtain ⟨e23,e24,c⟩:=ck2 c
 obtain ⟨x25,q26,c⟩:=zA3 c
 obtain ⟨e27,e28,c⟩:=ck2 c
 obtain ⟨x29,q30,c⟩:=zA3 c
 obtain ⟨e31,e32,c⟩:=ck2 c
 obtain ⟨x33,q34,c⟩:=zA3 c
 refine HT.drawR [ob (.pointer (some ⟨b2_0,0,none⟩)) (.box w0.heap.size 51 zA1 p0),ob (.pointer (some ⟨b3_1,0,none⟩)) (.box w0.heap.size 51 zA1 p1)] (rR (.pointer (some ⟨b2_0,3,none⟩))::(rF fun A=>.rep (eSl eStr) A p0.2.2.2)::(rF fun A=>.qtr eStr A (gtD p0.2.2.2 0))::(rF fun A=>.rep eStr A (gtD p0.2.2.2 0))::rR (.pointer (some ⟨b3_1,3,none⟩))::(rF fun A=>.rep (eSl eStr) A p1.2.2.2)::(rF fun A=>.qtr eStr A (gtD p1.2.2.2 0))::(rF fun A=>.rep eStr A (gtD p1.2.2.2 0))::rI x5::rR (.pointer (some ⟨b2_0,3,none⟩))::(rF fun A=>.rep (eSl eStr) A p0.2.2.2)::(rF fun A=>.qtr eStr A (gtD p0.2.2.2 0))::(rF fun A=>.rep eStr A (gtD p0.2.2.2 0))::(rF fun A=>.rep (eSl eStr) A x8)::rR (.pointer (some ⟨b3_1,3,none⟩))::(rF fun A=>.rep (eSl eStr) A p1.2.2.2)::(rF fun A=>.qtr eStr A (gtD p1.2.2.2 0))::(rF fun A=>.rep eStr A (gtD p1.2.2.2 0))::(rF fun A=>.rep (eSl eStr) A x11)::rI x13::rR (.pointer (some ⟨b2_0,3,none⟩))::(rF fun A=>.rep (eSl eStr) A p0.2.2.2)::(rF fun A=>.qtr eStr A (gtD p0.2.2.2 0))::(rF fun A=>.rep eStr A (gtD p0.2.2.2 0))::(rF fun A=>.rep (eSl eStr) A x16)::rR (.pointer (some ⟨b3_1,3,none⟩))::(rF fun A=>.rep (eSl eStr) A p1.2.2.2)::(rF fun A=>.qtr eStr A (gtD p1.2.2.2 0))::(rF fun A=>.rep eStr A (gtD p1.2.2.2 0))::(rF fun A=>.rep (eSl eStr) A x19)::rI x21::rR (.pointer (some ⟨b2_0,3,none⟩))::(rF fun A=>.rep (eSl eStr) A p0.2.2.2)::(rF fun A=>.qtr eStr A (gtD p0.2.2.2 1))::(rF fun A=>.rep eStr A (gtD p0.2.2.2 1))::rR (.pointer (some ⟨b3_1,3,none⟩))::(rF fun A=>.rep (eSl eStr) A p1.2.2.2)::(rF fun A=>.qtr eStr A (gtD p1.2.2.2 1))::(rF fun A=>.rep eStr A (gtD p1.2.2.2 1))::rI x25::rR (.pointer (some ⟨b2_0,3,none⟩))::(rF fun A=>.rep (eSl eStr) A p0.2.2.2)::(rF fun A=>.qtr eStr A (gtD p0.2.2.2 2))::(rF fun A=>.rep eStr A (gtD p0.2.2.2 2))::rR (.pointer (some ⟨b3_1,3,none⟩))::(rF fun A=>.rep (eSl eStr) A p1.2.2.2)::(rF fun A=>.qtr eStr A (gtD p1.2.2.2 2))::(rF fun A=>.rep eStr A (gtD p1.2.2.2 2))::rI x29::rR (.pointer (some ⟨b2_0,3,none⟩))::(rF fun A=>.rep (eSl eStr) A p0.2.2.2)::(rF fun A=>.qtr eStr A (gtD p0.2.2.2 3))::(rF fun A=>.rep eStr A (gtD p0.2.2.2 3))::rR (.pointer (some ⟨b3_1,3,none⟩))::(rF fun A=>.rep (eSl eStr) A p1.2.2.2)::(rF fun A=>.qtr eStr A (gtD p1.2.2.2 3))::(rF fun A=>.rep eStr A (gtD p1.2.2.2 3))::rI x33::⟨_,true,[],some (.vec w0.heap.size 3 (eInt .i64) ([x5,x13,x21,x25,x29,x33]:List Int)),true,fun A=>.any⟩::⟨_,true,[60],some (.vec w0.heap.size 3 (eInt .i64) ([x5,x13,x21,x25,x29,x33]:List Int)),true,fun A=>.any⟩::[]) (by kernel_rfl) (by kernel_rfl) (by kernel_rfl) (Wf.mk' (by kernel_rfl) (ur (up (UAll.cons zBG (up (ur (up (UAll.cons zBG (up (ur (ur (up (UAll.cons zBG (up (up (ur (up (UAll.cons zBG (up (up (ur (ur (up (UAll.cons zBG (up (up (ur (up (UAll.cons zBG (up (up (ur (ur (up (UAll.cons zBG (up (ur (up (UAll.cons zBG (up (ur (ur (up (UAll.cons zBG (up (ur (up (UAll.cons zBG (up (ur (ur (up (UAll.cons zBG (up (ur (up (UAll.cons zBG (up (ur (ua (ua (UAll.nil))))))))))))))))))))))))))))))))))))))))))))))))))))))))))))) (by kernel_rfl) (by kernel_rfl)) q d ?_ ?_
 exact rp (fun V Q U O D=>zA9 ((O.old 2 Z).trans h2) zCR sizeOf46 (by decide) Z)<|rp (fun V Q U O D=>(zAE (O.rd 0 _ Z Z) (D.g 0 Z) zAO Z isAgg46 sizeOf46))<|rp (fun V Q U O D=>zA7 (D.g 0 Z) Z underlying46 sizeOf9 e3)<|rp (fun V Q U O D=>(zAQ (QRep.ptr (D.g 0 Z)) isAgg9 sizeOf9))<|rp (fun V Q U O D=>zA9 ((O.old 3 Z).trans h3) zCR sizeOf46 (by decide) Z)<|rp (fun V Q U O D=>(zAE (O.rd 1 _ Z Z) (D.g 0 Z) zAO Z isAgg46 sizeOf46))<|rp (fun V Q U O D=>zA7 (D.g 0 Z) Z underlying46 sizeOf9 e4)<|rp (fun V Q U O D=>(zAQ (QRep.ptr (D.g 0 Z)) isAgg9 sizeOf9))<|rp (fun V Q U O D=>zA6 call180 (zEu (q6 Z) O.av (hG0.fr (j.tr O.ch (q.ge (⟨Z,⟨Z,N⟩⟩)))) (D.g 0 Z) (D.g 1 Z)))<|rp (fun V Q U O D=>zA9 ((O.old 2 Z).trans h2) zCR sizeOf46 (by decide) Z)<|rp (fun V Q U O D=>(zAE (O.rd 0 _ Z Z) (D.g 0 Z) zAO Z isAgg46 sizeOf46))<|rp (fun V Q U O D=>zA7 (D.g 0 Z) Z underlying46 sizeOf9 e7)<|rp (fun V Q U O D=>(zAQ (QRep.ptr (D.g 0 Z)) isAgg9 sizeOf9))<|rp (fun V Q U O D=>zA6 call167 (zEG (q9 Z) O.av (hG0.fr (j.tr O.ch (q.ge (⟨Z,⟨Z,N⟩⟩)))) (D.g 0 Z)))<|rp (fun V Q U O D=>zA9 ((O.old 3 Z).trans h3) zCR sizeOf46 (by decide) Z)<|rp (fun V Q U O D=>(zAE (O.rd 1 _ Z Z) (D.g 0 Z) zAO Z isAgg46 sizeOf46))<|rp (fun V Q U O D=>zA7 (D.g 0 Z) Z underlying46 sizeOf9 e10)<|rp (fun V Q U O D=>(zAQ (QRep.ptr (D.g 0 Z)) isAgg9 sizeOf9))<|rp (fun V Q U O D=>zA6 call167 (zEG (q12 Z) O.av (hG0.fr (j.tr O.ch (q.ge (⟨Z,⟨Z,N⟩⟩)))) (D.g 0 Z)))<|rp (fun V Q U O D=>zA6 call181 (zF0 (q14 Z) O.av (D.g 0 Z) (D.g 1 Z)))<|rp (fun V Q U O D=>zA9 ((O.old 2 Z).trans h2) zCR sizeOf46 (by decide) Z)<|rp (fun V Q U O D=>(zAE (O.rd 0 _ Z Z) (D.g 0 Z) zAO Z isAgg46 sizeOf46))<|rp (fun V Q U O D=>zA7 (D.g 0 Z) Z underlying46 sizeOf9 e15)<|rp (fun V Q U O D=>(zAQ (QRep.ptr (D.g 0 Z)) isAgg9 sizeOf9))<|rp (fun V Q U O D=>zA6 call164 (zEa (q17 Z) O.av (hG0.fr (j.tr O.ch (q.ge (⟨Z,⟨Z,N⟩⟩)))) (D.g 0 Z)))<|rp (fun V Q U O D=>zA9 ((O.old 3 Z).trans h3) zCR sizeOf46 (by decide) Z)<|rp (fun V Q U O D=>(zAE (O.rd 1 _ Z Z) (D.g 0 Z) zAO Z isAgg46 sizeOf46))<|rp (fun V Q U O D=>zA7 (D.g 0 Z) Z underlying46 sizeOf9 e18)<|rp (fun V Q U O D=>(zAQ (QRep.ptr (D.g 0 Z)) isAgg9 sizeOf9))<|rp (fun V Q U O D=>zA6 call164 (zEa (q20 Z) O.av (hG0.fr (j.tr O.ch (q.ge (⟨Z,⟨Z,N⟩⟩)))) (D.g 0 Z)))<|rp (fun V Q U O D=>zA6 call181 (zF0 (q22 Z) O.av (D.g 0 Z) (D.g 1 Z)))<|rp (fun V Q U O D=>zA9 ((O.old 2 Z).trans h2) zCR sizeOf46 (by decide) Z)<|rp (fun V Q U O D=>(zAE (O.rd 0 _ Z Z) (D.g 0 Z) zAO Z isAgg46 sizeOf46))<|rp (fun V Q U O D=>zA7 (D.g 0 Z) Z underlying46 sizeOf9 e23)<|rp (fun V Q U O D=>(zAQ (QRep.ptr (D.g 0 Z)) isAgg9 sizeOf9))<|rp (fun V Q U O D=>zA9 ((O.old 3 Z).trans h3) zCR sizeOf46 (by decide) Z)<|rp (fun V Q U O D=>(zAE (O.rd 1 _ Z Z) (D.g 0 Z) zAO Z isAgg46 sizeOf46))<|rp (fun V Q U O D=>zA7 (D.g 0 Z) Z underlying46 sizeOf9 e24)<|rp (fun V Q U O D=>(zAQ (QRep.ptr (D.g 0 Z)) isAgg9 sizeOf9))<|rp (fun V Q U O D=>zA6 call180 (zEu (q26 Z) O.av (hG0.fr (j.tr O.ch (q.ge (⟨Z,⟨Z,N⟩⟩)))) (D.g 0 Z) (D.g 1 Z)))<|rp (fun V Q U O D=>zA9 ((O.old 2 Z).trans h2) zCR sizeOf46 (by decide) Z)<|rp (fun V Q U O D=>(zAE (O.rd 0 _ Z Z) (D.g 0 Z) zAO Z isAgg46 sizeOf46))<|rp (fun V Q U O D=>zA7 (D.g 0 Z) Z underlying46 sizeOf9 e27)<|rp (fun V Q U O D=>(zAQ (QRep.ptr (D.g 0 Z)) isAgg9 sizeOf9))<|rp (fun V Q U O D=>zA9 ((O.old 3 Z).trans h3) zCR sizeOf46 (by decide) Z)<|rp (fun V Q U O D=>(zAE (O.rd 1 _ Z Z) (D.g 0 Z) zAO Z isAgg46 sizeOf46))<|rp (fun V Q U O D=>zA7 (D.g 0 Z) Z underlying46 sizeOf9 e28)<|rp (fun V Q U O D=>(zAQ (QRep.ptr (D.g 0 Z)) isAgg9 sizeOf9))<|rp (fun V Q U O D=>zA6 call182 (zGd (q30 Z) O.av (hG0.fr (j.tr O.ch (q.ge (⟨Z,⟨Z,N⟩⟩)))) (D.g 0 Z) (D.g 1 Z)))<|rp (fun V Q U O D=>zA9 ((O.old 2 Z).trans h2) zCR sizeOf46 (by decide) Z)<|rp (fun V Q U O D=>(zAE (O.rd 0 _ Z Z) (D.g 0 Z) zAO Z isAgg46 sizeOf46))<|rp (fun V Q U O D=>zA7 (D.g 0 Z) Z underlying46 sizeOf9 e31)<|rp (fun V Q U O D=>(zAQ (QRep.ptr (D.g 0 Z)) isAgg9 sizeOf9))<|rp (fun V Q U O D=>zA9 ((O.old 3 Z).trans h3) zCR sizeOf46 (by decide) Z)<|rp (fun V Q U O D=>(zAE (O.rd 1 _ Z Z) (D.g 0 Z) zAO Z isAgg46 sizeOf46))<|rp (fun V Q U O D=>zA7 (D.g 0 Z) Z underlying46 sizeOf9 e32)<|rp (fun V Q U O D=>(zAQ (QRep.ptr (D.g 0 Z)) isAgg9 sizeOf9))<|rp (fun V Q U O D=>zA6 call183 (zGI (q34 Z) O.av (D.g 0 Z) (D.g 1 Z)))<|rc (OblR.made _ Z Z Z Z fun V Q U O D=>by have a0:Q 13 = .int .i64 x5:=D.g 0 Z;have a1:Q 24 = .int .i64 x13:=D.g 1 Z;have a2:Q 35 = .int .i64 x21:=D.g 2 Z;have a3:Q 44 = .int .i64 x25:=D.g 3 Z;have a4:Q 53 = .int .i64 x29:=D.g 4 Z;have a5:Q 62 = .int .i64 x33:=D.g 5 Z;exact zBb [_,_,_,_,_,_] (E:=eInt .i64) ⟨(zAe.eq a0),⟨(zAe.eq a1),⟨(zAe.eq a2),⟨(zAe.eq a3),⟨(zAe.eq a4),⟨(zAe.eq a5),N⟩⟩⟩⟩⟩⟩ underlying27 sizeOf3 zeroValue3 Z Z Z (Nat.le_trans j.size O.ch.size))<|rc (OblR.took 60 _ _ Z Z Z Z Z fun V Q U O D u hok hav hin hop hds=>by exact zAH (hop _ _ Z Z Z Z).symm hok hav)<|rz
 intro done ρ σ A R w y s
 have z35:=s.inivR 0 Z
 have z36:=s.inivR 1 Z
 obtain ⟨u37,e_u37⟩:∃ u,ρ 61=u:=⟨_,Z⟩
 have h4:=s.ov y 61 59 e_u37
 obtain ⟨B,j,d⟩:=s.s B C j q ⟨Z,⟨Z,N⟩⟩
 replace q:=s.left y [(61,ob u37 (.vec w0.heap.size 3 (eInt .i64) ([x5,x13,x21,x25,x29,x33]:List Int)))] ⟨Z,Z,e_u37,Z,Z,N⟩
 refine HT.ret ?_
 obtain rfl:=si c
 exact ⟨.inr Z,[R 4],⟨Z,N⟩,(zCT (q.ok 0 _ Z) B h4),j⟩
def zAr (fu:Nat) (p0:zAA) (p1:zAA):Option (List Int):=
 cl true (zBc fu p0) fun x3=>
 cl (true&&((!x3)==false)) (zBc fu p1) fun x5=>
 bd ((!x3) || (!x5)) fun x7=>
 bif x7 then (
 some ([]:List Int)
 ) else (
 cl true (zE0 fu p0 p1) fun x11=>
 some x11
 )
theorem zED {fu : Nat} {A0 : Av} {p0 : zAA} {p1 : zAA} {r : List Int} (c : zAr fu p0 p1 = some r) {w : World} {v0 : Value} {v1 : Value} (d : AvOK A0 w) (hG : GTab w) (h0 : Rep zA1 A0 w v0 p0) (h1 : Rep zA1 A0 w v1 p1) :
 Calls prog 56 #[v0,v1] w fun e w'=>∃ v,e = .returned v∧((Res.vec w.heap.size 3 (eInt .i64) r).ok (addA A0 v) v w'∧Fr w w'):=by
 unfold zAr at c
 obtain ⟨w0,hw0⟩:∃ w0,w0=w:=⟨_,Z⟩
 have j:Fr w0 w:=hw0 ▸ Fr.refl _
 have C:∀ b o,A0 b o→b<w0.heap.size:=fun b o h=>hw0 ▸ d b o h
 have hA00:AvOK A0 w0:=C
 rw [show w.heap.size=w0.heap.size from hw0 ▸ Z]
 rw [show Fr w=Fr w0 from hw0 ▸ Z]
 have hG0:GTab w0:=hw0 ▸ hG
 clear hw0
 obtain ⟨A,hAe⟩:∃ A,A=A0:=⟨_,Z⟩
 have B:∀ b o,A0 b o→A b o:=fun b o h=>hAe ▸ h
 replace d:AvOK A w:=hAe ▸ d
 have q:IniOK [] A w:=IniOK.nil
 refine zA2 [.tmp 4] func56 ntmps56 (by decide) Z Z (nb Z) ?_
 intro R hR
 have f_v0:Rep zA1 A w v0 p0:=hAe ▸ h0
 replace h0:R 0=v0:=hR 0 _ Z
 have f_v1:Rep zA1 A w v1 p1:=hAe ▸ h1
 replace h1:R 1=v1:=hR 1 _ Z
 clear hR hAe
 refine HT.sx [] (⟨_,true,[],some (.box w0.heap.size 51 zA1 p0),true,fun A=>.any⟩::⟨_,true,[],some (.box w0.heap.size 51 zA1 p1),true,fun A=>.any⟩::rA::[]) (ua (ua (ua (UAll.nil)))) q d ?_ ?_
 exact rc (OblR.made _ Z Z Z Z fun V Q U O D=>by have a0:Q 0=v0:=(O.old 0 Z).trans h0;have ra0:=(f_v0.stp O.stp).eq a0;exact zDE ra0 (Nat.le_trans j.size O.ch.size))<|rc (OblR.made _ Z Z Z Z fun V Q U O D=>by have a0:Q 1=v1:=(O.old 1 Z).trans h1;have ra0:=(f_v1.stp O.stp).eq a0;exact zDE ra0 (Nat.le_trans j.size O.ch.size))<|rp (fun V Q U O D=>zA0 N)<|rz
 intro done ρ σ A R w y s
 obtain ⟨b2_0,e_b2_0⟩:=s.boxv y 0 Z Z
 have h2:=s.ov y 0 0 e_b2_0
 obtain ⟨b3_1,e_b3_1⟩:=s.boxv y 1 Z Z
 have h3:=s.ov y 1 1 e_b3_1
 obtain ⟨B,j,d⟩:=s.s B C j q N
 replace q:=s.left y [(0,ob (.pointer (some ⟨b2_0,0,none⟩)) (.box w0.heap.size 51 zA1 p0)),(1,ob (.pointer (some ⟨b3_1,0,none⟩)) (.box w0.heap.size 51 zA1 p1))] ⟨Z,Z,e_b2_0,Z,Z,⟨Z,Z,e_b3_1,Z,Z,N⟩⟩
 refine HT.seq ?_
 refine HT.seq ?_
 obtain ⟨x3,q4,c⟩:=zA3 c
 obtain ⟨x5,q6,c⟩:=zA3 c
 obtain ⟨x7,q8,c⟩:=zAB c
 refine HT.u d j (eF (.rep zA1 A p0)::eB x3::eB (!x3)::eB (!x3)::gF (true&&((!x3)==false)) (.rep zA1 A p1)::gB (true&&((!x3)==false)) x5::gB (true&&((!x3)==false)) (!x5)::eB x7::[]) ?_ ?_
 exact op (fun Q U W H D=>(zAE ((q.fr W).ok 0 _ Z).1 ((H 2 Z).trans h2) (Fld.id _) Z isAgg51 sizeOf51))<|op (fun Q U W H D=>zA6 call113 (zE6 (q4 Z) (d.fr W.size) (D.g 0 Z)))<|op (fun Q U W H D=>zBh (D.g 0 Z))<|ov<|og 3 false (fun G Q U W H D=>(zAE ((q.fr W).ok 1 _ Z).1 ((H 3 Z).trans h3) (Fld.id _) Z isAgg51 sizeOf51))<|og 3 false (fun G Q U W H D=>zA6 call113 (zE6 (q6 G) (d.fr W.size) (D.h 0 G Z)))<|og 3 false (fun G Q U W H D=>zBh (D.h 0 G Z))<|op (fun Q U W H D=>zAC (!x3) (D.g 0 Z) (fun hc=>by show _=Value.bool x7;rw [q8,hc];exact Z) (fun hc=>by have a2:Q 11 = .bool (!x5):=D 1 _ _ _ Z Z Z Z (zAZ Z (zAM hc));show _=Value.bool x7;rw [q8,hc];exact a2))<|oz
 intro R w m n p d j
 obtain ⟨h2,h3⟩:=k2 n h2 h3
 have h12:=p.r 7 Z
 replace q:=q.fr m
 refine HT.cond x7 h12 (fun c9=>?_) (fun c9=>?_)
 have c:=zAK c9 c
 refine HT.su d j (eR (.slice none 0 0)::[]) ?_ ?_
 exact op (fun Q U W H D=>zA0 Z)<|oz
 intro R w m n p d j
 obtain ⟨u10,n_u10⟩:∃ u,u=Value.slice none 0 0:=⟨_,Z⟩
 have h4:R 4=u10:=(p 0 _ _ Z Z Z).trans n_u10.symm
 replace q:=q.fr m
 replace q:IniOK [] A w:=q.sub [] N
 replace q:=q.nilcons (u:=u10) n_u10 w0.heap.size 3 (eInt .i64)
 refine HT.ret ?_
 obtain rfl:=si c
 exact ⟨.inr Z,[R 4],⟨Z,N⟩,(zCT (q.ok 0 _ Z) B h4),j⟩
 have c:=zAL c9 c
 refine HT.skip ?_
 obtain ⟨x11,q12,c⟩:=zA3 c
 refine HT.sx [ob (.pointer (some ⟨b2_0,0,none⟩)) (.box w0.heap.size 51 zA1 p0),ob (.pointer (some ⟨b3_1,0,none⟩)) (.box w0.heap.size 51 zA1 p1)] ((rF fun A=>.rep zA1 A p0)::(rF fun A=>.rep zA1 A p1)::⟨_,true,[],some (.vec w0.heap.size 3 (eInt .i64) x11),true,fun A=>.any⟩::⟨_,true,[4],some (.vec w0.heap.size 3 (eInt .i64) x11),true,fun A=>.any⟩::[]) (up (up (ua (ua (UAll.nil))))) q d ?_ ?_
 exact rp (fun V Q U O D=>(zAE (O.rd 0 _ Z Z) ((O.old 2 Z).trans h2) (Fld.id _) Z isAgg51 sizeOf51))<|rp (fun V Q U O D=>(zAE (O.rd 1 _ Z Z) ((O.old 3 Z).trans h3) (Fld.id _) Z isAgg51 sizeOf51))<|rc (OblR.made _ Z Z Z Z fun V Q U O D=>by have a0:Rep zA1 V U (Q 13) p0:=D.g 0 Z;have a1:Rep zA1 V U (Q 14) p1:=D.g 1 Z;exact zEi call125 (zGp (q12 Z) O.av (hG0.fr (j.tr O.ch (q.ge (⟨Z,⟨Z,N⟩⟩)))) a0 a1) (Nat.le_trans j.size O.ch.size))<|rc (OblR.took 4 _ _ Z Z Z Z Z fun V Q U O D u hok hav hin hop hds=>by exact zAH (hop _ _ Z Z Z Z).symm hok hav)<|rz
 intro done ρ σ A R w y s
 have z13:=s.inivR 0 Z
 have z14:=s.inivR 1 Z
 obtain ⟨u15,e_u15⟩:∃ u,ρ 5=u:=⟨_,Z⟩
 have h4:=s.ov y 5 3 e_u15
 obtain ⟨B,j,d⟩:=s.s B C j q ⟨Z,⟨Z,N⟩⟩
 replace q:=s.left y [(5,ob u15 (.vec w0.heap.size 3 (eInt .i64) x11))] ⟨Z,Z,e_u15,Z,Z,N⟩
 refine HT.ret ?_
 obtain rfl:=si c
 exact ⟨.inr Z,[R 4],⟨Z,N⟩,(zCT (q.ok 0 _ Z) B h4),j⟩
theorem zFd {fu : Nat} {A0 : Av} {p0 : zAA} {p1 : zAA} {r : List Int} (c : zAr fu p0 p1 = some r) {w : World} {v0 : Value} {v1 : Value} (d : AvOK A0 w) (hG : GTab w) (h0 : Rep zA1 A0 w v0 p0) (h1 : Rep zA1 A0 w v1 p1) :
 Calls prog 56 #[v0,v1] w fun e w'=>∃ v,e = .returned v∧(Rep (eSl (eInt .i64)) A0 w' v r∧Fr w w'):=by
 refine Calls.mono (zED c d hG h0 h1) ?_
 rintro e w' ⟨v,he,hv,hf⟩
 exact ⟨v,he,zCD hv (fun b o h=>.inl h) d,hf⟩
def zC5 (fu : Nat) (p0 : List Int) (p1 : List Int) : Nat → Int → Option (Ex Bool Unit)
 | 0,_=>none
 | k+1,y5=>
 bif (decide (y5<(p0.length:Int))) then (
 ck (inR y5 p0.length) <|
 ck (inR y5 p1.length) <|
 bif ((gtD p0 y5) != (gtD p1 y5)) then (
 some (Ex.ret false)
 ) else (
 ck (i64B (y5+1)) <|
 zC5 fu p0 p1 k (y5+1)
 )
 ) else (
 some (Ex.go ())
 )
def zCb (fu:Nat) (p0:List Int) (p1:List Int):Option Bool:=
 bif ((p0.length:Int) != (p1.length:Int)) then (
 some false
 ) else (
 cl true (zC5 fu p0 p1 fu 0) fun rl2=>
 exM rl2 (fun r=>some r) fun s4=>
 some true
 )
theorem zEV {fu : Nat} {A : Av} {p0 : List Int} {p1 : List Int} {r : Bool} (c : zCb fu p0 p1 = some r) {w : World} {v0 : Value} {v1 : Value} (d : AvOK A w) (h0 : Rep (eSl (eInt .i64)) A w v0 p0) (h1 : Rep (eSl (eInt .i64)) A w v1 p1) :
 Calls prog 63 #[v0,v1] w fun e w'=>∃ v,e = .returned v∧(v = .bool r∧Fr w w'):=by
 unfold zCb at c
 obtain ⟨w0,hw0⟩:∃ w0,w0=w:=⟨_,Z⟩
 have j:Fr w0 w:=hw0 ▸ Fr.refl _
 rw [show Fr w=Fr w0 from hw0 ▸ Z]
 clear hw0
 refine zA2 [.tmp 4] func63 ntmps63 (by decide) Z Z (nb Z) ?_
 intro R hR
 have f_v0:=h0
 replace h0:R 0=v0:=hR 0 _ Z
 have f_v1:=h1
 replace h1:R 1=v1:=hR 1 _ Z
 clear hR
 refine HT.su d j (eB false::[]) ?_ ?_
 exact op (fun Q U W H D=>zA0 Z)<|oz
 intro R w m n p d j
 obtain ⟨h0,h1⟩:=k2 n h0 h1
 replace f_v0:=f_v0.fr m
 replace f_v1:=f_v1.fr m
 refine HT.seq ?_
 refine HT.su d j (eR v0::eI (p0.length:Int)::eR v1::eI (p1.length:Int)::eB ((p0.length:Int) != (p1.length:Int))::[]) ?_ ?_
 exact om h0<|op (fun Q U W H D=>zAb (aT:=#[]) ((f_v0.fr W).eq (D.g 0 Z)) underlying27)<|om h1<|op (fun Q U W H D=>zAb (aT:=#[]) ((f_v1.fr W).eq (D.g 0 Z)) underlying27)<|op (fun Q U W H D=>zEc (D.g 0 Z) (D.g 1 Z))<|oz
 intro R w m n p d j
 obtain ⟨h0,h1⟩:=k2 n h0 h1
 have h10:=p.r 4 Z
 replace f_v0:=f_v0.fr m
 replace f_v1:=f_v1.fr m
 refine HT.cond ((p0.length:Int) != (p1.length:Int)) h10 (fun c1=>?_) (fun c1=>?_)
 have c:=zAK c1 c
 refine HT.su d j (eB false::[]) ?_ ?_
 exact op (fun Q U W H D=>zA0 Z)<|oz
 intro R w m n p d j
 have h4:=p.r 0 Z
 refine HT.ret ?_
 obtain rfl:=si c
 exact ⟨.inr Z,[R 4],⟨Z,N⟩,h4,j⟩
 have c:=zAL c1 c
 refine HT.skip ?_
 refine HT.seq ?_
 refine HT.su d j (eI 0::[]) ?_ ?_
 exact op (fun Q U W H D=>zA0 Z)<|oz
 intro R w m n p d j
 obtain ⟨h0,h1⟩:=k2 n h0 h1
 have h5:=p.r 0 Z
 replace f_v0:=f_v0.fr m
 replace f_v1:=f_v1.fr m
 obtain ⟨rl2,q3,c⟩:=zA3 c
 replace q3:=q3 Z
 refine HT.cut0 (fun R w=>∃ (s4:Unit),rl2=Ex.go s4∧AvOK A w∧Fr w0 w) ?_ ?_
 refine HT.block ?_
 refine HT.loop (fun k R w=>∃ (y5:Int),zC5 fu p0 p1 k y5=some rl2∧AvOK A w∧Fr w0 w∧R 0=v0∧R 1=v1∧R 5 = .int .i64 y5∧Rep (eSl (eInt .i64)) A w v0 p0∧Rep (eSl (eInt .i64)) A w v1 p1) fu ⟨_,q3,d,j,h0,h1,h5,f_v0,f_v1⟩ ?_
 have hr0:=c;clear c q3
 rintro k R w ⟨y5,c,d,j,h0,h1,h5,f_v0,f_v1⟩
 rcases k with _ | k
 cases (show none=some _ from c)
 rw [zC5] at c
 refine HT.seq ?_
 refine HT.su d j (eI y5::eR v0::eI (p0.length:Int)::eB (decide (y5<(p0.length:Int)))::[]) ?_ ?_
 exact om h5<|om h0<|op (fun Q U W H D=>zAb (aT:=#[]) ((f_v0.fr W).eq (D.g 0 Z)) underlying27)<|op (fun Q U W H D=>zAf (D.g 0 Z) (D.g 1 Z))<|oz
 intro R w m n p d j
 obtain ⟨h0,h1,h5⟩:=k3 n h0 h1 h5
 have h14:=p.r 3 Z
 replace f_v0:=f_v0.fr m
 replace f_v1:=f_v1.fr m
 refine HT.cond (decide (y5<(p0.length:Int))) h14 (fun c6=>?_) (fun c6=>?_)
 have c:=zAK c6 c
 refine HT.skip ?_
 refine HT.seq ?_
 refine HT.block ?_
 refine HT.seq ?_
 obtain ⟨e7,e8,c⟩:=ck2 c
 refine HT.draw (by kernel_rfl) (l:=eR v0::eI y5::eF (.qtr (eInt .i64) A (gtD p0 y5))::eI (gtD p0 y5)::eR v1::eI y5::eF (.qtr (eInt .i64) A (gtD p1 y5))::eI (gtD p1 y5)::eB ((gtD p0 y5) != (gtD p1 y5))::[]) (tl:=[]) (by kernel_rfl) (by kernel_rfl) (by kernel_rfl) (by kernel_rfl) ?_ ?_
 exact om h0<|om h5<|op (fun Q U W H D=>zA7 ((f_v0.fr W).eq (D.g 0 Z)) (D.g 1 Z) underlying27 sizeOf3 e7)<|op (fun Q U W H D=>OpF.int (zAQ (QRep.ptr (D.g 0 Z)) isAgg3 sizeOf3))<|om h1<|om h5<|op (fun Q U W H D=>zA7 ((f_v1.fr W).eq (D.g 0 Z)) (D.g 1 Z) underlying27 sizeOf3 e8)<|op (fun Q U W H D=>OpF.int (zAQ (QRep.ptr (D.g 0 Z)) isAgg3 sizeOf3))<|op (fun Q U W H D=>zEc (D.g 0 Z) (D.g 1 Z))<|oz
 intro R w m n p
 obtain ⟨h0,h1,h5⟩:=k3 n h0 h1 h5
 have h25:=p.r 8 Z
 replace f_v0:=f_v0.fr m
 replace f_v1:=f_v1.fr m
 replace d:=d.fr m.size
 replace j:=j.trans m
 refine HT.cond ((gtD p0 y5) != (gtD p1 y5)) h25 (fun c9=>?_) (fun c9=>?_)
 have c:=zAK c9 c
 refine HT.su d j (eB false::[]) ?_ ?_
 exact op (fun Q U W H D=>zA0 Z)<|oz
 intro R w m n p d j
 have h4:=p.r 0 Z
 refine HT.ret ?_
 obtain rfl:=si c
 have c:=hr0
 replace c:some _=some _:=c
 obtain rfl:=si c
 exact ⟨.inr Z,[R 4],⟨Z,N⟩,h4,j⟩
 have c:=zAL c9 c
 refine HT.skip ?_
 obtain ⟨e10,c⟩:=zA4 c
 refine HT.u d j (eI y5::eI (y5+1)::eI (y5+1)::[]) ?_ ?_
 exact om h5<|op (fun Q U W H D=>zAN (D.g 0 Z) Z e10)<|oa<|oz
 intro R w m n p d j
 obtain ⟨h0,h1⟩:=k2 n h0 h1
 have h5:=p.r 2 Z
 replace f_v0:=f_v0.fr m
 replace f_v1:=f_v1.fr m
 exact ei k (And.intro (Nat.lt_succ_self k) ⟨_,c,d,j,h0,h1,h5,f_v0,f_v1⟩)
 have c:=zAL c6 c
 refine HT.exit ?_
 obtain rfl:=si c
 exact ei _ ⟨Z,d,j⟩
 rintro R w ⟨s4,rfl,d,j⟩
 have c:=zEP c
 refine HT.su d j (eB true::[]) ?_ ?_
 exact op (fun Q U W H D=>zA0 Z)<|oz
 intro R w m n p d j
 have h4:=p.r 0 Z
 refine HT.ret ?_
 obtain rfl:=si c
 exact ⟨.inr Z,[R 4],⟨Z,N⟩,h4,j⟩
def zBW (fu : Nat) : Nat → Int → Int → (List Int) → Option (Int × (List Int))
 | 0,_,_,_=>none
 | k+1,y4,y5,y6=>
 bif (decide (y5<(y6.length:Int))) then (
 ck (inR y5 y6.length) <|
 ck (i64B (y4+1)) <|
 ck (i64B (y5+1)) <|
 zBW fu k (y4+1) (y5+1) (y6.set y5.toNat y4)
 ) else (
 some (y4,y6)
 )
def zCu (fu:Nat) (p0:List Int) (p1:Int):Option (Int × List Int):=
 cl true (zBW fu fu p1 0 p0) fun s3=>
 some (s3.1,s3.2)
theorem zGv {fu : Nat} {A0 : Av} {p0 : List Int} {p1 : Int} {r : Int × List Int} (c : zCu fu p0 p1 = some r) {w : World} {v0 : Value} {v1 : Value} {B0 : Nat} (d : AvOK A0 w) (K : ∀ b o, A0 b o → ¬ zAW v0 b) (h0 : (Res.vec B0 3 (eInt .i64) p0).ok A0 v0 w) (h1 : v1 = .int .i64 p1) :
 Calls prog 64 #[v0,v1] w fun e w'=>∃ v,e = .returned v∧(v = .int .i64 r.1∧(Res.vec B0 3 (eInt .i64) r.2).ok A0 v0 w'∧Ch (zAW v0) w w'):=by
 unfold zCu at c
 obtain ⟨w0,hw0⟩:∃ w0,w0=w:=⟨_,Z⟩
 have j:Ch (zAW v0) w0 w:=hw0 ▸ Ch.refl _ _
 have C:∀ b o,A0 b o→b<w0.heap.size:=fun b o h=>hw0 ▸ d b o h
 have hA00:AvOK A0 w0:=C
 rw [show Ch (zAW v0) w=Ch (zAW v0) w0 from hw0 ▸ Z]
 clear hw0
 obtain ⟨A,hAe⟩:∃ A,A=addA A0 v0:=⟨_,Z⟩
 have B:∀ b o,A0 b o→A b o:=fun b o h=>hAe ▸ .inl h
 replace d:AvOK A w:=hAe ▸ d.one h0
 have q:IniOK [ob v0 (.vec B0 3 (eInt .i64) p0)] A w:=hAe ▸ IniOK.one h0 (fun _ _ _ _ _ h=>h)
 refine zA2 [.tmp 4] func64 ntmps64 (by decide) Z Z (nb Z) ?_
 intro R hR
 replace h0:R 0=v0:=hR 0 _ Z
 replace h1:R 1 = .int .i64 p1:=(hR 1 _ Z).trans h1
 clear hR hAe
 refine HT.seq ?_
 refine HT.t (eI 0::[]) ?_ ?_
 exact op (fun Q U W H D=>zA0 Z)<|oz
 intro R w m n p
 obtain ⟨h0,h1⟩:=k2 n h0 h1
 replace q:=q.fr m
 replace d:=d.fr m.size
 replace j:=j.tr (m.ch noB) fun _ h=>False.elim h
 refine HT.seq ?_
 refine HT.seq ?_
 refine HT.t (eI 0::[]) ?_ ?_
 exact op (fun Q U W H D=>zA0 Z)<|oz
 intro R w m n p
 obtain ⟨h0,h1⟩:=k2 n h0 h1
 have h5:=p.r 0 Z
 replace q:=q.fr m
 replace d:=d.fr m.size
 replace j:=j.tr (m.ch noB) fun _ h=>False.elim h
 obtain ⟨rl1,q2,c⟩:=zA3 c
 replace q2:=q2 Z
 refine HT.cut0 (fun R w=>∃ A:Av,∃ (s3:Int × (List Int)),rl1=s3∧AvOK A w∧Ch (zAW v0) w0 w∧(∀ b o,A0 b o→A b o)∧IniOK [ob v0 (.vec B0 3 (eInt .i64) s3.2)] A w∧R 1 = .int .i64 s3.1) ?_ ?_
 refine HT.block ?_
 refine HT.loop (fun k R w=>∃ A:Av,∃ (y4:Int) (y5:Int) (y6:List Int),zBW fu k y4 y5 y6=some rl1∧AvOK A w∧Ch (zAW v0) w0 w∧(∀ b o,A0 b o→A b o)∧IniOK [ob v0 (.vec B0 3 (eInt .i64) y6)] A w∧R 0=v0∧R 1 = .int .i64 y4∧R 5 = .int .i64 y5) fu ⟨_,_,_,_,q2,d,j,B,q,h0,h1,h5⟩ ?_
 have hr0:=c;clear c q2
 rintro k R w ⟨A,y4,y5,y6,c,d,j,B,q,h0,h1,h5⟩
 rcases k with _ | k
 cases (show none=some _ from c)
 rw [zBW] at c
 refine HT.seq ?_
 refine HT.seq ?_
 refine HT.t (eI y5::eR v0::eI (y6.length:Int)::eB (decide (y5<(y6.length:Int)))::[]) ?_ ?_
 exact om h5<|om h0<|op (fun Q U W H D=>zCG (q.ok 0 _ Z).1 (D.g 0 Z) underlying27)<|op (fun Q U W H D=>zAf (D.g 0 Z) (D.g 1 Z))<|oz
 intro R w m n p
 obtain ⟨h0,h1,h5⟩:=k3 n h0 h1 h5
 have h9:=p.r 3 Z
 replace q:=q.fr m
 replace d:=d.fr m.size
 replace j:=j.tr (m.ch noB) fun _ h=>False.elim h
 refine HT.cond (decide (y5<(y6.length:Int))) h9 (fun c7=>?_) (fun c7=>?_)
 have c:=zAK c7 c
 refine HT.skip ?_
 refine HT.seq ?_
 refine HT.block ?_
 obtain ⟨e8,c⟩:=zA4 c
 refine HT.sx [ob v0 (.vec B0 3 (eInt .i64) y6)] (rR v0::rI y5::rI y4::rR (vptr v0 (y5.toNat*1))::⟨_,true,[0],some (.vec B0 3 (eInt .i64) (y6.set y5.toNat y4)),false,fun A=>.any⟩::[]) (ur (ur (ur (ur (ua (UAll.nil)))))) q d ?_ ?_
 exact rm h0<|rm h5<|rm h1<|rp (fun V Q U O D=>zAF (q.ok 0 _ Z).1 (D.g 0 Z) (D.g 1 Z) underlying27 sizeOf3 e8 Z)<|rc (OblR.took 0 _ _ Z Z Z Z Z fun V Q U O D u hok hav hin hop hds=>by have a0:Q 15=(vptr v0 (y5.toNat*1)):=D.g 0 Z;have a1:Q 14 = .int .i64 y4:=D.g 1 Z;obtain rfl:=hin _ Z;exact zBY (zAe.eq a1) hok hav a0 e8 Z (FldS.id _) sizeOf3 Z)<|rz
 intro done ρ σ A R w y s
 obtain ⟨h0,h1,h5⟩:=k3 s.rg h0 h1 h5
 have z9:=s.inivR 0 Z
 have z10:=s.on y 5 4 Z Z Z Z Z z9
 replace B:=s.lowK B C K (q.geK (⟨.inr (fun k h=>.inr h),N⟩))
 replace j:Ch (zAW v0) w0 w:=j.tr s.ch (q.geK (⟨.inr (fun k h=>.inr h),N⟩))
 replace q:=s.left y [(5,ob v0 (.vec B0 3 (eInt .i64) (y6.set y5.toNat y4)))] ⟨Z,Z,z10,Z,Z,N⟩
 replace d:=s.avok
 obtain ⟨e11,c⟩:=zA4 c
 refine HT.t (eI y4::eI (y4+1)::eI (y4+1)::[]) ?_ ?_
 exact om h1<|op (fun Q U W H D=>zAN (D.g 0 Z) Z e11)<|oa<|oz
 intro R w m n p
 obtain ⟨h0,h5⟩:=k2 n h0 h5
 have h1:=p.r 2 Z
 replace q:=q.fr m
 replace d:=d.fr m.size
 replace j:=j.tr (m.ch noB) fun _ h=>False.elim h
 obtain ⟨e12,c⟩:=zA4 c
 refine HT.t (eI y5::eI (y5+1)::eI (y5+1)::[]) ?_ ?_
 exact om h5<|op (fun Q U W H D=>zAN (D.g 0 Z) Z e12)<|oa<|oz
 intro R w m n p
 obtain ⟨h0,h1⟩:=k2 n h0 h1
 have h5:=p.r 2 Z
 replace q:=q.fr m
 replace d:=d.fr m.size
 replace j:=j.tr (m.ch noB) fun _ h=>False.elim h
 exact ei k (And.intro (Nat.lt_succ_self k) ⟨_,_,_,_,c,d,j,B,q,h0,h1,h5⟩)
 have c:=zAL c7 c
 refine HT.exit ?_
 obtain rfl:=si c
 exact ei _ ⟨_,Z,d,j,B,q,h1⟩
 rintro R w ⟨A,s3,es,d,j,B,q,h1⟩
 obtain rfl:=es.symm
 refine HT.seq ?_
 refine HT.t (eI s3.1::eI s3.1::[]) ?_ ?_
 exact om h1<|oa<|oz
 intro R w m n p
 have h4:=p.r 1 Z
 replace q:=q.fr m
 replace d:=d.fr m.size
 replace j:=j.tr (m.ch noB) fun _ h=>False.elim h
 refine HT.ret ?_
 obtain rfl:=si c
 exact ⟨.inr Z,[R 4],⟨Z,N⟩,h4,Vec.flat (q.ok 0 _ Z).1 (fun _ _ _ _ _ h=>h),j⟩
def zBa (fu : Nat) (p0 : List Int) : Nat → Int → Int → Option (Ex Int Int)
 | 0,_,_=>none
 | k+1,y4,y5=>
 bif (decide (y5<(p0.length:Int))) then (
 ck (inR y5 p0.length) <|
 bif ((gtD p0 y5) != y4) then (
 some (Ex.ret (-1))
 ) else (
 ck (i64B (y4+1)) <|
 ck (i64B (y5+1)) <|
 zBa fu p0 k (y4+1) (y5+1)
 )
 ) else (
 some (Ex.go y4)
 )
def zCJ (fu:Nat) (p0:List Int) (p1:Int):Option Int:=
 cl true (zBa fu p0 fu p1 0) fun rl1=>
 exM rl1 (fun r=>some r) fun s3=>
 some s3
theorem zF5 {fu : Nat} {A : Av} {p0 : List Int} {p1 : Int} {r : Int} (c : zCJ fu p0 p1 = some r) {w : World} {v0 : Value} {v1 : Value} (d : AvOK A w) (h0 : Rep (eSl (eInt .i64)) A w v0 p0) (h1 : v1 = .int .i64 p1) :
 Calls prog 65 #[v0,v1] w fun e w'=>∃ v,e = .returned v∧(v = .int .i64 r∧Fr w w'):=by
 unfold zCJ at c
 obtain ⟨w0,hw0⟩:∃ w0,w0=w:=⟨_,Z⟩
 have j:Fr w0 w:=hw0 ▸ Fr.refl _
 rw [show Fr w=Fr w0 from hw0 ▸ Z]
 clear hw0
 refine zA2 [.tmp 4] func65 ntmps65 (by decide) Z Z (nb Z) ?_
 intro R hR
 have f_v0:=h0
 replace h0:R 0=v0:=hR 0 _ Z
 replace h1:R 1 = .int .i64 p1:=(hR 1 _ Z).trans h1
 clear hR
 refine HT.su d j (eI 0::[]) ?_ ?_
 exact op (fun Q U W H D=>zA0 Z)<|oz
 intro R w m n p d j
 obtain ⟨h0,h1⟩:=k2 n h0 h1
 replace f_v0:=f_v0.fr m
 refine HT.seq ?_
 refine HT.su d j (eI 0::[]) ?_ ?_
 exact op (fun Q U W H D=>zA0 Z)<|oz
 intro R w m n p d j
 obtain ⟨h0,h1⟩:=k2 n h0 h1
 have h5:=p.r 0 Z
 replace f_v0:=f_v0.fr m
 obtain ⟨rl1,q2,c⟩:=zA3 c
 replace q2:=q2 Z
 refine HT.cut0 (fun R w=>∃ (s3:Int),rl1=Ex.go s3∧AvOK A w∧Fr w0 w∧R 1 = .int .i64 s3) ?_ ?_
 refine HT.block ?_
 refine HT.loop (fun k R w=>∃ (y4:Int) (y5:Int),zBa fu p0 k y4 y5=some rl1∧AvOK A w∧Fr w0 w∧R 0=v0∧R 1 = .int .i64 y4∧R 5 = .int .i64 y5∧Rep (eSl (eInt .i64)) A w v0 p0) fu ⟨_,_,q2,d,j,h0,h1,h5,f_v0⟩ ?_
 have hr0:=c;clear c q2
 rintro k R w ⟨y4,y5,c,d,j,h0,h1,h5,f_v0⟩
 rcases k with _ | k
 cases (show none=some _ from c)
 rw [zBa] at c
 refine HT.seq ?_
 refine HT.su d j (eI y5::eR v0::eI (p0.length:Int)::eB (decide (y5<(p0.length:Int)))::[]) ?_ ?_
 exact om h5<|om h0<|op (fun Q U W H D=>zAb (aT:=#[]) ((f_v0.fr W).eq (D.g 0 Z)) underlying27)<|op (fun Q U W H D=>zAf (D.g 0 Z) (D.g 1 Z))<|oz
 intro R w m n p d j
 obtain ⟨h0,h1,h5⟩:=k3 n h0 h1 h5
 have h9:=p.r 3 Z
 replace f_v0:=f_v0.fr m
 refine HT.cond (decide (y5<(p0.length:Int))) h9 (fun c6=>?_) (fun c6=>?_)
 have c:=zAK c6 c
 refine HT.skip ?_
 refine HT.seq ?_
 refine HT.block ?_
 refine HT.seq ?_
 obtain ⟨e7,c⟩:=zA4 c
 refine HT.su d j (eR v0::eI y5::eF (.qtr (eInt .i64) A (gtD p0 y5))::eI (gtD p0 y5)::eI y4::eB ((gtD p0 y5) != y4)::[]) ?_ ?_
 exact om h0<|om h5<|op (fun Q U W H D=>zA7 ((f_v0.fr W).eq (D.g 0 Z)) (D.g 1 Z) underlying27 sizeOf3 e7)<|op (fun Q U W H D=>OpF.int (zAQ (QRep.ptr (D.g 0 Z)) isAgg3 sizeOf3))<|om h1<|op (fun Q U W H D=>zEc (D.g 0 Z) (D.g 1 Z))<|oz
 intro R w m n p d j
 obtain ⟨h0,h1,h5⟩:=k3 n h0 h1 h5
 have h17:=p.r 5 Z
 replace f_v0:=f_v0.fr m
 refine HT.cond ((gtD p0 y5) != y4) h17 (fun c8=>?_) (fun c8=>?_)
 have c:=zAK c8 c
 refine HT.su d j (eI (-1)::[]) ?_ ?_
 exact op (fun Q U W H D=>zA0 Z)<|oz
 intro R w m n p d j
 have h4:=p.r 0 Z
 refine HT.ret ?_
 obtain rfl:=si c
 have c:=hr0
 replace c:some _=some _:=c
 obtain rfl:=si c
 exact ⟨.inr Z,[R 4],⟨Z,N⟩,h4,j⟩
 have c:=zAL c8 c
 refine HT.skip ?_
 obtain ⟨e9,c⟩:=zA4 c
 refine HT.u d j (eI y4::eI (y4+1)::eI (y4+1)::[]) ?_ ?_
 exact om h1<|op (fun Q U W H D=>zAN (D.g 0 Z) Z e9)<|oa<|oz
 intro R w m n p d j
 obtain ⟨h0,h5⟩:=k2 n h0 h5
 have h1:=p.r 2 Z
 replace f_v0:=f_v0.fr m
 obtain ⟨e10,c⟩:=zA4 c
 refine HT.u d j (eI y5::eI (y5+1)::eI (y5+1)::[]) ?_ ?_
 exact om h5<|op (fun Q U W H D=>zAN (D.g 0 Z) Z e10)<|oa<|oz
 intro R w m n p d j
 obtain ⟨h0,h1⟩:=k2 n h0 h1
 have h5:=p.r 2 Z
 replace f_v0:=f_v0.fr m
 exact ei k (And.intro (Nat.lt_succ_self k) ⟨_,_,c,d,j,h0,h1,h5,f_v0⟩)
 have c:=zAL c6 c
 refine HT.exit ?_
 obtain rfl:=si c
 exact ei _ ⟨Z,d,j,h1⟩
 rintro R w ⟨s3,rfl,d,j,h1⟩
 have c:=zEP c
 refine HT.su d j (eI s3::eI s3::[]) ?_ ?_
 exact om h1<|oa<|oz
 intro R w m n p d j
 have h4:=p.r 1 Z
 refine HT.ret ?_
 obtain rfl:=si c
 exact ⟨.inr Z,[R 4],⟨Z,N⟩,h4,j⟩
end Go.Proofs.YtcodfkieaoomnaaGreatDoor
namespace Go.Proofs.YtcodfkieaoomnaaGreatDoor
open Go.RowKit
set_option linter.unusedVariables false
open _root_.Go.Proofs.Tryz
set_option maxRecDepth 100000
set_option maxHeartbeats 4000000
def zBg (fu:Nat) (p0:zAA) (p1:zAA):Option Bool:=
 cl true (zCq fu p0 1048576) fun x3=>
 bif (decide (x3<0)) then (
 some true
 ) else (
 cl true (zCq fu p1 x3) fun x6=>
 bif (decide (x6<0)) then (
 some true
 ) else (
 cl true (zAj fu p0) fun x9=>
 cl true (zAj fu p1) fun x11=>
 cl true (zB1 fu x9 x11) fun x13=>
 cl true (zAj fu p0) fun x16=>
 cl true (zAj fu p1) fun x23=>
 cl true (zAr fu x16 x23) fun x35=>
 cl true (zCb fu x35 x13) fun x42=>
 bif (!x42) then (
 some false
 ) else (
 cl true (zAj fu p0) fun x47=>
 cl true (zBv fu x16 x47) fun x49=>
 bif (!x49) then (
 some false
 ) else (
 cl true (zAj fu p1) fun x54=>
 cl true (zBv fu x23 x54) fun x56=>
 bif (!x56) then (
 some false
 ) else (
 cl true (zBU fu x16 1) fun x61=>
 cl true (zBU fu x23 x61.1) fun x72=>
 cl (true&&((decide (x72.1<0))==false)) (zCb fu x35 x13) fun x80=>
 bd ((decide (x72.1<0)) || (!x80)) fun x82=>
 bif x82 then (
 some false
 ) else (
 cl true (zCu fu x35 1) fun x85=>
 cl true (zCJ fu x85.2 1) fun x91=>
 bif (decide (x91<0)) then (
 some false
 ) else (
 bif (x91 != x85.1) then (
 some false
 ) else (
 cl true (zAj fu p0) fun x95=>
 cl true (zAj fu p1) fun x97=>
 cl true (zAr fu x95 x97) fun x99=>
 cl true (zCb fu x99 x13) fun x102=>
 bif (!x102) then (
 some false
 ) else (
 cl true (zCJ fu x85.2 1) fun x105=>
 bif (decide (x105<0)) then (
 some false
 ) else (
 bif (x105 != x85.1) then (
 some false
 ) else (
 some true
 )
 )
 )
 )
 )
 )
 )
 )
 )
 )
 )
theorem zEU {fu : Nat} {A0 : Av} {p0 : zAA} {p1 : zAA} {r : Bool} (c : zBg fu p0 p1 = some r) {w : World} {v0 : Value} {v1 : Value} (d : AvOK A0 w) (hG : GTab w) (h0 : Rep zA1 A0 w v0 p0) (h1 : Rep zA1 A0 w v1 p1) :
 Calls prog 10 #[v0,v1] w fun e w'=>∃ v,e = .returned v∧(v = .bool r∧Fr w w'):=by
 unfold zBg at c
 obtain ⟨w0,hw0⟩:∃ w0,w0=w:=⟨_,Z⟩
 have j:Fr w0 w:=hw0 ▸ Fr.refl _
 have C:∀ b o,A0 b o→b<w0.heap.size:=fun b o h=>hw0 ▸ d b o h
 have hA00:AvOK A0 w0:=C
 rw [show Fr w=Fr w0 from hw0 ▸ Z]
 have hG0:GTab w0:=hw0 ▸ hG
 clear hw0
 obtain ⟨A,hAe⟩:∃ A,A=A0:=⟨_,Z⟩
 have B:∀ b o,A0 b o→A b o:=fun b o h=>hAe ▸ h
 replace d:AvOK A w:=hAe ▸ d
 have q:IniOK [] A w:=IniOK.nil
 refine zA2 [.tmp 4] func10 ntmps10 (by decide) Z Z (nb Z) ?_
 intro R hR
 have f_v0:Rep zA1 A w v0 p0:=hAe ▸ h0
 replace h0:R 0=v0:=hR 0 _ Z
 have f_v1:Rep zA1 A w v1 p1:=hAe ▸ h1
 replace h1:R 1=v1:=hR 1 _ Z
 clear hR hAe
 refine HT.sx [] (⟨_,true,[],some (.box w0.heap.size 48 zA1 p0),true,fun A=>.any⟩::⟨_,true,[],some (.box w0.heap.size 48 zA1 p1),true,fun A=>.any⟩::rB false::[]) (ua (ua (ur (UAll.nil)))) q d ?_ ?_
 exact rc (OblR.made _ Z Z Z Z fun V Q U O D=>by have a0:Q 0=v0:=(O.old 0 Z).trans h0;have ra0:=(f_v0.stp O.stp).eq a0;exact zDE ra0 (Nat.le_trans j.size O.ch.size))<|rc (OblR.made _ Z Z Z Z fun V Q U O D=>by have a0:Q 1=v1:=(O.old 1 Z).trans h1;have ra0:=(f_v1.stp O.stp).eq a0;exact zDE ra0 (Nat.le_trans j.size O.ch.size))<|rp (fun V Q U O D=>zA0 Z)<|rz
 intro done ρ σ A R w y s
 obtain ⟨b2_0,e_b2_0⟩:=s.boxv y 0 Z Z
 have h2:=s.ov y 0 0 e_b2_0
 obtain ⟨b3_1,e_b3_1⟩:=s.boxv y 1 Z Z
 have h3:=s.ov y 1 1 e_b3_1
 obtain ⟨B,j,d⟩:=s.s B C j q N
 replace q:=s.left y [(0,ob (.pointer (some ⟨b2_0,0,none⟩)) (.box w0.heap.size 48 zA1 p0)),(1,ob (.pointer (some ⟨b3_1,0,none⟩)) (.box w0.heap.size 48 zA1 p1))] ⟨Z,Z,e_b2_0,Z,Z,⟨Z,Z,e_b3_1,Z,Z,N⟩⟩
 refine HT.su d j (eI 1048576::[]) ?_ ?_
 exact op (fun Q U W H D=>zA0 Z)<|oz
 intro R w m n p d j
 obtain ⟨h2,h3⟩:=k2 n h2 h3
 have h5:=p.r 0 Z
 replace q:=q.fr m
 obtain ⟨x3,q4,c⟩:=zA3 c
 refine HT.su d j (eF (.rep zA1 A p0)::eI 1048576::eI x3::eI x3::[]) ?_ ?_
 exact op (fun Q U W H D=>(zAE ((q.fr W).ok 0 _ Z).1 ((H 2 Z).trans h2) (Fld.id _) Z isAgg48 sizeOf48))<|om h5<|op (fun Q U W H D=>zA6 call31 (zF1 (q4 Z) (d.fr W.size) (D.g 0 Z) (D.g 1 Z)))<|oa<|oz
 intro R w m n p d j
 obtain ⟨h2,h3⟩:=k2 n h2 h3
 have h5:=p.r 3 Z
 replace q:=q.fr m
 refine HT.seq ?_
 refine HT.su d j (eI x3::eB (decide (x3<0))::[]) ?_ ?_
 exact om h5<|op (fun Q U W H D=>zAf (D.g 0 Z) Z)<|oz
 intro R w m n p d j
 obtain ⟨h2,h3,h5⟩:=k3 n h2 h3 h5
 have h18:=p.r 1 Z
 replace q:=q.fr m
 refine HT.cond (decide (x3<0)) h18 (fun c5=>?_) (fun c5=>?_)
 have c:=zAK c5 c
 refine HT.su d j (eB true::[]) ?_ ?_
 exact op (fun Q U W H D=>zA0 Z)<|oz
 intro R w m n p d j
 have h4:=p.r 0 Z
 replace q:=q.fr m
 replace q:IniOK [] A w:=q.sub [] N
 refine HT.ret ?_
 obtain rfl:=si c
 exact ⟨.inr Z,[R 4],⟨Z,N⟩,h4,j⟩
 have c:=zAL c5 c
 refine HT.skip ?_
 obtain ⟨x6,q7,c⟩:=zA3 c
 refine HT.su d j (eF (.rep zA1 A p1)::eI x3::eI x6::eI x6::[]) ?_ ?_
 exact op (fun Q U W H D=>(zAE ((q.fr W).ok 1 _ Z).1 ((H 3 Z).trans h3) (Fld.id _) Z isAgg48 sizeOf48))<|om h5<|op (fun Q U W H D=>zA6 call31 (zF1 (q7 Z) (d.fr W.size) (D.g 0 Z) (D.g 1 Z)))<|oa<|oz
 intro R w m n p d j
 obtain ⟨h2,h3⟩:=k2 n h2 h3
 have h5:=p.r 3 Z
 replace q:=q.fr m
 refine HT.seq ?_
 refine HT.su d j (eI x6::eB (decide (x6<0))::[]) ?_ ?_
 exact om h5<|op (fun Q U W H D=>zAf (D.g 0 Z) Z)<|oz
 intro R w m n p d j
 obtain ⟨h2,h3⟩:=k2 n h2 h3
 have h23:=p.r 1 Z
 replace q:=q.fr m
 refine HT.cond (decide (x6<0)) h23 (fun c8=>?_) (fun c8=>?_)
 have c:=zAK c8 c
 refine HT.su d j (eB true::[]) ?_ ?_
 exact op (fun Q U W H D=>zA0 Z)<|oz
 intro R w m n p d j
 have h4:=p.r 0 Z
 replace q:=q.fr m
 replace q:IniOK [] A w:=q.sub [] N
 refine HT.ret ?_
 obtain rfl:=si c
 exact ⟨.inr Z,[R 4],⟨Z,N⟩,h4,j⟩
 have c:=zAL c8 c
 refine HT.skip ?_
 refine HT.seq ?_
 obtain ⟨x9,q10,c⟩:=zA3 c
 obtain ⟨x11,q12,c⟩:=zA3 c
 obtain ⟨x13,q14,c⟩:=zA3 c
 refine HT.draw (by kernel_rfl) (l:=eF (.rep zA1 A p0)::eF (.rep zA1 A x9)::eF (.rep zA1 A p1)::eF (.rep zA1 A x11)::eF (.rep (eSl (eInt .i64)) A x13)::eF (.rep (eSl (eInt .i64)) A x13)::[]) (tl:=[]) (by kernel_rfl) (by kernel_rfl) (by kernel_rfl) (by kernel_rfl) ?_ ?_
 exact op (fun Q U W H D=>(zAE ((q.fr W).ok 0 _ Z).1 ((H 2 Z).trans h2) (Fld.id _) Z isAgg48 sizeOf48))<|op (fun Q U W H D=>zA6 call33 (zBl (q10 Z) (d.fr W.size) (D.g 0 Z)))<|op (fun Q U W H D=>(zAE ((q.fr W).ok 1 _ Z).1 ((H 3 Z).trans h3) (Fld.id _) Z isAgg48 sizeOf48))<|op (fun Q U W H D=>zA6 call33 (zBl (q12 Z) (d.fr W.size) (D.g 0 Z)))<|op (fun Q U W H D=>zA6 call58 (zFT (q14 Z) (d.fr W.size) (D.g 0 Z) (D.g 1 Z)))<|op (fun Q U W H D=>zA0 (D.g 0 Z))<|oz
 intro R w m n p
 obtain ⟨h2,h3⟩:=k2 n h2 h3
 obtain ⟨u15,h6,f_u15⟩:∃ u,R 6=u∧Rep (eSl (eInt .i64)) A w u x13:=⟨_,Z,p 5 _ _ Z Z Z⟩
 replace q:=q.fr m
 replace d:=d.fr m.size
 replace j:=j.trans m
 obtain ⟨x16,q17,c⟩:=zA3 c
 refine HT.sx [ob (.pointer (some ⟨b2_0,0,none⟩)) (.box w0.heap.size 48 zA1 p0),ob (.pointer (some ⟨b3_1,0,none⟩)) (.box w0.heap.size 48 zA1 p1)] ((rF fun A=>.rep zA1 A p0)::⟨_,true,[],some (trR (geB w0.heap.size) (oPr (oRd (eInt .i64)) (oPr (oRd (eInt .i64)) (oPr (oRd (eInt .i64)) (oSl 9 (oRd eStr))))) x16 []),true,fun A=>.any⟩::⟨_,true,[],some (trR (geB w0.heap.size) (oPt 51 (oPr (oRd (eInt .i64)) (oPr (oRd (eInt .i64)) (oPr (oRd (eInt .i64)) (oSl 9 (oRd eStr)))))) (0,(0,(0,([]:List (List UInt8))))) []),true,fun A=>.any⟩::⟨_,true,[4,3],some (trR (geB w0.heap.size) (oPt 51 (oPr (oRd (eInt .i64)) (oPr (oRd (eInt .i64)) (oPr (oRd (eInt .i64)) (oSl 9 (oRd eStr)))))) x16 []),false,fun A=>.any⟩::[]) (up (ua (ua (ua (UAll.nil))))) q d ?_ ?_
 exact rp (fun V Q U O D=>(zAE (O.rd 0 _ Z Z) ((O.old 2 Z).trans h2) (Fld.id _) Z isAgg48 sizeOf48))<|rc (OblR.madeS _ Z Z Z Z fun V Q U O D=>by have a0:Rep zA1 V U (Q 29) p0:=D.g 0 Z;exact zId call33 (zDz (q17 Z) O.av a0) (fun k hk=>Nat.le_trans (Nat.le_trans j.size O.ch.size) hk))<|rc (OblR.madeS _ Z Z Z Z fun V Q U O D=>by exact zFZ zeroValue51 (fun A w=>zFf (zFh zDJ) (zFf (zFh zDJ) (zFf (zFh zDJ) zHo))) (fun k hk=>Nat.le_trans (Nat.le_trans j.size O.ch.size) hk))<|rc (OblR.tookM 4 [3] _ Z Z Z Z fun V Q U O D ρ σ hok hav hin hop hds hdd=>by have k1:=hok 4 (.head _) _ Z;exact zG8 Z (zAJ k1.2.2).ptr (hok 3 (.tail _ (.head _)) _ Z).2.2.1 (hop 3 (.tail _ (.head _)) _ _ Z Z Z Z).symm (hop 4 (.head _) _ _ Z Z Z Z).symm hav hdd k1.2.1 (hok 3 (.tail _ (.head _)) _ Z).2.1 sizeOf51 (fun _ _ _ h=>h))<|rz
 intro done ρ σ A R w y s
 obtain ⟨h2,h3,h6⟩:=k3 s.rg h2 h3 h6
 have z18:=s.inivR 0 Z
 have z19:=s.inivR 1 Z
 obtain ⟨u20,e_u20⟩:∃ u,ρ 5=u:=⟨_,Z⟩
 have z21:=(s.opnR y 5 3 Z Z Z Z Z).symm.trans e_u20
 have h7:=s.ov y 4 2 z21
 obtain ⟨S22,eS_u20⟩:∃ S,σ 5=S:=⟨_,Z⟩
 replace f_u15:=f_u15.stp s.stp
 obtain ⟨B,j,d⟩:=s.s B C j q ⟨Z,⟨Z,N⟩⟩
 replace q:=s.left y [(0,ob (.pointer (some ⟨b2_0,0,none⟩)) (.box w0.heap.size 48 zA1 p0)),(1,ob (.pointer (some ⟨b3_1,0,none⟩)) (.box w0.heap.size 48 zA1 p1)),(5,⟨u20,S22,trR (geB w0.heap.size) (oPt 51 (oPr (oRd (eInt .i64)) (oPr (oRd (eInt .i64)) (oPr (oRd (eInt .i64)) (oSl 9 (oRd eStr)))))) x16 []⟩)] ⟨Z,Z,z18,Z,Z,⟨Z,Z,z19,Z,Z,⟨Z,Z,e_u20,eS_u20,Z,N⟩⟩⟩
 obtain ⟨x23,q24,c⟩:=zA3 c
 refine HT.sx [ob (.pointer (some ⟨b2_0,0,none⟩)) (.box w0.heap.size 48 zA1 p0),ob (.pointer (some ⟨b3_1,0,none⟩)) (.box w0.heap.size 48 zA1 p1),⟨u20,S22,trR (geB w0.heap.size) (oPt 51 (oPr (oRd (eInt .i64)) (oPr (oRd (eInt .i64)) (oPr (oRd (eInt .i64)) (oSl 9 (oRd eStr)))))) x16 []⟩] ((rF fun A=>.rep zA1 A p1)::⟨_,true,[],some (trR (geB w0.heap.size) (oPr (oRd (eInt .i64)) (oPr (oRd (eInt .i64)) (oPr (oRd (eInt .i64)) (oSl 9 (oRd eStr))))) x23 []),true,fun A=>.any⟩::⟨_,true,[],some (trR (geB w0.heap.size) (oPt 51 (oPr (oRd (eInt .i64)) (oPr (oRd (eInt .i64)) (oPr (oRd (eInt .i64)) (oSl 9 (oRd eStr)))))) (0,(0,(0,([]:List (List UInt8))))) []),true,fun A=>.any⟩::⟨_,true,[5,4],some (trR (geB w0.heap.size) (oPt 51 (oPr (oRd (eInt .i64)) (oPr (oRd (eInt .i64)) (oPr (oRd (eInt .i64)) (oSl 9 (oRd eStr)))))) x23 []),false,fun A=>.any⟩::[]) (up (ua (ua (ua (UAll.nil))))) q d ?_ ?_
 exact rp (fun V Q U O D=>(zAE (O.rd 1 _ Z Z) ((O.old 3 Z).trans h3) (Fld.id _) Z isAgg48 sizeOf48))<|rc (OblR.madeS _ Z Z Z Z fun V Q U O D=>by have a0:Rep zA1 V U (Q 31) p1:=D.g 0 Z;exact zId call33 (zDz (q24 Z) O.av a0) (fun k hk=>Nat.le_trans (Nat.le_trans j.size O.ch.size) hk))<|rc (OblR.madeS _ Z Z Z Z fun V Q U O D=>by exact zFZ zeroValue51 (fun A w=>zFf (zFh zDJ) (zFf (zFh zDJ) (zFf (zFh zDJ) zHo))) (fun k hk=>Nat.le_trans (Nat.le_trans j.size O.ch.size) hk))<|rc (OblR.tookM 5 [4] _ Z Z Z Z fun V Q U O D ρ σ hok hav hin hop hds hdd=>by have k1:=hok 5 (.head _) _ Z;exact zG8 Z (zAJ k1.2.2).ptr (hok 4 (.tail _ (.head _)) _ Z).2.2.1 (hop 4 (.tail _ (.head _)) _ _ Z Z Z Z).symm (hop 5 (.head _) _ _ Z Z Z Z).symm hav hdd k1.2.1 (hok 4 (.tail _ (.head _)) _ Z).2.1 sizeOf51 (fun _ _ _ h=>h))<|rz
 intro done ρ σ A R w y s
 obtain ⟨h2,h3,h6,h7⟩:=k4 s.rg h2 h3 h6 h7
 have z25:=s.inivR 0 Z
 have z26:=s.inivR 1 Z
 have z27:=s.inivR 2 Z
 obtain ⟨u28,e_u28⟩:∃ u,ρ 6=u:=⟨_,Z⟩
 have z29:=(s.opnR y 6 3 Z Z Z Z Z).symm.trans e_u28
 have h8:=s.ov y 5 2 z29
 have eS_u20:=s.inisR 2 Z
 obtain ⟨S30,eS_u28⟩:∃ S,σ 6=S:=⟨_,Z⟩
 replace f_u15:=f_u15.stp s.stp
 obtain ⟨B,j,d⟩:=s.s B C j q ⟨Z,⟨Z,⟨fun _ h=>h,N⟩⟩⟩
 replace q:=s.left y [(0,ob (.pointer (some ⟨b2_0,0,none⟩)) (.box w0.heap.size 48 zA1 p0)),(1,ob (.pointer (some ⟨b3_1,0,none⟩)) (.box w0.heap.size 48 zA1 p1)),(2,⟨u20,S22,trR (geB w0.heap.size) (oPt 51 (oPr (oRd (eInt .i64)) (oPr (oRd (eInt .i64)) (oPr (oRd (eInt .i64)) (oSl 9 (oRd eStr)))))) x16 []⟩),(6,⟨u28,S30,trR (geB w0.heap.size) (oPt 51 (oPr (oRd (eInt .i64)) (oPr (oRd (eInt .i64)) (oPr (oRd (eInt .i64)) (oSl 9 (oRd eStr)))))) x23 []⟩)] ⟨Z,Z,z25,Z,Z,⟨Z,Z,z26,Z,Z,⟨Z,Z,z27,eS_u20,Z,⟨Z,Z,e_u28,eS_u28,Z,N⟩⟩⟩⟩
 refine HT.seq ?_
 obtain ⟨h31,l_h31,p_h31⟩:=((zAJ (q.own 2 _ Z).2).ptr).open
 replace q:IniOK [ob (.pointer (some ⟨b2_0,0,none⟩)) (.box w0.heap.size 48 zA1 p0),ob (.pointer (some ⟨b3_1,0,none⟩)) (.box w0.heap.size 48 zA1 p1),⟨u20,S22,trR (geB w0.heap.size) (oPt 51 (oPr (oRd (eInt .i64)) (oPr (oRd (eInt .i64)) (oPr (oRd (eInt .i64)) (oSl 9 (oRd eStr)))))) x16 [(u20,h31)]⟩,⟨u28,S30,trR (geB w0.heap.size) (oPt 51 (oPr (oRd (eInt .i64)) (oPr (oRd (eInt .i64)) (oPr (oRd (eInt .i64)) (oSl 9 (oRd eStr)))))) x23 []⟩] A w:=q.repin 2 Z (trP.pin p_h31)
 obtain ⟨h33,l_h33,p_h33⟩:=((zAJ (q.own 3 _ Z).2).ptr).open
 replace q:IniOK [ob (.pointer (some ⟨b2_0,0,none⟩)) (.box w0.heap.size 48 zA1 p0),ob (.pointer (some ⟨b3_1,0,none⟩)) (.box w0.heap.size 48 zA1 p1),⟨u20,S22,trR (geB w0.heap.size) (oPt 51 (oPr (oRd (eInt .i64)) (oPr (oRd (eInt .i64)) (oPr (oRd (eInt .i64)) (oSl 9 (oRd eStr)))))) x16 [(u20,h31)]⟩,⟨u28,S30,trR (geB w0.heap.size) (oPt 51 (oPr (oRd (eInt .i64)) (oPr (oRd (eInt .i64)) (oPr (oRd (eInt .i64)) (oSl 9 (oRd eStr)))))) x23 [(u28,h33)]⟩] A w:=q.repin 3 Z (trP.pin p_h33)
 obtain ⟨x35,q36,c⟩:=zA3 c
 refine HT.x [ob (.pointer (some ⟨b2_0,0,none⟩)) (.box w0.heap.size 48 zA1 p0),ob (.pointer (some ⟨b3_1,0,none⟩)) (.box w0.heap.size 48 zA1 p1),⟨u20,S22,trR (geB w0.heap.size) (oPt 51 (oPr (oRd (eInt .i64)) (oPr (oRd (eInt .i64)) (oPr (oRd (eInt .i64)) (oSl 9 (oRd eStr)))))) x16 [(u20,h31)]⟩,⟨u28,S30,trR (geB w0.heap.size) (oPt 51 (oPr (oRd (eInt .i64)) (oPr (oRd (eInt .i64)) (oPr (oRd (eInt .i64)) (oSl 9 (oRd eStr)))))) x23 [(u28,h33)]⟩] (rR (Enc.val zA1 h31)::rR (Enc.val zA1 h33)::⟨_,true,[],some (.vec w0.heap.size 3 (eInt .i64) x35),true,fun A=>.any⟩::⟨_,true,[6],some (.vec w0.heap.size 3 (eInt .i64) x35),true,fun A=>.any⟩::[]) (ur (ur (ua (ua (UAll.nil))))) q d ?_ ?_
 exact rp (fun V Q U O D=>zDv (F:=oPr (oRd (eInt .i64)) (oPr (oRd (eInt .i64)) (oPr (oRd (eInt .i64)) (oSl 9 (oRd eStr))))) ((O.rdo 2 _ Z Z).2.2 _ (.head _)) l_h31 ((O.old 7 Z).trans h7) isAgg51 sizeOf51)<|rp (fun V Q U O D=>zDv (F:=oPr (oRd (eInt .i64)) (oPr (oRd (eInt .i64)) (oPr (oRd (eInt .i64)) (oSl 9 (oRd eStr))))) ((O.rdo 3 _ Z Z).2.2 _ (.head _)) l_h33 ((O.old 8 Z).trans h8) isAgg51 sizeOf51)<|rc (OblR.made _ Z Z Z Z fun V Q U O D=>by have a0:Q 33=(Enc.val zA1 h31):=D.g 0 Z;have ra0:Rep zA1 A0 U (Q 33) _:=(zL1 (((zAJ (O.rdo 2 _ Z Z).2).ptr).pinS ((O.rdo 2 _ Z Z).2.2 _ (.head _)) l_h31) (O.low' B C (q.ge (⟨Z,⟨Z,⟨fun _ h=>h,⟨fun _ h=>h,N⟩⟩⟩⟩))) (fun k o hk ha=>Nat.not_lt.2 ((O.rdo 2 _ Z Z).1 k hk) (C k o ha))).eq a0;have a1:Q 34=(Enc.val zA1 h33):=D.g 1 Z;have ra1:Rep zA1 A0 U (Q 34) _:=(zL1 (((zAJ (O.rdo 3 _ Z Z).2).ptr).pinS ((O.rdo 3 _ Z Z).2.2 _ (.head _)) l_h33) (O.low' B C (q.ge (⟨Z,⟨Z,⟨fun _ h=>h,⟨fun _ h=>h,N⟩⟩⟩⟩))) (fun k o hk ha=>Nat.not_lt.2 ((O.rdo 3 _ Z Z).1 k hk) (C k o ha))).eq a1;exact zIV call56 (zED (q36 Z) (hA00.fr ((Nat.le_trans j.size O.ch.size))) (hG0.fr (j.tr O.ch (q.ge (⟨Z,⟨Z,⟨fun _ h=>h,⟨fun _ h=>h,N⟩⟩⟩⟩)))) ra0 ra1) (Nat.le_trans j.size O.ch.size) (O.low' B C (q.ge (⟨Z,⟨Z,⟨fun _ h=>h,⟨fun _ h=>h,N⟩⟩⟩⟩))) (fun _ _ _ _ _ h=>h))<|rc (OblR.took 6 _ _ Z Z Z Z Z fun V Q U O D u hok hav hin hop hds=>by exact zAH (hop _ _ Z Z Z Z).symm hok hav)<|rz
 intro done ρ σ A R w y s
 obtain ⟨h2,h3,h6,h7,h8⟩:=k5 s.rg h2 h3 h6 h7 h8
 have z37:=s.inivR 0 Z
 have z38:=s.inivR 1 Z
 have z39:=s.inivR 2 Z
 have z40:=s.inivR 3 Z
 obtain ⟨u41,e_u41⟩:∃ u,ρ 7=u:=⟨_,Z⟩
 have h9:=s.ov y 7 3 e_u41
 have eS_u20:=s.inisR 2 Z
 have eS_u28:=s.inisR 3 Z
 replace f_u15:=f_u15.stp s.stp
 obtain ⟨B,j,d⟩:=s.s B C j q ⟨Z,⟨Z,⟨fun _ h=>h,⟨fun _ h=>h,N⟩⟩⟩⟩
 replace q:=s.left y [(0,ob (.pointer (some ⟨b2_0,0,none⟩)) (.box w0.heap.size 48 zA1 p0)),(1,ob (.pointer (some ⟨b3_1,0,none⟩)) (.box w0.heap.size 48 zA1 p1)),(2,⟨u20,S22,trR (geB w0.heap.size) (oPt 51 (oPr (oRd (eInt .i64)) (oPr (oRd (eInt .i64)) (oPr (oRd (eInt .i64)) (oSl 9 (oRd eStr)))))) x16 [(u20,h31)]⟩),(3,⟨u28,S30,trR (geB w0.heap.size) (oPt 51 (oPr (oRd (eInt .i64)) (oPr (oRd (eInt .i64)) (oPr (oRd (eInt .i64)) (oSl 9 (oRd eStr)))))) x23 [(u28,h33)]⟩),(7,ob u41 (.vec w0.heap.size 3 (eInt .i64) x35))] ⟨Z,Z,z37,Z,Z,⟨Z,Z,z38,Z,Z,⟨Z,Z,z39,eS_u20,Z,⟨Z,Z,z40,eS_u28,Z,⟨Z,Z,e_u41,Z,Z,N⟩⟩⟩⟩⟩
 replace q:IniOK [ob (.pointer (some ⟨b2_0,0,none⟩)) (.box w0.heap.size 48 zA1 p0),ob (.pointer (some ⟨b3_1,0,none⟩)) (.box w0.heap.size 48 zA1 p1),⟨u20,S22,trR (geB w0.heap.size) (oPt 51 (oPr (oRd (eInt .i64)) (oPr (oRd (eInt .i64)) (oPr (oRd (eInt .i64)) (oSl 9 (oRd eStr)))))) x16 []⟩,⟨u28,S30,trR (geB w0.heap.size) (oPt 51 (oPr (oRd (eInt .i64)) (oPr (oRd (eInt .i64)) (oPr (oRd (eInt .i64)) (oSl 9 (oRd eStr)))))) x23 [(u28,h33)]⟩,ob u41 (.vec w0.heap.size 3 (eInt .i64) x35)] A w:=q.repin 2 Z trP.nopin
 replace q:IniOK [ob (.pointer (some ⟨b2_0,0,none⟩)) (.box w0.heap.size 48 zA1 p0),ob (.pointer (some ⟨b3_1,0,none⟩)) (.box w0.heap.size 48 zA1 p1),⟨u20,S22,trR (geB w0.heap.size) (oPt 51 (oPr (oRd (eInt .i64)) (oPr (oRd (eInt .i64)) (oPr (oRd (eInt .i64)) (oSl 9 (oRd eStr)))))) x16 []⟩,⟨u28,S30,trR (geB w0.heap.size) (oPt 51 (oPr (oRd (eInt .i64)) (oPr (oRd (eInt .i64)) (oPr (oRd (eInt .i64)) (oSl 9 (oRd eStr)))))) x23 []⟩,ob u41 (.vec w0.heap.size 3 (eInt .i64) x35)] A w:=q.repin 3 Z trP.nopin
 refine HT.seq ?_
 obtain ⟨x42,q43,c⟩:=zA3 c
 refine HT.su d j (eR u41::eR u15::eB x42::eB (!x42)::[]) ?_ ?_
 exact om h9<|om h6<|op (fun Q U W H D=>by have ra1:=(f_u15.fr W).eq (D.g 1 Z);exact zA6 call63 (zEV (q43 Z) (hA00.fr ((Nat.le_trans j.size W.size))) ((zCD ((q.fr W).ok 4 _ Z).1 B C).eq (D.g 0 Z)) (ra1.down B)))<|op (fun Q U W H D=>zBh (D.g 0 Z))<|oz
 intro R w m n p d j
 obtain ⟨h2,h3,h6,h7,h8,h9⟩:=k6 n h2 h3 h6 h7 h8 h9
 have h39:=p.r 3 Z
 replace f_u15:=f_u15.fr m
 replace q:=q.fr m
 refine HT.cond (!x42) h39 (fun c44=>?_) (fun c44=>?_)
 have c:=zAK c44 c
 refine HT.su d j (eB false::[]) ?_ ?_
 exact op (fun Q U W H D=>zA0 Z)<|oz
 intro R w m n p d j
 have h4:=p.r 0 Z
 replace q:=q.fr m
 replace q:IniOK [] A w:=q.sub [] N
 refine HT.ret ?_
 obtain rfl:=si c
 exact ⟨.inr Z,[R 4],⟨Z,N⟩,h4,j⟩
 have c:=zAL c44 c
 refine HT.skip ?_
 refine HT.seq ?_
 refine HT.seq ?_
 obtain ⟨h45,l_h45,p_h45⟩:=((zAJ (q.own 2 _ Z).2).ptr).open
 replace q:IniOK [ob (.pointer (some ⟨b2_0,0,none⟩)) (.box w0.heap.size 48 zA1 p0),ob (.pointer (some ⟨b3_1,0,none⟩)) (.box w0.heap.size 48 zA1 p1),⟨u20,S22,trR (geB w0.heap.size) (oPt 51 (oPr (oRd (eInt .i64)) (oPr (oRd (eInt .i64)) (oPr (oRd (eInt .i64)) (oSl 9 (oRd eStr)))))) x16 [(u20,h45)]⟩,⟨u28,S30,trR (geB w0.heap.size) (oPt 51 (oPr (oRd (eInt .i64)) (oPr (oRd (eInt .i64)) (oPr (oRd (eInt .i64)) (oSl 9 (oRd eStr)))))) x23 []⟩,ob u41 (.vec w0.heap.size 3 (eInt .i64) x35)] A w:=q.repin 2 Z (trP.pin p_h45)
 obtain ⟨x47,q48,c⟩:=zA3 c
 obtain ⟨x49,q50,c⟩:=zA3 c
 refine HT.draw (by kernel_rfl) (l:=eR (Enc.val zA1 h45)::eF (.rep zA1 A p0)::eF (.rep zA1 A x47)::eB x49::eB (!x49)::[]) (tl:=[]) (by kernel_rfl) (by kernel_rfl) (by kernel_rfl) (by kernel_rfl) ?_ ?_
 exact op (fun Q U W H D=>zDv (F:=oPr (oRd (eInt .i64)) (oPr (oRd (eInt .i64)) (oPr (oRd (eInt .i64)) (oSl 9 (oRd eStr))))) (((q.fr W).own 2 _ Z).2.2 _ (.head _)) l_h45 ((H 7 Z).trans h7) isAgg51 sizeOf51)<|op (fun Q U W H D=>(zAE ((q.fr W).ok 0 _ Z).1 ((H 2 Z).trans h2) (Fld.id _) Z isAgg48 sizeOf48))<|op (fun Q U W H D=>zA6 call33 (zBl (q48 Z) (d.fr W.size) (D.g 0 Z)))<|op (fun Q U W H D=>by have ra0:Rep zA1 A0 U (Q 40) _:=(zL1 (((zAJ ((q.fr W).own 2 _ Z).2).ptr).pinS (((q.fr W).own 2 _ Z).2.2 _ (.head _)) l_h45) B (fun k o hk ha=>Nat.not_lt.2 (((q.fr W).own 2 _ Z).1 k hk) (C k o ha))).eq (D.g 0 Z);have a1:Rep zA1 A U (Q 42) x47:=D.g 1 Z;exact zA6 call36 (zEy (q50 Z) (hA00.fr ((Nat.le_trans j.size W.size))) ra0 (a1.down B)))<|op (fun Q U W H D=>zBh (D.g 0 Z))<|oz
 intro R w m n p
 obtain ⟨h2,h3,h6,h7,h8,h9⟩:=k6 n h2 h3 h6 h7 h8 h9
 have h44:=p.r 4 Z
 replace f_u15:=f_u15.fr m
 replace q:=q.fr m
 replace d:=d.fr m.size
 replace j:=j.trans m
 replace q:IniOK [ob (.pointer (some ⟨b2_0,0,none⟩)) (.box w0.heap.size 48 zA1 p0),ob (.pointer (some ⟨b3_1,0,none⟩)) (.box w0.heap.size 48 zA1 p1),⟨u20,S22,trR (geB w0.heap.size) (oPt 51 (oPr (oRd (eInt .i64)) (oPr (oRd (eInt .i64)) (oPr (oRd (eInt .i64)) (oSl 9 (oRd eStr)))))) x16 []⟩,⟨u28,S30,trR (geB w0.heap.size) (oPt 51 (oPr (oRd (eInt .i64)) (oPr (oRd (eInt .i64)) (oPr (oRd (eInt .i64)) (oSl 9 (oRd eStr)))))) x23 []⟩,ob u41 (.vec w0.heap.size 3 (eInt .i64) x35)] A w:=q.repin 2 Z trP.nopin
 refine HT.cond (!x49) h44 (fun c51=>?_) (fun c51=>?_)
 have c:=zAK c51 c
 refine HT.su d j (eB false::[]) ?_ ?_
 exact op (fun Q U W H D=>zA0 Z)<|oz
 intro R w m n p d j
 have h4:=p.r 0 Z
 replace q:=q.fr m
 replace q:IniOK [] A w:=q.sub [] N
 refine HT.ret ?_
 obtain rfl:=si c
 exact ⟨.inr Z,[R 4],⟨Z,N⟩,h4,j⟩
 have c:=zAL c51 c
 refine HT.skip ?_
 refine HT.seq ?_
 refine HT.seq ?_
 obtain ⟨h52,l_h52,p_h52⟩:=((zAJ (q.own 3 _ Z).2).ptr).open
 replace q:IniOK [ob (.pointer (some ⟨b2_0,0,none⟩)) (.box w0.heap.size 48 zA1 p0),ob (.pointer (some ⟨b3_1,0,none⟩)) (.box w0.heap.size 48 zA1 p1),⟨u20,S22,trR (geB w0.heap.size) (oPt 51 (oPr (oRd (eInt .i64)) (oPr (oRd (eInt .i64)) (oPr (oRd (eInt .i64)) (oSl 9 (oRd eStr)))))) x16 []⟩,⟨u28,S30,trR (geB w0.heap.size) (oPt 51 (oPr (oRd (eInt .i64)) (oPr (oRd (eInt .i64)) (oPr (oRd (eInt .i64)) (oSl 9 (oRd eStr)))))) x23 [(u28,h52)]⟩,ob u41 (.vec w0.heap.size 3 (eInt .i64) x35)] A w:=q.repin 3 Z (trP.pin p_h52)
 obtain ⟨x54,q55,c⟩:=zA3 c
 obtain ⟨x56,q57,c⟩:=zA3 c
 refine HT.draw (by kernel_rfl) (l:=eR (Enc.val zA1 h52)::eF (.rep zA1 A p1)::eF (.rep zA1 A x54)::eB x56::eB (!x56)::[]) (tl:=[]) (by kernel_rfl) (by kernel_rfl) (by kernel_rfl) (by kernel_rfl) ?_ ?_
 exact op (fun Q U W H D=>zDv (F:=oPr (oRd (eInt .i64)) (oPr (oRd (eInt .i64)) (oPr (oRd (eInt .i64)) (oSl 9 (oRd eStr))))) (((q.fr W).own 3 _ Z).2.2 _ (.head _)) l_h52 ((H 8 Z).trans h8) isAgg51 sizeOf51)<|op (fun Q U W H D=>(zAE ((q.fr W).ok 1 _ Z).1 ((H 3 Z).trans h3) (Fld.id _) Z isAgg48 sizeOf48))<|op (fun Q U W H D=>zA6 call33 (zBl (q55 Z) (d.fr W.size) (D.g 0 Z)))<|op (fun Q U W H D=>by have ra0:Rep zA1 A0 U (Q 45) _:=(zL1 (((zAJ ((q.fr W).own 3 _ Z).2).ptr).pinS (((q.fr W).own 3 _ Z).2.2 _ (.head _)) l_h52) B (fun k o hk ha=>Nat.not_lt.2 (((q.fr W).own 3 _ Z).1 k hk) (C k o ha))).eq (D.g 0 Z);have a1:Rep zA1 A U (Q 47) x54:=D.g 1 Z;exact zA6 call36 (zEy (q57 Z) (hA00.fr ((Nat.le_trans j.size W.size))) ra0 (a1.down B)))<|op (fun Q U W H D=>zBh (D.g 0 Z))<|oz
 intro R w m n p
 obtain ⟨h2,h3,h6,h7,h8,h9⟩:=k6 n h2 h3 h6 h7 h8 h9
 have h49:=p.r 4 Z
 replace f_u15:=f_u15.fr m
 replace q:=q.fr m
 replace d:=d.fr m.size
 replace j:=j.trans m
 replace q:IniOK [ob (.pointer (some ⟨b2_0,0,none⟩)) (.box w0.heap.size 48 zA1 p0),ob (.pointer (some ⟨b3_1,0,none⟩)) (.box w0.heap.size 48 zA1 p1),⟨u20,S22,trR (geB w0.heap.size) (oPt 51 (oPr (oRd (eInt .i64)) (oPr (oRd (eInt .i64)) (oPr (oRd (eInt .i64)) (oSl 9 (oRd eStr)))))) x16 []⟩,⟨u28,S30,trR (geB w0.heap.size) (oPt 51 (oPr (oRd (eInt .i64)) (oPr (oRd (eInt .i64)) (oPr (oRd (eInt .i64)) (oSl 9 (oRd eStr)))))) x23 []⟩,ob u41 (.vec w0.heap.size 3 (eInt .i64) x35)] A w:=q.repin 3 Z trP.nopin
 refine HT.cond (!x56) h49 (fun c58=>?_) (fun c58=>?_)
 have c:=zAK c58 c
 refine HT.su d j (eB false::[]) ?_ ?_
 exact op (fun Q U W H D=>zA0 Z)<|oz
 intro R w m n p d j
 have h4:=p.r 0 Z
 replace q:=q.fr m
 replace q:IniOK [] A w:=q.sub [] N
 refine HT.ret ?_
 obtain rfl:=si c
 exact ⟨.inr Z,[R 4],⟨Z,N⟩,h4,j⟩
 have c:=zAL c58 c
 refine HT.skip ?_
 refine HT.su d j (eI 1::[]) ?_ ?_
 exact op (fun Q U W H D=>zA0 Z)<|oz
 intro R w m n p d j
 obtain ⟨h2,h3,h6,h7,h8,h9⟩:=k6 n h2 h3 h6 h7 h8 h9
 have h10:=p.r 0 Z
 replace f_u15:=f_u15.fr m
 replace q:=q.fr m
 refine HT.seq ?_
 obtain ⟨h59,l_h59,p_h59⟩:=((zAJ (q.own 2 _ Z).2).ptr).open
 replace q:IniOK [ob (.pointer (some ⟨b2_0,0,none⟩)) (.box w0.heap.size 48 zA1 p0),ob (.pointer (some ⟨b3_1,0,none⟩)) (.box w0.heap.size 48 zA1 p1),⟨u20,S22,trR (geB w0.heap.size) (oPt 51 (oPr (oRd (eInt .i64)) (oPr (oRd (eInt .i64)) (oPr (oRd (eInt .i64)) (oSl 9 (oRd eStr)))))) x16 [(u20,h59)]⟩,⟨u28,S30,trR (geB w0.heap.size) (oPt 51 (oPr (oRd (eInt .i64)) (oPr (oRd (eInt .i64)) (oPr (oRd (eInt .i64)) (oSl 9 (oRd eStr)))))) x23 []⟩,ob u41 (.vec w0.heap.size 3 (eInt .i64) x35)] A w:=q.repin 2 Z (trP.pin p_h59)
 obtain ⟨x61,q62,c⟩:=zA3 c
 refine HT.x [ob (.pointer (some ⟨b2_0,0,none⟩)) (.box w0.heap.size 48 zA1 p0),ob (.pointer (some ⟨b3_1,0,none⟩)) (.box w0.heap.size 48 zA1 p1),⟨u20,S22,trR (geB w0.heap.size) (oPt 51 (oPr (oRd (eInt .i64)) (oPr (oRd (eInt .i64)) (oPr (oRd (eInt .i64)) (oSl 9 (oRd eStr)))))) x16 [(u20,h59)]⟩,⟨u28,S30,trR (geB w0.heap.size) (oPt 51 (oPr (oRd (eInt .i64)) (oPr (oRd (eInt .i64)) (oPr (oRd (eInt .i64)) (oSl 9 (oRd eStr)))))) x23 []⟩,ob u41 (.vec w0.heap.size 3 (eInt .i64) x35)] (rR (Enc.val zA1 h59)::rI 1::⟨_,true,[2],some (trR (geB w0.heap.size) (oPt 51 (oPr (oRd (eInt .i64)) (oPr (oRd (eInt .i64)) (oPr (oRd (eInt .i64)) (oSl 9 (oRd eStr)))))) x61.2 []),false,fun A=>.raw (.int .i64 x61.1)⟩::rI x61.1::[]) (ur (ur (ur (ur (UAll.nil))))) q d ?_ ?_
 exact rp (fun V Q U O D=>zDv (F:=oPr (oRd (eInt .i64)) (oPr (oRd (eInt .i64)) (oPr (oRd (eInt .i64)) (oSl 9 (oRd eStr))))) ((O.rdo 2 _ Z Z).2.2 _ (.head _)) l_h59 ((O.old 7 Z).trans h7) isAgg51 sizeOf51)<|rm h10<|rc (OblR.tookS 2 _ _ Z Z Z Z Z fun V Q U O D u S hok hown hav hin hop hds=>by have a0:Q 50=(Enc.val zA1 h59):=D.g 0 Z;have a1:Q 51 = .int .i64 1:=D.g 1 Z;have e0:=(hin _ Z).1;rw [e0] at hown ⊢;have hu0:zAD Q (.tmp 50)=(Enc.val zA1 h59):=a0;exact zHQ call37 (((zAJ hown.2).ptr).pinS (hown.2.2 _ (.head _)) l_h59) hav hown.1 (fun k hk=>Nat.le_trans (Nat.le_trans j.size O.ch.size) hk) (fun k hk=>SP.lt _ hown.2 hk) (fun S1 hS1 hP=>by simp only [List.map,hu0];exact zEY (q62 Z) (O.av.subS _) (fun b o h=>h.2) hP a1) (fun _ _ _ h=>h))<|ra<|rz
 intro done ρ σ A R w y s
 obtain ⟨h2,h3,h6,h8,h9⟩:=k5 s.rg h2 h3 h6 h8 h9
 have z63:=s.inivR 0 Z
 have z64:=s.inivR 1 Z
 have z65:=s.inivR 2 Z
 have z66:=s.on y 7 2 Z Z Z Z Z z65
 have z67:=s.inivR 3 Z
 have z68:=s.inivR 4 Z
 obtain ⟨S69,eS_u20⟩:∃ S,σ 7=S:=⟨_,Z⟩
 have eS_u28:=s.inisR 3 Z
 have h10:=s.r y 3 Z
 replace f_u15:=f_u15.stp s.stp
 obtain ⟨B,j,d⟩:=s.s B C j q ⟨Z,⟨Z,⟨fun _ h=>h,⟨fun _ h=>h,⟨Z,N⟩⟩⟩⟩⟩
 replace q:=s.left y [(0,ob (.pointer (some ⟨b2_0,0,none⟩)) (.box w0.heap.size 48 zA1 p0)),(1,ob (.pointer (some ⟨b3_1,0,none⟩)) (.box w0.heap.size 48 zA1 p1)),(3,⟨u28,S30,trR (geB w0.heap.size) (oPt 51 (oPr (oRd (eInt .i64)) (oPr (oRd (eInt .i64)) (oPr (oRd (eInt .i64)) (oSl 9 (oRd eStr)))))) x23 []⟩),(4,ob u41 (.vec w0.heap.size 3 (eInt .i64) x35))] ⟨Z,Z,z63,Z,Z,⟨Z,Z,z64,Z,Z,⟨Z,Z,z67,eS_u28,Z,⟨Z,Z,z68,Z,Z,N⟩⟩⟩⟩
 refine HT.seq ?_
 obtain ⟨h70,l_h70,p_h70⟩:=((zAJ (q.own 2 _ Z).2).ptr).open
 replace q:IniOK [ob (.pointer (some ⟨b2_0,0,none⟩)) (.box w0.heap.size 48 zA1 p0),ob (.pointer (some ⟨b3_1,0,none⟩)) (.box w0.heap.size 48 zA1 p1),⟨u28,S30,trR (geB w0.heap.size) (oPt 51 (oPr (oRd (eInt .i64)) (oPr (oRd (eInt .i64)) (oPr (oRd (eInt .i64)) (oSl 9 (oRd eStr)))))) x23 [(u28,h70)]⟩,ob u41 (.vec w0.heap.size 3 (eInt .i64) x35)] A w:=q.repin 2 Z (trP.pin p_h70)
 obtain ⟨x72,q73,c⟩:=zA3 c
 refine HT.x [ob (.pointer (some ⟨b2_0,0,none⟩)) (.box w0.heap.size 48 zA1 p0),ob (.pointer (some ⟨b3_1,0,none⟩)) (.box w0.heap.size 48 zA1 p1),⟨u28,S30,trR (geB w0.heap.size) (oPt 51 (oPr (oRd (eInt .i64)) (oPr (oRd (eInt .i64)) (oPr (oRd (eInt .i64)) (oSl 9 (oRd eStr)))))) x23 [(u28,h70)]⟩,ob u41 (.vec w0.heap.size 3 (eInt .i64) x35)] (rR (Enc.val zA1 h70)::rI x61.1::⟨_,true,[2],some (trR (geB w0.heap.size) (oPt 51 (oPr (oRd (eInt .i64)) (oPr (oRd (eInt .i64)) (oPr (oRd (eInt .i64)) (oSl 9 (oRd eStr)))))) x72.2 []),false,fun A=>.raw (.int .i64 x72.1)⟩::rI x72.1::[]) (ur (ur (ur (ur (UAll.nil))))) q d ?_ ?_
 exact rp (fun V Q U O D=>zDv (F:=oPr (oRd (eInt .i64)) (oPr (oRd (eInt .i64)) (oPr (oRd (eInt .i64)) (oSl 9 (oRd eStr))))) ((O.rdo 2 _ Z Z).2.2 _ (.head _)) l_h70 ((O.old 8 Z).trans h8) isAgg51 sizeOf51)<|rm h10<|rc (OblR.tookS 2 _ _ Z Z Z Z Z fun V Q U O D u S hok hown hav hin hop hds=>by have a0:Q 53=(Enc.val zA1 h70):=D.g 0 Z;have a1:Q 54 = .int .i64 x61.1:=D.g 1 Z;have e0:=(hin _ Z).1;rw [e0] at hown ⊢;have hu0:zAD Q (.tmp 53)=(Enc.val zA1 h70):=a0;exact zHQ call37 (((zAJ hown.2).ptr).pinS (hown.2.2 _ (.head _)) l_h70) hav hown.1 (fun k hk=>Nat.le_trans (Nat.le_trans j.size O.ch.size) hk) (fun k hk=>SP.lt _ hown.2 hk) (fun S1 hS1 hP=>by simp only [List.map,hu0];exact zEY (q73 Z) (O.av.subS _) (fun b o h=>h.2) hP a1) (fun _ _ _ h=>h))<|ra<|rz
 intro done ρ σ A R w y s
 obtain ⟨h2,h3,h6,h9⟩:=k4 s.rg h2 h3 h6 h9
 have z74:=s.inivR 0 Z
 have z75:=s.inivR 1 Z
 have z76:=s.inivR 2 Z
 have z77:=s.on y 6 2 Z Z Z Z Z z76
 have z78:=s.inivR 3 Z
 obtain ⟨S79,eS_u28⟩:∃ S,σ 6=S:=⟨_,Z⟩
 have h10:=s.r y 3 Z
 replace f_u15:=f_u15.stp s.stp
 obtain ⟨B,j,d⟩:=s.s B C j q ⟨Z,⟨Z,⟨fun _ h=>h,⟨Z,N⟩⟩⟩⟩
 replace q:=s.left y [(0,ob (.pointer (some ⟨b2_0,0,none⟩)) (.box w0.heap.size 48 zA1 p0)),(1,ob (.pointer (some ⟨b3_1,0,none⟩)) (.box w0.heap.size 48 zA1 p1)),(3,ob u41 (.vec w0.heap.size 3 (eInt .i64) x35))] ⟨Z,Z,z74,Z,Z,⟨Z,Z,z75,Z,Z,⟨Z,Z,z78,Z,Z,N⟩⟩⟩
 refine HT.seq ?_
 refine HT.seq ?_
 obtain ⟨x80,q81,c⟩:=zA3 c
 obtain ⟨x82,q83,c⟩:=zAB c
 refine HT.u d j (eI x72.1::eB (decide (x72.1<0))::eB (decide (x72.1<0))::gR (true&&((decide (x72.1<0))==false)) u41::gR (true&&((decide (x72.1<0))==false)) u15::gB (true&&((decide (x72.1<0))==false)) x80::gB (true&&((decide (x72.1<0))==false)) (!x80)::eB x82::[]) ?_ ?_
 exact om h10<|op (fun Q U W H D=>zAf (D.g 0 Z) Z)<|ov<|gm 2 false h9<|gm 2 false h6<|og 2 false (fun G Q U W H D=>by have ra1:=(f_u15.fr W).eq (D.h 1 G Z);exact zA6 call63 (zEV (q81 G) (hA00.fr ((Nat.le_trans j.size W.size))) ((zCD ((q.fr W).ok 2 _ Z).1 B C).eq (D.h 0 G Z)) (ra1.down B)))<|og 2 false (fun G Q U W H D=>zBh (D.h 0 G Z))<|op (fun Q U W H D=>zAC (decide (x72.1<0)) (D.g 0 Z) (fun hc=>by show _=Value.bool x82;rw [q83,hc];exact Z) (fun hc=>by have a2:Q 62 = .bool (!x80):=D 1 _ _ _ Z Z Z Z (zAZ Z (zAM hc));show _=Value.bool x82;rw [q83,hc];exact a2))<|oz
 intro R w m n p d j
 obtain ⟨h2,h3,h6,h9⟩:=k4 n h2 h3 h6 h9
 have h63:=p.r 7 Z
 replace f_u15:=f_u15.fr m
 replace q:=q.fr m
 refine HT.cond x82 h63 (fun c84=>?_) (fun c84=>?_)
 have c:=zAK c84 c
 refine HT.su d j (eB false::[]) ?_ ?_
 exact op (fun Q U W H D=>zA0 Z)<|oz
 intro R w m n p d j
 have h4:=p.r 0 Z
 replace q:=q.fr m
 replace q:IniOK [] A w:=q.sub [] N
 refine HT.ret ?_
 obtain rfl:=si c
 exact ⟨.inr Z,[R 4],⟨Z,N⟩,h4,j⟩
 have c:=zAL c84 c
 refine HT.skip ?_
 refine HT.su d j (eI 1::[]) ?_ ?_
 exact op (fun Q U W H D=>zA0 Z)<|oz
 intro R w m n p d j
 obtain ⟨h2,h3,h6,h9⟩:=k4 n h2 h3 h6 h9
 have h11:=p.r 0 Z
 replace f_u15:=f_u15.fr m
 replace q:=q.fr m
 obtain ⟨x85,q86,c⟩:=zA3 c
 refine HT.sx [ob (.pointer (some ⟨b2_0,0,none⟩)) (.box w0.heap.size 48 zA1 p0),ob (.pointer (some ⟨b3_1,0,none⟩)) (.box w0.heap.size 48 zA1 p1),ob u41 (.vec w0.heap.size 3 (eInt .i64) x35)] (rR u41::rI 1::⟨_,true,[2],some (.vec w0.heap.size 3 (eInt .i64) x85.2),false,fun A=>.raw (.int .i64 x85.1)⟩::rI x85.1::[]) (ur (ur (ur (ur (UAll.nil))))) q d ?_ ?_
 exact rm h9<|rm h11<|rc (OblR.took 2 _ _ Z Z Z Z Z fun V Q U O D u hok hav hin hop hds=>by have a0:Q 64=u41:=D.g 0 Z;have a1:Q 65 = .int .i64 1:=D.g 1 Z;have hu0:zAD Q (.tmp 64)=u:=a0.trans (hin _ Z).symm;exact zGz call64 hav (fun _ _ _ _ _ h=>h) (by simp only [List.map,hu0];exact Calls.mono (zGv (q86 Z) (O.av.sub _) (fun b o h=>h.2) (Vec.flat hok (fun _ _ _ _ _ h=>h)) a1) (fun _ _ ⟨v,h1,h2,h3,h4⟩=>⟨v,h1,h2,h3,h4⟩)))<|ra<|rz
 intro done ρ σ A R w y s
 obtain ⟨h2,h3,h6,h9⟩:=k4 s.rg h2 h3 h6 h9
 have z87:=s.inivR 0 Z
 have z88:=s.inivR 1 Z
 have z89:=s.inivR 2 Z
 have z90:=s.on y 5 2 Z Z Z Z Z z89
 have h11:=s.r y 3 Z
 replace f_u15:=f_u15.stp s.stp
 obtain ⟨B,j,d⟩:=s.s B C j q ⟨Z,⟨Z,⟨Z,N⟩⟩⟩
 replace q:=s.left y [(0,ob (.pointer (some ⟨b2_0,0,none⟩)) (.box w0.heap.size 48 zA1 p0)),(1,ob (.pointer (some ⟨b3_1,0,none⟩)) (.box w0.heap.size 48 zA1 p1)),(5,ob u41 (.vec w0.heap.size 3 (eInt .i64) x85.2))] ⟨Z,Z,z87,Z,Z,⟨Z,Z,z88,Z,Z,⟨Z,Z,z90,Z,Z,N⟩⟩⟩
 refine HT.su d j (eI 1::[]) ?_ ?_
 exact op (fun Q U W H D=>zA0 Z)<|oz
 intro R w m n p d j
 obtain ⟨h2,h3,h6,h9,h11⟩:=k5 n h2 h3 h6 h9 h11
 have h12:=p.r 0 Z
 replace f_u15:=f_u15.fr m
 replace q:=q.fr m
 obtain ⟨x91,q92,c⟩:=zA3 c
 refine HT.su d j (eR u41::eI 1::eI x91::eI x91::[]) ?_ ?_
 exact om h9<|om h12<|op (fun Q U W H D=>zA6 call65 (zF5 (q92 Z) (hA00.fr ((Nat.le_trans j.size W.size))) ((zCD ((q.fr W).ok 2 _ Z).1 B C).eq (D.g 0 Z)) (D.g 1 Z)))<|oa<|oz
 intro R w m n p d j
 obtain ⟨h2,h3,h6,h9,h11⟩:=k5 n h2 h3 h6 h9 h11
 have h12:=p.r 3 Z
 replace f_u15:=f_u15.fr m
 replace q:=q.fr m
 refine HT.seq ?_
 refine HT.su d j (eI x91::eB (decide (x91<0))::[]) ?_ ?_
 exact om h12<|op (fun Q U W H D=>zAf (D.g 0 Z) Z)<|oz
 intro R w m n p d j
 obtain ⟨h2,h3,h6,h9,h11,h12⟩:=k6 n h2 h3 h6 h9 h11 h12
 have h71:=p.r 1 Z
 replace f_u15:=f_u15.fr m
 replace q:=q.fr m
 refine HT.cond (decide (x91<0)) h71 (fun c93=>?_) (fun c93=>?_)
 have c:=zAK c93 c
 refine HT.su d j (eB false::[]) ?_ ?_
 exact op (fun Q U W H D=>zA0 Z)<|oz
 intro R w m n p d j
 have h4:=p.r 0 Z
 replace q:=q.fr m
 replace q:IniOK [] A w:=q.sub [] N
 refine HT.ret ?_
 obtain rfl:=si c
 exact ⟨.inr Z,[R 4],⟨Z,N⟩,h4,j⟩
 have c:=zAL c93 c
 refine HT.skip ?_
 refine HT.seq ?_
 refine HT.su d j (eI x91::eI x85.1::eB (x91 != x85.1)::[]) ?_ ?_
 exact om h12<|om h11<|op (fun Q U W H D=>zEc (D.g 0 Z) (D.g 1 Z))<|oz
 intro R w m n p d j
 obtain ⟨h2,h3,h6,h9,h11⟩:=k5 n h2 h3 h6 h9 h11
 have h74:=p.r 2 Z
 replace f_u15:=f_u15.fr m
 replace q:=q.fr m
 refine HT.cond (x91 != x85.1) h74 (fun c94=>?_) (fun c94=>?_)
 have c:=zAK c94 c
 refine HT.su d j (eB false::[]) ?_ ?_
 exact op (fun Q U W H D=>zA0 Z)<|oz
 intro R w m n p d j
 have h4:=p.r 0 Z
 replace q:=q.fr m
 replace q:IniOK [] A w:=q.sub [] N
 refine HT.ret ?_
 obtain rfl:=si c
 exact ⟨.inr Z,[R 4],⟨Z,N⟩,h4,j⟩
 have c:=zAL c94 c
 refine HT.skip ?_
 refine HT.seq ?_
 obtain ⟨x95,q96,c⟩:=zA3 c
 obtain ⟨x97,q98,c⟩:=zA3 c
 obtain ⟨x99,q100,c⟩:=zA3 c
 refine HT.draw (by kernel_rfl) (l:=eF (.rep zA1 A p0)::eF (.rep zA1 A x95)::eF (.rep zA1 A p1)::eF (.rep zA1 A x97)::eF (.rep (eSl (eInt .i64)) A x99)::eF (.rep (eSl (eInt .i64)) A x99)::[]) (tl:=[]) (by kernel_rfl) (by kernel_rfl) (by kernel_rfl) (by kernel_rfl) ?_ ?_
 exact op (fun Q U W H D=>(zAE ((q.fr W).ok 0 _ Z).1 ((H 2 Z).trans h2) (Fld.id _) Z isAgg48 sizeOf48))<|op (fun Q U W H D=>zA6 call33 (zBl (q96 Z) (d.fr W.size) (D.g 0 Z)))<|op (fun Q U W H D=>(zAE ((q.fr W).ok 1 _ Z).1 ((H 3 Z).trans h3) (Fld.id _) Z isAgg48 sizeOf48))<|op (fun Q U W H D=>zA6 call33 (zBl (q98 Z) (d.fr W.size) (D.g 0 Z)))<|op (fun Q U W H D=>zA6 call56 (zFd (q100 Z) (d.fr W.size) (hG0.fr (j.trans W)) (D.g 0 Z) (D.g 1 Z)))<|op (fun Q U W H D=>zA0 (D.g 0 Z))<|oz
 intro R w m n p
 obtain ⟨h6,h9,h11⟩:=k3 n h6 h9 h11
 obtain ⟨u101,h13,f_u101⟩:∃ u,R 13=u∧Rep (eSl (eInt .i64)) A w u x99:=⟨_,Z,p 5 _ _ Z Z Z⟩
 replace f_u15:=f_u15.fr m
 replace q:=q.fr m
 replace q:IniOK [ob u41 (.vec w0.heap.size 3 (eInt .i64) x85.2)] A w:=q.sub [(2,ob u41 (.vec w0.heap.size 3 (eInt .i64) x85.2))] ⟨Z,Z,N⟩
 replace d:=d.fr m.size
 replace j:=j.trans m
 refine HT.seq ?_
 obtain ⟨x102,q103,c⟩:=zA3 c
 refine HT.su d j (eR u101::eR u15::eB x102::eB (!x102)::[]) ?_ ?_
 exact om h13<|om h6<|op (fun Q U W H D=>zA6 call63 (zEV (q103 Z) (d.fr W.size) ((f_u101.fr W).eq (D.g 0 Z)) ((f_u15.fr W).eq (D.g 1 Z))))<|op (fun Q U W H D=>zBh (D.g 0 Z))<|oz
 intro R w m n p d j
 obtain ⟨h9,h11⟩:=k2 n h9 h11
 have h83:=p.r 3 Z
 replace q:=q.fr m
 refine HT.cond (!x102) h83 (fun c104=>?_) (fun c104=>?_)
 have c:=zAK c104 c
 refine HT.su d j (eB false::[]) ?_ ?_
 exact op (fun Q U W H D=>zA0 Z)<|oz
 intro R w m n p d j
 have h4:=p.r 0 Z
 replace q:=q.fr m
 replace q:IniOK [] A w:=q.sub [] N
 refine HT.ret ?_
 obtain rfl:=si c
 exact ⟨.inr Z,[R 4],⟨Z,N⟩,h4,j⟩
 have c:=zAL c104 c
 refine HT.skip ?_
 refine HT.su d j (eI 1::[]) ?_ ?_
 exact op (fun Q U W H D=>zA0 Z)<|oz
 intro R w m n p d j
 obtain ⟨h9,h11⟩:=k2 n h9 h11
 have h12:=p.r 0 Z
 replace q:=q.fr m
 obtain ⟨x105,q106,c⟩:=zA3 c
 refine HT.su d j (eR u41::eI 1::eI x105::eI x105::[]) ?_ ?_
 exact om h9<|om h12<|op (fun Q U W H D=>zA6 call65 (zF5 (q106 Z) (hA00.fr ((Nat.le_trans j.size W.size))) ((zCD ((q.fr W).ok 0 _ Z).1 B C).eq (D.g 0 Z)) (D.g 1 Z)))<|oa<|oz
 intro R w m n p d j
 replace h11:=k1 n h11
 have h12:=p.r 3 Z
 replace q:=q.fr m
 replace q:IniOK [] A w:=q.sub [] N
 refine HT.seq ?_
 refine HT.su d j (eI x105::eB (decide (x105<0))::[]) ?_ ?_
 exact om h12<|op (fun Q U W H D=>zAf (D.g 0 Z) Z)<|oz
 intro R w m n p d j
 obtain ⟨h11,h12⟩:=k2 n h11 h12
 have h88:=p.r 1 Z
 replace q:=q.fr m
 refine HT.cond (decide (x105<0)) h88 (fun c107=>?_) (fun c107=>?_)
 have c:=zAK c107 c
 refine HT.su d j (eB false::[]) ?_ ?_
 exact op (fun Q U W H D=>zA0 Z)<|oz
 intro R w m n p d j
 have h4:=p.r 0 Z
 replace q:=q.fr m
 refine HT.ret ?_
 obtain rfl:=si c
 exact ⟨.inr Z,[R 4],⟨Z,N⟩,h4,j⟩
 have c:=zAL c107 c
 refine HT.skip ?_
 refine HT.seq ?_
 refine HT.su d j (eI x105::eI x85.1::eB (x105 != x85.1)::[]) ?_ ?_
 exact om h12<|om h11<|op (fun Q U W H D=>zEc (D.g 0 Z) (D.g 1 Z))<|oz
 intro R w m n p d j
 have h91:=p.r 2 Z
 replace q:=q.fr m
 refine HT.cond (x105 != x85.1) h91 (fun c108=>?_) (fun c108=>?_)
 have c:=zAK c108 c
 refine HT.su d j (eB false::[]) ?_ ?_
 exact op (fun Q U W H D=>zA0 Z)<|oz
 intro R w m n p d j
 have h4:=p.r 0 Z
 replace q:=q.fr m
 refine HT.ret ?_
 obtain rfl:=si c
 exact ⟨.inr Z,[R 4],⟨Z,N⟩,h4,j⟩
 have c:=zAL c108 c
 refine HT.skip ?_
 refine HT.su d j (eB true::[]) ?_ ?_
 exact op (fun Q U W H D=>zA0 Z)<|oz
 intro R w m n p d j
 have h4:=p.r 0 Z
 replace q:=q.fr m
 refine HT.ret ?_
 obtain rfl:=si c
 exact ⟨.inr Z,[R 4],⟨Z,N⟩,h4,j⟩
end Go.Proofs.YtcodfkieaoomnaaGreatDoor

namespace Go.Proofs.YtcodfkieaoomnaaGreatDoor
open Go.RowKit
set_option linter.unusedVariables false
theorem zA5 {α β:Type} [Inhabited α] {x:α} {k:α→Option β}:cl true (some x) k=k x:=rfl
theorem zLL {α β:Type} [Inhabited α] {o:Option α} {k:α→Option β}:cl false o k=k default:=rfl
theorem zMt {α β:Type} [Inhabited α] {g:Bool} {x:α} {k:α→Option β}:cl g (some x) k=k (bif g then x else default):=by cases g <;> rfl
theorem zBK {α β:Type} {e:α} {k:α→Option β}:bd e k=k e:=rfl
theorem ck_t {α:Type} {b:Bool} {k:Option α} (h:b=true):ck b k=k:=by rw [h];rfl
theorem zCL {α:Type} {k:Option α}:ck true k=k:=rfl
theorem zMM {ρ σ γ:Type} {s:σ} {f:ρ→Option γ} {g:σ→Option γ}:exM (.go s) f g=g s:=rfl
theorem zAx {i:Nat} {n:Nat} (h:i<n):inR (i:Int) n=true:=zDP.2 ⟨by omega,by omega⟩
theorem zNK {i:Int} {n:Nat} (h0:0≤i) (h:i<n):inR i n=true:=zDP.2 ⟨h0,h⟩
theorem zAl {x:Int} (h0:-9223372036854775808≤x) (h1:x≤9223372036854775807):i64B x=true:=by simp [i64B,h0,h1]
theorem zMu {α : Type} {xs : List α} {L : Nat → Int → List α → Option (List α)} 
    (hs:∀ k i ys x,i<xs.length→ys.length=xs.length→xs[i]? = some x→L (k+1) ((i:Nat):Int) ys=L k ((i+1:Nat):Int) (ys.set i x)) (he:∀ k ys,L (k+1) ((xs.length:Nat):Int) ys=some ys) :
    ∀ m i k ys,i+m=xs.length→m<k→ys.length=xs.length→ys.take i=xs.take i→L k ((i:Nat):Int) ys=some xs:=by
  intro m
  induction m with
  | zero=>
    intro i k ys hi hk hy ht
    obtain ⟨k,rfl⟩:∃ q,k=q+1:=⟨k-1,by omega⟩
    obtain rfl:i=xs.length:=by omega
    rw [he]
    rw [List.take_of_length_le (by omega),List.take_of_length_le (by omega)] at ht
    rw [ht]
  | succ m ih=>
    intro i k ys hi hk hy ht
    obtain ⟨k,rfl⟩:∃ q,k=q+1:=⟨k-1,by omega⟩
    have hlt:i<xs.length:=by omega
    rw [hs k i ys _ hlt hy (List.getElem?_eq_getElem hlt)]
    refine ih (i+1) k _ (by omega) (by omega) (by rw [List.length_set,hy]) ?_
    apply List.ext_getElem?
    intro j
    rw [List.getElem?_take,List.getElem?_take]
    split
    · rename_i hj
      rcases Nat.lt_or_ge j i with h | h
      · have := congrArg (fun l => l[j]?) ht
        simp only [List.getElem?_take,if_pos h] at this
        rw [List.getElem?_set_ne (by omega)]
        exact this
      · obtain rfl : j = i := by omega
        rw [List.getElem?_set_self (by omega),List.getElem?_eq_getElem hlt]
    · rfl
theorem zAq {α:Type} [Inhabited α] {xs:List α} {i:Nat} {x:α} (h:xs[i]? = some x):gtD xs (i:Int)=x:=by
  unfold gtD
  rw [Int.toNat_natCast,List.getD_eq_getElem?_getD,h]
  rfl
end Go.Proofs.YtcodfkieaoomnaaGreatDoor
namespace Go.Proofs.YtcodfkieaoomnaaGreatDoor
open Go.RowKit
set_option linter.unusedVariables false
theorem zBV {n:Nat} (h:n≤4294967296):zCV n=true:=Nat.ble_eq_true_of_le h
theorem zLI {n:Nat} (h:n≤1048577):mkOK (n:Int)=true:=by simp [mkOK];omega
theorem zFE : ∀ (a : List UInt8), bLt a a = false
  | []=>rfl
  | a::x=>by
    unfold bLt Op.bytesLess
    rw [show Op.bytesLess x x=false from zFE x]
    simp
theorem zK5 : ∀ {a b c : List UInt8}, bLt a b = true → bLt b c = true → bLt a c = true
  | _,_,[],_,h=>by cases ‹List UInt8› <;> simp [bLt,Op.bytesLess] at h
  | _,[],_::_,h,_=>by cases ‹List UInt8› <;> simp [bLt,Op.bytesLess] at h
  | [],_::_,_::_,_,_=>rfl
  | a::x,b::y,c::z,h,k=>by
    unfold bLt Op.bytesLess at h k ⊢
    simp only [Bool.or_eq_true,Bool.and_eq_true,decide_eq_true_eq,beq_iff_eq] at h k ⊢
    rcases h with h | ⟨rfl,h⟩
    · rcases k with k | ⟨rfl, k⟩
      · exact .inl (UInt8.lt_trans h k)
      · exact .inl h
    · rcases k with k | ⟨rfl, k⟩
      · exact .inl k
      · exact .inr ⟨rfl,zK5 h k⟩
theorem zK8 : ∀ {a b : List UInt8}, bLt a b = false → bLt b a = false → a = b
  | [],[],_,_=>rfl
  | [],_::_,h,_=>by simp [bLt,Op.bytesLess] at h
  | _::_,[],_,h=>by simp [bLt,Op.bytesLess] at h
  | a::x,b::y,h,k=>by
    unfold bLt Op.bytesLess at h k
    simp only [Bool.or_eq_false_iff,Bool.and_eq_false_imp,decide_eq_false_iff_not,beq_iff_eq] at h k
    have e:a=b:=by
      rcases UInt8.lt_or_lt_of_ne (a:=a) (b:=b) |> fun f=>Classical.em (a=b) |>.imp id f with e | e | e
      · exact e
      · exact absurd e h.1
      · exact absurd e k.1
    subst e
    rw [zK8 (h.2 rfl) (k.2 rfl)]
theorem zPM (a b:List UInt8):decide (a≤b) = !(bLt b a):=by
  have h:=Go.Proofs.bytesLess_eq b a
  unfold bLt
  rw [h]
  by_cases hlt:b<a
  · have : ¬ a ≤ b := List.not_le.2 hlt
    rw [decide_eq_true hlt,decide_eq_false this]
    rfl
  · have : a ≤ b := List.not_lt.1 hlt
    rw [decide_eq_false hlt,decide_eq_true this]
    rfl
theorem zIX {α : Type} {le : α → α → Prop} (anti : ∀ a b, le a b → le b a → a = b) : ∀ {l m : List α}, l.Perm m → l.Pairwise le → m.Pairwise le → l = m
  | [],m,hp,_,_=>hp.nil_eq
  | a::l,[],hp,_,_=>by have:=hp.length_eq;simp at this
  | a::l,b::m,hp,hl,hm=>by
    have e:a=b:=by
      rcases List.mem_cons.1 (hp.subset (List.mem_cons_self ..)) with e | e
      · exact e
      · rcases List.mem_cons.1 (hp.symm.subset (List.mem_cons_self ..)) with e' | e'
        · exact e'.symm
        · exact anti _ _ ((List.pairwise_cons.1 hl).1 _ e') ((List.pairwise_cons.1 hm).1 _ e)
    subst e
    rw [zIX anti (List.Perm.cons_inv hp) (List.pairwise_cons.1 hl).2 (List.pairwise_cons.1 hm).2]
end Go.Proofs.YtcodfkieaoomnaaGreatDoor
namespace Go.Proofs.YtcodfkieaoomnaaGreatDoor
open Go.RowKit
set_option linter.unusedVariables false
theorem lt_t {i n:Nat} (h:i<n):decide ((i:Int)<(n:Int))=true:=by simpa using h
theorem lt_f (n:Nat):decide ((n:Int)<(n:Int))=false:=decide_eq_false (Int.lt_irrefl _)
theorem zEC {i:Nat} (hn:i≤4294967296):i64B ((i:Int)+1)=true:=zAl (by omega) (by omega)
theorem zDK {α:Type} {xs:List α} {i:Nat} {x:α} (h:xs[i]? = some x):i<xs.length:=(List.getElem?_eq_some_iff.1 h).1
theorem zFx {α:Type} {xs:List α} {i:Nat} {x:α} (h:xs[i]? = some x):x ∈ xs:=List.mem_of_getElem? h
theorem zBH (i:Nat):(i:Int)+1=((i+1:Nat):Int):=rfl
theorem zGV {α:Type} (xs:List α) (i:Nat) (x:α):xs.set ((i:Nat):Int).toNat x=xs.set i x:=by rw [Int.toNat_natCast]
def szR (n:Int) (w:Nat):Int:=if (w:Int)≤n then n-w else -1
theorem zJT {n:Int} {w:Nat} (h:(w:Int)≤n):decide (szR n w<0)=false:=by
  unfold szR
  rw [if_pos h]
  exact decide_eq_false (by omega)
theorem zJX {n:Int} {w:Nat} (h:¬ (w:Int)≤n):decide (szR n w<0)=true:=by
  unfold szR
  rw [if_neg h]
  rfl
theorem zND {n:Int} {w:Nat} (h:(w:Int)≤n):szR n w=n-w:=if_pos h
theorem zLy {n:Int} {w v:Nat} (h:(w:Int)≤n):szR (n-w) v=szR n (w+v):=by
  unfold szR
  by_cases h2:(v:Int)≤n-w
  · rw [if_pos h2, if_pos (by omega)]
    omega
  · rw [if_neg h2,if_neg (by omega)]
theorem zMg {n:Int} {w v:Nat} (h:¬ (w:Int)≤n):szR n (w+v) = -1:=if_neg (by omega)
theorem zOy {n : Int} {l : Nat} (hn : 0 ≤ n) (hn1 : n ≤ 1048576) (hl : l ≤ maxLen) {c : Option Int} {r : Int} (h1 : ¬ (l : Int) ≤ n → r = -1) (h2 : (l : Int) ≤ n → c = some r) :
    (ck (i64B (n-(l:Int)))<|bif (decide ((n-(l:Int))<(0:Int))) then some (-1:Int) else c)=some r:=by
  unfold maxLen at hl
  rw [ck_t (zAl (by omega) (by omega))]
  by_cases h:(l:Int)≤n
  · rw [decide_eq_false (by omega), cond_false]
    exact h2 h
  · rw [decide_eq_true (by omega),cond_true,h1 h]
def wL {α:Type} (f:α→Nat) (xs:List α):Nat:=xs.length+(xs.map f).sum
theorem zCm {α:Type} {xs:List α} {i:Nat} {x:α} (h:xs[i]? = some x):xs.drop i=x::xs.drop (i+1):=by
  obtain ⟨h1,rfl⟩:=List.getElem?_eq_some_iff.1 h
  exact List.drop_eq_getElem_cons h1
theorem zNl {α : Type} {xs : List α} {f : α → Nat} {L : Nat → Int → Int → Option (Ex Int Int)}
    (hs:∀ k y (i:Nat) x,xs[i]? = some x→0≤y→y≤1048576→L (k+1) y (i:Int)=bif decide (szR y (f x)<0) then some (.ret (-1)) else L k (szR y (f x)) ((i+1:Nat):Int))
    (he:∀ k y,L (k+1) y (xs.length:Int)=some (.go y)) :
    ∀ m i k y,i+m=xs.length→m<k→0≤y→y≤1048576→L k y ((i:Nat):Int)=some (if ((((xs.drop i).map f).sum:Nat):Int)≤y then .go (szR y ((xs.drop i).map f).sum) else .ret (-1)):=by
  intro m
  induction m with
  | zero=>
    intro i k y hi hk h0 h1
    obtain ⟨k,rfl⟩:∃ q,k=q+1:=⟨k-1,by omega⟩
    obtain rfl:i=xs.length:=by omega
    rw [he,List.drop_length]
    simp [szR,h0]
  | succ m ih=>
    intro i k y hi hk h0 h1
    obtain ⟨k,rfl⟩:∃ q,k=q+1:=⟨k-1,by omega⟩
    have hlt:i<xs.length:=by omega
    have hx:=List.getElem?_eq_getElem hlt
    rw [hs k y i _ hx h0 h1,zCm hx,List.map_cons,List.sum_cons]
    by_cases h:(f xs[i]:Int)≤y
    · rw [zJT h, cond_false, zND h, ih (i + 1) k _ (by omega) (by omega) (by omega) (by omega), zLy h]
      congr 1
      by_cases h2:((((xs.drop (i+1)).map f).sum:Nat):Int)≤y-(f xs[i]:Int)
      · rw [if_pos h2,if_pos (by omega)]
      · rw [if_neg h2,if_neg (by omega)]
    · rw [zJX h,cond_true,if_neg (by omega)]
theorem zOa {α : Type} {xs : List α} {f : α → Nat} {L : Nat → Int → Int → Option (Ex Int Int)} {n : Int} {fu : Nat} (hn : 0 ≤ n) (hn1 : n ≤ 1048576) (hl : xs.length ≤ maxLen) (hf : 1048577 ≤ fu)
    (hs:∀ k y (i:Nat) x,xs.length≤1048576→xs[i]? = some x→0≤y→y≤1048576→L (k+1) y (i:Int)=bif decide (szR y (f x)<0) then some (.ret (-1)) else L k (szR y (f x)) ((i+1:Nat):Int))
    (he:∀ k y,L (k+1) y (xs.length:Int)=some (.go y)) :
    (ck (i64B (n-(xs.length:Int)))<|bif (decide ((n-(xs.length:Int))<(0:Int))) then some (-1:Int) else cl true (L fu (n-(xs.length:Int)) (0:Int)) fun rl=>exM rl (fun r=>some r) fun s=>some s)=some (szR n (wL f xs)):=by
  refine zOy hn hn1 hl (fun h=>zMg h) fun h=>?_
  have:=zNl (fun k y i x=>hs k y i x (by omega)) he xs.length 0 fu (n-(xs.length:Int)) (by omega) (by omega) (by omega) (by omega)
  rw [show ((0:Nat):Int)=0 from rfl] at this
  rw [this,zA5,List.drop_zero]
  by_cases h2:(((xs.map f).sum:Nat):Int)≤n-(xs.length:Int)
  · rw [if_pos h2, zLy h]
    rfl
  · rw [if_neg h2]
    unfold wL szR
    rw [if_neg (by omega)]
    rfl
theorem zJz {α : Type} {f : α → Nat} {x : α} : ∀ {xs : List α}, x ∈ xs → f x ≤ (xs.map f).sum
  | y::ys,h=>by
    rw [List.map_cons,List.sum_cons]
    rcases List.mem_cons.1 h with rfl | h
    · omega
    · have := zJz (f := f) h
      omega
theorem zOk {α : Type} [Inhabited α] {xs : List α} {z : α} {L : Nat → Int → List α → Option (List α)} {fu : Nat} (hl : xs.length ≤ 1048576) (hf : 1048577 ≤ fu)
    (hs:∀ k (i:Nat) ys x,i<xs.length→ys.length=xs.length→xs[i]? = some x→L (k+1) ((i:Nat):Int) ys=L k ((i+1:Nat):Int) (ys.set i x)) (he:∀ k ys,L (k+1) (xs.length:Int) ys=some ys) :
    (ck (mkOK (xs.length:Int))<|cl true (L fu (0:Int) (List.replicate (xs.length:Int).toNat z)) fun s=>some s)=some xs:=by
  rw [ck_t (zLI (by omega))]
  have:=zMu hs he xs.length 0 fu (List.replicate (xs.length:Int).toNat z) (by omega) (by omega) (by simp) (by simp)
  rw [show ((0:Nat):Int)=0 from rfl] at this
  rw [this]
  rfl
theorem zOR {α : Type} [BEq α] {xs ys : List α} (hl : xs.length = ys.length) {L : Nat → Int → Option (Ex Bool Unit)}
    (hs:∀ k (i:Nat) x y,xs[i]? = some x→ys[i]? = some y→L (k+1) (i:Int)=bif !(x==y) then some (.ret false) else L k ((i+1:Nat):Int))
    (he:∀ k,L (k+1) (xs.length:Int)=some (.go ())) :
    ∀ m i k,i+m=xs.length→m<k→L k ((i:Nat):Int)=some (bif xs.drop i==ys.drop i then .go () else .ret false):=by
  intro m
  induction m with
  | zero=>
    intro i k hi hk
    obtain ⟨k,rfl⟩:∃ q,k=q+1:=⟨k-1,by omega⟩
    obtain rfl:i=xs.length:=by omega
    rw [he,List.drop_length,hl,List.drop_length]
    rfl
  | succ m ih=>
    intro i k hi hk
    obtain ⟨k,rfl⟩:∃ q,k=q+1:=⟨k-1,by omega⟩
    have hx:=List.getElem?_eq_getElem (show i<xs.length by omega)
    have hy:=List.getElem?_eq_getElem (show i<ys.length by omega)
    rw [hs k i _ _ hx hy,zCm hx,zCm hy,List.cons_beq_cons]
    cases xs[i]==ys[i]
    · rfl
    · rw [Bool.not_true, cond_false, Bool.true_and]
      exact ih (i+1) k (by omega) (by omega)
theorem zME {α : Type} [BEq α] : ∀ {xs ys : List α}, xs.length ≠ ys.length → (xs == ys) = false
  | [],[],h=>absurd rfl h
  | [],_::_,_=>rfl
  | _::_,[],_=>rfl
  | x::xs,y::ys,h=>by
    rw [List.cons_beq_cons,zME (xs:=xs) (ys:=ys) (fun e=>h (by simp [e])),Bool.and_false]
theorem zMl {α : Type} [BEq α] {xs ys : List α} {L : Nat → Int → Option (Ex Bool Unit)} {fu : Nat} (hf : xs.length < fu)
    (hs:∀ k (i:Nat) x y,xs.length=ys.length→xs[i]? = some x→ys[i]? = some y→L (k+1) (i:Int)=bif !(x==y) then some (.ret false) else L k ((i+1:Nat):Int))
    (he:∀ k,L (k+1) (xs.length:Int)=some (.go ())) :
    (bif ((xs.length:Int) != (ys.length:Int)) then some false else cl true (L fu (0:Int)) fun rl=>exM rl (fun r=>some r) fun s=>some true)=some (xs==ys):=by
  by_cases hl:xs.length=ys.length
  · have h1 : ((xs.length : Int) != (ys.length : Int)) = false := by simp [hl]
    have:=zOR hl (fun k i x y=>hs k i x y hl) he xs.length 0 fu (by omega) (by omega)
    rw [show ((0:Nat):Int)=0 from rfl,List.drop_zero,List.drop_zero] at this
    rw [h1,cond_false,this,zA5]
    cases xs==ys <;> rfl
  · have h1 : ((xs.length : Int) != (ys.length : Int)) = true := by simp; omega
    rw [h1,cond_true,zME hl]
def cW {α:Type} (c:α→Int) (xs:List α):Int:=(xs.map c).sum
theorem zIx {α:Type} {c:α→Int} {x:α} {xs:List α}:cW c (x::xs)=c x+cW c xs:=by simp [cW]
theorem zGB {α : Type} {c : α → Int} (hc : ∀ x, 0 ≤ c x) : ∀ xs : List α, 0 ≤ cW c xs
  | []=>Int.le_refl _
  | x::xs=>by rw [zIx];have:=hc x;have:=zGB hc xs;omega
theorem zKE {α : Type} {c : α → Int} {f : α → Nat} (h : ∀ x, c x ≤ 8 * (f x : Int) + 8) : ∀ xs : List α, cW c xs ≤ 8 * (wL f xs : Int)
  | []=>by simp [cW,wL]
  | x::xs=>by
    have h1:=zKE h xs
    have h2:=h x
    rw [zIx]
    unfold wL at h1 ⊢
    simp only [List.length_cons,List.map_cons,List.sum_cons]
    omega
def mkW {α : Type} (f : α → Int → α) (c : α → Int) : List α → Int → List α
  | [],_=>[]
  | x::xs,k=>f x k::mkW f c xs (k+c x)
theorem zHC {α : Type} {f : α → Int → α} {c : α → Int} : ∀ {xs : List α} {k : Int}, (mkW f c xs k).length = xs.length
  | [],_=>rfl
  | x::xs,k=>by simp [mkW,zHC]
theorem zOW {α : Type} {f : α → Int → α} {c : α → Int} {Bd : α → Prop} {n : Nat} {lim : Int} {L : Nat → Int → Int → List α → Option (Int × List α)} (hc : ∀ x, 0 ≤ c x)
    (hs:∀ k y (i:Nat) ys x,i<n→ys.length=n→ys[i]? = some x→0<y→y+c x≤lim→Bd x→L (k+1) y (i:Int) ys=L k (y+c x) ((i+1:Nat):Int) (ys.set i (f x y)))
    (he:∀ k y ys,ys.length=n→L (k+1) y (n:Int) ys=some (y,ys)) :
    ∀ m i k y ys,i+m=n→m<k→ys.length=n→0<y→y+cW c (ys.drop i)≤lim→(∀ x ∈ ys.drop i,Bd x)→L k y ((i:Nat):Int) ys=some (y+cW c (ys.drop i),ys.take i++mkW f c (ys.drop i) y):=by
  intro m
  induction m with
  | zero=>
    intro i k y ys hi hk hl h0 h1 hb
    obtain ⟨k,rfl⟩:∃ q,k=q+1:=⟨k-1,by omega⟩
    obtain rfl:i=n:=by omega
    rw [he k y ys hl,List.drop_of_length_le (by omega),List.take_of_length_le (by omega)]
    simp [cW,mkW]
  | succ m ih=>
    intro i k y ys hi hk hl h0 h1 hb
    obtain ⟨k,rfl⟩:∃ q,k=q+1:=⟨k-1,by omega⟩
    have hlt:i<ys.length:=by omega
    have hx:=List.getElem?_eq_getElem hlt
    rw [zCm hx] at h1 hb ⊢
    rw [zIx] at h1 ⊢
    have hc1:=hc ys[i]
    have hc2:=zGB hc (ys.drop (i+1))
    have hd:(ys.set i (f ys[i] y)).drop (i+1)=ys.drop (i+1):=List.drop_set_of_lt (by omega)
    have ht:(ys.set i (f ys[i] y)).take (i+1)=ys.take i ++ [f ys[i] y]:=by
      rw [List.take_add_one,List.take_set_of_le (Nat.le_refl _),List.getElem?_set_self hlt]
      rfl
    rw [hs k y i ys _ (by omega) hl hx h0 (by omega) (hb _ (List.mem_cons_self ..)),ih (i+1) k _ _ (by omega) (by omega) (by rw [List.length_set];exact hl) (by omega) (by rw [hd];omega) (by rw [hd];exact fun x hx=>hb x (List.mem_cons_of_mem _ hx)),hd,ht,mkW,List.append_assoc,Int.add_assoc]
    rfl
theorem zJb {α : Type} {f : α → Int → α} {c : α → Int} {Bd : α → Prop} {lim : Int} {L : Nat → Int → Int → List α → Option (Int × List α)} {xs : List α} {k : Int} {fu : Nat} (hc : ∀ x, 0 ≤ c x) (hf : xs.length < fu) (hk : 0 < k) (h1 : k + cW c xs ≤ lim) (hb : ∀ x ∈ xs, Bd x)
    (hs:∀ k y (i:Nat) ys x,i<xs.length→ys.length=xs.length→ys[i]? = some x→0<y→y+c x≤lim→Bd x→L (k+1) y (i:Int) ys=L k (y+c x) ((i+1:Nat):Int) (ys.set i (f x y)))
    (he:∀ k y ys,ys.length=xs.length→L (k+1) y (xs.length:Int) ys=some (y,ys)) :
    (cl true (L fu k (0:Int) xs) fun s=>some (s.1,s.2))=some (k+cW c xs,mkW f c xs k):=by
  have:=zOW hc hs he xs.length 0 fu k xs (by omega) (by omega) rfl hk (by rw [List.drop_zero];exact h1) (by rw [List.drop_zero];exact hb)
  rw [show ((0:Nat):Int)=0 from rfl,List.drop_zero] at this
  rw [this]
  rfl
theorem zNr {α:Type} {f:α→Int→α} {c:α→Int} {zs:List α} {i:Nat} {x:α} {xs:List α} {k:Int} (h:zs.drop i=mkW f c (x::xs) k):zs[i]? = some (f x k)∧zs.drop (i+1)=mkW f c xs (k+c x):=by
  have h1:(zs.drop i)[0]? = some (f x k):=by rw [h];rfl
  rw [List.getElem?_drop,Nat.add_zero] at h1
  refine ⟨h1,?_⟩
  have h2:=zCm h1
  rw [h] at h2
  injection h2 with _ h2
  exact h2.symm
theorem zOV {α : Type} {f : α → Int → α} {c : α → Int} {Bd : α → Prop} {zs : List α} {lim : Int} {L : Nat → Int → Int → Option (Ex Int Int)} (hc : ∀ x, 0 ≤ c x)
    (hs:∀ k y (i:Nat) x,zs[i]? = some (f x y)→0<y→y+c x≤lim→Bd x→L (k+1) y (i:Int)=L k (y+c x) ((i+1:Nat):Int))
    (he:∀ k y,L (k+1) y (zs.length:Int)=some (.go y)) :
    ∀ xs i k y,i+xs.length=zs.length→xs.length<k→0<y→y+cW c xs≤lim→(∀ x ∈ xs,Bd x)→zs.drop i=mkW f c xs y→L k y ((i:Nat):Int)=some (.go (y+cW c xs)):=by
  intro xs
  induction xs with
  | nil=>
    intro i k y hi hk h0 h1 hb hz
    obtain ⟨k,rfl⟩:∃ q,k=q+1:=⟨k-1,by omega⟩
    obtain rfl:i=zs.length:=by simpa using hi
    rw [he]
    simp [cW]
  | cons x xs ih=>
    intro i k y hi hk h0 h1 hb hz
    obtain ⟨k,rfl⟩:∃ q,k=q+1:=⟨k-1,by omega⟩
    obtain ⟨hx,hz'⟩:=zNr hz
    rw [zIx] at h1 ⊢
    simp only [List.length_cons] at hi hk
    have hc1:=hc x
    have hc2:=zGB hc xs
    rw [hs k y i x hx h0 (by omega) (hb _ (List.mem_cons_self ..)),ih (i+1) k _ (by omega) (by omega) (by omega) (by omega) (fun x hx=>hb x (List.mem_cons_of_mem _ hx)) hz',Int.add_assoc]
theorem zMS {α : Type} {f : α → Int → α} {c : α → Int} {Bd : α → Prop} {lim : Int} {L : Nat → Int → Int → Option (Ex Int Int)} {xs zs : List α} {k : Int} {fu : Nat} (hz : zs = mkW f c xs k) (hc : ∀ x, 0 ≤ c x) (hf : xs.length < fu) (hk : 0 < k) (h1 : k + cW c xs ≤ lim) (hb : ∀ x ∈ xs, Bd x)
    (hs:∀ k y (i:Nat) x,zs[i]? = some (f x y)→0<y→y+c x≤lim→Bd x→L (k+1) y (i:Int)=L k (y+c x) ((i+1:Nat):Int))
    (he:∀ k y,L (k+1) y (zs.length:Int)=some (.go y)) :
    (cl true (L fu k (0:Int)) fun rl=>exM rl (fun r=>some r) fun s=>some s)=some (k+cW c xs):=by
  have:=zOV hc hs he xs 0 fu k (by rw [hz,zHC];omega) (by omega) hk h1 hb (by rw [List.drop_zero];exact hz)
  rw [show ((0:Nat):Int)=0 from rfl] at this
  rw [this]
  rfl
end Go.Proofs.YtcodfkieaoomnaaGreatDoor
namespace Go.Proofs.YtcodfkieaoomnaaGreatDoor
open Go.RowKit
set_option linter.unusedVariables false
set_option linter.unusedSimpArgs false
def zCo (x:List (List UInt8)):Nat:=wL (fun s:List UInt8=>s.length) x
def zCC (x:(Int) × (Int) × (Int) × (List (List UInt8))):Nat:=zCo x.2.2.2
theorem zLj {fu:Nat} {x:List (List UInt8)} {n:Int} (hb:(qS qB) x) (h0:0≤n) (h1:n≤1048576) (hf:1048577≤fu):zD3 fu x n=some (szR n (zCo x)):=by
  unfold zD3 zCo
  refine zOa h0 h1 hb.1 hf (L:=zBT fu x) (fun k y i z hl hz hy hy1=>?_) (fun k y=>by rw [zBT,lt_f];rfl)
  have hi:=zDK hz
  have hq:=hb.2 z (zFx hz)
  unfold qB maxLen at hq
  rw [zBT,lt_t hi,cond_true,ck_t (zAx hi),zAq hz,ck_t (zAl (by omega) (by omega))]
  by_cases h:(z.length:Int)≤y
  · rw [zJT h,zND h,decide_eq_false (by omega),cond_false,cond_false,ck_t (zEC (by omega)),zBH]
  · rw [zJX h,decide_eq_true (by omega),cond_true,cond_true]
theorem zJS {fu:Nat} {x:(Int) × (Int) × (Int) × (List (List UInt8))} {n:Int} (hb:(qP qI (qP qI (qP qI (qS qB)))) x) (h0:0≤n) (h1:n≤1048576) (hf:1048577≤fu):zCq fu x n=some (szR n (zCC x)):=by
  unfold zCq zCC
  rw [zLj hb.2.2.2 (by omega) (by omega) hf,zA5]
  by_cases g0:¬ (zCo x.2.2.2:Int)≤n
  · rw [zJX g0, cond_true]
    unfold szR
    rw [if_neg (by omega)]
  replace g0:=Classical.not_not.1 g0
  rw [zJT g0,cond_false,zND g0]
theorem zLp {fu:Nat} {x:List (List UInt8)} (hw:zCo x≤1048576) (hf:1048577≤fu):zD4 fu x=some x:=by
  have hw':=hw
  unfold zCo wL at hw'
  unfold zD4
  refine zOk (by omega) hf (L:=zBS fu x) (fun k i ys z hi hl hz=>?_) (fun k ys=>by rw [zBS,lt_f];rfl)
  rw [zBS,lt_t hi,cond_true,ck_t (zAx hi),ck_t (zAx (by omega)),ck_t (zEC (by omega)),zAq hz,zGV,zBH]
theorem zJU {fu:Nat} {x:(Int) × (Int) × (Int) × (List (List UInt8))} (hw:zCC x≤1048576) (hf:1048577≤fu):zAj fu x=some x:=by
  unfold zCC at hw
  unfold zAj
  rw [zLp (by omega) hf,zA5]
theorem zLw {fu:Nat} {x y:List (List UInt8)} (hw:zCo x≤1048576) (hf:1048577≤fu):zD6 fu x y=some (x==y):=by
  have hw':=hw
  unfold zCo wL at hw'
  unfold zD6
  refine zMl (by omega) (L:=zBR fu x y) (fun k i z z' hl hz hz'=>?_) (fun k=>by rw [zBR,lt_f];rfl)
  have hi:=zDK hz
  rw [zBR,lt_t hi,cond_true,ck_t (zAx hi),ck_t (zAx (zDK hz')),ck_t (zEC (by omega)),zAq hz,zAq hz',zBH]
theorem zJW {fu:Nat} {x y:(Int) × (Int) × (Int) × (List (List UInt8))} (hw:zCC x≤1048576) (hf:1048577≤fu):zBv fu x y=some (x==y):=by
  obtain ⟨x0,x1,x2,x3⟩:=x
  obtain ⟨y0,y1,y2,y3⟩:=y
  unfold zCC at hw
  try simp only [] at hw
  unfold zBv
  rw [show (((x0,x1,x2,x3):(Int) × (Int) × (Int) × (List (List UInt8)))==(y0,y1,y2,y3))=((x0==y0)&&((x1==y1)&&((x2==y2)&&(x3==y3)))) from rfl]
  simp only []
  rw [zLw (by omega) hf,zA5]
  try simp only [bne]
  cases h0:(x0==y0) <;> cases h1:(x1==y1) <;> cases h2:(x2==y2) <;> cases h3:(x3==y3) <;> rfl
def mt (k:Int):List UInt8:=gv (zCt 64 k)
theorem zFb {fu fu' : Nat} : ∀ (d : Nat) (y : Int) (s : List UInt8) (k : Nat), 0 ≤ y → y ≤ 4294967296 → y < 10 ^ d → d < k → s.length + d ≤ 1000 → ∃ r, r.length ≤ s.length + d ∧ zBN fu k y s = some r ∧ zBN fu' (d + 1) y s = some r
  | 0,y,s,k,h0,hM,h1,hk,hl=>by
    obtain ⟨k,rfl⟩:∃ q,k=q+1:=⟨k-1,by omega⟩
    obtain rfl:y=0:=by omega
    exact ⟨s,by omega,rfl,rfl⟩
  | d+1,y,s,k,h0,hM,h1,hk,hl=>by
    obtain ⟨k,rfl⟩:∃ q,k=q+1:=⟨k-1,by omega⟩
    rw [zBN,zBN]
    by_cases hy:0<y
    · have e1 : y.tmod 10 = y % 10 := Int.tmod_eq_emod_of_nonneg h0
      have e2:y.tdiv 10=y / 10:=Int.tdiv_eq_ediv_of_nonneg h0
      have hp:(10:Int) ^ (d+1)=10 ^ d*10:=Int.pow_succ ..
      have hm:0≤y % 10∧y % 10<10:=⟨Int.emod_nonneg _ (by omega),Int.emod_lt_of_pos _ (by omega)⟩
      have hlen:((strB [IntKind.u8.wrap (48+y.tmod 10)])++s).length=s.length+1:=by simp [strB]
      have hy2:i64B (y.tdiv 10)=true:=by
        rw [e2]
        exact zAl (by have:=Int.ediv_nonneg h0 (show (0:Int)≤10 by omega);omega) (by have:=Int.ediv_le_self 10 h0;omega)
      rw [decide_eq_true hy,cond_true,cond_true,ck_t (by decide),ck_t (zAl (by omega) (by omega)),ck_t (zBV (by rw [hlen];omega)),ck_t (by decide),ck_t hy2,ck_t (by decide),ck_t (zAl (by omega) (by omega)),ck_t (zBV (by rw [hlen];omega)),ck_t (by decide),ck_t hy2]
      obtain ⟨r,h2,h3,h4⟩:=zFb (fu:=fu) (fu':=fu') d (y.tdiv 10) ((strB [IntKind.u8.wrap (48+y.tmod 10)])++s) k (by rw [e2];exact Int.ediv_nonneg h0 (by omega)) (by rw [e2];have:=Int.ediv_le_self 10 h0;omega) (by rw [e2];exact Int.ediv_lt_of_lt_mul (by omega) (by omega)) (by omega) (by rw [hlen];omega)
      exact ⟨r,by rw [hlen] at h2;omega,h3,h4⟩
    · obtain rfl : y = 0 := by omega
      exact ⟨s,by omega,rfl,rfl⟩
theorem zLe {fu:Nat} {k:Int} (h0:0<k) (h1:k≤4294967296) (hf:1048577≤fu):zCt fu k=some (mt k):=by
  obtain ⟨r,h2,h3,h4⟩:=zFb (fu:=fu) (fu':=64) 12 k [] fu (by omega) h1 (by omega) (by omega) (by decide)
  obtain ⟨r',_,h3',h4'⟩:=zFb (fu:=64) (fu':=64) 12 k [] 64 (by omega) h1 (by omega) (by omega) (by decide)
  have e:r=r':=by rw [h4] at h4';injection h4'
  subst e
  unfold mt zCt
  rw [decide_eq_false (by omega),cond_false,cond_false,h3,h3',zA5,ck_t (zBV (by simp at h2 ⊢;omega))]
  rfl
def zIW (x:List UInt8) (k:Int):List UInt8:=mt k
def zEK (x:List UInt8):Int:=1
theorem zIG (x:List UInt8):0≤zEK x:=by
  unfold zEK
  omega
def zK2 (x:List (List UInt8)) (k:Int):List (List UInt8):=mkW zIW zEK x k
def zFK (x:List (List UInt8)):Int:=cW zEK x
theorem zIY (x:List (List UInt8)):0≤zFK x:=zGB zIG x
theorem zLV (x:List (List UInt8)):zFK x≤8*(zCo x:Int):=by
  unfold zFK zCo
  refine zKE (fun x=>?_) x
  unfold zEK
  omega
def zHk (x:(Int) × (Int) × (Int) × (List (List UInt8))) (k:Int):(Int) × (Int) × (Int) × (List (List UInt8)):=(x.1,x.2.1,x.2.2.1,zK2 x.2.2.2 (k))
def zDH (x:(Int) × (Int) × (Int) × (List (List UInt8))):Int:=zFK x.2.2.2
theorem zJq (x:(Int) × (Int) × (Int) × (List (List UInt8))):zDH x≤8*(zCC x:Int):=by
  unfold zDH zCC
  have:=zLV (x.2.2.2)
  omega
theorem zJg (x:(Int) × (Int) × (Int) × (List (List UInt8))):0≤zDH x:=by
  unfold zDH
  have:=zIY (x.2.2.2)
  omega
theorem zJV {fu:Nat} {x:List (List UInt8)} {k:Int} (hw:zCo x≤1048576) (hk:0<k) (h1:k+zFK x≤4294967296) (hf:1048577≤fu):zCd fu x k=some (k+zFK x,zK2 x k):=by
  have hw':=hw
  unfold zCo wL at hw'
  unfold zCd
  have hb:∀ z ∈ x,(fun s:List UInt8=>s.length) z≤1048576:=fun z hz=>Nat.le_trans (zJz (f:=(fun s:List UInt8=>s.length)) hz) (by omega)
  refine zJb (f:=zIW) (c:=zEK) (Bd:=(fun z:List UInt8=>(fun s:List UInt8=>s.length) z≤1048576)) (lim:=4294967296) (L:=zBD fu) zIG (by omega) hk h1 hb (fun k y i ys z hi hl hz hy hyl hbz=>?_) (fun k y ys hl=>by rw [zBD,hl,lt_f];rfl)
  have hil:i<ys.length:=by omega
  unfold zEK at hyl
  rw [zBD,lt_t hil,cond_true,zLe hy (by omega) hf,zA5,ck_t (zAx hil),ck_t (zAl (by omega) (by omega)),ck_t (zEC (by omega)),zGV,zBH]
  rfl
theorem zIM {fu:Nat} {x:(Int) × (Int) × (Int) × (List (List UInt8))} {k:Int} (hw:zCC x≤1048576) (hk:0<k) (h1:k+zDH x≤4294967296) (hf:1048577≤fu):zBU fu x k=some (k+zDH x,zHk x k):=by
  unfold zCC at hw
  unfold zDH at h1 ⊢
  unfold zBU
  have c3:=zIY (x.2.2.2)
  rw [zJV (by omega) (by omega) (by omega) hf,zA5]
  unfold zHk
  rfl
def zG3 (x:List (Int)):Nat:=wL (fun _=>0) x
theorem zOj {fu:Nat} {x y:List (Int)} (hw:zG3 x≤1048576) (hf:1048577≤fu):zCb fu x y=some (x==y):=by
  have hw':=hw
  unfold zG3 wL at hw'
  unfold zCb
  refine zMl (by omega) (L:=zC5 fu x y) (fun k i z z' hl hz hz'=>?_) (fun k=>by rw [zC5,lt_f];rfl)
  have hi:=zDK hz
  rw [zC5,lt_t hi,cond_true,ck_t (zAx hi),ck_t (zAx (zDK hz')),ck_t (zEC (by omega)),zAq hz,zAq hz',zBH]
  rfl
def zJ0 (x:Int) (k:Int):Int:=k
def zFY (x:Int):Int:=1
theorem zIy (x:Int):0≤zFY x:=by
  unfold zFY
  omega
def zLH (x:List (Int)) (k:Int):List (Int):=mkW zJ0 zFY x k
def zGR (x:List (Int)):Int:=cW zFY x
theorem zOX (x:List (Int)):0≤zGR x:=zGB zIy x
theorem zOp (x:List (Int)):zGR x≤8*(zG3 x:Int):=by
  unfold zGR zG3
  refine zKE (fun x=>?_) x
  unfold zFY
  omega
theorem zMk {fu:Nat} {x:List (Int)} {k:Int} (hw:zG3 x≤1048576) (hk:0<k) (h1:k+zGR x≤4294967296) (hf:1048577≤fu):zCu fu x k=some (k+zGR x,zLH x k):=by
  have hw':=hw
  unfold zG3 wL at hw'
  unfold zCu
  have hb:∀ z ∈ x,(fun _=>0) z≤1048576:=fun z hz=>Nat.le_trans (zJz (f:=(fun _=>0)) hz) (by omega)
  refine zJb (f:=zJ0) (c:=zFY) (Bd:=(fun z:Int=>(fun _=>0) z≤1048576)) (lim:=4294967296) (L:=zBW fu) zIy (by omega) hk h1 hb (fun k y i ys z hi hl hz hy hyl hbz=>?_) (fun k y ys hl=>by rw [zBW,hl,lt_f];rfl)
  have hil:i<ys.length:=by omega
  unfold zFY at hyl
  rw [zBW,lt_t hil,cond_true,ck_t (zAx hil),ck_t (zAl (by omega) (by omega)),ck_t (zEC (by omega)),zGV,zBH]
  rfl
theorem zMe {fu:Nat} {x z:List (Int)} {k:Int} (hz:z=zLH x k) (hw:zG3 x≤1048576) (hk:0<k) (h1:k+zGR x≤4294967296) (hf:1048577≤fu):zCJ fu z k=some (k+zGR x):=by
  have hw':=hw
  unfold zG3 wL at hw'
  unfold zCJ
  have hb:∀ z ∈ x,(fun _=>0) z≤1048576:=fun z hz=>Nat.le_trans (zJz (f:=(fun _=>0)) hz) (by omega)
  have hzl:z.length=x.length:=by rw [hz];exact zHC
  refine zMS (f:=zJ0) (c:=zFY) (Bd:=(fun z:Int=>(fun _=>0) z≤1048576)) (lim:=4294967296) (L:=zBa fu z) hz zIy (by omega) hk h1 hb (fun k y i u hu hy hyl hbz=>?_) (fun k y=>by rw [zBa,lt_f];rfl)
  have hi:=zDK hu
  unfold zFY at hyl
  rw [zBa,lt_t hi,cond_true,ck_t (zAx hi),zAq hu,show (zJ0 u y != y)=false from bne_self_eq_false' _,cond_false,ck_t (zAl (by omega) (by omega)),ck_t (zEC (by omega)),zBH]
  rfl
theorem zHX {fu : Nat} {a0 : (Int) × (Int) × (Int) × (List (List UInt8))} {a1 : (Int) × (Int) × (Int) × (List (List UInt8))} (hf : 1048577 ≤ fu) (h0 : (qP qI (qP qI (qP qI (qS qB)))) a0) (h1 : (qP qI (qP qI (qP qI (qS qB)))) a1)
    (hs:zCC a0+zCC a1≤1048576→∃ r:(List (Int)),zB1 fu a0 a1=some r∧zAr fu a0 a1=some r∧zG3 r≤1048576):zBg fu a0 a1=some true:=by
  unfold zBg
  rw [zJS h0 (by omega) (by omega) hf,zA5]
  by_cases g0:¬ (zCC a0:Int)≤1048576
  · rw [zJX g0,cond_true]
  replace g0:=Classical.not_not.1 g0
  rw [zJT g0,cond_false,zND g0]
  rw [zJS h1 (by omega) (by omega) hf,zA5]
  by_cases g1:¬ (zCC a1:Int)≤1048576-(zCC a0:Nat)
  · rw [zJX g1,cond_true]
  replace g1:=Classical.not_not.1 g1
  rw [zJT g1,cond_false]
  obtain ⟨r,e1,e2,v0⟩:=hs (by omega)
  have t0:zAj fu a0=some a0:=zJU (by omega) hf
  have q0:zBv fu a0 a0=some (a0==a0):=zJW (by omega) hf
  have t1:zAj fu a1=some a1:=zJU (by omega) hf
  have q1:zBv fu a1 a1=some (a1==a1):=zJW (by omega) hf
  have p0:zCb fu r r=some (r==r):=zOj (by omega) hf
  have c0:=zJg a0
  have d0:=zJq a0
  have c1:=zJg a1
  have d1:=zJq a1
  have m0:zBU fu a0 (1)=some (1+zDH a0,zHk a0 (1)):=zIM (by omega) (by omega) (by omega) hf
  have m1:zBU fu a1 (1+zDH a0)=some (1+zDH a0+zDH a1,zHk a1 (1+zDH a0)):=zIM (by omega) (by omega) (by omega) hf
  have k0:decide (1+zDH a0+zDH a1<0)=false:=decide_eq_false (by omega)
  have cr0:=zOX r
  have dr0:=zOp r
  have mr0:zCu fu r (1)=some (1+zGR r,zLH r (1)):=zMk (by omega) (by omega) (by omega) hf
  have hr0:zCJ fu (zLH r (1)) (1)=some (1+zGR r):=zMe rfl (by omega) (by omega) (by omega) hf
  have kr0:decide (1+zGR r<0)=false:=decide_eq_false (by omega)
  simp only [e1,e2,zA5,zBK,beq_self_eq_true,bne_self_eq_false',Bool.not_true,Bool.not_false,cond_false,cond_true,Bool.true_and,Bool.and_true,Bool.false_or,Bool.or_false,Bool.true_or,Bool.false_and,t0,q0,t1,q1,p0,m0,m1,k0,mr0,hr0,kr0,show (false==false)=true from rfl,show (true==false)=false from rfl,show (false==true)=false from rfl]
end Go.Proofs.YtcodfkieaoomnaaGreatDoor
namespace Go.Proofs.YtcodfkieaoomnaaGreatDoor
open Go.RowKit
set_option linter.unusedVariables false
theorem zFU {α ρ : Type} {xs : List α} {p : α → Bool} {r : ρ} {L : Nat → Int → Option (Ex ρ Unit)}
    (hs:∀ k (i:Nat) x,xs[i]? = some x→L (k+1) (i:Int)=bif p x then some (.ret r) else L k ((i+1:Nat):Int)) (he:∀ k,L (k+1) (xs.length:Int)=some (.go ())) {fu:Nat} (hf:xs.length<fu) :
    L fu (0:Int)=some (bif xs.any p then .ret r else .go ()):=by
  have key:∀ m i k,i+m=xs.length→m<k→L k ((i:Nat):Int)=some (bif (xs.drop i).any p then .ret r else .go ()):=by
    intro m
    induction m with
    | zero=>
      intro i k hi hk
      obtain ⟨k,rfl⟩:∃ q,k=q+1:=⟨k-1,by omega⟩
      obtain rfl:i=xs.length:=by omega
      rw [he,List.drop_length]
      rfl
    | succ m ih=>
      intro i k hi hk
      obtain ⟨k,rfl⟩:∃ q,k=q+1:=⟨k-1,by omega⟩
      have hx:=List.getElem?_eq_getElem (show i<xs.length by omega)
      rw [hs k i _ hx,zCm hx,List.any_cons]
      cases p xs[i]
      · exact ih (i+1) k (by omega) (by omega)
      · rfl
  have:=key xs.length 0 fu (by omega) hf
  rwa [show ((0:Nat):Int)=0 from rfl,List.drop_zero] at this
def adjB {α : Type} (b : α → α → Bool) : α → List α → Bool
  | _,[]=>false
  | p,x::xs=>b p x || adjB b x xs
def zIe {α : Type} (b0 : α → Bool) (b : α → α → Bool) : List α → Bool
  | []=>false
  | x::xs=>b0 x || adjB b x xs
theorem zLE {α ρ : Type} {xs : List α} {b0 : α → Bool} {b : α → α → Bool} {r : ρ} {L : Nat → Int → Option (Ex ρ Unit)}
    (h0:∀ k x,xs[0]? = some x→L (k+1) (0:Int)=bif b0 x then some (.ret r) else L k ((1:Nat):Int))
    (hs:∀ k (i:Nat) q x,xs[i]? = some q→xs[i+1]? = some x→L (k+1) ((i+1:Nat):Int)=bif b q x then some (.ret r) else L k ((i+1+1:Nat):Int))
    (he:∀ k,L (k+1) (xs.length:Int)=some (.go ())) {fu:Nat} (hf:xs.length<fu) :
    L fu (0:Int)=some (bif zIe b0 b xs then .ret r else .go ()):=by
  have key:∀ m i k q,i+1+m=xs.length→m<k→xs[i]? = some q→L k ((i+1:Nat):Int)=some (bif adjB b q (xs.drop (i+1)) then .ret r else .go ()):=by
    intro m
    induction m with
    | zero=>
      intro i k q hi hk hq
      obtain ⟨k,rfl⟩:∃ q,k=q+1:=⟨k-1,by omega⟩
      have e:i+1=xs.length:=by omega
      rw [e,he,List.drop_length]
      rfl
    | succ m ih=>
      intro i k q hi hk hq
      obtain ⟨k,rfl⟩:∃ q,k=q+1:=⟨k-1,by omega⟩
      have hx:=List.getElem?_eq_getElem (show i+1<xs.length by omega)
      rw [hs k i q _ hq hx,zCm hx,adjB]
      cases b q xs[i+1]
      · exact ih (i+1) k _ (by omega) (by omega) hx
      · rfl
  obtain ⟨k,rfl⟩:∃ q,fu=q+1:=⟨fu-1,by omega⟩
  cases xs with
  | nil=>exact he k
  | cons x xs=>
    rw [h0 k x rfl,zIe]
    cases b0 x
    · have := key xs.length 0 k x (by simp; omega) (by simp at hf; omega) rfl
      exact this
    · rfl
def ixI : Nat → List Bool → Option Nat
  | _,[]=>none
  | i,b::bs=>bif b then some i else ixI (i+1) bs
theorem zLS : ∀ {bs : List Bool} {i j : Nat}, ixI i bs = some j → i ≤ j ∧ bs[j - i]? = some true ∧ ∀ q, q < j - i → bs[q]? = some false
  | [],i,j,h=>by cases h
  | b::bs,i,j,h=>by
    unfold ixI at h
    cases b with
    | true=>
      obtain rfl:=Option.some.inj h
      refine ⟨Nat.le_refl _,by simp,fun q hq=>by omega⟩
    | false=>
      obtain ⟨h1,h2,h3⟩:=zLS (bs:=bs) (i:=i+1) h
      refine ⟨by omega,?_,fun q hq=>?_⟩
      · rw [show j - i = (j - (i + 1)) + 1 by omega, List.getElem?_cons_succ]
        exact h2
      · cases q with
        | zero=>rfl
        | succ q=>rw [List.getElem?_cons_succ];exact h3 q (by omega)
theorem zL4 : ∀ {bs : List Bool} {i : Nat}, ixI i bs = none → ∀ b ∈ bs, b = false
  | [],i,h,b,hb=>by cases hb
  | c::bs,i,h,b,hb=>by
    unfold ixI at h
    cases c with
    | true=>cases h
    | false=>
      rcases List.mem_cons.1 hb with rfl | hb
      · rfl
      · exact zL4 (bs:=bs) (i:=i+1) h b hb
theorem zOh {α : Type} {xs : List α} {p : α → Bool} {L : Nat → Int → Option (Ex Int Unit)}
    (hs:∀ k (i:Nat) x,xs[i]? = some x→L (k+1) (i:Int)=bif p x then some (.ret (i:Int)) else L k ((i+1:Nat):Int)) (he:∀ k,L (k+1) (xs.length:Int)=some (.go ())) {fu:Nat} (hf:xs.length<fu) :
    L fu (0:Int)=some (match ixI 0 (xs.map p) with | some i=>.ret (i:Int) | none=>.go ()):=by
  have key:∀ m i k,i+m=xs.length→m<k→L k ((i:Nat):Int)=some (match ixI i ((xs.drop i).map p) with | some i=>.ret (i:Int) | none=>.go ()):=by
    intro m
    induction m with
    | zero=>
      intro i k hi hk
      obtain ⟨k,rfl⟩:∃ q,k=q+1:=⟨k-1,by omega⟩
      obtain rfl:i=xs.length:=by omega
      rw [he,List.drop_length]
      rfl
    | succ m ih=>
      intro i k hi hk
      obtain ⟨k,rfl⟩:∃ q,k=q+1:=⟨k-1,by omega⟩
      have hx:=List.getElem?_eq_getElem (show i<xs.length by omega)
      rw [hs k i _ hx,zCm hx,List.map_cons,ixI]
      cases p xs[i]
      · exact ih (i+1) k (by omega) (by omega)
      · rfl
  have:=key xs.length 0 fu (by omega) hf
  rwa [show ((0:Nat):Int)=0 from rfl,List.drop_zero] at this
theorem zDw {α σ : Type} {xs : List α} {g : σ → α → σ} {Inv : Nat → σ → Prop} {L : Nat → Int → σ → Option σ}
    (hs:∀ k (i:Nat) a x,xs[i]? = some x→Inv i a→L (k+1) (i:Int) a=L k ((i+1:Nat):Int) (g a x)) (hI:∀ (i:Nat) a x,xs[i]? = some x→Inv i a→Inv (i+1) (g a x))
    (he:∀ k a,Inv xs.length a→L (k+1) (xs.length:Int) a=some a) {a:σ} (h0:Inv 0 a) {fu:Nat} (hf:xs.length<fu) :
    L fu (0:Int) a=some (xs.foldl g a)∧Inv xs.length (xs.foldl g a):=by
  have key:∀ m i k a,i+m=xs.length→m<k→Inv i a→L k ((i:Nat):Int) a=some ((xs.drop i).foldl g a)∧Inv xs.length ((xs.drop i).foldl g a):=by
    intro m
    induction m with
    | zero=>
      intro i k a hi hk ha
      obtain ⟨k,rfl⟩:∃ q,k=q+1:=⟨k-1,by omega⟩
      obtain rfl:i=xs.length:=by omega
      rw [he k a ha,List.drop_length]
      exact ⟨rfl,ha⟩
    | succ m ih=>
      intro i k a hi hk ha
      obtain ⟨k,rfl⟩:∃ q,k=q+1:=⟨k-1,by omega⟩
      have hx:=List.getElem?_eq_getElem (show i<xs.length by omega)
      rw [hs k i a _ hx ha,zCm hx,List.foldl_cons]
      exact ih (i+1) k _ (by omega) (by omega) (hI i a _ hx ha)
  have:=key xs.length 0 fu a (by omega) hf h0
  rwa [show ((0:Nat):Int)=0 from rfl,List.drop_zero] at this
theorem zCg {i:Nat} (hn:i≤4294967296):i64B ((i+1:Nat):Int)=true:=zAl (by omega) (by omega)
theorem zIE (i:Nat) (hn:i≤4294967296):i64B (i:Int)=true:=zAl (by omega) (by omega)
theorem lt_0 {n:Nat} (h:0<n):decide ((0:Int)<(n:Int))=true:=decide_eq_true (by omega)
theorem zKL {n:Nat} (h:0<n):inR (0:Int) n=true:=zAx (i:=0) h
theorem zN8 {α:Type} [Inhabited α] {xs:List α} {x:α} (h:xs[0]? = some x):gtD xs (0:Int)=x:=zAq (i:=0) h
theorem zNT:(0:Int)+1=((1:Nat):Int):=rfl
theorem zKq:i64B ((1:Nat):Int)=true:=rfl
theorem zPD:decide ((0:Int)<(0:Int))=false:=rfl
theorem zJp (i:Nat):((i+1:Nat):Int)-1=(i:Int):=by omega
theorem zPN (i:Nat):decide ((0:Int)<((i+1:Nat):Int))=true:=decide_eq_true (by omega)
end Go.Proofs.YtcodfkieaoomnaaGreatDoor
namespace Go.Proofs.YtcodfkieaoomnaaGreatDoor
open Go.RowKit
set_option linter.unusedVariables false
set_option linter.unusedSimpArgs false
theorem zDl {t:List UInt8} {i:Nat} {c:UInt8} (h:t[i]? = some c):bAt t (i:Int)=(c.toNat:Int):=by
  unfold bAt
  rw [Int.toNat_natCast,List.getD_eq_getElem?_getD,h]
  rfl
def smI (n:Int):Bool:=decide (97≤n)&&decide (n≤122)
def dgI (n:Int):Bool:=decide (48≤n)&&decide (n≤57)
def cpI (n:Int):Bool:=decide (65≤n)&&decide (n≤90)
def naC (c:UInt8):Bool:=!(smI c.toNat) && !(dgI c.toNat)
theorem zJi {fu:Nat} {t:List UInt8} (hf:t.length<fu) (hl:t.length≤4294967296):zBy fu t=some (!(t.any naC)):=by
  unfold zBy
  have h:=zFU (xs:=t) (p:=naC) (r:=false) (L:=zAv fu t) (fun k i c hc=>by
    have hi:=zDK hc
    rw [zAv,lt_t hi,cond_true]
    simp only [zAx hi,zDl hc,zBs,zCF,zBK,zMt,zA5,Bool.or_true,zCL,zCg (show i≤4294967296 by omega),zBH,naC,smI,dgI]
    generalize (decide ((97:Int)≤(c.toNat:Int))&&decide ((c.toNat:Int)≤122))=s
    generalize (decide ((48:Int)≤(c.toNat:Int))&&decide ((c.toNat:Int)≤57))=d
    cases s <;> cases d <;> rfl) (fun k=>by rw [zAv,lt_f];rfl) hf
  rw [h,zA5]
  cases t.any naC <;> rfl
def tokX (t:List UInt8):Bool:=(t == []) || t.any naC
def tokB (l:List (List UInt8)):Bool:=!(zIe tokX (fun p x=>tokX x || !(bLt p x)) l)
theorem zLN {fu:Nat} {l:List (List UInt8)} (hf:1048577≤fu) (hl:l.length≤1048576) (he:∀ t ∈ l,t.length≤1048576):zCI fu l=some (tokB l):=by
  unfold zCI
  have h:=zLE (xs:=l) (b0:=tokX) (b:=fun p x=>tokX x || !(bLt p x)) (r:=false) (L:=zB7 fu l) (fun k x hx=>by
    have hi:=zDK hx
    have hal:=zJi (fu:=fu) (t:=x) (by have:=he x (zFx hx);omega) (by have:=he x (zFx hx);omega)
    rw [zB7,lt_0 hi,cond_true]
    simp only [zKL hi,zN8 hx,zNT,zKq,zPD,hal,zBK,zMt,zCL,tokX]
    cases (x == []) <;> cases x.any naC <;> rfl) (fun k i q x hq hx=>by
    have hi:=zDK hx
    have hi':=zDK hq
    have hal:=zJi (fu:=fu) (t:=x) (by have:=he x (zFx hx);omega) (by have:=he x (zFx hx);omega)
    rw [zB7,lt_t hi,cond_true]
    simp only [zAx hi,zAx hi',zAq hx,zJp,zAq hq,zPN,hal,zBK,zMt,zAl (show -9223372036854775808≤(i:Int) by omega) (show (i:Int)≤9223372036854775807 by omega),Bool.or_true,zCL,zCg (show i+1≤4294967296 by omega),zBH,tokX]
    cases (x == []) <;> cases x.any naC <;> cases bLt q x <;> rfl) (fun k=>by rw [zB7,lt_f];rfl) (show l.length<fu by omega)
  rw [h,zA5]
  unfold tokB
  cases zIe tokX (fun p x=>tokX x || !(bLt p x)) l <;> rfl
def zHf (n:Int):Int:=bif cpI n then n+32 else n
theorem zKT (n:Int) (h0:0≤n) (h1:n≤255):IntKind.u8.wrap n=n:=by
  have:n % 256=n:=Int.emod_eq_of_lt h0 (by omega)
  simp [IntKind.wrap,IntKind.bits,this,show IntKind.u8.signed=false from rfl]
theorem zO8 {fu:Nat} {t:List UInt8} (hf:t.length<fu) (hl:t.length≤1048576):zBX fu t=some (t.map fun c=>UInt8.ofNat (zHf c.toNat).toNat):=by
  unfold zBX
  have h:=zDw (xs:=t) (g:=fun (a:List Int) (c:UInt8)=>a ++ [zHf c.toNat]) (Inv:=fun i a=>a.length=i) (L:=zBM fu t) (fun k i a c hc ha=>by
    have hi:=zDK hc
    have hcu:c.toNat<256:=c.toNat_lt
    rw [zBM,lt_t hi,cond_true]
    simp only [zAx hi,zDl hc,zBK,zCL,List.length_singleton,zBV (show a.length+1≤4294967296 by omega),zCg (show i≤4294967296 by omega),zBH,zHf,cpI]
    cases hcp:(decide ((65:Int)≤(c.toNat:Int))&&decide ((c.toNat:Int)≤90))
    · rfl
    · simp only [Bool.and_eq_true, decide_eq_true_eq] at hcp
      rw [zKT _ (by omega) (by omega)]
      rfl) (fun i a c hc ha=>by simp [ha]) (fun k a ha=>by rw [zBM,lt_f];rfl) (a:=[]) rfl hf
  rw [h.1,zA5]
  have key:∀ (t:List UInt8) (a:List Int),t.foldl (fun (a:List Int) (c:UInt8)=>a ++ [zHf c.toNat]) a=a++t.map fun c=>zHf c.toNat:=by
    intro t
    induction t with
    | nil=>intro a;simp
    | cons c t ih=>intro a;rw [List.foldl_cons,ih];simp
  rw [key,List.nil_append]
  unfold strB
  rw [List.map_map]
  rfl
theorem zOc (t:List UInt8):((t.map fun c=>UInt8.ofNat (zHf c.toNat).toNat)==t) = !(t.any fun c=>cpI c.toNat):=by
  induction t with
  | nil=>rfl
  | cons c t ih=>
    rw [List.map_cons,List.cons_beq_cons,ih,List.any_cons]
    have hcu:c.toNat<256:=c.toNat_lt
    have:(UInt8.ofNat (zHf c.toNat).toNat==c) = !(cpI c.toNat):=by
      unfold zHf
      cases h:cpI c.toNat
      · rw [cond_false, Int.toNat_natCast, UInt8.ofNat_toNat]
        simp
      · rw [cond_true, Bool.not_true, beq_eq_false_iff_ne]
        intro e
        have e2:=congrArg UInt8.toNat e
        unfold cpI at h
        simp only [Bool.and_eq_true,decide_eq_true_eq] at h
        rw [UInt8.toNat_ofNat'] at e2
        omega
    rw [this]
    cases cpI c.toNat <;> rfl
def wdI (n:Int):Bool:=(smI n || cpI n) || dgI n
theorem zM9 {fu:Nat} {l:List (List UInt8)} {i:Nat} {t:List UInt8} (ht:l[i]? = some t) (hf:t.length<fu) (hl:t.length≤1048576) (hne:t ≠ []):zAu fu l (i:Int) fu (0:Int)=some (bif t.any naC then .ret false else .go ()):=by
  have hit:=zDK ht
  have h:=zFU (xs:=t) (p:=fun c=>!(wdI c.toNat) || t.any (fun c=>cpI c.toNat)) (r:=false) (L:=zAu fu l (i:Int)) (fun k j c hc=>by
    have hj:=zDK hc
    have hfd:=zO8 (fu:=fu) hf hl
    rw [zAu]
    simp only [zAx hit,zAq ht,lt_t hj,cond_true,zAx hj,zDl hc,zD1,zBK,zMt,zA5,hfd,Bool.or_true,zCL,zCg (show j≤4294967296 by omega),zBH,wdI,smI,cpI,dgI]
    generalize ((decide ((97:Int)≤(c.toNat:Int))&&decide ((c.toNat:Int)≤122) || decide ((65:Int)≤(c.toNat:Int))&&decide ((c.toNat:Int)≤90)) || decide ((48:Int)≤(c.toNat:Int))&&decide ((c.toNat:Int)≤57))=s
    cases s
    · rfl
    · have := zOc t
      unfold cpI at this
      simp only [Bool.not_true,Bool.false_or,show (false==false)=true from rfl,Bool.true_and,cond_true,this,Bool.not_not]) (fun k=>by rw [zAu,ck_t (zAx hit),zAq ht,lt_f];rfl) hf
  rw [h]
  congr 2
  have hp:∀ c:UInt8,naC c=(!(wdI c.toNat) || cpI c.toNat):=by
    intro c
    unfold naC wdI
    cases hs:smI c.toNat <;> cases hc:cpI c.toNat <;> cases hd:dgI c.toNat <;> first | rfl | (unfold smI at hs;unfold cpI at hc;unfold dgI at hd;simp only [Bool.and_eq_true,decide_eq_true_eq] at hs hc hd;omega)
  rw [Bool.eq_iff_iff]
  simp only [List.any_eq_true,hp,Bool.or_eq_true]
  constructor
  · rintro ⟨c, hc, h | ⟨d, hd, h⟩⟩
    · exact ⟨c,hc,.inl h⟩
    · exact ⟨d,hd,.inr h⟩
  · rintro ⟨c, hc, h | h⟩
    · exact ⟨c,hc,.inl h⟩
    · exact ⟨c,hc,.inr ⟨c,hc,h⟩⟩
theorem zKm {fu:Nat} {l:List (List UInt8)} (hf:1048577≤fu) (hl:l.length≤1048576) (he:∀ t ∈ l,t.length≤1048576):zCH fu l=some (tokB l):=by
  unfold zCH
  have key:∀ (i:Nat) x,l[i]? = some x→(x == [])=false→zAu fu l (i:Int) fu (0:Int)=some (bif x.any naC then .ret false else .go ()):=fun i x hx hne=>zM9 hx (by have:=he x (zFx hx);omega) (he x (zFx hx)) (by intro e;subst e;cases hne)
  have h:=zLE (xs:=l) (b0:=tokX) (b:=fun p x=>tokX x || !(bLt p x)) (r:=false) (L:=zB6 fu l) (fun k x hx=>by
    have hi:=zDK hx
    rw [zB6,lt_0 hi,cond_true]
    simp only [zKL hi,zN8 hx,zNT,zKq,zPD,zBK,zCL,tokX]
    cases hx0:(x == [])
    · have := key 0 x hx hx0
      rw [show ((0:Nat):Int)=0 from rfl] at this
      simp only [this,zA5]
      cases x.any naC <;> rfl
    · rfl) (fun k i q x hq hx=>by
    have hi:=zDK hx
    have hi':=zDK hq
    rw [zB6,lt_t hi,cond_true]
    simp only [zAx hi,zAx hi',zAq hx,zJp,zAq hq,zPN,zBK,zAl (show -9223372036854775808≤(i:Int) by omega) (show (i:Int)≤9223372036854775807 by omega),Bool.or_true,zCL,zCg (show i+1≤4294967296 by omega),zBH,tokX]
    cases hx0:(x == [])
    · rw [key (i + 1) x hx hx0]
      simp only [zA5]
      cases x.any naC <;> cases bLt q x <;> rfl
    · cases bLt q x <;> rfl) (fun k=>by rw [zB6,lt_f];rfl) (show l.length<fu by omega)
  rw [h,zA5]
  unfold tokB
  cases zIe tokX (fun p x=>tokX x || !(bLt p x)) l <;> rfl
end Go.Proofs.YtcodfkieaoomnaaGreatDoor
namespace Go.Proofs.YtcodfkieaoomnaaGreatDoor
open Go.RowKit
set_option linter.unusedVariables false
set_option linter.unusedSimpArgs false
def spC (c : UInt8) : List UInt8 → List (List UInt8)
  | []=>[[]]
  | b :: s => if b = c then [] :: spC c s else match spC c s with
    | []=>[[b]]
    | x::xs=>(b::x)::xs
theorem zKt (c:UInt8) (s:List UInt8):spC c s ≠ []:=by
  cases s with
  | nil=>simp [spC]
  | cons b s=>
    unfold spC
    split
    · simp
    · cases spC c s <;> simp
theorem zKx {c : UInt8} : ∀ {s : List UInt8}, c ∉ s → spC c s = [s]
  | [],_=>rfl
  | b::s,h=>by
    have h1:b ≠ c:=fun e=>h (e ▸ List.mem_cons_self)
    have h2:=zKx (c:=c) (s:=s) fun h'=>h (List.mem_cons_of_mem _ h')
    unfold spC
    rw [if_neg h1,h2]
theorem zLx {c : UInt8} : ∀ {x s : List UInt8}, c ∉ x → spC c (x ++ c :: s) = x :: spC c s
  | [],s,_=>by
    show spC c (c::s)=_
    rw [spC,if_pos rfl]
  | b::x,s,h=>by
    have h1:b ≠ c:=fun e=>h (e ▸ List.mem_cons_self)
    have h2:=zLx (c:=c) (x:=x) (s:=s) fun h'=>h (List.mem_cons_of_mem _ h')
    rw [List.cons_append,spC,if_neg h1,h2]
theorem zJ2 (c : UInt8) : ∀ s : List UInt8, (spC c s).length ≤ s.length + 1
  | []=>Nat.le_refl _
  | b::s=>by
    have:=zJ2 c s
    unfold spC
    split
    · simp only [List.length_cons];omega
    · cases h : spC c s with
      | nil=>simp
      | cons x xs=>rw [h] at this;simp only [List.length_cons] at this ⊢;omega
theorem zJ9 (c : UInt8) : ∀ s : List UInt8, ∀ x ∈ spC c s, x.length ≤ s.length
  | [],x,hx=>by rw [spC] at hx;rw [List.mem_singleton.1 hx];exact Nat.le_refl _
  | b::s,x,hx=>by
    unfold spC at hx
    split at hx
    · rcases List.mem_cons.1 hx with rfl | hx
      · exact Nat.zero_le _
      · exact Nat.le_succ_of_le (zJ9 c s x hx)
    · cases h : spC c s with
      | nil=>exact absurd h (zKt c s)
      | cons y ys=>
        rw [h] at hx
        rcases List.mem_cons.1 hx with rfl | hx
        · have := zJ9 c s y (by rw [h]; exact List.mem_cons_self)
          simp only [List.length_cons];omega
        · have := zJ9 c s x (by rw [h]; exact List.mem_cons_of_mem _ hx)
          simp only [List.length_cons];omega
theorem zJG {t:List UInt8} {i:Nat} {c:UInt8} (h:t[i]? = some c):bAt t (i:Int)=(c.toNat:Int):=by
  unfold bAt
  simp [List.getD_eq_getElem?_getD,h]
theorem zNQ {s:List UInt8} {a b:Nat}:subL s (a:Int) (b:Int)=(s.drop a).take (b-a):=by simp [subL]
theorem zNY {fu : Nat} {s : List UInt8} {c : UInt8} (hs : s.length ≤ 1048576) : ∀ m i a k (acc : List (List UInt8)), i + m = s.length → m < k → a ≤ i → acc.length ≤ i → c ∉ (s.drop a).take (i - a) →
    ∃ q:Nat × List (List UInt8),zBx fu s (c.toNat:Int) k (a:Int) (i:Int) acc=some ((q.1:Int),q.2)∧q.1≤s.length∧q.2.length≤s.length∧q.2 ++ [s.drop q.1]=acc++spC c (s.drop a):=by
  intro m
  induction m with
  | zero=>
    intro i a k acc hi hk ha hacc hn
    obtain ⟨k,rfl⟩:∃ z,k=z+1:=⟨k-1,by omega⟩
    obtain rfl:i=s.length:=by omega
    refine ⟨(a,acc),by rw [zBx,lt_f];rfl,ha,hacc,?_⟩
    rw [List.take_of_length_le (by simp)] at hn
    rw [zKx hn]
  | succ m ih=>
    intro i a k acc hi hk ha hacc hn
    obtain ⟨k,rfl⟩:∃ z,k=z+1:=⟨k-1,by omega⟩
    have hlt:i<s.length:=by omega
    have hx:=List.getElem?_eq_getElem hlt
    have hdrop:s.drop a=(s.drop a).take (i-a)++s[i]::s.drop (i+1):=by
      have h1:(s.drop a).drop (i-a)=s[i]::s.drop (i+1):=by
        rw [List.drop_drop,show a+(i-a)=i by omega]
        exact List.drop_eq_getElem_cons hlt
      rw [← h1,List.take_append_drop]
    rw [zBx,lt_t hlt,cond_true,ck_t (zAx hlt),zJG hx]
    by_cases hc:s[i]=c
    · have e : ((s[i].toNat : Int) == (c.toNat : Int)) = true := by rw [hc]; simp
      obtain ⟨q,h1,h2,h3,h4⟩:=ih (i+1) (i+1) k (acc ++ [(s.drop a).take (i-a)]) (by omega) (by omega) (Nat.le_refl _) (by simp;omega) (by simp)
      refine ⟨q,?_,h2,h3,?_⟩
      · rw [e, cond_true, ck_t (zBf.2 ⟨by omega, by omega, by omega⟩), ck_t (zBV (by simp; omega)), ck_t (zEC (by omega)), ck_t (zEC (by omega)), zBH, zNQ]
        exact h1
      · have e3 := congrArg (spC c) hdrop
        rw [hc,zLx hn] at e3
        rw [h4,e3,List.append_assoc]
        rfl
    · have e:((s[i].toNat:Int)==(c.toNat:Int))=false:=by
        rw [beq_eq_false_iff_ne]
        intro h
        exact hc (UInt8.toNat_inj.1 (by omega))
      obtain ⟨q, h1, h2, h3, h4⟩ := ih (i + 1) a k acc (by omega) (by omega) (by omega) (by omega) (by
        have ht:(s.drop a).take (i+1-a)=(s.drop a).take (i-a) ++ [s[i]]:=by
          rw [show i+1-a=(i-a)+1 by omega,List.take_add_one,List.getElem?_drop,show a+(i-a)=i by omega,hx]
          rfl
        rw [ht]
        intro h
        rcases List.mem_append.1 h with h | h
        · exact hn h
        · exact hc (List.mem_singleton.1 h).symm)
      refine ⟨q,?_,h2,h3,h4⟩
      rw [e,cond_false,ck_t (zEC (by omega)),zBH]
      exact h1
theorem zOU {fu:Nat} {s:List UInt8} {c:UInt8} (hf:1048577≤fu) (hs:s.length≤1048576):zDR fu s (c.toNat:Int)=some (spC c s):=by
  obtain ⟨q,h1,h2,h3,h4⟩:=zNY (fu:=fu) (c:=c) hs s.length 0 0 fu [] (by omega) (by omega) (Nat.le_refl _) (Nat.zero_le _) (by simp)
  unfold zDR
  have e:subL s (q.1:Int) (s.length:Int)=s.drop q.1:=by
    unfold subL
    exact List.take_of_length_le (by simp only [List.length_drop];omega)
  rw [show (0:Int)=((0:Nat):Int) from rfl,h1,zA5]
  dsimp only
  rw [ck_t (zBf.2 ⟨by omega,by omega,by omega⟩),e,ck_t (zBV (by simp;omega)),h4]
  simp
theorem zKZ {b c:UInt8} {l:List UInt8} (h:b ≠ c):Lib.index (b::l) [c]=if Lib.index l [c] == -1 then -1 else Lib.index l [c]+1:=by
  have hp:([c]:List UInt8).isPrefixOf (b::l)=false:=by simp [List.isPrefixOf,Ne.symm h]
  rw [Lib.index,hp]
  simp
end Go.Proofs.YtcodfkieaoomnaaGreatDoor
