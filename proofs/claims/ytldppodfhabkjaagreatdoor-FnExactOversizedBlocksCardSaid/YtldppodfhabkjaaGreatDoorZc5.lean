/- Own texts laid together. No statement of the seat is proved here. -/
import Derived.Test.YtldppodfhabkjaaGreatDoorZc4
import Derived.Sort.Walk0
import Derived.Lib.Bytealg
namespace Go.Proofs.YtldppodfhabkjaaGreatDoor
open Go.RowKit
set_option linter.unusedVariables false
open _root_.Go.Proofs.Tryz
set_option maxRecDepth 100000
set_option maxHeartbeats 4000000
def zAM (fu : Nat) (y5 : Int) (x13 : Nat) : Nat → Int → Int → (List (List UInt8)) → Option (Int × (List (List UInt8)))
 | 0,_,_,_=>none
 | k+1,y18,y19,y20=>
 bif (decide (y19<(x13:Int))) then (
 ck (inR y19 x13) <|
 ck (decide (0≤y5)) <|
 ck (inR (y5+y19) y20.length) <|
 ck (i64B (y19-1)) <|
 ck (inR (y19-1) x13) <|
 ck (decide (0≤y5)) <|
 ck (inR (y5+(y19-1)) y20.length) <|
 bif (!((gtD y20 (y5+y19))==(gtD y20 (y5+(y19-1))))) then (
 ck (inR y19 x13) <|
 ck (decide (0≤y5)) <|
 ck (inR (y5+y19) y20.length) <|
 ck (inR y18 y20.length) <|
 ck (i64B (y18+1)) <|
 ck (i64B (y19+1)) <|
 zAM fu y5 x13 k (y18+1) (y19+1) (y20.set y18.toNat (gtD y20 (y5+y19)))
 ) else (
 ck (i64B (y19+1)) <|
 zAM fu y5 x13 k y18 (y19+1) y20
 )
 ) else (
 some (y18,y20)
 )
def zAN (fu : Nat) : Nat → Int → (List (List UInt8)) → Option (Ex (List (List UInt8)) (List (List UInt8)))
 | 0,_,_=>none
 | k+1,y5,y6=>
 bif (decide (y5<(y6.length:Int))) then (
 ck (inR y5 y6.length) <|
 ck (i64B (y5-1)) <|
 ck (inR (y5-1) y6.length) <|
 bif ((gtD y6 y5)==(gtD y6 (y5-1))) then (
 ck (subR y5 (y6.length:Int) y6.length) <|
 bd ((y6.length:Int).toNat-y5.toNat) fun x13=>
 cl true (zAM fu y5 x13 fu y5 1 y6) fun s17=>
 ck (subR s17.1 (s17.2.length:Int) s17.2.length) <|
 bd ((s17.2.length:Int).toNat-s17.1.toNat) fun x40=>
 ck (subR s17.1 s17.2.length s17.2.length) <|
 ck (x40==s17.2.length-s17.1.toNat) <|
 ck (subR 0 s17.1 (s17.2.take s17.1.toNat++List.replicate (s17.2.length-s17.1.toNat) ([]:List UInt8)).length) <|
 some (Ex.ret (subL (s17.2.take s17.1.toNat++List.replicate (s17.2.length-s17.1.toNat) ([]:List UInt8)) 0 s17.1))
 ) else (
 ck (i64B (y5+1)) <|
 zAN fu k (y5+1) y6
 )
 ) else (
 some (Ex.go y6)
 )
def zAz (fu:Nat) (p0:List (List UInt8)):Option (List (List UInt8)):=
 bif (decide ((p0.length:Int)<2)) then (
 some p0
 ) else (
 cl true (zAN fu fu 1 p0) fun rl2=>
 exM rl2 (fun r=>some r) fun s4=>
 some s4
 )
theorem zDm {fu : Nat} {A0 : Av} {p0 : List (List UInt8)} {r : List (List UInt8)} (c : zAz fu p0 = some r) {w : World} {v0 : Value} {B0 : Nat} (d : AvOK A0 w) (K : ∀ b o, A0 b o → ¬ zAJ v0 b) (h0 : (Res.vec B0 9 eStr p0).ok A0 v0 w) :
 Calls prog 76 #[v0] w fun e w'=>∃ v,e = .returned v∧Took (addA A0 v0) true v0 (.vec B0 9 eStr r) (fun _=>.any) w v w':=by
 unfold zAz at c
 obtain ⟨w0,hw0,C⟩:=pc d
 have j:Ch (zAJ v0) w0 w:=hw0 ▸ Ch.refl _ _
 have hA00:AvOK A0 w0:=C
 rw [show Took (addA A0 v0) true v0 (.vec B0 9 eStr r) (fun _=>.any) w=Took (addA A0 v0) true v0 (.vec B0 9 eStr r) (fun _=>.any) w0 from hw0 ▸ Z]
 obtain ⟨A,hAe⟩:∃ A,A=addA A0 v0:=⟨_,Z⟩
 have B:∀ b o,A0 b o→A b o:=fun b o h=>hAe ▸ .inl h
 replace d:AvOK A w:=hAe ▸ d.one h0
 have q:IniOK [ob v0 (.vec B0 9 eStr p0)] A w:=hAe ▸ IniOK.one h0 (fun _ _ _ _ _ h=>h)
 refine zA5 [.tmp 2] func76 ntmps76 (by decide) Z Z (nb Z) ?_
 intro R hR
 replace h0:R 0=v0:=hR 0 _ Z
 refine HT.seq ?_
 refine HT.t (eA::[]) ?_ ?_
 exact op (fun Q U W H D=>zA0 N)<|oz
 intro R w m n p
 replace h0:=k1 n h0
 replace q:=q.fr m
 replace d:=d.fr m.size
 replace j:=j.tr (m.ch noB) fun _ h=>False.elim h
 refine HT.seq ?_
 refine HT.seq ?_
 refine HT.t (eR v0::eI (p0.length:Int)::eB (decide ((p0.length:Int)<2))::[]) ?_ ?_
 exact om h0<|op (fun Q U W H D=>zCJ (q.ok 0 _ Z).1 (D.g 0 Z) underlying34)<|op (fun Q U W H D=>zAg (D.g 0 Z) Z)<|oz
 intro R w m n p
 replace h0:=k1 n h0
 have h8:=p.r 2 Z
 replace q:=q.fr m
 replace d:=d.fr m.size
 replace j:=j.tr (m.ch noB) fun _ h=>False.elim h
 refine HT.cond (decide ((p0.length:Int)<2)) h8 (fun c1=>?_) (fun c1=>?_)
 have c:=zAH c1 c
 refine HT.seq ?_
 refine HT.t (eR v0::eR v0::[]) ?_ ?_
 exact om h0<|oa<|oz
 intro R w m n p
 have h2:=p.r 1 Z
 replace q:=q.fr m
 replace d:=d.fr m.size
 replace j:=j.tr (m.ch noB) fun _ h=>False.elim h
 refine HT.ret ?_
 obtain rfl:=si c
 exact ⟨.inr Z,[R 2],⟨Z,N⟩,by show Took _ true _ _ _ w0 (R 2) w;rw [h2];exact zFY (fun k h o=>.inr h) j (q.ok 0 _ Z).1 (q.own_ge (⟨.inr (fun k h=>.inr h),N⟩) (i:=0) Z) (fun _ _ _ _ _ h=>h)⟩
 have c:=zAG c1 c
 refine HT.skip ?_
 refine HT.seq ?_
 refine HT.seq ?_
 refine HT.t (eI 1::[]) ?_ ?_
 exact op (fun Q U W H D=>zA0 Z)<|oz
 intro R w m n p
 replace h0:=k1 n h0
 have h3:=p.r 0 Z
 replace q:=q.fr m
 replace d:=d.fr m.size
 replace j:=j.tr (m.ch noB) fun _ h=>False.elim h
 obtain ⟨rl2,q3,c⟩:=zA4 c
 replace q3:=q3 Z
 refine HT.cut0 (fun R w=>∃ A:Av,∃ (s4:(List (List UInt8))),rl2=Ex.go s4∧AvOK A w∧Ch (zAJ v0) w0 w∧(∀ b o,A0 b o→A b o)∧IniOK [ob v0 (.vec B0 9 eStr s4)] A w∧R 0=v0) ?_ ?_
 refine HT.block ?_
 refine HT.loop (fun k R w=>∃ A:Av,∃ (y5:Int) (y6:List (List UInt8)),zAN fu k y5 y6=some rl2∧AvOK A w∧Ch (zAJ v0) w0 w∧(∀ b o,A0 b o→A b o)∧IniOK [ob v0 (.vec B0 9 eStr y6)] A w∧R 0=v0∧R 3 = .int .i64 y5) fu ⟨_,_,_,q3,d,j,B,q,h0,h3⟩ ?_
 have hr0:=c;clear c q3
 rintro k R w ⟨A,y5,y6,c,d,j,B,q,h0,h3⟩
 rcases k with _ | k
 cases (show none=some _ from c)
 rw [zAN] at c
 refine HT.seq ?_
 refine HT.seq ?_
 refine HT.t (eI y5::eR v0::eI (y6.length:Int)::eB (decide (y5<(y6.length:Int)))::[]) ?_ ?_
 exact om h3<|om h0<|op (fun Q U W H D=>zCJ (q.ok 0 _ Z).1 (D.g 0 Z) underlying34)<|op (fun Q U W H D=>zAg (D.g 0 Z) (D.g 1 Z))<|oz
 intro R w m n p
 obtain ⟨h0,h3⟩:=k2 n h0 h3
 have h13:=p.r 3 Z
 replace q:=q.fr m
 replace d:=d.fr m.size
 replace j:=j.tr (m.ch noB) fun _ h=>False.elim h
 refine HT.cond (decide (y5<(y6.length:Int))) h13 (fun c7=>?_) (fun c7=>?_)
 have c:=zAH c7 c
 refine HT.skip ?_
 refine HT.seq ?_
 refine HT.block ?_
 refine HT.seq ?_
 obtain ⟨e8,e9,e10,c⟩:=ck3 c
 refine HT.draw (by kernel_rfl) (l:=eR v0::eI y5::eR (vptr v0 (y5.toNat*1))::eF (.rep eStr A (gtD y6 y5))::eR v0::eI y5::eI (y5-1)::eR (vptr v0 ((y5-1).toNat*1))::eF (.rep eStr A (gtD y6 (y5-1)))::eB ((gtD y6 y5)==(gtD y6 (y5-1)))::[]) (tl:=[]) (by kernel_rfl) (by kernel_rfl) (by kernel_rfl) (by kernel_rfl) ?_ ?_
 exact om h0<|om h3<|op (fun Q U W H D=>zB6 (q.ok 0 _ Z).1 (D.g 0 Z) (D.g 1 Z) underlying34 sizeOf9 e8 Z)<|op (fun Q U W H D=>(zCc ((q.fr W).ok 0 _ Z).1 (D.g 0 Z) e8 Z (Fld.id _) Z isAgg9 sizeOf9))<|om h0<|om h3<|op (fun Q U W H D=>zFR (D.g 0 Z) Z e9)<|op (fun Q U W H D=>zB6 (q.ok 0 _ Z).1 (D.g 0 Z) (D.g 1 Z) underlying34 sizeOf9 e10 Z)<|op (fun Q U W H D=>(zCc ((q.fr W).ok 0 _ Z).1 (D.g 0 Z) e10 Z (Fld.id _) Z isAgg9 sizeOf9))<|op (fun Q U W H D=>zBV (D.g 0 Z) (D.g 1 Z))<|oz
 intro R w m n p
 obtain ⟨h0,h3⟩:=k2 n h0 h3
 have h25:=p.r 9 Z
 replace q:=q.fr m
 replace d:=d.fr m.size
 replace j:=j.tr (m.ch noB) fun _ h=>False.elim h
 refine HT.cond ((gtD y6 y5)==(gtD y6 (y5-1))) h25 (fun c11=>?_) (fun c11=>?_)
 have c:=zAH c11 c
 refine HT.seq ?_
 obtain ⟨e12,c⟩:=zA3 c
 obtain ⟨x13,q14,c⟩:=zAW c
 refine HT.t (eR v0::eI y5::eR (vsub v0 y5.toNat x13 1)::eR (vsub v0 y5.toNat x13 1)::[]) ?_ ?_
 exact om h0<|om h3<|op (fun Q U W H D=>(q14 ▸ zJy (q.ok 0 _ Z).1 (D.g 0 Z) (D.g 1 Z) underlying34 sizeOf9 e12))<|oa<|oz
 intro R w m n p
 obtain ⟨h0,h3⟩:=k2 n h0 h3
 have h4:=p.r 3 Z
 replace q:=q.fr m
 replace d:=d.fr m.size
 replace j:=j.tr (m.ch noB) fun _ h=>False.elim h
 refine HT.seq ?_
 refine HT.seq ?_
 refine HT.t (eI 1::[]) ?_ ?_
 exact op (fun Q U W H D=>zA0 Z)<|oz
 intro R w m n p
 obtain ⟨h0,h3,h4⟩:=k3 n h0 h3 h4
 have h5:=p.r 0 Z
 replace q:=q.fr m
 replace d:=d.fr m.size
 replace j:=j.tr (m.ch noB) fun _ h=>False.elim h
 obtain ⟨rl15,q16,c⟩:=zA4 c
 replace q16:=q16 Z
 refine HT.cut0 (fun R w=>∃ A:Av,∃ (s17:Int × (List (List UInt8))),rl15=s17∧AvOK A w∧Ch (zAJ v0) w0 w∧(∀ b o,A0 b o→A b o)∧IniOK [ob v0 (.vec B0 9 eStr s17.2)] A w∧R 0=v0∧R 3 = .int .i64 s17.1) ?_ ?_
 refine HT.block ?_
 refine HT.loop (fun k R w=>∃ A:Av,∃ (y18:Int) (y19:Int) (y20:List (List UInt8)),zAM fu y5 x13 k y18 y19 y20=some rl15∧AvOK A w∧Ch (zAJ v0) w0 w∧(∀ b o,A0 b o→A b o)∧IniOK [ob v0 (.vec B0 9 eStr y20)] A w∧R 0=v0∧R 3 = .int .i64 y18∧R 4=(vsub v0 y5.toNat x13 1)∧R 5 = .int .i64 y19) fu ⟨_,_,_,_,q16,d,j,B,q,h0,h3,h4,h5⟩ ?_
 have hr1:=c;clear c q16
 rintro k R w ⟨A,y18,y19,y20,c,d,j,B,q,h0,h3,h4,h5⟩
 rcases k with _ | k
 cases (show none=some _ from c)
 rw [zAM] at c
 refine HT.seq ?_
 refine HT.seq ?_
 refine HT.t (eI y19::eR (vsub v0 y5.toNat x13 1)::eI (x13:Int)::eB (decide (y19<(x13:Int)))::[]) ?_ ?_
 exact om h5<|om h4<|op (fun Q U W H D=>zJZ (q.ok 0 _ Z).1 (D.g 0 Z) underlying34)<|op (fun Q U W H D=>zAg (D.g 0 Z) (D.g 1 Z))<|oz
 intro R w m n p
 obtain ⟨h0,h3,h4,h5⟩:=k4 n h0 h3 h4 h5
 have h32:=p.r 3 Z
 replace q:=q.fr m
 replace d:=d.fr m.size
 replace j:=j.tr (m.ch noB) fun _ h=>False.elim h
 refine HT.cond (decide (y19<(x13:Int))) h32 (fun c21=>?_) (fun c21=>?_)
 have c:=zAH c21 c
 refine HT.skip ?_
 refine HT.seq ?_
 refine HT.block ?_
 refine HT.seq ?_
 obtain ⟨e22,e23,e24,e25,c⟩:=ck4 c
 obtain ⟨e26,e27,e28,c⟩:=ck3 c
 refine HT.draw (by kernel_rfl) (l:=eR (vsub v0 y5.toNat x13 1)::eI y19::eR (vptr v0 ((y5+y19).toNat*1))::eF (.rep eStr A (gtD y20 (y5+y19)))::eR (vsub v0 y5.toNat x13 1)::eI y19::eI (y19-1)::eR (vptr v0 ((y5+(y19-1)).toNat*1))::eF (.rep eStr A (gtD y20 (y5+(y19-1))))::eB (!((gtD y20 (y5+y19))==(gtD y20 (y5+(y19-1)))))::[]) (tl:=[]) (by kernel_rfl) (by kernel_rfl) (by kernel_rfl) (by kernel_rfl) ?_ ?_
 exact om h4<|om h5<|op (fun Q U W H D=>zE9 (q.ok 0 _ Z).1 (D.g 0 Z) (D.g 1 Z) underlying34 sizeOf9 e22 e23 e24 Z)<|op (fun Q U W H D=>(zCc ((q.fr W).ok 0 _ Z).1 (D.g 0 Z) e24 Z (Fld.id _) Z isAgg9 sizeOf9))<|om h4<|om h5<|op (fun Q U W H D=>zFR (D.g 0 Z) Z e25)<|op (fun Q U W H D=>zE9 (q.ok 0 _ Z).1 (D.g 0 Z) (D.g 1 Z) underlying34 sizeOf9 e26 e27 e28 Z)<|op (fun Q U W H D=>(zCc ((q.fr W).ok 0 _ Z).1 (D.g 0 Z) e28 Z (Fld.id _) Z isAgg9 sizeOf9))<|op (fun Q U W H D=>zF2 (D.g 0 Z) (D.g 1 Z))<|oz
 intro R w m n p
 obtain ⟨h0,h3,h4,h5⟩:=k4 n h0 h3 h4 h5
 have h44:=p.r 9 Z
 replace q:=q.fr m
 replace d:=d.fr m.size
 replace j:=j.tr (m.ch noB) fun _ h=>False.elim h
 refine HT.cond (!((gtD y20 (y5+y19))==(gtD y20 (y5+(y19-1))))) h44 (fun c29=>?_) (fun c29=>?_)
 have c:=zAH c29 c
 obtain ⟨e30,e31,e32,e33,c⟩:=ck4 c
 refine HT.sx [ob v0 (.vec B0 9 eStr y20)] (rR v0::rI y18::rR (vsub v0 y5.toNat x13 1)::rI y19::rR (vptr v0 ((y5+y19).toNat*1))::(rF fun A=>.rep eStr A (gtD y20 (y5+y19)))::rR (vptr v0 (y18.toNat*1))::⟨_,true,[0],some (.vec B0 9 eStr (y20.set y18.toNat (gtD y20 (y5+y19)))),false,fun A=>.any⟩::[]) (ur (ur (ur (ur (ur (up (ur (ua (UAll.nil))))))))) q d ?_ ?_
 exact rm h0<|rm h3<|rm h4<|rm h5<|rp (fun V Q U O D=>zE9 (q.ok 0 _ Z).1 (D.g 0 Z) (D.g 1 Z) underlying34 sizeOf9 e30 e31 e32 Z)<|rp (fun V Q U O D=>(zCc (O.rd 0 _ Z Z) (D.g 0 Z) e32 Z (Fld.id _) Z isAgg9 sizeOf9))<|rp (fun V Q U O D=>zB6 (q.ok 0 _ Z).1 (D.g 0 Z) (D.g 1 Z) underlying34 sizeOf9 e33 Z)<|rc (OblR.took 0 _ _ Z Z Z Z Z fun V Q U O D u X Y J L M=>by have a0:Q 51=(vptr v0 (y18.toNat*1)):=D.g 0 Z;have a1:Rep eStr V U (Q 50) (gtD y20 (y5+y19)):=D.g 1 Z;obtain rfl:=J _ Z;exact zF7 a1 X Y a0 e33 Z (FldS.id _) sizeOf9 Z)<|rz
 intro done ρ σ A R w y s
 obtain ⟨h0,h3,h4,h5⟩:=k4 s.rg h0 h3 h4 h5
 have z34:=s.inivR 0 Z
 have z35:=s.on y 8 7 Z Z Z Z Z z34
 replace B:=s.lowK B C K (q.geK (⟨.inr (fun k h=>.inr h),N⟩))
 replace j:Ch (zAJ v0) w0 w:=j.tr s.ch (q.geK (⟨.inr (fun k h=>.inr h),N⟩))
 replace q:=s.left y [(8,ob v0 (.vec B0 9 eStr (y20.set y18.toNat (gtD y20 (y5+y19)))))] ⟨Z,Z,z35,Z,Z,N⟩
 replace d:=s.avok
 obtain ⟨e36,c⟩:=zA3 c
 refine HT.t (eI y18::eI (y18+1)::eI (y18+1)::[]) ?_ ?_
 exact om h3<|op (fun Q U W H D=>zAO (D.g 0 Z) Z e36)<|oa<|oz
 intro R w m n p
 obtain ⟨h0,h4,h5⟩:=k3 n h0 h4 h5
 have h3:=p.r 2 Z
 replace q:=q.fr m
 replace d:=d.fr m.size
 replace j:=j.tr (m.ch noB) fun _ h=>False.elim h
 obtain ⟨e37,c⟩:=zA3 c
 refine HT.t (eI y19::eI (y19+1)::eI (y19+1)::[]) ?_ ?_
 exact om h5<|op (fun Q U W H D=>zAO (D.g 0 Z) Z e37)<|oa<|oz
 intro R w m n p
 obtain ⟨h0,h3,h4⟩:=k3 n h0 h3 h4
 have h5:=p.r 2 Z
 replace q:=q.fr m
 replace d:=d.fr m.size
 replace j:=j.tr (m.ch noB) fun _ h=>False.elim h
 exact ei k (And.intro (Nat.lt_succ_self k) ⟨_,_,_,_,c,d,j,B,q,h0,h3,h4,h5⟩)
 have c:=zAG c29 c
 refine HT.skip ?_
 obtain ⟨e38,c⟩:=zA3 c
 refine HT.t (eI y19::eI (y19+1)::eI (y19+1)::[]) ?_ ?_
 exact om h5<|op (fun Q U W H D=>zAO (D.g 0 Z) Z e38)<|oa<|oz
 intro R w m n p
 obtain ⟨h0,h3,h4⟩:=k3 n h0 h3 h4
 have h5:=p.r 2 Z
 replace q:=q.fr m
 replace d:=d.fr m.size
 replace j:=j.tr (m.ch noB) fun _ h=>False.elim h
 exact ei k (And.intro (Nat.lt_succ_self k) ⟨_,_,_,_,c,d,j,B,q,h0,h3,h4,h5⟩)
 have c:=zAG c21 c
 refine HT.exit ?_
 obtain rfl:=si c
 exact ei _ ⟨_,Z,d,j,B,q,h0,h3⟩
 rintro R w ⟨A,s17,es,d,j,B,q,h0,h3⟩
 obtain rfl:=es.symm
 refine HT.seq ?_
 obtain ⟨e39,c⟩:=zA3 c
 obtain ⟨x40,q41,c⟩:=zAW c
 obtain ⟨e42,e43,c⟩:=ck2 c
 refine HT.x [ob v0 (.vec B0 9 eStr s17.2)] (rR v0::rI s17.1::rR (vsub v0 s17.1.toNat x40 1)::⟨_,true,[0],some (.vec B0 9 eStr (s17.2.take s17.1.toNat++List.replicate (s17.2.length-s17.1.toNat) ([]:List UInt8))),false,fun A=>.any⟩::[]) (ur (ur (ur (ua (UAll.nil))))) q d ?_ ?_
 exact rm h0<|rm h3<|rp (fun V Q U O D=>(q41 ▸ zJy (q.ok 0 _ Z).1 (D.g 0 Z) (D.g 1 Z) underlying34 sizeOf9 e39))<|rc (OblR.took 0 _ _ Z Z Z Z Z fun V Q U O D u X Y J L M=>by have a0:Q 56=(vsub v0 s17.1.toNat x40 1):=D.g 0 Z;obtain rfl:=J _ Z;exact zL2 a0 X Y underlying34 Z zeroValue9 (fun A w=>(zHC Z (by decide))) e42 e43 Z)<|rz
 intro done ρ σ A R w y s
 obtain ⟨h0,h3⟩:=k2 s.rg h0 h3
 have z44:=s.inivR 0 Z
 have z45:=s.on y 4 3 Z Z Z Z Z z44
 replace B:=s.lowK B C K (q.geK (⟨.inr (fun k h=>.inr h),N⟩))
 replace j:Ch (zAJ v0) w0 w:=j.tr s.ch (q.geK (⟨.inr (fun k h=>.inr h),N⟩))
 replace q:=s.left y [(4,ob v0 (.vec B0 9 eStr (s17.2.take s17.1.toNat++List.replicate (s17.2.length-s17.1.toNat) ([]:List UInt8))))] ⟨Z,Z,z45,Z,Z,N⟩
 replace d:=s.avok
 obtain ⟨e46,c⟩:=zA3 c
 refine HT.sx [ob v0 (.vec B0 9 eStr (s17.2.take s17.1.toNat++List.replicate (s17.2.length-s17.1.toNat) ([]:List UInt8)))] (rR v0::rI s17.1::⟨_,true,[0],some (.vec B0 9 eStr (subL (s17.2.take s17.1.toNat++List.replicate (s17.2.length-s17.1.toNat) ([]:List UInt8)) 0 s17.1)),true,fun A=>.any⟩::⟨_,true,[3],some (.vec B0 9 eStr (subL (s17.2.take s17.1.toNat++List.replicate (s17.2.length-s17.1.toNat) ([]:List UInt8)) 0 s17.1)),true,fun A=>.any⟩::[]) (ur (ur (ua (ua (UAll.nil))))) q d ?_ ?_
 exact rm h0<|rm h3<|rc (OblR.took 0 _ _ Z Z Z Z Z fun V Q U O D u X Y J L M=>by have a0:Q 57=v0:=D.g 0 Z;have a1:Q 58 = .int .i64 s17.1:=D.g 1 Z;exact zK4 (a0.trans (J _ Z).symm) X Y a1 underlying34 sizeOf9 e46 Z)<|rc (OblR.took 3 _ _ Z Z Z Z Z fun V Q U O D u X Y J L M=>by exact zA8 (L _ _ Z Z Z Z).symm X Y)<|rz
 intro done ρ σ A R w y s
 obtain ⟨u47,e_u47⟩:∃ u,ρ 4=u:=⟨_,Z⟩
 have h2:=s.ov y 4 3 e_u47
 have hK_u47:∀ k,zAJ u47 k→w0.heap.size≤k∨(zAJ v0) k:=s.geK y 4 Z Z Z e_u47 (q.geK (⟨.inr (fun k h=>.inr h),N⟩)) j.size
 replace B:=s.lowK B C K (q.geK (⟨.inr (fun k h=>.inr h),N⟩))
 replace j:Ch (zAJ v0) w0 w:=j.tr s.ch (q.geK (⟨.inr (fun k h=>.inr h),N⟩))
 replace q:=s.left y [(4,ob u47 (.vec B0 9 eStr (subL (s17.2.take s17.1.toNat++List.replicate (s17.2.length-s17.1.toNat) ([]:List UInt8)) 0 s17.1)))] ⟨Z,Z,e_u47,Z,Z,N⟩
 replace d:=s.avok
 obtain ⟨Yg47,g_Yg47⟩:∃ z:List (List UInt8),z=(subL (s17.2.take s17.1.toNat++List.replicate (s17.2.length-s17.1.toNat) ([]:List UInt8)) 0 s17.1):=⟨_,Z⟩
 rw [← g_Yg47] at q
 try rw [← g_Yg47] at c
 refine HT.ret ?_
 obtain rfl:=si c
 have c:=hr0
 replace c:some _=some _:=c
 obtain rfl:=si c
 exact ⟨.inr Z,[R 2],⟨Z,N⟩,by show Took _ true _ _ _ w0 (R 2) w;rw [h2];exact zFY (fun k h o=>.inr h) j (q.ok 0 _ Z).1 (q.own_ge (⟨.inr hK_u47,N⟩) (i:=0) Z) (fun _ _ _ _ _ h=>h)⟩
 have c:=zAG c11 c
 refine HT.skip ?_
 obtain ⟨e49,c⟩:=zA3 c
 refine HT.t (eI y5::eI (y5+1)::eI (y5+1)::[]) ?_ ?_
 exact om h3<|op (fun Q U W H D=>zAO (D.g 0 Z) Z e49)<|oa<|oz
 intro R w m n p
 replace h0:=k1 n h0
 have h3:=p.r 2 Z
 replace q:=q.fr m
 replace d:=d.fr m.size
 replace j:=j.tr (m.ch noB) fun _ h=>False.elim h
 exact ei k (And.intro (Nat.lt_succ_self k) ⟨_,_,_,c,d,j,B,q,h0,h3⟩)
 have c:=zAG c7 c
 refine HT.exit ?_
 obtain rfl:=si c
 exact ei _ ⟨_,Z,d,j,B,q,h0⟩
 rintro R w ⟨A,s4,rfl,d,j,B,q,h0⟩
 have c:=zEN c
 refine HT.seq ?_
 refine HT.t (eR v0::eR v0::[]) ?_ ?_
 exact om h0<|oa<|oz
 intro R w m n p
 have h2:=p.r 1 Z
 replace q:=q.fr m
 replace d:=d.fr m.size
 replace j:=j.tr (m.ch noB) fun _ h=>False.elim h
 refine HT.ret ?_
 obtain rfl:=si c
 exact ⟨.inr Z,[R 2],⟨Z,N⟩,by show Took _ true _ _ _ w0 (R 2) w;rw [h2];exact zFY (fun k h o=>.inr h) j (q.ok 0 _ Z).1 (q.own_ge (⟨.inr (fun k h=>.inr h),N⟩) (i:=0) Z) (fun _ _ _ _ _ h=>h)⟩
def zAw (fu:Nat) (p0:List (List UInt8)):Option (List (List UInt8)):=
 cl true (zB8 fu p0) fun x1=>
 cl true (zIH fu x1) fun x4=>
 cl true (zAz fu x4) fun x8=>
 some x8
theorem zBX {fu : Nat} {A0 : Av} {p0 : List (List UInt8)} {r : List (List UInt8)} (c : zAw fu p0 = some r) {w : World} {v0 : Value} (d : AvOK A0 w) (h0 : Rep (eSl eStr) A0 w v0 p0) :
 Calls prog 42 #[v0] w fun e w'=>∃ v,e = .returned v∧((Res.vec w.heap.size 9 eStr r).ok (addA A0 v) v w'∧Fr w w'):=by
 unfold zAw at c
 obtain ⟨w0,hw0,j,C⟩:=pw d
 have hA00:AvOK A0 w0:=C
 rw [fh hw0]
 rw [fw hw0]
 obtain ⟨A,hAe,B,d,q⟩:=pa d
 refine zA5 [.tmp 2] func42 ntmps42 (by decide) Z Z (nb Z) ?_
 intro R hR
 have f_v0:Rep (eSl eStr) A w v0 p0:=hAe ▸ h0
 replace h0:R 0=v0:=hR 0 _ Z
 refine HT.su d j (eA::[]) ?_ ?_
 exact op (fun Q U W H D=>zA0 N)<|oz
 intro R w m n p d j
 replace h0:=k1 n h0
 replace f_v0:=f_v0.fr m
 replace q:=q.fr m
 obtain ⟨x1,q2,c⟩:=zA4 c
 refine HT.sx [] (rR v0::⟨_,true,[],some (.vec w0.heap.size 9 eStr x1),true,fun A=>.any⟩::⟨_,true,[1],some (.vec w0.heap.size 9 eStr x1),true,fun A=>.any⟩::[]) (ur (ua (ua (UAll.nil)))) q d ?_ ?_
 exact rm h0<|rc (OblR.made _ Z Z Z Z fun V Q U O D=>by have a0:Q 4=v0:=D.g 0 Z;have ra0:=(f_v0.stp O.stp).eq a0;exact zGZ call74 (zE8 (q2 Z) O.av ra0) (Nat.le_trans j.size O.ch.size))<|rc (OblR.took 1 _ _ Z Z Z Z Z fun V Q U O D u X Y J L M=>by exact zA8 (L _ _ Z Z Z Z).symm X Y)<|rz
 intro done ρ σ A R w y s
 obtain ⟨u3,e_u3⟩:∃ u,ρ 2=u:=⟨_,Z⟩
 have h3:=s.ov y 2 2 e_u3
 obtain ⟨B,j,d⟩:=s.s B C j q N
 replace q:=s.left y [(2,ob u3 (.vec w0.heap.size 9 eStr x1))] ⟨Z,Z,e_u3,Z,Z,N⟩
 obtain ⟨x4,q5,c⟩:=zA4 c
 refine HT.sx [ob u3 (.vec w0.heap.size 9 eStr x1)] (rR u3::⟨_,true,[0],some (.vec w0.heap.size 9 eStr x4),false,fun A=>.any⟩::[]) (ur (ua (UAll.nil))) q d ?_ ?_
 exact rm h3<|rc (OblR.took 0 _ _ Z Z Z Z Z fun V Q U O D u X Y J L M=>by have a0:Q 6=u3:=D.g 0 Z;have hu0:zA9 Q (.tmp 6)=u:=a0.trans (J _ Z).symm;exact zJN call75 Y (fun _ _ _ _ _ h=>h) (by simp only [List.map,hu0];exact Calls.mono (zKy (q5 Z) (O.av.sub _) (fun b o h=>h.2) (Vec.flat X (fun _ _ _ _ _ h=>h))) (fun _ _ ⟨v,h1,h2,h3,h4⟩=>⟨v,h1,N,h3,h4⟩)))<|rz
 intro done ρ σ A R w y s
 replace h3:=k1 s.rg h3
 have z6:=s.inivR 0 Z
 have z7:=s.on y 2 1 Z Z Z Z Z z6
 obtain ⟨B,j,d⟩:=s.s B C j q ⟨Z,N⟩
 replace q:=s.left y [(2,ob u3 (.vec w0.heap.size 9 eStr x4))] ⟨Z,Z,z7,Z,Z,N⟩
 obtain ⟨x8,q9,c⟩:=zA4 c
 refine HT.sx [ob u3 (.vec w0.heap.size 9 eStr x4)] (rR u3::⟨_,true,[0],some (.vec w0.heap.size 9 eStr x8),true,fun A=>.any⟩::⟨_,true,[2],some (.vec w0.heap.size 9 eStr x8),true,fun A=>.any⟩::[]) (ur (ua (ua (UAll.nil)))) q d ?_ ?_
 exact rm h3<|rc (OblR.took 0 _ _ Z Z Z Z Z fun V Q U O D u X Y J L M=>by have a0:Q 8=u3:=D.g 0 Z;have hu0:zA9 Q (.tmp 8)=u:=a0.trans (J _ Z).symm;exact zDJ call76 Y (by simp only [List.map,hu0];exact zDm (q9 Z) (O.av.sub _) (fun b o h=>h.2) (Vec.flat X (fun _ _ _ _ _ h=>h))))<|rc (OblR.took 2 _ _ Z Z Z Z Z fun V Q U O D u X Y J L M=>by exact zA8 (L _ _ Z Z Z Z).symm X Y)<|rz
 intro done ρ σ A R w y s
 obtain ⟨u10,e_u10⟩:∃ u,ρ 3=u:=⟨_,Z⟩
 have h2:=s.ov y 3 2 e_u10
 obtain ⟨B,j,d⟩:=s.s B C j q ⟨Z,N⟩
 replace q:=s.left y [(3,ob u10 (.vec w0.heap.size 9 eStr x8))] ⟨Z,Z,e_u10,Z,Z,N⟩
 refine HT.ret ?_
 obtain rfl:=si c
 exact ⟨.inr Z,[R 2],⟨Z,N⟩,(zBu (q.ok 0 _ Z) B h2),j⟩
def zCX (fu:Nat) (p0:List UInt8):Option (List (List UInt8)):=
 cl true (zCz fu p0) fun x1=>
 cl true (zEG fu x1) fun x3=>
 cl true (zAw fu x3) fun x5=>
 some x5
theorem zHA {fu : Nat} {A0 : Av} {p0 : List UInt8} {r : List (List UInt8)} (c : zCX fu p0 = some r) {w : World} {v0 : Value} (d : AvOK A0 w) (hG : GTab w) (h0 : Rep eStr A0 w v0 p0) :
 Calls prog 72 #[v0] w fun e w'=>∃ v,e = .returned v∧((Res.vec w.heap.size 9 eStr r).ok (addA A0 v) v w'∧Fr w w'):=by
 unfold zCX at c
 obtain ⟨w0,hw0,j,C⟩:=pw d
 have hA00:AvOK A0 w0:=C
 rw [fh hw0]
 rw [fw hw0]
 have hG0:GTab w0:=hw0 ▸ hG
 obtain ⟨A,hAe,B,d,q⟩:=pa d
 refine zA5 [.tmp 2] func72 ntmps72 (by decide) Z Z (nb Z) ?_
 intro R hR
 have f_v0:Rep eStr A w v0 p0:=hAe ▸ h0
 replace h0:R 0=v0:=hR 0 _ Z
 refine HT.su d j (eA::[]) ?_ ?_
 exact op (fun Q U W H D=>zA0 N)<|oz
 intro R w m n p d j
 replace h0:=k1 n h0
 replace f_v0:=f_v0.fr m
 replace q:=q.fr m
 obtain ⟨x1,q2,c⟩:=zA4 c
 obtain ⟨x3,q4,c⟩:=zA4 c
 obtain ⟨x5,q6,c⟩:=zA4 c
 refine HT.sx [] (rR v0::(rF fun A=>.rep eStr A x1)::(rF fun A=>.rep (eSl eStr) A x3)::⟨_,true,[],some (.vec w0.heap.size 9 eStr x5),true,fun A=>.any⟩::⟨_,true,[3],some (.vec w0.heap.size 9 eStr x5),true,fun A=>.any⟩::[]) (ur (up (up (ua (ua (UAll.nil)))))) q d ?_ ?_
 exact rm h0<|rp (fun V Q U O D=>zAC call104 (zG9 (q2 Z) O.av (hG0.fr (j.tr O.ch (q.ge (N)))) ((f_v0.stp O.stp).eq (D.g 0 Z))))<|rp (fun V Q U O D=>zAC call103 (zHa (q4 Z) O.av (D.g 0 Z)))<|rc (OblR.made _ Z Z Z Z fun V Q U O D=>by have a0:Rep (eSl eStr) V U (Q 5) x3:=D.g 0 Z;exact zGZ call42 (zBX (q6 Z) O.av a0) (Nat.le_trans j.size O.ch.size))<|rc (OblR.took 3 _ _ Z Z Z Z Z fun V Q U O D u X Y J L M=>by exact zA8 (L _ _ Z Z Z Z).symm X Y)<|rz
 intro done ρ σ A R w y s
 obtain ⟨u7,e_u7⟩:∃ u,ρ 4=u:=⟨_,Z⟩
 have h2:=s.ov y 4 4 e_u7
 obtain ⟨B,j,d⟩:=s.s B C j q N
 replace q:=s.left y [(4,ob u7 (.vec w0.heap.size 9 eStr x5))] ⟨Z,Z,e_u7,Z,Z,N⟩
 refine HT.ret ?_
 obtain rfl:=si c
 exact ⟨.inr Z,[R 2],⟨Z,N⟩,(zBu (q.ok 0 _ Z) B h2),j⟩
theorem zE0 {fu : Nat} {A0 : Av} {p0 : List UInt8} {r : List (List UInt8)} (c : zCX fu p0 = some r) {w : World} {v0 : Value} (d : AvOK A0 w) (hG : GTab w) (h0 : Rep eStr A0 w v0 p0) :
 Calls prog 72 #[v0] w fun e w'=>∃ v,e = .returned v∧(Rep (eSl eStr) A0 w' v r∧Fr w w'):=by
 refine Calls.mono (zHA c d hG h0) ?_
 rintro e w' ⟨v,he,hv,hf⟩
 exact ⟨v,he,zBf hv (fun b o h=>.inl h) d,hf⟩
def zCF (fu:Nat) (p0:Int):Option Int:=
 bd ((decide (65≤p0))&&(decide (p0≤90))) fun x1=>
 bif x1 then (
 cl true (zCa fu (IntKind.u8.wrap (p0+32))) fun x4=>
 bif (!x4) then (
 some (-2)
 ) else (
 ck (inR (IntKind.u8.wrap ((IntKind.u8.wrap (p0+32))-97)) sndL.length) <|
 some (gtD sndL (IntKind.u8.wrap ((IntKind.u8.wrap (p0+32))-97)))
 )
 ) else (
 cl true (zCa fu p0) fun x8=>
 bif (!x8) then (
 some (-2)
 ) else (
 ck (inR (IntKind.u8.wrap (p0-97)) sndL.length) <|
 some (gtD sndL (IntKind.u8.wrap (p0-97)))
 )
 )
theorem zEY {fu : Nat} {A : Av} {p0 : Int} {r : Int} (c : zCF fu p0 = some r) {w : World} {v0 : Value} (d : AvOK A w) (hG : GTab w) (h0 : v0 = .int .u8 p0) :
 Calls prog 131 #[v0] w fun e w'=>∃ v,e = .returned v∧(v = .int .i64 r∧Fr w w'):=by
 unfold zCF at c
 obtain ⟨w0,hw0,j⟩:=pf w
 rw [fw hw0]
 have hG0:GTab w0:=hw0 ▸ hG
 refine zA5 [.tmp 2] func131 ntmps131 (by decide) Z Z (nb Z) ?_
 intro R hR
 replace h0:R 0 = .int .u8 p0:=(hR 0 _ Z).trans h0
 refine HT.su d j (eI 0::[]) ?_ ?_
 exact op (fun Q U W H D=>zA0 Z)<|oz
 intro R w m n p d j
 replace h0:=k1 n h0
 refine HT.seq ?_
 refine HT.seq ?_
 obtain ⟨x1,q2,c⟩:=zAW c
 refine HT.u d j (eU p0::eB (decide (65≤p0))::eB (decide (65≤p0))::gU (true&&((decide (65≤p0))==true)) p0::gB (true&&((decide (65≤p0))==true)) (decide (p0≤90))::eB x1::[]) ?_ ?_
 exact om h0<|op (fun Q U W H D=>zDj (D.g 0 Z) Z)<|ov<|gm 2 true h0<|og 2 true (fun G Q U W H D=>zEF (D.h 0 G Z) Z)<|op (fun Q U W H D=>zAc (decide (65≤p0)) (D.g 0 Z) (fun hc=>by have a1:Q 7 = .bool (decide (p0≤90)):=D 1 _ _ _ Z Z Z Z (zC5 Z (zB5 hc));show _=Value.bool x1;rw [q2,hc];exact a1) (fun hc=>by show _=Value.bool x1;rw [q2,hc];exact Z))<|oz
 intro R w m n p d j
 replace h0:=k1 n h0
 have h8:=p.r 5 Z
 refine HT.cond x1 h8 (fun c3=>?_) (fun c3=>?_)
 have c:=zAH c3 c
 refine HT.u d j (eU p0::eU (IntKind.u8.wrap (p0+32))::eU (IntKind.u8.wrap (p0+32))::[]) ?_ ?_
 exact om h0<|op (fun Q U W H D=>zIS (D.g 0 Z) Z)<|oa<|oz
 intro R w m n p d j
 have h0:=p.r 2 Z
 refine HT.seq ?_
 obtain ⟨x4,q5,c⟩:=zA4 c
 refine HT.su d j (eU (IntKind.u8.wrap (p0+32))::eB x4::eB (!x4)::[]) ?_ ?_
 exact om h0<|op (fun Q U W H D=>zAC call158 (zE4 (q5 Z) (d.fr W.size) (D.g 0 Z)))<|op (fun Q U W H D=>zCk (D.g 0 Z))<|oz
 intro R w m n p d j
 replace h0:=k1 n h0
 have h13:=p.r 2 Z
 refine HT.cond (!x4) h13 (fun c6=>?_) (fun c6=>?_)
 have c:=zAH c6 c
 refine HT.su d j (eI (-2)::[]) ?_ ?_
 exact op (fun Q U W H D=>zA0 Z)<|oz
 intro R w m n p d j
 have h2:=p.r 0 Z
 refine HT.ret ?_
 obtain rfl:=si c
 exact ⟨.inr Z,[R 2],⟨Z,N⟩,h2,j⟩
 have c:=zAG c6 c
 refine HT.skip ?_
 obtain ⟨e7,c⟩:=zA3 c
 refine HT.su d j (eU (IntKind.u8.wrap (p0+32))::eU (IntKind.u8.wrap ((IntKind.u8.wrap (p0+32))-97))::eR (.pointer (some ⟨0,(IntKind.u8.wrap ((IntKind.u8.wrap (p0+32))-97)).toNat,none⟩))::eI (gtD sndL (IntKind.u8.wrap ((IntKind.u8.wrap (p0+32))-97)))::eI (gtD sndL (IntKind.u8.wrap ((IntKind.u8.wrap (p0+32))-97)))::[]) ?_ ?_
 exact om h0<|op (fun Q U W H D=>zIh (D.g 0 Z) Z)<|op (fun Q U W H D=>zFu (D.g 0 Z) underlying144 sizeOf3 e7)<|op (fun Q U W H D=>OpF.int (zAf ((hG0.fr (j.trans W)).sndAt e7 ((D.g 0 Z))) isAgg3 sizeOf3))<|oa<|oz
 intro R w m n p d j
 have h2:=p.r 4 Z
 refine HT.ret ?_
 obtain rfl:=si c
 exact ⟨.inr Z,[R 2],⟨Z,N⟩,h2,j⟩
 have c:=zAG c3 c
 refine HT.skip ?_
 refine HT.seq ?_
 obtain ⟨x8,q9,c⟩:=zA4 c
 refine HT.su d j (eU p0::eB x8::eB (!x8)::[]) ?_ ?_
 exact om h0<|op (fun Q U W H D=>zAC call158 (zE4 (q9 Z) (d.fr W.size) (D.g 0 Z)))<|op (fun Q U W H D=>zCk (D.g 0 Z))<|oz
 intro R w m n p d j
 replace h0:=k1 n h0
 have h13:=p.r 2 Z
 refine HT.cond (!x8) h13 (fun c10=>?_) (fun c10=>?_)
 have c:=zAH c10 c
 refine HT.su d j (eI (-2)::[]) ?_ ?_
 exact op (fun Q U W H D=>zA0 Z)<|oz
 intro R w m n p d j
 have h2:=p.r 0 Z
 refine HT.ret ?_
 obtain rfl:=si c
 exact ⟨.inr Z,[R 2],⟨Z,N⟩,h2,j⟩
 have c:=zAG c10 c
 refine HT.skip ?_
 obtain ⟨e11,c⟩:=zA3 c
 refine HT.su d j (eU p0::eU (IntKind.u8.wrap (p0-97))::eR (.pointer (some ⟨0,(IntKind.u8.wrap (p0-97)).toNat,none⟩))::eI (gtD sndL (IntKind.u8.wrap (p0-97)))::eI (gtD sndL (IntKind.u8.wrap (p0-97)))::[]) ?_ ?_
 exact om h0<|op (fun Q U W H D=>zIh (D.g 0 Z) Z)<|op (fun Q U W H D=>zFu (D.g 0 Z) underlying144 sizeOf3 e11)<|op (fun Q U W H D=>OpF.int (zAf ((hG0.fr (j.trans W)).sndAt e11 ((D.g 0 Z))) isAgg3 sizeOf3))<|oa<|oz
 intro R w m n p d j
 have h2:=p.r 4 Z
 refine HT.ret ?_
 obtain rfl:=si c
 exact ⟨.inr Z,[R 2],⟨Z,N⟩,h2,j⟩
def zB7 (fu : Nat) (p0 : List UInt8) : Nat → Int → Int → (List Int) → Option (Ex (List UInt8) (List Int))
 | 0,_,_,_=>none
 | k+1,y14,y15,y16=>
 bif (decide (y15<(p0.length:Int))) then (
 ck (inR y15 p0.length) <|
 cl true (zCF fu (bAt p0 y15)) fun x19=>
 bif (x19==(-2)) then (
 some (Ex.ret ([]:List UInt8))
 ) else (
 bd ((y15==0) || (decide (x19<0))) fun x23=>
 bif x23 then (
 ck (i64B (y15+1)) <|
 zB7 fu p0 k y14 (y15+1) y16
 ) else (
 bd ((decide (0<x19))&&(x19 != y14)) fun x27=>
 bif x27 then (
 ck (i64B (48+x19)) <|
 ck (zBE (y16.length+([(IntKind.u8.wrap (48+x19))]:List Int).length)) <|
 ck (i64B (y15+1)) <|
 zB7 fu p0 k x19 (y15+1) (y16++([(IntKind.u8.wrap (48+x19))]:List Int))
 ) else (
 ck (i64B (y15+1)) <|
 zB7 fu p0 k x19 (y15+1) y16
 )
 )
 )
 ) else (
 some (Ex.go y16)
 )
def zDT (fu:Nat) (p0:List UInt8):Option (List UInt8):=
 bif (p0==([]:List UInt8)) then (
 some ([]:List UInt8)
 ) else (
 ck (subR 0 1 p0.length) <|
 cl true (zCj fu (subL p0 0 1)) fun x4=>
 ck (zBE x4.length) <|
 ck (inR 0 p0.length) <|
 cl true (zCF fu (bAt p0 0)) fun x9=>
 cl true (zB7 fu p0 fu x9 0 (bytL x4)) fun rl11=>
 exM rl11 (fun r=>some r) fun s13=>
 ck (zBE ((strB s13)++([48,48,48]:List UInt8)).length) <|
 ck (subR 0 4 ((strB s13)++([48,48,48]:List UInt8)).length) <|
 some (subL ((strB s13)++([48,48,48]:List UInt8)) 0 4)
 )
theorem zGv {fu : Nat} {A0 : Av} {p0 : List UInt8} {r : List UInt8} (c : zDT fu p0 = some r) {w : World} {v0 : Value} (d : AvOK A0 w) (hG : GTab w) (h0 : Rep eStr A0 w v0 p0) :
 Calls prog 100 #[v0] w fun e w'=>∃ v,e = .returned v∧(Rep eStr A0 w' v r∧Fr w w'):=by
 unfold zDT at c
 obtain ⟨w0,hw0,j,C⟩:=pw d
 have hA00:AvOK A0 w0:=C
 rw [fw hw0]
 have hG0:GTab w0:=hw0 ▸ hG
 obtain ⟨A,hAe,B,d,q⟩:=pa d
 refine zA5 [.tmp 2] func100 ntmps100 (by decide) Z Z (nb Z) ?_
 intro R hR
 have f_v0:Rep eStr A w v0 p0:=hAe ▸ h0
 replace h0:R 0=v0:=hR 0 _ Z
 refine HT.su d j (eF (.rep eStr A ([]:List UInt8))::[]) ?_ ?_
 exact op (fun Q U W H D=>zA0 ⟨_,Z,⟨_,Z,Z,by decide⟩⟩)<|oz
 intro R w m n p d j
 replace h0:=k1 n h0
 replace f_v0:=f_v0.fr m
 replace q:=q.fr m
 refine HT.seq ?_
 refine HT.su d j (eR v0::eB (p0==([]:List UInt8))::[]) ?_ ?_
 exact om h0<|op (fun Q U W H D=>zBV ((f_v0.fr W).eq (D.g 0 Z)) ⟨_,Z,⟨_,Z,Z,by decide⟩⟩)<|oz
 intro R w m n p d j
 replace h0:=k1 n h0
 have h8:=p.r 1 Z
 replace f_v0:=f_v0.fr m
 replace q:=q.fr m
 refine HT.cond (p0==([]:List UInt8)) h8 (fun c1=>?_) (fun c1=>?_)
 have c:=zAH c1 c
 refine HT.su d j (eF (.rep eStr A ([]:List UInt8))::[]) ?_ ?_
 exact op (fun Q U W H D=>zA0 ⟨_,Z,⟨_,Z,Z,by decide⟩⟩)<|oz
 intro R w m n p d j
 obtain ⟨u2,h2,f_u2⟩:∃ u,R 2=u∧Rep eStr A w u ([]:List UInt8):=⟨_,Z,p 0 _ _ Z Z Z⟩
 replace q:=q.fr m
 refine HT.ret ?_
 obtain rfl:=si c
 exact ⟨.inr Z,[R 2],⟨Z,N⟩,(f_u2.eq h2).down B,j⟩
 have c:=zAG c1 c
 refine HT.skip ?_
 obtain ⟨e3,c⟩:=zA3 c
 obtain ⟨x4,q5,c⟩:=zA4 c
 obtain ⟨e6,c⟩:=zA3 c
 refine HT.sx [] (rR v0::(rF fun A=>.rep eStr A (subL p0 0 1))::(rF fun A=>.rep eStr A x4)::⟨_,true,[],some (.vec w0.heap.size 5 (eInt .u8) (bytL x4)),true,fun A=>.any⟩::⟨_,true,[3],some (.vec w0.heap.size 5 (eInt .u8) (bytL x4)),true,fun A=>.any⟩::[]) (ur (up (up (ua (ua (UAll.nil)))))) q d ?_ ?_
 exact rm h0<|rp (fun V Q U O D=>zC2 ((f_v0.stp O.stp).eq (D.g 0 Z)) Z underlying9  e3)<|rp (fun V Q U O D=>zAC call130 (zEl (q5 Z) O.av (D.g 0 Z)))<|rc (OblR.made _ Z Z Z Z fun V Q U O D=>by have a0:Rep eStr V U (Q 11) x4:=D.g 0 Z;exact zI7 a0 underlying9 underlying43 underlying5 Z e6 (Nat.le_trans j.size O.ch.size))<|rc (OblR.took 3 _ _ Z Z Z Z Z fun V Q U O D u X Y J L M=>by exact zA8 (L _ _ Z Z Z Z).symm X Y)<|rz
 intro done ρ σ A R w y s
 replace h0:=k1 s.rg h0
 obtain ⟨u7,e_u7⟩:∃ u,ρ 4=u:=⟨_,Z⟩
 have h3:=s.ov y 4 4 e_u7
 replace f_v0:=f_v0.stp s.stp
 obtain ⟨B,j,d⟩:=s.s B C j q N
 replace q:=s.left y [(4,ob u7 (.vec w0.heap.size 5 (eInt .u8) (bytL x4)))] ⟨Z,Z,e_u7,Z,Z,N⟩
 obtain ⟨e8,c⟩:=zA3 c
 obtain ⟨x9,q10,c⟩:=zA4 c
 refine HT.su d j (eR v0::eU (bAt p0 0)::eI x9::eI x9::[]) ?_ ?_
 exact om h0<|op (fun Q U W H D=>zAR ((f_v0.fr W).eq (D.g 0 Z)) Z underlying9 e8)<|op (fun Q U W H D=>zAC call131 (zEY (q10 Z) (d.fr W.size) (hG0.fr (j.trans W)) (D.g 0 Z)))<|oa<|oz
 intro R w m n p d j
 obtain ⟨h0,h3⟩:=k2 n h0 h3
 have h4:=p.r 3 Z
 replace f_v0:=f_v0.fr m
 replace q:=q.fr m
 refine HT.seq ?_
 refine HT.su d j (eR v0::eI (p0.length:Int)::eI 0::[]) ?_ ?_
 exact om h0<|op (fun Q U W H D=>zAd ((f_v0.fr W).eq (D.g 0 Z)) underlying9)<|op (fun Q U W H D=>zC1 Z)<|oz
 intro R w m n p d j
 obtain ⟨h0,h3,h4⟩:=k3 n h0 h3 h4
 have h17:=p.r 1 Z
 have h18:=p.r 2 Z
 replace f_v0:=f_v0.fr m
 replace q:=q.fr m
 obtain ⟨rl11,q12,c⟩:=zA4 c
 replace q12:=q12 Z
 refine HT.cut0 (fun R w=>∃ A:Av,∃ (s13:(List Int)) (uo_u7:Value),rl11=Ex.go s13∧AvOK A w∧Fr w0 w∧(∀ b o,A0 b o→A b o)∧IniOK [ob uo_u7 (.vec w0.heap.size 5 (eInt .u8) s13)] A w∧R 3=uo_u7) ?_ ?_
 refine HT.block ?_
 refine HT.loop (fun k R w=>∃ A:Av,∃ (y14:Int) (y15:Int) (y16:List Int) (ul_u7:Value),zB7 fu p0 k y14 y15 y16=some rl11∧AvOK A w∧Fr w0 w∧(∀ b o,A0 b o→A b o)∧IniOK [ob ul_u7 (.vec w0.heap.size 5 (eInt .u8) y16)] A w∧R 0=v0∧R 3=ul_u7∧R 4 = .int .i64 y14∧R 17 = .int .i64 (p0.length:Int)∧R 18 = .int .i64 y15∧Rep eStr A w v0 p0) fu ⟨_,_,_,_,u7,q12,d,j,B,q,h0,h3,h4,h17,h18,f_v0⟩ ?_
 have hr0:=c;clear c q12
 rintro k R w ⟨A,y14,y15,y16,ul_u7,c,d,j,B,q,h0,h3,h4,h17,h18,f_v0⟩
 rcases k with _ | k
 cases (show none=some _ from c)
 rw [zB7] at c
 refine HT.su d j (eB (decide (y15<(p0.length:Int)))::[]) ?_ ?_
 exact op (fun Q U W H D=>zAg ((H 18 Z).trans h18) ((H 17 Z).trans h17))<|oz
 intro R w m n p d j
 obtain ⟨h0,h3,h4,h17,h18⟩:=k5 n h0 h3 h4 h17 h18
 have h19:=p.r 0 Z
 replace f_v0:=f_v0.fr m
 replace q:=q.fr m
 refine HT.seq ?_
 refine HT.cond (decide (y15<(p0.length:Int))) h19 (fun c17=>?_) (fun c17=>?_)
 have c:=zAH c17 c
 refine HT.skip ?_
 refine HT.seq ?_
 refine HT.block ?_
 refine HT.su d j (eI y15::eI y15::[]) ?_ ?_
 exact om h18<|oa<|oz
 intro R w m n p d j
 obtain ⟨h0,h3,h4,h17,h18⟩:=k5 n h0 h3 h4 h17 h18
 have h5:=p.r 1 Z
 replace f_v0:=f_v0.fr m
 replace q:=q.fr m
 obtain ⟨e18,c⟩:=zA3 c
 obtain ⟨x19,q20,c⟩:=zA4 c
 refine HT.su d j (eR v0::eI y15::eU (bAt p0 y15)::eI x19::eI x19::[]) ?_ ?_
 exact om h0<|om h5<|op (fun Q U W H D=>zAR ((f_v0.fr W).eq (D.g 0 Z)) (D.g 1 Z) underlying9 e18)<|op (fun Q U W H D=>zAC call131 (zEY (q20 Z) (d.fr W.size) (hG0.fr (j.trans W)) (D.g 0 Z)))<|oa<|oz
 intro R w m n p d j
 obtain ⟨h0,h3,h4,h5,h17,h18⟩:=k6 n h0 h3 h4 h5 h17 h18
 have h6:=p.r 4 Z
 replace f_v0:=f_v0.fr m
 replace q:=q.fr m
 refine HT.seq ?_
 refine HT.su d j (eI x19::eB (x19==(-2))::[]) ?_ ?_
 exact om h6<|op (fun Q U W H D=>zEV (D.g 0 Z) Z)<|oz
 intro R w m n p d j
 obtain ⟨h0,h3,h4,h5,h6,h17⟩:=k6 n h0 h3 h4 h5 h6 h17
 replace h18:=k1 n h18
 have h26:=p.r 1 Z
 replace f_v0:=f_v0.fr m
 replace q:=q.fr m
 refine HT.cond (x19==(-2)) h26 (fun c21=>?_) (fun c21=>?_)
 have c:=zAH c21 c
 refine HT.su d j (eF (.rep eStr A ([]:List UInt8))::[]) ?_ ?_
 exact op (fun Q U W H D=>zA0 ⟨_,Z,⟨_,Z,Z,by decide⟩⟩)<|oz
 intro R w m n p d j
 obtain ⟨u22,h2,f_u22⟩:∃ u,R 2=u∧Rep eStr A w u ([]:List UInt8):=⟨_,Z,p 0 _ _ Z Z Z⟩
 replace q:=q.fr m
 replace q:IniOK [] A w:=q.sub [] N
 refine HT.ret ?_
 obtain rfl:=si c
 have c:=hr0
 replace c:some _=some _:=c
 obtain rfl:=si c
 exact ⟨.inr Z,[R 2],⟨Z,N⟩,(f_u22.eq h2).down B,j⟩
 have c:=zAG c21 c
 refine HT.skip ?_
 refine HT.seq ?_
 refine HT.seq ?_
 obtain ⟨x23,q24,c⟩:=zAW c
 refine HT.u d j (eI y15::eB (y15==0)::eB (y15==0)::gI (true&&((y15==0)==false)) x19::gB (true&&((y15==0)==false)) (decide (x19<0))::eB x23::[]) ?_ ?_
 exact om h5<|op (fun Q U W H D=>zEV (D.g 0 Z) Z)<|ov<|gm 2 false h6<|og 2 false (fun G Q U W H D=>zAg (D.h 0 G Z) Z)<|op (fun Q U W H D=>zAc (y15==0) (D.g 0 Z) (fun hc=>by show _=Value.bool x23;rw [q24,hc];exact Z) (fun hc=>by have a2:Q 31 = .bool (decide (x19<0)):=D 1 _ _ _ Z Z Z Z (zC5 Z (zB5 hc));show _=Value.bool x23;rw [q24,hc];exact a2))<|oz
 intro R w m n p d j
 obtain ⟨h0,h3,h4,h6,h17,h18⟩:=k6 n h0 h3 h4 h6 h17 h18
 have h32:=p.r 5 Z
 replace f_v0:=f_v0.fr m
 replace q:=q.fr m
 refine HT.cond x23 h32 (fun c25=>?_) (fun c25=>?_)
 have c:=zAH c25 c
 refine HT.exit ?_
 obtain ⟨e26,c⟩:=zA3 c
 refine HT.u d j (eI (y15+1)::eI (y15+1)::[]) ?_ ?_
 exact op (fun Q U W H D=>zAO ((H 18 Z).trans h18) Z e26)<|ov<|oz
 intro R w m n p d j
 obtain ⟨h0,h3,h4,h17⟩:=k4 n h0 h3 h4 h17
 have h18:=p.r 1 Z
 replace f_v0:=f_v0.fr m
 replace q:=q.fr m
 exact ei k (And.intro (Nat.lt_succ_self k) ⟨_,_,_,_,ul_u7,c,d,j,B,q,h0,h3,h4,h17,h18,f_v0⟩)
 have c:=zAG c25 c
 refine HT.skip ?_
 refine HT.seq ?_
 refine HT.seq ?_
 obtain ⟨x27,q28,c⟩:=zAW c
 refine HT.u d j (eI x19::eB (decide (0<x19))::eB (decide (0<x19))::gI (true&&((decide (0<x19))==true)) x19::gI (true&&((decide (0<x19))==true)) y14::gB (true&&((decide (0<x19))==true)) (x19 != y14)::eB x27::[]) ?_ ?_
 exact om h6<|op (fun Q U W H D=>zDz (D.g 0 Z) Z)<|ov<|gm 2 true h6<|gm 2 true h4<|og 2 true (fun G Q U W H D=>zEg (D.h 0 G Z) (D.h 1 G Z))<|op (fun Q U W H D=>zAc (decide (0<x19)) (D.g 0 Z) (fun hc=>by have a1:Q 38 = .bool (x19 != y14):=D 1 _ _ _ Z Z Z Z (zC5 Z (zB5 hc));show _=Value.bool x27;rw [q28,hc];exact a1) (fun hc=>by show _=Value.bool x27;rw [q28,hc];exact Z))<|oz
 intro R w m n p d j
 obtain ⟨h0,h3,h6,h17,h18⟩:=k5 n h0 h3 h6 h17 h18
 have h39:=p.r 6 Z
 replace f_v0:=f_v0.fr m
 replace q:=q.fr m
 refine HT.cond x27 h39 (fun c29=>?_) (fun c29=>?_)
 have c:=zAH c29 c
 obtain ⟨e30,e31,c⟩:=ck2 c
 refine HT.x [ob ul_u7 (.vec w0.heap.size 5 (eInt .u8) y16)] (rR ul_u7::rI x19::rI (48+x19)::rU (IntKind.u8.wrap (48+x19))::(rF fun A=>.rep (eSl (eInt .u8)) A ([(IntKind.u8.wrap (48+x19))]:List Int))::⟨_,true,[0],some (.vec w0.heap.size 5 (eInt .u8) (y16++([(IntKind.u8.wrap (48+x19))]:List Int))),true,fun A=>.any⟩::⟨_,true,[6],some (.vec w0.heap.size 5 (eInt .u8) (y16++([(IntKind.u8.wrap (48+x19))]:List Int))),true,fun A=>.any⟩::[]) (ur (ur (ur (ur (up (ua (ua (UAll.nil)))))))) q d ?_ ?_
 exact rm h3<|rm h6<|rp (fun V Q U O D=>zAO Z (D.g 0 Z) e30)<|rp (fun V Q U O D=>zDg (D.g 0 Z) underlying3 underlying5)<|rp (fun V Q U O D=>zAu [_] (E:=eInt .u8) ⟨(zBp.eq (D.g 0 Z)),N⟩ underlying43 sizeOf5 zeroValue5 Z Z Z O.av)<|rc (OblR.took 0 _ _ Z Z Z Z Z fun V Q U O D u X Y J L M=>by have a0:Q 40=ul_u7:=D.g 0 Z;have a1:Rep (eSl (eInt .u8)) V U (Q 44) ([(IntKind.u8.wrap (48+x19))]:List Int):=D.g 1 Z;exact zAS (a0.trans (J _ Z).symm) X Y (Nat.le_trans j.size O.ch.size) a1 underlying43 el_5 e31)<|rc (OblR.took 6 _ _ Z Z Z Z Z fun V Q U O D u X Y J L M=>by exact zA8 (L _ _ Z Z Z Z).symm X Y)<|rz
 intro done ρ σ A R w y s
 obtain ⟨h0,h6,h17,h18⟩:=k4 s.rg h0 h6 h17 h18
 obtain ⟨u32,e_u32⟩:∃ u,ρ 7=u:=⟨_,Z⟩
 have h3:=s.ov y 7 6 e_u32
 replace f_v0:=f_v0.stp s.stp
 obtain ⟨B,j,d⟩:=s.s B C j q ⟨Z,N⟩
 replace q:=s.left y [(7,ob u32 (.vec w0.heap.size 5 (eInt .u8) (y16++([(IntKind.u8.wrap (48+x19))]:List Int))))] ⟨Z,Z,e_u32,Z,Z,N⟩
 refine HT.u d j (eI x19::eI x19::[]) ?_ ?_
 exact om h6<|oa<|oz
 intro R w m n p d j
 obtain ⟨h0,h3,h17,h18⟩:=k4 n h0 h3 h17 h18
 have h4:=p.r 1 Z
 replace f_v0:=f_v0.fr m
 replace q:=q.fr m
 obtain ⟨e33,c⟩:=zA3 c
 refine HT.u d j (eI (y15+1)::eI (y15+1)::[]) ?_ ?_
 exact op (fun Q U W H D=>zAO ((H 18 Z).trans h18) Z e33)<|ov<|oz
 intro R w m n p d j
 obtain ⟨h0,h3,h4,h17⟩:=k4 n h0 h3 h4 h17
 have h18:=p.r 1 Z
 replace f_v0:=f_v0.fr m
 replace q:=q.fr m
 exact ei k (And.intro (Nat.lt_succ_self k) ⟨_,_,_,_,u32,c,d,j,B,q,h0,h3,h4,h17,h18,f_v0⟩)
 have c:=zAG c29 c
 refine HT.skip ?_
 refine HT.u d j (eI x19::eI x19::[]) ?_ ?_
 exact om h6<|oa<|oz
 intro R w m n p d j
 obtain ⟨h0,h3,h17,h18⟩:=k4 n h0 h3 h17 h18
 have h4:=p.r 1 Z
 replace f_v0:=f_v0.fr m
 replace q:=q.fr m
 obtain ⟨e34,c⟩:=zA3 c
 refine HT.u d j (eI (y15+1)::eI (y15+1)::[]) ?_ ?_
 exact op (fun Q U W H D=>zAO ((H 18 Z).trans h18) Z e34)<|ov<|oz
 intro R w m n p d j
 obtain ⟨h0,h3,h4,h17⟩:=k4 n h0 h3 h4 h17
 have h18:=p.r 1 Z
 replace f_v0:=f_v0.fr m
 replace q:=q.fr m
 exact ei k (And.intro (Nat.lt_succ_self k) ⟨_,_,_,_,ul_u7,c,d,j,B,q,h0,h3,h4,h17,h18,f_v0⟩)
 have c:=zAG c17 c
 refine HT.exit ?_
 obtain rfl:=si c
 exact ei _ ⟨_,ul_u7,Z,d,j,B,q,h3⟩
 rintro R w ⟨A,s13,uo_u7,rfl,d,j,B,q,h3⟩
 have c:=zEN c
 obtain ⟨e35,e36,c⟩:=ck2 c
 refine HT.su d j (eR uo_u7::eF (.rep eStr A (strB s13))::eF (.rep eStr A ((strB s13)++([48,48,48]:List UInt8)))::eF (.rep eStr A (subL ((strB s13)++([48,48,48]:List UInt8)) 0 4))::eF (.rep eStr A (subL ((strB s13)++([48,48,48]:List UInt8)) 0 4))::[]) ?_ ?_
 exact om h3<|op (fun Q U W H D=>zBK ((zBf ((q.fr W).ok 0 _ Z).1 B C).eq (D.g 0 Z)) underlying43 underlying5 underlying9)<|op (fun Q U W H D=>zDy (D.g 0 Z) ⟨_,Z,⟨_,Z,Z,by decide⟩⟩ e35)<|op (fun Q U W H D=>zC2 (D.g 0 Z) Z underlying9  e36)<|op (fun Q U W H D=>zA0 (D.g 0 Z))<|oz
 intro R w m n p d j
 obtain ⟨u37,h2,f_u37⟩:∃ u,R 2=u∧Rep eStr A w u (subL ((strB s13)++([48,48,48]:List UInt8)) 0 4):=⟨_,Z,p 4 _ _ Z Z Z⟩
 replace q:=q.fr m
 replace q:IniOK [] A w:=q.sub [] N
 refine HT.ret ?_
 obtain rfl:=si c
 exact ⟨.inr Z,[R 2],⟨Z,N⟩,(f_u37.eq h2).down B,j⟩
def zBF (fu : Nat) (x2 : List (List UInt8)) : Nat → Int → (List (List UInt8)) → Option (List (List UInt8))
 | 0,_,_=>none
 | k+1,y8,y9=>
 bif (decide (y8<(x2.length:Int))) then (
 ck (inR y8 x2.length) <|
 cl true (zDT fu (gtD x2 y8)) fun x13=>
 bif (!(x13==([]:List UInt8))) then (
 ck (zBE (y9.length+([x13]:List (List UInt8)).length)) <|
 ck (i64B (y8+1)) <|
 zBF fu x2 k (y8+1) (y9++([x13]:List (List UInt8)))
 ) else (
 ck (i64B (y8+1)) <|
 zBF fu x2 k (y8+1) y9
 )
 ) else (
 some y9
 )
def zCR (fu:Nat) (p0:List UInt8):Option (List (List UInt8)):=
 cl true (zCX fu p0) fun x2=>
 cl true (zBF fu x2 fu 0 ([]:List (List UInt8))) fun s7=>
 cl true (zAw fu s7) fun x21=>
 some x21
theorem zGH {fu : Nat} {A0 : Av} {p0 : List UInt8} {r : List (List UInt8)} (c : zCR fu p0 = some r) {w : World} {v0 : Value} (d : AvOK A0 w) (hG : GTab w) (h0 : Rep eStr A0 w v0 p0) :
 Calls prog 69 #[v0] w fun e w'=>∃ v,e = .returned v∧((Res.vec w.heap.size 9 eStr r).ok (addA A0 v) v w'∧Fr w w'):=by
 unfold zCR at c
 obtain ⟨w0,hw0,j,C⟩:=pw d
 have hA00:AvOK A0 w0:=C
 rw [fh hw0]
 rw [fw hw0]
 have hG0:GTab w0:=hw0 ▸ hG
 obtain ⟨A,hAe,B,d,q⟩:=pa d
 refine zA5 [.tmp 2] func69 ntmps69 (by decide) Z Z (nb Z) ?_
 intro R hR
 have f_v0:Rep eStr A w v0 p0:=hAe ▸ h0
 replace h0:R 0=v0:=hR 0 _ Z
 refine HT.su d j (eA::[]) ?_ ?_
 exact op (fun Q U W H D=>zA0 N)<|oz
 intro R w m n p d j
 replace h0:=k1 n h0
 replace f_v0:=f_v0.fr m
 replace q:=q.fr m
 refine HT.su d j (eR (.slice none 0 0)::[]) ?_ ?_
 exact op (fun Q U W H D=>zA0 Z)<|oz
 intro R w m n p d j
 replace h0:=k1 n h0
 obtain ⟨u1,n_u1⟩:∃ u,u=Value.slice none 0 0:=⟨_,Z⟩
 have h3:R 3=u1:=(p 0 _ _ Z Z Z).trans n_u1.symm
 replace f_v0:=f_v0.fr m
 replace q:=q.fr m
 replace q:=q.nilcons (u:=u1) n_u1 w0.heap.size 9 eStr
 refine HT.seq ?_
 obtain ⟨x2,q3,c⟩:=zA4 c
 refine HT.su d j (eR v0::eF (.rep (eSl eStr) A x2)::eI (x2.length:Int)::eI 0::[]) ?_ ?_
 exact om h0<|op (fun Q U W H D=>zAC call72 (zE0 (q3 Z) (d.fr W.size) (hG0.fr (j.trans W)) ((f_v0.fr W).eq (D.g 0 Z))))<|op (fun Q U W H D=>zAL (aT:=#[]) (D.g 0 Z) underlying34)<|op (fun Q U W H D=>zC1 Z)<|oz
 intro R w m n p d j
 replace h3:=k1 n h3
 obtain ⟨u4,h8,f_u4⟩:∃ u,R 8=u∧Rep (eSl eStr) A w u x2:=⟨_,Z,p 1 _ _ Z Z Z⟩
 have h9:=p.r 2 Z
 have h10:=p.r 3 Z
 replace q:=q.fr m
 obtain ⟨rl5,q6,c⟩:=zA4 c
 replace q6:=q6 Z
 refine HT.cut0 (fun R w=>∃ A:Av,∃ (s7:(List (List UInt8))) (uo_u1:Value),rl5=s7∧AvOK A w∧Fr w0 w∧(∀ b o,A0 b o→A b o)∧IniOK [ob uo_u1 (.vec w0.heap.size 9 eStr s7)] A w∧R 3=uo_u1) ?_ ?_
 refine HT.block ?_
 refine HT.loop (fun k R w=>∃ A:Av,∃ (y8:Int) (y9:List (List UInt8)) (ul_u1:Value),zBF fu x2 k y8 y9=some rl5∧AvOK A w∧Fr w0 w∧(∀ b o,A0 b o→A b o)∧IniOK [ob ul_u1 (.vec w0.heap.size 9 eStr y9)] A w∧R 3=ul_u1∧R 8=u4∧R 9 = .int .i64 (x2.length:Int)∧R 10 = .int .i64 y8∧Rep (eSl eStr) A w u4 x2) fu ⟨_,_,_,u1,q6,d,j,B,q,h3,h8,h9,h10,f_u4⟩ ?_
 have hr0:=c;clear c q6
 rintro k R w ⟨A,y8,y9,ul_u1,c,d,j,B,q,h3,h8,h9,h10,f_u4⟩
 rcases k with _ | k
 cases (show none=some _ from c)
 rw [zBF] at c
 refine HT.su d j (eB (decide (y8<(x2.length:Int)))::[]) ?_ ?_
 exact op (fun Q U W H D=>zAg ((H 10 Z).trans h10) ((H 9 Z).trans h9))<|oz
 intro R w m n p d j
 obtain ⟨h3,h8,h9,h10⟩:=k4 n h3 h8 h9 h10
 have h11:=p.r 0 Z
 replace f_u4:=f_u4.fr m
 replace q:=q.fr m
 refine HT.seq ?_
 refine HT.cond (decide (y8<(x2.length:Int))) h11 (fun c10=>?_) (fun c10=>?_)
 have c:=zAH c10 c
 refine HT.skip ?_
 refine HT.seq ?_
 refine HT.block ?_
 obtain ⟨e11,c⟩:=zA3 c
 refine HT.su d j (eF (.qtr eStr A (gtD x2 y8))::eF (.rep eStr A (gtD x2 y8))::eF (.rep eStr A (gtD x2 y8))::[]) ?_ ?_
 exact op (fun Q U W H D=>zAB ((f_u4.fr W).eq ((H 8 Z).trans h8)) ((H 10 Z).trans h10) underlying34 sizeOf9 e11)<|op (fun Q U W H D=>(zAf (QRep.ptr (D.g 0 Z)) isAgg9 sizeOf9))<|op (fun Q U W H D=>zA0 (D.g 0 Z))<|oz
 intro R w m n p d j
 obtain ⟨h3,h8,h9,h10⟩:=k4 n h3 h8 h9 h10
 obtain ⟨u12,h5,f_u12⟩:∃ u,R 5=u∧Rep eStr A w u (gtD x2 y8):=⟨_,Z,p 2 _ _ Z Z Z⟩
 replace f_u4:=f_u4.fr m
 replace q:=q.fr m
 obtain ⟨x13,q14,c⟩:=zA4 c
 refine HT.su d j (eR u12::eF (.rep eStr A x13)::eF (.rep eStr A x13)::[]) ?_ ?_
 exact om h5<|op (fun Q U W H D=>zAC call100 (zGv (q14 Z) (d.fr W.size) (hG0.fr (j.trans W)) ((f_u12.fr W).eq (D.g 0 Z))))<|op (fun Q U W H D=>zA0 (D.g 0 Z))<|oz
 intro R w m n p d j
 obtain ⟨h3,h8,h9,h10⟩:=k4 n h3 h8 h9 h10
 obtain ⟨u15,h6,f_u15⟩:∃ u,R 6=u∧Rep eStr A w u x13:=⟨_,Z,p 2 _ _ Z Z Z⟩
 replace f_u4:=f_u4.fr m
 replace q:=q.fr m
 refine HT.su d j (eR u15::eB (!(x13==([]:List UInt8)))::[]) ?_ ?_
 exact om h6<|op (fun Q U W H D=>zF2 ((f_u15.fr W).eq (D.g 0 Z)) ⟨_,Z,⟨_,Z,Z,by decide⟩⟩)<|oz
 intro R w m n p d j
 obtain ⟨h3,h6,h8,h9,h10⟩:=k5 n h3 h6 h8 h9 h10
 have h17:=p.r 1 Z
 replace f_u15:=f_u15.fr m
 replace f_u4:=f_u4.fr m
 replace q:=q.fr m
 refine HT.cond (!(x13==([]:List UInt8))) h17 (fun c16=>?_) (fun c16=>?_)
 have c:=zAH c16 c
 obtain ⟨e17,c⟩:=zA3 c
 refine HT.x [ob ul_u1 (.vec w0.heap.size 9 eStr y9)] (rR ul_u1::rR u15::(rF fun A=>.rep (eSl eStr) A ([x13]:List (List UInt8)))::⟨_,true,[0],some (.vec w0.heap.size 9 eStr (y9++([x13]:List (List UInt8)))),true,fun A=>.any⟩::⟨_,true,[4],some (.vec w0.heap.size 9 eStr (y9++([x13]:List (List UInt8)))),true,fun A=>.any⟩::[]) (ur (ur (up (ua (ua (UAll.nil)))))) q d ?_ ?_
 exact rm h3<|rm h6<|rp (fun V Q U O D=>zAu [_] (E:=eStr) ⟨((f_u15.stp O.stp).eq (D.g 0 Z)),N⟩ underlying34 sizeOf9 zeroValue9 Z Z Z O.av)<|rc (OblR.took 0 _ _ Z Z Z Z Z fun V Q U O D u X Y J L M=>by have a0:Q 18=ul_u1:=D.g 0 Z;have a1:Rep (eSl eStr) V U (Q 20) ([x13]:List (List UInt8)):=D.g 1 Z;exact zAS (a0.trans (J _ Z).symm) X Y (Nat.le_trans j.size O.ch.size) a1 underlying34 el_9 e17)<|rc (OblR.took 4 _ _ Z Z Z Z Z fun V Q U O D u X Y J L M=>by exact zA8 (L _ _ Z Z Z Z).symm X Y)<|rz
 intro done ρ σ A R w y s
 obtain ⟨h8,h9,h10⟩:=k3 s.rg h8 h9 h10
 obtain ⟨u18,e_u18⟩:∃ u,ρ 5=u:=⟨_,Z⟩
 have h3:=s.ov y 5 4 e_u18
 replace f_u4:=f_u4.stp s.stp
 obtain ⟨B,j,d⟩:=s.s B C j q ⟨Z,N⟩
 replace q:=s.left y [(5,ob u18 (.vec w0.heap.size 9 eStr (y9++([x13]:List (List UInt8)))))] ⟨Z,Z,e_u18,Z,Z,N⟩
 obtain ⟨e19,c⟩:=zA3 c
 refine HT.u d j (eI (y8+1)::eI (y8+1)::[]) ?_ ?_
 exact op (fun Q U W H D=>zAO ((H 10 Z).trans h10) Z e19)<|ov<|oz
 intro R w m n p d j
 obtain ⟨h3,h8,h9⟩:=k3 n h3 h8 h9
 have h10:=p.r 1 Z
 replace f_u4:=f_u4.fr m
 replace q:=q.fr m
 exact ei k (And.intro (Nat.lt_succ_self k) ⟨_,_,_,u18,c,d,j,B,q,h3,h8,h9,h10,f_u4⟩)
 have c:=zAG c16 c
 refine HT.skip ?_
 obtain ⟨e20,c⟩:=zA3 c
 refine HT.u d j (eI (y8+1)::eI (y8+1)::[]) ?_ ?_
 exact op (fun Q U W H D=>zAO ((H 10 Z).trans h10) Z e20)<|ov<|oz
 intro R w m n p d j
 obtain ⟨h3,h8,h9⟩:=k3 n h3 h8 h9
 have h10:=p.r 1 Z
 replace f_u4:=f_u4.fr m
 replace q:=q.fr m
 exact ei k (And.intro (Nat.lt_succ_self k) ⟨_,_,_,ul_u1,c,d,j,B,q,h3,h8,h9,h10,f_u4⟩)
 have c:=zAG c10 c
 refine HT.exit ?_
 obtain rfl:=si c
 exact ei _ ⟨_,ul_u1,Z,d,j,B,q,h3⟩
 rintro R w ⟨A,s7,uo_u1,es,d,j,B,q,h3⟩
 obtain rfl:=es.symm
 obtain ⟨x21,q22,c⟩:=zA4 c
 refine HT.sx [ob uo_u1 (.vec w0.heap.size 9 eStr s7)] (rR uo_u1::⟨_,true,[],some (.vec w0.heap.size 9 eStr x21),true,fun A=>.any⟩::⟨_,true,[2],some (.vec w0.heap.size 9 eStr x21),true,fun A=>.any⟩::[]) (ur (ua (ua (UAll.nil)))) q d ?_ ?_
 exact rm h3<|rc (OblR.made _ Z Z Z Z fun V Q U O D=>by have a0:Q 23=uo_u1:=D.g 0 Z;have ra0:=(zBf (O.rd 0 _ Z Z) (O.low' B C (q.ge (⟨Z,N⟩))) C).eq a0;exact zE3 call42 (zBX (q22 Z) (hA00.fr ((Nat.le_trans j.size O.ch.size))) ra0) (Nat.le_trans j.size O.ch.size) (O.low' B C (q.ge (⟨Z,N⟩))) (fun _ _ _ _ _ h=>h))<|rc (OblR.took 2 _ _ Z Z Z Z Z fun V Q U O D u X Y J L M=>by exact zA8 (L _ _ Z Z Z Z).symm X Y)<|rz
 intro done ρ σ A R w y s
 have z23:=s.inivR 0 Z
 obtain ⟨u24,e_u24⟩:∃ u,ρ 3=u:=⟨_,Z⟩
 have h2:=s.ov y 3 2 e_u24
 obtain ⟨B,j,d⟩:=s.s B C j q ⟨Z,N⟩
 replace q:=s.left y [(3,ob u24 (.vec w0.heap.size 9 eStr x21))] ⟨Z,Z,e_u24,Z,Z,N⟩
 refine HT.ret ?_
 obtain rfl:=si c
 exact ⟨.inr Z,[R 2],⟨Z,N⟩,(zBu (q.ok 0 _ Z) B h2),j⟩
theorem zFo {fu : Nat} {A0 : Av} {p0 : List UInt8} {r : List (List UInt8)} (c : zCR fu p0 = some r) {w : World} {v0 : Value} (d : AvOK A0 w) (hG : GTab w) (h0 : Rep eStr A0 w v0 p0) :
 Calls prog 69 #[v0] w fun e w'=>∃ v,e = .returned v∧(Rep (eSl eStr) A0 w' v r∧Fr w w'):=by
 refine Calls.mono (zGH c d hG h0) ?_
 rintro e w' ⟨v,he,hv,hf⟩
 exact ⟨v,he,zBf hv (fun b o h=>.inl h) d,hf⟩
def zAy (fu : Nat) (p0 : List UInt8) : Nat → Int → (List Int) → Option (List Int)
 | 0,_,_=>none
 | k+1,y5,y6=>
 bif (decide (y5<(p0.length:Int))) then (
 ck (inR y5 p0.length) <|
 cl true (zD2 fu (bAt p0 y5)) fun x9=>
 bif x9 then (
 ck (inR y5 p0.length) <|
 ck (zBE (y6.length+([(bAt p0 y5)]:List Int).length)) <|
 ck (i64B (y5+1)) <|
 zAy fu p0 k (y5+1) (y6++([(bAt p0 y5)]:List Int))
 ) else (
 ck (i64B (y5+1)) <|
 zAy fu p0 k (y5+1) y6
 )
 ) else (
 some y6
 )
def zDA (fu:Nat) (p0:List UInt8):Option (List UInt8):=
 cl true (zAy fu p0 fu 0 ([]:List Int)) fun s4=>
 some (strB s4)
theorem zGR {fu : Nat} {A0 : Av} {p0 : List UInt8} {r : List UInt8} (c : zDA fu p0 = some r) {w : World} {v0 : Value} (d : AvOK A0 w) (h0 : Rep eStr A0 w v0 p0) :
 Calls prog 70 #[v0] w fun e w'=>∃ v,e = .returned v∧(Rep eStr A0 w' v r∧Fr w w'):=by
 unfold zDA at c
 obtain ⟨w0,hw0,j,C⟩:=pw d
 have hA00:AvOK A0 w0:=C
 rw [fw hw0]
 obtain ⟨A,hAe,B,d,q⟩:=pa d
 refine zA5 [.tmp 2] func70 ntmps70 (by decide) Z Z (nb Z) ?_
 intro R hR
 have f_v0:Rep eStr A w v0 p0:=hAe ▸ h0
 replace h0:R 0=v0:=hR 0 _ Z
 refine HT.su d j (eF (.rep eStr A ([]:List UInt8))::[]) ?_ ?_
 exact op (fun Q U W H D=>zA0 ⟨_,Z,⟨_,Z,Z,by decide⟩⟩)<|oz
 intro R w m n p d j
 replace h0:=k1 n h0
 replace f_v0:=f_v0.fr m
 replace q:=q.fr m
 refine HT.su d j (eR (.slice none 0 0)::[]) ?_ ?_
 exact op (fun Q U W H D=>zA0 Z)<|oz
 intro R w m n p d j
 replace h0:=k1 n h0
 obtain ⟨u1,n_u1⟩:∃ u,u=Value.slice none 0 0:=⟨_,Z⟩
 have h3:R 3=u1:=(p 0 _ _ Z Z Z).trans n_u1.symm
 replace f_v0:=f_v0.fr m
 replace q:=q.fr m
 replace q:=q.nilcons (u:=u1) n_u1 w0.heap.size 5 (eInt .u8)
 refine HT.seq ?_
 refine HT.su d j (eR v0::eI (p0.length:Int)::eI 0::[]) ?_ ?_
 exact om h0<|op (fun Q U W H D=>zAd ((f_v0.fr W).eq (D.g 0 Z)) underlying9)<|op (fun Q U W H D=>zC1 Z)<|oz
 intro R w m n p d j
 obtain ⟨h0,h3⟩:=k2 n h0 h3
 have h6:=p.r 1 Z
 have h7:=p.r 2 Z
 replace f_v0:=f_v0.fr m
 replace q:=q.fr m
 obtain ⟨rl2,q3,c⟩:=zA4 c
 replace q3:=q3 Z
 refine HT.cut0 (fun R w=>∃ A:Av,∃ (s4:(List Int)) (uo_u1:Value),rl2=s4∧AvOK A w∧Fr w0 w∧(∀ b o,A0 b o→A b o)∧IniOK [ob uo_u1 (.vec w0.heap.size 5 (eInt .u8) s4)] A w∧R 3=uo_u1) ?_ ?_
 refine HT.block ?_
 refine HT.loop (fun k R w=>∃ A:Av,∃ (y5:Int) (y6:List Int) (ul_u1:Value),zAy fu p0 k y5 y6=some rl2∧AvOK A w∧Fr w0 w∧(∀ b o,A0 b o→A b o)∧IniOK [ob ul_u1 (.vec w0.heap.size 5 (eInt .u8) y6)] A w∧R 0=v0∧R 3=ul_u1∧R 6 = .int .i64 (p0.length:Int)∧R 7 = .int .i64 y5∧Rep eStr A w v0 p0) fu ⟨_,_,_,u1,q3,d,j,B,q,h0,h3,h6,h7,f_v0⟩ ?_
 have hr0:=c;clear c q3
 rintro k R w ⟨A,y5,y6,ul_u1,c,d,j,B,q,h0,h3,h6,h7,f_v0⟩
 rcases k with _ | k
 cases (show none=some _ from c)
 rw [zAy] at c
 refine HT.su d j (eB (decide (y5<(p0.length:Int)))::[]) ?_ ?_
 exact op (fun Q U W H D=>zAg ((H 7 Z).trans h7) ((H 6 Z).trans h6))<|oz
 intro R w m n p d j
 obtain ⟨h0,h3,h6,h7⟩:=k4 n h0 h3 h6 h7
 have h8:=p.r 0 Z
 replace f_v0:=f_v0.fr m
 replace q:=q.fr m
 refine HT.seq ?_
 refine HT.cond (decide (y5<(p0.length:Int))) h8 (fun c7=>?_) (fun c7=>?_)
 have c:=zAH c7 c
 refine HT.skip ?_
 refine HT.seq ?_
 refine HT.block ?_
 refine HT.su d j (eI y5::eI y5::[]) ?_ ?_
 exact om h7<|oa<|oz
 intro R w m n p d j
 obtain ⟨h0,h3,h6,h7⟩:=k4 n h0 h3 h6 h7
 have h4:=p.r 1 Z
 replace f_v0:=f_v0.fr m
 replace q:=q.fr m
 obtain ⟨e8,c⟩:=zA3 c
 obtain ⟨x9,q10,c⟩:=zA4 c
 refine HT.su d j (eR v0::eI y5::eU (bAt p0 y5)::eB x9::[]) ?_ ?_
 exact om h0<|om h4<|op (fun Q U W H D=>zAR ((f_v0.fr W).eq (D.g 0 Z)) (D.g 1 Z) underlying9 e8)<|op (fun Q U W H D=>zAC call101 (zEt (q10 Z) (d.fr W.size) (D.g 0 Z)))<|oz
 intro R w m n p d j
 obtain ⟨h0,h3,h4,h6,h7⟩:=k5 n h0 h3 h4 h6 h7
 have h13:=p.r 3 Z
 replace f_v0:=f_v0.fr m
 replace q:=q.fr m
 refine HT.cond x9 h13 (fun c11=>?_) (fun c11=>?_)
 have c:=zAH c11 c
 obtain ⟨e12,e13,c⟩:=ck2 c
 refine HT.x [ob ul_u1 (.vec w0.heap.size 5 (eInt .u8) y6)] (rR ul_u1::rR v0::rI y5::rU (bAt p0 y5)::(rF fun A=>.rep (eSl (eInt .u8)) A ([(bAt p0 y5)]:List Int))::⟨_,true,[0],some (.vec w0.heap.size 5 (eInt .u8) (y6++([(bAt p0 y5)]:List Int))),true,fun A=>.any⟩::⟨_,true,[6],some (.vec w0.heap.size 5 (eInt .u8) (y6++([(bAt p0 y5)]:List Int))),true,fun A=>.any⟩::[]) (ur (ur (ur (ur (up (ua (ua (UAll.nil)))))))) q d ?_ ?_
 exact rm h3<|rm h0<|rm h4<|rp (fun V Q U O D=>zAR ((f_v0.stp O.stp).eq (D.g 0 Z)) (D.g 1 Z) underlying9 e12)<|rp (fun V Q U O D=>zAu [_] (E:=eInt .u8) ⟨(zBp.eq (D.g 0 Z)),N⟩ underlying43 sizeOf5 zeroValue5 Z Z Z O.av)<|rc (OblR.took 0 _ _ Z Z Z Z Z fun V Q U O D u X Y J L M=>by have a0:Q 14=ul_u1:=D.g 0 Z;have a1:Rep (eSl (eInt .u8)) V U (Q 18) ([(bAt p0 y5)]:List Int):=D.g 1 Z;exact zAS (a0.trans (J _ Z).symm) X Y (Nat.le_trans j.size O.ch.size) a1 underlying43 el_5 e13)<|rc (OblR.took 6 _ _ Z Z Z Z Z fun V Q U O D u X Y J L M=>by exact zA8 (L _ _ Z Z Z Z).symm X Y)<|rz
 intro done ρ σ A R w y s
 obtain ⟨h0,h6,h7⟩:=k3 s.rg h0 h6 h7
 obtain ⟨u14,e_u14⟩:∃ u,ρ 7=u:=⟨_,Z⟩
 have h3:=s.ov y 7 6 e_u14
 replace f_v0:=f_v0.stp s.stp
 obtain ⟨B,j,d⟩:=s.s B C j q ⟨Z,N⟩
 replace q:=s.left y [(7,ob u14 (.vec w0.heap.size 5 (eInt .u8) (y6++([(bAt p0 y5)]:List Int))))] ⟨Z,Z,e_u14,Z,Z,N⟩
 obtain ⟨e15,c⟩:=zA3 c
 refine HT.u d j (eI (y5+1)::eI (y5+1)::[]) ?_ ?_
 exact op (fun Q U W H D=>zAO ((H 7 Z).trans h7) Z e15)<|ov<|oz
 intro R w m n p d j
 obtain ⟨h0,h3,h6⟩:=k3 n h0 h3 h6
 have h7:=p.r 1 Z
 replace f_v0:=f_v0.fr m
 replace q:=q.fr m
 exact ei k (And.intro (Nat.lt_succ_self k) ⟨_,_,_,u14,c,d,j,B,q,h0,h3,h6,h7,f_v0⟩)
 have c:=zAG c11 c
 refine HT.skip ?_
 obtain ⟨e16,c⟩:=zA3 c
 refine HT.u d j (eI (y5+1)::eI (y5+1)::[]) ?_ ?_
 exact op (fun Q U W H D=>zAO ((H 7 Z).trans h7) Z e16)<|ov<|oz
 intro R w m n p d j
 obtain ⟨h0,h3,h6⟩:=k3 n h0 h3 h6
 have h7:=p.r 1 Z
 replace f_v0:=f_v0.fr m
 replace q:=q.fr m
 exact ei k (And.intro (Nat.lt_succ_self k) ⟨_,_,_,ul_u1,c,d,j,B,q,h0,h3,h6,h7,f_v0⟩)
 have c:=zAG c7 c
 refine HT.exit ?_
 obtain rfl:=si c
 exact ei _ ⟨_,ul_u1,Z,d,j,B,q,h3⟩
 rintro R w ⟨A,s4,uo_u1,es,d,j,B,q,h3⟩
 obtain rfl:=es.symm
 refine HT.su d j (eR uo_u1::eF (.rep eStr A (strB s4))::eF (.rep eStr A (strB s4))::[]) ?_ ?_
 exact om h3<|op (fun Q U W H D=>zBK ((zBf ((q.fr W).ok 0 _ Z).1 B C).eq (D.g 0 Z)) underlying43 underlying5 underlying9)<|op (fun Q U W H D=>zA0 (D.g 0 Z))<|oz
 intro R w m n p d j
 obtain ⟨u17,h2,f_u17⟩:∃ u,R 2=u∧Rep eStr A w u (strB s4):=⟨_,Z,p 2 _ _ Z Z Z⟩
 replace q:=q.fr m
 replace q:IniOK [] A w:=q.sub [] N
 refine HT.ret ?_
 obtain rfl:=si c
 exact ⟨.inr Z,[R 2],⟨Z,N⟩,(f_u17.eq h2).down B,j⟩
def zBn (fu:Nat) (p0:Int):Option (List UInt8):=
 cl true (zLg fu p0) fun x1=>
 some x1
theorem zDc {fu : Nat} {A : Av} {p0 : Int} {r : List UInt8} (c : zBn fu p0 = some r) {w : World} {v0 : Value} (d : AvOK A w) (hG : GTab w) (h0 : v0 = .int .i64 p0) :
 Calls prog 73 #[v0] w fun e w'=>∃ v,e = .returned v∧(Rep eStr A w' v r∧Fr w w'):=by
 unfold zBn at c
 obtain ⟨w0,hw0,j⟩:=pf w
 rw [fw hw0]
 have hG0:GTab w0:=hw0 ▸ hG
 refine zA5 [.tmp 2] func73 ntmps73 (by decide) Z Z (nb Z) ?_
 intro R hR
 replace h0:R 0 = .int .i64 p0:=(hR 0 _ Z).trans h0
 refine HT.su d j (eF (.rep eStr A ([]:List UInt8))::[]) ?_ ?_
 exact op (fun Q U W H D=>zA0 ⟨_,Z,⟨_,Z,Z,by decide⟩⟩)<|oz
 intro R w m n p d j
 replace h0:=k1 n h0
 obtain ⟨x1,q2,c⟩:=zA4 c
 refine HT.su d j (eI p0::eF (.rep eStr A x1)::eF (.rep eStr A x1)::[]) ?_ ?_
 exact om h0<|op (fun Q U W H D=>zAC call105 (zLf (q2 Z) (d.fr W.size) (hG0.fr (j.trans W)) (D.g 0 Z)))<|op (fun Q U W H D=>zA0 (D.g 0 Z))<|oz
 intro R w m n p d j
 obtain ⟨u3,h2,f_u3⟩:∃ u,R 2=u∧Rep eStr A w u x1:=⟨_,Z,p 2 _ _ Z Z Z⟩
 refine HT.ret ?_
 obtain rfl:=si c
 exact ⟨.inr Z,[R 2],⟨Z,N⟩,(f_u3.eq h2),j⟩
def zD7 (fu:Nat) (p0:List UInt8):Option (Int × Bool):=
 cl true (zM0 fu p0) fun x1=>
 cl (true&&(x1.2==false)) (zBn fu x1.1) fun x4=>
 bd (x1.2 || (!(x4==p0))) fun x6=>
 cl (true&&(x6==false)) (zBh fu x1.1 (-999999999) 999999999) fun x8=>
 bd (x6 || (!x8)) fun x10=>
 bif x10 then (
 some (0,false)
 ) else (
 some (x1.1,true)
 )
theorem zGb {fu : Nat} {A : Av} {p0 : List UInt8} {r : Int × Bool} (c : zD7 fu p0 = some r) {w : World} {v0 : Value} (d : AvOK A w) (hG : GTab w) (h0 : Rep eStr A w v0 p0) :
 Calls prog 102 #[v0] w fun e w'=>∃ v,e = .returned v∧((∃ a b,v = .tuple #[a,b]∧a = .int .i64 r.1∧b = .bool r.2)∧Fr w w'):=by
 unfold zD7 at c
 obtain ⟨w0,hw0,j⟩:=pf w
 rw [fw hw0]
 have hG0:GTab w0:=hw0 ▸ hG
 refine zA5 [.tmp 2,.tmp 3] func102 ntmps102 (by decide) Z Z (nb Z) ?_
 intro R hR
 have f_v0:=h0
 replace h0:R 0=v0:=hR 0 _ Z
 refine HT.su d j (eI 0::eB false::[]) ?_ ?_
 exact op (fun Q U W H D=>zA0 Z)<|op (fun Q U W H D=>zA0 Z)<|oz
 intro R w m n p d j
 replace h0:=k1 n h0
 replace f_v0:=f_v0.fr m
 obtain ⟨x1,q2,c⟩:=zA4 c
 refine HT.su d j (eR v0::eF (.tup2 (.raw (.int .i64 x1.1)) (.rep eErr A x1.2))::eF (.tup2 (.raw (.int .i64 x1.1)) (.rep eErr A x1.2))::eI x1.1::eF (.rep eErr A x1.2)::eI x1.1::eF (.rep eErr A x1.2)::[]) ?_ ?_
 exact om h0<|op (fun Q U W H D=>zAC call132 (zLO (q2 Z) (d.fr W.size) (hG0.fr (j.trans W)) ((f_v0.fr W).eq (D.g 0 Z))))<|op (fun Q U W H D=>zC1 (D.g 0 Z))<|op (fun Q U W H D=>zF1 (D.g 0 Z))<|op (fun Q U W H D=>zEz (D.g 0 Z))<|oa<|op (fun Q U W H D=>zA0 (D.g 0 Z))<|oz
 intro R w m n p d j
 replace h0:=k1 n h0
 have h4:=p.r 5 Z
 obtain ⟨u3,h5,f_u3⟩:∃ u,R 5=u∧Rep eErr A w u x1.2:=⟨_,Z,p 6 _ _ Z Z Z⟩
 replace f_v0:=f_v0.fr m
 refine HT.seq ?_
 refine HT.seq ?_
 obtain ⟨x4,q5,c⟩:=zA4 c
 obtain ⟨x6,q7,c⟩:=zAW c
 obtain ⟨x8,q9,c⟩:=zA4 c
 obtain ⟨x10,q11,c⟩:=zAW c
 refine HT.u d j (eR u3::eB x1.2::eB x1.2::gI (true&&(x1.2==false)) x1.1::gF (true&&(x1.2==false)) (.rep eStr A x4)::gR (true&&(x1.2==false)) v0::gB (true&&(x1.2==false)) (!(x4==p0))::eB x6::eB x6::gI (true&&(x6==false)) x1.1::gB (true&&(x6==false)) x8::gB (true&&(x6==false)) (!x8)::eB x10::[]) ?_ ?_
 exact om h5<|op (fun Q U W H D=>zKc ((f_u3.fr W).eq (D.g 0 Z)) (by kernel_rfl))<|ov<|gm 2 false h4<|og 2 false (fun G Q U W H D=>zAC call73 (zDc (q5 G) (d.fr W.size) (hG0.fr (j.trans W)) (D.h 0 G Z)))<|gm 2 false h0<|og 2 false (fun G Q U W H D=>zF2 (D.h 0 G Z) ((f_v0.fr W).eq (D.h 1 G Z)))<|op (fun Q U W H D=>zAc x1.2 (D.g 0 Z) (fun hc=>by show _=Value.bool x6;rw [q7,hc];exact Z) (fun hc=>by have a2:Q 17 = .bool (!(x4==p0)):=D 1 _ _ _ Z Z Z Z (zC5 Z (zB5 hc));show _=Value.bool x6;rw [q7,hc];exact a2))<|ov<|gm 8 false h4<|og 8 false (fun G Q U W H D=>zAC call89 (zCS (q9 G) (d.fr W.size) (D.h 0 G Z) Z Z))<|og 8 false (fun G Q U W H D=>zCk (D.h 0 G Z))<|op (fun Q U W H D=>zAc x6 (D.g 0 Z) (fun hc=>by show _=Value.bool x10;rw [q11,hc];exact Z) (fun hc=>by have a2:Q 22 = .bool (!x8):=D 1 _ _ _ Z Z Z Z (zC5 Z (zB5 hc));show _=Value.bool x10;rw [q11,hc];exact a2))<|oz
 intro R w m n p d j
 replace h4:=k1 n h4
 have h23:=p.r 12 Z
 refine HT.cond x10 h23 (fun c12=>?_) (fun c12=>?_)
 have c:=zAH c12 c
 refine HT.su d j (eI 0::eB false::[]) ?_ ?_
 exact op (fun Q U W H D=>zA0 Z)<|op (fun Q U W H D=>zA0 Z)<|oz
 intro R w m n p d j
 have h2:=p.r 0 Z
 have h3:=p.r 1 Z
 refine HT.ret ?_
 obtain rfl:=si c
 exact ⟨.inr Z,[R 2,R 3],⟨Z,⟨Z,N⟩⟩,⟨_,_,Z,h2,h3⟩,j⟩
 have c:=zAG c12 c
 refine HT.skip ?_
 refine HT.su d j (eI x1.1::eI x1.1::eB true::[]) ?_ ?_
 exact om h4<|oa<|op (fun Q U W H D=>zA0 Z)<|oz
 intro R w m n p d j
 have h2:=p.r 1 Z
 have h3:=p.r 2 Z
 refine HT.ret ?_
 obtain rfl:=si c
 exact ⟨.inr Z,[R 2,R 3],⟨Z,⟨Z,N⟩⟩,⟨_,_,Z,h2,h3⟩,j⟩
def zBl (fu:Nat) (p0:List UInt8):Option Int:=
 cl true (zD7 fu p0) fun x1=>
 cl (true&&(x1.2==true)) (zBh fu x1.1 1000 9999) fun x3=>
 bd (x1.2&&x3) fun x5=>
 bif x5 then (
 some x1.1
 ) else (
 some 0
 )
theorem zES {fu : Nat} {A : Av} {p0 : List UInt8} {r : Int} (c : zBl fu p0 = some r) {w : World} {v0 : Value} (d : AvOK A w) (hG : GTab w) (h0 : Rep eStr A w v0 p0) :
 Calls prog 71 #[v0] w fun e w'=>∃ v,e = .returned v∧(v = .int .i64 r∧Fr w w'):=by
 unfold zBl at c
 obtain ⟨w0,hw0,j⟩:=pf w
 rw [fw hw0]
 have hG0:GTab w0:=hw0 ▸ hG
 refine zA5 [.tmp 2] func71 ntmps71 (by decide) Z Z (nb Z) ?_
 intro R hR
 have f_v0:=h0
 replace h0:R 0=v0:=hR 0 _ Z
 refine HT.su d j (eI 0::[]) ?_ ?_
 exact op (fun Q U W H D=>zA0 Z)<|oz
 intro R w m n p d j
 replace h0:=k1 n h0
 replace f_v0:=f_v0.fr m
 refine HT.seq ?_
 obtain ⟨x1,q2,c⟩:=zA4 c
 refine HT.su d j (eR v0::eF (.tup2 (.raw (.int .i64 x1.1)) (.raw (.bool x1.2)))::eF (.tup2 (.raw (.int .i64 x1.1)) (.raw (.bool x1.2)))::eI x1.1::eB x1.2::eI x1.1::eB x1.2::[]) ?_ ?_
 exact om h0<|op (fun Q U W H D=>zAC call102 (zGb (q2 Z) (d.fr W.size) (hG0.fr (j.trans W)) ((f_v0.fr W).eq (D.g 0 Z))))<|op (fun Q U W H D=>zC1 (D.g 0 Z))<|op (fun Q U W H D=>zF1 (D.g 0 Z))<|op (fun Q U W H D=>zEz (D.g 0 Z))<|oa<|oa<|oz
 intro R w m n p d j
 have h3:=p.r 5 Z
 have h4:=p.r 6 Z
 refine HT.seq ?_
 obtain ⟨x3,q4,c⟩:=zA4 c
 obtain ⟨x5,q6,c⟩:=zAW c
 refine HT.u d j (eB x1.2::eB x1.2::gI (true&&(x1.2==true)) x1.1::gB (true&&(x1.2==true)) x3::eB x5::[]) ?_ ?_
 exact om h4<|ov<|gm 1 true h3<|og 1 true (fun G Q U W H D=>zAC call89 (zCS (q4 G) (d.fr W.size) (D.h 0 G Z) Z Z))<|op (fun Q U W H D=>zAc x1.2 (D.g 0 Z) (fun hc=>by have a1:Q 13 = .bool x3:=D 1 _ _ _ Z Z Z Z (zC5 Z (zB5 hc));show _=Value.bool x5;rw [q6,hc];exact a1) (fun hc=>by show _=Value.bool x5;rw [q6,hc];exact Z))<|oz
 intro R w m n p d j
 replace h3:=k1 n h3
 have h14:=p.r 4 Z
 refine HT.cond x5 h14 (fun c7=>?_) (fun c7=>?_)
 have c:=zAH c7 c
 refine HT.su d j (eI x1.1::eI x1.1::[]) ?_ ?_
 exact om h3<|oa<|oz
 intro R w m n p d j
 have h2:=p.r 1 Z
 refine HT.ret ?_
 obtain rfl:=si c
 exact ⟨.inr Z,[R 2],⟨Z,N⟩,h2,j⟩
 have c:=zAG c7 c
 refine HT.skip ?_
 refine HT.su d j (eI 0::[]) ?_ ?_
 exact op (fun Q U W H D=>zA0 Z)<|oz
 intro R w m n p d j
 have h2:=p.r 0 Z
 refine HT.ret ?_
 obtain rfl:=si c
 exact ⟨.inr Z,[R 2],⟨Z,N⟩,h2,j⟩
def zBa (fu : Nat) (x4 : List (List UInt8)) : Nat → Int → (List (List UInt8)) → Option (List (List UInt8))
 | 0,_,_=>none
 | k+1,y10,y11=>
 bif (decide (y10<(x4.length:Int))) then (
 ck (inR y10 x4.length) <|
 ck (zBE (([115]:List UInt8)++(gtD x4 y10)).length) <|
 ck (zBE (y11.length+([(([115]:List UInt8)++(gtD x4 y10))]:List (List UInt8)).length)) <|
 ck (i64B (y10+1)) <|
 zBa fu x4 k (y10+1) (y11++([(([115]:List UInt8)++(gtD x4 y10))]:List (List UInt8)))
 ) else (
 some y11
 )
def zBI (fu : Nat) (x33 : Int) (x37 : List (List UInt8)) : Nat → Int → (List (List UInt8)) → Option (List (List UInt8))
 | 0,_,_=>none
 | k+1,y43,y44=>
 bif (decide (y43<(x37.length:Int))) then (
 ck (inR y43 x37.length) <|
 cl true (zBn fu x33) fun x48=>
 ck (zBE (([121]:List UInt8)++x48).length) <|
 ck (subR 0 1 (gtD x37 y43).length) <|
 ck (zBE ((([121]:List UInt8)++x48)++(subL (gtD x37 y43) 0 1)).length) <|
 ck (zBE (y44.length+([((([121]:List UInt8)++x48)++(subL (gtD x37 y43) 0 1))]:List (List UInt8)).length)) <|
 ck (i64B (y43+1)) <|
 zBI fu x33 x37 k (y43+1) (y44++([((([121]:List UInt8)++x48)++(subL (gtD x37 y43) 0 1))]:List (List UInt8)))
 ) else (
 some y44
 )
def zBD (fu : Nat) (x66 : Int) (x70 : List (List UInt8)) : Nat → Int → (List (List UInt8)) → Option (List (List UInt8))
 | 0,_,_=>none
 | k+1,y76,y77=>
 bif (decide (y76<(x70.length:Int))) then (
 ck (inR y76 x70.length) <|
 cl true (zBn fu x66) fun x81=>
 ck (zBE (([121]:List UInt8)++x81).length) <|
 ck (subR 0 1 (gtD x70 y76).length) <|
 ck (zBE ((([121]:List UInt8)++x81)++(subL (gtD x70 y76) 0 1)).length) <|
 ck (zBE (y77.length+([((([121]:List UInt8)++x81)++(subL (gtD x70 y76) 0 1))]:List (List UInt8)).length)) <|
 ck (i64B (y76+1)) <|
 zBD fu x66 x70 k (y76+1) (y77++([((([121]:List UInt8)++x81)++(subL (gtD x70 y76) 0 1))]:List (List UInt8)))
 ) else (
 some y77
 )
def zCE (fu:Nat) (p0:zA2):Option (List (List UInt8)):=
 ck (inR 0 p0.2.2.2.length) <|
 cl true (zCR fu (gtD p0.2.2.2 0)) fun x4=>
 cl true (zBa fu x4 fu 0 ([]:List (List UInt8))) fun s9=>
 ck (inR 3 p0.2.2.2.length) <|
 cl true (zDA fu (gtD p0.2.2.2 3)) fun x21=>
 bif (decide (4≤(x21.length:Int))) then (
 ck (i64B ((x21.length:Int)-4)) <|
 ck (subR ((x21.length:Int)-4) (x21.length:Int) x21.length) <|
 ck (zBE (([112]:List UInt8)++(subL x21 ((x21.length:Int)-4) (x21.length:Int))).length) <|
 ck (zBE (s9.length+([(([112]:List UInt8)++(subL x21 ((x21.length:Int)-4) (x21.length:Int)))]:List (List UInt8)).length)) <|
 ck (inR 2 p0.2.2.2.length) <|
 cl true (zBl fu (gtD p0.2.2.2 2)) fun x33=>
 bif (decide (0<x33)) then (
 ck (inR 0 p0.2.2.2.length) <|
 cl true (zCX fu (gtD p0.2.2.2 0)) fun x37=>
 cl true (zBI fu x33 x37 fu 0 (s9++([(([112]:List UInt8)++(subL x21 ((x21.length:Int)-4) (x21.length:Int)))]:List (List UInt8)))) fun s42=>
 cl true (zAw fu s42) fun x56=>
 some x56
 ) else (
 cl true (zAw fu (s9++([(([112]:List UInt8)++(subL x21 ((x21.length:Int)-4) (x21.length:Int)))]:List (List UInt8)))) fun x60=>
 some x60
 )
 ) else (
 ck (inR 2 p0.2.2.2.length) <|
 cl true (zBl fu (gtD p0.2.2.2 2)) fun x66=>
 bif (decide (0<x66)) then (
 ck (inR 0 p0.2.2.2.length) <|
 cl true (zCX fu (gtD p0.2.2.2 0)) fun x70=>
 cl true (zBD fu x66 x70 fu 0 s9) fun s75=>
 cl true (zAw fu s75) fun x89=>
 some x89
 ) else (
 cl true (zAw fu s9) fun x93=>
 some x93
 )
 )
theorem zGE {fu : Nat} {A0 : Av} {p0 : zA2} {r : List (List UInt8)} (c : zCE fu p0 = some r) {w : World} {v0 : Value} (d : AvOK A0 w) (hG : GTab w) (h0 : Rep zA1 A0 w v0 p0) :
 Calls prog 41 #[v0] w fun e w'=>∃ v,e = .returned v∧((Res.vec w.heap.size 9 eStr r).ok (addA A0 v) v w'∧Fr w w'):=by
 unfold zCE at c
 obtain ⟨w0,hw0,j,C⟩:=pw d
 have hA00:AvOK A0 w0:=C
 rw [fh hw0]
 rw [fw hw0]
 have hG0:GTab w0:=hw0 ▸ hG
 obtain ⟨A,hAe,B,d,q⟩:=pa d
 refine zA5 [.tmp 2] func41 ntmps41 (by decide) Z Z (nb Z) ?_
 intro R hR
 have f_v0:Rep zA1 A w v0 p0:=hAe ▸ h0
 replace h0:R 0=v0:=hR 0 _ Z
 refine HT.sx [] (⟨_,true,[],some (.box w0.heap.size 51 zA1 p0),true,fun A=>.any⟩::rA::[]) (ua (ua (UAll.nil))) q d ?_ ?_
 exact rc (OblR.made _ Z Z Z Z fun V Q U O D=>by have a0:Q 0=v0:=(O.old 0 Z).trans h0;have ra0:=(f_v0.stp O.stp).eq a0;exact zEO ra0 (Nat.le_trans j.size O.ch.size))<|rp (fun V Q U O D=>zA0 N)<|rz
 intro done ρ σ A R w y s
 obtain ⟨b1_0,e_b1_0⟩:=s.boxv y 0 Z Z
 have h1:=s.ov y 0 0 e_b1_0
 obtain ⟨B,j,d⟩:=s.s B C j q N
 replace q:=s.left y [(0,ob (.pointer (some ⟨b1_0,0,none⟩)) (.box w0.heap.size 51 zA1 p0))] ⟨Z,Z,e_b1_0,Z,Z,N⟩
 refine HT.su d j (eR (.slice none 0 0)::[]) ?_ ?_
 exact op (fun Q U W H D=>zA0 Z)<|oz
 intro R w m n p d j
 replace h1:=k1 n h1
 obtain ⟨u2,n_u2⟩:∃ u,u=Value.slice none 0 0:=⟨_,Z⟩
 have h3:R 3=u2:=(p 0 _ _ Z Z Z).trans n_u2.symm
 replace q:=q.fr m
 replace q:=q.nilcons (u:=u2) n_u2 w0.heap.size 9 eStr
 refine HT.seq ?_
 obtain ⟨e3,c⟩:=zA3 c
 obtain ⟨x4,q5,c⟩:=zA4 c
 refine HT.su d j (eR (.pointer (some ⟨b1_0,3,none⟩))::eF (.rep (eSl eStr) A p0.2.2.2)::eF (.qtr eStr A (gtD p0.2.2.2 0))::eF (.rep eStr A (gtD p0.2.2.2 0))::eF (.rep (eSl eStr) A x4)::eI (x4.length:Int)::eI 0::[]) ?_ ?_
 exact op (fun Q U W H D=>zA7 ((H 1 Z).trans h1) zCb sizeOf34 (by decide) Z)<|op (fun Q U W H D=>(zAE ((q.fr W).ok 1 _ Z).1 (D.g 0 Z) zAK Z isAgg34 sizeOf34))<|op (fun Q U W H D=>zAB (D.g 0 Z) Z underlying34 sizeOf9 e3)<|op (fun Q U W H D=>(zAf (QRep.ptr (D.g 0 Z)) isAgg9 sizeOf9))<|op (fun Q U W H D=>zAC call69 (zFo (q5 Z) (d.fr W.size) (hG0.fr (j.trans W)) (D.g 0 Z)))<|op (fun Q U W H D=>zAL (aT:=#[]) (D.g 0 Z) underlying34)<|op (fun Q U W H D=>zC1 Z)<|oz
 intro R w m n p d j
 obtain ⟨h1,h3⟩:=k2 n h1 h3
 obtain ⟨u6,h14,f_u6⟩:∃ u,R 14=u∧Rep (eSl eStr) A w u x4:=⟨_,Z,p 4 _ _ Z Z Z⟩
 have h15:=p.r 5 Z
 have h16:=p.r 6 Z
 replace q:=q.fr m
 obtain ⟨rl7,q8,c⟩:=zA4 c
 replace q8:=q8 Z
 refine HT.cut0 (fun R w=>∃ A:Av,∃ (s9:(List (List UInt8))) (uo_u2:Value),rl7=s9∧AvOK A w∧Fr w0 w∧(∀ b o,A0 b o→A b o)∧IniOK [ob uo_u2 (.vec w0.heap.size 9 eStr s9),ob (.pointer (some ⟨b1_0,0,none⟩)) (.box w0.heap.size 51 zA1 p0)] A w∧R 1=(.pointer (some ⟨b1_0,0,none⟩))∧R 3=uo_u2) ?_ ?_
 refine HT.block ?_
 refine HT.loop (fun k R w=>∃ A:Av,∃ (y10:Int) (y11:List (List UInt8)) (ul_u2:Value),zBa fu x4 k y10 y11=some rl7∧AvOK A w∧Fr w0 w∧(∀ b o,A0 b o→A b o)∧IniOK [ob ul_u2 (.vec w0.heap.size 9 eStr y11),ob (.pointer (some ⟨b1_0,0,none⟩)) (.box w0.heap.size 51 zA1 p0)] A w∧R 1=(.pointer (some ⟨b1_0,0,none⟩))∧R 3=ul_u2∧R 14=u6∧R 15 = .int .i64 (x4.length:Int)∧R 16 = .int .i64 y10∧Rep (eSl eStr) A w u6 x4) fu ⟨_,_,_,u2,q8,d,j,B,q,h1,h3,h14,h15,h16,f_u6⟩ ?_
 have hr0:=c;clear c q8
 rintro k R w ⟨A,y10,y11,ul_u2,c,d,j,B,q,h1,h3,h14,h15,h16,f_u6⟩
 rcases k with _ | k
 cases (show none=some _ from c)
 rw [zBa] at c
 refine HT.su d j (eB (decide (y10<(x4.length:Int)))::[]) ?_ ?_
 exact op (fun Q U W H D=>zAg ((H 16 Z).trans h16) ((H 15 Z).trans h15))<|oz
 intro R w m n p d j
 obtain ⟨h1,h3,h14,h15,h16⟩:=k5 n h1 h3 h14 h15 h16
 have h17:=p.r 0 Z
 replace f_u6:=f_u6.fr m
 replace q:=q.fr m
 refine HT.seq ?_
 refine HT.cond (decide (y10<(x4.length:Int))) h17 (fun c12=>?_) (fun c12=>?_)
 have c:=zAH c12 c
 refine HT.skip ?_
 refine HT.seq ?_
 refine HT.block ?_
 obtain ⟨e13,c⟩:=zA3 c
 refine HT.su d j (eF (.qtr eStr A (gtD x4 y10))::eF (.rep eStr A (gtD x4 y10))::eF (.rep eStr A (gtD x4 y10))::[]) ?_ ?_
 exact op (fun Q U W H D=>zAB ((f_u6.fr W).eq ((H 14 Z).trans h14)) ((H 16 Z).trans h16) underlying34 sizeOf9 e13)<|op (fun Q U W H D=>(zAf (QRep.ptr (D.g 0 Z)) isAgg9 sizeOf9))<|op (fun Q U W H D=>zA0 (D.g 0 Z))<|oz
 intro R w m n p d j
 obtain ⟨h1,h3,h14,h15,h16⟩:=k5 n h1 h3 h14 h15 h16
 obtain ⟨u14,h5,f_u14⟩:∃ u,R 5=u∧Rep eStr A w u (gtD x4 y10):=⟨_,Z,p 2 _ _ Z Z Z⟩
 replace f_u6:=f_u6.fr m
 replace q:=q.fr m
 obtain ⟨e15,e16,c⟩:=ck2 c
 refine HT.x [ob ul_u2 (.vec w0.heap.size 9 eStr y11),ob (.pointer (some ⟨b1_0,0,none⟩)) (.box w0.heap.size 51 zA1 p0)] (rR ul_u2::rR u14::(rF fun A=>.rep eStr A (([115]:List UInt8)++(gtD x4 y10)))::(rF fun A=>.rep (eSl eStr) A ([(([115]:List UInt8)++(gtD x4 y10))]:List (List UInt8)))::⟨_,true,[0],some (.vec w0.heap.size 9 eStr (y11++([(([115]:List UInt8)++(gtD x4 y10))]:List (List UInt8)))),true,fun A=>.any⟩::⟨_,true,[6],some (.vec w0.heap.size 9 eStr (y11++([(([115]:List UInt8)++(gtD x4 y10))]:List (List UInt8)))),true,fun A=>.any⟩::[]) (ur (ur (up (up (ua (ua (UAll.nil))))))) q d ?_ ?_
 exact rm h3<|rm h5<|rp (fun V Q U O D=>zDy ⟨_,Z,⟨_,Z,Z,by decide⟩⟩ ((f_u14.stp O.stp).eq (D.g 0 Z)) e15)<|rp (fun V Q U O D=>zAu [_] (E:=eStr) ⟨(D.g 0 Z),N⟩ underlying34 sizeOf9 zeroValue9 Z Z Z O.av)<|rc (OblR.took 0 _ _ Z Z Z Z Z fun V Q U O D u X Y J L M=>by have a0:Q 20=ul_u2:=D.g 0 Z;have a1:Rep (eSl eStr) V U (Q 23) ([(([115]:List UInt8)++(gtD x4 y10))]:List (List UInt8)):=D.g 1 Z;exact zAS (a0.trans (J _ Z).symm) X Y (Nat.le_trans j.size O.ch.size) a1 underlying34 el_9 e16)<|rc (OblR.took 6 _ _ Z Z Z Z Z fun V Q U O D u X Y J L M=>by exact zA8 (L _ _ Z Z Z Z).symm X Y)<|rz
 intro done ρ σ A R w y s
 obtain ⟨h1,h14,h15,h16⟩:=k4 s.rg h1 h14 h15 h16
 obtain ⟨u17,e_u17⟩:∃ u,ρ 7=u:=⟨_,Z⟩
 have h3:=s.ov y 7 5 e_u17
 have z18:=s.inivR 1 Z
 replace f_u6:=f_u6.stp s.stp
 obtain ⟨B,j,d⟩:=s.s B C j q ⟨Z,⟨Z,N⟩⟩
 replace q:=s.left y [(7,ob u17 (.vec w0.heap.size 9 eStr (y11++([(([115]:List UInt8)++(gtD x4 y10))]:List (List UInt8))))),(1,ob (.pointer (some ⟨b1_0,0,none⟩)) (.box w0.heap.size 51 zA1 p0))] ⟨Z,Z,e_u17,Z,Z,⟨Z,Z,z18,Z,Z,N⟩⟩
 obtain ⟨e19,c⟩:=zA3 c
 refine HT.u d j (eI (y10+1)::eI (y10+1)::[]) ?_ ?_
 exact op (fun Q U W H D=>zAO ((H 16 Z).trans h16) Z e19)<|ov<|oz
 intro R w m n p d j
 obtain ⟨h1,h3,h14,h15⟩:=k4 n h1 h3 h14 h15
 have h16:=p.r 1 Z
 replace f_u6:=f_u6.fr m
 replace q:=q.fr m
 exact ei k (And.intro (Nat.lt_succ_self k) ⟨_,_,_,u17,c,d,j,B,q,h1,h3,h14,h15,h16,f_u6⟩)
 have c:=zAG c12 c
 refine HT.exit ?_
 obtain rfl:=si c
 exact ei _ ⟨_,ul_u2,Z,d,j,B,q,h1,h3⟩
 rintro R w ⟨A,s9,uo_u2,es,d,j,B,q,h1,h3⟩
 obtain rfl:=es.symm
 refine HT.seq ?_
 obtain ⟨e20,c⟩:=zA3 c
 obtain ⟨x21,q22,c⟩:=zA4 c
 refine HT.su d j (eR (.pointer (some ⟨b1_0,3,none⟩))::eF (.rep (eSl eStr) A p0.2.2.2)::eF (.qtr eStr A (gtD p0.2.2.2 3))::eF (.rep eStr A (gtD p0.2.2.2 3))::eF (.rep eStr A x21)::eF (.rep eStr A x21)::[]) ?_ ?_
 exact op (fun Q U W H D=>zA7 ((H 1 Z).trans h1) zCb sizeOf34 (by decide) Z)<|op (fun Q U W H D=>(zAE ((q.fr W).ok 1 _ Z).1 (D.g 0 Z) zAK Z isAgg34 sizeOf34))<|op (fun Q U W H D=>zAB (D.g 0 Z) Z underlying34 sizeOf9 e20)<|op (fun Q U W H D=>(zAf (QRep.ptr (D.g 0 Z)) isAgg9 sizeOf9))<|op (fun Q U W H D=>zAC call70 (zGR (q22 Z) (d.fr W.size) (D.g 0 Z)))<|op (fun Q U W H D=>zA0 (D.g 0 Z))<|oz
 intro R w m n p d j
 obtain ⟨h1,h3⟩:=k2 n h1 h3
 obtain ⟨u23,h6,f_u23⟩:∃ u,R 6=u∧Rep eStr A w u x21:=⟨_,Z,p 5 _ _ Z Z Z⟩
 replace q:=q.fr m
 refine HT.su d j (eR u23::eI (x21.length:Int)::eB (decide (4≤(x21.length:Int)))::[]) ?_ ?_
 exact om h6<|op (fun Q U W H D=>zAd ((f_u23.fr W).eq (D.g 0 Z)) underlying9)<|op (fun Q U W H D=>zDj (D.g 0 Z) Z)<|oz
 intro R w m n p d j
 obtain ⟨h1,h3,h6⟩:=k3 n h1 h3 h6
 have h33:=p.r 2 Z
 replace f_u23:=f_u23.fr m
 replace q:=q.fr m
 refine HT.cond (decide (4≤(x21.length:Int))) h33 (fun c24=>?_) (fun c24=>?_)
 have c:=zAH c24 c
 obtain ⟨e25,e26,e27,e28,c⟩:=ck4 c
 refine HT.x [ob uo_u2 (.vec w0.heap.size 9 eStr s9),ob (.pointer (some ⟨b1_0,0,none⟩)) (.box w0.heap.size 51 zA1 p0)] (rR uo_u2::rR u23::rR u23::rI (x21.length:Int)::rI ((x21.length:Int)-4)::(rF fun A=>.rep eStr A (subL x21 ((x21.length:Int)-4) (x21.length:Int)))::(rF fun A=>.rep eStr A (([112]:List UInt8)++(subL x21 ((x21.length:Int)-4) (x21.length:Int))))::(rF fun A=>.rep (eSl eStr) A ([(([112]:List UInt8)++(subL x21 ((x21.length:Int)-4) (x21.length:Int)))]:List (List UInt8)))::⟨_,true,[0],some (.vec w0.heap.size 9 eStr (s9++([(([112]:List UInt8)++(subL x21 ((x21.length:Int)-4) (x21.length:Int)))]:List (List UInt8)))),true,fun A=>.any⟩::⟨_,true,[10],some (.vec w0.heap.size 9 eStr (s9++([(([112]:List UInt8)++(subL x21 ((x21.length:Int)-4) (x21.length:Int)))]:List (List UInt8)))),true,fun A=>.any⟩::[]) (ur (ur (ur (ur (ur (up (up (up (ua (ua (UAll.nil))))))))))) q d ?_ ?_
 exact rm h3<|rm h6<|rm h6<|rp (fun V Q U O D=>zAd ((f_u23.stp O.stp).eq (D.g 0 Z)) underlying9)<|rp (fun V Q U O D=>zFR (D.g 0 Z) Z e25)<|rp (fun V Q U O D=>zDn ((f_u23.stp O.stp).eq (D.g 0 Z)) (D.g 1 Z) underlying9  e26)<|rp (fun V Q U O D=>zDy ⟨_,Z,⟨_,Z,Z,by decide⟩⟩ (D.g 0 Z) e27)<|rp (fun V Q U O D=>zAu [_] (E:=eStr) ⟨(D.g 0 Z),N⟩ underlying34 sizeOf9 zeroValue9 Z Z Z O.av)<|rc (OblR.took 0 _ _ Z Z Z Z Z fun V Q U O D u X Y J L M=>by have a0:Q 34=uo_u2:=D.g 0 Z;have a1:Rep (eSl eStr) V U (Q 41) ([(([112]:List UInt8)++(subL x21 ((x21.length:Int)-4) (x21.length:Int)))]:List (List UInt8)):=D.g 1 Z;exact zAS (a0.trans (J _ Z).symm) X Y (Nat.le_trans j.size O.ch.size) a1 underlying34 el_9 e28)<|rc (OblR.took 10 _ _ Z Z Z Z Z fun V Q U O D u X Y J L M=>by exact zA8 (L _ _ Z Z Z Z).symm X Y)<|rz
 intro done ρ σ A R w y s
 replace h1:=k1 s.rg h1
 obtain ⟨u29,e_u29⟩:∃ u,ρ 11=u:=⟨_,Z⟩
 have h3:=s.ov y 11 9 e_u29
 have z30:=s.inivR 1 Z
 obtain ⟨B,j,d⟩:=s.s B C j q ⟨Z,⟨Z,N⟩⟩
 replace q:=s.left y [(11,ob u29 (.vec w0.heap.size 9 eStr (s9++([(([112]:List UInt8)++(subL x21 ((x21.length:Int)-4) (x21.length:Int)))]:List (List UInt8))))),(1,ob (.pointer (some ⟨b1_0,0,none⟩)) (.box w0.heap.size 51 zA1 p0))] ⟨Z,Z,e_u29,Z,Z,⟨Z,Z,z30,Z,Z,N⟩⟩
 obtain ⟨Yg30,g_Yg30⟩:∃ z:List (List UInt8),z=(s9++([(([112]:List UInt8)++(subL x21 ((x21.length:Int)-4) (x21.length:Int)))]:List (List UInt8))):=⟨_,Z⟩
 rw [← g_Yg30] at q
 try rw [← g_Yg30] at c
 refine HT.seq ?_
 obtain ⟨e32,c⟩:=zA3 c
 obtain ⟨x33,q34,c⟩:=zA4 c
 refine HT.su d j (eR (.pointer (some ⟨b1_0,3,none⟩))::eF (.rep (eSl eStr) A p0.2.2.2)::eF (.qtr eStr A (gtD p0.2.2.2 2))::eF (.rep eStr A (gtD p0.2.2.2 2))::eI x33::eI x33::[]) ?_ ?_
 exact op (fun Q U W H D=>zA7 ((H 1 Z).trans h1) zCb sizeOf34 (by decide) Z)<|op (fun Q U W H D=>(zAE ((q.fr W).ok 1 _ Z).1 (D.g 0 Z) zAK Z isAgg34 sizeOf34))<|op (fun Q U W H D=>zAB (D.g 0 Z) Z underlying34 sizeOf9 e32)<|op (fun Q U W H D=>(zAf (QRep.ptr (D.g 0 Z)) isAgg9 sizeOf9))<|op (fun Q U W H D=>zAC call71 (zES (q34 Z) (d.fr W.size) (hG0.fr (j.trans W)) (D.g 0 Z)))<|oa<|oz
 intro R w m n p d j
 obtain ⟨h1,h3⟩:=k2 n h1 h3
 have h7:=p.r 5 Z
 replace q:=q.fr m
 refine HT.su d j (eI x33::eB (decide (0<x33))::[]) ?_ ?_
 exact om h7<|op (fun Q U W H D=>zDz (D.g 0 Z) Z)<|oz
 intro R w m n p d j
 obtain ⟨h1,h3,h7⟩:=k3 n h1 h3 h7
 have h49:=p.r 1 Z
 replace q:=q.fr m
 refine HT.cond (decide (0<x33)) h49 (fun c35=>?_) (fun c35=>?_)
 have c:=zAH c35 c
 obtain ⟨e36,c⟩:=zA3 c
 obtain ⟨x37,q38,c⟩:=zA4 c
 refine HT.su d j (eR (.pointer (some ⟨b1_0,3,none⟩))::eF (.rep (eSl eStr) A p0.2.2.2)::eF (.qtr eStr A (gtD p0.2.2.2 0))::eF (.rep eStr A (gtD p0.2.2.2 0))::eF (.rep (eSl eStr) A x37)::eI (x37.length:Int)::eI 0::[]) ?_ ?_
 exact op (fun Q U W H D=>zA7 ((H 1 Z).trans h1) zCb sizeOf34 (by decide) Z)<|op (fun Q U W H D=>(zAE ((q.fr W).ok 1 _ Z).1 (D.g 0 Z) zAK Z isAgg34 sizeOf34))<|op (fun Q U W H D=>zAB (D.g 0 Z) Z underlying34 sizeOf9 e36)<|op (fun Q U W H D=>(zAf (QRep.ptr (D.g 0 Z)) isAgg9 sizeOf9))<|op (fun Q U W H D=>zAC call72 (zE0 (q38 Z) (d.fr W.size) (hG0.fr (j.trans W)) (D.g 0 Z)))<|op (fun Q U W H D=>zAL (aT:=#[]) (D.g 0 Z) underlying34)<|op (fun Q U W H D=>zC1 Z)<|oz
 intro R w m n p d j
 obtain ⟨h3,h7⟩:=k2 n h3 h7
 obtain ⟨u39,h54,f_u39⟩:∃ u,R 54=u∧Rep (eSl eStr) A w u x37:=⟨_,Z,p 4 _ _ Z Z Z⟩
 have h55:=p.r 5 Z
 have h56:=p.r 6 Z
 replace q:=q.fr m
 replace q:IniOK [ob u29 (.vec w0.heap.size 9 eStr Yg30)] A w:=q.sub [(0,ob u29 (.vec w0.heap.size 9 eStr Yg30))] ⟨Z,Z,N⟩
 obtain ⟨rl40,q41,c⟩:=zA4 c
 replace q41:=q41 Z
 refine HT.cut0 (fun R w=>∃ A:Av,∃ (s42:(List (List UInt8))) (uo_u29:Value),rl40=s42∧AvOK A w∧Fr w0 w∧(∀ b o,A0 b o→A b o)∧IniOK [ob uo_u29 (.vec w0.heap.size 9 eStr s42)] A w∧R 3=uo_u29) ?_ ?_
 refine HT.block ?_
 refine HT.loop (fun k R w=>∃ A:Av,∃ (y43:Int) (y44:List (List UInt8)) (ul_u29:Value),zBI fu x33 x37 k y43 y44=some rl40∧AvOK A w∧Fr w0 w∧(∀ b o,A0 b o→A b o)∧IniOK [ob ul_u29 (.vec w0.heap.size 9 eStr y44)] A w∧R 3=ul_u29∧R 7 = .int .i64 x33∧R 54=u39∧R 55 = .int .i64 (x37.length:Int)∧R 56 = .int .i64 y43∧Rep (eSl eStr) A w u39 x37) fu ⟨_,_,_,u29,q41,d,j,B,q,h3,h7,h54,h55,h56,f_u39⟩ ?_
 have hr0:=c;clear c q41
 rintro k R w ⟨A,y43,y44,ul_u29,c,d,j,B,q,h3,h7,h54,h55,h56,f_u39⟩
 rcases k with _ | k
 cases (show none=some _ from c)
 rw [zBI] at c
 refine HT.su d j (eB (decide (y43<(x37.length:Int)))::[]) ?_ ?_
 exact op (fun Q U W H D=>zAg ((H 56 Z).trans h56) ((H 55 Z).trans h55))<|oz
 intro R w m n p d j
 obtain ⟨h3,h7,h54,h55,h56⟩:=k5 n h3 h7 h54 h55 h56
 have h57:=p.r 0 Z
 replace f_u39:=f_u39.fr m
 replace q:=q.fr m
 refine HT.seq ?_
 refine HT.cond (decide (y43<(x37.length:Int))) h57 (fun c45=>?_) (fun c45=>?_)
 have c:=zAH c45 c
 refine HT.skip ?_
 refine HT.seq ?_
 refine HT.block ?_
 obtain ⟨e46,c⟩:=zA3 c
 refine HT.su d j (eF (.qtr eStr A (gtD x37 y43))::eF (.rep eStr A (gtD x37 y43))::eF (.rep eStr A (gtD x37 y43))::[]) ?_ ?_
 exact op (fun Q U W H D=>zAB ((f_u39.fr W).eq ((H 54 Z).trans h54)) ((H 56 Z).trans h56) underlying34 sizeOf9 e46)<|op (fun Q U W H D=>(zAf (QRep.ptr (D.g 0 Z)) isAgg9 sizeOf9))<|op (fun Q U W H D=>zA0 (D.g 0 Z))<|oz
 intro R w m n p d j
 obtain ⟨h3,h7,h54,h55,h56⟩:=k5 n h3 h7 h54 h55 h56
 obtain ⟨u47,h9,f_u47⟩:∃ u,R 9=u∧Rep eStr A w u (gtD x37 y43):=⟨_,Z,p 2 _ _ Z Z Z⟩
 replace f_u39:=f_u39.fr m
 replace q:=q.fr m
 obtain ⟨x48,q49,c⟩:=zA4 c
 obtain ⟨e50,e51,e52,e53,c⟩:=ck4 c
 refine HT.drawR [ob ul_u29 (.vec w0.heap.size 9 eStr y44)] (rR ul_u29::rI x33::(rF fun A=>.rep eStr A x48)::(rF fun A=>.rep eStr A (([121]:List UInt8)++x48))::rR u47::(rF fun A=>.rep eStr A (subL (gtD x37 y43) 0 1))::(rF fun A=>.rep eStr A ((([121]:List UInt8)++x48)++(subL (gtD x37 y43) 0 1)))::(rF fun A=>.rep (eSl eStr) A ([((([121]:List UInt8)++x48)++(subL (gtD x37 y43) 0 1))]:List (List UInt8)))::⟨_,true,[0],some (.vec w0.heap.size 9 eStr (y44++([((([121]:List UInt8)++x48)++(subL (gtD x37 y43) 0 1))]:List (List UInt8)))),true,fun A=>.any⟩::⟨_,true,[9],some (.vec w0.heap.size 9 eStr (y44++([((([121]:List UInt8)++x48)++(subL (gtD x37 y43) 0 1))]:List (List UInt8)))),true,fun A=>.any⟩::[]) (by kernel_rfl) (by kernel_rfl) (by kernel_rfl) (Wf.mk' (by kernel_rfl) (ur (ur (up (up (ur (up (up (up (ua (ua (UAll.nil))))))))))) (by kernel_rfl) (by kernel_rfl)) q d ?_ ?_
 exact rm h3<|rm h7<|rp (fun V Q U O D=>zAC call73 (zDc (q49 Z) O.av (hG0.fr (j.tr O.ch (q.ge (⟨Z,N⟩)))) (D.g 0 Z)))<|rp (fun V Q U O D=>zDy ⟨_,Z,⟨_,Z,Z,by decide⟩⟩ (D.g 0 Z) e50)<|rm h9<|rp (fun V Q U O D=>zC2 ((f_u47.stp O.stp).eq (D.g 0 Z)) Z underlying9  e51)<|rp (fun V Q U O D=>zDy (D.g 0 Z) (D.g 1 Z) e52)<|rp (fun V Q U O D=>zAu [_] (E:=eStr) ⟨(D.g 0 Z),N⟩ underlying34 sizeOf9 zeroValue9 Z Z Z O.av)<|rc (OblR.took 0 _ _ Z Z Z Z Z fun V Q U O D u X Y J L M=>by have a0:Q 60=ul_u29:=D.g 0 Z;have a1:Rep (eSl eStr) V U (Q 67) ([((([121]:List UInt8)++x48)++(subL (gtD x37 y43) 0 1))]:List (List UInt8)):=D.g 1 Z;exact zAS (a0.trans (J _ Z).symm) X Y (Nat.le_trans j.size O.ch.size) a1 underlying34 el_9 e53)<|rc (OblR.took 9 _ _ Z Z Z Z Z fun V Q U O D u X Y J L M=>by exact zA8 (L _ _ Z Z Z Z).symm X Y)<|rz
 intro done ρ σ A R w y s
 obtain ⟨h7,h54,h55,h56⟩:=k4 s.rg h7 h54 h55 h56
 obtain ⟨u54,e_u54⟩:∃ u,ρ 10=u:=⟨_,Z⟩
 have h3:=s.ov y 10 9 e_u54
 replace f_u39:=f_u39.stp s.stp
 obtain ⟨B,j,d⟩:=s.s B C j q ⟨Z,N⟩
 replace q:=s.left y [(10,ob u54 (.vec w0.heap.size 9 eStr (y44++([((([121]:List UInt8)++x48)++(subL (gtD x37 y43) 0 1))]:List (List UInt8)))))] ⟨Z,Z,e_u54,Z,Z,N⟩
 obtain ⟨e55,c⟩:=zA3 c
 refine HT.u d j (eI (y43+1)::eI (y43+1)::[]) ?_ ?_
 exact op (fun Q U W H D=>zAO ((H 56 Z).trans h56) Z e55)<|ov<|oz
 intro R w m n p d j
 obtain ⟨h3,h7,h54,h55⟩:=k4 n h3 h7 h54 h55
 have h56:=p.r 1 Z
 replace f_u39:=f_u39.fr m
 replace q:=q.fr m
 exact ei k (And.intro (Nat.lt_succ_self k) ⟨_,_,_,u54,c,d,j,B,q,h3,h7,h54,h55,h56,f_u39⟩)
 have c:=zAG c45 c
 refine HT.exit ?_
 obtain rfl:=si c
 exact ei _ ⟨_,ul_u29,Z,d,j,B,q,h3⟩
 rintro R w ⟨A,s42,uo_u29,es,d,j,B,q,h3⟩
 obtain rfl:=es.symm
 obtain ⟨x56,q57,c⟩:=zA4 c
 refine HT.sx [ob uo_u29 (.vec w0.heap.size 9 eStr s42)] (rR uo_u29::⟨_,true,[],some (.vec w0.heap.size 9 eStr x56),true,fun A=>.any⟩::⟨_,true,[2],some (.vec w0.heap.size 9 eStr x56),true,fun A=>.any⟩::[]) (ur (ua (ua (UAll.nil)))) q d ?_ ?_
 exact rm h3<|rc (OblR.made _ Z Z Z Z fun V Q U O D=>by have a0:Q 70=uo_u29:=D.g 0 Z;have ra0:=(zBf (O.rd 0 _ Z Z) (O.low' B C (q.ge (⟨Z,N⟩))) C).eq a0;exact zE3 call42 (zBX (q57 Z) (hA00.fr ((Nat.le_trans j.size O.ch.size))) ra0) (Nat.le_trans j.size O.ch.size) (O.low' B C (q.ge (⟨Z,N⟩))) (fun _ _ _ _ _ h=>h))<|rc (OblR.took 2 _ _ Z Z Z Z Z fun V Q U O D u X Y J L M=>by exact zA8 (L _ _ Z Z Z Z).symm X Y)<|rz
 intro done ρ σ A R w y s
 have z58:=s.inivR 0 Z
 obtain ⟨u59,e_u59⟩:∃ u,ρ 3=u:=⟨_,Z⟩
 have h2:=s.ov y 3 2 e_u59
 obtain ⟨B,j,d⟩:=s.s B C j q ⟨Z,N⟩
 replace q:=s.left y [(3,ob u59 (.vec w0.heap.size 9 eStr x56))] ⟨Z,Z,e_u59,Z,Z,N⟩
 refine HT.ret ?_
 obtain rfl:=si c
 exact ⟨.inr Z,[R 2],⟨Z,N⟩,(zBu (q.ok 0 _ Z) B h2),j⟩
 have c:=zAG c35 c
 refine HT.skip ?_
 obtain ⟨x60,q61,c⟩:=zA4 c
 refine HT.sx [ob u29 (.vec w0.heap.size 9 eStr Yg30),ob (.pointer (some ⟨b1_0,0,none⟩)) (.box w0.heap.size 51 zA1 p0)] (rR u29::⟨_,true,[],some (.vec w0.heap.size 9 eStr x60),true,fun A=>.any⟩::⟨_,true,[3],some (.vec w0.heap.size 9 eStr x60),true,fun A=>.any⟩::[]) (ur (ua (ua (UAll.nil)))) q d ?_ ?_
 exact rm h3<|rc (OblR.made _ Z Z Z Z fun V Q U O D=>by have a0:Q 70=u29:=D.g 0 Z;have ra0:=(zBf (O.rd 0 _ Z Z) (O.low' B C (q.ge (⟨Z,⟨Z,N⟩⟩))) C).eq a0;exact zE3 call42 (zBX (q61 Z) (hA00.fr ((Nat.le_trans j.size O.ch.size))) ra0) (Nat.le_trans j.size O.ch.size) (O.low' B C (q.ge (⟨Z,⟨Z,N⟩⟩))) (fun _ _ _ _ _ h=>h))<|rc (OblR.took 3 _ _ Z Z Z Z Z fun V Q U O D u X Y J L M=>by exact zA8 (L _ _ Z Z Z Z).symm X Y)<|rz
 intro done ρ σ A R w y s
 have z62:=s.inivR 0 Z
 have z63:=s.inivR 1 Z
 obtain ⟨u64,e_u64⟩:∃ u,ρ 4=u:=⟨_,Z⟩
 have h2:=s.ov y 4 2 e_u64
 obtain ⟨B,j,d⟩:=s.s B C j q ⟨Z,⟨Z,N⟩⟩
 replace q:=s.left y [(4,ob u64 (.vec w0.heap.size 9 eStr x60))] ⟨Z,Z,e_u64,Z,Z,N⟩
 refine HT.ret ?_
 obtain rfl:=si c
 exact ⟨.inr Z,[R 2],⟨Z,N⟩,(zBu (q.ok 0 _ Z) B h2),j⟩
 have c:=zAG c24 c
 refine HT.skip ?_
 refine HT.seq ?_
 obtain ⟨e65,c⟩:=zA3 c
 obtain ⟨x66,q67,c⟩:=zA4 c
 refine HT.su d j (eR (.pointer (some ⟨b1_0,3,none⟩))::eF (.rep (eSl eStr) A p0.2.2.2)::eF (.qtr eStr A (gtD p0.2.2.2 2))::eF (.rep eStr A (gtD p0.2.2.2 2))::eI x66::eI x66::[]) ?_ ?_
 exact op (fun Q U W H D=>zA7 ((H 1 Z).trans h1) zCb sizeOf34 (by decide) Z)<|op (fun Q U W H D=>(zAE ((q.fr W).ok 1 _ Z).1 (D.g 0 Z) zAK Z isAgg34 sizeOf34))<|op (fun Q U W H D=>zAB (D.g 0 Z) Z underlying34 sizeOf9 e65)<|op (fun Q U W H D=>(zAf (QRep.ptr (D.g 0 Z)) isAgg9 sizeOf9))<|op (fun Q U W H D=>zAC call71 (zES (q67 Z) (d.fr W.size) (hG0.fr (j.trans W)) (D.g 0 Z)))<|oa<|oz
 intro R w m n p d j
 obtain ⟨h1,h3⟩:=k2 n h1 h3
 have h7:=p.r 5 Z
 replace q:=q.fr m
 refine HT.su d j (eI x66::eB (decide (0<x66))::[]) ?_ ?_
 exact om h7<|op (fun Q U W H D=>zDz (D.g 0 Z) Z)<|oz
 intro R w m n p d j
 obtain ⟨h1,h3,h7⟩:=k3 n h1 h3 h7
 have h49:=p.r 1 Z
 replace q:=q.fr m
 refine HT.cond (decide (0<x66)) h49 (fun c68=>?_) (fun c68=>?_)
 have c:=zAH c68 c
 obtain ⟨e69,c⟩:=zA3 c
 obtain ⟨x70,q71,c⟩:=zA4 c
 refine HT.su d j (eR (.pointer (some ⟨b1_0,3,none⟩))::eF (.rep (eSl eStr) A p0.2.2.2)::eF (.qtr eStr A (gtD p0.2.2.2 0))::eF (.rep eStr A (gtD p0.2.2.2 0))::eF (.rep (eSl eStr) A x70)::eI (x70.length:Int)::eI 0::[]) ?_ ?_
 exact op (fun Q U W H D=>zA7 ((H 1 Z).trans h1) zCb sizeOf34 (by decide) Z)<|op (fun Q U W H D=>(zAE ((q.fr W).ok 1 _ Z).1 (D.g 0 Z) zAK Z isAgg34 sizeOf34))<|op (fun Q U W H D=>zAB (D.g 0 Z) Z underlying34 sizeOf9 e69)<|op (fun Q U W H D=>(zAf (QRep.ptr (D.g 0 Z)) isAgg9 sizeOf9))<|op (fun Q U W H D=>zAC call72 (zE0 (q71 Z) (d.fr W.size) (hG0.fr (j.trans W)) (D.g 0 Z)))<|op (fun Q U W H D=>zAL (aT:=#[]) (D.g 0 Z) underlying34)<|op (fun Q U W H D=>zC1 Z)<|oz
 intro R w m n p d j
 obtain ⟨h3,h7⟩:=k2 n h3 h7
 obtain ⟨u72,h54,f_u72⟩:∃ u,R 54=u∧Rep (eSl eStr) A w u x70:=⟨_,Z,p 4 _ _ Z Z Z⟩
 have h55:=p.r 5 Z
 have h56:=p.r 6 Z
 replace q:=q.fr m
 replace q:IniOK [ob uo_u2 (.vec w0.heap.size 9 eStr s9)] A w:=q.sub [(0,ob uo_u2 (.vec w0.heap.size 9 eStr s9))] ⟨Z,Z,N⟩
 obtain ⟨rl73,q74,c⟩:=zA4 c
 replace q74:=q74 Z
 refine HT.cut0 (fun R w=>∃ A:Av,∃ (s75:(List (List UInt8))) (uo_uo_u2:Value),rl73=s75∧AvOK A w∧Fr w0 w∧(∀ b o,A0 b o→A b o)∧IniOK [ob uo_uo_u2 (.vec w0.heap.size 9 eStr s75)] A w∧R 3=uo_uo_u2) ?_ ?_
 refine HT.block ?_
 refine HT.loop (fun k R w=>∃ A:Av,∃ (y76:Int) (y77:List (List UInt8)) (ul_uo_u2:Value),zBD fu x66 x70 k y76 y77=some rl73∧AvOK A w∧Fr w0 w∧(∀ b o,A0 b o→A b o)∧IniOK [ob ul_uo_u2 (.vec w0.heap.size 9 eStr y77)] A w∧R 3=ul_uo_u2∧R 7 = .int .i64 x66∧R 54=u72∧R 55 = .int .i64 (x70.length:Int)∧R 56 = .int .i64 y76∧Rep (eSl eStr) A w u72 x70) fu ⟨_,_,_,uo_u2,q74,d,j,B,q,h3,h7,h54,h55,h56,f_u72⟩ ?_
 have hr0:=c;clear c q74
 rintro k R w ⟨A,y76,y77,ul_uo_u2,c,d,j,B,q,h3,h7,h54,h55,h56,f_u72⟩
 rcases k with _ | k
 cases (show none=some _ from c)
 rw [zBD] at c
 refine HT.su d j (eB (decide (y76<(x70.length:Int)))::[]) ?_ ?_
 exact op (fun Q U W H D=>zAg ((H 56 Z).trans h56) ((H 55 Z).trans h55))<|oz
 intro R w m n p d j
 obtain ⟨h3,h7,h54,h55,h56⟩:=k5 n h3 h7 h54 h55 h56
 have h57:=p.r 0 Z
 replace f_u72:=f_u72.fr m
 replace q:=q.fr m
 refine HT.seq ?_
 refine HT.cond (decide (y76<(x70.length:Int))) h57 (fun c78=>?_) (fun c78=>?_)
 have c:=zAH c78 c
 refine HT.skip ?_
 refine HT.seq ?_
 refine HT.block ?_
 obtain ⟨e79,c⟩:=zA3 c
 refine HT.su d j (eF (.qtr eStr A (gtD x70 y76))::eF (.rep eStr A (gtD x70 y76))::eF (.rep eStr A (gtD x70 y76))::[]) ?_ ?_
 exact op (fun Q U W H D=>zAB ((f_u72.fr W).eq ((H 54 Z).trans h54)) ((H 56 Z).trans h56) underlying34 sizeOf9 e79)<|op (fun Q U W H D=>(zAf (QRep.ptr (D.g 0 Z)) isAgg9 sizeOf9))<|op (fun Q U W H D=>zA0 (D.g 0 Z))<|oz
 intro R w m n p d j
 obtain ⟨h3,h7,h54,h55,h56⟩:=k5 n h3 h7 h54 h55 h56
 obtain ⟨u80,h9,f_u80⟩:∃ u,R 9=u∧Rep eStr A w u (gtD x70 y76):=⟨_,Z,p 2 _ _ Z Z Z⟩
 replace f_u72:=f_u72.fr m
 replace q:=q.fr m
 obtain ⟨x81,q82,c⟩:=zA4 c
 obtain ⟨e83,e84,e85,e86,c⟩:=ck4 c
 refine HT.drawR [ob ul_uo_u2 (.vec w0.heap.size 9 eStr y77)] (rR ul_uo_u2::rI x66::(rF fun A=>.rep eStr A x81)::(rF fun A=>.rep eStr A (([121]:List UInt8)++x81))::rR u80::(rF fun A=>.rep eStr A (subL (gtD x70 y76) 0 1))::(rF fun A=>.rep eStr A ((([121]:List UInt8)++x81)++(subL (gtD x70 y76) 0 1)))::(rF fun A=>.rep (eSl eStr) A ([((([121]:List UInt8)++x81)++(subL (gtD x70 y76) 0 1))]:List (List UInt8)))::⟨_,true,[0],some (.vec w0.heap.size 9 eStr (y77++([((([121]:List UInt8)++x81)++(subL (gtD x70 y76) 0 1))]:List (List UInt8)))),true,fun A=>.any⟩::⟨_,true,[9],some (.vec w0.heap.size 9 eStr (y77++([((([121]:List UInt8)++x81)++(subL (gtD x70 y76) 0 1))]:List (List UInt8)))),true,fun A=>.any⟩::[]) (by kernel_rfl) (by kernel_rfl) (by kernel_rfl) (Wf.mk' (by kernel_rfl) (ur (ur (up (up (ur (up (up (up (ua (ua (UAll.nil))))))))))) (by kernel_rfl) (by kernel_rfl)) q d ?_ ?_
 exact rm h3<|rm h7<|rp (fun V Q U O D=>zAC call73 (zDc (q82 Z) O.av (hG0.fr (j.tr O.ch (q.ge (⟨Z,N⟩)))) (D.g 0 Z)))<|rp (fun V Q U O D=>zDy ⟨_,Z,⟨_,Z,Z,by decide⟩⟩ (D.g 0 Z) e83)<|rm h9<|rp (fun V Q U O D=>zC2 ((f_u80.stp O.stp).eq (D.g 0 Z)) Z underlying9  e84)<|rp (fun V Q U O D=>zDy (D.g 0 Z) (D.g 1 Z) e85)<|rp (fun V Q U O D=>zAu [_] (E:=eStr) ⟨(D.g 0 Z),N⟩ underlying34 sizeOf9 zeroValue9 Z Z Z O.av)<|rc (OblR.took 0 _ _ Z Z Z Z Z fun V Q U O D u X Y J L M=>by have a0:Q 60=ul_uo_u2:=D.g 0 Z;have a1:Rep (eSl eStr) V U (Q 67) ([((([121]:List UInt8)++x81)++(subL (gtD x70 y76) 0 1))]:List (List UInt8)):=D.g 1 Z;exact zAS (a0.trans (J _ Z).symm) X Y (Nat.le_trans j.size O.ch.size) a1 underlying34 el_9 e86)<|rc (OblR.took 9 _ _ Z Z Z Z Z fun V Q U O D u X Y J L M=>by exact zA8 (L _ _ Z Z Z Z).symm X Y)<|rz
 intro done ρ σ A R w y s
 obtain ⟨h7,h54,h55,h56⟩:=k4 s.rg h7 h54 h55 h56
 obtain ⟨u87,e_u87⟩:∃ u,ρ 10=u:=⟨_,Z⟩
 have h3:=s.ov y 10 9 e_u87
 replace f_u72:=f_u72.stp s.stp
 obtain ⟨B,j,d⟩:=s.s B C j q ⟨Z,N⟩
 replace q:=s.left y [(10,ob u87 (.vec w0.heap.size 9 eStr (y77++([((([121]:List UInt8)++x81)++(subL (gtD x70 y76) 0 1))]:List (List UInt8)))))] ⟨Z,Z,e_u87,Z,Z,N⟩
 obtain ⟨e88,c⟩:=zA3 c
 refine HT.u d j (eI (y76+1)::eI (y76+1)::[]) ?_ ?_
 exact op (fun Q U W H D=>zAO ((H 56 Z).trans h56) Z e88)<|ov<|oz
 intro R w m n p d j
 obtain ⟨h3,h7,h54,h55⟩:=k4 n h3 h7 h54 h55
 have h56:=p.r 1 Z
 replace f_u72:=f_u72.fr m
 replace q:=q.fr m
 exact ei k (And.intro (Nat.lt_succ_self k) ⟨_,_,_,u87,c,d,j,B,q,h3,h7,h54,h55,h56,f_u72⟩)
 have c:=zAG c78 c
 refine HT.exit ?_
 obtain rfl:=si c
 exact ei _ ⟨_,ul_uo_u2,Z,d,j,B,q,h3⟩
 rintro R w ⟨A,s75,uo_uo_u2,es,d,j,B,q,h3⟩
 obtain rfl:=es.symm
 obtain ⟨x89,q90,c⟩:=zA4 c
 refine HT.sx [ob uo_uo_u2 (.vec w0.heap.size 9 eStr s75)] (rR uo_uo_u2::⟨_,true,[],some (.vec w0.heap.size 9 eStr x89),true,fun A=>.any⟩::⟨_,true,[2],some (.vec w0.heap.size 9 eStr x89),true,fun A=>.any⟩::[]) (ur (ua (ua (UAll.nil)))) q d ?_ ?_
 exact rm h3<|rc (OblR.made _ Z Z Z Z fun V Q U O D=>by have a0:Q 70=uo_uo_u2:=D.g 0 Z;have ra0:=(zBf (O.rd 0 _ Z Z) (O.low' B C (q.ge (⟨Z,N⟩))) C).eq a0;exact zE3 call42 (zBX (q90 Z) (hA00.fr ((Nat.le_trans j.size O.ch.size))) ra0) (Nat.le_trans j.size O.ch.size) (O.low' B C (q.ge (⟨Z,N⟩))) (fun _ _ _ _ _ h=>h))<|rc (OblR.took 2 _ _ Z Z Z Z Z fun V Q U O D u X Y J L M=>by exact zA8 (L _ _ Z Z Z Z).symm X Y)<|rz
 intro done ρ σ A R w y s
 have z91:=s.inivR 0 Z
 obtain ⟨u92,e_u92⟩:∃ u,ρ 3=u:=⟨_,Z⟩
 have h2:=s.ov y 3 2 e_u92
 obtain ⟨B,j,d⟩:=s.s B C j q ⟨Z,N⟩
 replace q:=s.left y [(3,ob u92 (.vec w0.heap.size 9 eStr x89))] ⟨Z,Z,e_u92,Z,Z,N⟩
 refine HT.ret ?_
 obtain rfl:=si c
 exact ⟨.inr Z,[R 2],⟨Z,N⟩,(zBu (q.ok 0 _ Z) B h2),j⟩
 have c:=zAG c68 c
 refine HT.skip ?_
 obtain ⟨x93,q94,c⟩:=zA4 c
 refine HT.sx [ob uo_u2 (.vec w0.heap.size 9 eStr s9),ob (.pointer (some ⟨b1_0,0,none⟩)) (.box w0.heap.size 51 zA1 p0)] (rR uo_u2::⟨_,true,[],some (.vec w0.heap.size 9 eStr x93),true,fun A=>.any⟩::⟨_,true,[3],some (.vec w0.heap.size 9 eStr x93),true,fun A=>.any⟩::[]) (ur (ua (ua (UAll.nil)))) q d ?_ ?_
 exact rm h3<|rc (OblR.made _ Z Z Z Z fun V Q U O D=>by have a0:Q 70=uo_u2:=D.g 0 Z;have ra0:=(zBf (O.rd 0 _ Z Z) (O.low' B C (q.ge (⟨Z,⟨Z,N⟩⟩))) C).eq a0;exact zE3 call42 (zBX (q94 Z) (hA00.fr ((Nat.le_trans j.size O.ch.size))) ra0) (Nat.le_trans j.size O.ch.size) (O.low' B C (q.ge (⟨Z,⟨Z,N⟩⟩))) (fun _ _ _ _ _ h=>h))<|rc (OblR.took 3 _ _ Z Z Z Z Z fun V Q U O D u X Y J L M=>by exact zA8 (L _ _ Z Z Z Z).symm X Y)<|rz
 intro done ρ σ A R w y s
 have z95:=s.inivR 0 Z
 have z96:=s.inivR 1 Z
 obtain ⟨u97,e_u97⟩:∃ u,ρ 4=u:=⟨_,Z⟩
 have h2:=s.ov y 4 2 e_u97
 obtain ⟨B,j,d⟩:=s.s B C j q ⟨Z,⟨Z,N⟩⟩
 replace q:=s.left y [(4,ob u97 (.vec w0.heap.size 9 eStr x93))] ⟨Z,Z,e_u97,Z,Z,N⟩
 refine HT.ret ?_
 obtain rfl:=si c
 exact ⟨.inr Z,[R 2],⟨Z,N⟩,(zBu (q.ok 0 _ Z) B h2),j⟩
theorem zFl {fu : Nat} {A0 : Av} {p0 : zA2} {r : List (List UInt8)} (c : zCE fu p0 = some r) {w : World} {v0 : Value} (d : AvOK A0 w) (hG : GTab w) (h0 : Rep zA1 A0 w v0 p0) :
 Calls prog 41 #[v0] w fun e w'=>∃ v,e = .returned v∧(Rep (eSl eStr) A0 w' v r∧Fr w w'):=by
 refine Calls.mono (zGE c d hG h0) ?_
 rintro e w' ⟨v,he,hv,hf⟩
 exact ⟨v,he,zBf hv (fun b o h=>.inl h) d,hf⟩
def zAa (fu : Nat) (y14 : Int) (x23 : List (List UInt8)) : Nat → Int → (List (List UInt8)) → (MpT Int) → Option ((List (List UInt8)) × (MpT Int))
 | 0,_,_,_=>none
 | k+1,y29,y30,y31=>
 bif (decide (y29<(x23.length:Int))) then (
 ck (inR y29 x23.length) <|
 ck (zBE (y30.length+([(gtD x23 y29)]:List (List UInt8)).length)) <|
 ck (decide ((gtD x23 y29) ∉ y31.2.1)) <|
 ck (zBE ((y31.1 (gtD x23 y29)).length+([y14]:List Int).length)) <|
 ck (decide (y31.2.2<maxLen)) <|
 ck (i64B (y29+1)) <|
 zAa fu y14 x23 k (y29+1) (y30++([(gtD x23 y29)]:List (List UInt8))) ((fun s'=>if s'=(gtD x23 y29) then ((y31.1 (gtD x23 y29))++([y14]:List Int)) else y31.1 s'),y31.2.1,y31.2.2+1)
 ) else (
 some (y30,y31)
 )
def zAT (fu : Nat) (p0 : List zA2) : Nat → Int → (List (List UInt8)) → (MpT Int) → Option ((List (List UInt8)) × (MpT Int))
 | 0,_,_,_=>none
 | k+1,y14,y15,y16=>
 bif (decide (y14<(p0.length:Int))) then (
 ck (inR y14 p0.length) <|
 cl true (zCE fu (gtD p0 y14)) fun x23=>
 cl true (zAa fu y14 x23 fu 0 y15 y16) fun s28=>
 ck (i64B (y14+1)) <|
 zAT fu p0 k (y14+1) s28.1 s28.2
 ) else (
 some (y15,y16)
 )
def zAU (fu : Nat) (x55 : List (List UInt8)) : Nat → Int → (MpT Int) → (List zAA) → Option (List zAA)
 | 0,_,_,_=>none
 | k+1,y67,y68,y69=>
 bif (decide (y67<(x55.length:Int))) then (
 ck (inR y67 x55.length) <|
 ck (decide ((gtD x55 y67) ∉ y68.2.1)) <|
 ck (zBE (y69.length+1)) <|
 ck (i64B (y67+1)) <|
 zAU fu x55 k (y67+1) (y68.1,(gtD x55 y67)::y68.2.1,y68.2.2) (y69 ++ [((gtD x55 y67),(y68.1 (gtD x55 y67)))])
 ) else (
 some y69
 )
def zC9 (fu:Nat) (p0:List zA2):Option (List zAA):=
 cl (true&&((decide (12<(p0.length:Int)))==false)) (zCg fu p0) fun x1=>
 bd ((decide (12<(p0.length:Int))) || (!x1)) fun x3=>
 bif x3 then (
 some ([]:List zAA)
 ) else (
 cl true (zAT fu p0 fu 0 ([]:List (List UInt8)) ((fun _=>[]:List UInt8→List Int),([]:List (List UInt8)),(0:Nat))) fun s13=>
 cl true (zAw fu s13.1) fun x55=>
 cl true (zAU fu x55 fu 0 s13.2 ([]:List zAA)) fun s66=>
 some s66
 )
set_option linter.unusedSimpArgs false in
theorem zFV {fu : Nat} {A0 : Av} {p0 : List zA2} {r : List zAA} (c : zC9 fu p0 = some r) {w : World} {v0 : Value} (d : AvOK A0 w) (hG : GTab w) (h0 : Rep (eSl zA1) A0 w v0 p0) :
 Calls prog 11 #[v0] w fun e w'=>∃ v,e = .returned v∧(zEC A0 (trR (geB w.heap.size) (oSl 54 (oPr (oRd eStr) (oSl 3 (oRd (eInt .i64))))) r []) (fun _=>.any) w v w'):=by
 unfold zC9 at c
 obtain ⟨w0,hw0,j,C⟩:=pw d
 have hA00:AvOK A0 w0:=C
 rw [show zEC A0 (trR (geB w.heap.size) (oSl 54 (oPr (oRd eStr) (oSl 3 (oRd (eInt .i64))))) r []) (fun _=>.any) w=zEC A0 (trR (geB w0.heap.size) (oSl 54 (oPr (oRd eStr) (oSl 3 (oRd (eInt .i64))))) r []) (fun _=>.any) w0 from hw0 ▸ Z]
 have hG0:GTab w0:=hw0 ▸ hG
 obtain ⟨A,hAe,B,d,q⟩:=pa d
 refine zA5 [.tmp 2] func11 ntmps11 (by decide) Z Z (nb Z) ?_
 intro R hR
 have f_v0:Rep (eSl zA1) A w v0 p0:=hAe ▸ h0
 replace h0:R 0=v0:=hR 0 _ Z
 refine HT.su d j (eA::[]) ?_ ?_
 exact op (fun Q U W H D=>zA0 N)<|oz
 intro R w m n p d j
 replace h0:=k1 n h0
 replace f_v0:=f_v0.fr m
 replace q:=q.fr m
 refine HT.seq ?_
 refine HT.seq ?_
 obtain ⟨x1,q2,c⟩:=zA4 c
 obtain ⟨x3,q4,c⟩:=zAW c
 refine HT.u d j (eR v0::eI (p0.length:Int)::eB (decide (12<(p0.length:Int)))::eB (decide (12<(p0.length:Int)))::gR (true&&((decide (12<(p0.length:Int)))==false)) v0::gB (true&&((decide (12<(p0.length:Int)))==false)) x1::gB (true&&((decide (12<(p0.length:Int)))==false)) (!x1)::eB x3::[]) ?_ ?_
 exact om h0<|op (fun Q U W H D=>zAL (aT:=#[]) ((f_v0.fr W).eq (D.g 0 Z)) underlying26)<|op (fun Q U W H D=>zDz (D.g 0 Z) Z)<|ov<|gm 3 false h0<|og 3 false (fun G Q U W H D=>zAC call40 (zFk (q2 G) (d.fr W.size) ((f_v0.fr W).eq (D.h 0 G Z))))<|og 3 false (fun G Q U W H D=>zCk (D.h 0 G Z))<|op (fun Q U W H D=>zAc (decide (12<(p0.length:Int))) (D.g 0 Z) (fun hc=>by show _=Value.bool x3;rw [q4,hc];exact Z) (fun hc=>by have a2:Q 18 = .bool (!x1):=D 1 _ _ _ Z Z Z Z (zC5 Z (zB5 hc));show _=Value.bool x3;rw [q4,hc];exact a2))<|oz
 intro R w m n p d j
 replace h0:=k1 n h0
 have h19:=p.r 7 Z
 replace f_v0:=f_v0.fr m
 replace q:=q.fr m
 refine HT.cond x3 h19 (fun c5=>?_) (fun c5=>?_)
 have c:=zAH c5 c
 refine HT.sx [] (⟨_,true,[],some (trR (geB w0.heap.size) (oSl 54 (oPr (oRd eStr) (oSl 3 (oRd (eInt .i64))))) ([]:List zAA) []),true,fun A=>.any⟩::[]) (ua (UAll.nil)) q d ?_ ?_
 exact rc (OblR.madeS _ Z Z Z Z fun V Q U O D=>by exact zJM Z)<|rz
 intro done ρ σ A R w y s
 obtain ⟨u6,e_u6⟩:∃ u,ρ 0=u:=⟨_,Z⟩
 have h2:=s.ov y 0 0 e_u6
 obtain ⟨S7,eS_u6⟩:∃ S,σ 0=S:=⟨_,Z⟩
 obtain ⟨B,j,d⟩:=s.s B C j q N
 replace q:=s.left y [(0,⟨u6,S7,trR (geB w0.heap.size) (oSl 54 (oPr (oRd eStr) (oSl 3 (oRd (eInt .i64))))) ([]:List zAA) []⟩)] ⟨Z,Z,e_u6,eS_u6,Z,N⟩
 refine HT.ret ?_
 obtain rfl:=si c
 exact ⟨.inr Z,[R 2],⟨Z,N⟩,zHe Z (q.own 0 _ Z) (q.ok 0 _ Z).2 B j h2 N⟩
 have c:=zAG c5 c
 refine HT.skip ?_
 refine HT.sx [] (⟨_,true,[],some (.gen (geB w0.heap.size) (mapX prog 9 w0.heap.size 3 (eInt .i64) ((fun _=>[]:List UInt8→List Int),([]:List (List UInt8)),(0:Nat)))),true,fun A=>.any⟩::⟨_,true,[0],some (.gen (geB w0.heap.size) (mapX prog 9 w0.heap.size 3 (eInt .i64) ((fun _=>[]:List UInt8→List Int),([]:List (List UInt8)),(0:Nat)))),true,fun A=>.any⟩::[]) (ua (ua (UAll.nil))) q d ?_ ?_
 exact rc (OblR.madeS _ Z Z Z Z fun V Q U O D=>by exact zMQ (Nat.le_trans j.size O.ch.size) (fun k hk=>Nat.le_trans (Nat.le_trans j.size O.ch.size) hk))<|rc (OblR.tookS 0 _ _ Z Z Z Z Z fun V Q U O D u S X I Y J L M=>by exact zEi (L _ _ Z Z Z Z).symm I.2 Y I.1)<|rz
 intro done ρ σ A R w y s
 replace h0:=k1 s.rg h0
 obtain ⟨u8,e_u8⟩:∃ u,ρ 1=u:=⟨_,Z⟩
 have h3:=s.ov y 1 1 e_u8
 obtain ⟨S9,eS_u8⟩:∃ S,σ 1=S:=⟨_,Z⟩
 replace f_v0:=f_v0.stp s.stp
 obtain ⟨B,j,d⟩:=s.s B C j q N
 replace q:=s.left y [(1,⟨u8,S9,.gen (geB w0.heap.size) (mapX prog 9 w0.heap.size 3 (eInt .i64) ((fun _=>[]:List UInt8→List Int),([]:List (List UInt8)),(0:Nat)))⟩)] ⟨Z,Z,e_u8,eS_u8,Z,N⟩
 refine HT.su d j (eR (.slice none 0 0)::[]) ?_ ?_
 exact op (fun Q U W H D=>zA0 Z)<|oz
 intro R w m n p d j
 obtain ⟨h0,h3⟩:=k2 n h0 h3
 obtain ⟨u10,n_u10⟩:∃ u,u=Value.slice none 0 0:=⟨_,Z⟩
 have h4:R 4=u10:=(p 0 _ _ Z Z Z).trans n_u10.symm
 replace f_v0:=f_v0.fr m
 replace q:=q.fr m
 replace q:=q.nilcons (u:=u10) n_u10 w0.heap.size 9 eStr
 refine HT.seq ?_
 refine HT.su d j (eR v0::eI (p0.length:Int)::eI 0::[]) ?_ ?_
 exact om h0<|op (fun Q U W H D=>zAL (aT:=#[]) ((f_v0.fr W).eq (D.g 0 Z)) underlying26)<|op (fun Q U W H D=>zC1 Z)<|oz
 intro R w m n p d j
 obtain ⟨h3,h4⟩:=k2 n h3 h4
 have h21:=p.r 0 Z
 have h22:=p.r 1 Z
 have h23:=p.r 2 Z
 replace f_v0:=f_v0.fr m
 replace q:=q.fr m
 obtain ⟨rl11,q12,c⟩:=zA4 c
 replace q12:=q12 Z
 refine HT.cut0 (fun R w=>∃ A:Av,∃ (s13:(List (List UInt8)) × (MpT Int)) (uo_u10:Value) (So_u8:Nat→Prop),rl11=s13∧AvOK A w∧Fr w0 w∧(∀ b o,A0 b o→A b o)∧IniOK [ob uo_u10 (.vec w0.heap.size 9 eStr s13.1),⟨u8,So_u8,.gen (geB w0.heap.size) (mapX prog 9 w0.heap.size 3 (eInt .i64) s13.2)⟩] A w∧R 3=u8∧R 4=uo_u10) ?_ ?_
 refine HT.block ?_
 refine HT.loop (fun k R w=>∃ A:Av,∃ (y14:Int) (y15:List (List UInt8)) (y16:MpT Int) (ul_u10:Value) (Sl_u8:Nat→Prop),zAT fu p0 k y14 y15 y16=some rl11∧AvOK A w∧Fr w0 w∧(∀ b o,A0 b o→A b o)∧IniOK [ob ul_u10 (.vec w0.heap.size 9 eStr y15),⟨u8,Sl_u8,.gen (geB w0.heap.size) (mapX prog 9 w0.heap.size 3 (eInt .i64) y16)⟩] A w∧R 3=u8∧R 4=ul_u10∧R 21=v0∧R 22 = .int .i64 (p0.length:Int)∧R 23 = .int .i64 y14∧Rep (eSl zA1) A w v0 p0) fu ⟨_,_,_,_,u10,S9,q12,d,j,B,q,h3,h4,h21,h22,h23,f_v0⟩ ?_
 have hr0:=c;clear c q12
 rintro k R w ⟨A,y14,y15,y16,ul_u10,Sl_u8,c,d,j,B,q,h3,h4,h21,h22,h23,f_v0⟩
 rcases k with _ | k
 cases (show none=some _ from c)
 rw [zAT] at c
 refine HT.su d j (eB (decide (y14<(p0.length:Int)))::[]) ?_ ?_
 exact op (fun Q U W H D=>zAg ((H 23 Z).trans h23) ((H 22 Z).trans h22))<|oz
 intro R w m n p d j
 obtain ⟨h3,h4,h21,h22,h23⟩:=k5 n h3 h4 h21 h22 h23
 have h24:=p.r 0 Z
 replace f_v0:=f_v0.fr m
 replace q:=q.fr m
 refine HT.seq ?_
 refine HT.cond (decide (y14<(p0.length:Int))) h24 (fun c17=>?_) (fun c17=>?_)
 have c:=zAH c17 c
 refine HT.skip ?_
 refine HT.seq ?_
 refine HT.block ?_
 obtain ⟨e18,c⟩:=zA3 c
 refine HT.sx [ob ul_u10 (.vec w0.heap.size 9 eStr y15),⟨u8,Sl_u8,.gen (geB w0.heap.size) (mapX prog 9 w0.heap.size 3 (eInt .i64) y16)⟩] (rI y14::(rF fun A=>.qtr zA1 A (gtD p0 y14))::(rF fun A=>.rep zA1 A (gtD p0 y14))::⟨_,true,[],some (.box w0.heap.size 51 zA1 (0,(0,(0,([]:List (List UInt8)))))),true,fun A=>.any⟩::rI y14::⟨_,true,[5],some (.box w0.heap.size 51 zA1 (gtD p0 y14)),false,fun A=>.any⟩::[]) (ur (UAll.cons zEA (up (ua (ur (ua (UAll.nil))))))) q d ?_ ?_
 exact rm h23<|rp (fun V Q U O D=>zAB ((f_v0.stp O.stp).eq ((O.old 21 Z).trans h21)) ((O.old 23 Z).trans h23) underlying26 sizeOf51 e18)<|rp (fun V Q U O D=>(zAf (QRep.ptr (D.g 0 Z)) isAgg51 sizeOf51))<|rc (OblR.made _ Z Z Z Z fun V Q U O D=>by exact zHu zeroValue51 (fun A w=>zKB zDY (zKB zDY (zKB zDY zHH))) (Nat.le_trans j.size O.ch.size))<|ra<|rc (OblR.took 5 _ _ Z Z Z Z Z fun V Q U O D u X Y J L M=>by have a1:Rep zA1 V U (Q 27) (gtD p0 y14):=D.g 1 Z;obtain ⟨b,hb,hB',hbx⟩:=X;have hop':=L _ _ Z Z Z Z;exact zI1 a1 (hop'.symm.trans hb) hb ⟨b,hb,hB',hbx⟩ Y (FldS.id _) sizeOf51 Z)<|rz
 intro done ρ σ A R w y s
 obtain ⟨h3,h4,h21,h22,h23⟩:=k5 s.rg h3 h4 h21 h22 h23
 have z19:=s.inivR 0 Z
 have z20:=s.inivR 1 Z
 obtain ⟨b6_20,e_b6_20⟩:=s.boxv y 7 Z Z
 have z22:=(s.opnR y 7 5 Z Z Z Z Z).symm.trans e_b6_20
 have h6:=s.ov y 5 3 z22
 have eS_u8:=s.inisR 1 Z
 have h5:=s.r y 4 Z
 replace f_v0:=f_v0.stp s.stp
 obtain ⟨B,j,d⟩:=s.s B C j q ⟨Z,⟨fun _ h=>h,N⟩⟩
 replace q:=s.left y [(0,ob ul_u10 (.vec w0.heap.size 9 eStr y15)),(1,⟨u8,Sl_u8,.gen (geB w0.heap.size) (mapX prog 9 w0.heap.size 3 (eInt .i64) y16)⟩),(7,ob (.pointer (some ⟨b6_20,0,none⟩)) (.box w0.heap.size 51 zA1 (gtD p0 y14)))] ⟨Z,Z,z19,Z,Z,⟨Z,Z,z20,eS_u8,Z,⟨Z,Z,e_b6_20,Z,Z,N⟩⟩⟩
 obtain ⟨x23,q24,c⟩:=zA4 c
 refine HT.su d j (eF (.rep zA1 A (gtD p0 y14))::eF (.rep (eSl eStr) A x23)::eI (x23.length:Int)::eI 0::[]) ?_ ?_
 exact op (fun Q U W H D=>(zAE ((q.fr W).ok 2 _ Z).1 ((H 6 Z).trans h6) (Fld.id _) Z isAgg51 sizeOf51))<|op (fun Q U W H D=>zAC call41 (zFl (q24 Z) (d.fr W.size) (hG0.fr (j.trans W)) (D.g 0 Z)))<|op (fun Q U W H D=>zAL (aT:=#[]) (D.g 0 Z) underlying34)<|op (fun Q U W H D=>zC1 Z)<|oz
 intro R w m n p d j
 obtain ⟨h3,h4,h5,h21,h22,h23⟩:=k6 n h3 h4 h5 h21 h22 h23
 obtain ⟨u25,h29,f_u25⟩:∃ u,R 29=u∧Rep (eSl eStr) A w u x23:=⟨_,Z,p 1 _ _ Z Z Z⟩
 have h30:=p.r 2 Z
 have h31:=p.r 3 Z
 replace f_v0:=f_v0.fr m
 replace q:=q.fr m
 replace q:IniOK [ob ul_u10 (.vec w0.heap.size 9 eStr y15),⟨u8,Sl_u8,.gen (geB w0.heap.size) (mapX prog 9 w0.heap.size 3 (eInt .i64) y16)⟩] A w:=q.sub [(0,ob ul_u10 (.vec w0.heap.size 9 eStr y15)),(1,⟨u8,Sl_u8,.gen (geB w0.heap.size) (mapX prog 9 w0.heap.size 3 (eInt .i64) y16)⟩)] ⟨Z,Z,⟨Z,Z,N⟩⟩
 obtain ⟨rl26,q27,c⟩:=zA4 c
 replace q27:=q27 Z
 refine HT.cut0 (fun R w=>∃ A:Av,∃ (s28:(List (List UInt8)) × (MpT Int)) (uo_ul_u10:Value) (So_u8:Nat→Prop),rl26=s28∧AvOK A w∧Fr w0 w∧(∀ b o,A0 b o→A b o)∧IniOK [ob uo_ul_u10 (.vec w0.heap.size 9 eStr s28.1),⟨u8,So_u8,.gen (geB w0.heap.size) (mapX prog 9 w0.heap.size 3 (eInt .i64) s28.2)⟩] A w∧R 3=u8∧R 4=uo_ul_u10∧R 21=v0∧R 22 = .int .i64 (p0.length:Int)∧R 23 = .int .i64 y14∧Rep (eSl zA1) A w v0 p0) ?_ ?_
 refine HT.block ?_
 refine HT.loop (fun k R w=>∃ A:Av,∃ (y29:Int) (y30:List (List UInt8)) (y31:MpT Int) (ul_ul_u10:Value) (Sl_u8:Nat→Prop),zAa fu y14 x23 k y29 y30 y31=some rl26∧AvOK A w∧Fr w0 w∧(∀ b o,A0 b o→A b o)∧IniOK [ob ul_ul_u10 (.vec w0.heap.size 9 eStr y30),⟨u8,Sl_u8,.gen (geB w0.heap.size) (mapX prog 9 w0.heap.size 3 (eInt .i64) y31)⟩] A w∧R 3=u8∧R 4=ul_ul_u10∧R 5 = .int .i64 y14∧R 21=v0∧R 22 = .int .i64 (p0.length:Int)∧R 23 = .int .i64 y14∧R 29=u25∧R 30 = .int .i64 (x23.length:Int)∧R 31 = .int .i64 y29∧Rep (eSl eStr) A w u25 x23∧Rep (eSl zA1) A w v0 p0) fu ⟨_,_,_,_,ul_u10,Sl_u8,q27,d,j,B,q,h3,h4,h5,h21,h22,h23,h29,h30,h31,f_u25,f_v0⟩ ?_
 have hr0:=c;clear c q27
 rintro k R w ⟨A,y29,y30,y31,ul_ul_u10,Sl_u8,c,d,j,B,q,h3,h4,h5,h21,h22,h23,h29,h30,h31,f_u25,f_v0⟩
 rcases k with _ | k
 cases (show none=some _ from c)
 rw [zAa] at c
 refine HT.su d j (eB (decide (y29<(x23.length:Int)))::[]) ?_ ?_
 exact op (fun Q U W H D=>zAg ((H 31 Z).trans h31) ((H 30 Z).trans h30))<|oz
 intro R w m n p d j
 obtain ⟨h3,h4,h5,h21,h22,h23⟩:=k6 n h3 h4 h5 h21 h22 h23
 obtain ⟨h29,h30,h31⟩:=k3 n h29 h30 h31
 have h32:=p.r 0 Z
 replace f_u25:=f_u25.fr m
 replace f_v0:=f_v0.fr m
 replace q:=q.fr m
 refine HT.seq ?_
 refine HT.cond (decide (y29<(x23.length:Int))) h32 (fun c32=>?_) (fun c32=>?_)
 have c:=zAH c32 c
 refine HT.skip ?_
 refine HT.seq ?_
 refine HT.block ?_
 obtain ⟨e33,c⟩:=zA3 c
 refine HT.su d j (eF (.qtr eStr A (gtD x23 y29))::eF (.rep eStr A (gtD x23 y29))::eF (.rep eStr A (gtD x23 y29))::[]) ?_ ?_
 exact op (fun Q U W H D=>zAB ((f_u25.fr W).eq ((H 29 Z).trans h29)) ((H 31 Z).trans h31) underlying34 sizeOf9 e33)<|op (fun Q U W H D=>(zAf (QRep.ptr (D.g 0 Z)) isAgg9 sizeOf9))<|op (fun Q U W H D=>zA0 (D.g 0 Z))<|oz
 intro R w m n p d j
 obtain ⟨h3,h4,h5,h21,h22,h23⟩:=k6 n h3 h4 h5 h21 h22 h23
 obtain ⟨h29,h30,h31⟩:=k3 n h29 h30 h31
 obtain ⟨u34,h8,f_u34⟩:∃ u,R 8=u∧Rep eStr A w u (gtD x23 y29):=⟨_,Z,p 2 _ _ Z Z Z⟩
 replace f_u25:=f_u25.fr m
 replace f_v0:=f_v0.fr m
 replace q:=q.fr m
 obtain ⟨e35,c⟩:=zA3 c
 refine HT.sx [ob ul_ul_u10 (.vec w0.heap.size 9 eStr y30),⟨u8,Sl_u8,.gen (geB w0.heap.size) (mapX prog 9 w0.heap.size 3 (eInt .i64) y31)⟩] (rR ul_ul_u10::rR u34::(rF fun A=>.rep (eSl eStr) A ([(gtD x23 y29)]:List (List UInt8)))::⟨_,true,[0],some (.vec w0.heap.size 9 eStr (y30++([(gtD x23 y29)]:List (List UInt8)))),true,fun A=>.any⟩::⟨_,true,[5],some (.vec w0.heap.size 9 eStr (y30++([(gtD x23 y29)]:List (List UInt8)))),true,fun A=>.any⟩::[]) (ur (ur (up (ua (ua (UAll.nil)))))) q d ?_ ?_
 exact rm h4<|rm h8<|rp (fun V Q U O D=>zAu [_] (E:=eStr) ⟨((f_u34.stp O.stp).eq (D.g 0 Z)),N⟩ underlying34 sizeOf9 zeroValue9 Z Z Z O.av)<|rc (OblR.took 0 _ _ Z Z Z Z Z fun V Q U O D u X Y J L M=>by have a0:Q 35=ul_ul_u10:=D.g 0 Z;have a1:Rep (eSl eStr) V U (Q 37) ([(gtD x23 y29)]:List (List UInt8)):=D.g 1 Z;exact zAS (a0.trans (J _ Z).symm) X Y (Nat.le_trans j.size O.ch.size) a1 underlying34 el_9 e35)<|rc (OblR.took 5 _ _ Z Z Z Z Z fun V Q U O D u X Y J L M=>by exact zA8 (L _ _ Z Z Z Z).symm X Y)<|rz
 intro done ρ σ A R w y s
 obtain ⟨h3,h5,h8,h21,h22,h23⟩:=k6 s.rg h3 h5 h8 h21 h22 h23
 obtain ⟨h29,h30,h31⟩:=k3 s.rg h29 h30 h31
 obtain ⟨u36,e_u36⟩:∃ u,ρ 6=u:=⟨_,Z⟩
 have h4:=s.ov y 6 4 e_u36
 have z37:=s.inivR 1 Z
 have eS_u8:=s.inisR 1 Z
 replace f_u25:=f_u25.stp s.stp
 replace f_u34:=f_u34.stp s.stp
 replace f_v0:=f_v0.stp s.stp
 obtain ⟨B,j,d⟩:=s.s B C j q ⟨Z,⟨fun _ h=>h,N⟩⟩
 replace q:=s.left y [(6,ob u36 (.vec w0.heap.size 9 eStr (y30++([(gtD x23 y29)]:List (List UInt8))))),(1,⟨u8,Sl_u8,.gen (geB w0.heap.size) (mapX prog 9 w0.heap.size 3 (eInt .i64) y31)⟩)] ⟨Z,Z,e_u36,Z,Z,⟨Z,Z,z37,eS_u8,Z,N⟩⟩
 refine SG.of ?_
 refine SG.textR [ob u36 (.vec w0.heap.size 9 eStr (y30++([(gtD x23 y29)]:List (List UInt8)))),⟨u8,Sl_u8,.gen (geB w0.heap.size) (mapX prog 9 w0.heap.size 3 (eInt .i64) y31)⟩] (rR u8::rR u34::rR u8::rR u34::[]) 4 Z Z Z (by kernel_rfl) (by kernel_rfl) (Wf.mk' (by kernel_rfl) (ur (ur (ur (ur (UAll.nil))))) (by kernel_rfl) (by kernel_rfl)) q d (N) ?_ ?_
 exact rm h3<|rm h8<|rm h3<|rm h8<|rz
 intro done ρ σ A R w y s
 obtain ⟨h3,h4,h5,h21,h22,h23⟩:=k6 s.rg h3 h4 h5 h21 h22 h23
 obtain ⟨h29,h30,h31⟩:=k3 s.rg h29 h30 h31
 have z38:=s.inivR 0 Z
 have z39:=s.inivR 1 Z
 have eS_u8:=s.inisR 1 Z
 have h39:=s.r y 0 Z
 have h40:=s.r y 1 Z
 have h41:=s.r y 2 Z
 have h42:=s.r y 3 Z
 replace f_u25:=f_u25.stp s.stp
 replace f_u34:=f_u34.stp s.stp
 replace f_v0:=f_v0.stp s.stp
 obtain ⟨B,j,d⟩:=s.s B C j q ⟨Z,⟨fun _ h=>h,N⟩⟩
 replace q:=s.left y [(0,ob u36 (.vec w0.heap.size 9 eStr (y30++([(gtD x23 y29)]:List (List UInt8))))),(1,⟨u8,Sl_u8,.gen (geB w0.heap.size) (mapX prog 9 w0.heap.size 3 (eInt .i64) y31)⟩)] ⟨Z,Z,z38,Z,Z,⟨Z,Z,z39,eS_u8,Z,N⟩⟩
 obtain ⟨e40,c⟩:=zA3 c
 refine SG.op 43 Z Z Z Z (zIA q 1 Z underlying9 underlying62 (zeroValue52 _) h41 (f_u34.eq h42) (of_decide_eq_true e40) zHf) ?_
 rintro u41 w1 ⟨hw_,S42,hO2,-⟩ R n hd
 obtain rfl:w=w1:=hw_.symm
 have hst:Stp A A w w:=(Fr.refl w).stp A
 replace q:IniOK [ob u36 (.vec w0.heap.size 9 eStr (y30++([(gtD x23 y29)]:List (List UInt8)))),⟨u8,S42,.gen (geB w0.heap.size) (mapX prog 9 w0.heap.size 3 (eInt .i64) (y31.1,(gtD x23 y29)::y31.2.1,y31.2.2))⟩,ob u41 (.vec w0.heap.size 3 (eInt .i64) (y31.1 (gtD x23 y29)))] A w:=hO2
 replace h3:=(n 3 Z).trans h3
 replace h4:=(n 4 Z).trans h4
 replace h5:=(n 5 Z).trans h5
 replace h21:=(n 21 Z).trans h21
 replace h22:=(n 22 Z).trans h22
 replace h23:=(n 23 Z).trans h23
 replace h29:=(n 29 Z).trans h29
 replace h30:=(n 30 Z).trans h30
 replace h31:=(n 31 Z).trans h31
 replace h39:=(n 39 Z).trans h39
 replace h40:=(n 40 Z).trans h40
 replace h41:=(n 41 Z).trans h41
 replace h42:=(n 42 Z).trans h42
 replace f_u25:=f_u25.stp hst
 replace f_u34:=f_u34.stp hst
 replace f_v0:=f_v0.stp hst
 have h43:R 43=u41:=hd
 clear n hd hst
 obtain ⟨e43,c⟩:=zA3 c
 refine SG.textR [ob u36 (.vec w0.heap.size 9 eStr (y30++([(gtD x23 y29)]:List (List UInt8)))),⟨u8,S42,.gen (geB w0.heap.size) (mapX prog 9 w0.heap.size 3 (eInt .i64) (y31.1,(gtD x23 y29)::y31.2.1,y31.2.2))⟩,ob u41 (.vec w0.heap.size 3 (eInt .i64) (y31.1 (gtD x23 y29)))] (rR u8::rR u34::rR u8::rR u34::rR u41::rI y14::(rF fun A=>.rep (eSl (eInt .i64)) A ([y14]:List Int))::⟨_,true,[2],some (.vec w0.heap.size 3 (eInt .i64) ((y31.1 (gtD x23 y29))++([y14]:List Int))),true,fun A=>.any⟩::[]) 8 Z Z Z (by kernel_rfl) (by kernel_rfl) (Wf.mk' (by kernel_rfl) (ur (ur (ur (ur (ur (ur (up (ua (UAll.nil))))))))) (by kernel_rfl) (by kernel_rfl)) q d (⟨⟨Z,Z,Z,h39⟩,⟨⟨Z,Z,Z,h40⟩,⟨⟨Z,Z,Z,h41⟩,⟨⟨Z,Z,Z,h42⟩,⟨⟨Z,Z,Z,h43⟩,N⟩⟩⟩⟩⟩) ?_ ?_
 exact rm h5<|rp (fun V Q U O D=>zAu [_] (E:=eInt .i64) ⟨(zBp.eq (D.g 0 Z)),N⟩ underlying52 sizeOf3 zeroValue3 Z Z Z O.av)<|rc (OblR.took 2 _ _ Z Z Z Z Z fun V Q U O D u X Y J L M=>by have a0:Q 43=u41:=D.g 0 Z;have a1:Rep (eSl (eInt .i64)) V U (Q 45) ([y14]:List Int):=D.g 1 Z;exact zAS (a0.trans (J _ Z).symm) X Y (Nat.le_trans j.size O.ch.size) a1 underlying52 el_3 e43)<|rz
 intro done ρ σ A R w y s
 obtain ⟨h3,h4,h5,h21,h22,h23⟩:=k6 s.rg h3 h4 h5 h21 h22 h23
 obtain ⟨h29,h30,h31⟩:=k3 s.rg h29 h30 h31
 have z44:=s.inivR 0 Z
 have z45:=s.inivR 1 Z
 obtain ⟨u46,e_u46⟩:∃ u,ρ 10=u:=⟨_,Z⟩
 have h46:=s.ov y 10 7 e_u46
 have eS_u8:=s.inisR 1 Z
 have h39:=s.r y 0 Z
 have h40:=s.r y 1 Z
 replace f_u25:=f_u25.stp s.stp
 replace f_u34:=f_u34.stp s.stp
 replace f_v0:=f_v0.stp s.stp
 obtain ⟨B,j,d⟩:=s.s B C j q ⟨Z,⟨fun _ h=>h,⟨Z,N⟩⟩⟩
 replace q:=s.left y [(0,ob u36 (.vec w0.heap.size 9 eStr (y30++([(gtD x23 y29)]:List (List UInt8))))),(1,⟨u8,S42,.gen (geB w0.heap.size) (mapX prog 9 w0.heap.size 3 (eInt .i64) (y31.1,(gtD x23 y29)::y31.2.1,y31.2.2))⟩),(10,ob u46 (.vec w0.heap.size 3 (eInt .i64) ((y31.1 (gtD x23 y29))++([y14]:List Int))))] ⟨Z,Z,z44,Z,Z,⟨Z,Z,z45,eS_u8,Z,⟨Z,Z,e_u46,Z,Z,N⟩⟩⟩
 obtain ⟨e47,c⟩:=zA3 c
 refine SG.op0 Z Z Z (zIO q d 1 2 Z Z (by decide) underlying9 underlying62 (of_decide_eq_true e47) h39 (f_u34.eq h40) h46 (of_decide_eq_true e40) (fun k hk=>zLJ (q.ok 2 _ Z).1 (q.own 2 _ Z) k hk)) ?_
 rintro v_ w ⟨hch,hst,hA2,hO2⟩
 replace j:Fr w0 w:=j.tr hch ((q.own 1 _ Z).1)
 replace d:=hA2
 replace q:IniOK [ob u36 (.vec w0.heap.size 9 eStr (y30++([(gtD x23 y29)]:List (List UInt8)))),⟨u8,(fun k=>S42 k∨zAJ u46 k),.gen (geB w0.heap.size) (mapX prog 9 w0.heap.size 3 (eInt .i64) ((fun s'=>if s'=(gtD x23 y29) then ((y31.1 (gtD x23 y29))++([y14]:List Int)) else y31.1 s'),y31.2.1,y31.2.2+1))⟩,⟨undef,(fun _=>False),.nul⟩] A w:=hO2
 replace q:IniOK [ob u36 (.vec w0.heap.size 9 eStr (y30++([(gtD x23 y29)]:List (List UInt8)))),⟨u8,(fun k=>S42 k∨zAJ u46 k),.gen (geB w0.heap.size) (mapX prog 9 w0.heap.size 3 (eInt .i64) ((fun s'=>if s'=(gtD x23 y29) then ((y31.1 (gtD x23 y29))++([y14]:List Int)) else y31.1 s'),y31.2.1,y31.2.2+1))⟩] A w:=q.sub [(0,ob u36 (.vec w0.heap.size 9 eStr (y30++([(gtD x23 y29)]:List (List UInt8))))),(1,⟨u8,(fun k=>S42 k∨zAJ u46 k),.gen (geB w0.heap.size) (mapX prog 9 w0.heap.size 3 (eInt .i64) ((fun s'=>if s'=(gtD x23 y29) then ((y31.1 (gtD x23 y29))++([y14]:List Int)) else y31.1 s'),y31.2.1,y31.2.2+1))⟩)] ⟨Z,Z,⟨Z,Z,N⟩⟩
 obtain ⟨S48,e_S48⟩:∃ S,S=fun k=>S42 k∨zAJ u46 k:=⟨_,Z⟩
 replace q:IniOK [ob u36 (.vec w0.heap.size 9 eStr (y30++([(gtD x23 y29)]:List (List UInt8)))),⟨u8,S48,.gen (geB w0.heap.size) (mapX prog 9 w0.heap.size 3 (eInt .i64) ((fun s'=>if s'=(gtD x23 y29) then ((y31.1 (gtD x23 y29))++([y14]:List Int)) else y31.1 s'),y31.2.1,y31.2.2+1))⟩] A w:=e_S48 ▸ q
 replace f_u25:=f_u25.stp hst
 replace f_u34:=f_u34.stp hst
 replace f_v0:=f_v0.stp hst
 clear hst hch
 refine SG.fin Z ?_
 obtain ⟨e49,c⟩:=zA3 c
 refine HT.u d j (eI (y29+1)::eI (y29+1)::[]) ?_ ?_
 exact op (fun Q U W H D=>zAO ((H 31 Z).trans h31) Z e49)<|ov<|oz
 intro R w m n p d j
 obtain ⟨h3,h4,h5,h21,h22,h23⟩:=k6 n h3 h4 h5 h21 h22 h23
 obtain ⟨h29,h30⟩:=k2 n h29 h30
 have h31:=p.r 1 Z
 replace f_u25:=f_u25.fr m
 replace f_v0:=f_v0.fr m
 replace q:=q.fr m
 exact ei k (And.intro (Nat.lt_succ_self k) ⟨_,_,_,_,u36,S48,c,d,j,B,q,h3,h4,h5,h21,h22,h23,h29,h30,h31,f_u25,f_v0⟩)
 have c:=zAG c32 c
 refine HT.exit ?_
 obtain rfl:=si c
 exact ei _ ⟨_,ul_ul_u10,Sl_u8,Z,d,j,B,q,h3,h4,h21,h22,h23,f_v0⟩
 rintro R w ⟨A,s28,uo_ul_u10,So_u8,es,d,j,B,q,h3,h4,h21,h22,h23,f_v0⟩
 obtain rfl:=es.symm
 obtain ⟨e50,c⟩:=zA3 c
 refine HT.u d j (eI (y14+1)::eI (y14+1)::[]) ?_ ?_
 exact op (fun Q U W H D=>zAO ((H 23 Z).trans h23) Z e50)<|ov<|oz
 intro R w m n p d j
 obtain ⟨h3,h4,h21,h22⟩:=k4 n h3 h4 h21 h22
 have h23:=p.r 1 Z
 replace f_v0:=f_v0.fr m
 replace q:=q.fr m
 exact ei k (And.intro (Nat.lt_succ_self k) ⟨_,_,_,_,uo_ul_u10,So_u8,c,d,j,B,q,h3,h4,h21,h22,h23,f_v0⟩)
 have c:=zAG c17 c
 refine HT.exit ?_
 obtain rfl:=si c
 exact ei _ ⟨_,ul_u10,Sl_u8,Z,d,j,B,q,h3,h4⟩
 rintro R w ⟨A,s13,uo_u10,So_u8,es,d,j,B,q,h3,h4⟩
 obtain rfl:=es.symm
 refine HT.sx [ob uo_u10 (.vec w0.heap.size 9 eStr s13.1),⟨u8,So_u8,.gen (geB w0.heap.size) (mapX prog 9 w0.heap.size 3 (eInt .i64) s13.2)⟩] (⟨_,true,[],some (trR (geB w0.heap.size) (oSl 54 (oPr (oRd eStr) (oSl 3 (oRd (eInt .i64))))) ([]:List zAA) []),true,fun A=>.any⟩::[]) (ua (UAll.nil)) q d ?_ ?_
 exact rc (OblR.madeS _ Z Z Z Z fun V Q U O D=>by exact zJM Z)<|rz
 intro done ρ σ A R w y s
 obtain ⟨h3,h4⟩:=k2 s.rg h3 h4
 have z51:=s.inivR 0 Z
 have z52:=s.inivR 1 Z
 obtain ⟨u53,e_u53⟩:∃ u,ρ 2=u:=⟨_,Z⟩
 have h9:=s.ov y 2 0 e_u53
 have eS_u8:=s.inisR 1 Z
 obtain ⟨S54,eS_u53⟩:∃ S,σ 2=S:=⟨_,Z⟩
 obtain ⟨B,j,d⟩:=s.s B C j q ⟨Z,⟨fun _ h=>h,N⟩⟩
 replace q:=s.left y [(0,ob uo_u10 (.vec w0.heap.size 9 eStr s13.1)),(1,⟨u8,So_u8,.gen (geB w0.heap.size) (mapX prog 9 w0.heap.size 3 (eInt .i64) s13.2)⟩),(2,⟨u53,S54,trR (geB w0.heap.size) (oSl 54 (oPr (oRd eStr) (oSl 3 (oRd (eInt .i64))))) ([]:List zAA) []⟩)] ⟨Z,Z,z51,Z,Z,⟨Z,Z,z52,eS_u8,Z,⟨Z,Z,e_u53,eS_u53,Z,N⟩⟩⟩
 refine HT.seq ?_
 refine HT.seq ?_
 refine SG.of ?_
 obtain ⟨x55,q56,c⟩:=zA4 c
 refine SG.textR [ob uo_u10 (.vec w0.heap.size 9 eStr s13.1),⟨u8,So_u8,.gen (geB w0.heap.size) (mapX prog 9 w0.heap.size 3 (eInt .i64) s13.2)⟩,⟨u53,S54,trR (geB w0.heap.size) (oSl 54 (oPr (oRd eStr) (oSl 3 (oRd (eInt .i64))))) ([]:List zAA) []⟩] (rR uo_u10::⟨_,true,[],some (.vec w0.heap.size 9 eStr x55),true,fun A=>.any⟩::[]) 2 Z Z Z (by kernel_rfl) (by kernel_rfl) (Wf.mk' (by kernel_rfl) (ur (ua (UAll.nil))) (by kernel_rfl) (by kernel_rfl)) q d (N) ?_ ?_
 exact rm h4<|rc (OblR.made _ Z Z Z Z fun V Q U O D=>by have a0:Q 49=uo_u10:=D.g 0 Z;have ra0:=(zBf (O.rd 0 _ Z Z) (O.low' B C (q.ge (⟨Z,⟨fun _ h=>h,⟨fun _ h=>h,N⟩⟩⟩))) C).eq a0;exact zE3 call42 (zBX (q56 Z) (hA00.fr ((Nat.le_trans j.size O.ch.size))) ra0) (Nat.le_trans j.size O.ch.size) (O.low' B C (q.ge (⟨Z,⟨fun _ h=>h,⟨fun _ h=>h,N⟩⟩⟩))) (fun _ _ _ _ _ h=>h))<|rz
 intro done ρ σ A R w y s
 obtain ⟨h3,h9⟩:=k2 s.rg h3 h9
 have z57:=s.inivR 0 Z
 have z58:=s.inivR 1 Z
 have z59:=s.inivR 2 Z
 obtain ⟨u60,e_u60⟩:∃ u,ρ 4=u:=⟨_,Z⟩
 have h50:=s.ov y 4 1 e_u60
 have eS_u8:=s.inisR 1 Z
 have eS_u53:=s.inisR 2 Z
 obtain ⟨B,j,d⟩:=s.s B C j q ⟨Z,⟨fun _ h=>h,⟨fun _ h=>h,N⟩⟩⟩
 replace q:=s.left y [(1,⟨u8,So_u8,.gen (geB w0.heap.size) (mapX prog 9 w0.heap.size 3 (eInt .i64) s13.2)⟩),(2,⟨u53,S54,trR (geB w0.heap.size) (oSl 54 (oPr (oRd eStr) (oSl 3 (oRd (eInt .i64))))) ([]:List zAA) []⟩),(4,ob u60 (.vec w0.heap.size 9 eStr x55))] ⟨Z,Z,z58,eS_u8,Z,⟨Z,Z,z59,eS_u53,Z,⟨Z,Z,e_u60,Z,Z,N⟩⟩⟩
 refine SG.textR [⟨u8,So_u8,.gen (geB w0.heap.size) (mapX prog 9 w0.heap.size 3 (eInt .i64) s13.2)⟩,⟨u53,S54,trR (geB w0.heap.size) (oSl 54 (oPr (oRd eStr) (oSl 3 (oRd (eInt .i64))))) ([]:List zAA) []⟩,ob u60 (.vec w0.heap.size 9 eStr x55)] (rA::rR u60::rI (x55.length:Int)::rI 0::[]) 4 Z Z Z (by kernel_rfl) (by kernel_rfl) (Wf.mk' (by kernel_rfl) (ua (ur (ur (ur (UAll.nil))))) (by kernel_rfl) (by kernel_rfl)) q d (⟨⟨Z,Z,Z,N⟩,⟨⟨Z,Z,Z,h50⟩,N⟩⟩) ?_ ?_
 exact rp (fun V Q U O D=>zCJ (q.ok 2 _ Z).1 (D.g 0 Z) underlying34)<|rp (fun V Q U O D=>zC1 Z)<|rz
 intro done ρ σ A R w y s
 obtain ⟨h3,h9⟩:=k2 s.rg h3 h9
 have z61:=s.inivR 0 Z
 have z62:=s.inivR 1 Z
 have z63:=s.inivR 2 Z
 have eS_u8:=s.inisR 0 Z
 have eS_u53:=s.inisR 1 Z
 have h50:=s.r y 1 Z
 have h51:=s.r y 2 Z
 have h52:=s.r y 3 Z
 obtain ⟨B,j,d⟩:=s.s B C j q ⟨fun _ h=>h,⟨fun _ h=>h,⟨Z,N⟩⟩⟩
 replace q:=s.left y [(0,⟨u8,So_u8,.gen (geB w0.heap.size) (mapX prog 9 w0.heap.size 3 (eInt .i64) s13.2)⟩),(1,⟨u53,S54,trR (geB w0.heap.size) (oSl 54 (oPr (oRd eStr) (oSl 3 (oRd (eInt .i64))))) ([]:List zAA) []⟩),(2,ob u60 (.vec w0.heap.size 9 eStr x55))] ⟨Z,Z,z61,eS_u8,Z,⟨Z,Z,z62,eS_u53,Z,⟨Z,Z,z63,Z,Z,N⟩⟩⟩
 refine SG.fin Z ?_
 obtain ⟨rl64,q65,c⟩:=zA4 c
 replace q65:=q65 Z
 refine HT.cut0 (fun R w=>∃ A:Av,∃ (s66:(List zAA)) (uo_u53:Value) (So_u53:Nat→Prop),rl64=s66∧AvOK A w∧Fr w0 w∧(∀ b o,A0 b o→A b o)∧IniOK [⟨uo_u53,So_u53,trR (geB w0.heap.size) (oSl 54 (oPr (oRd eStr) (oSl 3 (oRd (eInt .i64))))) s66 []⟩] A w∧R 9=uo_u53) ?_ ?_
 refine HT.block ?_
 refine HT.loop (fun k R w=>∃ A:Av,∃ (y67:Int) (y68:MpT Int) (y69:List zAA) (Sl_u8:Nat→Prop) (ul_u53:Value) (Sl_u53:Nat→Prop),zAU fu x55 k y67 y68 y69=some rl64∧AvOK A w∧Fr w0 w∧(∀ b o,A0 b o→A b o)∧IniOK [⟨u8,Sl_u8,.gen (geB w0.heap.size) (mapX prog 9 w0.heap.size 3 (eInt .i64) y68)⟩,⟨ul_u53,Sl_u53,trR (geB w0.heap.size) (oSl 54 (oPr (oRd eStr) (oSl 3 (oRd (eInt .i64))))) y69 []⟩,ob u60 (.vec w0.heap.size 9 eStr x55)] A w∧R 3=u8∧R 9=ul_u53∧R 50=u60∧R 51 = .int .i64 (x55.length:Int)∧R 52 = .int .i64 y67) fu ⟨_,_,_,_,So_u8,u53,S54,q65,d,j,B,q,h3,h9,h50,h51,h52⟩ ?_
 have hr0:=c;clear c q65
 rintro k R w ⟨A,y67,y68,y69,Sl_u8,ul_u53,Sl_u53,c,d,j,B,q,h3,h9,h50,h51,h52⟩
 rcases k with _ | k
 cases (show none=some _ from c)
 rw [zAU] at c
 refine HT.su d j (eB (decide (y67<(x55.length:Int)))::[]) ?_ ?_
 exact op (fun Q U W H D=>zAg ((H 52 Z).trans h52) ((H 51 Z).trans h51))<|oz
 intro R w m n p d j
 obtain ⟨h3,h9,h50,h51,h52⟩:=k5 n h3 h9 h50 h51 h52
 have h53:=p.r 0 Z
 replace q:=q.fr m
 refine HT.seq ?_
 refine HT.cond (decide (y67<(x55.length:Int))) h53 (fun c70=>?_) (fun c70=>?_)
 have c:=zAH c70 c
 refine HT.skip ?_
 refine HT.seq ?_
 refine HT.block ?_
 obtain ⟨e71,c⟩:=zA3 c
 refine HT.su d j (eR (vptr u60 (y67.toNat*1))::eF (.rep eStr A (gtD x55 y67))::eF (.rep eStr A (gtD x55 y67))::[]) ?_ ?_
 exact op (fun Q U W H D=>zB6 (q.ok 2 _ Z).1 ((H 50 Z).trans h50) ((H 52 Z).trans h52) underlying34 sizeOf9 e71 Z)<|op (fun Q U W H D=>(zCc ((q.fr W).ok 2 _ Z).1 (D.g 0 Z) e71 Z (Fld.id _) Z isAgg9 sizeOf9))<|op (fun Q U W H D=>zA0 (D.g 0 Z))<|oz
 intro R w m n p d j
 obtain ⟨h3,h9,h50,h51,h52⟩:=k5 n h3 h9 h50 h51 h52
 obtain ⟨u72,h11,f_u72⟩:∃ u,R 11=u∧Rep eStr A w u (gtD x55 y67):=⟨_,Z,p 2 _ _ Z Z Z⟩
 replace q:=q.fr m
 refine SG.of ?_
 refine SG.textR [⟨u8,Sl_u8,.gen (geB w0.heap.size) (mapX prog 9 w0.heap.size 3 (eInt .i64) y68)⟩,⟨ul_u53,Sl_u53,trR (geB w0.heap.size) (oSl 54 (oPr (oRd eStr) (oSl 3 (oRd (eInt .i64))))) y69 []⟩,ob u60 (.vec w0.heap.size 9 eStr x55)] (rR ul_u53::rR u72::rR u8::rR u72::[]) 4 Z Z Z (by kernel_rfl) (by kernel_rfl) (Wf.mk' (by kernel_rfl) (ur (ur (ur (ur (UAll.nil))))) (by kernel_rfl) (by kernel_rfl)) q d (N) ?_ ?_
 exact rm h9<|rm h11<|rm h3<|rm h11<|rz
 intro done ρ σ A R w y s
 obtain ⟨h3,h9,h50,h51,h52⟩:=k5 s.rg h3 h9 h50 h51 h52
 have z73:=s.inivR 0 Z
 have z74:=s.inivR 1 Z
 have z75:=s.inivR 2 Z
 have eS_u8:=s.inisR 0 Z
 have eS_ul_u53:=s.inisR 1 Z
 have h56:=s.r y 0 Z
 have h57:=s.r y 1 Z
 have h58:=s.r y 2 Z
 have h59:=s.r y 3 Z
 replace f_u72:=f_u72.stp s.stp
 obtain ⟨B,j,d⟩:=s.s B C j q ⟨fun _ h=>h,⟨fun _ h=>h,⟨Z,N⟩⟩⟩
 replace q:=s.left y [(0,⟨u8,Sl_u8,.gen (geB w0.heap.size) (mapX prog 9 w0.heap.size 3 (eInt .i64) y68)⟩),(1,⟨ul_u53,Sl_u53,trR (geB w0.heap.size) (oSl 54 (oPr (oRd eStr) (oSl 3 (oRd (eInt .i64))))) y69 []⟩),(2,ob u60 (.vec w0.heap.size 9 eStr x55))] ⟨Z,Z,z73,eS_u8,Z,⟨Z,Z,z74,eS_ul_u53,Z,⟨Z,Z,z75,Z,Z,N⟩⟩⟩
 obtain ⟨e76,c⟩:=zA3 c
 refine SG.op 60 Z Z Z Z (zIA q 0 Z underlying9 underlying62 (zeroValue52 _) h58 (f_u72.eq h59) (of_decide_eq_true e76) zHf) ?_
 rintro u77 w1 ⟨hw_,S78,hO2,-⟩ R n hd
 obtain rfl:w=w1:=hw_.symm
 have hst:Stp A A w w:=(Fr.refl w).stp A
 replace q:IniOK [⟨u8,S78,.gen (geB w0.heap.size) (mapX prog 9 w0.heap.size 3 (eInt .i64) (y68.1,(gtD x55 y67)::y68.2.1,y68.2.2))⟩,⟨ul_u53,Sl_u53,trR (geB w0.heap.size) (oSl 54 (oPr (oRd eStr) (oSl 3 (oRd (eInt .i64))))) y69 []⟩,ob u60 (.vec w0.heap.size 9 eStr x55),ob u77 (.vec w0.heap.size 3 (eInt .i64) (y68.1 (gtD x55 y67)))] A w:=hO2
 replace h3:=(n 3 Z).trans h3
 replace h9:=(n 9 Z).trans h9
 replace h50:=(n 50 Z).trans h50
 replace h51:=(n 51 Z).trans h51
 replace h52:=(n 52 Z).trans h52
 replace h56:=(n 56 Z).trans h56
 replace h57:=(n 57 Z).trans h57
 replace h58:=(n 58 Z).trans h58
 replace h59:=(n 59 Z).trans h59
 replace f_u72:=f_u72.stp hst
 have h60:R 60=u77:=hd
 clear n hd hst
 obtain ⟨e80,c⟩:=zA3 c
 refine SG.textR [⟨u8,S78,.gen (geB w0.heap.size) (mapX prog 9 w0.heap.size 3 (eInt .i64) (y68.1,(gtD x55 y67)::y68.2.1,y68.2.2))⟩,⟨ul_u53,Sl_u53,trR (geB w0.heap.size) (oSl 54 (oPr (oRd eStr) (oSl 3 (oRd (eInt .i64))))) y69 []⟩,ob u60 (.vec w0.heap.size 9 eStr x55),ob u77 (.vec w0.heap.size 3 (eInt .i64) (y68.1 (gtD x55 y67)))] (rR ul_u53::rR u72::rR u8::rR u72::rR u77::⟨_,true,[3],some (trR (geB w0.heap.size) (oPr (oRd eStr) (oSl 3 (oRd (eInt .i64)))) ((gtD x55 y67),(y68.1 (gtD x55 y67))) []),true,fun A=>.any⟩::⟨_,true,[9],some (trR (geB w0.heap.size) (oSl 54 (oPr (oRd eStr) (oSl 3 (oRd (eInt .i64))))) ([((gtD x55 y67),(y68.1 (gtD x55 y67)))]:List zAA) []),true,fun A=>.any⟩::⟨_,true,[1,10],some (trR (geB w0.heap.size) (oSl 54 (oPr (oRd eStr) (oSl 3 (oRd (eInt .i64))))) (y69 ++ [((gtD x55 y67),(y68.1 (gtD x55 y67)))]) []),true,fun A=>.any⟩::⟨_,true,[11],some (trR (geB w0.heap.size) (oSl 54 (oPr (oRd eStr) (oSl 3 (oRd (eInt .i64))))) (y69 ++ [((gtD x55 y67),(y68.1 (gtD x55 y67)))]) []),true,fun A=>.any⟩::[]) 9 Z Z Z (by kernel_rfl) (by kernel_rfl) (Wf.mk' (by kernel_rfl) (ur (ur (ur (ur (ur (ua (ua (ua (ua (UAll.nil)))))))))) (by kernel_rfl) (by kernel_rfl)) q d (⟨⟨Z,Z,Z,h56⟩,⟨⟨Z,Z,Z,h57⟩,⟨⟨Z,Z,Z,h58⟩,⟨⟨Z,Z,Z,h59⟩,⟨⟨Z,Z,Z,h60⟩,N⟩⟩⟩⟩⟩) ?_ ?_
 exact rc (OblR.tookS 3 _ _ Z Z Z Z Z fun V Q U O D u S X I Y J L M=>by have a0:Q 57=u72:=D.g 0 Z;have ra0:=(f_u72.stp O.stp).eq a0;have a1:Q 60=u77:=D.g 1 Z;obtain ⟨c79s,c79,c79r⟩:=zHQ ra0;obtain ⟨gc,ge,go⟩:=zHR X I;obtain ⟨ga,gn,gk,rfl⟩:=zJk go;have gx:Q 60 = .slice ga gn gk:=(a1.trans (J _ Z).1.symm).trans ge;exact zLU (v:=.agg #[.string c79s,.slice ga gn gk]) (by simp [execOp,Instr.build,zA9,c79,gx,underlying,underlying54,zeroValue54,sizeOf52,sizeOf9,go_sem,Instr.fill]) ⟨⟨_,Z,zNl (zFC c79r) go⟩,fun q hq=>by cases hq⟩ Y (zLJ X I))<|rc (OblR.tookS 9 _ _ Z Z Z Z Z fun V Q U O D u S X I Y J L M=>by exact zJm I.2 (L _ _ Z Z Z Z).symm Y I.1 (fun k hk=>Nat.le_trans (Nat.le_trans j.size O.ch.size) hk) underlying24 sizeOf54 zeroValue54 (by decide))<|rc (OblR.tookM 1 [10] _ Z Z Z Z fun V Q U O D ρ σ X Y J L M hdd=>by have a0:Q 56=ul_u53:=D.g 0 Z;exact zJ5 Z (trP.nopin (X 1 (.head _) _ Z).2.2) (trP.nopin (X 10 (.tail _ (.head _)) _ Z).2.2) (a0.trans (J 1 (.head _) _ Z).1.symm) (L 10 (.tail _ (.head _)) _ _ Z Z Z Z).symm Y hdd (X 1 (.head _) _ Z).2.1 (X 10 (.tail _ (.head _)) _ Z).2.1 (fun k hk=>Nat.le_trans (Nat.le_trans j.size O.ch.size) hk) underlying24 zO9 (by decide) e80)<|rc (OblR.tookS 11 _ _ Z Z Z Z Z fun V Q U O D u S X I Y J L M=>by exact zEi (L _ _ Z Z Z Z).symm (trP.nopin I.2) Y I.1)<|rz
 intro done ρ σ A R w y s
 obtain ⟨h3,h50,h51,h52⟩:=k4 s.rg h3 h50 h51 h52
 have z81:=s.inivR 0 Z
 obtain ⟨u82,e_u82⟩:∃ u,ρ 12=u:=⟨_,Z⟩
 have h9:=s.ov y 12 8 e_u82
 have z83:=s.inivR 2 Z
 have eS_u8:=s.inisR 0 Z
 obtain ⟨S84,eS_u82⟩:∃ S,σ 12=S:=⟨_,Z⟩
 obtain ⟨B,j,d⟩:=s.s B C j q ⟨fun _ h=>h,⟨fun _ h=>h,⟨Z,⟨Z,N⟩⟩⟩⟩
 replace q:=s.left y [(0,⟨u8,S78,.gen (geB w0.heap.size) (mapX prog 9 w0.heap.size 3 (eInt .i64) (y68.1,(gtD x55 y67)::y68.2.1,y68.2.2))⟩),(12,⟨u82,S84,trR (geB w0.heap.size) (oSl 54 (oPr (oRd eStr) (oSl 3 (oRd (eInt .i64))))) (y69 ++ [((gtD x55 y67),(y68.1 (gtD x55 y67)))]) []⟩),(2,ob u60 (.vec w0.heap.size 9 eStr x55))] ⟨Z,Z,z81,eS_u8,Z,⟨Z,Z,e_u82,eS_u82,Z,⟨Z,Z,z83,Z,Z,N⟩⟩⟩
 refine SG.fin Z ?_
 obtain ⟨e85,c⟩:=zA3 c
 refine HT.u d j (eI (y67+1)::eI (y67+1)::[]) ?_ ?_
 exact op (fun Q U W H D=>zAO ((H 52 Z).trans h52) Z e85)<|ov<|oz
 intro R w m n p d j
 obtain ⟨h3,h9,h50,h51⟩:=k4 n h3 h9 h50 h51
 have h52:=p.r 1 Z
 replace q:=q.fr m
 exact ei k (And.intro (Nat.lt_succ_self k) ⟨_,_,_,_,S78,u82,S84,c,d,j,B,q,h3,h9,h50,h51,h52⟩)
 have c:=zAG c70 c
 refine HT.exit ?_
 obtain rfl:=si c
 replace q:IniOK [⟨ul_u53,Sl_u53,trR (geB w0.heap.size) (oSl 54 (oPr (oRd eStr) (oSl 3 (oRd (eInt .i64))))) y69 []⟩] A w:=q.sub [(1,⟨ul_u53,Sl_u53,trR (geB w0.heap.size) (oSl 54 (oPr (oRd eStr) (oSl 3 (oRd (eInt .i64))))) y69 []⟩)] ⟨Z,Z,N⟩
 exact ei _ ⟨_,ul_u53,Sl_u53,Z,d,j,B,q,h9⟩
 rintro R w ⟨A,s66,uo_u53,So_u53,es,d,j,B,q,h9⟩
 obtain rfl:=es.symm
 refine HT.sx [⟨uo_u53,So_u53,trR (geB w0.heap.size) (oSl 54 (oPr (oRd eStr) (oSl 3 (oRd (eInt .i64))))) s66 []⟩] (rR uo_u53::rR uo_u53::[]) (ur (ur (UAll.nil))) q d ?_ ?_
 exact rm h9<|ra<|rz
 intro done ρ σ A R w y s
 have z86:=s.inivR 0 Z
 have eS_uo_u53:=s.inisR 0 Z
 have h2:=s.r y 1 Z
 obtain ⟨B,j,d⟩:=s.s B C j q ⟨fun _ h=>h,N⟩
 replace q:=s.left y [(0,⟨uo_u53,So_u53,trR (geB w0.heap.size) (oSl 54 (oPr (oRd eStr) (oSl 3 (oRd (eInt .i64))))) s66 []⟩)] ⟨Z,Z,z86,eS_uo_u53,Z,N⟩
 refine HT.ret ?_
 obtain rfl:=si c
 exact ⟨.inr Z,[R 2],⟨Z,N⟩,zHe Z (q.own 0 _ Z) (q.ok 0 _ Z).2 B j h2 N⟩
theorem zFF {fu : Nat} {A0 : Av} {p0 : List zA2} {r : List zAA} (c : zC9 fu p0 = some r) {w : World} {v0 : Value} (d : AvOK A0 w) (hG : GTab w) (h0 : Rep (eSl zA1) A0 w v0 p0) :
 Calls prog 11 #[v0] w fun e w'=>∃ v,e = .returned v∧(Rep (eSl zAD) A0 w' v r∧Fr w w'):=by
 refine Calls.mono (zFV c d hG h0) ?_
 rintro e w' ⟨v,he,h⟩
 exact ⟨v,he,zJG h d⟩
def zBe (fu : Nat) (p0 : List (List UInt8)) (p1 : List (List UInt8)) : Nat → Int → Option (Ex Bool Unit)
 | 0,_=>none
 | k+1,y5=>
 bif (decide (y5<(p0.length:Int))) then (
 ck (inR y5 p0.length) <|
 ck (inR y5 p1.length) <|
 bif (!((gtD p0 y5)==(gtD p1 y5))) then (
 some (Ex.ret false)
 ) else (
 ck (i64B (y5+1)) <|
 zBe fu p0 p1 k (y5+1)
 )
 ) else (
 some (Ex.go ())
 )
def zBR (fu:Nat) (p0:List (List UInt8)) (p1:List (List UInt8)):Option Bool:=
 bif ((p0.length:Int) != (p1.length:Int)) then (
 some false
 ) else (
 cl true (zBe fu p0 p1 fu 0) fun rl2=>
 exM rl2 (fun r=>some r) fun s4=>
 some true
 )
theorem zCo {fu : Nat} {A : Av} {p0 : List (List UInt8)} {p1 : List (List UInt8)} {r : Bool} (c : zBR fu p0 p1 = some r) {w : World} {v0 : Value} {v1 : Value} (d : AvOK A w) (h0 : Rep (eSl eStr) A w v0 p0) (h1 : Rep (eSl eStr) A w v1 p1) :
 Calls prog 21 #[v0,v1] w fun e w'=>∃ v,e = .returned v∧(v = .bool r∧Fr w w'):=by
 unfold zBR at c
 obtain ⟨w0,hw0,j⟩:=pf w
 rw [fw hw0]
 refine zA5 [.tmp 4] func21 ntmps21 (by decide) Z Z (nb Z) ?_
 intro R hR
 have f_v0:=h0
 replace h0:R 0=v0:=hR 0 _ Z
 have f_v1:=h1
 replace h1:R 1=v1:=hR 1 _ Z
 refine HT.su d j (eB false::[]) ?_ ?_
 exact op (fun Q U W H D=>zA0 Z)<|oz
 intro R w m n p d j
 obtain ⟨h0,h1⟩:=k2 n h0 h1
 replace f_v0:=f_v0.fr m
 replace f_v1:=f_v1.fr m
 refine HT.seq ?_
 refine HT.su d j (eR v0::eI (p0.length:Int)::eR v1::eI (p1.length:Int)::eB ((p0.length:Int) != (p1.length:Int))::[]) ?_ ?_
 exact om h0<|op (fun Q U W H D=>zAL (aT:=#[]) ((f_v0.fr W).eq (D.g 0 Z)) underlying34)<|om h1<|op (fun Q U W H D=>zAL (aT:=#[]) ((f_v1.fr W).eq (D.g 0 Z)) underlying34)<|op (fun Q U W H D=>zEg (D.g 0 Z) (D.g 1 Z))<|oz
 intro R w m n p d j
 obtain ⟨h0,h1⟩:=k2 n h0 h1
 have h10:=p.r 4 Z
 replace f_v0:=f_v0.fr m
 replace f_v1:=f_v1.fr m
 refine HT.cond ((p0.length:Int) != (p1.length:Int)) h10 (fun c1=>?_) (fun c1=>?_)
 have c:=zAH c1 c
 refine HT.su d j (eB false::[]) ?_ ?_
 exact op (fun Q U W H D=>zA0 Z)<|oz
 intro R w m n p d j
 have h4:=p.r 0 Z
 refine HT.ret ?_
 obtain rfl:=si c
 exact ⟨.inr Z,[R 4],⟨Z,N⟩,h4,j⟩
 have c:=zAG c1 c
 refine HT.skip ?_
 refine HT.seq ?_
 refine HT.su d j (eI 0::[]) ?_ ?_
 exact op (fun Q U W H D=>zA0 Z)<|oz
 intro R w m n p d j
 obtain ⟨h0,h1⟩:=k2 n h0 h1
 have h5:=p.r 0 Z
 replace f_v0:=f_v0.fr m
 replace f_v1:=f_v1.fr m
 obtain ⟨rl2,q3,c⟩:=zA4 c
 replace q3:=q3 Z
 refine HT.cut0 (fun R w=>∃ (s4:Unit),rl2=Ex.go s4∧AvOK A w∧Fr w0 w) ?_ ?_
 refine HT.block ?_
 refine HT.loop (fun k R w=>∃ (y5:Int),zBe fu p0 p1 k y5=some rl2∧AvOK A w∧Fr w0 w∧R 0=v0∧R 1=v1∧R 5 = .int .i64 y5∧Rep (eSl eStr) A w v0 p0∧Rep (eSl eStr) A w v1 p1) fu ⟨_,q3,d,j,h0,h1,h5,f_v0,f_v1⟩ ?_
 have hr0:=c;clear c q3
 rintro k R w ⟨y5,c,d,j,h0,h1,h5,f_v0,f_v1⟩
 rcases k with _ | k
 cases (show none=some _ from c)
 rw [zBe] at c
 refine HT.seq ?_
 refine HT.su d j (eI y5::eR v0::eI (p0.length:Int)::eB (decide (y5<(p0.length:Int)))::[]) ?_ ?_
 exact om h5<|om h0<|op (fun Q U W H D=>zAL (aT:=#[]) ((f_v0.fr W).eq (D.g 0 Z)) underlying34)<|op (fun Q U W H D=>zAg (D.g 0 Z) (D.g 1 Z))<|oz
 intro R w m n p d j
 obtain ⟨h0,h1,h5⟩:=k3 n h0 h1 h5
 have h14:=p.r 3 Z
 replace f_v0:=f_v0.fr m
 replace f_v1:=f_v1.fr m
 refine HT.cond (decide (y5<(p0.length:Int))) h14 (fun c6=>?_) (fun c6=>?_)
 have c:=zAH c6 c
 refine HT.skip ?_
 refine HT.seq ?_
 refine HT.block ?_
 refine HT.seq ?_
 obtain ⟨e7,e8,c⟩:=ck2 c
 refine HT.draw (by kernel_rfl) (l:=eR v0::eI y5::eF (.qtr eStr A (gtD p0 y5))::eF (.rep eStr A (gtD p0 y5))::eR v1::eI y5::eF (.qtr eStr A (gtD p1 y5))::eF (.rep eStr A (gtD p1 y5))::eB (!((gtD p0 y5)==(gtD p1 y5)))::[]) (tl:=[]) (by kernel_rfl) (by kernel_rfl) (by kernel_rfl) (by kernel_rfl) ?_ ?_
 exact om h0<|om h5<|op (fun Q U W H D=>zAB ((f_v0.fr W).eq (D.g 0 Z)) (D.g 1 Z) underlying34 sizeOf9 e7)<|op (fun Q U W H D=>(zAf (QRep.ptr (D.g 0 Z)) isAgg9 sizeOf9))<|om h1<|om h5<|op (fun Q U W H D=>zAB ((f_v1.fr W).eq (D.g 0 Z)) (D.g 1 Z) underlying34 sizeOf9 e8)<|op (fun Q U W H D=>(zAf (QRep.ptr (D.g 0 Z)) isAgg9 sizeOf9))<|op (fun Q U W H D=>zF2 (D.g 0 Z) (D.g 1 Z))<|oz
 intro R w m n p
 obtain ⟨h0,h1,h5⟩:=k3 n h0 h1 h5
 have h25:=p.r 8 Z
 replace f_v0:=f_v0.fr m
 replace f_v1:=f_v1.fr m
 replace d:=d.fr m.size
 replace j:=j.trans m
 refine HT.cond (!((gtD p0 y5)==(gtD p1 y5))) h25 (fun c9=>?_) (fun c9=>?_)
 have c:=zAH c9 c
 refine HT.su d j (eB false::[]) ?_ ?_
 exact op (fun Q U W H D=>zA0 Z)<|oz
 intro R w m n p d j
 have h4:=p.r 0 Z
 refine HT.ret ?_
 obtain rfl:=si c
 have c:=hr0
 replace c:some _=some _:=c
 obtain rfl:=si c
 exact ⟨.inr Z,[R 4],⟨Z,N⟩,h4,j⟩
 have c:=zAG c9 c
 refine HT.skip ?_
 obtain ⟨e10,c⟩:=zA3 c
 refine HT.u d j (eI y5::eI (y5+1)::eI (y5+1)::[]) ?_ ?_
 exact om h5<|op (fun Q U W H D=>zAO (D.g 0 Z) Z e10)<|oa<|oz
 intro R w m n p d j
 obtain ⟨h0,h1⟩:=k2 n h0 h1
 have h5:=p.r 2 Z
 replace f_v0:=f_v0.fr m
 replace f_v1:=f_v1.fr m
 exact ei k (And.intro (Nat.lt_succ_self k) ⟨_,c,d,j,h0,h1,h5,f_v0,f_v1⟩)
 have c:=zAG c6 c
 refine HT.exit ?_
 obtain rfl:=si c
 exact ei _ ⟨Z,d,j⟩
 rintro R w ⟨s4,rfl,d,j⟩
 have c:=zEN c
 refine HT.su d j (eB true::[]) ?_ ?_
 exact op (fun Q U W H D=>zA0 Z)<|oz
 intro R w m n p d j
 have h4:=p.r 0 Z
 refine HT.ret ?_
 obtain rfl:=si c
 exact ⟨.inr Z,[R 4],⟨Z,N⟩,h4,j⟩
def zDB (fu:Nat) (p0:zA2) (p1:zA2):Option Bool:=
 bif (p0.1 != p1.1) then (
 some false
 ) else (
 bif (p0.2.1 != p1.2.1) then (
 some false
 ) else (
 bif (p0.2.2.1 != p1.2.2.1) then (
 some false
 ) else (
 cl true (zBR fu p0.2.2.2 p1.2.2.2) fun x6=>
 bif (!x6) then (
 some false
 ) else (
 some true
 )
 )
 )
 )
theorem zGX {fu : Nat} {A0 : Av} {p0 : zA2} {p1 : zA2} {r : Bool} (c : zDB fu p0 p1 = some r) {w : World} {v0 : Value} {v1 : Value} (d : AvOK A0 w) (h0 : Rep zA1 A0 w v0 p0) (h1 : Rep zA1 A0 w v1 p1) :
 Calls prog 44 #[v0,v1] w fun e w'=>∃ v,e = .returned v∧(v = .bool r∧Fr w w'):=by
 unfold zDB at c
 obtain ⟨w0,hw0,j,C⟩:=pw d
 have hA00:AvOK A0 w0:=C
 rw [fw hw0]
 obtain ⟨A,hAe,B,d,q⟩:=pa d
 refine zA5 [.tmp 4] func44 ntmps44 (by decide) Z Z (nb Z) ?_
 intro R hR
 have f_v0:Rep zA1 A w v0 p0:=hAe ▸ h0
 replace h0:R 0=v0:=hR 0 _ Z
 have f_v1:Rep zA1 A w v1 p1:=hAe ▸ h1
 replace h1:R 1=v1:=hR 1 _ Z
 refine HT.sx [] (⟨_,true,[],some (.box w0.heap.size 51 zA1 p0),true,fun A=>.any⟩::⟨_,true,[],some (.box w0.heap.size 51 zA1 p1),true,fun A=>.any⟩::rB false::[]) (ua (ua (ur (UAll.nil)))) q d ?_ ?_
 exact rc (OblR.made _ Z Z Z Z fun V Q U O D=>by have a0:Q 0=v0:=(O.old 0 Z).trans h0;have ra0:=(f_v0.stp O.stp).eq a0;exact zEO ra0 (Nat.le_trans j.size O.ch.size))<|rc (OblR.made _ Z Z Z Z fun V Q U O D=>by have a0:Q 1=v1:=(O.old 1 Z).trans h1;have ra0:=(f_v1.stp O.stp).eq a0;exact zEO ra0 (Nat.le_trans j.size O.ch.size))<|rp (fun V Q U O D=>zA0 Z)<|rz
 intro done ρ σ A R w y s
 obtain ⟨b2_0,e_b2_0⟩:=s.boxv y 0 Z Z
 have h2:=s.ov y 0 0 e_b2_0
 obtain ⟨b3_1,e_b3_1⟩:=s.boxv y 1 Z Z
 have h3:=s.ov y 1 1 e_b3_1
 obtain ⟨B,j,d⟩:=s.s B C j q N
 replace q:=s.left y [(0,ob (.pointer (some ⟨b2_0,0,none⟩)) (.box w0.heap.size 51 zA1 p0)),(1,ob (.pointer (some ⟨b3_1,0,none⟩)) (.box w0.heap.size 51 zA1 p1))] ⟨Z,Z,e_b2_0,Z,Z,⟨Z,Z,e_b3_1,Z,Z,N⟩⟩
 refine HT.seq ?_
 refine HT.su d j (eR (.pointer (some ⟨b2_0,0,none⟩))::eI p0.1::eR (.pointer (some ⟨b3_1,0,none⟩))::eI p1.1::eB (p0.1 != p1.1)::[]) ?_ ?_
 exact op (fun Q U W H D=>zA7 ((H 2 Z).trans h2) zGw sizeOf3 (by decide) Z)<|op (fun Q U W H D=>OpF.int (zAE ((q.fr W).ok 0 _ Z).1 (D.g 0 Z) zCr Z isAgg3 sizeOf3))<|op (fun Q U W H D=>zA7 ((H 3 Z).trans h3) zGw sizeOf3 (by decide) Z)<|op (fun Q U W H D=>OpF.int (zAE ((q.fr W).ok 1 _ Z).1 (D.g 0 Z) zCr Z isAgg3 sizeOf3))<|op (fun Q U W H D=>zEg (D.g 0 Z) (D.g 1 Z))<|oz
 intro R w m n p d j
 obtain ⟨h2,h3⟩:=k2 n h2 h3
 have h9:=p.r 4 Z
 replace q:=q.fr m
 refine HT.cond (p0.1 != p1.1) h9 (fun c3=>?_) (fun c3=>?_)
 have c:=zAH c3 c
 refine HT.su d j (eB false::[]) ?_ ?_
 exact op (fun Q U W H D=>zA0 Z)<|oz
 intro R w m n p d j
 have h4:=p.r 0 Z
 replace q:=q.fr m
 replace q:IniOK [] A w:=q.sub [] N
 refine HT.ret ?_
 obtain rfl:=si c
 exact ⟨.inr Z,[R 4],⟨Z,N⟩,h4,j⟩
 have c:=zAG c3 c
 refine HT.skip ?_
 refine HT.seq ?_
 refine HT.su d j (eR (.pointer (some ⟨b2_0,1,none⟩))::eI p0.2.1::eR (.pointer (some ⟨b3_1,1,none⟩))::eI p1.2.1::eB (p0.2.1 != p1.2.1)::[]) ?_ ?_
 exact op (fun Q U W H D=>zA7 ((H 2 Z).trans h2) zGe sizeOf3 (by decide) Z)<|op (fun Q U W H D=>OpF.int (zAE ((q.fr W).ok 0 _ Z).1 (D.g 0 Z) zCv Z isAgg3 sizeOf3))<|op (fun Q U W H D=>zA7 ((H 3 Z).trans h3) zGe sizeOf3 (by decide) Z)<|op (fun Q U W H D=>OpF.int (zAE ((q.fr W).ok 1 _ Z).1 (D.g 0 Z) zCv Z isAgg3 sizeOf3))<|op (fun Q U W H D=>zEg (D.g 0 Z) (D.g 1 Z))<|oz
 intro R w m n p d j
 obtain ⟨h2,h3⟩:=k2 n h2 h3
 have h14:=p.r 4 Z
 replace q:=q.fr m
 refine HT.cond (p0.2.1 != p1.2.1) h14 (fun c4=>?_) (fun c4=>?_)
 have c:=zAH c4 c
 refine HT.su d j (eB false::[]) ?_ ?_
 exact op (fun Q U W H D=>zA0 Z)<|oz
 intro R w m n p d j
 have h4:=p.r 0 Z
 replace q:=q.fr m
 replace q:IniOK [] A w:=q.sub [] N
 refine HT.ret ?_
 obtain rfl:=si c
 exact ⟨.inr Z,[R 4],⟨Z,N⟩,h4,j⟩
 have c:=zAG c4 c
 refine HT.skip ?_
 refine HT.seq ?_
 refine HT.su d j (eR (.pointer (some ⟨b2_0,2,none⟩))::eI p0.2.2.1::eR (.pointer (some ⟨b3_1,2,none⟩))::eI p1.2.2.1::eB (p0.2.2.1 != p1.2.2.1)::[]) ?_ ?_
 exact op (fun Q U W H D=>zA7 ((H 2 Z).trans h2) zGr sizeOf3 (by decide) Z)<|op (fun Q U W H D=>OpF.int (zAE ((q.fr W).ok 0 _ Z).1 (D.g 0 Z) zCq Z isAgg3 sizeOf3))<|op (fun Q U W H D=>zA7 ((H 3 Z).trans h3) zGr sizeOf3 (by decide) Z)<|op (fun Q U W H D=>OpF.int (zAE ((q.fr W).ok 1 _ Z).1 (D.g 0 Z) zCq Z isAgg3 sizeOf3))<|op (fun Q U W H D=>zEg (D.g 0 Z) (D.g 1 Z))<|oz
 intro R w m n p d j
 obtain ⟨h2,h3⟩:=k2 n h2 h3
 have h19:=p.r 4 Z
 replace q:=q.fr m
 refine HT.cond (p0.2.2.1 != p1.2.2.1) h19 (fun c5=>?_) (fun c5=>?_)
 have c:=zAH c5 c
 refine HT.su d j (eB false::[]) ?_ ?_
 exact op (fun Q U W H D=>zA0 Z)<|oz
 intro R w m n p d j
 have h4:=p.r 0 Z
 replace q:=q.fr m
 replace q:IniOK [] A w:=q.sub [] N
 refine HT.ret ?_
 obtain rfl:=si c
 exact ⟨.inr Z,[R 4],⟨Z,N⟩,h4,j⟩
 have c:=zAG c5 c
 refine HT.skip ?_
 refine HT.seq ?_
 obtain ⟨x6,q7,c⟩:=zA4 c
 refine HT.su d j (eR (.pointer (some ⟨b2_0,3,none⟩))::eF (.rep (eSl eStr) A p0.2.2.2)::eR (.pointer (some ⟨b3_1,3,none⟩))::eF (.rep (eSl eStr) A p1.2.2.2)::eB x6::eB (!x6)::[]) ?_ ?_
 exact op (fun Q U W H D=>zA7 ((H 2 Z).trans h2) zCb sizeOf34 (by decide) Z)<|op (fun Q U W H D=>(zAE ((q.fr W).ok 0 _ Z).1 (D.g 0 Z) zAK Z isAgg34 sizeOf34))<|op (fun Q U W H D=>zA7 ((H 3 Z).trans h3) zCb sizeOf34 (by decide) Z)<|op (fun Q U W H D=>(zAE ((q.fr W).ok 1 _ Z).1 (D.g 0 Z) zAK Z isAgg34 sizeOf34))<|op (fun Q U W H D=>zAC call21 (zCo (q7 Z) (d.fr W.size) (D.g 0 Z) (D.g 1 Z)))<|op (fun Q U W H D=>zCk (D.g 0 Z))<|oz
 intro R w m n p d j
 have h25:=p.r 5 Z
 replace q:=q.fr m
 replace q:IniOK [] A w:=q.sub [] N
 refine HT.cond (!x6) h25 (fun c8=>?_) (fun c8=>?_)
 have c:=zAH c8 c
 refine HT.su d j (eB false::[]) ?_ ?_
 exact op (fun Q U W H D=>zA0 Z)<|oz
 intro R w m n p d j
 have h4:=p.r 0 Z
 replace q:=q.fr m
 refine HT.ret ?_
 obtain rfl:=si c
 exact ⟨.inr Z,[R 4],⟨Z,N⟩,h4,j⟩
 have c:=zAG c8 c
 refine HT.skip ?_
 refine HT.su d j (eB true::[]) ?_ ?_
 exact op (fun Q U W H D=>zA0 Z)<|oz
 intro R w m n p d j
 have h4:=p.r 0 Z
 replace q:=q.fr m
 refine HT.ret ?_
 obtain rfl:=si c
 exact ⟨.inr Z,[R 4],⟨Z,N⟩,h4,j⟩
def zBW (fu : Nat) (p0 : List zA2) (p1 : List zA2) : Nat → Int → Option (Ex Bool Unit)
 | 0,_=>none
 | k+1,y5=>
 bif (decide (y5<(p0.length:Int))) then (
 ck (inR y5 p0.length) <|
 ck (inR y5 p1.length) <|
 cl true (zDB fu (gtD p0 y5) (gtD p1 y5)) fun x9=>
 bif (!x9) then (
 some (Ex.ret false)
 ) else (
 ck (i64B (y5+1)) <|
 zBW fu p0 p1 k (y5+1)
 )
 ) else (
 some (Ex.go ())
 )
def zCQ (fu:Nat) (p0:List zA2) (p1:List zA2):Option Bool:=
 bif ((p0.length:Int) != (p1.length:Int)) then (
 some false
 ) else (
 cl true (zBW fu p0 p1 fu 0) fun rl2=>
 exM rl2 (fun r=>some r) fun s4=>
 some true
 )
theorem zGG {fu : Nat} {A : Av} {p0 : List zA2} {p1 : List zA2} {r : Bool} (c : zCQ fu p0 p1 = some r) {w : World} {v0 : Value} {v1 : Value} (d : AvOK A w) (h0 : Rep (eSl zA1) A w v0 p0) (h1 : Rep (eSl zA1) A w v1 p1) :
 Calls prog 13 #[v0,v1] w fun e w'=>∃ v,e = .returned v∧(v = .bool r∧Fr w w'):=by
 unfold zCQ at c
 obtain ⟨w0,hw0,j⟩:=pf w
 rw [fw hw0]
 refine zA5 [.tmp 4] func13 ntmps13 (by decide) Z Z (nb Z) ?_
 intro R hR
 have f_v0:=h0
 replace h0:R 0=v0:=hR 0 _ Z
 have f_v1:=h1
 replace h1:R 1=v1:=hR 1 _ Z
 refine HT.su d j (eB false::[]) ?_ ?_
 exact op (fun Q U W H D=>zA0 Z)<|oz
 intro R w m n p d j
 obtain ⟨h0,h1⟩:=k2 n h0 h1
 replace f_v0:=f_v0.fr m
 replace f_v1:=f_v1.fr m
 refine HT.seq ?_
 refine HT.su d j (eR v0::eI (p0.length:Int)::eR v1::eI (p1.length:Int)::eB ((p0.length:Int) != (p1.length:Int))::[]) ?_ ?_
 exact om h0<|op (fun Q U W H D=>zAL (aT:=#[]) ((f_v0.fr W).eq (D.g 0 Z)) underlying26)<|om h1<|op (fun Q U W H D=>zAL (aT:=#[]) ((f_v1.fr W).eq (D.g 0 Z)) underlying26)<|op (fun Q U W H D=>zEg (D.g 0 Z) (D.g 1 Z))<|oz
 intro R w m n p d j
 obtain ⟨h0,h1⟩:=k2 n h0 h1
 have h10:=p.r 4 Z
 replace f_v0:=f_v0.fr m
 replace f_v1:=f_v1.fr m
 refine HT.cond ((p0.length:Int) != (p1.length:Int)) h10 (fun c1=>?_) (fun c1=>?_)
 have c:=zAH c1 c
 refine HT.su d j (eB false::[]) ?_ ?_
 exact op (fun Q U W H D=>zA0 Z)<|oz
 intro R w m n p d j
 have h4:=p.r 0 Z
 refine HT.ret ?_
 obtain rfl:=si c
 exact ⟨.inr Z,[R 4],⟨Z,N⟩,h4,j⟩
 have c:=zAG c1 c
 refine HT.skip ?_
 refine HT.seq ?_
 refine HT.su d j (eI 0::[]) ?_ ?_
 exact op (fun Q U W H D=>zA0 Z)<|oz
 intro R w m n p d j
 obtain ⟨h0,h1⟩:=k2 n h0 h1
 have h5:=p.r 0 Z
 replace f_v0:=f_v0.fr m
 replace f_v1:=f_v1.fr m
 obtain ⟨rl2,q3,c⟩:=zA4 c
 replace q3:=q3 Z
 refine HT.cut0 (fun R w=>∃ (s4:Unit),rl2=Ex.go s4∧AvOK A w∧Fr w0 w) ?_ ?_
 refine HT.block ?_
 refine HT.loop (fun k R w=>∃ (y5:Int),zBW fu p0 p1 k y5=some rl2∧AvOK A w∧Fr w0 w∧R 0=v0∧R 1=v1∧R 5 = .int .i64 y5∧Rep (eSl zA1) A w v0 p0∧Rep (eSl zA1) A w v1 p1) fu ⟨_,q3,d,j,h0,h1,h5,f_v0,f_v1⟩ ?_
 have hr0:=c;clear c q3
 rintro k R w ⟨y5,c,d,j,h0,h1,h5,f_v0,f_v1⟩
 rcases k with _ | k
 cases (show none=some _ from c)
 rw [zBW] at c
 refine HT.seq ?_
 refine HT.su d j (eI y5::eR v0::eI (p0.length:Int)::eB (decide (y5<(p0.length:Int)))::[]) ?_ ?_
 exact om h5<|om h0<|op (fun Q U W H D=>zAL (aT:=#[]) ((f_v0.fr W).eq (D.g 0 Z)) underlying26)<|op (fun Q U W H D=>zAg (D.g 0 Z) (D.g 1 Z))<|oz
 intro R w m n p d j
 obtain ⟨h0,h1,h5⟩:=k3 n h0 h1 h5
 have h14:=p.r 3 Z
 replace f_v0:=f_v0.fr m
 replace f_v1:=f_v1.fr m
 refine HT.cond (decide (y5<(p0.length:Int))) h14 (fun c6=>?_) (fun c6=>?_)
 have c:=zAH c6 c
 refine HT.skip ?_
 refine HT.seq ?_
 refine HT.block ?_
 refine HT.seq ?_
 obtain ⟨e7,e8,c⟩:=ck2 c
 obtain ⟨x9,q10,c⟩:=zA4 c
 refine HT.draw (by kernel_rfl) (l:=eR v0::eI y5::eF (.qtr zA1 A (gtD p0 y5))::eF (.rep zA1 A (gtD p0 y5))::eR v1::eI y5::eF (.qtr zA1 A (gtD p1 y5))::eF (.rep zA1 A (gtD p1 y5))::eB x9::eB (!x9)::[]) (tl:=[]) (by kernel_rfl) (by kernel_rfl) (by kernel_rfl) (by kernel_rfl) ?_ ?_
 exact om h0<|om h5<|op (fun Q U W H D=>zAB ((f_v0.fr W).eq (D.g 0 Z)) (D.g 1 Z) underlying26 sizeOf51 e7)<|op (fun Q U W H D=>(zAf (QRep.ptr (D.g 0 Z)) isAgg51 sizeOf51))<|om h1<|om h5<|op (fun Q U W H D=>zAB ((f_v1.fr W).eq (D.g 0 Z)) (D.g 1 Z) underlying26 sizeOf51 e8)<|op (fun Q U W H D=>(zAf (QRep.ptr (D.g 0 Z)) isAgg51 sizeOf51))<|op (fun Q U W H D=>zAC call44 (zGX (q10 Z) (d.fr W.size) (D.g 0 Z) (D.g 1 Z)))<|op (fun Q U W H D=>zCk (D.g 0 Z))<|oz
 intro R w m n p
 obtain ⟨h0,h1,h5⟩:=k3 n h0 h1 h5
 have h26:=p.r 9 Z
 replace f_v0:=f_v0.fr m
 replace f_v1:=f_v1.fr m
 replace d:=d.fr m.size
 replace j:=j.trans m
 refine HT.cond (!x9) h26 (fun c11=>?_) (fun c11=>?_)
 have c:=zAH c11 c
 refine HT.su d j (eB false::[]) ?_ ?_
 exact op (fun Q U W H D=>zA0 Z)<|oz
 intro R w m n p d j
 have h4:=p.r 0 Z
 refine HT.ret ?_
 obtain rfl:=si c
 have c:=hr0
 replace c:some _=some _:=c
 obtain rfl:=si c
 exact ⟨.inr Z,[R 4],⟨Z,N⟩,h4,j⟩
 have c:=zAG c11 c
 refine HT.skip ?_
 obtain ⟨e12,c⟩:=zA3 c
 refine HT.u d j (eI y5::eI (y5+1)::eI (y5+1)::[]) ?_ ?_
 exact om h5<|op (fun Q U W H D=>zAO (D.g 0 Z) Z e12)<|oa<|oz
 intro R w m n p d j
 obtain ⟨h0,h1⟩:=k2 n h0 h1
 have h5:=p.r 2 Z
 replace f_v0:=f_v0.fr m
 replace f_v1:=f_v1.fr m
 exact ei k (And.intro (Nat.lt_succ_self k) ⟨_,c,d,j,h0,h1,h5,f_v0,f_v1⟩)
 have c:=zAG c6 c
 refine HT.exit ?_
 obtain rfl:=si c
 exact ei _ ⟨Z,d,j⟩
 rintro R w ⟨s4,rfl,d,j⟩
 have c:=zEN c
 refine HT.su d j (eB true::[]) ?_ ?_
 exact op (fun Q U W H D=>zA0 Z)<|oz
 intro R w m n p d j
 have h4:=p.r 0 Z
 refine HT.ret ?_
 obtain rfl:=si c
 exact ⟨.inr Z,[R 4],⟨Z,N⟩,h4,j⟩
def zBO (fu : Nat) : Nat → Int → (List UInt8) → Option (List UInt8)
 | 0,_,_=>none
 | k+1,y7,y8=>
 bif (decide (0<y7)) then (
 ck ((10:Int) != 0) <|
 ck (i64B (48+(y7.tmod 10))) <|
 ck (zBE ((strB ([(IntKind.u8.wrap (48+(y7.tmod 10)))]:List Int))++y8).length) <|
 ck ((10:Int) != 0) <|
 ck (i64B (y7.tdiv 10)) <|
 zBO fu k (y7.tdiv 10) ((strB ([(IntKind.u8.wrap (48+(y7.tmod 10)))]:List Int))++y8)
 ) else (
 some y8
 )
def zCM (fu:Nat) (p0:Int):Option (List UInt8):=
 bif (decide (p0≤0)) then (
 some ([109,48]:List UInt8)
 ) else (
 cl true (zBO fu fu p0 ([]:List UInt8)) fun s6=>
 ck (zBE (([109]:List UInt8)++s6).length) <|
 some (([109]:List UInt8)++s6)
 )
theorem zEf {fu : Nat} {A : Av} {p0 : Int} {r : List UInt8} (c : zCM fu p0 = some r) {w : World} {v0 : Value} (d : AvOK A w) (h0 : v0 = .int .i64 p0) :
 Calls prog 45 #[v0] w fun e w'=>∃ v,e = .returned v∧(Rep eStr A w' v r∧Fr w w'):=by
 unfold zCM at c
 obtain ⟨w0,hw0,j⟩:=pf w
 rw [fw hw0]
 refine zA5 [.tmp 2] func45 ntmps45 (by decide) Z Z (nb Z) ?_
 intro R hR
 replace h0:R 0 = .int .i64 p0:=(hR 0 _ Z).trans h0
 refine HT.su d j (eF (.rep eStr A ([]:List UInt8))::[]) ?_ ?_
 exact op (fun Q U W H D=>zA0 ⟨_,Z,⟨_,Z,Z,by decide⟩⟩)<|oz
 intro R w m n p d j
 replace h0:=k1 n h0
 refine HT.seq ?_
 refine HT.su d j (eI p0::eB (decide (p0≤0))::[]) ?_ ?_
 exact om h0<|op (fun Q U W H D=>zEF (D.g 0 Z) Z)<|oz
 intro R w m n p d j
 replace h0:=k1 n h0
 have h5:=p.r 1 Z
 refine HT.cond (decide (p0≤0)) h5 (fun c1=>?_) (fun c1=>?_)
 have c:=zAH c1 c
 refine HT.su d j (eF (.rep eStr A ([109,48]:List UInt8))::[]) ?_ ?_
 exact op (fun Q U W H D=>zA0 ⟨_,Z,⟨_,Z,Z,by decide⟩⟩)<|oz
 intro R w m n p d j
 obtain ⟨u2,h2,f_u2⟩:∃ u,R 2=u∧Rep eStr A w u ([109,48]:List UInt8):=⟨_,Z,p 0 _ _ Z Z Z⟩
 refine HT.ret ?_
 obtain rfl:=si c
 exact ⟨.inr Z,[R 2],⟨Z,N⟩,(f_u2.eq h2),j⟩
 have c:=zAG c1 c
 refine HT.skip ?_
 refine HT.su d j (eF (.rep eStr A ([]:List UInt8))::[]) ?_ ?_
 exact op (fun Q U W H D=>zA0 ⟨_,Z,⟨_,Z,Z,by decide⟩⟩)<|oz
 intro R w m n p d j
 replace h0:=k1 n h0
 obtain ⟨u3,h3,f_u3⟩:∃ u,R 3=u∧Rep eStr A w u ([]:List UInt8):=⟨_,Z,p 0 _ _ Z Z Z⟩
 obtain ⟨rl4,q5,c⟩:=zA4 c
 replace q5:=q5 Z
 refine HT.cut (fun R w=>∃ (s6:(List UInt8)) (wo_3:Value),rl4=s6∧AvOK A w∧Fr w0 w∧R 3=wo_3∧Rep eStr A w wo_3 s6) ?_ ?_
 refine HT.block ?_
 refine HT.loop (fun k R w=>∃ (y7:Int) (y8:List UInt8) (wl_3:Value),zBO fu k y7 y8=some rl4∧AvOK A w∧Fr w0 w∧R 0 = .int .i64 y7∧R 3=wl_3∧Rep eStr A w wl_3 y8) fu ⟨_,_,u3,q5,d,j,h0,h3,f_u3⟩ ?_
 have hr0:=c;clear c q5
 rintro k R w ⟨y7,y8,wl_3,c,d,j,h0,h3,f_wl_3⟩
 rcases k with _ | k
 cases (show none=some _ from c)
 rw [zBO] at c
 refine HT.seq ?_
 refine HT.su d j (eI y7::eB (decide (0<y7))::[]) ?_ ?_
 exact om h0<|op (fun Q U W H D=>zDz (D.g 0 Z) Z)<|oz
 intro R w m n p d j
 obtain ⟨h0,h3⟩:=k2 n h0 h3
 have h7:=p.r 1 Z
 replace f_wl_3:=f_wl_3.fr m
 refine HT.cond (decide (0<y7)) h7 (fun c9=>?_) (fun c9=>?_)
 have c:=zAH c9 c
 refine HT.skip ?_
 refine HT.block ?_
 obtain ⟨e10,e11,e12,c⟩:=ck3 c
 refine HT.su d j (eI y7::eI (y7.tmod 10)::eI (48+(y7.tmod 10))::eU (IntKind.u8.wrap (48+(y7.tmod 10)))::eF (.rep (eSl (eInt .u8)) A ([(IntKind.u8.wrap (48+(y7.tmod 10)))]:List Int))::eF (.rep eStr A (strB ([(IntKind.u8.wrap (48+(y7.tmod 10)))]:List Int)))::eR wl_3::eF (.rep eStr A ((strB ([(IntKind.u8.wrap (48+(y7.tmod 10)))]:List Int))++y8))::eF (.rep eStr A ((strB ([(IntKind.u8.wrap (48+(y7.tmod 10)))]:List Int))++y8))::[]) ?_ ?_
 exact om h0<|op (fun Q U W H D=>zNC (D.g 0 Z) Z e10)<|op (fun Q U W H D=>zAO Z (D.g 0 Z) e11)<|op (fun Q U W H D=>zDg (D.g 0 Z) underlying3 underlying5)<|op (fun Q U W H D=>zAu [_] (E:=eInt .u8) ⟨(zBp.eq (D.g 0 Z)),N⟩ underlying43 sizeOf5 zeroValue5 Z Z Z (d.fr W.size))<|op (fun Q U W H D=>zBK (D.g 0 Z) underlying43 underlying5 underlying9)<|om h3<|op (fun Q U W H D=>zDy (D.g 0 Z) ((f_wl_3.fr W).eq (D.g 1 Z)) e12)<|op (fun Q U W H D=>zA0 (D.g 0 Z))<|oz
 intro R w m n p d j
 replace h0:=k1 n h0
 obtain ⟨u13,h3,f_u13⟩:∃ u,R 3=u∧Rep eStr A w u ((strB ([(IntKind.u8.wrap (48+(y7.tmod 10)))]:List Int))++y8):=⟨_,Z,p 8 _ _ Z Z Z⟩
 obtain ⟨e14,e15,c⟩:=ck2 c
 refine HT.u d j (eI y7::eI (y7.tdiv 10)::eI (y7.tdiv 10)::[]) ?_ ?_
 exact om h0<|op (fun Q U W H D=>zM2 (D.g 0 Z) Z e14 e15)<|oa<|oz
 intro R w m n p d j
 replace h3:=k1 n h3
 have h0:=p.r 2 Z
 replace f_u13:=f_u13.fr m
 exact ei k (And.intro (Nat.lt_succ_self k) ⟨_,_,u13,c,d,j,h0,h3,f_u13⟩)
 have c:=zAG c9 c
 refine HT.exit ?_
 obtain rfl:=si c
 exact ei _ ⟨wl_3,Z,d,j,h3,f_wl_3⟩
 rintro R w ⟨s6,wo_3,es,d,j,h3,f_wo_3⟩
 obtain rfl:=es.symm
 obtain ⟨e16,c⟩:=zA3 c
 refine HT.su d j (eR wo_3::eF (.rep eStr A (([109]:List UInt8)++s6))::eF (.rep eStr A (([109]:List UInt8)++s6))::[]) ?_ ?_
 exact om h3<|op (fun Q U W H D=>zDy ⟨_,Z,⟨_,Z,Z,by decide⟩⟩ ((f_wo_3.fr W).eq (D.g 0 Z)) e16)<|op (fun Q U W H D=>zA0 (D.g 0 Z))<|oz
 intro R w m n p d j
 obtain ⟨u17,h2,f_u17⟩:∃ u,R 2=u∧Rep eStr A w u (([109]:List UInt8)++s6):=⟨_,Z,p 2 _ _ Z Z Z⟩
 refine HT.ret ?_
 obtain rfl:=si c
 exact ⟨.inr Z,[R 2],⟨Z,N⟩,(f_u17.eq h2),j⟩
def zBH (fu : Nat) : Nat → Int → Int → (List (List UInt8)) → Option (Int × (List (List UInt8)))
 | 0,_,_,_=>none
 | k+1,y4,y5,y6=>
 bif (decide (y5<(y6.length:Int))) then (
 cl true (zCM fu y4) fun x8=>
 ck (inR y5 y6.length) <|
 ck (i64B (y4+1)) <|
 ck (i64B (y5+1)) <|
 zBH fu k (y4+1) (y5+1) (y6.set y5.toNat x8)
 ) else (
 some (y4,y6)
 )
def zBg (fu:Nat) (p0:List (List UInt8)) (p1:Int):Option (Int × List (List UInt8)):=
 cl true (zBH fu fu p1 0 p0) fun s3=>
 some (s3.1,s3.2)
theorem zEK {fu : Nat} {A0 : Av} {p0 : List (List UInt8)} {p1 : Int} {r : Int × List (List UInt8)} (c : zBg fu p0 p1 = some r) {w : World} {v0 : Value} {v1 : Value} {B0 : Nat} (d : AvOK A0 w) (K : ∀ b o, A0 b o → ¬ zAJ v0 b) (h0 : (Res.vec B0 9 eStr p0).ok A0 v0 w) (h1 : v1 = .int .i64 p1) :
 Calls prog 22 #[v0,v1] w fun e w'=>∃ v,e = .returned v∧(v = .int .i64 r.1∧(Res.vec B0 9 eStr r.2).ok A0 v0 w'∧Ch (zAJ v0) w w'):=by
 unfold zBg at c
 obtain ⟨w0,hw0,C⟩:=pc d
 have j:Ch (zAJ v0) w0 w:=hw0 ▸ Ch.refl _ _
 have hA00:AvOK A0 w0:=C
 rw [show Ch (zAJ v0) w=Ch (zAJ v0) w0 from hw0 ▸ Z]
 obtain ⟨A,hAe⟩:∃ A,A=addA A0 v0:=⟨_,Z⟩
 have B:∀ b o,A0 b o→A b o:=fun b o h=>hAe ▸ .inl h
 replace d:AvOK A w:=hAe ▸ d.one h0
 have q:IniOK [ob v0 (.vec B0 9 eStr p0)] A w:=hAe ▸ IniOK.one h0 (fun _ _ _ _ _ h=>h)
 refine zA5 [.tmp 4] func22 ntmps22 (by decide) Z Z (nb Z) ?_
 intro R hR
 replace h0:R 0=v0:=hR 0 _ Z
 replace h1:R 1 = .int .i64 p1:=(hR 1 _ Z).trans h1
 refine HT.seq ?_
 refine HT.t (eI 0::[]) ?_ ?_
 exact op (fun Q U W H D=>zA0 Z)<|oz
 intro R w m n p
 obtain ⟨h0,h1⟩:=k2 n h0 h1
 replace q:=q.fr m
 replace d:=d.fr m.size
 replace j:=j.tr (m.ch noB) fun _ h=>False.elim h
 refine HT.seq ?_
 refine HT.seq ?_
 refine HT.t (eI 0::[]) ?_ ?_
 exact op (fun Q U W H D=>zA0 Z)<|oz
 intro R w m n p
 obtain ⟨h0,h1⟩:=k2 n h0 h1
 have h5:=p.r 0 Z
 replace q:=q.fr m
 replace d:=d.fr m.size
 replace j:=j.tr (m.ch noB) fun _ h=>False.elim h
 obtain ⟨rl1,q2,c⟩:=zA4 c
 replace q2:=q2 Z
 refine HT.cut0 (fun R w=>∃ A:Av,∃ (s3:Int × (List (List UInt8))),rl1=s3∧AvOK A w∧Ch (zAJ v0) w0 w∧(∀ b o,A0 b o→A b o)∧IniOK [ob v0 (.vec B0 9 eStr s3.2)] A w∧R 1 = .int .i64 s3.1) ?_ ?_
 refine HT.block ?_
 refine HT.loop (fun k R w=>∃ A:Av,∃ (y4:Int) (y5:Int) (y6:List (List UInt8)),zBH fu k y4 y5 y6=some rl1∧AvOK A w∧Ch (zAJ v0) w0 w∧(∀ b o,A0 b o→A b o)∧IniOK [ob v0 (.vec B0 9 eStr y6)] A w∧R 0=v0∧R 1 = .int .i64 y4∧R 5 = .int .i64 y5) fu ⟨_,_,_,_,q2,d,j,B,q,h0,h1,h5⟩ ?_
 have hr0:=c;clear c q2
 rintro k R w ⟨A,y4,y5,y6,c,d,j,B,q,h0,h1,h5⟩
 rcases k with _ | k
 cases (show none=some _ from c)
 rw [zBH] at c
 refine HT.seq ?_
 refine HT.seq ?_
 refine HT.t (eI y5::eR v0::eI (y6.length:Int)::eB (decide (y5<(y6.length:Int)))::[]) ?_ ?_
 exact om h5<|om h0<|op (fun Q U W H D=>zCJ (q.ok 0 _ Z).1 (D.g 0 Z) underlying34)<|op (fun Q U W H D=>zAg (D.g 0 Z) (D.g 1 Z))<|oz
 intro R w m n p
 obtain ⟨h0,h1,h5⟩:=k3 n h0 h1 h5
 have h9:=p.r 3 Z
 replace q:=q.fr m
 replace d:=d.fr m.size
 replace j:=j.tr (m.ch noB) fun _ h=>False.elim h
 refine HT.cond (decide (y5<(y6.length:Int))) h9 (fun c7=>?_) (fun c7=>?_)
 have c:=zAH c7 c
 refine HT.skip ?_
 refine HT.seq ?_
 refine HT.block ?_
 obtain ⟨x8,q9,c⟩:=zA4 c
 obtain ⟨e10,c⟩:=zA3 c
 refine HT.sx [ob v0 (.vec B0 9 eStr y6)] (rR v0::rI y5::rI y4::(rF fun A=>.rep eStr A x8)::rR (vptr v0 (y5.toNat*1))::⟨_,true,[0],some (.vec B0 9 eStr (y6.set y5.toNat x8)),false,fun A=>.any⟩::[]) (ur (ur (ur (up (ur (ua (UAll.nil))))))) q d ?_ ?_
 exact rm h0<|rm h5<|rm h1<|rp (fun V Q U O D=>zAC call45 (zEf (q9 Z) O.av (D.g 0 Z)))<|rp (fun V Q U O D=>zB6 (q.ok 0 _ Z).1 (D.g 0 Z) (D.g 1 Z) underlying34 sizeOf9 e10 Z)<|rc (OblR.took 0 _ _ Z Z Z Z Z fun V Q U O D u X Y J L M=>by have a0:Q 16=(vptr v0 (y5.toNat*1)):=D.g 0 Z;have a1:Rep eStr V U (Q 15) x8:=D.g 1 Z;obtain rfl:=J _ Z;exact zF7 a1 X Y a0 e10 Z (FldS.id _) sizeOf9 Z)<|rz
 intro done ρ σ A R w y s
 obtain ⟨h0,h1,h5⟩:=k3 s.rg h0 h1 h5
 have z11:=s.inivR 0 Z
 have z12:=s.on y 6 5 Z Z Z Z Z z11
 replace B:=s.lowK B C K (q.geK (⟨.inr (fun k h=>.inr h),N⟩))
 replace j:Ch (zAJ v0) w0 w:=j.tr s.ch (q.geK (⟨.inr (fun k h=>.inr h),N⟩))
 replace q:=s.left y [(6,ob v0 (.vec B0 9 eStr (y6.set y5.toNat x8)))] ⟨Z,Z,z12,Z,Z,N⟩
 replace d:=s.avok
 obtain ⟨e13,c⟩:=zA3 c
 refine HT.t (eI y4::eI (y4+1)::eI (y4+1)::[]) ?_ ?_
 exact om h1<|op (fun Q U W H D=>zAO (D.g 0 Z) Z e13)<|oa<|oz
 intro R w m n p
 obtain ⟨h0,h5⟩:=k2 n h0 h5
 have h1:=p.r 2 Z
 replace q:=q.fr m
 replace d:=d.fr m.size
 replace j:=j.tr (m.ch noB) fun _ h=>False.elim h
 obtain ⟨e14,c⟩:=zA3 c
 refine HT.t (eI y5::eI (y5+1)::eI (y5+1)::[]) ?_ ?_
 exact om h5<|op (fun Q U W H D=>zAO (D.g 0 Z) Z e14)<|oa<|oz
 intro R w m n p
 obtain ⟨h0,h1⟩:=k2 n h0 h1
 have h5:=p.r 2 Z
 replace q:=q.fr m
 replace d:=d.fr m.size
 replace j:=j.tr (m.ch noB) fun _ h=>False.elim h
 exact ei k (And.intro (Nat.lt_succ_self k) ⟨_,_,_,_,c,d,j,B,q,h0,h1,h5⟩)
 have c:=zAG c7 c
 refine HT.exit ?_
 obtain rfl:=si c
 exact ei _ ⟨_,Z,d,j,B,q,h1⟩
 rintro R w ⟨A,s3,es,d,j,B,q,h1⟩
 obtain rfl:=es.symm
 refine HT.seq ?_
 refine HT.t (eI s3.1::eI s3.1::[]) ?_ ?_
 exact om h1<|oa<|oz
 intro R w m n p
 have h4:=p.r 1 Z
 replace q:=q.fr m
 replace d:=d.fr m.size
 replace j:=j.tr (m.ch noB) fun _ h=>False.elim h
 refine HT.ret ?_
 obtain rfl:=si c
 exact ⟨.inr Z,[R 4],⟨Z,N⟩,h4,Vec.flat (q.ok 0 _ Z).1 (fun _ _ _ _ _ h=>h),j⟩
end Go.Proofs.YtldppodfhabkjaaGreatDoor
namespace Go.Proofs.YtldppodfhabkjaaGreatDoor
open Go.RowKit
set_option linter.unusedVariables false
open _root_.Go.Proofs.Tryz
set_option maxRecDepth 100000
set_option maxHeartbeats 4000000
def zBG (fu : Nat) : Nat → Int → Int → (List zA2) → Option (Int × (List zA2))
 | 0,_,_,_=>none
 | k+1,y4,y5,y6=>
 bif (decide (y5<(y6.length:Int))) then (
 ck (inR y5 y6.length) <|
 ck (i64B (y4+1)) <|
 ck (inR y5 (y6.set y5.toNat (y4,(gtD y6 y5).2.1,(gtD y6 y5).2.2.1,(gtD y6 y5).2.2.2)).length) <|
 ck (i64B ((y4+1)+1)) <|
 ck (inR y5 ((y6.set y5.toNat (y4,(gtD y6 y5).2.1,(gtD y6 y5).2.2.1,(gtD y6 y5).2.2.2)).set y5.toNat ((gtD (y6.set y5.toNat (y4,(gtD y6 y5).2.1,(gtD y6 y5).2.2.1,(gtD y6 y5).2.2.2)) y5).1,(y4+1),(gtD (y6.set y5.toNat (y4,(gtD y6 y5).2.1,(gtD y6 y5).2.2.1,(gtD y6 y5).2.2.2)) y5).2.2.1,(gtD (y6.set y5.toNat (y4,(gtD y6 y5).2.1,(gtD y6 y5).2.2.1,(gtD y6 y5).2.2.2)) y5).2.2.2)).length) <|
 ck (i64B (((y4+1)+1)+1)) <|
 ck (inR y5 (((y6.set y5.toNat (y4,(gtD y6 y5).2.1,(gtD y6 y5).2.2.1,(gtD y6 y5).2.2.2)).set y5.toNat ((gtD (y6.set y5.toNat (y4,(gtD y6 y5).2.1,(gtD y6 y5).2.2.1,(gtD y6 y5).2.2.2)) y5).1,(y4+1),(gtD (y6.set y5.toNat (y4,(gtD y6 y5).2.1,(gtD y6 y5).2.2.1,(gtD y6 y5).2.2.2)) y5).2.2.1,(gtD (y6.set y5.toNat (y4,(gtD y6 y5).2.1,(gtD y6 y5).2.2.1,(gtD y6 y5).2.2.2)) y5).2.2.2)).set y5.toNat ((gtD ((y6.set y5.toNat (y4,(gtD y6 y5).2.1,(gtD y6 y5).2.2.1,(gtD y6 y5).2.2.2)).set y5.toNat ((gtD (y6.set y5.toNat (y4,(gtD y6 y5).2.1,(gtD y6 y5).2.2.1,(gtD y6 y5).2.2.2)) y5).1,(y4+1),(gtD (y6.set y5.toNat (y4,(gtD y6 y5).2.1,(gtD y6 y5).2.2.1,(gtD y6 y5).2.2.2)) y5).2.2.1,(gtD (y6.set y5.toNat (y4,(gtD y6 y5).2.1,(gtD y6 y5).2.2.1,(gtD y6 y5).2.2.2)) y5).2.2.2)) y5).1,(gtD ((y6.set y5.toNat (y4,(gtD y6 y5).2.1,(gtD y6 y5).2.2.1,(gtD y6 y5).2.2.2)).set y5.toNat ((gtD (y6.set y5.toNat (y4,(gtD y6 y5).2.1,(gtD y6 y5).2.2.1,(gtD y6 y5).2.2.2)) y5).1,(y4+1),(gtD (y6.set y5.toNat (y4,(gtD y6 y5).2.1,(gtD y6 y5).2.2.1,(gtD y6 y5).2.2.2)) y5).2.2.1,(gtD (y6.set y5.toNat (y4,(gtD y6 y5).2.1,(gtD y6 y5).2.2.1,(gtD y6 y5).2.2.2)) y5).2.2.2)) y5).2.1,((y4+1)+1),(gtD ((y6.set y5.toNat (y4,(gtD y6 y5).2.1,(gtD y6 y5).2.2.1,(gtD y6 y5).2.2.2)).set y5.toNat ((gtD (y6.set y5.toNat (y4,(gtD y6 y5).2.1,(gtD y6 y5).2.2.1,(gtD y6 y5).2.2.2)) y5).1,(y4+1),(gtD (y6.set y5.toNat (y4,(gtD y6 y5).2.1,(gtD y6 y5).2.2.1,(gtD y6 y5).2.2.2)) y5).2.2.1,(gtD (y6.set y5.toNat (y4,(gtD y6 y5).2.1,(gtD y6 y5).2.2.1,(gtD y6 y5).2.2.2)) y5).2.2.2)) y5).2.2.2)).length) <|
 cl true (zBg fu ((gtD (((y6.set y5.toNat (y4,(gtD y6 y5).2.1,(gtD y6 y5).2.2.1,(gtD y6 y5).2.2.2)).set y5.toNat ((gtD (y6.set y5.toNat (y4,(gtD y6 y5).2.1,(gtD y6 y5).2.2.1,(gtD y6 y5).2.2.2)) y5).1,(y4+1),(gtD (y6.set y5.toNat (y4,(gtD y6 y5).2.1,(gtD y6 y5).2.2.1,(gtD y6 y5).2.2.2)) y5).2.2.1,(gtD (y6.set y5.toNat (y4,(gtD y6 y5).2.1,(gtD y6 y5).2.2.1,(gtD y6 y5).2.2.2)) y5).2.2.2)).set y5.toNat ((gtD ((y6.set y5.toNat (y4,(gtD y6 y5).2.1,(gtD y6 y5).2.2.1,(gtD y6 y5).2.2.2)).set y5.toNat ((gtD (y6.set y5.toNat (y4,(gtD y6 y5).2.1,(gtD y6 y5).2.2.1,(gtD y6 y5).2.2.2)) y5).1,(y4+1),(gtD (y6.set y5.toNat (y4,(gtD y6 y5).2.1,(gtD y6 y5).2.2.1,(gtD y6 y5).2.2.2)) y5).2.2.1,(gtD (y6.set y5.toNat (y4,(gtD y6 y5).2.1,(gtD y6 y5).2.2.1,(gtD y6 y5).2.2.2)) y5).2.2.2)) y5).1,(gtD ((y6.set y5.toNat (y4,(gtD y6 y5).2.1,(gtD y6 y5).2.2.1,(gtD y6 y5).2.2.2)).set y5.toNat ((gtD (y6.set y5.toNat (y4,(gtD y6 y5).2.1,(gtD y6 y5).2.2.1,(gtD y6 y5).2.2.2)) y5).1,(y4+1),(gtD (y6.set y5.toNat (y4,(gtD y6 y5).2.1,(gtD y6 y5).2.2.1,(gtD y6 y5).2.2.2)) y5).2.2.1,(gtD (y6.set y5.toNat (y4,(gtD y6 y5).2.1,(gtD y6 y5).2.2.1,(gtD y6 y5).2.2.2)) y5).2.2.2)) y5).2.1,((y4+1)+1),(gtD ((y6.set y5.toNat (y4,(gtD y6 y5).2.1,(gtD y6 y5).2.2.1,(gtD y6 y5).2.2.2)).set y5.toNat ((gtD (y6.set y5.toNat (y4,(gtD y6 y5).2.1,(gtD y6 y5).2.2.1,(gtD y6 y5).2.2.2)) y5).1,(y4+1),(gtD (y6.set y5.toNat (y4,(gtD y6 y5).2.1,(gtD y6 y5).2.2.1,(gtD y6 y5).2.2.2)) y5).2.2.1,(gtD (y6.set y5.toNat (y4,(gtD y6 y5).2.1,(gtD y6 y5).2.2.1,(gtD y6 y5).2.2.2)) y5).2.2.2)) y5).2.2.2)) y5).2.2.2) (((y4+1)+1)+1)) fun x28=>
 ck (i64B (y5+1)) <|
 zBG fu k x28.1 (y5+1) ((((y6.set y5.toNat (y4,(gtD y6 y5).2.1,(gtD y6 y5).2.2.1,(gtD y6 y5).2.2.2)).set y5.toNat ((gtD (y6.set y5.toNat (y4,(gtD y6 y5).2.1,(gtD y6 y5).2.2.1,(gtD y6 y5).2.2.2)) y5).1,(y4+1),(gtD (y6.set y5.toNat (y4,(gtD y6 y5).2.1,(gtD y6 y5).2.2.1,(gtD y6 y5).2.2.2)) y5).2.2.1,(gtD (y6.set y5.toNat (y4,(gtD y6 y5).2.1,(gtD y6 y5).2.2.1,(gtD y6 y5).2.2.2)) y5).2.2.2)).set y5.toNat ((gtD ((y6.set y5.toNat (y4,(gtD y6 y5).2.1,(gtD y6 y5).2.2.1,(gtD y6 y5).2.2.2)).set y5.toNat ((gtD (y6.set y5.toNat (y4,(gtD y6 y5).2.1,(gtD y6 y5).2.2.1,(gtD y6 y5).2.2.2)) y5).1,(y4+1),(gtD (y6.set y5.toNat (y4,(gtD y6 y5).2.1,(gtD y6 y5).2.2.1,(gtD y6 y5).2.2.2)) y5).2.2.1,(gtD (y6.set y5.toNat (y4,(gtD y6 y5).2.1,(gtD y6 y5).2.2.1,(gtD y6 y5).2.2.2)) y5).2.2.2)) y5).1,(gtD ((y6.set y5.toNat (y4,(gtD y6 y5).2.1,(gtD y6 y5).2.2.1,(gtD y6 y5).2.2.2)).set y5.toNat ((gtD (y6.set y5.toNat (y4,(gtD y6 y5).2.1,(gtD y6 y5).2.2.1,(gtD y6 y5).2.2.2)) y5).1,(y4+1),(gtD (y6.set y5.toNat (y4,(gtD y6 y5).2.1,(gtD y6 y5).2.2.1,(gtD y6 y5).2.2.2)) y5).2.2.1,(gtD (y6.set y5.toNat (y4,(gtD y6 y5).2.1,(gtD y6 y5).2.2.1,(gtD y6 y5).2.2.2)) y5).2.2.2)) y5).2.1,((y4+1)+1),(gtD ((y6.set y5.toNat (y4,(gtD y6 y5).2.1,(gtD y6 y5).2.2.1,(gtD y6 y5).2.2.2)).set y5.toNat ((gtD (y6.set y5.toNat (y4,(gtD y6 y5).2.1,(gtD y6 y5).2.2.1,(gtD y6 y5).2.2.2)) y5).1,(y4+1),(gtD (y6.set y5.toNat (y4,(gtD y6 y5).2.1,(gtD y6 y5).2.2.1,(gtD y6 y5).2.2.2)) y5).2.2.1,(gtD (y6.set y5.toNat (y4,(gtD y6 y5).2.1,(gtD y6 y5).2.2.1,(gtD y6 y5).2.2.2)) y5).2.2.2)) y5).2.2.2)).set y5.toNat ((gtD (((y6.set y5.toNat (y4,(gtD y6 y5).2.1,(gtD y6 y5).2.2.1,(gtD y6 y5).2.2.2)).set y5.toNat ((gtD (y6.set y5.toNat (y4,(gtD y6 y5).2.1,(gtD y6 y5).2.2.1,(gtD y6 y5).2.2.2)) y5).1,(y4+1),(gtD (y6.set y5.toNat (y4,(gtD y6 y5).2.1,(gtD y6 y5).2.2.1,(gtD y6 y5).2.2.2)) y5).2.2.1,(gtD (y6.set y5.toNat (y4,(gtD y6 y5).2.1,(gtD y6 y5).2.2.1,(gtD y6 y5).2.2.2)) y5).2.2.2)).set y5.toNat ((gtD ((y6.set y5.toNat (y4,(gtD y6 y5).2.1,(gtD y6 y5).2.2.1,(gtD y6 y5).2.2.2)).set y5.toNat ((gtD (y6.set y5.toNat (y4,(gtD y6 y5).2.1,(gtD y6 y5).2.2.1,(gtD y6 y5).2.2.2)) y5).1,(y4+1),(gtD (y6.set y5.toNat (y4,(gtD y6 y5).2.1,(gtD y6 y5).2.2.1,(gtD y6 y5).2.2.2)) y5).2.2.1,(gtD (y6.set y5.toNat (y4,(gtD y6 y5).2.1,(gtD y6 y5).2.2.1,(gtD y6 y5).2.2.2)) y5).2.2.2)) y5).1,(gtD ((y6.set y5.toNat (y4,(gtD y6 y5).2.1,(gtD y6 y5).2.2.1,(gtD y6 y5).2.2.2)).set y5.toNat ((gtD (y6.set y5.toNat (y4,(gtD y6 y5).2.1,(gtD y6 y5).2.2.1,(gtD y6 y5).2.2.2)) y5).1,(y4+1),(gtD (y6.set y5.toNat (y4,(gtD y6 y5).2.1,(gtD y6 y5).2.2.1,(gtD y6 y5).2.2.2)) y5).2.2.1,(gtD (y6.set y5.toNat (y4,(gtD y6 y5).2.1,(gtD y6 y5).2.2.1,(gtD y6 y5).2.2.2)) y5).2.2.2)) y5).2.1,((y4+1)+1),(gtD ((y6.set y5.toNat (y4,(gtD y6 y5).2.1,(gtD y6 y5).2.2.1,(gtD y6 y5).2.2.2)).set y5.toNat ((gtD (y6.set y5.toNat (y4,(gtD y6 y5).2.1,(gtD y6 y5).2.2.1,(gtD y6 y5).2.2.2)) y5).1,(y4+1),(gtD (y6.set y5.toNat (y4,(gtD y6 y5).2.1,(gtD y6 y5).2.2.1,(gtD y6 y5).2.2.2)) y5).2.2.1,(gtD (y6.set y5.toNat (y4,(gtD y6 y5).2.1,(gtD y6 y5).2.2.1,(gtD y6 y5).2.2.2)) y5).2.2.2)) y5).2.2.2)) y5).1,(gtD (((y6.set y5.toNat (y4,(gtD y6 y5).2.1,(gtD y6 y5).2.2.1,(gtD y6 y5).2.2.2)).set y5.toNat ((gtD (y6.set y5.toNat (y4,(gtD y6 y5).2.1,(gtD y6 y5).2.2.1,(gtD y6 y5).2.2.2)) y5).1,(y4+1),(gtD (y6.set y5.toNat (y4,(gtD y6 y5).2.1,(gtD y6 y5).2.2.1,(gtD y6 y5).2.2.2)) y5).2.2.1,(gtD (y6.set y5.toNat (y4,(gtD y6 y5).2.1,(gtD y6 y5).2.2.1,(gtD y6 y5).2.2.2)) y5).2.2.2)).set y5.toNat ((gtD ((y6.set y5.toNat (y4,(gtD y6 y5).2.1,(gtD y6 y5).2.2.1,(gtD y6 y5).2.2.2)).set y5.toNat ((gtD (y6.set y5.toNat (y4,(gtD y6 y5).2.1,(gtD y6 y5).2.2.1,(gtD y6 y5).2.2.2)) y5).1,(y4+1),(gtD (y6.set y5.toNat (y4,(gtD y6 y5).2.1,(gtD y6 y5).2.2.1,(gtD y6 y5).2.2.2)) y5).2.2.1,(gtD (y6.set y5.toNat (y4,(gtD y6 y5).2.1,(gtD y6 y5).2.2.1,(gtD y6 y5).2.2.2)) y5).2.2.2)) y5).1,(gtD ((y6.set y5.toNat (y4,(gtD y6 y5).2.1,(gtD y6 y5).2.2.1,(gtD y6 y5).2.2.2)).set y5.toNat ((gtD (y6.set y5.toNat (y4,(gtD y6 y5).2.1,(gtD y6 y5).2.2.1,(gtD y6 y5).2.2.2)) y5).1,(y4+1),(gtD (y6.set y5.toNat (y4,(gtD y6 y5).2.1,(gtD y6 y5).2.2.1,(gtD y6 y5).2.2.2)) y5).2.2.1,(gtD (y6.set y5.toNat (y4,(gtD y6 y5).2.1,(gtD y6 y5).2.2.1,(gtD y6 y5).2.2.2)) y5).2.2.2)) y5).2.1,((y4+1)+1),(gtD ((y6.set y5.toNat (y4,(gtD y6 y5).2.1,(gtD y6 y5).2.2.1,(gtD y6 y5).2.2.2)).set y5.toNat ((gtD (y6.set y5.toNat (y4,(gtD y6 y5).2.1,(gtD y6 y5).2.2.1,(gtD y6 y5).2.2.2)) y5).1,(y4+1),(gtD (y6.set y5.toNat (y4,(gtD y6 y5).2.1,(gtD y6 y5).2.2.1,(gtD y6 y5).2.2.2)) y5).2.2.1,(gtD (y6.set y5.toNat (y4,(gtD y6 y5).2.1,(gtD y6 y5).2.2.1,(gtD y6 y5).2.2.2)) y5).2.2.2)) y5).2.2.2)) y5).2.1,(gtD (((y6.set y5.toNat (y4,(gtD y6 y5).2.1,(gtD y6 y5).2.2.1,(gtD y6 y5).2.2.2)).set y5.toNat ((gtD (y6.set y5.toNat (y4,(gtD y6 y5).2.1,(gtD y6 y5).2.2.1,(gtD y6 y5).2.2.2)) y5).1,(y4+1),(gtD (y6.set y5.toNat (y4,(gtD y6 y5).2.1,(gtD y6 y5).2.2.1,(gtD y6 y5).2.2.2)) y5).2.2.1,(gtD (y6.set y5.toNat (y4,(gtD y6 y5).2.1,(gtD y6 y5).2.2.1,(gtD y6 y5).2.2.2)) y5).2.2.2)).set y5.toNat ((gtD ((y6.set y5.toNat (y4,(gtD y6 y5).2.1,(gtD y6 y5).2.2.1,(gtD y6 y5).2.2.2)).set y5.toNat ((gtD (y6.set y5.toNat (y4,(gtD y6 y5).2.1,(gtD y6 y5).2.2.1,(gtD y6 y5).2.2.2)) y5).1,(y4+1),(gtD (y6.set y5.toNat (y4,(gtD y6 y5).2.1,(gtD y6 y5).2.2.1,(gtD y6 y5).2.2.2)) y5).2.2.1,(gtD (y6.set y5.toNat (y4,(gtD y6 y5).2.1,(gtD y6 y5).2.2.1,(gtD y6 y5).2.2.2)) y5).2.2.2)) y5).1,(gtD ((y6.set y5.toNat (y4,(gtD y6 y5).2.1,(gtD y6 y5).2.2.1,(gtD y6 y5).2.2.2)).set y5.toNat ((gtD (y6.set y5.toNat (y4,(gtD y6 y5).2.1,(gtD y6 y5).2.2.1,(gtD y6 y5).2.2.2)) y5).1,(y4+1),(gtD (y6.set y5.toNat (y4,(gtD y6 y5).2.1,(gtD y6 y5).2.2.1,(gtD y6 y5).2.2.2)) y5).2.2.1,(gtD (y6.set y5.toNat (y4,(gtD y6 y5).2.1,(gtD y6 y5).2.2.1,(gtD y6 y5).2.2.2)) y5).2.2.2)) y5).2.1,((y4+1)+1),(gtD ((y6.set y5.toNat (y4,(gtD y6 y5).2.1,(gtD y6 y5).2.2.1,(gtD y6 y5).2.2.2)).set y5.toNat ((gtD (y6.set y5.toNat (y4,(gtD y6 y5).2.1,(gtD y6 y5).2.2.1,(gtD y6 y5).2.2.2)) y5).1,(y4+1),(gtD (y6.set y5.toNat (y4,(gtD y6 y5).2.1,(gtD y6 y5).2.2.1,(gtD y6 y5).2.2.2)) y5).2.2.1,(gtD (y6.set y5.toNat (y4,(gtD y6 y5).2.1,(gtD y6 y5).2.2.1,(gtD y6 y5).2.2.2)) y5).2.2.2)) y5).2.2.2)) y5).2.2.1,x28.2))
 ) else (
 some (y4,y6)
 )
def zC7 (fu:Nat) (p0:List zA2) (p1:Int):Option (Int × List zA2):=
 cl true (zBG fu fu p1 0 p0) fun s3=>
 some (s3.1,s3.2)
theorem zFK {fu : Nat} {A0 : Av} {p0 : List zA2} {p1 : Int} {r : Int × List zA2} (c : zC7 fu p0 p1 = some r) {w : World} {v0 : Value} {v1 : Value} {S0 : Nat → Prop} (d : AvOK A0 w) (K : ∀ b o, A0 b o → ¬ S0 b) (h0 : (trP (oSl 51 (oPr (oRd (eInt .i64)) (oPr (oRd (eInt .i64)) (oPr (oRd (eInt .i64)) (oSl 9 (oRd eStr)))))) p0 []).P (addS A0 S0) w S0 v0) (h1 : v1 = .int .i64 p1) :
 Calls prog 14 #[v0,v1] w fun e w'=>∃ v,e = .returned v∧(v = .int .i64 r.1∧Gave (oSl 51 (oPr (oRd (eInt .i64)) (oPr (oRd (eInt .i64)) (oPr (oRd (eInt .i64)) (oSl 9 (oRd eStr)))))) A0 S0 w v0 r.2 w'):=by
 unfold zC7 at c
 obtain ⟨w0,hw0,C⟩:=pc d
 have j:Ch S0 w0 w:=hw0 ▸ Ch.refl _ _
 have hA00:AvOK A0 w0:=C
 rw [show Gave (oSl 51 (oPr (oRd (eInt .i64)) (oPr (oRd (eInt .i64)) (oPr (oRd (eInt .i64)) (oSl 9 (oRd eStr)))))) A0 S0 w=Gave (oSl 51 (oPr (oRd (eInt .i64)) (oPr (oRd (eInt .i64)) (oPr (oRd (eInt .i64)) (oSl 9 (oRd eStr)))))) A0 S0 w0 from hw0 ▸ Z]
 have hw0s:w.heap.size=w0.heap.size:=hw0 ▸ Z
 have q:=IniOK.oneT h0
 have hA1:=d.oneT h0
 rw [show w.heap.size=w0.heap.size from hw0s] at q
 obtain ⟨A,hAe⟩:∃ A,A=addS A0 S0:=⟨_,Z⟩
 have B:∀ b o,A0 b o→A b o:=fun b o h=>hAe ▸ .inl h
 replace d:AvOK A w:=hAe ▸ hA1
 replace q:IniOK [⟨v0,S0,trR (fun k=>w0.heap.size≤k∨S0 k) (oSl 51 (oPr (oRd (eInt .i64)) (oPr (oRd (eInt .i64)) (oPr (oRd (eInt .i64)) (oSl 9 (oRd eStr)))))) p0 []⟩] A w:=hAe ▸ q
 refine zA5 [.tmp 4] func14 ntmps14 (by decide) Z Z (nb Z) ?_
 intro R hR
 replace h0:R 0=v0:=hR 0 _ Z
 replace h1:R 1 = .int .i64 p1:=(hR 1 _ Z).trans h1
 refine HT.seq ?_
 refine HT.t (eI 0::[]) ?_ ?_
 exact op (fun Q U W H D=>zA0 Z)<|oz
 intro R w m n p
 obtain ⟨h0,h1⟩:=k2 n h0 h1
 replace q:=q.fr m
 replace d:=d.fr m.size
 replace j:=j.tr (m.ch noB) fun _ h=>False.elim h
 refine HT.seq ?_
 refine HT.seq ?_
 refine HT.t (eI 0::[]) ?_ ?_
 exact op (fun Q U W H D=>zA0 Z)<|oz
 intro R w m n p
 obtain ⟨h0,h1⟩:=k2 n h0 h1
 have h5:=p.r 0 Z
 replace q:=q.fr m
 replace d:=d.fr m.size
 replace j:=j.tr (m.ch noB) fun _ h=>False.elim h
 obtain ⟨rl1,q2,c⟩:=zA4 c
 replace q2:=q2 Z
 refine HT.cut0 (fun R w=>∃ A:Av,∃ (s3:Int × (List zA2)) (So_v0:Nat→Prop),rl1=s3∧AvOK A w∧Ch S0 w0 w∧(∀ b o,A0 b o→A b o)∧IniOK [⟨v0,So_v0,trR (fun k=>w0.heap.size≤k∨S0 k) (oSl 51 (oPr (oRd (eInt .i64)) (oPr (oRd (eInt .i64)) (oPr (oRd (eInt .i64)) (oSl 9 (oRd eStr)))))) s3.2 []⟩] A w∧R 1 = .int .i64 s3.1) ?_ ?_
 refine HT.block ?_
 refine HT.loop (fun k R w=>∃ A:Av,∃ (y4:Int) (y5:Int) (y6:List zA2) (Sl_v0:Nat→Prop),zBG fu k y4 y5 y6=some rl1∧AvOK A w∧Ch S0 w0 w∧(∀ b o,A0 b o→A b o)∧IniOK [⟨v0,Sl_v0,trR (fun k=>w0.heap.size≤k∨S0 k) (oSl 51 (oPr (oRd (eInt .i64)) (oPr (oRd (eInt .i64)) (oPr (oRd (eInt .i64)) (oSl 9 (oRd eStr)))))) y6 []⟩] A w∧R 0=v0∧R 1 = .int .i64 y4∧R 5 = .int .i64 y5) fu ⟨_,_,_,_,S0,q2,d,j,B,q,h0,h1,h5⟩ ?_
 have hr0:=c;clear c q2
 rintro k R w ⟨A,y4,y5,y6,Sl_v0,c,d,j,B,q,h0,h1,h5⟩
 rcases k with _ | k
 cases (show none=some _ from c)
 rw [zBG] at c
 refine HT.seq ?_
 refine HT.seq ?_
 refine HT.t (eI y5::eR v0::eI (y6.length:Int)::eB (decide (y5<(y6.length:Int)))::[]) ?_ ?_
 exact om h5<|om h0<|op (fun Q U W H D=>zLh (zBL (q.own 0 _ Z).2) (D.g 0 Z) underlying26)<|op (fun Q U W H D=>zAg (D.g 0 Z) (D.g 1 Z))<|oz
 intro R w m n p
 obtain ⟨h0,h1,h5⟩:=k3 n h0 h1 h5
 have h9:=p.r 3 Z
 replace q:=q.fr m
 replace d:=d.fr m.size
 replace j:=j.tr (m.ch noB) fun _ h=>False.elim h
 refine HT.cond (decide (y5<(y6.length:Int))) h9 (fun c7=>?_) (fun c7=>?_)
 have c:=zAH c7 c
 refine HT.skip ?_
 refine HT.seq ?_
 refine HT.block ?_
 obtain ⟨e8,c⟩:=zA3 c
 refine HT.sx [⟨v0,Sl_v0,trR (fun k=>w0.heap.size≤k∨S0 k) (oSl 51 (oPr (oRd (eInt .i64)) (oPr (oRd (eInt .i64)) (oPr (oRd (eInt .i64)) (oSl 9 (oRd eStr)))))) y6 []⟩] (rR v0::rI y5::rI y4::rR (vptr v0 (y5.toNat*4))::rR (vptr v0 (y5.toNat*4))::⟨_,true,[0],some (trR (fun k=>w0.heap.size≤k∨S0 k) (oSl 51 (oPr (oRd (eInt .i64)) (oPr (oRd (eInt .i64)) (oPr (oRd (eInt .i64)) (oSl 9 (oRd eStr)))))) (y6.set y5.toNat (y4,(gtD y6 y5).2.1,(gtD y6 y5).2.2.1,(gtD y6 y5).2.2.2)) []),false,fun A=>.any⟩::[]) (ur (ur (ur (ur (ur (ua (UAll.nil))))))) q d ?_ ?_
 exact rm h0<|rm h5<|rm h1<|rp (fun V Q U O D=>zDD (zBL (q.own 0 _ Z).2) (D.g 0 Z) (D.g 1 Z) underlying26 sizeOf51 e8 Z)<|rp (fun V Q U O D=>zBQ (((zBL (q.own 0 _ Z).2).elem e8 Z)).ad (D.g 0 Z) zGw sizeOf3 (by decide) (zJU (((zBL (q.own 0 _ Z).2).elem e8 Z)).ad))<|rc (OblR.tookS 0 _ _ Z Z Z Z Z fun V Q U O D u S X I Y J L M=>by have a0:Q 16=(vptr v0 (y5.toNat*4)):=D.g 0 Z;have a1:Q 14 = .int .i64 y4:=D.g 1 Z;have e0:=(J _ Z).1;rw [e0] at I ⊢;exact zE7 (((zBL I.2).elem e8 Z)).fst (zBp.eq a1) a0 Y I.1 sizeOf3 (fun _ _ _ h=>h))<|rz
 intro done ρ σ A R w y s
 obtain ⟨h0,h1,h5⟩:=k3 s.rg h0 h1 h5
 have z9:=s.inivR 0 Z
 have z10:=s.on y 6 5 Z Z Z Z Z z9
 obtain ⟨S11,eS_v0⟩:∃ S,σ 6=S:=⟨_,Z⟩
 replace B:=s.lowK B C K (q.geK (⟨fun _ h=>h,N⟩))
 replace j:Ch S0 w0 w:=j.tr s.ch (q.geK (⟨fun _ h=>h,N⟩))
 replace q:=s.left y [(6,⟨v0,S11,trR (fun k=>w0.heap.size≤k∨S0 k) (oSl 51 (oPr (oRd (eInt .i64)) (oPr (oRd (eInt .i64)) (oPr (oRd (eInt .i64)) (oSl 9 (oRd eStr)))))) (y6.set y5.toNat (y4,(gtD y6 y5).2.1,(gtD y6 y5).2.2.1,(gtD y6 y5).2.2.2)) []⟩)] ⟨Z,Z,z10,eS_v0,Z,N⟩
 replace d:=s.avok
 refine HT.seq ?_
 obtain ⟨e12,c⟩:=zA3 c
 refine HT.t (eI y4::eI (y4+1)::eI (y4+1)::[]) ?_ ?_
 exact om h1<|op (fun Q U W H D=>zAO (D.g 0 Z) Z e12)<|oa<|oz
 intro R w m n p
 obtain ⟨h0,h5⟩:=k2 n h0 h5
 have h1:=p.r 2 Z
 replace q:=q.fr m
 replace d:=d.fr m.size
 replace j:=j.tr (m.ch noB) fun _ h=>False.elim h
 obtain ⟨e13,c⟩:=zA3 c
 refine HT.sx [⟨v0,S11,trR (fun k=>w0.heap.size≤k∨S0 k) (oSl 51 (oPr (oRd (eInt .i64)) (oPr (oRd (eInt .i64)) (oPr (oRd (eInt .i64)) (oSl 9 (oRd eStr)))))) (y6.set y5.toNat (y4,(gtD y6 y5).2.1,(gtD y6 y5).2.2.1,(gtD y6 y5).2.2.2)) []⟩] (rR v0::rI y5::rI (y4+1)::rR (vptr v0 (y5.toNat*4))::rR (vptr v0 (y5.toNat*4+1))::⟨_,true,[0],some (trR (fun k=>w0.heap.size≤k∨S0 k) (oSl 51 (oPr (oRd (eInt .i64)) (oPr (oRd (eInt .i64)) (oPr (oRd (eInt .i64)) (oSl 9 (oRd eStr)))))) ((y6.set y5.toNat (y4,(gtD y6 y5).2.1,(gtD y6 y5).2.2.1,(gtD y6 y5).2.2.2)).set y5.toNat ((gtD (y6.set y5.toNat (y4,(gtD y6 y5).2.1,(gtD y6 y5).2.2.1,(gtD y6 y5).2.2.2)) y5).1,(y4+1),(gtD (y6.set y5.toNat (y4,(gtD y6 y5).2.1,(gtD y6 y5).2.2.1,(gtD y6 y5).2.2.2)) y5).2.2.1,(gtD (y6.set y5.toNat (y4,(gtD y6 y5).2.1,(gtD y6 y5).2.2.1,(gtD y6 y5).2.2.2)) y5).2.2.2)) []),false,fun A=>.any⟩::[]) (ur (ur (ur (ur (ur (ua (UAll.nil))))))) q d ?_ ?_
 exact rm h0<|rm h5<|rm h1<|rp (fun V Q U O D=>zDD (zBL (q.own 0 _ Z).2) (D.g 0 Z) (D.g 1 Z) underlying26 sizeOf51 e13 Z)<|rp (fun V Q U O D=>zBQ (((zBL (q.own 0 _ Z).2).elem e13 Z)).ad (D.g 0 Z) zGe sizeOf3 (by decide) (zCt _ _ _))<|rc (OblR.tookS 0 _ _ Z Z Z Z Z fun V Q U O D u S X I Y J L M=>by have a0:Q 23=(vptr v0 (y5.toNat*4+1)):=D.g 0 Z;have a1:Q 21 = .int .i64 (y4+1):=D.g 1 Z;have e0:=(J _ Z).1;rw [e0] at I ⊢;exact zE7 ((((zBL I.2).elem e13 Z)).snd (zCt _ _ _)).fst (zBp.eq a1) a0 Y I.1 sizeOf3 (fun _ _ _ h=>h))<|rz
 intro done ρ σ A R w y s
 obtain ⟨h0,h1,h5⟩:=k3 s.rg h0 h1 h5
 have z14:=s.inivR 0 Z
 have z15:=s.on y 6 5 Z Z Z Z Z z14
 obtain ⟨S16,eS_v0⟩:∃ S,σ 6=S:=⟨_,Z⟩
 replace B:=s.lowK B C K (q.geK (⟨fun _ h=>h,N⟩))
 replace j:Ch S0 w0 w:=j.tr s.ch (q.geK (⟨fun _ h=>h,N⟩))
 replace q:=s.left y [(6,⟨v0,S16,trR (fun k=>w0.heap.size≤k∨S0 k) (oSl 51 (oPr (oRd (eInt .i64)) (oPr (oRd (eInt .i64)) (oPr (oRd (eInt .i64)) (oSl 9 (oRd eStr)))))) ((y6.set y5.toNat (y4,(gtD y6 y5).2.1,(gtD y6 y5).2.2.1,(gtD y6 y5).2.2.2)).set y5.toNat ((gtD (y6.set y5.toNat (y4,(gtD y6 y5).2.1,(gtD y6 y5).2.2.1,(gtD y6 y5).2.2.2)) y5).1,(y4+1),(gtD (y6.set y5.toNat (y4,(gtD y6 y5).2.1,(gtD y6 y5).2.2.1,(gtD y6 y5).2.2.2)) y5).2.2.1,(gtD (y6.set y5.toNat (y4,(gtD y6 y5).2.1,(gtD y6 y5).2.2.1,(gtD y6 y5).2.2.2)) y5).2.2.2)) []⟩)] ⟨Z,Z,z15,eS_v0,Z,N⟩
 replace d:=s.avok
 obtain ⟨Yg16,g_Yg16⟩:∃ z:List zA2,z=((y6.set y5.toNat (y4,(gtD y6 y5).2.1,(gtD y6 y5).2.2.1,(gtD y6 y5).2.2.2)).set y5.toNat ((gtD (y6.set y5.toNat (y4,(gtD y6 y5).2.1,(gtD y6 y5).2.2.1,(gtD y6 y5).2.2.2)) y5).1,(y4+1),(gtD (y6.set y5.toNat (y4,(gtD y6 y5).2.1,(gtD y6 y5).2.2.1,(gtD y6 y5).2.2.2)) y5).2.2.1,(gtD (y6.set y5.toNat (y4,(gtD y6 y5).2.1,(gtD y6 y5).2.2.1,(gtD y6 y5).2.2.2)) y5).2.2.2)):=⟨_,Z⟩
 rw [← g_Yg16] at q
 try rw [← g_Yg16] at c
 refine HT.seq ?_
 obtain ⟨e18,c⟩:=zA3 c
 refine HT.t (eI (y4+1)::eI ((y4+1)+1)::eI ((y4+1)+1)::[]) ?_ ?_
 exact om h1<|op (fun Q U W H D=>zAO (D.g 0 Z) Z e18)<|oa<|oz
 intro R w m n p
 obtain ⟨h0,h5⟩:=k2 n h0 h5
 have h1:=p.r 2 Z
 replace q:=q.fr m
 replace d:=d.fr m.size
 replace j:=j.tr (m.ch noB) fun _ h=>False.elim h
 obtain ⟨e19,c⟩:=zA3 c
 refine HT.sx [⟨v0,S16,trR (fun k=>w0.heap.size≤k∨S0 k) (oSl 51 (oPr (oRd (eInt .i64)) (oPr (oRd (eInt .i64)) (oPr (oRd (eInt .i64)) (oSl 9 (oRd eStr)))))) Yg16 []⟩] (rR v0::rI y5::rI ((y4+1)+1)::rR (vptr v0 (y5.toNat*4))::rR (vptr v0 (y5.toNat*4+2))::⟨_,true,[0],some (trR (fun k=>w0.heap.size≤k∨S0 k) (oSl 51 (oPr (oRd (eInt .i64)) (oPr (oRd (eInt .i64)) (oPr (oRd (eInt .i64)) (oSl 9 (oRd eStr)))))) (Yg16.set y5.toNat ((gtD Yg16 y5).1,(gtD Yg16 y5).2.1,((y4+1)+1),(gtD Yg16 y5).2.2.2)) []),false,fun A=>.any⟩::[]) (ur (ur (ur (ur (ur (ua (UAll.nil))))))) q d ?_ ?_
 exact rm h0<|rm h5<|rm h1<|rp (fun V Q U O D=>zDD (zBL (q.own 0 _ Z).2) (D.g 0 Z) (D.g 1 Z) underlying26 sizeOf51 e19 Z)<|rp (fun V Q U O D=>zBQ (((zBL (q.own 0 _ Z).2).elem e19 Z)).ad (D.g 0 Z) zGr sizeOf3 (by decide) (zCt _ _ _))<|rc (OblR.tookS 0 _ _ Z Z Z Z Z fun V Q U O D u S X I Y J L M=>by have a0:Q 30=(vptr v0 (y5.toNat*4+2)):=D.g 0 Z;have a1:Q 28 = .int .i64 ((y4+1)+1):=D.g 1 Z;have e0:=(J _ Z).1;rw [e0] at I ⊢;exact zE7 (((((zBL I.2).elem e19 Z)).snd (zCt _ _ _)).snd (zCt _ _ _)).fst (zBp.eq a1) a0 Y I.1 sizeOf3 (fun _ _ _ h=>h))<|rz
 intro done ρ σ A R w y s
 obtain ⟨h0,h1,h5⟩:=k3 s.rg h0 h1 h5
 have z20:=s.inivR 0 Z
 have z21:=s.on y 6 5 Z Z Z Z Z z20
 obtain ⟨S22,eS_v0⟩:∃ S,σ 6=S:=⟨_,Z⟩
 replace B:=s.lowK B C K (q.geK (⟨fun _ h=>h,N⟩))
 replace j:Ch S0 w0 w:=j.tr s.ch (q.geK (⟨fun _ h=>h,N⟩))
 replace q:=s.left y [(6,⟨v0,S22,trR (fun k=>w0.heap.size≤k∨S0 k) (oSl 51 (oPr (oRd (eInt .i64)) (oPr (oRd (eInt .i64)) (oPr (oRd (eInt .i64)) (oSl 9 (oRd eStr)))))) (Yg16.set y5.toNat ((gtD Yg16 y5).1,(gtD Yg16 y5).2.1,((y4+1)+1),(gtD Yg16 y5).2.2.2)) []⟩)] ⟨Z,Z,z21,eS_v0,Z,N⟩
 replace d:=s.avok
 obtain ⟨Yg22,g_Yg22⟩:∃ z:List zA2,z=(Yg16.set y5.toNat ((gtD Yg16 y5).1,(gtD Yg16 y5).2.1,((y4+1)+1),(gtD Yg16 y5).2.2.2)):=⟨_,Z⟩
 rw [← g_Yg22] at q
 try rw [← g_Yg22] at c
 refine HT.seq ?_
 obtain ⟨e24,c⟩:=zA3 c
 refine HT.t (eI ((y4+1)+1)::eI (((y4+1)+1)+1)::eI (((y4+1)+1)+1)::[]) ?_ ?_
 exact om h1<|op (fun Q U W H D=>zAO (D.g 0 Z) Z e24)<|oa<|oz
 intro R w m n p
 obtain ⟨h0,h5⟩:=k2 n h0 h5
 have h1:=p.r 2 Z
 replace q:=q.fr m
 replace d:=d.fr m.size
 replace j:=j.tr (m.ch noB) fun _ h=>False.elim h
 obtain ⟨e25,c⟩:=zA3 c
 obtain ⟨h26,p_h26⟩:=(((((((zBL (q.own 0 _ Z).2).elem e25 Z)).snd (zCt _ _ _)).snd (zCt _ _ _)).snd (zCt _ _ _))).open1 Z
 replace q:IniOK [⟨v0,S22,trR (fun k=>w0.heap.size≤k∨S0 k) (oSl 51 (oPr (oRd (eInt .i64)) (oPr (oRd (eInt .i64)) (oPr (oRd (eInt .i64)) (oSl 9 (oRd eStr)))))) Yg22 [((vptr v0 (y5.toNat*4+3)),[h26])]⟩] A w:=q.repin 0 Z (trP.pin p_h26)
 obtain ⟨x28,q29,c⟩:=zA4 c
 refine HT.x [⟨v0,S22,trR (fun k=>w0.heap.size≤k∨S0 k) (oSl 51 (oPr (oRd (eInt .i64)) (oPr (oRd (eInt .i64)) (oPr (oRd (eInt .i64)) (oSl 9 (oRd eStr)))))) Yg22 [((vptr v0 (y5.toNat*4+3)),[h26])]⟩] (rR v0::rI y5::rR (vptr v0 (y5.toNat*4))::rR (vptr v0 (y5.toNat*4+3))::rR h26::rI (((y4+1)+1)+1)::⟨_,true,[0],some (trR (fun k=>w0.heap.size≤k∨S0 k) (oSl 51 (oPr (oRd (eInt .i64)) (oPr (oRd (eInt .i64)) (oPr (oRd (eInt .i64)) (oSl 9 (oRd eStr)))))) (Yg22.set y5.toNat ((gtD Yg22 y5).1,(gtD Yg22 y5).2.1,(gtD Yg22 y5).2.2.1,x28.2)) []),false,fun A=>.raw (.int .i64 x28.1)⟩::rI x28.1::[]) (ur (ur (ur (ur (ur (ur (ur (ur (UAll.nil))))))))) q d ?_ ?_
 exact rm h0<|rm h5<|rp (fun V Q U O D=>zDD (zBL (q.own 0 _ Z).2) (D.g 0 Z) (D.g 1 Z) underlying26 sizeOf51 e25 Z)<|rp (fun V Q U O D=>zBQ (((zBL (q.own 0 _ Z).2).elem e25 Z)).ad (D.g 0 Z) zCb sizeOf34 (by decide) (zCt _ _ _))<|rp (fun V Q U O D=>zHJ ((O.rdo 0 _ Z Z).2.2 _ (.head _)) (D.g 0 Z) isAgg34 sizeOf34)<|rm h1<|rc (OblR.tookS 0 _ _ Z Z Z Z Z fun V Q U O D u S X I Y J L M=>by have a0:Q 37=h26:=D.g 0 Z;have a1:Q 38 = .int .i64 (((y4+1)+1)+1):=D.g 1 Z;have e0:=(J _ Z).1;rw [e0] at I ⊢;have hu0:zA9 Q (.tmp 37)=h26:=a0;exact zI6 call22 ((((((((zBL I.2).elem e25 Z)).snd (zCt _ _ _)).snd (zCt _ _ _)).snd (zCt _ _ _))).pin (I.2.2 _ (.head _)) Z) Y I.1 (fun k hk=>.inl (Nat.le_trans (Nat.le_trans j.size O.ch.size) hk)) (fun k hk=>SP.lt _ I.2 hk) (fun S1 hS1 hP=>by simp only [List.map,hu0];exact Calls.mono (zEK (q29 Z) (O.av.subS _) (fun b o h hb=>h.2 ((zK9 (fun _ _ _ _ _ h=>h) hP) ▸ hb)) (zJ1 (fun _ _ _ _ _ h=>h) hP).1 a1) (fun _ _ ⟨v,h1,h2⟩=>⟨v,h1,zK3 (fun _ _ _ _ _ h=>h) hP h2 (zK9 (fun _ _ _ _ _ h=>h) hP)⟩)) (fun _ _ _ h=>h))<|ra<|rz
 intro done ρ σ A R w y s
 obtain ⟨h0,h5⟩:=k2 s.rg h0 h5
 have z30:=s.inivR 0 Z
 have z31:=s.on y 7 6 Z Z Z Z Z z30
 obtain ⟨S32,eS_v0⟩:∃ S,σ 7=S:=⟨_,Z⟩
 have h1:=s.r y 7 Z
 replace B:=s.lowK B C K (q.geK (⟨fun _ h=>h,N⟩))
 replace j:Ch S0 w0 w:=j.tr s.ch (q.geK (⟨fun _ h=>h,N⟩))
 replace q:=s.left y [(7,⟨v0,S32,trR (fun k=>w0.heap.size≤k∨S0 k) (oSl 51 (oPr (oRd (eInt .i64)) (oPr (oRd (eInt .i64)) (oPr (oRd (eInt .i64)) (oSl 9 (oRd eStr)))))) (Yg22.set y5.toNat ((gtD Yg22 y5).1,(gtD Yg22 y5).2.1,(gtD Yg22 y5).2.2.1,x28.2)) []⟩)] ⟨Z,Z,z31,eS_v0,Z,N⟩
 replace d:=s.avok
 obtain ⟨e33,c⟩:=zA3 c
 refine HT.t (eI y5::eI (y5+1)::eI (y5+1)::[]) ?_ ?_
 exact om h5<|op (fun Q U W H D=>zAO (D.g 0 Z) Z e33)<|oa<|oz
 intro R w m n p
 obtain ⟨h0,h1⟩:=k2 n h0 h1
 have h5:=p.r 2 Z
 replace q:=q.fr m
 replace d:=d.fr m.size
 replace j:=j.tr (m.ch noB) fun _ h=>False.elim h
 exact ei k (And.intro (Nat.lt_succ_self k) ⟨_,_,_,_,S32,c,d,j,B,q,h0,h1,h5⟩)
 have c:=zAG c7 c
 refine HT.exit ?_
 obtain rfl:=si c
 exact ei _ ⟨_,Sl_v0,Z,d,j,B,q,h1⟩
 rintro R w ⟨A,s3,So_v0,es,d,j,B,q,h1⟩
 obtain rfl:=es.symm
 refine HT.seq ?_
 refine HT.t (eI s3.1::eI s3.1::[]) ?_ ?_
 exact om h1<|oa<|oz
 intro R w m n p
 have h4:=p.r 1 Z
 replace q:=q.fr m
 replace d:=d.fr m.size
 replace j:=j.tr (m.ch noB) fun _ h=>False.elim h
 refine HT.ret ?_
 obtain rfl:=si c
 exact ⟨.inr Z,[R 4],⟨Z,N⟩,h4,zLX Z (q.own 0 _ Z) (q.ok 0 _ Z).2 B j⟩
end Go.Proofs.YtldppodfhabkjaaGreatDoor
namespace Go.Proofs.YtldppodfhabkjaaGreatDoor
open Go.RowKit
set_option linter.unusedVariables false
open _root_.Go.Proofs.Tryz
set_option maxRecDepth 100000
set_option maxHeartbeats 4000000
end Go.Proofs.YtldppodfhabkjaaGreatDoor
namespace Go.Proofs.YtldppodfhabkjaaGreatDoor
open Go.RowKit
set_option linter.unusedVariables false
open _root_.Go.Proofs.Tryz
set_option maxRecDepth 100000
set_option maxHeartbeats 4000000
def zAX (fu : Nat) (p1 : Int) (x2 : List zAA) : Nat → Int → (List (List UInt8)) → Option (List (List UInt8))
 | 0,_,_=>none
 | k+1,y8,y9=>
 bif (decide (y8<(x2.length:Int))) then (
 ck (inR y8 x2.length) <|
 bif (decide (p1<(((gtD x2 y8).2).length:Int))) then (
 ck (inR y8 x2.length) <|
 ck (zBE (y9.length+([(gtD x2 y8).1]:List (List UInt8)).length)) <|
 ck (i64B (y8+1)) <|
 zAX fu p1 x2 k (y8+1) (y9++([(gtD x2 y8).1]:List (List UInt8)))
 ) else (
 ck (i64B (y8+1)) <|
 zAX fu p1 x2 k (y8+1) y9
 )
 ) else (
 some y9
 )
def zAs (fu:Nat) (p0:List zA2) (p1:Int):Option (List (List UInt8)):=
 cl true (zC8 fu p0) fun x2=>
 cl true (zAX fu p1 x2 fu 0 ([]:List (List UInt8))) fun s7=>
 some s7
theorem zEo {fu : Nat} {A0 : Av} {p0 : List zA2} {p1 : Int} {r : List (List UInt8)} (c : zAs fu p0 p1 = some r) {w : World} {v0 : Value} {v1 : Value} (d : AvOK A0 w) (h0 : Rep (eSl zA1) A0 w v0 p0) (h1 : v1 = .int .i64 p1) :
 Calls prog 19 #[v0,v1] w fun e w'=>∃ v,e = .returned v∧((Res.vec w.heap.size 9 eStr r).ok (addA A0 v) v w'∧Fr w w'):=by
 unfold zAs at c
 obtain ⟨w0,hw0,j,C⟩:=pw d
 have hA00:AvOK A0 w0:=C
 rw [fh hw0]
 rw [fw hw0]
 obtain ⟨A,hAe,B,d,q⟩:=pa d
 refine zA5 [.tmp 4] func19 ntmps19 (by decide) Z Z (nb Z) ?_
 intro R hR
 have f_v0:Rep (eSl zA1) A w v0 p0:=hAe ▸ h0
 replace h0:R 0=v0:=hR 0 _ Z
 replace h1:R 1 = .int .i64 p1:=(hR 1 _ Z).trans h1
 refine HT.su d j (eA::[]) ?_ ?_
 exact op (fun Q U W H D=>zA0 N)<|oz
 intro R w m n p d j
 obtain ⟨h0,h1⟩:=k2 n h0 h1
 replace f_v0:=f_v0.fr m
 replace q:=q.fr m
 refine HT.sx [] (⟨_,true,[],some (.vec w0.heap.size 9 eStr ([]:List (List UInt8))),true,fun A=>.any⟩::⟨_,true,[0],some (.vec w0.heap.size 9 eStr ([]:List (List UInt8))),true,fun A=>.any⟩::[]) (ua (ua (UAll.nil))) q d ?_ ?_
 exact rc (OblR.made _ Z Z Z Z fun V Q U O D=>by exact zCA [] (E:=eStr) N underlying34 sizeOf9 zeroValue9 Z Z Z (Nat.le_trans j.size O.ch.size))<|rc (OblR.took 0 _ _ Z Z Z Z Z fun V Q U O D u X Y J L M=>by exact zA8 (L _ _ Z Z Z Z).symm X Y)<|rz
 intro done ρ σ A R w y s
 obtain ⟨h0,h1⟩:=k2 s.rg h0 h1
 obtain ⟨u1,e_u1⟩:∃ u,ρ 1=u:=⟨_,Z⟩
 have h5:=s.ov y 1 1 e_u1
 replace f_v0:=f_v0.stp s.stp
 obtain ⟨B,j,d⟩:=s.s B C j q N
 replace q:=s.left y [(1,ob u1 (.vec w0.heap.size 9 eStr ([]:List (List UInt8))))] ⟨Z,Z,e_u1,Z,Z,N⟩
 obtain ⟨x2,q3,c⟩:=zA4 c
 refine HT.su d j (eR v0::eF (.rep (eSl zAD) A x2)::eF (.rep (eSl zAD) A x2)::[]) ?_ ?_
 exact om h0<|op (fun Q U W H D=>zAC call9 (zFI (q3 Z) (d.fr W.size) ((f_v0.fr W).eq (D.g 0 Z))))<|op (fun Q U W H D=>zA0 (D.g 0 Z))<|oz
 intro R w m n p d j
 obtain ⟨h1,h5⟩:=k2 n h1 h5
 obtain ⟨u4,h6,f_u4⟩:∃ u,R 6=u∧Rep (eSl zAD) A w u x2:=⟨_,Z,p 2 _ _ Z Z Z⟩
 replace q:=q.fr m
 refine HT.seq ?_
 refine HT.su d j (eI 0::[]) ?_ ?_
 exact op (fun Q U W H D=>zA0 Z)<|oz
 intro R w m n p d j
 obtain ⟨h1,h5,h6⟩:=k3 n h1 h5 h6
 have h7:=p.r 0 Z
 replace f_u4:=f_u4.fr m
 replace q:=q.fr m
 obtain ⟨rl5,q6,c⟩:=zA4 c
 replace q6:=q6 Z
 refine HT.cut0 (fun R w=>∃ A:Av,∃ (s7:(List (List UInt8))) (uo_u1:Value),rl5=s7∧AvOK A w∧Fr w0 w∧(∀ b o,A0 b o→A b o)∧IniOK [ob uo_u1 (.vec w0.heap.size 9 eStr s7)] A w∧R 5=uo_u1) ?_ ?_
 refine HT.block ?_
 refine HT.loop (fun k R w=>∃ A:Av,∃ (y8:Int) (y9:List (List UInt8)) (ul_u1:Value),zAX fu p1 x2 k y8 y9=some rl5∧AvOK A w∧Fr w0 w∧(∀ b o,A0 b o→A b o)∧IniOK [ob ul_u1 (.vec w0.heap.size 9 eStr y9)] A w∧R 1 = .int .i64 p1∧R 5=ul_u1∧R 6=u4∧R 7 = .int .i64 y8∧Rep (eSl zAD) A w u4 x2) fu ⟨_,_,_,u1,q6,d,j,B,q,h1,h5,h6,h7,f_u4⟩ ?_
 have hr0:=c;clear c q6
 rintro k R w ⟨A,y8,y9,ul_u1,c,d,j,B,q,h1,h5,h6,h7,f_u4⟩
 rcases k with _ | k
 cases (show none=some _ from c)
 rw [zAX] at c
 refine HT.seq ?_
 refine HT.su d j (eI y8::eR u4::eI (x2.length:Int)::eB (decide (y8<(x2.length:Int)))::[]) ?_ ?_
 exact om h7<|om h6<|op (fun Q U W H D=>zAL (aT:=#[]) ((f_u4.fr W).eq (D.g 0 Z)) underlying24)<|op (fun Q U W H D=>zAg (D.g 0 Z) (D.g 1 Z))<|oz
 intro R w m n p d j
 obtain ⟨h1,h5,h6,h7⟩:=k4 n h1 h5 h6 h7
 have h14:=p.r 3 Z
 replace f_u4:=f_u4.fr m
 replace q:=q.fr m
 refine HT.cond (decide (y8<(x2.length:Int))) h14 (fun c10=>?_) (fun c10=>?_)
 have c:=zAH c10 c
 refine HT.skip ?_
 refine HT.seq ?_
 refine HT.block ?_
 obtain ⟨e11,c⟩:=zA3 c
 refine HT.su d j (eR u4::eI y8::eF (.qtr zAD A (gtD x2 y8))::eF (.qtr (eSl (eInt .i64)) A ((gtD x2 y8).2))::eF (.rep (eSl (eInt .i64)) A ((gtD x2 y8).2))::eI (((gtD x2 y8).2).length:Int)::eI p1::eB (decide (p1<(((gtD x2 y8).2).length:Int)))::[]) ?_ ?_
 exact om h6<|om h7<|op (fun Q U W H D=>zAB ((f_u4.fr W).eq (D.g 0 Z)) (D.g 1 Z) underlying24 sizeOf54 e11)<|op (fun Q U W H D=>zFs (qt (D.g 0 Z)) zIZ sizeOf52 (by decide) zFZ Z)<|op (fun Q U W H D=>(zAf (QRep.ptr (D.g 0 Z)) isAgg52 sizeOf52))<|op (fun Q U W H D=>zAL (aT:=#[]) (D.g 0 Z) underlying52)<|om h1<|op (fun Q U W H D=>zDz (D.g 0 Z) (D.g 1 Z))<|oz
 intro R w m n p d j
 obtain ⟨h1,h5,h6,h7⟩:=k4 n h1 h5 h6 h7
 have h24:=p.r 7 Z
 replace f_u4:=f_u4.fr m
 replace q:=q.fr m
 refine HT.cond (decide (p1<(((gtD x2 y8).2).length:Int))) h24 (fun c12=>?_) (fun c12=>?_)
 have c:=zAH c12 c
 obtain ⟨e13,e14,c⟩:=ck2 c
 refine HT.x [ob ul_u1 (.vec w0.heap.size 9 eStr y9)] (rR ul_u1::rR u4::rI y8::(rF fun A=>.qtr zAD A (gtD x2 y8))::(rF fun A=>.qtr eStr A ((gtD x2 y8).1))::(rF fun A=>.rep eStr A ((gtD x2 y8).1))::(rF fun A=>.rep (eSl eStr) A ([(gtD x2 y8).1]:List (List UInt8)))::⟨_,true,[0],some (.vec w0.heap.size 9 eStr (y9++([(gtD x2 y8).1]:List (List UInt8)))),true,fun A=>.any⟩::⟨_,true,[8],some (.vec w0.heap.size 9 eStr (y9++([(gtD x2 y8).1]:List (List UInt8)))),true,fun A=>.any⟩::[]) (ur (ur (ur (UAll.cons zEA (UAll.cons zEA (up (up (ua (ua (UAll.nil)))))))))) q d ?_ ?_
 exact rm h5<|rm h6<|rm h7<|rp (fun V Q U O D=>zAB ((f_u4.stp O.stp).eq (D.g 0 Z)) (D.g 1 Z) underlying24 sizeOf54 e13)<|rp (fun V Q U O D=>zFs (qt (D.g 0 Z)) zLR sizeOf9 (by decide) zFO Z)<|rp (fun V Q U O D=>(zAf (QRep.ptr (D.g 0 Z)) isAgg9 sizeOf9))<|rp (fun V Q U O D=>zAu [_] (E:=eStr) ⟨(D.g 0 Z),N⟩ underlying34 sizeOf9 zeroValue9 Z Z Z O.av)<|rc (OblR.took 0 _ _ Z Z Z Z Z fun V Q U O D u X Y J L M=>by have a0:Q 25=ul_u1:=D.g 0 Z;have a1:Rep (eSl eStr) V U (Q 31) ([(gtD x2 y8).1]:List (List UInt8)):=D.g 1 Z;exact zAS (a0.trans (J _ Z).symm) X Y (Nat.le_trans j.size O.ch.size) a1 underlying34 el_9 e14)<|rc (OblR.took 8 _ _ Z Z Z Z Z fun V Q U O D u X Y J L M=>by exact zA8 (L _ _ Z Z Z Z).symm X Y)<|rz
 intro done ρ σ A R w y s
 obtain ⟨h1,h6,h7⟩:=k3 s.rg h1 h6 h7
 obtain ⟨u15,e_u15⟩:∃ u,ρ 9=u:=⟨_,Z⟩
 have h5:=s.ov y 9 8 e_u15
 replace f_u4:=f_u4.stp s.stp
 obtain ⟨B,j,d⟩:=s.s B C j q ⟨Z,N⟩
 replace q:=s.left y [(9,ob u15 (.vec w0.heap.size 9 eStr (y9++([(gtD x2 y8).1]:List (List UInt8)))))] ⟨Z,Z,e_u15,Z,Z,N⟩
 obtain ⟨e16,c⟩:=zA3 c
 refine HT.u d j (eI y8::eI (y8+1)::eI (y8+1)::[]) ?_ ?_
 exact om h7<|op (fun Q U W H D=>zAO (D.g 0 Z) Z e16)<|oa<|oz
 intro R w m n p d j
 obtain ⟨h1,h5,h6⟩:=k3 n h1 h5 h6
 have h7:=p.r 2 Z
 replace f_u4:=f_u4.fr m
 replace q:=q.fr m
 exact ei k (And.intro (Nat.lt_succ_self k) ⟨_,_,_,u15,c,d,j,B,q,h1,h5,h6,h7,f_u4⟩)
 have c:=zAG c12 c
 refine HT.skip ?_
 obtain ⟨e17,c⟩:=zA3 c
 refine HT.u d j (eI y8::eI (y8+1)::eI (y8+1)::[]) ?_ ?_
 exact om h7<|op (fun Q U W H D=>zAO (D.g 0 Z) Z e17)<|oa<|oz
 intro R w m n p d j
 obtain ⟨h1,h5,h6⟩:=k3 n h1 h5 h6
 have h7:=p.r 2 Z
 replace f_u4:=f_u4.fr m
 replace q:=q.fr m
 exact ei k (And.intro (Nat.lt_succ_self k) ⟨_,_,_,ul_u1,c,d,j,B,q,h1,h5,h6,h7,f_u4⟩)
 have c:=zAG c10 c
 refine HT.exit ?_
 obtain rfl:=si c
 exact ei _ ⟨_,ul_u1,Z,d,j,B,q,h5⟩
 rintro R w ⟨A,s7,uo_u1,es,d,j,B,q,h5⟩
 obtain rfl:=es.symm
 refine HT.su d j (eR uo_u1::eR uo_u1::[]) ?_ ?_
 exact om h5<|oa<|oz
 intro R w m n p d j
 have h4:=p.r 1 Z
 replace q:=q.fr m
 refine HT.ret ?_
 obtain rfl:=si c
 exact ⟨.inr Z,[R 4],⟨Z,N⟩,(zBu (q.ok 0 _ Z) B h4),j⟩
theorem zEc {fu : Nat} {A0 : Av} {p0 : List zA2} {p1 : Int} {r : List (List UInt8)} (c : zAs fu p0 p1 = some r) {w : World} {v0 : Value} {v1 : Value} (d : AvOK A0 w) (h0 : Rep (eSl zA1) A0 w v0 p0) (h1 : v1 = .int .i64 p1) :
 Calls prog 19 #[v0,v1] w fun e w'=>∃ v,e = .returned v∧(Rep (eSl eStr) A0 w' v r∧Fr w w'):=by
 refine Calls.mono (zEo c d h0 h1) ?_
 rintro e w' ⟨v,he,hv,hf⟩
 exact ⟨v,he,zBf hv (fun b o h=>.inl h) d,hf⟩
def zAY (fu : Nat) (p1 : Int) (x2 : List zAA) : Nat → Int → (List (List UInt8)) → Option (List (List UInt8))
 | 0,_,_=>none
 | k+1,y8,y9=>
 bif (decide (y8<(x2.length:Int))) then (
 ck (inR y8 x2.length) <|
 bif (decide (p1<(((gtD x2 y8).2).length:Int))) then (
 ck (zBE (y9.length+([(gtD x2 y8).1]:List (List UInt8)).length)) <|
 ck (i64B (y8+1)) <|
 zAY fu p1 x2 k (y8+1) (y9++([(gtD x2 y8).1]:List (List UInt8)))
 ) else (
 ck (i64B (y8+1)) <|
 zAY fu p1 x2 k (y8+1) y9
 )
 ) else (
 some y9
 )
def zAk (fu:Nat) (p0:List zA2) (p1:Int):Option (List (List UInt8)):=
 cl true (zC9 fu p0) fun x2=>
 cl true (zAY fu p1 x2 fu 0 ([]:List (List UInt8))) fun s7=>
 some s7
theorem zDQ {fu : Nat} {A0 : Av} {p0 : List zA2} {p1 : Int} {r : List (List UInt8)} (c : zAk fu p0 p1 = some r) {w : World} {v0 : Value} {v1 : Value} (d : AvOK A0 w) (hG : GTab w) (h0 : Rep (eSl zA1) A0 w v0 p0) (h1 : v1 = .int .i64 p1) :
 Calls prog 20 #[v0,v1] w fun e w'=>∃ v,e = .returned v∧((Res.vec w.heap.size 9 eStr r).ok (addA A0 v) v w'∧Fr w w'):=by
 unfold zAk at c
 obtain ⟨w0,hw0,j,C⟩:=pw d
 have hA00:AvOK A0 w0:=C
 rw [fh hw0]
 rw [fw hw0]
 have hG0:GTab w0:=hw0 ▸ hG
 obtain ⟨A,hAe,B,d,q⟩:=pa d
 refine zA5 [.tmp 4] func20 ntmps20 (by decide) Z Z (nb Z) ?_
 intro R hR
 have f_v0:Rep (eSl zA1) A w v0 p0:=hAe ▸ h0
 replace h0:R 0=v0:=hR 0 _ Z
 replace h1:R 1 = .int .i64 p1:=(hR 1 _ Z).trans h1
 refine HT.su d j (eA::[]) ?_ ?_
 exact op (fun Q U W H D=>zA0 N)<|oz
 intro R w m n p d j
 obtain ⟨h0,h1⟩:=k2 n h0 h1
 replace f_v0:=f_v0.fr m
 replace q:=q.fr m
 refine HT.su d j (eR (.slice none 0 0)::[]) ?_ ?_
 exact op (fun Q U W H D=>zA0 Z)<|oz
 intro R w m n p d j
 obtain ⟨h0,h1⟩:=k2 n h0 h1
 obtain ⟨u1,n_u1⟩:∃ u,u=Value.slice none 0 0:=⟨_,Z⟩
 have h5:R 5=u1:=(p 0 _ _ Z Z Z).trans n_u1.symm
 replace f_v0:=f_v0.fr m
 replace q:=q.fr m
 replace q:=q.nilcons (u:=u1) n_u1 w0.heap.size 9 eStr
 refine HT.seq ?_
 obtain ⟨x2,q3,c⟩:=zA4 c
 refine HT.su d j (eR v0::eF (.rep (eSl zAD) A x2)::eI (x2.length:Int)::eI 0::[]) ?_ ?_
 exact om h0<|op (fun Q U W H D=>zAC call11 (zFF (q3 Z) (d.fr W.size) (hG0.fr (j.trans W)) ((f_v0.fr W).eq (D.g 0 Z))))<|op (fun Q U W H D=>zAL (aT:=#[]) (D.g 0 Z) underlying24)<|op (fun Q U W H D=>zC1 Z)<|oz
 intro R w m n p d j
 obtain ⟨h1,h5⟩:=k2 n h1 h5
 obtain ⟨u4,h9,f_u4⟩:∃ u,R 9=u∧Rep (eSl zAD) A w u x2:=⟨_,Z,p 1 _ _ Z Z Z⟩
 have h10:=p.r 2 Z
 have h11:=p.r 3 Z
 replace q:=q.fr m
 obtain ⟨rl5,q6,c⟩:=zA4 c
 replace q6:=q6 Z
 refine HT.cut0 (fun R w=>∃ A:Av,∃ (s7:(List (List UInt8))) (uo_u1:Value),rl5=s7∧AvOK A w∧Fr w0 w∧(∀ b o,A0 b o→A b o)∧IniOK [ob uo_u1 (.vec w0.heap.size 9 eStr s7)] A w∧R 5=uo_u1) ?_ ?_
 refine HT.block ?_
 refine HT.loop (fun k R w=>∃ A:Av,∃ (y8:Int) (y9:List (List UInt8)) (ul_u1:Value),zAY fu p1 x2 k y8 y9=some rl5∧AvOK A w∧Fr w0 w∧(∀ b o,A0 b o→A b o)∧IniOK [ob ul_u1 (.vec w0.heap.size 9 eStr y9)] A w∧R 1 = .int .i64 p1∧R 5=ul_u1∧R 9=u4∧R 10 = .int .i64 (x2.length:Int)∧R 11 = .int .i64 y8∧Rep (eSl zAD) A w u4 x2) fu ⟨_,_,_,u1,q6,d,j,B,q,h1,h5,h9,h10,h11,f_u4⟩ ?_
 have hr0:=c;clear c q6
 rintro k R w ⟨A,y8,y9,ul_u1,c,d,j,B,q,h1,h5,h9,h10,h11,f_u4⟩
 rcases k with _ | k
 cases (show none=some _ from c)
 rw [zAY] at c
 refine HT.su d j (eB (decide (y8<(x2.length:Int)))::[]) ?_ ?_
 exact op (fun Q U W H D=>zAg ((H 11 Z).trans h11) ((H 10 Z).trans h10))<|oz
 intro R w m n p d j
 obtain ⟨h1,h5,h9,h10,h11⟩:=k5 n h1 h5 h9 h10 h11
 have h12:=p.r 0 Z
 replace f_u4:=f_u4.fr m
 replace q:=q.fr m
 refine HT.seq ?_
 refine HT.cond (decide (y8<(x2.length:Int))) h12 (fun c10=>?_) (fun c10=>?_)
 have c:=zAH c10 c
 refine HT.skip ?_
 refine HT.seq ?_
 refine HT.block ?_
 obtain ⟨e11,c⟩:=zA3 c
 refine HT.sx [ob ul_u1 (.vec w0.heap.size 9 eStr y9)] ((rF fun A=>.qtr zAD A (gtD x2 y8))::(rF fun A=>.rep zAD A (gtD x2 y8))::⟨_,true,[],some (.box w0.heap.size 54 zAD (([]:List UInt8),([]:List Int))),true,fun A=>.any⟩::⟨_,true,[3],some (.box w0.heap.size 54 zAD (gtD x2 y8)),false,fun A=>.any⟩::[]) (UAll.cons zEA (up (ua (ua (UAll.nil))))) q d ?_ ?_
 exact rp (fun V Q U O D=>zAB ((f_u4.stp O.stp).eq ((O.old 9 Z).trans h9)) ((O.old 11 Z).trans h11) underlying24 sizeOf54 e11)<|rp (fun V Q U O D=>(zAf (QRep.ptr (D.g 0 Z)) isAgg54 sizeOf54))<|rc (OblR.made _ Z Z Z Z fun V Q U O D=>by exact zHu zeroValue54 (fun A w=>zKB (zHC Z (by decide)) zHH) (Nat.le_trans j.size O.ch.size))<|rc (OblR.took 3 _ _ Z Z Z Z Z fun V Q U O D u X Y J L M=>by have a1:Rep zAD V U (Q 14) (gtD x2 y8):=D.g 1 Z;obtain ⟨b,hb,hB',hbx⟩:=X;have hop':=L _ _ Z Z Z Z;exact zI1 a1 (hop'.symm.trans hb) hb ⟨b,hb,hB',hbx⟩ Y (FldS.id _) sizeOf54 Z)<|rz
 intro done ρ σ A R w y s
 obtain ⟨h1,h5,h9,h10,h11⟩:=k5 s.rg h1 h5 h9 h10 h11
 have z12:=s.inivR 0 Z
 obtain ⟨b7_12,e_b7_12⟩:=s.boxv y 4 Z Z
 have z14:=(s.opnR y 4 3 Z Z Z Z Z).symm.trans e_b7_12
 have h7:=s.ov y 3 2 z14
 replace f_u4:=f_u4.stp s.stp
 obtain ⟨B,j,d⟩:=s.s B C j q ⟨Z,N⟩
 replace q:=s.left y [(0,ob ul_u1 (.vec w0.heap.size 9 eStr y9)),(4,ob (.pointer (some ⟨b7_12,0,none⟩)) (.box w0.heap.size 54 zAD (gtD x2 y8)))] ⟨Z,Z,z12,Z,Z,⟨Z,Z,e_b7_12,Z,Z,N⟩⟩
 refine HT.su d j (eR (.pointer (some ⟨b7_12,1,none⟩))::eF (.rep (eSl (eInt .i64)) A ((gtD x2 y8).2))::eI (((gtD x2 y8).2).length:Int)::eI p1::eB (decide (p1<(((gtD x2 y8).2).length:Int)))::[]) ?_ ?_
 exact op (fun Q U W H D=>zA7 ((H 7 Z).trans h7) zIZ sizeOf52 (by decide) Z)<|op (fun Q U W H D=>(zAE ((q.fr W).ok 1 _ Z).1 (D.g 0 Z) zFZ Z isAgg52 sizeOf52))<|op (fun Q U W H D=>zAL (aT:=#[]) (D.g 0 Z) underlying52)<|om h1<|op (fun Q U W H D=>zDz (D.g 0 Z) (D.g 1 Z))<|oz
 intro R w m n p d j
 obtain ⟨h1,h5,h7,h9,h10,h11⟩:=k6 n h1 h5 h7 h9 h10 h11
 have h19:=p.r 4 Z
 replace f_u4:=f_u4.fr m
 replace q:=q.fr m
 refine HT.cond (decide (p1<(((gtD x2 y8).2).length:Int))) h19 (fun c15=>?_) (fun c15=>?_)
 have c:=zAH c15 c
 obtain ⟨e16,c⟩:=zA3 c
 refine HT.x [ob ul_u1 (.vec w0.heap.size 9 eStr y9),ob (.pointer (some ⟨b7_12,0,none⟩)) (.box w0.heap.size 54 zAD (gtD x2 y8))] (rR ul_u1::rR (.pointer (some ⟨b7_12,0,none⟩))::(rF fun A=>.rep eStr A ((gtD x2 y8).1))::(rF fun A=>.rep (eSl eStr) A ([(gtD x2 y8).1]:List (List UInt8)))::⟨_,true,[0],some (.vec w0.heap.size 9 eStr (y9++([(gtD x2 y8).1]:List (List UInt8)))),true,fun A=>.any⟩::⟨_,true,[6],some (.vec w0.heap.size 9 eStr (y9++([(gtD x2 y8).1]:List (List UInt8)))),true,fun A=>.any⟩::[]) (ur (ur (up (up (ua (ua (UAll.nil))))))) q d ?_ ?_
 exact rm h5<|rp (fun V Q U O D=>zA7 ((O.old 7 Z).trans h7) zLR sizeOf9 (by decide) Z)<|rp (fun V Q U O D=>(zAE (O.rd 1 _ Z Z) (D.g 0 Z) zFO Z isAgg9 sizeOf9))<|rp (fun V Q U O D=>zAu [_] (E:=eStr) ⟨(D.g 0 Z),N⟩ underlying34 sizeOf9 zeroValue9 Z Z Z O.av)<|rc (OblR.took 0 _ _ Z Z Z Z Z fun V Q U O D u X Y J L M=>by have a0:Q 20=ul_u1:=D.g 0 Z;have a1:Rep (eSl eStr) V U (Q 23) ([(gtD x2 y8).1]:List (List UInt8)):=D.g 1 Z;exact zAS (a0.trans (J _ Z).symm) X Y (Nat.le_trans j.size O.ch.size) a1 underlying34 el_9 e16)<|rc (OblR.took 6 _ _ Z Z Z Z Z fun V Q U O D u X Y J L M=>by exact zA8 (L _ _ Z Z Z Z).symm X Y)<|rz
 intro done ρ σ A R w y s
 obtain ⟨h1,h9,h10,h11⟩:=k4 s.rg h1 h9 h10 h11
 obtain ⟨u17,e_u17⟩:∃ u,ρ 7=u:=⟨_,Z⟩
 have h5:=s.ov y 7 5 e_u17
 have z18:=s.inivR 1 Z
 replace f_u4:=f_u4.stp s.stp
 obtain ⟨B,j,d⟩:=s.s B C j q ⟨Z,⟨Z,N⟩⟩
 replace q:=s.left y [(7,ob u17 (.vec w0.heap.size 9 eStr (y9++([(gtD x2 y8).1]:List (List UInt8)))))] ⟨Z,Z,e_u17,Z,Z,N⟩
 obtain ⟨e19,c⟩:=zA3 c
 refine HT.u d j (eI (y8+1)::eI (y8+1)::[]) ?_ ?_
 exact op (fun Q U W H D=>zAO ((H 11 Z).trans h11) Z e19)<|ov<|oz
 intro R w m n p d j
 obtain ⟨h1,h5,h9,h10⟩:=k4 n h1 h5 h9 h10
 have h11:=p.r 1 Z
 replace f_u4:=f_u4.fr m
 replace q:=q.fr m
 exact ei k (And.intro (Nat.lt_succ_self k) ⟨_,_,_,u17,c,d,j,B,q,h1,h5,h9,h10,h11,f_u4⟩)
 have c:=zAG c15 c
 refine HT.skip ?_
 obtain ⟨e20,c⟩:=zA3 c
 refine HT.u d j (eI (y8+1)::eI (y8+1)::[]) ?_ ?_
 exact op (fun Q U W H D=>zAO ((H 11 Z).trans h11) Z e20)<|ov<|oz
 intro R w m n p d j
 obtain ⟨h1,h5,h9,h10⟩:=k4 n h1 h5 h9 h10
 have h11:=p.r 1 Z
 replace f_u4:=f_u4.fr m
 replace q:=q.fr m
 replace q:IniOK [ob ul_u1 (.vec w0.heap.size 9 eStr y9)] A w:=q.sub [(0,ob ul_u1 (.vec w0.heap.size 9 eStr y9))] ⟨Z,Z,N⟩
 exact ei k (And.intro (Nat.lt_succ_self k) ⟨_,_,_,ul_u1,c,d,j,B,q,h1,h5,h9,h10,h11,f_u4⟩)
 have c:=zAG c10 c
 refine HT.exit ?_
 obtain rfl:=si c
 exact ei _ ⟨_,ul_u1,Z,d,j,B,q,h5⟩
 rintro R w ⟨A,s7,uo_u1,es,d,j,B,q,h5⟩
 obtain rfl:=es.symm
 refine HT.su d j (eR uo_u1::eR uo_u1::[]) ?_ ?_
 exact om h5<|oa<|oz
 intro R w m n p d j
 have h4:=p.r 1 Z
 replace q:=q.fr m
 refine HT.ret ?_
 obtain rfl:=si c
 exact ⟨.inr Z,[R 4],⟨Z,N⟩,(zBu (q.ok 0 _ Z) B h4),j⟩
theorem zEd {fu : Nat} {A0 : Av} {p0 : List zA2} {p1 : Int} {r : List (List UInt8)} (c : zAk fu p0 p1 = some r) {w : World} {v0 : Value} {v1 : Value} (d : AvOK A0 w) (hG : GTab w) (h0 : Rep (eSl zA1) A0 w v0 p0) (h1 : v1 = .int .i64 p1) :
 Calls prog 20 #[v0,v1] w fun e w'=>∃ v,e = .returned v∧(Rep (eSl eStr) A0 w' v r∧Fr w w'):=by
 refine Calls.mono (zDQ c d hG h0 h1) ?_
 rintro e w' ⟨v,he,hv,hf⟩
 exact ⟨v,he,zBf hv (fun b o h=>.inl h) d,hf⟩
def zBC (fu : Nat) (p0 : List (List UInt8)) : Nat → Int → Int → Option (Ex Int Int)
 | 0,_,_=>none
 | k+1,y4,y5=>
 bif (decide (y5<(p0.length:Int))) then (
 ck (inR y5 p0.length) <|
 cl true (zCM fu y4) fun x8=>
 bif (!((gtD p0 y5)==x8)) then (
 some (Ex.ret (-1))
 ) else (
 ck (i64B (y4+1)) <|
 ck (i64B (y5+1)) <|
 zBC fu p0 k (y4+1) (y5+1)
 )
 ) else (
 some (Ex.go y4)
 )
def zBi (fu:Nat) (p0:List (List UInt8)) (p1:Int):Option Int:=
 cl true (zBC fu p0 fu p1 0) fun rl1=>
 exM rl1 (fun r=>some r) fun s3=>
 some s3
theorem zEJ {fu : Nat} {A : Av} {p0 : List (List UInt8)} {p1 : Int} {r : Int} (c : zBi fu p0 p1 = some r) {w : World} {v0 : Value} {v1 : Value} (d : AvOK A w) (h0 : Rep (eSl eStr) A w v0 p0) (h1 : v1 = .int .i64 p1) :
 Calls prog 23 #[v0,v1] w fun e w'=>∃ v,e = .returned v∧(v = .int .i64 r∧Fr w w'):=by
 unfold zBi at c
 obtain ⟨w0,hw0,j⟩:=pf w
 rw [fw hw0]
 refine zA5 [.tmp 4] func23 ntmps23 (by decide) Z Z (nb Z) ?_
 intro R hR
 have f_v0:=h0
 replace h0:R 0=v0:=hR 0 _ Z
 replace h1:R 1 = .int .i64 p1:=(hR 1 _ Z).trans h1
 refine HT.su d j (eI 0::[]) ?_ ?_
 exact op (fun Q U W H D=>zA0 Z)<|oz
 intro R w m n p d j
 obtain ⟨h0,h1⟩:=k2 n h0 h1
 replace f_v0:=f_v0.fr m
 refine HT.seq ?_
 refine HT.su d j (eI 0::[]) ?_ ?_
 exact op (fun Q U W H D=>zA0 Z)<|oz
 intro R w m n p d j
 obtain ⟨h0,h1⟩:=k2 n h0 h1
 have h5:=p.r 0 Z
 replace f_v0:=f_v0.fr m
 obtain ⟨rl1,q2,c⟩:=zA4 c
 replace q2:=q2 Z
 refine HT.cut0 (fun R w=>∃ (s3:Int),rl1=Ex.go s3∧AvOK A w∧Fr w0 w∧R 1 = .int .i64 s3) ?_ ?_
 refine HT.block ?_
 refine HT.loop (fun k R w=>∃ (y4:Int) (y5:Int),zBC fu p0 k y4 y5=some rl1∧AvOK A w∧Fr w0 w∧R 0=v0∧R 1 = .int .i64 y4∧R 5 = .int .i64 y5∧Rep (eSl eStr) A w v0 p0) fu ⟨_,_,q2,d,j,h0,h1,h5,f_v0⟩ ?_
 have hr0:=c;clear c q2
 rintro k R w ⟨y4,y5,c,d,j,h0,h1,h5,f_v0⟩
 rcases k with _ | k
 cases (show none=some _ from c)
 rw [zBC] at c
 refine HT.seq ?_
 refine HT.su d j (eI y5::eR v0::eI (p0.length:Int)::eB (decide (y5<(p0.length:Int)))::[]) ?_ ?_
 exact om h5<|om h0<|op (fun Q U W H D=>zAL (aT:=#[]) ((f_v0.fr W).eq (D.g 0 Z)) underlying34)<|op (fun Q U W H D=>zAg (D.g 0 Z) (D.g 1 Z))<|oz
 intro R w m n p d j
 obtain ⟨h0,h1,h5⟩:=k3 n h0 h1 h5
 have h9:=p.r 3 Z
 replace f_v0:=f_v0.fr m
 refine HT.cond (decide (y5<(p0.length:Int))) h9 (fun c6=>?_) (fun c6=>?_)
 have c:=zAH c6 c
 refine HT.skip ?_
 refine HT.seq ?_
 refine HT.block ?_
 refine HT.seq ?_
 refine HT.seq ?_
 obtain ⟨e7,c⟩:=zA3 c
 obtain ⟨x8,q9,c⟩:=zA4 c
 refine HT.draw (by kernel_rfl) (l:=eR v0::eI y5::eF (.qtr eStr A (gtD p0 y5))::eF (.rep eStr A (gtD p0 y5))::eI y4::eF (.rep eStr A x8)::eB (!((gtD p0 y5)==x8))::[]) (tl:=[]) (by kernel_rfl) (by kernel_rfl) (by kernel_rfl) (by kernel_rfl) ?_ ?_
 exact om h0<|om h5<|op (fun Q U W H D=>zAB ((f_v0.fr W).eq (D.g 0 Z)) (D.g 1 Z) underlying34 sizeOf9 e7)<|op (fun Q U W H D=>(zAf (QRep.ptr (D.g 0 Z)) isAgg9 sizeOf9))<|om h1<|op (fun Q U W H D=>zAC call45 (zEf (q9 Z) (d.fr W.size) (D.g 0 Z)))<|op (fun Q U W H D=>zF2 (D.g 0 Z) (D.g 1 Z))<|oz
 intro R w m n p
 obtain ⟨h0,h1,h5⟩:=k3 n h0 h1 h5
 have h18:=p.r 6 Z
 replace f_v0:=f_v0.fr m
 replace d:=d.fr m.size
 replace j:=j.trans m
 refine HT.cond (!((gtD p0 y5)==x8)) h18 (fun c10=>?_) (fun c10=>?_)
 have c:=zAH c10 c
 refine HT.su d j (eI (-1)::[]) ?_ ?_
 exact op (fun Q U W H D=>zA0 Z)<|oz
 intro R w m n p d j
 have h4:=p.r 0 Z
 refine HT.ret ?_
 obtain rfl:=si c
 have c:=hr0
 replace c:some _=some _:=c
 obtain rfl:=si c
 exact ⟨.inr Z,[R 4],⟨Z,N⟩,h4,j⟩
 have c:=zAG c10 c
 refine HT.skip ?_
 obtain ⟨e11,c⟩:=zA3 c
 refine HT.u d j (eI y4::eI (y4+1)::eI (y4+1)::[]) ?_ ?_
 exact om h1<|op (fun Q U W H D=>zAO (D.g 0 Z) Z e11)<|oa<|oz
 intro R w m n p d j
 obtain ⟨h0,h5⟩:=k2 n h0 h5
 have h1:=p.r 2 Z
 replace f_v0:=f_v0.fr m
 obtain ⟨e12,c⟩:=zA3 c
 refine HT.u d j (eI y5::eI (y5+1)::eI (y5+1)::[]) ?_ ?_
 exact om h5<|op (fun Q U W H D=>zAO (D.g 0 Z) Z e12)<|oa<|oz
 intro R w m n p d j
 obtain ⟨h0,h1⟩:=k2 n h0 h1
 have h5:=p.r 2 Z
 replace f_v0:=f_v0.fr m
 exact ei k (And.intro (Nat.lt_succ_self k) ⟨_,_,c,d,j,h0,h1,h5,f_v0⟩)
 have c:=zAG c6 c
 refine HT.exit ?_
 obtain rfl:=si c
 exact ei _ ⟨Z,d,j,h1⟩
 rintro R w ⟨s3,rfl,d,j,h1⟩
 have c:=zEN c
 refine HT.su d j (eI s3::eI s3::[]) ?_ ?_
 exact om h1<|oa<|oz
 intro R w m n p d j
 have h4:=p.r 1 Z
 refine HT.ret ?_
 obtain rfl:=si c
 exact ⟨.inr Z,[R 4],⟨Z,N⟩,h4,j⟩
def zBS (fu:Nat) (p0:List zA2) (p1:Int):Option Bool:=
 cl true (zCu fu p0 1048576) fun x1=>
 bif (decide (x1<0)) then (
 some true
 ) else (
 cl true (zBJ fu p0) fun x4=>
 cl true (zAs fu x4 p1) fun x6=>
 cl true (zBJ fu p0) fun x9=>
 cl true (zAk fu x9 p1) fun x13=>
 cl true (zBR fu x13 x6) fun x17=>
 bif (!x17) then (
 some false
 ) else (
 cl true (zBJ fu p0) fun x20=>
 cl true (zCQ fu x9 x20) fun x22=>
 bif (!x22) then (
 some false
 ) else (
 cl true (zC7 fu x9 1) fun x25=>
 cl (true&&((decide (x25.1<0))==false)) (zBR fu x13 x6) fun x31=>
 bd ((decide (x25.1<0)) || (!x31)) fun x33=>
 bif x33 then (
 some false
 ) else (
 cl true (zBg fu x13 1) fun x36=>
 cl true (zBi fu x36.2 1) fun x40=>
 bif (decide (x40<0)) then (
 some false
 ) else (
 bif (x40 != x36.1) then (
 some false
 ) else (
 cl true (zBJ fu p0) fun x44=>
 cl true (zAk fu x44 p1) fun x46=>
 cl true (zBR fu x46 x6) fun x49=>
 bif (!x49) then (
 some false
 ) else (
 cl true (zBi fu x36.2 1) fun x52=>
 bif (decide (x52<0)) then (
 some false
 ) else (
 bif (x52 != x36.1) then (
 some false
 ) else (
 some true
 )
 )
 )
 )
 )
 )
 )
 )
 )
theorem zDx {fu : Nat} {A0 : Av} {p0 : List zA2} {p1 : Int} {r : Bool} (c : zBS fu p0 p1 = some r) {w : World} {v0 : Value} {v1 : Value} (d : AvOK A0 w) (hG : GTab w) (h0 : Rep (eSl zA1) A0 w v0 p0) (h1 : v1 = .int .i64 p1) :
 Calls prog 5 #[v0,v1] w fun e w'=>∃ v,e = .returned v∧(v = .bool r∧Fr w w'):=by
 unfold zBS at c
 obtain ⟨w0,hw0,j,C⟩:=pw d
 have hA00:AvOK A0 w0:=C
 rw [fw hw0]
 have hG0:GTab w0:=hw0 ▸ hG
 obtain ⟨A,hAe,B,d,q⟩:=pa d
 refine zA5 [.tmp 4] func5 ntmps5 (by decide) Z Z (nb Z) ?_
 intro R hR
 have f_v0:Rep (eSl zA1) A w v0 p0:=hAe ▸ h0
 replace h0:R 0=v0:=hR 0 _ Z
 replace h1:R 1 = .int .i64 p1:=(hR 1 _ Z).trans h1
 refine HT.su d j (eB false::[]) ?_ ?_
 exact op (fun Q U W H D=>zA0 Z)<|oz
 intro R w m n p d j
 obtain ⟨h0,h1⟩:=k2 n h0 h1
 replace f_v0:=f_v0.fr m
 replace q:=q.fr m
 refine HT.su d j (eI 1048576::[]) ?_ ?_
 exact op (fun Q U W H D=>zA0 Z)<|oz
 intro R w m n p d j
 obtain ⟨h0,h1⟩:=k2 n h0 h1
 have h5:=p.r 0 Z
 replace f_v0:=f_v0.fr m
 replace q:=q.fr m
 obtain ⟨x1,q2,c⟩:=zA4 c
 refine HT.su d j (eR v0::eI 1048576::eI x1::eI x1::[]) ?_ ?_
 exact om h0<|om h5<|op (fun Q U W H D=>zAC call8 (zGB (q2 Z) (d.fr W.size) ((f_v0.fr W).eq (D.g 0 Z)) (D.g 1 Z)))<|oa<|oz
 intro R w m n p d j
 obtain ⟨h0,h1⟩:=k2 n h0 h1
 have h5:=p.r 3 Z
 replace f_v0:=f_v0.fr m
 replace q:=q.fr m
 refine HT.seq ?_
 refine HT.su d j (eI x1::eB (decide (x1<0))::[]) ?_ ?_
 exact om h5<|op (fun Q U W H D=>zAg (D.g 0 Z) Z)<|oz
 intro R w m n p d j
 obtain ⟨h0,h1⟩:=k2 n h0 h1
 have h17:=p.r 1 Z
 replace f_v0:=f_v0.fr m
 replace q:=q.fr m
 refine HT.cond (decide (x1<0)) h17 (fun c3=>?_) (fun c3=>?_)
 have c:=zAH c3 c
 refine HT.su d j (eB true::[]) ?_ ?_
 exact op (fun Q U W H D=>zA0 Z)<|oz
 intro R w m n p d j
 have h4:=p.r 0 Z
 replace q:=q.fr m
 refine HT.ret ?_
 obtain rfl:=si c
 exact ⟨.inr Z,[R 4],⟨Z,N⟩,h4,j⟩
 have c:=zAG c3 c
 refine HT.skip ?_
 obtain ⟨x4,q5,c⟩:=zA4 c
 obtain ⟨x6,q7,c⟩:=zA4 c
 refine HT.su d j (eR v0::eF (.rep (eSl zA1) A x4)::eI p1::eF (.rep (eSl eStr) A x6)::eF (.rep (eSl eStr) A x6)::[]) ?_ ?_
 exact om h0<|op (fun Q U W H D=>zAC call10 (zDN (q5 Z) (d.fr W.size) ((f_v0.fr W).eq (D.g 0 Z))))<|om h1<|op (fun Q U W H D=>zAC call19 (zEc (q7 Z) (d.fr W.size) (D.g 0 Z) (D.g 1 Z)))<|op (fun Q U W H D=>zA0 (D.g 0 Z))<|oz
 intro R w m n p d j
 obtain ⟨h0,h1⟩:=k2 n h0 h1
 obtain ⟨u8,h6,f_u8⟩:∃ u,R 6=u∧Rep (eSl eStr) A w u x6:=⟨_,Z,p 4 _ _ Z Z Z⟩
 replace f_v0:=f_v0.fr m
 replace q:=q.fr m
 obtain ⟨x9,q10,c⟩:=zA4 c
 refine HT.sx [] (rR v0::⟨_,true,[],some (trR (geB w0.heap.size) (oSl 51 (oPr (oRd (eInt .i64)) (oPr (oRd (eInt .i64)) (oPr (oRd (eInt .i64)) (oSl 9 (oRd eStr)))))) x9 []),true,fun A=>.any⟩::⟨_,true,[1],some (trR (geB w0.heap.size) (oSl 51 (oPr (oRd (eInt .i64)) (oPr (oRd (eInt .i64)) (oPr (oRd (eInt .i64)) (oSl 9 (oRd eStr)))))) x9 []),true,fun A=>.any⟩::[]) (ur (ua (ua (UAll.nil)))) q d ?_ ?_
 exact rm h0<|rc (OblR.madeS _ Z Z Z Z fun V Q U O D=>by have a0:Q 22=v0:=D.g 0 Z;have ra0:=(f_v0.stp O.stp).eq a0;exact zHz call10 (zET (q10 Z) O.av ra0) (fun k hk=>Nat.le_trans (Nat.le_trans j.size O.ch.size) hk))<|rc (OblR.tookS 1 _ _ Z Z Z Z Z fun V Q U O D u S X I Y J L M=>by exact zEi (L _ _ Z Z Z Z).symm (trP.nopin I.2) Y I.1)<|rz
 intro done ρ σ A R w y s
 obtain ⟨h0,h1,h6⟩:=k3 s.rg h0 h1 h6
 obtain ⟨u11,e_u11⟩:∃ u,ρ 2=u:=⟨_,Z⟩
 have h7:=s.ov y 2 2 e_u11
 obtain ⟨S12,eS_u11⟩:∃ S,σ 2=S:=⟨_,Z⟩
 replace f_u8:=f_u8.stp s.stp
 replace f_v0:=f_v0.stp s.stp
 obtain ⟨B,j,d⟩:=s.s B C j q N
 replace q:=s.left y [(2,⟨u11,S12,trR (geB w0.heap.size) (oSl 51 (oPr (oRd (eInt .i64)) (oPr (oRd (eInt .i64)) (oPr (oRd (eInt .i64)) (oSl 9 (oRd eStr)))))) x9 []⟩)] ⟨Z,Z,e_u11,eS_u11,Z,N⟩
 obtain ⟨x13,q14,c⟩:=zA4 c
 refine HT.sx [⟨u11,S12,trR (geB w0.heap.size) (oSl 51 (oPr (oRd (eInt .i64)) (oPr (oRd (eInt .i64)) (oPr (oRd (eInt .i64)) (oSl 9 (oRd eStr)))))) x9 []⟩] (rR u11::rI p1::⟨_,true,[],some (.vec w0.heap.size 9 eStr x13),true,fun A=>.any⟩::⟨_,true,[3],some (.vec w0.heap.size 9 eStr x13),true,fun A=>.any⟩::[]) (ur (ur (ua (ua (UAll.nil))))) q d ?_ ?_
 exact rm h7<|rm h1<|rc (OblR.made _ Z Z Z Z fun V Q U O D=>by have a0:Q 24=u11:=D.g 0 Z;have ra0:Rep (eSl zA1) A0 U (Q 24) _:=(zLz (O.rdo 0 _ Z Z).2 (O.low' B C (q.ge (⟨fun _ h=>h,N⟩))) (fun k o hk ha=>Nat.not_lt.2 ((O.rdo 0 _ Z Z).1 k hk) (C k o ha))).eq a0;have a1:Q 25 = .int .i64 p1:=D.g 1 Z;exact zE3 call20 (zDQ (q14 Z) (hA00.fr ((Nat.le_trans j.size O.ch.size))) (hG0.fr (j.tr O.ch (q.ge (⟨fun _ h=>h,N⟩)))) ra0 a1) (Nat.le_trans j.size O.ch.size) (O.low' B C (q.ge (⟨fun _ h=>h,N⟩))) (fun _ _ _ _ _ h=>h))<|rc (OblR.took 3 _ _ Z Z Z Z Z fun V Q U O D u X Y J L M=>by exact zA8 (L _ _ Z Z Z Z).symm X Y)<|rz
 intro done ρ σ A R w y s
 obtain ⟨h0,h1,h6,h7⟩:=k4 s.rg h0 h1 h6 h7
 have z15:=s.inivR 0 Z
 obtain ⟨u16,e_u16⟩:∃ u,ρ 4=u:=⟨_,Z⟩
 have h8:=s.ov y 4 3 e_u16
 have eS_u11:=s.inisR 0 Z
 replace f_u8:=f_u8.stp s.stp
 replace f_v0:=f_v0.stp s.stp
 obtain ⟨B,j,d⟩:=s.s B C j q ⟨fun _ h=>h,N⟩
 replace q:=s.left y [(0,⟨u11,S12,trR (geB w0.heap.size) (oSl 51 (oPr (oRd (eInt .i64)) (oPr (oRd (eInt .i64)) (oPr (oRd (eInt .i64)) (oSl 9 (oRd eStr)))))) x9 []⟩),(4,ob u16 (.vec w0.heap.size 9 eStr x13))] ⟨Z,Z,z15,eS_u11,Z,⟨Z,Z,e_u16,Z,Z,N⟩⟩
 refine HT.seq ?_
 obtain ⟨x17,q18,c⟩:=zA4 c
 refine HT.su d j (eR u16::eR u8::eB x17::eB (!x17)::[]) ?_ ?_
 exact om h8<|om h6<|op (fun Q U W H D=>by have ra1:=(f_u8.fr W).eq (D.g 1 Z);exact zAC call21 (zCo (q18 Z) (hA00.fr ((Nat.le_trans j.size W.size))) ((zBf ((q.fr W).ok 1 _ Z).1 B C).eq (D.g 0 Z)) (ra1.down B)))<|op (fun Q U W H D=>zCk (D.g 0 Z))<|oz
 intro R w m n p d j
 obtain ⟨h0,h1,h6,h7,h8⟩:=k5 n h0 h1 h6 h7 h8
 have h30:=p.r 3 Z
 replace f_u8:=f_u8.fr m
 replace f_v0:=f_v0.fr m
 replace q:=q.fr m
 refine HT.cond (!x17) h30 (fun c19=>?_) (fun c19=>?_)
 have c:=zAH c19 c
 refine HT.su d j (eB false::[]) ?_ ?_
 exact op (fun Q U W H D=>zA0 Z)<|oz
 intro R w m n p d j
 have h4:=p.r 0 Z
 replace q:=q.fr m
 replace q:IniOK [] A w:=q.sub [] N
 refine HT.ret ?_
 obtain rfl:=si c
 exact ⟨.inr Z,[R 4],⟨Z,N⟩,h4,j⟩
 have c:=zAG c19 c
 refine HT.skip ?_
 refine HT.seq ?_
 obtain ⟨x20,q21,c⟩:=zA4 c
 obtain ⟨x22,q23,c⟩:=zA4 c
 refine HT.su d j (eR u11::eR v0::eF (.rep (eSl zA1) A x20)::eB x22::eB (!x22)::[]) ?_ ?_
 exact om h7<|om h0<|op (fun Q U W H D=>zAC call10 (zDN (q21 Z) (d.fr W.size) ((f_v0.fr W).eq (D.g 0 Z))))<|op (fun Q U W H D=>by have ra0:Rep (eSl zA1) A0 U (Q 31) _:=(zLz ((q.fr W).own 0 _ Z).2 B (fun k o hk ha=>Nat.not_lt.2 (((q.fr W).own 0 _ Z).1 k hk) (C k o ha))).eq (D.g 0 Z);have a1:Rep (eSl zA1) A U (Q 33) x20:=D.g 1 Z;exact zAC call13 (zGG (q23 Z) (hA00.fr ((Nat.le_trans j.size W.size))) ra0 (a1.down B)))<|op (fun Q U W H D=>zCk (D.g 0 Z))<|oz
 intro R w m n p d j
 obtain ⟨h0,h1,h6,h7,h8⟩:=k5 n h0 h1 h6 h7 h8
 have h35:=p.r 4 Z
 replace f_u8:=f_u8.fr m
 replace f_v0:=f_v0.fr m
 replace q:=q.fr m
 refine HT.cond (!x22) h35 (fun c24=>?_) (fun c24=>?_)
 have c:=zAH c24 c
 refine HT.su d j (eB false::[]) ?_ ?_
 exact op (fun Q U W H D=>zA0 Z)<|oz
 intro R w m n p d j
 have h4:=p.r 0 Z
 replace q:=q.fr m
 replace q:IniOK [] A w:=q.sub [] N
 refine HT.ret ?_
 obtain rfl:=si c
 exact ⟨.inr Z,[R 4],⟨Z,N⟩,h4,j⟩
 have c:=zAG c24 c
 refine HT.skip ?_
 refine HT.su d j (eI 1::[]) ?_ ?_
 exact op (fun Q U W H D=>zA0 Z)<|oz
 intro R w m n p d j
 obtain ⟨h0,h1,h6,h7,h8⟩:=k5 n h0 h1 h6 h7 h8
 have h9:=p.r 0 Z
 replace f_u8:=f_u8.fr m
 replace f_v0:=f_v0.fr m
 replace q:=q.fr m
 obtain ⟨x25,q26,c⟩:=zA4 c
 refine HT.sx [⟨u11,S12,trR (geB w0.heap.size) (oSl 51 (oPr (oRd (eInt .i64)) (oPr (oRd (eInt .i64)) (oPr (oRd (eInt .i64)) (oSl 9 (oRd eStr)))))) x9 []⟩,ob u16 (.vec w0.heap.size 9 eStr x13)] (rR u11::rI 1::⟨_,true,[0],some (trR (geB w0.heap.size) (oSl 51 (oPr (oRd (eInt .i64)) (oPr (oRd (eInt .i64)) (oPr (oRd (eInt .i64)) (oSl 9 (oRd eStr)))))) x25.2 []),false,fun A=>.raw (.int .i64 x25.1)⟩::rI x25.1::[]) (ur (ur (ur (ur (UAll.nil))))) q d ?_ ?_
 exact rm h7<|rm h9<|rc (OblR.tookS 0 _ _ Z Z Z Z Z fun V Q U O D u S X I Y J L M=>by have a0:Q 36=u11:=D.g 0 Z;have a1:Q 37 = .int .i64 1:=D.g 1 Z;have e0:=(J _ Z).1;rw [e0] at I ⊢;have hu0:zA9 Q (.tmp 36)=u11:=a0;exact zI6 call14 (zBL I.2) Y I.1 (fun k hk=>Nat.le_trans (Nat.le_trans j.size O.ch.size) hk) (fun k hk=>SP.lt _ I.2 hk) (fun S1 hS1 hP=>by simp only [List.map,hu0];exact zFK (q26 Z) (O.av.subS _) (fun b o h=>h.2) hP a1) (fun _ _ _ h=>h))<|ra<|rz
 intro done ρ σ A R w y s
 obtain ⟨h0,h1,h6,h8⟩:=k4 s.rg h0 h1 h6 h8
 have z27:=s.inivR 0 Z
 have z28:=s.on y 4 2 Z Z Z Z Z z27
 have z29:=s.inivR 1 Z
 obtain ⟨S30,eS_u11⟩:∃ S,σ 4=S:=⟨_,Z⟩
 have h9:=s.r y 3 Z
 replace f_u8:=f_u8.stp s.stp
 replace f_v0:=f_v0.stp s.stp
 obtain ⟨B,j,d⟩:=s.s B C j q ⟨fun _ h=>h,⟨Z,N⟩⟩
 replace q:=s.left y [(1,ob u16 (.vec w0.heap.size 9 eStr x13))] ⟨Z,Z,z29,Z,Z,N⟩
 refine HT.seq ?_
 refine HT.seq ?_
 obtain ⟨x31,q32,c⟩:=zA4 c
 obtain ⟨x33,q34,c⟩:=zAW c
 refine HT.u d j (eI x25.1::eB (decide (x25.1<0))::eB (decide (x25.1<0))::gR (true&&((decide (x25.1<0))==false)) u16::gR (true&&((decide (x25.1<0))==false)) u8::gB (true&&((decide (x25.1<0))==false)) x31::gB (true&&((decide (x25.1<0))==false)) (!x31)::eB x33::[]) ?_ ?_
 exact om h9<|op (fun Q U W H D=>zAg (D.g 0 Z) Z)<|ov<|gm 2 false h8<|gm 2 false h6<|og 2 false (fun G Q U W H D=>by have ra1:=(f_u8.fr W).eq (D.h 1 G Z);exact zAC call21 (zCo (q32 G) (hA00.fr ((Nat.le_trans j.size W.size))) ((zBf ((q.fr W).ok 0 _ Z).1 B C).eq (D.h 0 G Z)) (ra1.down B)))<|og 2 false (fun G Q U W H D=>zCk (D.h 0 G Z))<|op (fun Q U W H D=>zAc (decide (x25.1<0)) (D.g 0 Z) (fun hc=>by show _=Value.bool x33;rw [q34,hc];exact Z) (fun hc=>by have a2:Q 45 = .bool (!x31):=D 1 _ _ _ Z Z Z Z (zC5 Z (zB5 hc));show _=Value.bool x33;rw [q34,hc];exact a2))<|oz
 intro R w m n p d j
 obtain ⟨h0,h1,h6,h8⟩:=k4 n h0 h1 h6 h8
 have h46:=p.r 7 Z
 replace f_u8:=f_u8.fr m
 replace f_v0:=f_v0.fr m
 replace q:=q.fr m
 refine HT.cond x33 h46 (fun c35=>?_) (fun c35=>?_)
 have c:=zAH c35 c
 refine HT.su d j (eB false::[]) ?_ ?_
 exact op (fun Q U W H D=>zA0 Z)<|oz
 intro R w m n p d j
 have h4:=p.r 0 Z
 replace q:=q.fr m
 replace q:IniOK [] A w:=q.sub [] N
 refine HT.ret ?_
 obtain rfl:=si c
 exact ⟨.inr Z,[R 4],⟨Z,N⟩,h4,j⟩
 have c:=zAG c35 c
 refine HT.skip ?_
 refine HT.su d j (eI 1::[]) ?_ ?_
 exact op (fun Q U W H D=>zA0 Z)<|oz
 intro R w m n p d j
 obtain ⟨h0,h1,h6,h8⟩:=k4 n h0 h1 h6 h8
 have h10:=p.r 0 Z
 replace f_u8:=f_u8.fr m
 replace f_v0:=f_v0.fr m
 replace q:=q.fr m
 obtain ⟨x36,q37,c⟩:=zA4 c
 refine HT.sx [ob u16 (.vec w0.heap.size 9 eStr x13)] (rR u16::rI 1::⟨_,true,[0],some (.vec w0.heap.size 9 eStr x36.2),false,fun A=>.raw (.int .i64 x36.1)⟩::rI x36.1::[]) (ur (ur (ur (ur (UAll.nil))))) q d ?_ ?_
 exact rm h8<|rm h10<|rc (OblR.took 0 _ _ Z Z Z Z Z fun V Q U O D u X Y J L M=>by have a0:Q 47=u16:=D.g 0 Z;have a1:Q 48 = .int .i64 1:=D.g 1 Z;have hu0:zA9 Q (.tmp 47)=u:=a0.trans (J _ Z).symm;exact zJN call22 Y (fun _ _ _ _ _ h=>h) (by simp only [List.map,hu0];exact Calls.mono (zEK (q37 Z) (O.av.sub _) (fun b o h=>h.2) (Vec.flat X (fun _ _ _ _ _ h=>h)) a1) (fun _ _ ⟨v,h1,h2,h3,h4⟩=>⟨v,h1,h2,h3,h4⟩)))<|ra<|rz
 intro done ρ σ A R w y s
 obtain ⟨h0,h1,h6,h8⟩:=k4 s.rg h0 h1 h6 h8
 have z38:=s.inivR 0 Z
 have z39:=s.on y 3 2 Z Z Z Z Z z38
 have h10:=s.r y 3 Z
 replace f_u8:=f_u8.stp s.stp
 replace f_v0:=f_v0.stp s.stp
 obtain ⟨B,j,d⟩:=s.s B C j q ⟨Z,N⟩
 replace q:=s.left y [(3,ob u16 (.vec w0.heap.size 9 eStr x36.2))] ⟨Z,Z,z39,Z,Z,N⟩
 refine HT.su d j (eI 1::[]) ?_ ?_
 exact op (fun Q U W H D=>zA0 Z)<|oz
 intro R w m n p d j
 obtain ⟨h0,h1,h6,h8,h10⟩:=k5 n h0 h1 h6 h8 h10
 have h11:=p.r 0 Z
 replace f_u8:=f_u8.fr m
 replace f_v0:=f_v0.fr m
 replace q:=q.fr m
 obtain ⟨x40,q41,c⟩:=zA4 c
 refine HT.su d j (eR u16::eI 1::eI x40::eI x40::[]) ?_ ?_
 exact om h8<|om h11<|op (fun Q U W H D=>zAC call23 (zEJ (q41 Z) (hA00.fr ((Nat.le_trans j.size W.size))) ((zBf ((q.fr W).ok 0 _ Z).1 B C).eq (D.g 0 Z)) (D.g 1 Z)))<|oa<|oz
 intro R w m n p d j
 obtain ⟨h0,h1,h6,h8,h10⟩:=k5 n h0 h1 h6 h8 h10
 have h11:=p.r 3 Z
 replace f_u8:=f_u8.fr m
 replace f_v0:=f_v0.fr m
 replace q:=q.fr m
 refine HT.seq ?_
 refine HT.su d j (eI x40::eB (decide (x40<0))::[]) ?_ ?_
 exact om h11<|op (fun Q U W H D=>zAg (D.g 0 Z) Z)<|oz
 intro R w m n p d j
 obtain ⟨h0,h1,h6,h8,h10,h11⟩:=k6 n h0 h1 h6 h8 h10 h11
 have h54:=p.r 1 Z
 replace f_u8:=f_u8.fr m
 replace f_v0:=f_v0.fr m
 replace q:=q.fr m
 refine HT.cond (decide (x40<0)) h54 (fun c42=>?_) (fun c42=>?_)
 have c:=zAH c42 c
 refine HT.su d j (eB false::[]) ?_ ?_
 exact op (fun Q U W H D=>zA0 Z)<|oz
 intro R w m n p d j
 have h4:=p.r 0 Z
 replace q:=q.fr m
 replace q:IniOK [] A w:=q.sub [] N
 refine HT.ret ?_
 obtain rfl:=si c
 exact ⟨.inr Z,[R 4],⟨Z,N⟩,h4,j⟩
 have c:=zAG c42 c
 refine HT.skip ?_
 refine HT.seq ?_
 refine HT.su d j (eI x40::eI x36.1::eB (x40 != x36.1)::[]) ?_ ?_
 exact om h11<|om h10<|op (fun Q U W H D=>zEg (D.g 0 Z) (D.g 1 Z))<|oz
 intro R w m n p d j
 obtain ⟨h0,h1,h6,h8,h10⟩:=k5 n h0 h1 h6 h8 h10
 have h57:=p.r 2 Z
 replace f_u8:=f_u8.fr m
 replace f_v0:=f_v0.fr m
 replace q:=q.fr m
 refine HT.cond (x40 != x36.1) h57 (fun c43=>?_) (fun c43=>?_)
 have c:=zAH c43 c
 refine HT.su d j (eB false::[]) ?_ ?_
 exact op (fun Q U W H D=>zA0 Z)<|oz
 intro R w m n p d j
 have h4:=p.r 0 Z
 replace q:=q.fr m
 replace q:IniOK [] A w:=q.sub [] N
 refine HT.ret ?_
 obtain rfl:=si c
 exact ⟨.inr Z,[R 4],⟨Z,N⟩,h4,j⟩
 have c:=zAG c43 c
 refine HT.skip ?_
 obtain ⟨x44,q45,c⟩:=zA4 c
 obtain ⟨x46,q47,c⟩:=zA4 c
 refine HT.su d j (eR v0::eF (.rep (eSl zA1) A x44)::eI p1::eF (.rep (eSl eStr) A x46)::eF (.rep (eSl eStr) A x46)::[]) ?_ ?_
 exact om h0<|op (fun Q U W H D=>zAC call10 (zDN (q45 Z) (d.fr W.size) ((f_v0.fr W).eq (D.g 0 Z))))<|om h1<|op (fun Q U W H D=>zAC call20 (zEd (q47 Z) (d.fr W.size) (hG0.fr (j.trans W)) (D.g 0 Z) (D.g 1 Z)))<|op (fun Q U W H D=>zA0 (D.g 0 Z))<|oz
 intro R w m n p d j
 obtain ⟨h6,h8,h10⟩:=k3 n h6 h8 h10
 obtain ⟨u48,h12,f_u48⟩:∃ u,R 12=u∧Rep (eSl eStr) A w u x46:=⟨_,Z,p 4 _ _ Z Z Z⟩
 replace f_u8:=f_u8.fr m
 replace q:=q.fr m
 refine HT.seq ?_
 obtain ⟨x49,q50,c⟩:=zA4 c
 refine HT.su d j (eR u48::eR u8::eB x49::eB (!x49)::[]) ?_ ?_
 exact om h12<|om h6<|op (fun Q U W H D=>zAC call21 (zCo (q50 Z) (d.fr W.size) ((f_u48.fr W).eq (D.g 0 Z)) ((f_u8.fr W).eq (D.g 1 Z))))<|op (fun Q U W H D=>zCk (D.g 0 Z))<|oz
 intro R w m n p d j
 obtain ⟨h8,h10⟩:=k2 n h8 h10
 have h65:=p.r 3 Z
 replace q:=q.fr m
 refine HT.cond (!x49) h65 (fun c51=>?_) (fun c51=>?_)
 have c:=zAH c51 c
 refine HT.su d j (eB false::[]) ?_ ?_
 exact op (fun Q U W H D=>zA0 Z)<|oz
 intro R w m n p d j
 have h4:=p.r 0 Z
 replace q:=q.fr m
 replace q:IniOK [] A w:=q.sub [] N
 refine HT.ret ?_
 obtain rfl:=si c
 exact ⟨.inr Z,[R 4],⟨Z,N⟩,h4,j⟩
 have c:=zAG c51 c
 refine HT.skip ?_
 refine HT.su d j (eI 1::[]) ?_ ?_
 exact op (fun Q U W H D=>zA0 Z)<|oz
 intro R w m n p d j
 obtain ⟨h8,h10⟩:=k2 n h8 h10
 have h11:=p.r 0 Z
 replace q:=q.fr m
 obtain ⟨x52,q53,c⟩:=zA4 c
 refine HT.su d j (eR u16::eI 1::eI x52::eI x52::[]) ?_ ?_
 exact om h8<|om h11<|op (fun Q U W H D=>zAC call23 (zEJ (q53 Z) (hA00.fr ((Nat.le_trans j.size W.size))) ((zBf ((q.fr W).ok 0 _ Z).1 B C).eq (D.g 0 Z)) (D.g 1 Z)))<|oa<|oz
 intro R w m n p d j
 replace h10:=k1 n h10
 have h11:=p.r 3 Z
 replace q:=q.fr m
 replace q:IniOK [] A w:=q.sub [] N
 refine HT.seq ?_
 refine HT.su d j (eI x52::eB (decide (x52<0))::[]) ?_ ?_
 exact om h11<|op (fun Q U W H D=>zAg (D.g 0 Z) Z)<|oz
 intro R w m n p d j
 obtain ⟨h10,h11⟩:=k2 n h10 h11
 have h70:=p.r 1 Z
 replace q:=q.fr m
 refine HT.cond (decide (x52<0)) h70 (fun c54=>?_) (fun c54=>?_)
 have c:=zAH c54 c
 refine HT.su d j (eB false::[]) ?_ ?_
 exact op (fun Q U W H D=>zA0 Z)<|oz
 intro R w m n p d j
 have h4:=p.r 0 Z
 replace q:=q.fr m
 refine HT.ret ?_
 obtain rfl:=si c
 exact ⟨.inr Z,[R 4],⟨Z,N⟩,h4,j⟩
 have c:=zAG c54 c
 refine HT.skip ?_
 refine HT.seq ?_
 refine HT.su d j (eI x52::eI x36.1::eB (x52 != x36.1)::[]) ?_ ?_
 exact om h11<|om h10<|op (fun Q U W H D=>zEg (D.g 0 Z) (D.g 1 Z))<|oz
 intro R w m n p d j
 have h73:=p.r 2 Z
 replace q:=q.fr m
 refine HT.cond (x52 != x36.1) h73 (fun c55=>?_) (fun c55=>?_)
 have c:=zAH c55 c
 refine HT.su d j (eB false::[]) ?_ ?_
 exact op (fun Q U W H D=>zA0 Z)<|oz
 intro R w m n p d j
 have h4:=p.r 0 Z
 replace q:=q.fr m
 refine HT.ret ?_
 obtain rfl:=si c
 exact ⟨.inr Z,[R 4],⟨Z,N⟩,h4,j⟩
 have c:=zAG c55 c
 refine HT.skip ?_
 refine HT.su d j (eB true::[]) ?_ ?_
 exact op (fun Q U W H D=>zA0 Z)<|oz
 intro R w m n p d j
 have h4:=p.r 0 Z
 replace q:=q.fr m
 refine HT.ret ?_
 obtain rfl:=si c
 exact ⟨.inr Z,[R 4],⟨Z,N⟩,h4,j⟩
end Go.Proofs.YtldppodfhabkjaaGreatDoor

namespace Go.Proofs.YtldppodfhabkjaaGreatDoor
open Go.RowKit
set_option linter.unusedVariables false
theorem zA6 {α β:Type} [Inhabited α] {x:α} {k:α→Option β}:cl true (some x) k=k x:=rfl
theorem zKW {α β:Type} [Inhabited α] {o:Option α} {k:α→Option β}:cl false o k=k default:=rfl
theorem zOf {α β:Type} [Inhabited α] {g:Bool} {x:α} {k:α→Option β}:cl g (some x) k=k (bif g then x else default):=by cases g <;> rfl
theorem zCm {α β:Type} {e:α} {k:α→Option β}:bd e k=k e:=rfl
theorem ck_t {α:Type} {b:Bool} {k:Option α} (h:b=true):ck b k=k:=by rw [h];rfl
theorem zD5 {α:Type} {k:Option α}:ck true k=k:=rfl
theorem zNU {ρ σ γ:Type} {r:ρ} {f:ρ→Option γ} {g:σ→Option γ}:exM (.ret r) f g=f r:=rfl
theorem zJa {ρ σ γ:Type} {s:σ} {f:ρ→Option γ} {g:σ→Option γ}:exM (.go s) f g=g s:=rfl
theorem zB9 {i:Nat} {n:Nat} (h:i<n):inR (i:Int) n=true:=zDd.2 ⟨by omega,by omega⟩
theorem zMs {i:Int} {n:Nat} (h0:0≤i) (h:i<n):inR i n=true:=zDd.2 ⟨h0,h⟩
theorem zCP {x:Int} (h0:-9223372036854775808≤x) (h1:x≤9223372036854775807):i64B x=true:=by simp [i64B,h0,h1]
theorem zLT {α : Type} {xs : List α} {L : Nat → Int → List α → Option (List α)} 
    (hs:∀ k i ys x,i<xs.length→ys.length=xs.length→xs[i]? = some x→L (k+1) ((i:Nat):Int) ys=L k ((i+1:Nat):Int) (ys.set i x)) (he:∀ k ys,L (k+1) ((xs.length:Nat):Int) ys=some ys) :
    ∀ m i k ys,i+m=xs.length→m<k→ys.length=xs.length→ys.take i=xs.take i→L k ((i:Nat):Int) ys=some xs:=by
  intro m
  induction m with
  | zero=>
    intro i k ys hi hk hy ht
    obtain ⟨k,rfl⟩:∃ q,k=q+1:=⟨k-1,by omega⟩
    obtain rfl:i=xs.length:=by omega
    rw [he]
    rw [List.take_of_length_le (by omega),List.take_of_length_le (by omega)] at ht
    rw [ht]
  | succ m ih=>
    intro i k ys hi hk hy ht
    obtain ⟨k,rfl⟩:∃ q,k=q+1:=⟨k-1,by omega⟩
    have hlt:i<xs.length:=by omega
    rw [hs k i ys _ hlt hy (List.getElem?_eq_getElem hlt)]
    refine ih (i+1) k _ (by omega) (by omega) (by rw [List.length_set,hy]) ?_
    apply List.ext_getElem?
    intro j
    rw [List.getElem?_take,List.getElem?_take]
    split
    · rename_i hj
      rcases Nat.lt_or_ge j i with h | h
      · have := congrArg (fun l => l[j]?) ht
        simp only [List.getElem?_take,if_pos h] at this
        rw [List.getElem?_set_ne (by omega)]
        exact this
      · obtain rfl : j = i := by omega
        rw [List.getElem?_set_self (by omega),List.getElem?_eq_getElem hlt]
    · rfl
theorem zAq {α:Type} [Inhabited α] {xs:List α} {i:Nat} {x:α} (h:xs[i]? = some x):gtD xs (i:Int)=x:=by
  unfold gtD
  rw [Int.toNat_natCast,List.getD_eq_getElem?_getD,h]
  rfl
end Go.Proofs.YtldppodfhabkjaaGreatDoor
namespace Go.Proofs.YtldppodfhabkjaaGreatDoor
open Go.RowKit
set_option linter.unusedVariables false
theorem zAb {n:Nat} (h:n≤4294967296):zBE n=true:=Nat.ble_eq_true_of_le h
theorem zOZ {n:Nat} (h:n≤1048577):mkOK (n:Int)=true:=by simp [mkOK];omega
theorem zI0 : ∀ (a : List UInt8), bLt a a = false
  | []=>rfl
  | a::x=>by
    unfold bLt Op.bytesLess
    rw [show Op.bytesLess x x=false from zI0 x]
    simp
theorem zJC : ∀ {a b c : List UInt8}, bLt a b = true → bLt b c = true → bLt a c = true
  | _,_,[],_,h=>by cases ‹List UInt8› <;> simp [bLt,Op.bytesLess] at h
  | _,[],_::_,h,_=>by cases ‹List UInt8› <;> simp [bLt,Op.bytesLess] at h
  | [],_::_,_::_,_,_=>rfl
  | a::x,b::y,c::z,h,k=>by
    unfold bLt Op.bytesLess at h k ⊢
    simp only [Bool.or_eq_true,Bool.and_eq_true,decide_eq_true_eq,beq_iff_eq] at h k ⊢
    rcases h with h | ⟨rfl,h⟩
    · rcases k with k | ⟨rfl, k⟩
      · exact .inl (UInt8.lt_trans h k)
      · exact .inl h
    · rcases k with k | ⟨rfl, k⟩
      · exact .inl k
      · exact .inr ⟨rfl,zJC h k⟩
theorem zL5 : ∀ {a b : List UInt8}, bLt a b = false → bLt b a = false → a = b
  | [],[],_,_=>rfl
  | [],_::_,h,_=>by simp [bLt,Op.bytesLess] at h
  | _::_,[],_,h=>by simp [bLt,Op.bytesLess] at h
  | a::x,b::y,h,k=>by
    unfold bLt Op.bytesLess at h k
    simp only [Bool.or_eq_false_iff,Bool.and_eq_false_imp,decide_eq_false_iff_not,beq_iff_eq] at h k
    have e:a=b:=by
      rcases UInt8.lt_or_lt_of_ne (a:=a) (b:=b) |> fun f=>Classical.em (a=b) |>.imp id f with e | e | e
      · exact e
      · exact absurd e h.1
      · exact absurd e k.1
    subst e
    rw [zL5 (h.2 rfl) (k.2 rfl)]
theorem zOJ (a b:List UInt8):decide (a≤b) = !(bLt b a):=by
  have h:=Go.Proofs.bytesLess_eq b a
  unfold bLt
  rw [h]
  by_cases hlt:b<a
  · have : ¬ a ≤ b := List.not_le.2 hlt
    rw [decide_eq_true hlt,decide_eq_false this]
    rfl
  · have : a ≤ b := List.not_lt.1 hlt
    rw [decide_eq_false hlt,decide_eq_true this]
    rfl
end Go.Proofs.YtldppodfhabkjaaGreatDoor
namespace Go.Proofs.YtldppodfhabkjaaGreatDoor
open Go.RowKit
set_option linter.unusedVariables false
theorem lt_t {i n:Nat} (h:i<n):decide ((i:Int)<(n:Int))=true:=by simpa using h
theorem lt_f (n:Nat):decide ((n:Int)<(n:Int))=false:=decide_eq_false (Int.lt_irrefl _)
theorem zCU {i:Nat} (hn:i≤4294967296):i64B ((i:Int)+1)=true:=zCP (by omega) (by omega)
theorem zD4 {α:Type} {xs:List α} {i:Nat} {x:α} (h:xs[i]? = some x):i<xs.length:=(List.getElem?_eq_some_iff.1 h).1
theorem zDu {α:Type} {xs:List α} {i:Nat} {x:α} (h:xs[i]? = some x):x ∈ xs:=List.mem_of_getElem? h
theorem zAt (i:Nat):(i:Int)+1=((i+1:Nat):Int):=rfl
theorem zHd {α:Type} (xs:List α) (i:Nat) (x:α):xs.set ((i:Nat):Int).toNat x=xs.set i x:=by rw [Int.toNat_natCast]
theorem zNK {α:Type} [Inhabited α] {xs:List α} {i:Nat} (h:i<xs.length) (x:α):gtD (xs.set i x) (i:Int)=x:=zAq (List.getElem?_set_self h)
def szR (n:Int) (w:Nat):Int:=if (w:Int)≤n then n-w else -1
theorem zJ8 {n:Int} {w:Nat} (h:(w:Int)≤n):decide (szR n w<0)=false:=by
  unfold szR
  rw [if_pos h]
  exact decide_eq_false (by omega)
theorem zJB {n:Int} {w:Nat} (h:¬ (w:Int)≤n):decide (szR n w<0)=true:=by
  unfold szR
  rw [if_neg h]
  rfl
theorem zNZ {n:Int} {w:Nat} (h:(w:Int)≤n):szR n w=n-w:=if_pos h
theorem zLZ {n:Int} {w v:Nat} (h:(w:Int)≤n):szR (n-w) v=szR n (w+v):=by
  unfold szR
  by_cases h2:(v:Int)≤n-w
  · rw [if_pos h2, if_pos (by omega)]
    omega
  · rw [if_neg h2,if_neg (by omega)]
theorem zLM {n:Int} {w v:Nat} (h:¬ (w:Int)≤n):szR n (w+v) = -1:=if_neg (by omega)
theorem zOH {n : Int} {l : Nat} (hn : 0 ≤ n) (hn1 : n ≤ 1048576) (hl : l ≤ maxLen) {c : Option Int} {r : Int} (h1 : ¬ (l : Int) ≤ n → r = -1) (h2 : (l : Int) ≤ n → c = some r) :
    (ck (i64B (n-(l:Int)))<|bif (decide ((n-(l:Int))<(0:Int))) then some (-1:Int) else c)=some r:=by
  unfold maxLen at hl
  rw [ck_t (zCP (by omega) (by omega))]
  by_cases h:(l:Int)≤n
  · rw [decide_eq_false (by omega), cond_false]
    exact h2 h
  · rw [decide_eq_true (by omega),cond_true,h1 h]
def wL {α:Type} (f:α→Nat) (xs:List α):Nat:=xs.length+(xs.map f).sum
theorem zD1 {α:Type} {xs:List α} {i:Nat} {x:α} (h:xs[i]? = some x):xs.drop i=x::xs.drop (i+1):=by
  obtain ⟨h1,rfl⟩:=List.getElem?_eq_some_iff.1 h
  exact List.drop_eq_getElem_cons h1
theorem zMR {α : Type} {xs : List α} {f : α → Nat} {L : Nat → Int → Int → Option (Ex Int Int)}
    (hs:∀ k y (i:Nat) x,xs[i]? = some x→0≤y→y≤1048576→L (k+1) y (i:Int)=bif decide (szR y (f x)<0) then some (.ret (-1)) else L k (szR y (f x)) ((i+1:Nat):Int))
    (he:∀ k y,L (k+1) y (xs.length:Int)=some (.go y)) :
    ∀ m i k y,i+m=xs.length→m<k→0≤y→y≤1048576→L k y ((i:Nat):Int)=some (if ((((xs.drop i).map f).sum:Nat):Int)≤y then .go (szR y ((xs.drop i).map f).sum) else .ret (-1)):=by
  intro m
  induction m with
  | zero=>
    intro i k y hi hk h0 h1
    obtain ⟨k,rfl⟩:∃ q,k=q+1:=⟨k-1,by omega⟩
    obtain rfl:i=xs.length:=by omega
    rw [he,List.drop_length]
    simp [szR,h0]
  | succ m ih=>
    intro i k y hi hk h0 h1
    obtain ⟨k,rfl⟩:∃ q,k=q+1:=⟨k-1,by omega⟩
    have hlt:i<xs.length:=by omega
    have hx:=List.getElem?_eq_getElem hlt
    rw [hs k y i _ hx h0 h1,zD1 hx,List.map_cons,List.sum_cons]
    by_cases h:(f xs[i]:Int)≤y
    · rw [zJ8 h, cond_false, zNZ h, ih (i + 1) k _ (by omega) (by omega) (by omega) (by omega), zLZ h]
      congr 1
      by_cases h2:((((xs.drop (i+1)).map f).sum:Nat):Int)≤y-(f xs[i]:Int)
      · rw [if_pos h2,if_pos (by omega)]
      · rw [if_neg h2,if_neg (by omega)]
    · rw [zJB h,cond_true,if_neg (by omega)]
theorem zLP {α : Type} {xs : List α} {f : α → Nat} {L : Nat → Int → Int → Option (Ex Int Int)} {n : Int} {fu : Nat} (hn : 0 ≤ n) (hn1 : n ≤ 1048576) (hl : xs.length ≤ maxLen) (hf : 1048577 ≤ fu)
    (hs:∀ k y (i:Nat) x,xs.length≤1048576→xs[i]? = some x→0≤y→y≤1048576→L (k+1) y (i:Int)=bif decide (szR y (f x)<0) then some (.ret (-1)) else L k (szR y (f x)) ((i+1:Nat):Int))
    (he:∀ k y,L (k+1) y (xs.length:Int)=some (.go y)) :
    (ck (i64B (n-(xs.length:Int)))<|bif (decide ((n-(xs.length:Int))<(0:Int))) then some (-1:Int) else cl true (L fu (n-(xs.length:Int)) (0:Int)) fun rl=>exM rl (fun r=>some r) fun s=>some s)=some (szR n (wL f xs)):=by
  refine zOH hn hn1 hl (fun h=>zLM h) fun h=>?_
  have:=zMR (fun k y i x=>hs k y i x (by omega)) he xs.length 0 fu (n-(xs.length:Int)) (by omega) (by omega) (by omega) (by omega)
  rw [show ((0:Nat):Int)=0 from rfl] at this
  rw [this,zA6,List.drop_zero]
  by_cases h2:(((xs.map f).sum:Nat):Int)≤n-(xs.length:Int)
  · rw [if_pos h2, zLZ h]
    rfl
  · rw [if_neg h2]
    unfold wL szR
    rw [if_neg (by omega)]
    rfl
theorem zH1 {α : Type} {f : α → Nat} {x : α} : ∀ {xs : List α}, x ∈ xs → f x ≤ (xs.map f).sum
  | y::ys,h=>by
    rw [List.map_cons,List.sum_cons]
    rcases List.mem_cons.1 h with rfl | h
    · omega
    · have := zH1 (f := f) h
      omega
theorem zLS {α : Type} [Inhabited α] {xs : List α} {z : α} {L : Nat → Int → List α → Option (List α)} {fu : Nat} (hl : xs.length ≤ 1048576) (hf : 1048577 ≤ fu)
    (hs:∀ k (i:Nat) ys x,i<xs.length→ys.length=xs.length→xs[i]? = some x→L (k+1) ((i:Nat):Int) ys=L k ((i+1:Nat):Int) (ys.set i x)) (he:∀ k ys,L (k+1) (xs.length:Int) ys=some ys) :
    (ck (mkOK (xs.length:Int))<|cl true (L fu (0:Int) (List.replicate (xs.length:Int).toNat z)) fun s=>some s)=some xs:=by
  rw [ck_t (zOZ (by omega))]
  have:=zLT hs he xs.length 0 fu (List.replicate (xs.length:Int).toNat z) (by omega) (by omega) (by simp) (by simp)
  rw [show ((0:Nat):Int)=0 from rfl] at this
  rw [this]
  rfl
theorem zNL {α : Type} [BEq α] {xs ys : List α} (hl : xs.length = ys.length) {L : Nat → Int → Option (Ex Bool Unit)}
    (hs:∀ k (i:Nat) x y,xs[i]? = some x→ys[i]? = some y→L (k+1) (i:Int)=bif !(x==y) then some (.ret false) else L k ((i+1:Nat):Int))
    (he:∀ k,L (k+1) (xs.length:Int)=some (.go ())) :
    ∀ m i k,i+m=xs.length→m<k→L k ((i:Nat):Int)=some (bif xs.drop i==ys.drop i then .go () else .ret false):=by
  intro m
  induction m with
  | zero=>
    intro i k hi hk
    obtain ⟨k,rfl⟩:∃ q,k=q+1:=⟨k-1,by omega⟩
    obtain rfl:i=xs.length:=by omega
    rw [he,List.drop_length,hl,List.drop_length]
    rfl
  | succ m ih=>
    intro i k hi hk
    obtain ⟨k,rfl⟩:∃ q,k=q+1:=⟨k-1,by omega⟩
    have hx:=List.getElem?_eq_getElem (show i<xs.length by omega)
    have hy:=List.getElem?_eq_getElem (show i<ys.length by omega)
    rw [hs k i _ _ hx hy,zD1 hx,zD1 hy,List.cons_beq_cons]
    cases xs[i]==ys[i]
    · rfl
    · rw [Bool.not_true, cond_false, Bool.true_and]
      exact ih (i+1) k (by omega) (by omega)
theorem zLw {α : Type} [BEq α] : ∀ {xs ys : List α}, xs.length ≠ ys.length → (xs == ys) = false
  | [],[],h=>absurd rfl h
  | [],_::_,_=>rfl
  | _::_,[],_=>rfl
  | x::xs,y::ys,h=>by
    rw [List.cons_beq_cons,zLw (xs:=xs) (ys:=ys) (fun e=>h (by simp [e])),Bool.and_false]
theorem zLd {α : Type} [BEq α] {xs ys : List α} {L : Nat → Int → Option (Ex Bool Unit)} {fu : Nat} (hf : xs.length < fu)
    (hs:∀ k (i:Nat) x y,xs.length=ys.length→xs[i]? = some x→ys[i]? = some y→L (k+1) (i:Int)=bif !(x==y) then some (.ret false) else L k ((i+1:Nat):Int))
    (he:∀ k,L (k+1) (xs.length:Int)=some (.go ())) :
    (bif ((xs.length:Int) != (ys.length:Int)) then some false else cl true (L fu (0:Int)) fun rl=>exM rl (fun r=>some r) fun s=>some true)=some (xs==ys):=by
  by_cases hl:xs.length=ys.length
  · have h1 : ((xs.length : Int) != (ys.length : Int)) = false := by simp [hl]
    have:=zNL hl (fun k i x y=>hs k i x y hl) he xs.length 0 fu (by omega) (by omega)
    rw [show ((0:Nat):Int)=0 from rfl,List.drop_zero,List.drop_zero] at this
    rw [h1,cond_false,this,zA6]
    cases xs==ys <;> rfl
  · have h1 : ((xs.length : Int) != (ys.length : Int)) = true := by simp; omega
    rw [h1,cond_true,zLw hl]
def cW {α:Type} (c:α→Int) (xs:List α):Int:=(xs.map c).sum
theorem zIG {α:Type} {c:α→Int} {x:α} {xs:List α}:cW c (x::xs)=c x+cW c xs:=by simp [cW]
theorem zFa {α : Type} {c : α → Int} (hc : ∀ x, 0 ≤ c x) : ∀ xs : List α, 0 ≤ cW c xs
  | []=>Int.le_refl _
  | x::xs=>by rw [zIG];have:=hc x;have:=zFa hc xs;omega
theorem zJY {α : Type} {c : α → Int} {f : α → Nat} (h : ∀ x, c x ≤ 8 * (f x : Int) + 8) : ∀ xs : List α, cW c xs ≤ 8 * (wL f xs : Int)
  | []=>by simp [cW,wL]
  | x::xs=>by
    have h1:=zJY h xs
    have h2:=h x
    rw [zIG]
    unfold wL at h1 ⊢
    simp only [List.length_cons,List.map_cons,List.sum_cons]
    omega
def mkW {α : Type} (f : α → Int → α) (c : α → Int) : List α → Int → List α
  | [],_=>[]
  | x::xs,k=>f x k::mkW f c xs (k+c x)
theorem zGt {α : Type} {f : α → Int → α} {c : α → Int} : ∀ {xs : List α} {k : Int}, (mkW f c xs k).length = xs.length
  | [],_=>rfl
  | x::xs,k=>by simp [mkW,zGt]
theorem zNN {α : Type} {f : α → Int → α} {c : α → Int} {Bd : α → Prop} {n : Nat} {lim : Int} {L : Nat → Int → Int → List α → Option (Int × List α)} (hc : ∀ x, 0 ≤ c x)
    (hs:∀ k y (i:Nat) ys x,i<n→ys.length=n→ys[i]? = some x→0<y→y+c x≤lim→Bd x→L (k+1) y (i:Int) ys=L k (y+c x) ((i+1:Nat):Int) (ys.set i (f x y)))
    (he:∀ k y ys,ys.length=n→L (k+1) y (n:Int) ys=some (y,ys)) :
    ∀ m i k y ys,i+m=n→m<k→ys.length=n→0<y→y+cW c (ys.drop i)≤lim→(∀ x ∈ ys.drop i,Bd x)→L k y ((i:Nat):Int) ys=some (y+cW c (ys.drop i),ys.take i++mkW f c (ys.drop i) y):=by
  intro m
  induction m with
  | zero=>
    intro i k y ys hi hk hl h0 h1 hb
    obtain ⟨k,rfl⟩:∃ q,k=q+1:=⟨k-1,by omega⟩
    obtain rfl:i=n:=by omega
    rw [he k y ys hl,List.drop_of_length_le (by omega),List.take_of_length_le (by omega)]
    simp [cW,mkW]
  | succ m ih=>
    intro i k y ys hi hk hl h0 h1 hb
    obtain ⟨k,rfl⟩:∃ q,k=q+1:=⟨k-1,by omega⟩
    have hlt:i<ys.length:=by omega
    have hx:=List.getElem?_eq_getElem hlt
    rw [zD1 hx] at h1 hb ⊢
    rw [zIG] at h1 ⊢
    have hc1:=hc ys[i]
    have hc2:=zFa hc (ys.drop (i+1))
    have hd:(ys.set i (f ys[i] y)).drop (i+1)=ys.drop (i+1):=List.drop_set_of_lt (by omega)
    have ht:(ys.set i (f ys[i] y)).take (i+1)=ys.take i ++ [f ys[i] y]:=by
      rw [List.take_add_one,List.take_set_of_le (Nat.le_refl _),List.getElem?_set_self hlt]
      rfl
    rw [hs k y i ys _ (by omega) hl hx h0 (by omega) (hb _ (List.mem_cons_self ..)),ih (i+1) k _ _ (by omega) (by omega) (by rw [List.length_set];exact hl) (by omega) (by rw [hd];omega) (by rw [hd];exact fun x hx=>hb x (List.mem_cons_of_mem _ hx)),hd,ht,mkW,List.append_assoc,Int.add_assoc]
    rfl
theorem zJ2 {α : Type} {f : α → Int → α} {c : α → Int} {Bd : α → Prop} {lim : Int} {L : Nat → Int → Int → List α → Option (Int × List α)} {xs : List α} {k : Int} {fu : Nat} (hc : ∀ x, 0 ≤ c x) (hf : xs.length < fu) (hk : 0 < k) (h1 : k + cW c xs ≤ lim) (hb : ∀ x ∈ xs, Bd x)
    (hs:∀ k y (i:Nat) ys x,i<xs.length→ys.length=xs.length→ys[i]? = some x→0<y→y+c x≤lim→Bd x→L (k+1) y (i:Int) ys=L k (y+c x) ((i+1:Nat):Int) (ys.set i (f x y)))
    (he:∀ k y ys,ys.length=xs.length→L (k+1) y (xs.length:Int) ys=some (y,ys)) :
    (cl true (L fu k (0:Int) xs) fun s=>some (s.1,s.2))=some (k+cW c xs,mkW f c xs k):=by
  have:=zNN hc hs he xs.length 0 fu k xs (by omega) (by omega) rfl hk (by rw [List.drop_zero];exact h1) (by rw [List.drop_zero];exact hb)
  rw [show ((0:Nat):Int)=0 from rfl,List.drop_zero] at this
  rw [this]
  rfl
theorem zMw {α:Type} {f:α→Int→α} {c:α→Int} {zs:List α} {i:Nat} {x:α} {xs:List α} {k:Int} (h:zs.drop i=mkW f c (x::xs) k):zs[i]? = some (f x k)∧zs.drop (i+1)=mkW f c xs (k+c x):=by
  have h1:(zs.drop i)[0]? = some (f x k):=by rw [h];rfl
  rw [List.getElem?_drop,Nat.add_zero] at h1
  refine ⟨h1,?_⟩
  have h2:=zD1 h1
  rw [h] at h2
  injection h2 with _ h2
  exact h2.symm
theorem zNb {α : Type} {f : α → Int → α} {c : α → Int} {Bd : α → Prop} {zs : List α} {lim : Int} {L : Nat → Int → Int → Option (Ex Int Int)} (hc : ∀ x, 0 ≤ c x)
    (hs:∀ k y (i:Nat) x,zs[i]? = some (f x y)→0<y→y+c x≤lim→Bd x→L (k+1) y (i:Int)=L k (y+c x) ((i+1:Nat):Int))
    (he:∀ k y,L (k+1) y (zs.length:Int)=some (.go y)) :
    ∀ xs i k y,i+xs.length=zs.length→xs.length<k→0<y→y+cW c xs≤lim→(∀ x ∈ xs,Bd x)→zs.drop i=mkW f c xs y→L k y ((i:Nat):Int)=some (.go (y+cW c xs)):=by
  intro xs
  induction xs with
  | nil=>
    intro i k y hi hk h0 h1 hb hz
    obtain ⟨k,rfl⟩:∃ q,k=q+1:=⟨k-1,by omega⟩
    obtain rfl:i=zs.length:=by simpa using hi
    rw [he]
    simp [cW]
  | cons x xs ih=>
    intro i k y hi hk h0 h1 hb hz
    obtain ⟨k,rfl⟩:∃ q,k=q+1:=⟨k-1,by omega⟩
    obtain ⟨hx,hz'⟩:=zMw hz
    rw [zIG] at h1 ⊢
    simp only [List.length_cons] at hi hk
    have hc1:=hc x
    have hc2:=zFa hc xs
    rw [hs k y i x hx h0 (by omega) (hb _ (List.mem_cons_self ..)),ih (i+1) k _ (by omega) (by omega) (by omega) (by omega) (fun x hx=>hb x (List.mem_cons_of_mem _ hx)) hz',Int.add_assoc]
theorem zLr {α : Type} {f : α → Int → α} {c : α → Int} {Bd : α → Prop} {lim : Int} {L : Nat → Int → Int → Option (Ex Int Int)} {xs zs : List α} {k : Int} {fu : Nat} (hz : zs = mkW f c xs k) (hc : ∀ x, 0 ≤ c x) (hf : xs.length < fu) (hk : 0 < k) (h1 : k + cW c xs ≤ lim) (hb : ∀ x ∈ xs, Bd x)
    (hs:∀ k y (i:Nat) x,zs[i]? = some (f x y)→0<y→y+c x≤lim→Bd x→L (k+1) y (i:Int)=L k (y+c x) ((i+1:Nat):Int))
    (he:∀ k y,L (k+1) y (zs.length:Int)=some (.go y)) :
    (cl true (L fu k (0:Int)) fun rl=>exM rl (fun r=>some r) fun s=>some s)=some (k+cW c xs):=by
  have:=zNb hc hs he xs 0 fu k (by rw [hz,zGt];omega) (by omega) hk h1 hb (by rw [List.drop_zero];exact hz)
  rw [show ((0:Nat):Int)=0 from rfl] at this
  rw [this]
  rfl
end Go.Proofs.YtldppodfhabkjaaGreatDoor
namespace Go.Proofs.YtldppodfhabkjaaGreatDoor
open Go.RowKit
set_option linter.unusedVariables false
set_option linter.unusedSimpArgs false
def zBq (x:List (List UInt8)):Nat:=wL (fun s:List UInt8=>s.length) x
def zCH (x:(Int) × (Int) × (Int) × (List (List UInt8))):Nat:=zBq x.2.2.2
def zCL (x:List ((Int) × (Int) × (Int) × (List (List UInt8)))):Nat:=wL zCH x
theorem zKn {fu:Nat} {x:List (List UInt8)} {n:Int} (hb:(qS qB) x) (h0:0≤n) (h1:n≤1048576) (hf:1048577≤fu):zCw fu x n=some (szR n (zBq x)):=by
  unfold zCw zBq
  refine zLP h0 h1 hb.1 hf (L:=zBc fu x) (fun k y i z hl hz hy hy1=>?_) (fun k y=>by rw [zBc,lt_f];rfl)
  have hi:=zD4 hz
  have hq:=hb.2 z (zDu hz)
  unfold qB maxLen at hq
  rw [zBc,lt_t hi,cond_true,ck_t (zB9 hi),zAq hz,ck_t (zCP (by omega) (by omega))]
  by_cases h:(z.length:Int)≤y
  · rw [zJ8 h,zNZ h,decide_eq_false (by omega),cond_false,cond_false,ck_t (zCU (by omega)),zAt]
  · rw [zJB h,decide_eq_true (by omega),cond_true,cond_true]
theorem zM6 {fu:Nat} {x:(Int) × (Int) × (Int) × (List (List UInt8))} {n:Int} (hb:(qP qI (qP qI (qP qI (qS qB)))) x) (h0:0≤n) (h1:n≤1048576) (hf:1048577≤fu):zD8 fu x n=some (szR n (zCH x)):=by
  unfold zD8 zCH
  rw [zKn hb.2.2.2 (by omega) (by omega) hf,zA6]
  by_cases g0:¬ (zBq x.2.2.2:Int)≤n
  · rw [zJB g0, cond_true]
    unfold szR
    rw [if_neg (by omega)]
  replace g0:=Classical.not_not.1 g0
  rw [zJ8 g0,cond_false,zNZ g0]
theorem zKj {fu:Nat} {x:List ((Int) × (Int) × (Int) × (List (List UInt8)))} {n:Int} (hb:(qS (qP qI (qP qI (qP qI (qS qB))))) x) (h0:0≤n) (h1:n≤1048576) (hf:1048577≤fu):zCu fu x n=some (szR n (zCL x)):=by
  unfold zCu zCL
  refine zLP h0 h1 hb.1 hf (L:=zBZ fu x) (fun k y i z hl hz hy hy1=>?_) (fun k y=>by rw [zBZ,lt_f];rfl)
  have hi:=zD4 hz
  have hq:=hb.2 z (zDu hz)
  rw [zBZ,lt_t hi,cond_true,ck_t (zB9 hi),zAq hz,zM6 hq hy hy1 hf,zA6]
  by_cases h:(zCH z:Int)≤y
  · rw [zJ8 h,cond_false,cond_false,ck_t (zCU (by omega)),zAt]
  · rw [zJB h,cond_true,cond_true]
theorem zKl {fu:Nat} {x:List (List UInt8)} (hw:zBq x≤1048576) (hf:1048577≤fu):zD0 fu x=some x:=by
  have hw':=hw
  unfold zBq wL at hw'
  unfold zD0
  refine zLS (by omega) hf (L:=zBb fu x) (fun k i ys z hi hl hz=>?_) (fun k ys=>by rw [zBb,lt_f];rfl)
  rw [zBb,lt_t hi,cond_true,ck_t (zB9 hi),ck_t (zB9 (by omega)),ck_t (zCU (by omega)),zAq hz,zHd,zAt]
theorem zLL {fu:Nat} {x:(Int) × (Int) × (Int) × (List (List UInt8))} (hw:zCH x≤1048576) (hf:1048577≤fu):zDG fu x=some x:=by
  unfold zCH at hw
  unfold zDG
  rw [zKl (by omega) hf,zA6]
theorem zKk {fu:Nat} {x:List ((Int) × (Int) × (Int) × (List (List UInt8)))} (hw:zCL x≤1048576) (hf:1048577≤fu):zBJ fu x=some x:=by
  have hw':=hw
  unfold zCL wL at hw'
  unfold zBJ
  refine zLS (by omega) hf (L:=zBd fu x) (fun k i ys z hi hl hz=>?_) (fun k ys=>by rw [zBd,lt_f];rfl)
  have hm:=zH1 (f:=zCH) (zDu hz)
  rw [zBd,lt_t hi,cond_true,ck_t (zB9 hi),zAq hz,zLL (by omega) hf,zA6,ck_t (zB9 (by omega)),ck_t (zCU (by omega)),zHd,zAt]
theorem zI5 {fu:Nat} {x y:List (List UInt8)} (hw:zBq x≤1048576) (hf:1048577≤fu):zBR fu x y=some (x==y):=by
  have hw':=hw
  unfold zBq wL at hw'
  unfold zBR
  refine zLd (by omega) (L:=zBe fu x y) (fun k i z z' hl hz hz'=>?_) (fun k=>by rw [zBe,lt_f];rfl)
  have hi:=zD4 hz
  rw [zBe,lt_t hi,cond_true,ck_t (zB9 hi),ck_t (zB9 (zD4 hz')),ck_t (zCU (by omega)),zAq hz,zAq hz',zAt]
theorem zL8 {fu:Nat} {x y:(Int) × (Int) × (Int) × (List (List UInt8))} (hw:zCH x≤1048576) (hf:1048577≤fu):zDB fu x y=some (x==y):=by
  obtain ⟨x0,x1,x2,x3⟩:=x
  obtain ⟨y0,y1,y2,y3⟩:=y
  unfold zCH at hw
  try simp only [] at hw
  unfold zDB
  rw [show (((x0,x1,x2,x3):(Int) × (Int) × (Int) × (List (List UInt8)))==(y0,y1,y2,y3))=((x0==y0)&&((x1==y1)&&((x2==y2)&&(x3==y3)))) from rfl]
  simp only []
  rw [zI5 (by omega) hf,zA6]
  try simp only [bne]
  cases h0:(x0==y0) <;> cases h1:(x1==y1) <;> cases h2:(x2==y2) <;> cases h3:(x3==y3) <;> rfl
theorem zKd {fu:Nat} {x y:List ((Int) × (Int) × (Int) × (List (List UInt8)))} (hw:zCL x≤1048576) (hf:1048577≤fu):zCQ fu x y=some (x==y):=by
  have hw':=hw
  unfold zCL wL at hw'
  unfold zCQ
  refine zLd (by omega) (L:=zBW fu x y) (fun k i z z' hl hz hz'=>?_) (fun k=>by rw [zBW,lt_f];rfl)
  have hi:=zD4 hz
  have hm:=zH1 (f:=zCH) (zDu hz)
  rw [zBW,lt_t hi,cond_true,ck_t (zB9 hi),ck_t (zB9 (zD4 hz')),ck_t (zCU (by omega)),zAq hz,zAq hz',zL8 (by omega) hf,zA6,zAt]
def mt (k:Int):List UInt8:=gv (zCM 64 k)
theorem zF9 {fu fu' : Nat} : ∀ (d : Nat) (y : Int) (s : List UInt8) (k : Nat), 0 ≤ y → y ≤ 4294967296 → y < 10 ^ d → d < k → s.length + d ≤ 1000 → ∃ r, r.length ≤ s.length + d ∧ zBO fu k y s = some r ∧ zBO fu' (d + 1) y s = some r
  | 0,y,s,k,h0,hM,h1,hk,hl=>by
    obtain ⟨k,rfl⟩:∃ q,k=q+1:=⟨k-1,by omega⟩
    obtain rfl:y=0:=by omega
    exact ⟨s,by omega,rfl,rfl⟩
  | d+1,y,s,k,h0,hM,h1,hk,hl=>by
    obtain ⟨k,rfl⟩:∃ q,k=q+1:=⟨k-1,by omega⟩
    rw [zBO,zBO]
    by_cases hy:0<y
    · have e1 : y.tmod 10 = y % 10 := Int.tmod_eq_emod_of_nonneg h0
      have e2:y.tdiv 10=y / 10:=Int.tdiv_eq_ediv_of_nonneg h0
      have hp:(10:Int) ^ (d+1)=10 ^ d*10:=Int.pow_succ ..
      have hm:0≤y % 10∧y % 10<10:=⟨Int.emod_nonneg _ (by omega),Int.emod_lt_of_pos _ (by omega)⟩
      have hlen:((strB [IntKind.u8.wrap (48+y.tmod 10)])++s).length=s.length+1:=by simp [strB]
      have hy2:i64B (y.tdiv 10)=true:=by
        rw [e2]
        exact zCP (by have:=Int.ediv_nonneg h0 (show (0:Int)≤10 by omega);omega) (by have:=Int.ediv_le_self 10 h0;omega)
      rw [decide_eq_true hy,cond_true,cond_true,ck_t (by decide),ck_t (zCP (by omega) (by omega)),ck_t (zAb (by rw [hlen];omega)),ck_t (by decide),ck_t hy2,ck_t (by decide),ck_t (zCP (by omega) (by omega)),ck_t (zAb (by rw [hlen];omega)),ck_t (by decide),ck_t hy2]
      obtain ⟨r,h2,h3,h4⟩:=zF9 (fu:=fu) (fu':=fu') d (y.tdiv 10) ((strB [IntKind.u8.wrap (48+y.tmod 10)])++s) k (by rw [e2];exact Int.ediv_nonneg h0 (by omega)) (by rw [e2];have:=Int.ediv_le_self 10 h0;omega) (by rw [e2];exact Int.ediv_lt_of_lt_mul (by omega) (by omega)) (by omega) (by rw [hlen];omega)
      exact ⟨r,by rw [hlen] at h2;omega,h3,h4⟩
    · obtain rfl : y = 0 := by omega
      exact ⟨s,by omega,rfl,rfl⟩
theorem zHs {fu:Nat} {k:Int} (h0:0<k) (h1:k≤4294967296) (hf:1048577≤fu):zCM fu k=some (mt k):=by
  obtain ⟨r,h2,h3,h4⟩:=zF9 (fu:=fu) (fu':=64) 12 k [] fu (by omega) h1 (by omega) (by omega) (by decide)
  obtain ⟨r',_,h3',h4'⟩:=zF9 (fu:=64) (fu':=64) 12 k [] 64 (by omega) h1 (by omega) (by omega) (by decide)
  have e:r=r':=by rw [h4] at h4';injection h4'
  subst e
  unfold mt zCM
  rw [decide_eq_false (by omega),cond_false,cond_false,h3,h3',zA6,ck_t (zAb (by simp at h2 ⊢;omega))]
  rfl
def zFd (x:List UInt8) (k:Int):List UInt8:=mt k
def zDH (x:List UInt8):Int:=1
theorem zG8 (x:List UInt8):0≤zDH x:=by
  unfold zDH
  omega
def zFQ (x:List (List UInt8)) (k:Int):List (List UInt8):=mkW zFd zDH x k
def zDE (x:List (List UInt8)):Int:=cW zDH x
theorem zGp (x:List (List UInt8)):0≤zDE x:=zFa zG8 x
theorem zHt (x:List (List UInt8)):zDE x≤8*(zBq x:Int):=by
  unfold zDE zBq
  refine zJY (fun x=>?_) x
  unfold zDH
  omega
def zGu (x:(Int) × (Int) × (Int) × (List (List UInt8))) (k:Int):(Int) × (Int) × (Int) × (List (List UInt8)):=(k,k+1,k+1+1,zFQ x.2.2.2 (k+1+1+1))
def zDi (x:(Int) × (Int) × (Int) × (List (List UInt8))):Int:=1+1+1+zDE x.2.2.2
theorem zHN (x:(Int) × (Int) × (Int) × (List (List UInt8))):0≤zDi x:=by
  unfold zDi
  have:=zGp (x.2.2.2)
  omega
def zJ6 (x:List ((Int) × (Int) × (Int) × (List (List UInt8)))) (k:Int):List ((Int) × (Int) × (Int) × (List (List UInt8))):=mkW zGu zDi x k
def zEW (x:List ((Int) × (Int) × (Int) × (List (List UInt8)))):Int:=cW zDi x
theorem zKi (x:List ((Int) × (Int) × (Int) × (List (List UInt8)))):0≤zEW x:=zFa zHN x
theorem zKf (x:List ((Int) × (Int) × (Int) × (List (List UInt8)))):zEW x≤8*(zCL x:Int):=by
  unfold zEW zCL
  refine zJY (fun x=>?_) x
  unfold zDi zCH
  have:=zHt (x.2.2.2)
  omega
theorem zH0 {fu:Nat} {x:List (List UInt8)} {k:Int} (hw:zBq x≤1048576) (hk:0<k) (h1:k+zDE x≤4294967296) (hf:1048577≤fu):zBg fu x k=some (k+zDE x,zFQ x k):=by
  have hw':=hw
  unfold zBq wL at hw'
  unfold zBg
  have hb:∀ z ∈ x,(fun s:List UInt8=>s.length) z≤1048576:=fun z hz=>Nat.le_trans (zH1 (f:=(fun s:List UInt8=>s.length)) hz) (by omega)
  refine zJ2 (f:=zFd) (c:=zDH) (Bd:=(fun z:List UInt8=>(fun s:List UInt8=>s.length) z≤1048576)) (lim:=4294967296) (L:=zBH fu) zG8 (by omega) hk h1 hb (fun k y i ys z hi hl hz hy hyl hbz=>?_) (fun k y ys hl=>by rw [zBH,hl,lt_f];rfl)
  have hil:i<ys.length:=by omega
  unfold zDH at hyl
  rw [zBH,lt_t hil,cond_true,zHs hy (by omega) hf,zA6,ck_t (zB9 hil),ck_t (zCP (by omega) (by omega)),ck_t (zCU (by omega)),zHd,zAt]
  rfl
theorem zJE {fu:Nat} {x:List ((Int) × (Int) × (Int) × (List (List UInt8)))} {k:Int} (hw:zCL x≤1048576) (hk:0<k) (h1:k+zEW x≤4294967296) (hf:1048577≤fu):zC7 fu x k=some (k+zEW x,zJ6 x k):=by
  have hw':=hw
  unfold zCL wL at hw'
  unfold zC7
  have hb:∀ z ∈ x,zCH z≤1048576:=fun z hz=>Nat.le_trans (zH1 (f:=zCH) hz) (by omega)
  refine zJ2 (f:=zGu) (c:=zDi) (Bd:=(fun z:(Int) × (Int) × (Int) × (List (List UInt8))=>zCH z≤1048576)) (lim:=4294967296) (L:=zBG fu) zHN (by omega) hk h1 hb (fun k y i ys z hi hl hz hy hyl hbz=>?_) (fun k y ys hl=>by rw [zBG,hl,lt_f];rfl)
  have hil:i<ys.length:=by omega
  unfold zDi at hyl
  have hc3:=zGp (z.2.2.2)
  have hbz':zCH z≤1048576:=hbz
  unfold zCH at hbz'
  rw [zBG,lt_t hil,cond_true]
  have b0:i64B (y+1)=true:=zCP (by omega) (by omega)
  have b1:i64B (y+1+1)=true:=zCP (by omega) (by omega)
  have b2:i64B (y+1+1+1)=true:=zCP (by omega) (by omega)
  have m3:=zH0 (x:=z.2.2.2) (k:=y+1+1+1) (by omega) (by omega) (by omega) hf
  have b:i64B ((i:Int)+1)=true:=zCU (by omega)
  have b':i64B ((i+1:Nat):Int)=true:=b
  simp only [List.length_set,zHd,List.set_set,zB9 hil,zD5,zA6,zAt,zNK hil,zAq hz,b0,b1,b2,m3,b,b',cond_true,cond_false,Bool.not_true,beq_self_eq_true,bne_self_eq_false']
  try simp only [zGu,zDi,Int.add_assoc]
  try rfl
theorem zJO {fu:Nat} {x z:List (List UInt8)} {k:Int} (hz:z=zFQ x k) (hw:zBq x≤1048576) (hk:0<k) (h1:k+zDE x≤4294967296) (hf:1048577≤fu):zBi fu z k=some (k+zDE x):=by
  have hw':=hw
  unfold zBq wL at hw'
  unfold zBi
  have hb:∀ z ∈ x,(fun s:List UInt8=>s.length) z≤1048576:=fun z hz=>Nat.le_trans (zH1 (f:=(fun s:List UInt8=>s.length)) hz) (by omega)
  have hzl:z.length=x.length:=by rw [hz];exact zGt
  refine zLr (f:=zFd) (c:=zDH) (Bd:=(fun z:List UInt8=>(fun s:List UInt8=>s.length) z≤1048576)) (lim:=4294967296) (L:=zBC fu z) hz zG8 (by omega) hk h1 hb (fun k y i u hu hy hyl hbz=>?_) (fun k y=>by rw [zBC,lt_f];rfl)
  have hi:=zD4 hu
  unfold zDH at hyl
  rw [zBC,lt_t hi,cond_true,ck_t (zB9 hi),zHs hy (by omega) hf,zA6,zAq hu,show (zFd u y==mt y)=true from beq_self_eq_true _,Bool.not_true,cond_false,ck_t (zCP (by omega) (by omega)),ck_t (zCU (by omega)),zAt]
  rfl
theorem zGF {fu : Nat} {a0 : List ((Int) × (Int) × (Int) × (List (List UInt8)))} {a1 : Int} (hf : 1048577 ≤ fu) (h0 : (qS (qP qI (qP qI (qP qI (qS qB))))) a0) (h1 : qI a1)
    (hs:zCL a0≤1048576→∃ r:(List (List UInt8)),zAs fu a0 a1=some r∧zAk fu a0 a1=some r∧zBq r≤1048576):zBS fu a0 a1=some true:=by
  unfold zBS
  rw [zKj h0 (by omega) (by omega) hf,zA6]
  by_cases g0:¬ (zCL a0:Int)≤1048576
  · rw [zJB g0,cond_true]
  replace g0:=Classical.not_not.1 g0
  rw [zJ8 g0,cond_false]
  obtain ⟨r,e1,e2,v0⟩:=hs (by omega)
  have t0:zBJ fu a0=some a0:=zKk (by omega) hf
  have q0:zCQ fu a0 a0=some (a0==a0):=zKd (by omega) hf
  have p0:zBR fu r r=some (r==r):=zI5 (by omega) hf
  have c0:=zKi a0
  have d0:=zKf a0
  have m0:zC7 fu a0 (1)=some (1+zEW a0,zJ6 a0 (1)):=zJE (by omega) (by omega) (by omega) hf
  have k0:decide (1+zEW a0<0)=false:=decide_eq_false (by omega)
  have cr0:=zGp r
  have dr0:=zHt r
  have mr0:zBg fu r (1)=some (1+zDE r,zFQ r (1)):=zH0 (by omega) (by omega) (by omega) hf
  have hr0:zBi fu (zFQ r (1)) (1)=some (1+zDE r):=zJO rfl (by omega) (by omega) (by omega) hf
  have kr0:decide (1+zDE r<0)=false:=decide_eq_false (by omega)
  simp only [e1,e2,zA6,zCm,beq_self_eq_true,bne_self_eq_false',Bool.not_true,Bool.not_false,cond_false,cond_true,Bool.true_and,Bool.and_true,Bool.false_or,Bool.or_false,Bool.true_or,Bool.false_and,t0,q0,p0,m0,k0,mr0,hr0,kr0,show (false==false)=true from rfl,show (true==false)=false from rfl,show (false==true)=false from rfl]
end Go.Proofs.YtldppodfhabkjaaGreatDoor
namespace Go.Proofs.YtldppodfhabkjaaGreatDoor
open Go.RowKit
set_option linter.unusedVariables false
theorem zFh {α ρ : Type} {xs : List α} {p : α → Bool} {r : ρ} {L : Nat → Int → Option (Ex ρ Unit)}
    (hs:∀ k (i:Nat) x,xs[i]? = some x→L (k+1) (i:Int)=bif p x then some (.ret r) else L k ((i+1:Nat):Int)) (he:∀ k,L (k+1) (xs.length:Int)=some (.go ())) {fu:Nat} (hf:xs.length<fu) :
    L fu (0:Int)=some (bif xs.any p then .ret r else .go ()):=by
  have key:∀ m i k,i+m=xs.length→m<k→L k ((i:Nat):Int)=some (bif (xs.drop i).any p then .ret r else .go ()):=by
    intro m
    induction m with
    | zero=>
      intro i k hi hk
      obtain ⟨k,rfl⟩:∃ q,k=q+1:=⟨k-1,by omega⟩
      obtain rfl:i=xs.length:=by omega
      rw [he,List.drop_length]
      rfl
    | succ m ih=>
      intro i k hi hk
      obtain ⟨k,rfl⟩:∃ q,k=q+1:=⟨k-1,by omega⟩
      have hx:=List.getElem?_eq_getElem (show i<xs.length by omega)
      rw [hs k i _ hx,zD1 hx,List.any_cons]
      cases p xs[i]
      · exact ih (i+1) k (by omega) (by omega)
      · rfl
  have:=key xs.length 0 fu (by omega) hf
  rwa [show ((0:Nat):Int)=0 from rfl,List.drop_zero] at this
def ixI : Nat → List Bool → Option Nat
  | _,[]=>none
  | i,b::bs=>bif b then some i else ixI (i+1) bs
theorem zIM : ∀ {bs : List Bool} {i j : Nat}, ixI i bs = some j → i ≤ j ∧ bs[j - i]? = some true ∧ ∀ q, q < j - i → bs[q]? = some false
  | [],i,j,h=>by cases h
  | b::bs,i,j,h=>by
    unfold ixI at h
    cases b with
    | true=>
      obtain rfl:=Option.some.inj h
      refine ⟨Nat.le_refl _,by simp,fun q hq=>by omega⟩
    | false=>
      obtain ⟨h1,h2,h3⟩:=zIM (bs:=bs) (i:=i+1) h
      refine ⟨by omega,?_,fun q hq=>?_⟩
      · rw [show j - i = (j - (i + 1)) + 1 by omega, List.getElem?_cons_succ]
        exact h2
      · cases q with
        | zero=>rfl
        | succ q=>rw [List.getElem?_cons_succ];exact h3 q (by omega)
theorem zIl : ∀ {bs : List Bool} {i : Nat}, ixI i bs = none → ∀ b ∈ bs, b = false
  | [],i,h,b,hb=>by cases hb
  | c::bs,i,h,b,hb=>by
    unfold ixI at h
    cases c with
    | true=>cases h
    | false=>
      rcases List.mem_cons.1 hb with rfl | hb
      · rfl
      · exact zIl (bs:=bs) (i:=i+1) h b hb
theorem zM3 {α : Type} {xs : List α} {p : α → Bool} {L : Nat → Int → Option (Ex Int Unit)}
    (hs:∀ k (i:Nat) x,xs[i]? = some x→L (k+1) (i:Int)=bif p x then some (.ret (i:Int)) else L k ((i+1:Nat):Int)) (he:∀ k,L (k+1) (xs.length:Int)=some (.go ())) {fu:Nat} (hf:xs.length<fu) :
    L fu (0:Int)=some (match ixI 0 (xs.map p) with | some i=>.ret (i:Int) | none=>.go ()):=by
  have key:∀ m i k,i+m=xs.length→m<k→L k ((i:Nat):Int)=some (match ixI i ((xs.drop i).map p) with | some i=>.ret (i:Int) | none=>.go ()):=by
    intro m
    induction m with
    | zero=>
      intro i k hi hk
      obtain ⟨k,rfl⟩:∃ q,k=q+1:=⟨k-1,by omega⟩
      obtain rfl:i=xs.length:=by omega
      rw [he,List.drop_length]
      rfl
    | succ m ih=>
      intro i k hi hk
      obtain ⟨k,rfl⟩:∃ q,k=q+1:=⟨k-1,by omega⟩
      have hx:=List.getElem?_eq_getElem (show i<xs.length by omega)
      rw [hs k i _ hx,zD1 hx,List.map_cons,ixI]
      cases p xs[i]
      · exact ih (i+1) k (by omega) (by omega)
      · rfl
  have:=key xs.length 0 fu (by omega) hf
  rwa [show ((0:Nat):Int)=0 from rfl,List.drop_zero] at this
theorem zCs {α σ : Type} {xs : List α} {g : σ → α → σ} {Inv : Nat → σ → Prop} {L : Nat → Int → σ → Option σ}
    (hs:∀ k (i:Nat) a x,xs[i]? = some x→Inv i a→L (k+1) (i:Int) a=L k ((i+1:Nat):Int) (g a x)) (hI:∀ (i:Nat) a x,xs[i]? = some x→Inv i a→Inv (i+1) (g a x))
    (he:∀ k a,Inv xs.length a→L (k+1) (xs.length:Int) a=some a) {a:σ} (h0:Inv 0 a) {fu:Nat} (hf:xs.length<fu) :
    L fu (0:Int) a=some (xs.foldl g a)∧Inv xs.length (xs.foldl g a):=by
  have key:∀ m i k a,i+m=xs.length→m<k→Inv i a→L k ((i:Nat):Int) a=some ((xs.drop i).foldl g a)∧Inv xs.length ((xs.drop i).foldl g a):=by
    intro m
    induction m with
    | zero=>
      intro i k a hi hk ha
      obtain ⟨k,rfl⟩:∃ q,k=q+1:=⟨k-1,by omega⟩
      obtain rfl:i=xs.length:=by omega
      rw [he k a ha,List.drop_length]
      exact ⟨rfl,ha⟩
    | succ m ih=>
      intro i k a hi hk ha
      obtain ⟨k,rfl⟩:∃ q,k=q+1:=⟨k-1,by omega⟩
      have hx:=List.getElem?_eq_getElem (show i<xs.length by omega)
      rw [hs k i a _ hx ha,zD1 hx,List.foldl_cons]
      exact ih (i+1) k _ (by omega) (by omega) (hI i a _ hx ha)
  have:=key xs.length 0 fu a (by omega) hf h0
  rwa [show ((0:Nat):Int)=0 from rfl,List.drop_zero] at this
theorem zCZ {i:Nat} (hn:i≤4294967296):i64B ((i+1:Nat):Int)=true:=zCP (by omega) (by omega)
theorem zLn (i:Nat) (hn:i≤4294967296):i64B (i:Int)=true:=zCP (by omega) (by omega)
theorem lt_0 {n:Nat} (h:0<n):decide ((0:Int)<(n:Int))=true:=decide_eq_true (by omega)
theorem zNW {n:Nat} (h:0<n):inR (0:Int) n=true:=zB9 (i:=0) h
theorem zOO:(0:Int)+1=((1:Nat):Int):=rfl
theorem zNE:i64B ((1:Nat):Int)=true:=rfl
theorem zO6 (i:Nat):((i+1:Nat):Int)-1=(i:Int):=by omega
end Go.Proofs.YtldppodfhabkjaaGreatDoor
namespace Go.Proofs.YtldppodfhabkjaaGreatDoor
open Go.RowKit
set_option linter.unusedVariables false
set_option linter.unusedSimpArgs false
theorem zEL {t:List UInt8} {i:Nat} {c:UInt8} (h:t[i]? = some c):bAt t (i:Int)=(c.toNat:Int):=by
  unfold bAt
  rw [Int.toNat_natCast,List.getD_eq_getElem?_getD,h]
  rfl
def smI (n:Int):Bool:=decide (97≤n)&&decide (n≤122)
def dgI (n:Int):Bool:=decide (48≤n)&&decide (n≤57)
def cpI (n:Int):Bool:=decide (65≤n)&&decide (n≤90)
def zIF (n:Int):Int:=bif cpI n then n+32 else n
theorem zJg (n:Int) (h0:0≤n) (h1:n≤255):IntKind.u8.wrap n=n:=by
  have:n % 256=n:=Int.emod_eq_of_lt h0 (by omega)
  simp [IntKind.wrap,IntKind.bits,this,show IntKind.u8.signed=false from rfl]
theorem zOM {fu:Nat} {t:List UInt8} (hf:t.length<fu) (hl:t.length≤1048576):zBy fu t=some (t.map fun c=>UInt8.ofNat (zIF c.toNat).toNat):=by
  unfold zBy
  have h:=zCs (xs:=t) (g:=fun (a:List Int) (c:UInt8)=>a ++ [zIF c.toNat]) (Inv:=fun i a=>a.length=i) (L:=zBP fu t) (fun k i a c hc ha=>by
    have hi:=zD4 hc
    have hcu:c.toNat<256:=c.toNat_lt
    rw [zBP,lt_t hi,cond_true]
    simp only [zB9 hi,zEL hc,zCm,zD5,List.length_singleton,zAb (show a.length+1≤4294967296 by omega),zCZ (show i≤4294967296 by omega),zAt,zIF,cpI]
    cases hcp:(decide ((65:Int)≤(c.toNat:Int))&&decide ((c.toNat:Int)≤90))
    · rfl
    · simp only [Bool.and_eq_true, decide_eq_true_eq] at hcp
      rw [zJg _ (by omega) (by omega)]
      rfl) (fun i a c hc ha=>by simp [ha]) (fun k a ha=>by rw [zBP,lt_f];rfl) (a:=[]) rfl hf
  rw [h.1,zA6]
  have key:∀ (t:List UInt8) (a:List Int),t.foldl (fun (a:List Int) (c:UInt8)=>a ++ [zIF c.toNat]) a=a++t.map fun c=>zIF c.toNat:=by
    intro t
    induction t with
    | nil=>intro a;simp
    | cons c t ih=>intro a;rw [List.foldl_cons,ih];simp
  rw [key,List.nil_append]
  unfold strB
  rw [List.map_map]
  rfl
def wdI (n:Int):Bool:=(smI n || cpI n) || dgI n
end Go.Proofs.YtldppodfhabkjaaGreatDoor
