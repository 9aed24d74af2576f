/- Own texts laid together. No statement of the seat is proved here. -/
import Derived.Test.YtldppodfhabkjaaGreatDoorZd5
import Derived.Sort.Walk0
import Derived.Lib.Bytealg
import Derived.Lib.SplitLaws
import Derived.Lib.Replace
namespace Go.Proofs.YtldppodfhabkjaaGreatDoor
open Go.RowKit
set_option linter.unusedVariables false
open _root_.Go.Proofs.Tryz
set_option maxRecDepth 100000
set_option maxHeartbeats 4000000
def zAJ (fu : Nat) (y5 : Int) (x13 : Nat) : Nat → Int → Int → (List zA3) → Option (Int × (List zA3))
 | 0,_,_,_=>none
 | k+1,y18,y19,y20=>
 bif (decide (y19<(x13:Int))) then (
 ck (inR y19 x13) <|
 ck (decide (0≤y5)) <|
 ck (inR (y5+y19) y20.length) <|
 ck (i64B (y19-1)) <|
 ck (inR (y19-1) x13) <|
 ck (decide (0≤y5)) <|
 ck (inR (y5+(y19-1)) y20.length) <|
 bif (!((gtD y20 (y5+y19))==(gtD y20 (y5+(y19-1))))) then (
 ck (inR y19 x13) <|
 ck (decide (0≤y5)) <|
 ck (inR (y5+y19) y20.length) <|
 ck (inR y18 y20.length) <|
 ck (i64B (y18+1)) <|
 ck (i64B (y19+1)) <|
 zAJ fu y5 x13 k (y18+1) (y19+1) (y20.set y18.toNat (gtD y20 (y5+y19)))
 ) else (
 ck (i64B (y19+1)) <|
 zAJ fu y5 x13 k y18 (y19+1) y20
 )
 ) else (
 some (y18,y20)
 )
def zAK (fu : Nat) : Nat → Int → (List zA3) → Option (Ex (List zA3) (List zA3))
 | 0,_,_=>none
 | k+1,y5,y6=>
 bif (decide (y5<(y6.length:Int))) then (
 ck (inR y5 y6.length) <|
 ck (i64B (y5-1)) <|
 ck (inR (y5-1) y6.length) <|
 bif ((gtD y6 y5)==(gtD y6 (y5-1))) then (
 ck (subR y5 (y6.length:Int) y6.length) <|
 bd ((y6.length:Int).toNat-y5.toNat) fun x13=>
 cl true (zAJ fu y5 x13 fu y5 1 y6) fun s17=>
 ck (subR s17.1 (s17.2.length:Int) s17.2.length) <|
 bd ((s17.2.length:Int).toNat-s17.1.toNat) fun x40=>
 ck (subR s17.1 s17.2.length s17.2.length) <|
 ck (x40==s17.2.length-s17.1.toNat) <|
 ck (subR 0 s17.1 (s17.2.take s17.1.toNat++List.replicate (s17.2.length-s17.1.toNat) (0,0)).length) <|
 some (Ex.ret (subL (s17.2.take s17.1.toNat++List.replicate (s17.2.length-s17.1.toNat) (0,0)) 0 s17.1))
 ) else (
 ck (i64B (y5+1)) <|
 zAK fu k (y5+1) y6
 )
 ) else (
 some (Ex.go y6)
 )
def zAh (fu:Nat) (p0:List zA3):Option (List zA3):=
 bif (decide ((p0.length:Int)<2)) then (
 some p0
 ) else (
 cl true (zAK fu fu 1 p0) fun rl2=>
 exM rl2 (fun r=>some r) fun s4=>
 some s4
 )
theorem zDA {fu : Nat} {A0 : Av} {p0 : List zA3} {r : List zA3} (c : zAh fu p0 = some r) {w : World} {v0 : Value} {B0 : Nat} (d : AvOK A0 w) (K : ∀ b o, A0 b o → ¬ zAL v0 b) (h0 : (Res.vec B0 48 zA1 p0).ok A0 v0 w) :
 Calls prog 51 #[v0] w fun e w'=>∃ v,e = .returned v∧Took (addA A0 v0) true v0 (.vec B0 48 zA1 r) (fun _=>.any) w v w':=by
 unfold zAh at c
 obtain ⟨w0,hw0,C⟩:=pc d
 have j:Ch (zAL v0) w0 w:=hw0 ▸ Ch.refl _ _
 have hA00:AvOK A0 w0:=C
 rw [show Took (addA A0 v0) true v0 (.vec B0 48 zA1 r) (fun _=>.any) w=Took (addA A0 v0) true v0 (.vec B0 48 zA1 r) (fun _=>.any) w0 from hw0 ▸ Z]
 obtain ⟨A,hAe⟩:∃ A,A=addA A0 v0:=⟨_,Z⟩
 have B:∀ b o,A0 b o→A b o:=fun b o h=>hAe ▸ .inl h
 replace d:AvOK A w:=hAe ▸ d.one h0
 have q:IniOK [ob v0 (.vec B0 48 zA1 p0)] A w:=hAe ▸ IniOK.one h0 (fun _ _ _ _ _ h=>h)
 refine zA7 [.tmp 2] func51 ntmps51 (by decide) Z Z (nb Z) ?_
 intro R hR
 replace h0:R 0=v0:=hR 0 _ Z
 refine HT.seq ?_
 refine HT.t (eA::[]) ?_ ?_
 exact op (fun Q U W H D=>zA0 N)<|oz
 intro R w m n p
 replace h0:=k1 n h0
 replace q:=q.fr m
 replace d:=d.fr m.size
 replace j:=j.tr (m.ch noB) fun _ h=>False.elim h
 refine HT.seq ?_
 refine HT.seq ?_
 refine HT.t (eR v0::eI (p0.length:Int)::eB (decide ((p0.length:Int)<2))::[]) ?_ ?_
 exact om h0<|op (fun Q U W H D=>zBa (q.ok 0 _ Z).1 (D.g 0 Z) underlying39)<|op (fun Q U W H D=>zAZ (D.g 0 Z) Z)<|oz
 intro R w m n p
 replace h0:=k1 n h0
 have h8:=p.r 2 Z
 replace q:=q.fr m
 replace d:=d.fr m.size
 replace j:=j.tr (m.ch noB) fun _ h=>False.elim h
 refine HT.cond (decide ((p0.length:Int)<2)) h8 (fun c1=>?_) (fun c1=>?_)
 have c:=zAH c1 c
 refine HT.seq ?_
 refine HT.t (eR v0::eR v0::[]) ?_ ?_
 exact om h0<|oa<|oz
 intro R w m n p
 have h2:=p.r 1 Z
 replace q:=q.fr m
 replace d:=d.fr m.size
 replace j:=j.tr (m.ch noB) fun _ h=>False.elim h
 refine HT.ret ?_
 obtain rfl:=si c
 exact ⟨.inr Z,[R 2],⟨Z,N⟩,by show Took _ true _ _ _ w0 (R 2) w;rw [h2];exact zDn (fun k h o=>.inr h) j (q.ok 0 _ Z).1 (q.own_ge (⟨.inr (fun k h=>.inr h),N⟩) (i:=0) Z) (fun _ _ _ _ _ h=>h)⟩
 have c:=zAI c1 c
 refine HT.skip ?_
 refine HT.seq ?_
 refine HT.seq ?_
 refine HT.t (eI 1::[]) ?_ ?_
 exact op (fun Q U W H D=>zA0 Z)<|oz
 intro R w m n p
 replace h0:=k1 n h0
 have h3:=p.r 0 Z
 replace q:=q.fr m
 replace d:=d.fr m.size
 replace j:=j.tr (m.ch noB) fun _ h=>False.elim h
 obtain ⟨rl2,q3,c⟩:=zA6 c
 replace q3:=q3 Z
 refine HT.cut0 (fun R w=>∃ A:Av,∃ (s4:(List zA3)),rl2=Ex.go s4∧AvOK A w∧Ch (zAL v0) w0 w∧(∀ b o,A0 b o→A b o)∧IniOK [ob v0 (.vec B0 48 zA1 s4)] A w∧R 0=v0) ?_ ?_
 refine HT.block ?_
 refine HT.loop (fun k R w=>∃ A:Av,∃ (y5:Int) (y6:List zA3),zAK fu k y5 y6=some rl2∧AvOK A w∧Ch (zAL v0) w0 w∧(∀ b o,A0 b o→A b o)∧IniOK [ob v0 (.vec B0 48 zA1 y6)] A w∧R 0=v0∧R 3 = .int .i64 y5) fu ⟨_,_,_,q3,d,j,B,q,h0,h3⟩ ?_
 have hr0:=c;clear c q3
 rintro k R w ⟨A,y5,y6,c,d,j,B,q,h0,h3⟩
 rcases k with _ | k
 cases (show none=some _ from c)
 rw [zAK] at c
 refine HT.seq ?_
 refine HT.seq ?_
 refine HT.t (eI y5::eR v0::eI (y6.length:Int)::eB (decide (y5<(y6.length:Int)))::[]) ?_ ?_
 exact om h3<|om h0<|op (fun Q U W H D=>zBa (q.ok 0 _ Z).1 (D.g 0 Z) underlying39)<|op (fun Q U W H D=>zAZ (D.g 0 Z) (D.g 1 Z))<|oz
 intro R w m n p
 obtain ⟨h0,h3⟩:=k2 n h0 h3
 have h13:=p.r 3 Z
 replace q:=q.fr m
 replace d:=d.fr m.size
 replace j:=j.tr (m.ch noB) fun _ h=>False.elim h
 refine HT.cond (decide (y5<(y6.length:Int))) h13 (fun c7=>?_) (fun c7=>?_)
 have c:=zAH c7 c
 refine HT.skip ?_
 refine HT.seq ?_
 refine HT.block ?_
 refine HT.seq ?_
 obtain ⟨e8,e9,e10,c⟩:=ck3 c
 refine HT.draw (by kernel_rfl) (l:=eR v0::eI y5::eR (vptr v0 (y5.toNat*2))::eF (.rep zA1 A (gtD y6 y5))::eR v0::eI y5::eI (y5-1)::eR (vptr v0 ((y5-1).toNat*2))::eF (.rep zA1 A (gtD y6 (y5-1)))::eB ((gtD y6 y5)==(gtD y6 (y5-1)))::[]) (tl:=[]) (by kernel_rfl) (by kernel_rfl) (by kernel_rfl) (by kernel_rfl) ?_ ?_
 exact om h0<|om h3<|op (fun Q U W H D=>zAR (q.ok 0 _ Z).1 (D.g 0 Z) (D.g 1 Z) underlying39 sizeOf48 e8 Z)<|op (fun Q U W H D=>(zBD ((q.fr W).ok 0 _ Z).1 (D.g 0 Z) e8 Z (Fld.id _) Z isAgg48 sizeOf48))<|om h0<|om h3<|op (fun Q U W H D=>zFQ (D.g 0 Z) Z e9)<|op (fun Q U W H D=>zAR (q.ok 0 _ Z).1 (D.g 0 Z) (D.g 1 Z) underlying39 sizeOf48 e10 Z)<|op (fun Q U W H D=>(zBD ((q.fr W).ok 0 _ Z).1 (D.g 0 Z) e10 Z (Fld.id _) Z isAgg48 sizeOf48))<|op (fun Q U W H D=>zHC eqGuardType48 (zCy (D.g 0 Z)) (zCy (D.g 1 Z)) (zOV (gtD y6 y5) (gtD y6 (y5-1)) _))<|oz
 intro R w m n p
 obtain ⟨h0,h3⟩:=k2 n h0 h3
 have h25:=p.r 9 Z
 replace q:=q.fr m
 replace d:=d.fr m.size
 replace j:=j.tr (m.ch noB) fun _ h=>False.elim h
 refine HT.cond ((gtD y6 y5)==(gtD y6 (y5-1))) h25 (fun c11=>?_) (fun c11=>?_)
 have c:=zAH c11 c
 refine HT.seq ?_
 obtain ⟨e12,c⟩:=zA5 c
 obtain ⟨x13,q14,c⟩:=zAU c
 refine HT.t (eR v0::eI y5::eR (vsub v0 y5.toNat x13 2)::eR (vsub v0 y5.toNat x13 2)::[]) ?_ ?_
 exact om h0<|om h3<|op (fun Q U W H D=>(q14 ▸ zHP (q.ok 0 _ Z).1 (D.g 0 Z) (D.g 1 Z) underlying39 sizeOf48 e12))<|oa<|oz
 intro R w m n p
 obtain ⟨h0,h3⟩:=k2 n h0 h3
 have h4:=p.r 3 Z
 replace q:=q.fr m
 replace d:=d.fr m.size
 replace j:=j.tr (m.ch noB) fun _ h=>False.elim h
 refine HT.seq ?_
 refine HT.seq ?_
 refine HT.t (eI 1::[]) ?_ ?_
 exact op (fun Q U W H D=>zA0 Z)<|oz
 intro R w m n p
 obtain ⟨h0,h3,h4⟩:=k3 n h0 h3 h4
 have h5:=p.r 0 Z
 replace q:=q.fr m
 replace d:=d.fr m.size
 replace j:=j.tr (m.ch noB) fun _ h=>False.elim h
 obtain ⟨rl15,q16,c⟩:=zA6 c
 replace q16:=q16 Z
 refine HT.cut0 (fun R w=>∃ A:Av,∃ (s17:Int × (List zA3)),rl15=s17∧AvOK A w∧Ch (zAL v0) w0 w∧(∀ b o,A0 b o→A b o)∧IniOK [ob v0 (.vec B0 48 zA1 s17.2)] A w∧R 0=v0∧R 3 = .int .i64 s17.1) ?_ ?_
 refine HT.block ?_
 refine HT.loop (fun k R w=>∃ A:Av,∃ (y18:Int) (y19:Int) (y20:List zA3),zAJ fu y5 x13 k y18 y19 y20=some rl15∧AvOK A w∧Ch (zAL v0) w0 w∧(∀ b o,A0 b o→A b o)∧IniOK [ob v0 (.vec B0 48 zA1 y20)] A w∧R 0=v0∧R 3 = .int .i64 y18∧R 4=(vsub v0 y5.toNat x13 2)∧R 5 = .int .i64 y19) fu ⟨_,_,_,_,q16,d,j,B,q,h0,h3,h4,h5⟩ ?_
 have hr1:=c;clear c q16
 rintro k R w ⟨A,y18,y19,y20,c,d,j,B,q,h0,h3,h4,h5⟩
 rcases k with _ | k
 cases (show none=some _ from c)
 rw [zAJ] at c
 refine HT.seq ?_
 refine HT.seq ?_
 refine HT.t (eI y19::eR (vsub v0 y5.toNat x13 2)::eI (x13:Int)::eB (decide (y19<(x13:Int)))::[]) ?_ ?_
 exact om h5<|om h4<|op (fun Q U W H D=>zI4 (q.ok 0 _ Z).1 (D.g 0 Z) underlying39)<|op (fun Q U W H D=>zAZ (D.g 0 Z) (D.g 1 Z))<|oz
 intro R w m n p
 obtain ⟨h0,h3,h4,h5⟩:=k4 n h0 h3 h4 h5
 have h32:=p.r 3 Z
 replace q:=q.fr m
 replace d:=d.fr m.size
 replace j:=j.tr (m.ch noB) fun _ h=>False.elim h
 refine HT.cond (decide (y19<(x13:Int))) h32 (fun c21=>?_) (fun c21=>?_)
 have c:=zAH c21 c
 refine HT.skip ?_
 refine HT.seq ?_
 refine HT.block ?_
 refine HT.seq ?_
 obtain ⟨e22,e23,e24,e25,c⟩:=ck4 c
 obtain ⟨e26,e27,e28,c⟩:=ck3 c
 refine HT.draw (by kernel_rfl) (l:=eR (vsub v0 y5.toNat x13 2)::eI y19::eR (vptr v0 ((y5+y19).toNat*2))::eF (.rep zA1 A (gtD y20 (y5+y19)))::eR (vsub v0 y5.toNat x13 2)::eI y19::eI (y19-1)::eR (vptr v0 ((y5+(y19-1)).toNat*2))::eF (.rep zA1 A (gtD y20 (y5+(y19-1))))::eB (!((gtD y20 (y5+y19))==(gtD y20 (y5+(y19-1)))))::[]) (tl:=[]) (by kernel_rfl) (by kernel_rfl) (by kernel_rfl) (by kernel_rfl) ?_ ?_
 exact om h4<|om h5<|op (fun Q U W H D=>zCa (q.ok 0 _ Z).1 (D.g 0 Z) (D.g 1 Z) underlying39 sizeOf48 e22 e23 e24 Z)<|op (fun Q U W H D=>(zBD ((q.fr W).ok 0 _ Z).1 (D.g 0 Z) e24 Z (Fld.id _) Z isAgg48 sizeOf48))<|om h4<|om h5<|op (fun Q U W H D=>zFQ (D.g 0 Z) Z e25)<|op (fun Q U W H D=>zCa (q.ok 0 _ Z).1 (D.g 0 Z) (D.g 1 Z) underlying39 sizeOf48 e26 e27 e28 Z)<|op (fun Q U W H D=>(zBD ((q.fr W).ok 0 _ Z).1 (D.g 0 Z) e28 Z (Fld.id _) Z isAgg48 sizeOf48))<|op (fun Q U W H D=>zJZ eqGuardType48 (zCy (D.g 0 Z)) (zCy (D.g 1 Z)) (zPw (gtD y20 (y5+y19)) (gtD y20 (y5+(y19-1))) _))<|oz
 intro R w m n p
 obtain ⟨h0,h3,h4,h5⟩:=k4 n h0 h3 h4 h5
 have h44:=p.r 9 Z
 replace q:=q.fr m
 replace d:=d.fr m.size
 replace j:=j.tr (m.ch noB) fun _ h=>False.elim h
 refine HT.cond (!((gtD y20 (y5+y19))==(gtD y20 (y5+(y19-1))))) h44 (fun c29=>?_) (fun c29=>?_)
 have c:=zAH c29 c
 obtain ⟨e30,e31,e32,e33,c⟩:=ck4 c
 refine HT.sx [ob v0 (.vec B0 48 zA1 y20)] (rR v0::rI y18::rR (vsub v0 y5.toNat x13 2)::rI y19::rR (vptr v0 ((y5+y19).toNat*2))::(rF fun A=>.rep zA1 A (gtD y20 (y5+y19)))::rR (vptr v0 (y18.toNat*2))::⟨_,true,[0],some (.vec B0 48 zA1 (y20.set y18.toNat (gtD y20 (y5+y19)))),false,fun A=>.any⟩::[]) (ur (ur (ur (ur (ur (up (ur (ua (UAll.nil))))))))) q d ?_ ?_
 exact rm h0<|rm h3<|rm h4<|rm h5<|rp (fun V Q U O D=>zCa (q.ok 0 _ Z).1 (D.g 0 Z) (D.g 1 Z) underlying39 sizeOf48 e30 e31 e32 Z)<|rp (fun V Q U O D=>(zBD (O.rd 0 _ Z Z) (D.g 0 Z) e32 Z (Fld.id _) Z isAgg48 sizeOf48))<|rp (fun V Q U O D=>zAR (q.ok 0 _ Z).1 (D.g 0 Z) (D.g 1 Z) underlying39 sizeOf48 e33 Z)<|rc (OblR.took 0 _ _ Z Z Z Z Z fun V Q U O D u X Y J L M=>by have a0:Q 51=(vptr v0 (y18.toNat*2)):=D.g 0 Z;have a1:Rep zA1 V U (Q 50) (gtD y20 (y5+y19)):=D.g 1 Z;obtain rfl:=J _ Z;exact zE1 a1 X Y a0 e33 Z (FldS.id _) sizeOf48 Z)<|rz
 intro done ρ σ A R w y s
 obtain ⟨h0,h3,h4,h5⟩:=k4 s.rg h0 h3 h4 h5
 have z34:=s.inivR 0 Z
 have z35:=s.on y 8 7 Z Z Z Z Z z34
 replace B:=s.lowK B C K (q.geK (⟨.inr (fun k h=>.inr h),N⟩))
 replace j:Ch (zAL v0) w0 w:=j.tr s.ch (q.geK (⟨.inr (fun k h=>.inr h),N⟩))
 replace q:=s.left y [(8,ob v0 (.vec B0 48 zA1 (y20.set y18.toNat (gtD y20 (y5+y19)))))] ⟨Z,Z,z35,Z,Z,N⟩
 replace d:=s.avok
 obtain ⟨e36,c⟩:=zA5 c
 refine HT.t (eI y18::eI (y18+1)::eI (y18+1)::[]) ?_ ?_
 exact om h3<|op (fun Q U W H D=>zAP (D.g 0 Z) Z e36)<|oa<|oz
 intro R w m n p
 obtain ⟨h0,h4,h5⟩:=k3 n h0 h4 h5
 have h3:=p.r 2 Z
 replace q:=q.fr m
 replace d:=d.fr m.size
 replace j:=j.tr (m.ch noB) fun _ h=>False.elim h
 obtain ⟨e37,c⟩:=zA5 c
 refine HT.t (eI y19::eI (y19+1)::eI (y19+1)::[]) ?_ ?_
 exact om h5<|op (fun Q U W H D=>zAP (D.g 0 Z) Z e37)<|oa<|oz
 intro R w m n p
 obtain ⟨h0,h3,h4⟩:=k3 n h0 h3 h4
 have h5:=p.r 2 Z
 replace q:=q.fr m
 replace d:=d.fr m.size
 replace j:=j.tr (m.ch noB) fun _ h=>False.elim h
 exact ei k (And.intro (Nat.lt_succ_self k) ⟨_,_,_,_,c,d,j,B,q,h0,h3,h4,h5⟩)
 have c:=zAI c29 c
 refine HT.skip ?_
 obtain ⟨e38,c⟩:=zA5 c
 refine HT.t (eI y19::eI (y19+1)::eI (y19+1)::[]) ?_ ?_
 exact om h5<|op (fun Q U W H D=>zAP (D.g 0 Z) Z e38)<|oa<|oz
 intro R w m n p
 obtain ⟨h0,h3,h4⟩:=k3 n h0 h3 h4
 have h5:=p.r 2 Z
 replace q:=q.fr m
 replace d:=d.fr m.size
 replace j:=j.tr (m.ch noB) fun _ h=>False.elim h
 exact ei k (And.intro (Nat.lt_succ_self k) ⟨_,_,_,_,c,d,j,B,q,h0,h3,h4,h5⟩)
 have c:=zAI c21 c
 refine HT.exit ?_
 obtain rfl:=si c
 exact ei _ ⟨_,Z,d,j,B,q,h0,h3⟩
 rintro R w ⟨A,s17,es,d,j,B,q,h0,h3⟩
 obtain rfl:=es.symm
 refine HT.seq ?_
 obtain ⟨e39,c⟩:=zA5 c
 obtain ⟨x40,q41,c⟩:=zAU c
 obtain ⟨e42,e43,c⟩:=ck2 c
 refine HT.x [ob v0 (.vec B0 48 zA1 s17.2)] (rR v0::rI s17.1::rR (vsub v0 s17.1.toNat x40 2)::⟨_,true,[0],some (.vec B0 48 zA1 (s17.2.take s17.1.toNat++List.replicate (s17.2.length-s17.1.toNat) (0,0))),false,fun A=>.any⟩::[]) (ur (ur (ur (ua (UAll.nil))))) q d ?_ ?_
 exact rm h0<|rm h3<|rp (fun V Q U O D=>(q41 ▸ zHP (q.ok 0 _ Z).1 (D.g 0 Z) (D.g 1 Z) underlying39 sizeOf48 e39))<|rc (OblR.took 0 _ _ Z Z Z Z Z fun V Q U O D u X Y J L M=>by have a0:Q 56=(vsub v0 s17.1.toNat x40 2):=D.g 0 Z;obtain rfl:=J _ Z;exact zJB a0 X Y underlying39 Z zeroValue48 (fun A w=>zHd zCJ zCJ) e42 e43 Z)<|rz
 intro done ρ σ A R w y s
 obtain ⟨h0,h3⟩:=k2 s.rg h0 h3
 have z44:=s.inivR 0 Z
 have z45:=s.on y 4 3 Z Z Z Z Z z44
 replace B:=s.lowK B C K (q.geK (⟨.inr (fun k h=>.inr h),N⟩))
 replace j:Ch (zAL v0) w0 w:=j.tr s.ch (q.geK (⟨.inr (fun k h=>.inr h),N⟩))
 replace q:=s.left y [(4,ob v0 (.vec B0 48 zA1 (s17.2.take s17.1.toNat++List.replicate (s17.2.length-s17.1.toNat) (0,0))))] ⟨Z,Z,z45,Z,Z,N⟩
 replace d:=s.avok
 obtain ⟨e46,c⟩:=zA5 c
 refine HT.sx [ob v0 (.vec B0 48 zA1 (s17.2.take s17.1.toNat++List.replicate (s17.2.length-s17.1.toNat) (0,0)))] (rR v0::rI s17.1::⟨_,true,[0],some (.vec B0 48 zA1 (subL (s17.2.take s17.1.toNat++List.replicate (s17.2.length-s17.1.toNat) (0,0)) 0 s17.1)),true,fun A=>.any⟩::⟨_,true,[3],some (.vec B0 48 zA1 (subL (s17.2.take s17.1.toNat++List.replicate (s17.2.length-s17.1.toNat) (0,0)) 0 s17.1)),true,fun A=>.any⟩::[]) (ur (ur (ua (ua (UAll.nil))))) q d ?_ ?_
 exact rm h0<|rm h3<|rc (OblR.took 0 _ _ Z Z Z Z Z fun V Q U O D u X Y J L M=>by have a0:Q 57=v0:=D.g 0 Z;have a1:Q 58 = .int .i64 s17.1:=D.g 1 Z;exact zI8 (a0.trans (J _ Z).symm) X Y a1 underlying39 sizeOf48 e46 Z)<|rc (OblR.took 3 _ _ Z Z Z Z Z fun V Q U O D u X Y J L M=>by exact zAA (L _ _ Z Z Z Z).symm X Y)<|rz
 intro done ρ σ A R w y s
 obtain ⟨u47,e_u47⟩:∃ u,ρ 4=u:=⟨_,Z⟩
 have h2:=s.ov y 4 3 e_u47
 have hK_u47:∀ k,zAL u47 k→w0.heap.size≤k∨(zAL v0) k:=s.geK y 4 Z Z Z e_u47 (q.geK (⟨.inr (fun k h=>.inr h),N⟩)) j.size
 replace B:=s.lowK B C K (q.geK (⟨.inr (fun k h=>.inr h),N⟩))
 replace j:Ch (zAL v0) w0 w:=j.tr s.ch (q.geK (⟨.inr (fun k h=>.inr h),N⟩))
 replace q:=s.left y [(4,ob u47 (.vec B0 48 zA1 (subL (s17.2.take s17.1.toNat++List.replicate (s17.2.length-s17.1.toNat) (0,0)) 0 s17.1)))] ⟨Z,Z,e_u47,Z,Z,N⟩
 replace d:=s.avok
 obtain ⟨Yg47,g_Yg47⟩:∃ z:List zA3,z=(subL (s17.2.take s17.1.toNat++List.replicate (s17.2.length-s17.1.toNat) (0,0)) 0 s17.1):=⟨_,Z⟩
 rw [← g_Yg47] at q
 try rw [← g_Yg47] at c
 refine HT.ret ?_
 obtain rfl:=si c
 have c:=hr0
 replace c:some _=some _:=c
 obtain rfl:=si c
 exact ⟨.inr Z,[R 2],⟨Z,N⟩,by show Took _ true _ _ _ w0 (R 2) w;rw [h2];exact zDn (fun k h o=>.inr h) j (q.ok 0 _ Z).1 (q.own_ge (⟨.inr hK_u47,N⟩) (i:=0) Z) (fun _ _ _ _ _ h=>h)⟩
 have c:=zAI c11 c
 refine HT.skip ?_
 obtain ⟨e49,c⟩:=zA5 c
 refine HT.t (eI y5::eI (y5+1)::eI (y5+1)::[]) ?_ ?_
 exact om h3<|op (fun Q U W H D=>zAP (D.g 0 Z) Z e49)<|oa<|oz
 intro R w m n p
 replace h0:=k1 n h0
 have h3:=p.r 2 Z
 replace q:=q.fr m
 replace d:=d.fr m.size
 replace j:=j.tr (m.ch noB) fun _ h=>False.elim h
 exact ei k (And.intro (Nat.lt_succ_self k) ⟨_,_,_,c,d,j,B,q,h0,h3⟩)
 have c:=zAI c7 c
 refine HT.exit ?_
 obtain rfl:=si c
 exact ei _ ⟨_,Z,d,j,B,q,h0⟩
 rintro R w ⟨A,s4,rfl,d,j,B,q,h0⟩
 have c:=zES c
 refine HT.seq ?_
 refine HT.t (eR v0::eR v0::[]) ?_ ?_
 exact om h0<|oa<|oz
 intro R w m n p
 have h2:=p.r 1 Z
 replace q:=q.fr m
 replace d:=d.fr m.size
 replace j:=j.tr (m.ch noB) fun _ h=>False.elim h
 refine HT.ret ?_
 obtain rfl:=si c
 exact ⟨.inr Z,[R 2],⟨Z,N⟩,by show Took _ true _ _ _ w0 (R 2) w;rw [h2];exact zDn (fun k h o=>.inr h) j (q.ok 0 _ Z).1 (q.own_ge (⟨.inr (fun k h=>.inr h),N⟩) (i:=0) Z) (fun _ _ _ _ _ h=>h)⟩
def zBG (fu : Nat) (x2 : List zAE) (y8 : Int) (y21 : Int) : Nat → Int → (List zA3) → Option (List zA3)
 | 0,_,_=>none
 | k+1,y31,y32=>
 bif (decide (y31<((subL ((gtD x2 y8).2) (y21+1) (((gtD x2 y8).2).length:Int)).length:Int))) then (
 ck (inR y31 (subL ((gtD x2 y8).2) (y21+1) (((gtD x2 y8).2).length:Int)).length) <|
 ck (zBH (y32.length+([((gtD ((gtD x2 y8).2) y21),(gtD (subL ((gtD x2 y8).2) (y21+1) (((gtD x2 y8).2).length:Int)) y31))]:List zA3).length)) <|
 ck (i64B (y31+1)) <|
 zBG fu x2 y8 y21 k (y31+1) (y32++([((gtD ((gtD x2 y8).2) y21),(gtD (subL ((gtD x2 y8).2) (y21+1) (((gtD x2 y8).2).length:Int)) y31))]:List zA3))
 ) else (
 some y32
 )
def zAr (fu : Nat) (x2 : List zAE) (y8 : Int) : Nat → Int → (List zA3) → Option (List zA3)
 | 0,_,_=>none
 | k+1,y21,y22=>
 bif (decide (y21<(((gtD x2 y8).2).length:Int))) then (
 ck (inR y21 ((gtD x2 y8).2).length) <|
 ck (i64B (y21+1)) <|
 ck (subR (y21+1) (((gtD x2 y8).2).length:Int) ((gtD x2 y8).2).length) <|
 cl true (zBG fu x2 y8 y21 fu 0 y22) fun s30=>
 ck (i64B (y21+1)) <|
 zAr fu x2 y8 k (y21+1) s30
 ) else (
 some y22
 )
def zAi (fu : Nat) (p1 : Int) (x2 : List zAE) : Nat → Int → (List zA3) → Option (List zA3)
 | 0,_,_=>none
 | k+1,y8,y9=>
 bif (decide (y8<(x2.length:Int))) then (
 ck (inR y8 x2.length) <|
 bif (decide (p1<(((gtD x2 y8).2).length:Int))) then (
 ck (i64B (y8+1)) <|
 zAi fu p1 x2 k (y8+1) y9
 ) else (
 cl true (zAr fu x2 y8 fu 0 y9) fun s20=>
 ck (i64B (y8+1)) <|
 zAi fu p1 x2 k (y8+1) s20
 )
 ) else (
 some y9
 )
def zBU (fu:Nat) (p0:List zA4) (p1:Int):Option (List zA3):=
 cl true (zCQ fu p0) fun x2=>
 cl true (zAi fu p1 x2 fu 0 ([]:List zA3)) fun s7=>
 cl true (zJs fu s7 (fun x y=>zGV fu x y)) fun x42=>
 cl true (zAh fu x42) fun x46=>
 some x46
set_option linter.unusedSimpArgs false in
theorem zEp {fu : Nat} {A0 : Av} {p0 : List zA4} {p1 : Int} {r : List zA3} (c : zBU fu p0 p1 = some r) {w : World} {v0 : Value} {v1 : Value} (d : AvOK A0 w) (hG : GTab w) (h0 : Rep (eSl zA2) A0 w v0 p0) (h1 : v1 = .int .i64 p1) :
 Calls prog 25 #[v0,v1] w fun e w'=>∃ v,e = .returned v∧((Res.vec w.heap.size 48 zA1 r).ok (addA A0 v) v w'∧Fr w w'):=by
 unfold zBU at c
 obtain ⟨w0,hw0,j,C⟩:=pw d
 have hA00:AvOK A0 w0:=C
 rw [fh hw0]
 rw [fw hw0]
 have hG0:GTab w0:=hw0 ▸ hG
 obtain ⟨A,hAe,B,d,q⟩:=pa d
 refine zA7 [.tmp 4] func25 ntmps25 (by decide) Z Z (nb Z) ?_
 intro R hR
 have f_v0:Rep (eSl zA2) A w v0 p0:=hAe ▸ h0
 replace h0:R 0=v0:=hR 0 _ Z
 replace h1:R 1 = .int .i64 p1:=(hR 1 _ Z).trans h1
 refine HT.su d j (eA::[]) ?_ ?_
 exact op (fun Q U W H D=>zA0 N)<|oz
 intro R w m n p d j
 obtain ⟨h0,h1⟩:=k2 n h0 h1
 replace f_v0:=f_v0.fr m
 replace q:=q.fr m
 refine HT.su d j (eR (.slice none 0 0)::[]) ?_ ?_
 exact op (fun Q U W H D=>zA0 Z)<|oz
 intro R w m n p d j
 obtain ⟨h0,h1⟩:=k2 n h0 h1
 obtain ⟨u1,n_u1⟩:∃ u,u=Value.slice none 0 0:=⟨_,Z⟩
 have h5:R 5=u1:=(p 0 _ _ Z Z Z).trans n_u1.symm
 replace f_v0:=f_v0.fr m
 replace q:=q.fr m
 replace q:=q.nilcons (u:=u1) n_u1 w0.heap.size 48 zA1
 refine HT.seq ?_
 obtain ⟨x2,q3,c⟩:=zA6 c
 refine HT.su d j (eR v0::eF (.rep (eSl zAB) A x2)::eI (x2.length:Int)::eI 0::[]) ?_ ?_
 exact om h0<|op (fun Q U W H D=>zAF call11 (zFl (q3 Z) (d.fr W.size) (hG0.fr (j.trans W)) ((f_v0.fr W).eq (D.g 0 Z))))<|op (fun Q U W H D=>zAO (aT:=#[]) (D.g 0 Z) underlying24)<|op (fun Q U W H D=>zBr Z)<|oz
 intro R w m n p d j
 obtain ⟨h1,h5⟩:=k2 n h1 h5
 obtain ⟨u4,h13,f_u4⟩:∃ u,R 13=u∧Rep (eSl zAB) A w u x2:=⟨_,Z,p 1 _ _ Z Z Z⟩
 have h14:=p.r 2 Z
 have h15:=p.r 3 Z
 replace q:=q.fr m
 obtain ⟨rl5,q6,c⟩:=zA6 c
 replace q6:=q6 Z
 refine HT.cut0 (fun R w=>∃ A:Av,∃ (s7:(List zA3)) (uo_u1:Value),rl5=s7∧AvOK A w∧Fr w0 w∧(∀ b o,A0 b o→A b o)∧IniOK [ob uo_u1 (.vec w0.heap.size 48 zA1 s7)] A w∧R 5=uo_u1) ?_ ?_
 refine HT.block ?_
 refine HT.loop (fun k R w=>∃ A:Av,∃ (y8:Int) (y9:List zA3) (ul_u1:Value),zAi fu p1 x2 k y8 y9=some rl5∧AvOK A w∧Fr w0 w∧(∀ b o,A0 b o→A b o)∧IniOK [ob ul_u1 (.vec w0.heap.size 48 zA1 y9)] A w∧R 1 = .int .i64 p1∧R 5=ul_u1∧R 13=u4∧R 14 = .int .i64 (x2.length:Int)∧R 15 = .int .i64 y8∧Rep (eSl zAB) A w u4 x2) fu ⟨_,_,_,u1,q6,d,j,B,q,h1,h5,h13,h14,h15,f_u4⟩ ?_
 have hr0:=c;clear c q6
 rintro k R w ⟨A,y8,y9,ul_u1,c,d,j,B,q,h1,h5,h13,h14,h15,f_u4⟩
 rcases k with _ | k
 cases (show none=some _ from c)
 rw [zAi] at c
 refine HT.su d j (eB (decide (y8<(x2.length:Int)))::[]) ?_ ?_
 exact op (fun Q U W H D=>zAZ ((H 15 Z).trans h15) ((H 14 Z).trans h14))<|oz
 intro R w m n p d j
 obtain ⟨h1,h5,h13,h14,h15⟩:=k5 n h1 h5 h13 h14 h15
 have h16:=p.r 0 Z
 replace f_u4:=f_u4.fr m
 replace q:=q.fr m
 refine HT.seq ?_
 refine HT.cond (decide (y8<(x2.length:Int))) h16 (fun c10=>?_) (fun c10=>?_)
 have c:=zAH c10 c
 refine HT.skip ?_
 refine HT.seq ?_
 refine HT.block ?_
 obtain ⟨e11,c⟩:=zA5 c
 refine HT.sx [ob ul_u1 (.vec w0.heap.size 48 zA1 y9)] ((rF fun A=>.qtr zAB A (gtD x2 y8))::(rF fun A=>.rep zAB A (gtD x2 y8))::⟨_,true,[],some (.box w0.heap.size 54 zAB (([]:List UInt8),([]:List Int))),true,fun A=>.any⟩::⟨_,true,[3],some (.box w0.heap.size 54 zAB (gtD x2 y8)),false,fun A=>.any⟩::[]) (UAll.cons zET (up (ua (ua (UAll.nil))))) q d ?_ ?_
 exact rp (fun V Q U O D=>zAC ((f_u4.stp O.stp).eq ((O.old 13 Z).trans h13)) ((O.old 15 Z).trans h15) underlying24 sizeOf54 e11)<|rp (fun V Q U O D=>(zAe (QRep.ptr (D.g 0 Z)) isAgg54 sizeOf54))<|rc (OblR.made _ Z Z Z Z fun V Q U O D=>by exact zIq zeroValue54 (fun A w=>zHd (zHz Z (by decide)) zI1) (Nat.le_trans j.size O.ch.size))<|rc (OblR.took 3 _ _ Z Z Z Z Z fun V Q U O D u X Y J L M=>by have a1:Rep zAB V U (Q 18) (gtD x2 y8):=D.g 1 Z;obtain ⟨b,hb,hB',hbx⟩:=X;have hop':=L _ _ Z Z Z Z;exact zIo a1 (hop'.symm.trans hb) hb ⟨b,hb,hB',hbx⟩ Y (FldS.id _) sizeOf54 Z)<|rz
 intro done ρ σ A R w y s
 obtain ⟨h1,h5,h13,h14,h15⟩:=k5 s.rg h1 h5 h13 h14 h15
 have z12:=s.inivR 0 Z
 obtain ⟨b7_12,e_b7_12⟩:=s.boxv y 4 Z Z
 have z14:=(s.opnR y 4 3 Z Z Z Z Z).symm.trans e_b7_12
 have h7:=s.ov y 3 2 z14
 replace f_u4:=f_u4.stp s.stp
 obtain ⟨B,j,d⟩:=s.s B C j q ⟨Z,N⟩
 replace q:=s.left y [(0,ob ul_u1 (.vec w0.heap.size 48 zA1 y9)),(4,ob (.pointer (some ⟨b7_12,0,none⟩)) (.box w0.heap.size 54 zAB (gtD x2 y8)))] ⟨Z,Z,z12,Z,Z,⟨Z,Z,e_b7_12,Z,Z,N⟩⟩
 refine HT.seq ?_
 refine HT.su d j (eR (.pointer (some ⟨b7_12,1,none⟩))::eF (.rep (eSl (eInt .i64)) A ((gtD x2 y8).2))::eI (((gtD x2 y8).2).length:Int)::eI p1::eB (decide (p1<(((gtD x2 y8).2).length:Int)))::[]) ?_ ?_
 exact op (fun Q U W H D=>zA9 ((H 7 Z).trans h7) zHK sizeOf52 (by decide) Z)<|op (fun Q U W H D=>(zAG ((q.fr W).ok 1 _ Z).1 (D.g 0 Z) zEK Z isAgg52 sizeOf52))<|op (fun Q U W H D=>zAO (aT:=#[]) (D.g 0 Z) underlying52)<|om h1<|op (fun Q U W H D=>zEh (D.g 0 Z) (D.g 1 Z))<|oz
 intro R w m n p d j
 obtain ⟨h1,h5,h7,h13,h14,h15⟩:=k6 n h1 h5 h7 h13 h14 h15
 have h23:=p.r 4 Z
 replace f_u4:=f_u4.fr m
 replace q:=q.fr m
 refine HT.cond (decide (p1<(((gtD x2 y8).2).length:Int))) h23 (fun c15=>?_) (fun c15=>?_)
 have c:=zAH c15 c
 refine HT.exit ?_
 obtain ⟨e16,c⟩:=zA5 c
 refine HT.u d j (eI (y8+1)::eI (y8+1)::[]) ?_ ?_
 exact op (fun Q U W H D=>zAP ((H 15 Z).trans h15) Z e16)<|ov<|oz
 intro R w m n p d j
 obtain ⟨h1,h5,h13,h14⟩:=k4 n h1 h5 h13 h14
 have h15:=p.r 1 Z
 replace f_u4:=f_u4.fr m
 replace q:=q.fr m
 replace q:IniOK [ob ul_u1 (.vec w0.heap.size 48 zA1 y9)] A w:=q.sub [(0,ob ul_u1 (.vec w0.heap.size 48 zA1 y9))] ⟨Z,Z,N⟩
 exact ei k (And.intro (Nat.lt_succ_self k) ⟨_,_,_,ul_u1,c,d,j,B,q,h1,h5,h13,h14,h15,f_u4⟩)
 have c:=zAI c15 c
 refine HT.skip ?_
 refine HT.su d j (eR (.pointer (some ⟨b7_12,1,none⟩))::eF (.rep (eSl (eInt .i64)) A ((gtD x2 y8).2))::eI (((gtD x2 y8).2).length:Int)::eI 0::[]) ?_ ?_
 exact op (fun Q U W H D=>zA9 ((H 7 Z).trans h7) zHK sizeOf52 (by decide) Z)<|op (fun Q U W H D=>(zAG ((q.fr W).ok 1 _ Z).1 (D.g 0 Z) zEK Z isAgg52 sizeOf52))<|op (fun Q U W H D=>zAO (aT:=#[]) (D.g 0 Z) underlying52)<|op (fun Q U W H D=>zBr Z)<|oz
 intro R w m n p d j
 obtain ⟨h1,h5,h7,h13,h14,h15⟩:=k6 n h1 h5 h7 h13 h14 h15
 obtain ⟨u17,h25,f_u17⟩:∃ u,R 25=u∧Rep (eSl (eInt .i64)) A w u ((gtD x2 y8).2):=⟨_,Z,p 1 _ _ Z Z Z⟩
 have h26:=p.r 2 Z
 have h27:=p.r 3 Z
 replace f_u4:=f_u4.fr m
 replace q:=q.fr m
 obtain ⟨rl18,q19,c⟩:=zA6 c
 replace q19:=q19 Z
 refine HT.cut0 (fun R w=>∃ A:Av,∃ (s20:(List zA3)) (uo_ul_u1:Value),rl18=s20∧AvOK A w∧Fr w0 w∧(∀ b o,A0 b o→A b o)∧IniOK [ob uo_ul_u1 (.vec w0.heap.size 48 zA1 s20)] A w∧R 1 = .int .i64 p1∧R 5=uo_ul_u1∧R 13=u4∧R 14 = .int .i64 (x2.length:Int)∧R 15 = .int .i64 y8∧Rep (eSl zAB) A w u4 x2) ?_ ?_
 refine HT.block ?_
 refine HT.loop (fun k R w=>∃ A:Av,∃ (y21:Int) (y22:List zA3) (ul_ul_u1:Value),zAr fu x2 y8 k y21 y22=some rl18∧AvOK A w∧Fr w0 w∧(∀ b o,A0 b o→A b o)∧IniOK [ob ul_ul_u1 (.vec w0.heap.size 48 zA1 y22),ob (.pointer (some ⟨b7_12,0,none⟩)) (.box w0.heap.size 54 zAB (gtD x2 y8))] A w∧R 1 = .int .i64 p1∧R 5=ul_ul_u1∧R 7=(.pointer (some ⟨b7_12,0,none⟩))∧R 13=u4∧R 14 = .int .i64 (x2.length:Int)∧R 15 = .int .i64 y8∧R 25=u17∧R 26 = .int .i64 (((gtD x2 y8).2).length:Int)∧R 27 = .int .i64 y21∧Rep (eSl (eInt .i64)) A w u17 ((gtD x2 y8).2)∧Rep (eSl zAB) A w u4 x2) fu ⟨_,_,_,ul_u1,q19,d,j,B,q,h1,h5,h7,h13,h14,h15,h25,h26,h27,f_u17,f_u4⟩ ?_
 have hr0:=c;clear c q19
 rintro k R w ⟨A,y21,y22,ul_ul_u1,c,d,j,B,q,h1,h5,h7,h13,h14,h15,h25,h26,h27,f_u17,f_u4⟩
 rcases k with _ | k
 cases (show none=some _ from c)
 rw [zAr] at c
 refine HT.su d j (eB (decide (y21<(((gtD x2 y8).2).length:Int)))::[]) ?_ ?_
 exact op (fun Q U W H D=>zAZ ((H 27 Z).trans h27) ((H 26 Z).trans h26))<|oz
 intro R w m n p d j
 obtain ⟨h1,h5,h7,h13,h14,h15⟩:=k6 n h1 h5 h7 h13 h14 h15
 obtain ⟨h25,h26,h27⟩:=k3 n h25 h26 h27
 have h28:=p.r 0 Z
 replace f_u17:=f_u17.fr m
 replace f_u4:=f_u4.fr m
 replace q:=q.fr m
 refine HT.seq ?_
 refine HT.cond (decide (y21<(((gtD x2 y8).2).length:Int))) h28 (fun c23=>?_) (fun c23=>?_)
 have c:=zAH c23 c
 refine HT.skip ?_
 refine HT.seq ?_
 refine HT.block ?_
 obtain ⟨e24,c⟩:=zA5 c
 refine HT.su d j (eI y21::eF (.qtr (eInt .i64) A (gtD ((gtD x2 y8).2) y21))::eI (gtD ((gtD x2 y8).2) y21)::eI y21::eI (gtD ((gtD x2 y8).2) y21)::[]) ?_ ?_
 exact om h27<|op (fun Q U W H D=>zAC ((f_u17.fr W).eq ((H 25 Z).trans h25)) ((H 27 Z).trans h27) underlying52 sizeOf3 e24)<|op (fun Q U W H D=>OpF.int (zAe (QRep.ptr (D.g 0 Z)) isAgg3 sizeOf3))<|oa<|oa<|oz
 intro R w m n p d j
 obtain ⟨h1,h5,h7,h13,h14,h15⟩:=k6 n h1 h5 h7 h13 h14 h15
 obtain ⟨h25,h26,h27⟩:=k3 n h25 h26 h27
 have h8:=p.r 3 Z
 have h9:=p.r 4 Z
 replace f_u17:=f_u17.fr m
 replace f_u4:=f_u4.fr m
 replace q:=q.fr m
 obtain ⟨e25,e26,c⟩:=ck2 c
 refine HT.su d j (eR (.pointer (some ⟨b7_12,1,none⟩))::eF (.rep (eSl (eInt .i64)) A ((gtD x2 y8).2))::eI y21::eI (y21+1)::eF (.rep (eSl (eInt .i64)) A (subL ((gtD x2 y8).2) (y21+1) (((gtD x2 y8).2).length:Int)))::eI ((subL ((gtD x2 y8).2) (y21+1) (((gtD x2 y8).2).length:Int)).length:Int)::eI 0::[]) ?_ ?_
 exact op (fun Q U W H D=>zA9 ((H 7 Z).trans h7) zHK sizeOf52 (by decide) Z)<|op (fun Q U W H D=>(zAG ((q.fr W).ok 1 _ Z).1 (D.g 0 Z) zEK Z isAgg52 sizeOf52))<|om h8<|op (fun Q U W H D=>zAP (D.g 0 Z) Z e25)<|op (fun Q U W H D=>zIl (D.g 0 Z) (D.g 1 Z) underlying52 sizeOf3 e26)<|op (fun Q U W H D=>zAO (aT:=#[]) (D.g 0 Z) underlying52)<|op (fun Q U W H D=>zBr Z)<|oz
 intro R w m n p d j
 obtain ⟨h1,h5,h7,h9,h13,h14⟩:=k6 n h1 h5 h7 h9 h13 h14
 obtain ⟨h15,h25,h26,h27⟩:=k4 n h15 h25 h26 h27
 obtain ⟨u27,h36,f_u27⟩:∃ u,R 36=u∧Rep (eSl (eInt .i64)) A w u (subL ((gtD x2 y8).2) (y21+1) (((gtD x2 y8).2).length:Int)):=⟨_,Z,p 4 _ _ Z Z Z⟩
 have h37:=p.r 5 Z
 have h38:=p.r 6 Z
 replace f_u17:=f_u17.fr m
 replace f_u4:=f_u4.fr m
 replace q:=q.fr m
 obtain ⟨rl28,q29,c⟩:=zA6 c
 replace q29:=q29 Z
 refine HT.cut0 (fun R w=>∃ A:Av,∃ (s30:(List zA3)) (uo_ul_ul_u1:Value),rl28=s30∧AvOK A w∧Fr w0 w∧(∀ b o,A0 b o→A b o)∧IniOK [ob uo_ul_ul_u1 (.vec w0.heap.size 48 zA1 s30),ob (.pointer (some ⟨b7_12,0,none⟩)) (.box w0.heap.size 54 zAB (gtD x2 y8))] A w∧R 1 = .int .i64 p1∧R 5=uo_ul_ul_u1∧R 7=(.pointer (some ⟨b7_12,0,none⟩))∧R 13=u4∧R 14 = .int .i64 (x2.length:Int)∧R 15 = .int .i64 y8∧R 25=u17∧R 26 = .int .i64 (((gtD x2 y8).2).length:Int)∧R 27 = .int .i64 y21∧Rep (eSl (eInt .i64)) A w u17 ((gtD x2 y8).2)∧Rep (eSl zAB) A w u4 x2) ?_ ?_
 refine HT.block ?_
 refine HT.loop (fun k R w=>∃ A:Av,∃ (y31:Int) (y32:List zA3) (ul_ul_ul_u1:Value),zBG fu x2 y8 y21 k y31 y32=some rl28∧AvOK A w∧Fr w0 w∧(∀ b o,A0 b o→A b o)∧IniOK [ob ul_ul_ul_u1 (.vec w0.heap.size 48 zA1 y32),ob (.pointer (some ⟨b7_12,0,none⟩)) (.box w0.heap.size 54 zAB (gtD x2 y8))] A w∧R 1 = .int .i64 p1∧R 5=ul_ul_ul_u1∧R 7=(.pointer (some ⟨b7_12,0,none⟩))∧R 9 = .int .i64 (gtD ((gtD x2 y8).2) y21)∧R 13=u4∧R 14 = .int .i64 (x2.length:Int)∧R 15 = .int .i64 y8∧R 25=u17∧R 26 = .int .i64 (((gtD x2 y8).2).length:Int)∧R 27 = .int .i64 y21∧R 36=u27∧R 37 = .int .i64 ((subL ((gtD x2 y8).2) (y21+1) (((gtD x2 y8).2).length:Int)).length:Int)∧R 38 = .int .i64 y31∧Rep (eSl (eInt .i64)) A w u17 ((gtD x2 y8).2)∧Rep (eSl (eInt .i64)) A w u27 (subL ((gtD x2 y8).2) (y21+1) (((gtD x2 y8).2).length:Int))∧Rep (eSl zAB) A w u4 x2) fu ⟨_,_,_,ul_ul_u1,q29,d,j,B,q,h1,h5,h7,h9,h13,h14,h15,h25,h26,h27,h36,h37,h38,f_u17,f_u27,f_u4⟩ ?_
 have hr0:=c;clear c q29
 rintro k R w ⟨A,y31,y32,ul_ul_ul_u1,c,d,j,B,q,h1,h5,h7,h9,h13,h14,h15,h25,h26,h27,h36,h37,h38,f_u17,f_u27,f_u4⟩
 rcases k with _ | k
 cases (show none=some _ from c)
 rw [zBG] at c
 refine HT.su d j (eB (decide (y31<((subL ((gtD x2 y8).2) (y21+1) (((gtD x2 y8).2).length:Int)).length:Int)))::[]) ?_ ?_
 exact op (fun Q U W H D=>zAZ ((H 38 Z).trans h38) ((H 37 Z).trans h37))<|oz
 intro R w m n p d j
 obtain ⟨h1,h5,h7,h9,h13,h14⟩:=k6 n h1 h5 h7 h9 h13 h14
 obtain ⟨h15,h25,h26,h27,h36,h37⟩:=k6 n h15 h25 h26 h27 h36 h37
 replace h38:=k1 n h38
 have h39:=p.r 0 Z
 replace f_u17:=f_u17.fr m
 replace f_u27:=f_u27.fr m
 replace f_u4:=f_u4.fr m
 replace q:=q.fr m
 refine HT.seq ?_
 refine HT.cond (decide (y31<((subL ((gtD x2 y8).2) (y21+1) (((gtD x2 y8).2).length:Int)).length:Int))) h39 (fun c33=>?_) (fun c33=>?_)
 have c:=zAH c33 c
 refine HT.skip ?_
 refine HT.seq ?_
 refine HT.block ?_
 obtain ⟨e34,c⟩:=zA5 c
 refine HT.su d j (eF (.qtr (eInt .i64) A (gtD (subL ((gtD x2 y8).2) (y21+1) (((gtD x2 y8).2).length:Int)) y31))::eI (gtD (subL ((gtD x2 y8).2) (y21+1) (((gtD x2 y8).2).length:Int)) y31)::eI (gtD (subL ((gtD x2 y8).2) (y21+1) (((gtD x2 y8).2).length:Int)) y31)::[]) ?_ ?_
 exact op (fun Q U W H D=>zAC ((f_u27.fr W).eq ((H 36 Z).trans h36)) ((H 38 Z).trans h38) underlying52 sizeOf3 e34)<|op (fun Q U W H D=>OpF.int (zAe (QRep.ptr (D.g 0 Z)) isAgg3 sizeOf3))<|oa<|oz
 intro R w m n p d j
 obtain ⟨h1,h5,h7,h9,h13,h14⟩:=k6 n h1 h5 h7 h9 h13 h14
 obtain ⟨h15,h25,h26,h27,h36,h37⟩:=k6 n h15 h25 h26 h27 h36 h37
 replace h38:=k1 n h38
 have h11:=p.r 2 Z
 replace f_u17:=f_u17.fr m
 replace f_u27:=f_u27.fr m
 replace f_u4:=f_u4.fr m
 replace q:=q.fr m
 obtain ⟨e35,c⟩:=zA5 c
 refine HT.x [ob ul_ul_ul_u1 (.vec w0.heap.size 48 zA1 y32),ob (.pointer (some ⟨b7_12,0,none⟩)) (.box w0.heap.size 54 zAB (gtD x2 y8))] (rR ul_ul_ul_u1::rI (gtD ((gtD x2 y8).2) y21)::rI (gtD (subL ((gtD x2 y8).2) (y21+1) (((gtD x2 y8).2).length:Int)) y31)::(rF fun A=>.rep zA1 A ((gtD ((gtD x2 y8).2) y21),(gtD (subL ((gtD x2 y8).2) (y21+1) (((gtD x2 y8).2).length:Int)) y31)))::(rF fun A=>.rep (eSl zA1) A ([((gtD ((gtD x2 y8).2) y21),(gtD (subL ((gtD x2 y8).2) (y21+1) (((gtD x2 y8).2).length:Int)) y31))]:List zA3))::⟨_,true,[0],some (.vec w0.heap.size 48 zA1 (y32++([((gtD ((gtD x2 y8).2) y21),(gtD (subL ((gtD x2 y8).2) (y21+1) (((gtD x2 y8).2).length:Int)) y31))]:List zA3))),true,fun A=>.any⟩::⟨_,true,[7],some (.vec w0.heap.size 48 zA1 (y32++([((gtD ((gtD x2 y8).2) y21),(gtD (subL ((gtD x2 y8).2) (y21+1) (((gtD x2 y8).2).length:Int)) y31))]:List zA3))),true,fun A=>.any⟩::[]) (ur (ur (ur (up (up (ua (ua (UAll.nil)))))))) q d ?_ ?_
 exact rm h5<|rm h9<|rm h11<|rp (fun V Q U O D=>by have a0:Q 43 = .int .i64 (gtD ((gtD x2 y8).2) y21):=D.g 0 Z;have a1:Q 44 = .int .i64 (gtD (subL ((gtD x2 y8).2) (y21+1) (((gtD x2 y8).2).length:Int)) y31):=D.g 1 Z;exact zHh (v:=.agg #[.int .i64 (gtD ((gtD x2 y8).2) y21),.int .i64 (gtD (subL ((gtD x2 y8).2) (y21+1) (((gtD x2 y8).2).length:Int)) y31)]) (by simp [execOp,Instr.build,zAD,a0,a1,underlying,underlying48,zeroValue48,sizeOf3,go_sem,Instr.fill]) ⟨_,Z,zHd zCJ zCJ⟩)<|rp (fun V Q U O D=>zB3 [_] (E:=zA1) ⟨(D.g 0 Z),N⟩ underlying39 sizeOf48 zeroValue48 Z Z Z O.av)<|rc (OblR.took 0 _ _ Z Z Z Z Z fun V Q U O D u X Y J L M=>by have a0:Q 42=ul_ul_ul_u1:=D.g 0 Z;have a1:Rep (eSl zA1) V U (Q 46) ([((gtD ((gtD x2 y8).2) y21),(gtD (subL ((gtD x2 y8).2) (y21+1) (((gtD x2 y8).2).length:Int)) y31))]:List zA3):=D.g 1 Z;exact zAa (a0.trans (J _ Z).symm) X Y (Nat.le_trans j.size O.ch.size) a1 underlying39 zON e35)<|rc (OblR.took 7 _ _ Z Z Z Z Z fun V Q U O D u X Y J L M=>by exact zAA (L _ _ Z Z Z Z).symm X Y)<|rz
 intro done ρ σ A R w y s
 obtain ⟨h1,h7,h9,h13,h14,h15⟩:=k6 s.rg h1 h7 h9 h13 h14 h15
 obtain ⟨h25,h26,h27,h36,h37,h38⟩:=k6 s.rg h25 h26 h27 h36 h37 h38
 obtain ⟨u36,e_u36⟩:∃ u,ρ 8=u:=⟨_,Z⟩
 have h5:=s.ov y 8 6 e_u36
 have z37:=s.inivR 1 Z
 replace f_u17:=f_u17.stp s.stp
 replace f_u27:=f_u27.stp s.stp
 replace f_u4:=f_u4.stp s.stp
 obtain ⟨B,j,d⟩:=s.s B C j q ⟨Z,⟨Z,N⟩⟩
 replace q:=s.left y [(8,ob u36 (.vec w0.heap.size 48 zA1 (y32++([((gtD ((gtD x2 y8).2) y21),(gtD (subL ((gtD x2 y8).2) (y21+1) (((gtD x2 y8).2).length:Int)) y31))]:List zA3)))),(1,ob (.pointer (some ⟨b7_12,0,none⟩)) (.box w0.heap.size 54 zAB (gtD x2 y8)))] ⟨Z,Z,e_u36,Z,Z,⟨Z,Z,z37,Z,Z,N⟩⟩
 obtain ⟨Yg37,g_Yg37⟩:∃ z:List zA3,z=(y32++([((gtD ((gtD x2 y8).2) y21),(gtD (subL ((gtD x2 y8).2) (y21+1) (((gtD x2 y8).2).length:Int)) y31))]:List zA3)):=⟨_,Z⟩
 rw [← g_Yg37] at q
 try rw [← g_Yg37] at c
 obtain ⟨e39,c⟩:=zA5 c
 refine HT.u d j (eI (y31+1)::eI (y31+1)::[]) ?_ ?_
 exact op (fun Q U W H D=>zAP ((H 38 Z).trans h38) Z e39)<|ov<|oz
 intro R w m n p d j
 obtain ⟨h1,h5,h7,h9,h13,h14⟩:=k6 n h1 h5 h7 h9 h13 h14
 obtain ⟨h15,h25,h26,h27,h36,h37⟩:=k6 n h15 h25 h26 h27 h36 h37
 have h38:=p.r 1 Z
 replace f_u17:=f_u17.fr m
 replace f_u27:=f_u27.fr m
 replace f_u4:=f_u4.fr m
 replace q:=q.fr m
 exact ei k (And.intro (Nat.lt_succ_self k) ⟨_,_,_,u36,c,d,j,B,q,h1,h5,h7,h9,h13,h14,h15,h25,h26,h27,h36,h37,h38,f_u17,f_u27,f_u4⟩)
 have c:=zAI c33 c
 refine HT.exit ?_
 obtain rfl:=si c
 exact ei _ ⟨_,ul_ul_ul_u1,Z,d,j,B,q,h1,h5,h7,h13,h14,h15,h25,h26,h27,f_u17,f_u4⟩
 rintro R w ⟨A,s30,uo_ul_ul_u1,es,d,j,B,q,h1,h5,h7,h13,h14,h15,h25,h26,h27,f_u17,f_u4⟩
 obtain rfl:=es.symm
 obtain ⟨e40,c⟩:=zA5 c
 refine HT.u d j (eI (y21+1)::eI (y21+1)::[]) ?_ ?_
 exact op (fun Q U W H D=>zAP ((H 27 Z).trans h27) Z e40)<|ov<|oz
 intro R w m n p d j
 obtain ⟨h1,h5,h7,h13,h14,h15⟩:=k6 n h1 h5 h7 h13 h14 h15
 obtain ⟨h25,h26⟩:=k2 n h25 h26
 have h27:=p.r 1 Z
 replace f_u17:=f_u17.fr m
 replace f_u4:=f_u4.fr m
 replace q:=q.fr m
 exact ei k (And.intro (Nat.lt_succ_self k) ⟨_,_,_,uo_ul_ul_u1,c,d,j,B,q,h1,h5,h7,h13,h14,h15,h25,h26,h27,f_u17,f_u4⟩)
 have c:=zAI c23 c
 refine HT.exit ?_
 obtain rfl:=si c
 replace q:IniOK [ob ul_ul_u1 (.vec w0.heap.size 48 zA1 y22)] A w:=q.sub [(0,ob ul_ul_u1 (.vec w0.heap.size 48 zA1 y22))] ⟨Z,Z,N⟩
 exact ei _ ⟨_,ul_ul_u1,Z,d,j,B,q,h1,h5,h13,h14,h15,f_u4⟩
 rintro R w ⟨A,s20,uo_ul_u1,es,d,j,B,q,h1,h5,h13,h14,h15,f_u4⟩
 obtain rfl:=es.symm
 obtain ⟨e41,c⟩:=zA5 c
 refine HT.u d j (eI (y8+1)::eI (y8+1)::[]) ?_ ?_
 exact op (fun Q U W H D=>zAP ((H 15 Z).trans h15) Z e41)<|ov<|oz
 intro R w m n p d j
 obtain ⟨h1,h5,h13,h14⟩:=k4 n h1 h5 h13 h14
 have h15:=p.r 1 Z
 replace f_u4:=f_u4.fr m
 replace q:=q.fr m
 exact ei k (And.intro (Nat.lt_succ_self k) ⟨_,_,_,uo_ul_u1,c,d,j,B,q,h1,h5,h13,h14,h15,f_u4⟩)
 have c:=zAI c10 c
 refine HT.exit ?_
 obtain rfl:=si c
 exact ei _ ⟨_,ul_u1,Z,d,j,B,q,h5⟩
 rintro R w ⟨A,s7,uo_u1,es,d,j,B,q,h5⟩
 obtain rfl:=es.symm
 obtain ⟨x42,q43,c⟩:=zA6 c
 refine HT.sx [ob uo_u1 (.vec w0.heap.size 48 zA1 s7)] (rR uo_u1::⟨_,true,[0],some (.vec w0.heap.size 48 zA1 x42),false,fun A=>.any⟩::[]) (ur (ua (UAll.nil))) q d ?_ ?_
 exact rm h5<|rc (OblR.took 0 _ _ Z Z Z Z Z fun V Q U O D u X Y J L M=>by have a0:Q 51=uo_u1:=D.g 0 Z;have hu0:zAD Q (.tmp 51)=u:=a0.trans (J _ Z).symm;exact zIS call49 Y (fun _ _ _ _ _ h=>h) (by simp only [List.map,hu0];exact Calls.mono (zL6 (q43 Z) (O.av.sub _) (fun b o h=>h.2) (Vec.flat X (fun _ _ _ _ _ h=>h)) Z) (fun _ _ ⟨v,h1,h2,h3,h4⟩=>⟨v,h1,N,h3,h4⟩)))<|rz
 intro done ρ σ A R w y s
 replace h5:=k1 s.rg h5
 have z44:=s.inivR 0 Z
 have z45:=s.on y 2 1 Z Z Z Z Z z44
 obtain ⟨B,j,d⟩:=s.s B C j q ⟨Z,N⟩
 replace q:=s.left y [(2,ob uo_u1 (.vec w0.heap.size 48 zA1 x42))] ⟨Z,Z,z45,Z,Z,N⟩
 obtain ⟨x46,q47,c⟩:=zA6 c
 refine HT.sx [ob uo_u1 (.vec w0.heap.size 48 zA1 x42)] (rR uo_u1::⟨_,true,[0],some (.vec w0.heap.size 48 zA1 x46),true,fun A=>.any⟩::⟨_,true,[2],some (.vec w0.heap.size 48 zA1 x46),true,fun A=>.any⟩::[]) (ur (ua (ua (UAll.nil)))) q d ?_ ?_
 exact rm h5<|rc (OblR.took 0 _ _ Z Z Z Z Z fun V Q U O D u X Y J L M=>by have a0:Q 53=uo_u1:=D.g 0 Z;have hu0:zAD Q (.tmp 53)=u:=a0.trans (J _ Z).symm;exact zD6 call51 Y (by simp only [List.map,hu0];exact zDA (q47 Z) (O.av.sub _) (fun b o h=>h.2) (Vec.flat X (fun _ _ _ _ _ h=>h))))<|rc (OblR.took 2 _ _ Z Z Z Z Z fun V Q U O D u X Y J L M=>by exact zAA (L _ _ Z Z Z Z).symm X Y)<|rz
 intro done ρ σ A R w y s
 obtain ⟨u48,e_u48⟩:∃ u,ρ 3=u:=⟨_,Z⟩
 have h4:=s.ov y 3 2 e_u48
 obtain ⟨B,j,d⟩:=s.s B C j q ⟨Z,N⟩
 replace q:=s.left y [(3,ob u48 (.vec w0.heap.size 48 zA1 x46))] ⟨Z,Z,e_u48,Z,Z,N⟩
 refine HT.ret ?_
 obtain rfl:=si c
 exact ⟨.inr Z,[R 4],⟨Z,N⟩,(zCA (q.ok 0 _ Z) B h4),j⟩
theorem zFz {fu : Nat} {A0 : Av} {p0 : List zA4} {p1 : Int} {r : List zA3} (c : zBU fu p0 p1 = some r) {w : World} {v0 : Value} {v1 : Value} (d : AvOK A0 w) (hG : GTab w) (h0 : Rep (eSl zA2) A0 w v0 p0) (h1 : v1 = .int .i64 p1) :
 Calls prog 25 #[v0,v1] w fun e w'=>∃ v,e = .returned v∧(Rep (eSl zA1) A0 w' v r∧Fr w w'):=by
 refine Calls.mono (zEp c d hG h0 h1) ?_
 rintro e w' ⟨v,he,hv,hf⟩
 exact ⟨v,he,zBq hv (fun b o h=>.inl h) d,hf⟩
def zDX (fu:Nat) (p0:zA3) (p1:zA3):Option Bool:=
 bif (p0.1 != p1.1) then (
 some false
 ) else (
 bif (p0.2 != p1.2) then (
 some false
 ) else (
 some true
 )
 )
theorem zHB {fu : Nat} {A0 : Av} {p0 : zA3} {p1 : zA3} {r : Bool} (c : zDX fu p0 p1 = some r) {w : World} {v0 : Value} {v1 : Value} (d : AvOK A0 w) (h0 : Rep zA1 A0 w v0 p0) (h1 : Rep zA1 A0 w v1 p1) :
 Calls prog 52 #[v0,v1] w fun e w'=>∃ v,e = .returned v∧(v = .bool r∧Fr w w'):=by
 unfold zDX at c
 obtain ⟨w0,hw0,j,C⟩:=pw d
 have hA00:AvOK A0 w0:=C
 rw [fw hw0]
 obtain ⟨A,hAe,B,d,q⟩:=pa d
 refine zA7 [.tmp 4] func52 ntmps52 (by decide) Z Z (nb Z) ?_
 intro R hR
 have f_v0:Rep zA1 A w v0 p0:=hAe ▸ h0
 replace h0:R 0=v0:=hR 0 _ Z
 have f_v1:Rep zA1 A w v1 p1:=hAe ▸ h1
 replace h1:R 1=v1:=hR 1 _ Z
 refine HT.sx [] (⟨_,true,[],some (.box w0.heap.size 48 zA1 p0),true,fun A=>.any⟩::⟨_,true,[],some (.box w0.heap.size 48 zA1 p1),true,fun A=>.any⟩::rB false::[]) (ua (ua (ur (UAll.nil)))) q d ?_ ?_
 exact rc (OblR.made _ Z Z Z Z fun V Q U O D=>by have a0:Q 0=v0:=(O.old 0 Z).trans h0;have ra0:=(f_v0.stp O.stp).eq a0;exact zDw ra0 (Nat.le_trans j.size O.ch.size))<|rc (OblR.made _ Z Z Z Z fun V Q U O D=>by have a0:Q 1=v1:=(O.old 1 Z).trans h1;have ra0:=(f_v1.stp O.stp).eq a0;exact zDw ra0 (Nat.le_trans j.size O.ch.size))<|rp (fun V Q U O D=>zA0 Z)<|rz
 intro done ρ σ A R w y s
 obtain ⟨b2_0,e_b2_0⟩:=s.boxv y 0 Z Z
 have h2:=s.ov y 0 0 e_b2_0
 obtain ⟨b3_1,e_b3_1⟩:=s.boxv y 1 Z Z
 have h3:=s.ov y 1 1 e_b3_1
 obtain ⟨B,j,d⟩:=s.s B C j q N
 replace q:=s.left y [(0,ob (.pointer (some ⟨b2_0,0,none⟩)) (.box w0.heap.size 48 zA1 p0)),(1,ob (.pointer (some ⟨b3_1,0,none⟩)) (.box w0.heap.size 48 zA1 p1))] ⟨Z,Z,e_b2_0,Z,Z,⟨Z,Z,e_b3_1,Z,Z,N⟩⟩
 refine HT.seq ?_
 refine HT.su d j (eR (.pointer (some ⟨b2_0,0,none⟩))::eI p0.1::eR (.pointer (some ⟨b3_1,0,none⟩))::eI p1.1::eB (p0.1 != p1.1)::[]) ?_ ?_
 exact op (fun Q U W H D=>zA9 ((H 2 Z).trans h2) zFp sizeOf3 (by decide) Z)<|op (fun Q U W H D=>OpF.int (zAG ((q.fr W).ok 0 _ Z).1 (D.g 0 Z) zCV Z isAgg3 sizeOf3))<|op (fun Q U W H D=>zA9 ((H 3 Z).trans h3) zFp sizeOf3 (by decide) Z)<|op (fun Q U W H D=>OpF.int (zAG ((q.fr W).ok 1 _ Z).1 (D.g 0 Z) zCV Z isAgg3 sizeOf3))<|op (fun Q U W H D=>zEI (D.g 0 Z) (D.g 1 Z))<|oz
 intro R w m n p d j
 obtain ⟨h2,h3⟩:=k2 n h2 h3
 have h9:=p.r 4 Z
 replace q:=q.fr m
 refine HT.cond (p0.1 != p1.1) h9 (fun c3=>?_) (fun c3=>?_)
 have c:=zAH c3 c
 refine HT.su d j (eB false::[]) ?_ ?_
 exact op (fun Q U W H D=>zA0 Z)<|oz
 intro R w m n p d j
 have h4:=p.r 0 Z
 replace q:=q.fr m
 replace q:IniOK [] A w:=q.sub [] N
 refine HT.ret ?_
 obtain rfl:=si c
 exact ⟨.inr Z,[R 4],⟨Z,N⟩,h4,j⟩
 have c:=zAI c3 c
 refine HT.skip ?_
 refine HT.seq ?_
 refine HT.su d j (eR (.pointer (some ⟨b2_0,1,none⟩))::eI p0.2::eR (.pointer (some ⟨b3_1,1,none⟩))::eI p1.2::eB (p0.2 != p1.2)::[]) ?_ ?_
 exact op (fun Q U W H D=>zA9 ((H 2 Z).trans h2) zHT sizeOf3 (by decide) Z)<|op (fun Q U W H D=>OpF.int (zAG ((q.fr W).ok 0 _ Z).1 (D.g 0 Z) zDN Z isAgg3 sizeOf3))<|op (fun Q U W H D=>zA9 ((H 3 Z).trans h3) zHT sizeOf3 (by decide) Z)<|op (fun Q U W H D=>OpF.int (zAG ((q.fr W).ok 1 _ Z).1 (D.g 0 Z) zDN Z isAgg3 sizeOf3))<|op (fun Q U W H D=>zEI (D.g 0 Z) (D.g 1 Z))<|oz
 intro R w m n p d j
 have h14:=p.r 4 Z
 replace q:=q.fr m
 replace q:IniOK [] A w:=q.sub [] N
 refine HT.cond (p0.2 != p1.2) h14 (fun c4=>?_) (fun c4=>?_)
 have c:=zAH c4 c
 refine HT.su d j (eB false::[]) ?_ ?_
 exact op (fun Q U W H D=>zA0 Z)<|oz
 intro R w m n p d j
 have h4:=p.r 0 Z
 replace q:=q.fr m
 refine HT.ret ?_
 obtain rfl:=si c
 exact ⟨.inr Z,[R 4],⟨Z,N⟩,h4,j⟩
 have c:=zAI c4 c
 refine HT.skip ?_
 refine HT.su d j (eB true::[]) ?_ ?_
 exact op (fun Q U W H D=>zA0 Z)<|oz
 intro R w m n p d j
 have h4:=p.r 0 Z
 replace q:=q.fr m
 refine HT.ret ?_
 obtain rfl:=si c
 exact ⟨.inr Z,[R 4],⟨Z,N⟩,h4,j⟩
def zBe (fu : Nat) (p0 : List zA3) (p1 : List zA3) : Nat → Int → Option (Ex Bool Unit)
 | 0,_=>none
 | k+1,y5=>
 bif (decide (y5<(p0.length:Int))) then (
 ck (inR y5 p0.length) <|
 ck (inR y5 p1.length) <|
 cl true (zDX fu (gtD p0 y5) (gtD p1 y5)) fun x9=>
 bif (!x9) then (
 some (Ex.ret false)
 ) else (
 ck (i64B (y5+1)) <|
 zBe fu p0 p1 k (y5+1)
 )
 ) else (
 some (Ex.go ())
 )
def zBz (fu:Nat) (p0:List zA3) (p1:List zA3):Option Bool:=
 bif ((p0.length:Int) != (p1.length:Int)) then (
 some false
 ) else (
 cl true (zBe fu p0 p1 fu 0) fun rl2=>
 exM rl2 (fun r=>some r) fun s4=>
 some true
 )
theorem zE2 {fu : Nat} {A : Av} {p0 : List zA3} {p1 : List zA3} {r : Bool} (c : zBz fu p0 p1 = some r) {w : World} {v0 : Value} {v1 : Value} (d : AvOK A w) (h0 : Rep (eSl zA1) A w v0 p0) (h1 : Rep (eSl zA1) A w v1 p1) :
 Calls prog 26 #[v0,v1] w fun e w'=>∃ v,e = .returned v∧(v = .bool r∧Fr w w'):=by
 unfold zBz at c
 obtain ⟨w0,hw0,j⟩:=pf w
 rw [fw hw0]
 refine zA7 [.tmp 4] func26 ntmps26 (by decide) Z Z (nb Z) ?_
 intro R hR
 have f_v0:=h0
 replace h0:R 0=v0:=hR 0 _ Z
 have f_v1:=h1
 replace h1:R 1=v1:=hR 1 _ Z
 refine HT.su d j (eB false::[]) ?_ ?_
 exact op (fun Q U W H D=>zA0 Z)<|oz
 intro R w m n p d j
 obtain ⟨h0,h1⟩:=k2 n h0 h1
 replace f_v0:=f_v0.fr m
 replace f_v1:=f_v1.fr m
 refine HT.seq ?_
 refine HT.su d j (eR v0::eI (p0.length:Int)::eR v1::eI (p1.length:Int)::eB ((p0.length:Int) != (p1.length:Int))::[]) ?_ ?_
 exact om h0<|op (fun Q U W H D=>zAO (aT:=#[]) ((f_v0.fr W).eq (D.g 0 Z)) underlying39)<|om h1<|op (fun Q U W H D=>zAO (aT:=#[]) ((f_v1.fr W).eq (D.g 0 Z)) underlying39)<|op (fun Q U W H D=>zEI (D.g 0 Z) (D.g 1 Z))<|oz
 intro R w m n p d j
 obtain ⟨h0,h1⟩:=k2 n h0 h1
 have h10:=p.r 4 Z
 replace f_v0:=f_v0.fr m
 replace f_v1:=f_v1.fr m
 refine HT.cond ((p0.length:Int) != (p1.length:Int)) h10 (fun c1=>?_) (fun c1=>?_)
 have c:=zAH c1 c
 refine HT.su d j (eB false::[]) ?_ ?_
 exact op (fun Q U W H D=>zA0 Z)<|oz
 intro R w m n p d j
 have h4:=p.r 0 Z
 refine HT.ret ?_
 obtain rfl:=si c
 exact ⟨.inr Z,[R 4],⟨Z,N⟩,h4,j⟩
 have c:=zAI c1 c
 refine HT.skip ?_
 refine HT.seq ?_
 refine HT.su d j (eI 0::[]) ?_ ?_
 exact op (fun Q U W H D=>zA0 Z)<|oz
 intro R w m n p d j
 obtain ⟨h0,h1⟩:=k2 n h0 h1
 have h5:=p.r 0 Z
 replace f_v0:=f_v0.fr m
 replace f_v1:=f_v1.fr m
 obtain ⟨rl2,q3,c⟩:=zA6 c
 replace q3:=q3 Z
 refine HT.cut0 (fun R w=>∃ (s4:Unit),rl2=Ex.go s4∧AvOK A w∧Fr w0 w) ?_ ?_
 refine HT.block ?_
 refine HT.loop (fun k R w=>∃ (y5:Int),zBe fu p0 p1 k y5=some rl2∧AvOK A w∧Fr w0 w∧R 0=v0∧R 1=v1∧R 5 = .int .i64 y5∧Rep (eSl zA1) A w v0 p0∧Rep (eSl zA1) A w v1 p1) fu ⟨_,q3,d,j,h0,h1,h5,f_v0,f_v1⟩ ?_
 have hr0:=c;clear c q3
 rintro k R w ⟨y5,c,d,j,h0,h1,h5,f_v0,f_v1⟩
 rcases k with _ | k
 cases (show none=some _ from c)
 rw [zBe] at c
 refine HT.seq ?_
 refine HT.su d j (eI y5::eR v0::eI (p0.length:Int)::eB (decide (y5<(p0.length:Int)))::[]) ?_ ?_
 exact om h5<|om h0<|op (fun Q U W H D=>zAO (aT:=#[]) ((f_v0.fr W).eq (D.g 0 Z)) underlying39)<|op (fun Q U W H D=>zAZ (D.g 0 Z) (D.g 1 Z))<|oz
 intro R w m n p d j
 obtain ⟨h0,h1,h5⟩:=k3 n h0 h1 h5
 have h14:=p.r 3 Z
 replace f_v0:=f_v0.fr m
 replace f_v1:=f_v1.fr m
 refine HT.cond (decide (y5<(p0.length:Int))) h14 (fun c6=>?_) (fun c6=>?_)
 have c:=zAH c6 c
 refine HT.skip ?_
 refine HT.seq ?_
 refine HT.block ?_
 refine HT.seq ?_
 obtain ⟨e7,e8,c⟩:=ck2 c
 obtain ⟨x9,q10,c⟩:=zA6 c
 refine HT.draw (by kernel_rfl) (l:=eR v0::eI y5::eF (.qtr zA1 A (gtD p0 y5))::eF (.rep zA1 A (gtD p0 y5))::eR v1::eI y5::eF (.qtr zA1 A (gtD p1 y5))::eF (.rep zA1 A (gtD p1 y5))::eB x9::eB (!x9)::[]) (tl:=[]) (by kernel_rfl) (by kernel_rfl) (by kernel_rfl) (by kernel_rfl) ?_ ?_
 exact om h0<|om h5<|op (fun Q U W H D=>zAC ((f_v0.fr W).eq (D.g 0 Z)) (D.g 1 Z) underlying39 sizeOf48 e7)<|op (fun Q U W H D=>(zAe (QRep.ptr (D.g 0 Z)) isAgg48 sizeOf48))<|om h1<|om h5<|op (fun Q U W H D=>zAC ((f_v1.fr W).eq (D.g 0 Z)) (D.g 1 Z) underlying39 sizeOf48 e8)<|op (fun Q U W H D=>(zAe (QRep.ptr (D.g 0 Z)) isAgg48 sizeOf48))<|op (fun Q U W H D=>zAF call52 (zHB (q10 Z) (d.fr W.size) (D.g 0 Z) (D.g 1 Z)))<|op (fun Q U W H D=>zCw (D.g 0 Z))<|oz
 intro R w m n p
 obtain ⟨h0,h1,h5⟩:=k3 n h0 h1 h5
 have h26:=p.r 9 Z
 replace f_v0:=f_v0.fr m
 replace f_v1:=f_v1.fr m
 replace d:=d.fr m.size
 replace j:=j.trans m
 refine HT.cond (!x9) h26 (fun c11=>?_) (fun c11=>?_)
 have c:=zAH c11 c
 refine HT.su d j (eB false::[]) ?_ ?_
 exact op (fun Q U W H D=>zA0 Z)<|oz
 intro R w m n p d j
 have h4:=p.r 0 Z
 refine HT.ret ?_
 obtain rfl:=si c
 have c:=hr0
 replace c:some _=some _:=c
 obtain rfl:=si c
 exact ⟨.inr Z,[R 4],⟨Z,N⟩,h4,j⟩
 have c:=zAI c11 c
 refine HT.skip ?_
 obtain ⟨e12,c⟩:=zA5 c
 refine HT.u d j (eI y5::eI (y5+1)::eI (y5+1)::[]) ?_ ?_
 exact om h5<|op (fun Q U W H D=>zAP (D.g 0 Z) Z e12)<|oa<|oz
 intro R w m n p d j
 obtain ⟨h0,h1⟩:=k2 n h0 h1
 have h5:=p.r 2 Z
 replace f_v0:=f_v0.fr m
 replace f_v1:=f_v1.fr m
 exact ei k (And.intro (Nat.lt_succ_self k) ⟨_,c,d,j,h0,h1,h5,f_v0,f_v1⟩)
 have c:=zAI c6 c
 refine HT.exit ?_
 obtain rfl:=si c
 exact ei _ ⟨Z,d,j⟩
 rintro R w ⟨s4,rfl,d,j⟩
 have c:=zES c
 refine HT.su d j (eB true::[]) ?_ ?_
 exact op (fun Q U W H D=>zA0 Z)<|oz
 intro R w m n p d j
 have h4:=p.r 0 Z
 refine HT.ret ?_
 obtain rfl:=si c
 exact ⟨.inr Z,[R 4],⟨Z,N⟩,h4,j⟩
def zBo (fu : Nat) (p0 : List (List UInt8)) (p1 : List (List UInt8)) : Nat → Int → Option (Ex Bool Unit)
 | 0,_=>none
 | k+1,y5=>
 bif (decide (y5<(p0.length:Int))) then (
 ck (inR y5 p0.length) <|
 ck (inR y5 p1.length) <|
 bif (!((gtD p0 y5)==(gtD p1 y5))) then (
 some (Ex.ret false)
 ) else (
 ck (i64B (y5+1)) <|
 zBo fu p0 p1 k (y5+1)
 )
 ) else (
 some (Ex.go ())
 )
def zDM (fu:Nat) (p0:List (List UInt8)) (p1:List (List UInt8)):Option Bool:=
 bif ((p0.length:Int) != (p1.length:Int)) then (
 some false
 ) else (
 cl true (zBo fu p0 p1 fu 0) fun rl2=>
 exM rl2 (fun r=>some r) fun s4=>
 some true
 )
theorem zGa {fu : Nat} {A : Av} {p0 : List (List UInt8)} {p1 : List (List UInt8)} {r : Bool} (c : zDM fu p0 p1 = some r) {w : World} {v0 : Value} {v1 : Value} (d : AvOK A w) (h0 : Rep (eSl eStr) A w v0 p0) (h1 : Rep (eSl eStr) A w v1 p1) :
 Calls prog 21 #[v0,v1] w fun e w'=>∃ v,e = .returned v∧(v = .bool r∧Fr w w'):=by
 unfold zDM at c
 obtain ⟨w0,hw0,j⟩:=pf w
 rw [fw hw0]
 refine zA7 [.tmp 4] func21 ntmps21 (by decide) Z Z (nb Z) ?_
 intro R hR
 have f_v0:=h0
 replace h0:R 0=v0:=hR 0 _ Z
 have f_v1:=h1
 replace h1:R 1=v1:=hR 1 _ Z
 refine HT.su d j (eB false::[]) ?_ ?_
 exact op (fun Q U W H D=>zA0 Z)<|oz
 intro R w m n p d j
 obtain ⟨h0,h1⟩:=k2 n h0 h1
 replace f_v0:=f_v0.fr m
 replace f_v1:=f_v1.fr m
 refine HT.seq ?_
 refine HT.su d j (eR v0::eI (p0.length:Int)::eR v1::eI (p1.length:Int)::eB ((p0.length:Int) != (p1.length:Int))::[]) ?_ ?_
 exact om h0<|op (fun Q U W H D=>zAO (aT:=#[]) ((f_v0.fr W).eq (D.g 0 Z)) underlying34)<|om h1<|op (fun Q U W H D=>zAO (aT:=#[]) ((f_v1.fr W).eq (D.g 0 Z)) underlying34)<|op (fun Q U W H D=>zEI (D.g 0 Z) (D.g 1 Z))<|oz
 intro R w m n p d j
 obtain ⟨h0,h1⟩:=k2 n h0 h1
 have h10:=p.r 4 Z
 replace f_v0:=f_v0.fr m
 replace f_v1:=f_v1.fr m
 refine HT.cond ((p0.length:Int) != (p1.length:Int)) h10 (fun c1=>?_) (fun c1=>?_)
 have c:=zAH c1 c
 refine HT.su d j (eB false::[]) ?_ ?_
 exact op (fun Q U W H D=>zA0 Z)<|oz
 intro R w m n p d j
 have h4:=p.r 0 Z
 refine HT.ret ?_
 obtain rfl:=si c
 exact ⟨.inr Z,[R 4],⟨Z,N⟩,h4,j⟩
 have c:=zAI c1 c
 refine HT.skip ?_
 refine HT.seq ?_
 refine HT.su d j (eI 0::[]) ?_ ?_
 exact op (fun Q U W H D=>zA0 Z)<|oz
 intro R w m n p d j
 obtain ⟨h0,h1⟩:=k2 n h0 h1
 have h5:=p.r 0 Z
 replace f_v0:=f_v0.fr m
 replace f_v1:=f_v1.fr m
 obtain ⟨rl2,q3,c⟩:=zA6 c
 replace q3:=q3 Z
 refine HT.cut0 (fun R w=>∃ (s4:Unit),rl2=Ex.go s4∧AvOK A w∧Fr w0 w) ?_ ?_
 refine HT.block ?_
 refine HT.loop (fun k R w=>∃ (y5:Int),zBo fu p0 p1 k y5=some rl2∧AvOK A w∧Fr w0 w∧R 0=v0∧R 1=v1∧R 5 = .int .i64 y5∧Rep (eSl eStr) A w v0 p0∧Rep (eSl eStr) A w v1 p1) fu ⟨_,q3,d,j,h0,h1,h5,f_v0,f_v1⟩ ?_
 have hr0:=c;clear c q3
 rintro k R w ⟨y5,c,d,j,h0,h1,h5,f_v0,f_v1⟩
 rcases k with _ | k
 cases (show none=some _ from c)
 rw [zBo] at c
 refine HT.seq ?_
 refine HT.su d j (eI y5::eR v0::eI (p0.length:Int)::eB (decide (y5<(p0.length:Int)))::[]) ?_ ?_
 exact om h5<|om h0<|op (fun Q U W H D=>zAO (aT:=#[]) ((f_v0.fr W).eq (D.g 0 Z)) underlying34)<|op (fun Q U W H D=>zAZ (D.g 0 Z) (D.g 1 Z))<|oz
 intro R w m n p d j
 obtain ⟨h0,h1,h5⟩:=k3 n h0 h1 h5
 have h14:=p.r 3 Z
 replace f_v0:=f_v0.fr m
 replace f_v1:=f_v1.fr m
 refine HT.cond (decide (y5<(p0.length:Int))) h14 (fun c6=>?_) (fun c6=>?_)
 have c:=zAH c6 c
 refine HT.skip ?_
 refine HT.seq ?_
 refine HT.block ?_
 refine HT.seq ?_
 obtain ⟨e7,e8,c⟩:=ck2 c
 refine HT.draw (by kernel_rfl) (l:=eR v0::eI y5::eF (.qtr eStr A (gtD p0 y5))::eF (.rep eStr A (gtD p0 y5))::eR v1::eI y5::eF (.qtr eStr A (gtD p1 y5))::eF (.rep eStr A (gtD p1 y5))::eB (!((gtD p0 y5)==(gtD p1 y5)))::[]) (tl:=[]) (by kernel_rfl) (by kernel_rfl) (by kernel_rfl) (by kernel_rfl) ?_ ?_
 exact om h0<|om h5<|op (fun Q U W H D=>zAC ((f_v0.fr W).eq (D.g 0 Z)) (D.g 1 Z) underlying34 sizeOf9 e7)<|op (fun Q U W H D=>(zAe (QRep.ptr (D.g 0 Z)) isAgg9 sizeOf9))<|om h1<|om h5<|op (fun Q U W H D=>zAC ((f_v1.fr W).eq (D.g 0 Z)) (D.g 1 Z) underlying34 sizeOf9 e8)<|op (fun Q U W H D=>(zAe (QRep.ptr (D.g 0 Z)) isAgg9 sizeOf9))<|op (fun Q U W H D=>zFt (D.g 0 Z) (D.g 1 Z))<|oz
 intro R w m n p
 obtain ⟨h0,h1,h5⟩:=k3 n h0 h1 h5
 have h25:=p.r 8 Z
 replace f_v0:=f_v0.fr m
 replace f_v1:=f_v1.fr m
 replace d:=d.fr m.size
 replace j:=j.trans m
 refine HT.cond (!((gtD p0 y5)==(gtD p1 y5))) h25 (fun c9=>?_) (fun c9=>?_)
 have c:=zAH c9 c
 refine HT.su d j (eB false::[]) ?_ ?_
 exact op (fun Q U W H D=>zA0 Z)<|oz
 intro R w m n p d j
 have h4:=p.r 0 Z
 refine HT.ret ?_
 obtain rfl:=si c
 have c:=hr0
 replace c:some _=some _:=c
 obtain rfl:=si c
 exact ⟨.inr Z,[R 4],⟨Z,N⟩,h4,j⟩
 have c:=zAI c9 c
 refine HT.skip ?_
 obtain ⟨e10,c⟩:=zA5 c
 refine HT.u d j (eI y5::eI (y5+1)::eI (y5+1)::[]) ?_ ?_
 exact om h5<|op (fun Q U W H D=>zAP (D.g 0 Z) Z e10)<|oa<|oz
 intro R w m n p d j
 obtain ⟨h0,h1⟩:=k2 n h0 h1
 have h5:=p.r 2 Z
 replace f_v0:=f_v0.fr m
 replace f_v1:=f_v1.fr m
 exact ei k (And.intro (Nat.lt_succ_self k) ⟨_,c,d,j,h0,h1,h5,f_v0,f_v1⟩)
 have c:=zAI c6 c
 refine HT.exit ?_
 obtain rfl:=si c
 exact ei _ ⟨Z,d,j⟩
 rintro R w ⟨s4,rfl,d,j⟩
 have c:=zES c
 refine HT.su d j (eB true::[]) ?_ ?_
 exact op (fun Q U W H D=>zA0 Z)<|oz
 intro R w m n p d j
 have h4:=p.r 0 Z
 refine HT.ret ?_
 obtain rfl:=si c
 exact ⟨.inr Z,[R 4],⟨Z,N⟩,h4,j⟩
def zDb (fu:Nat) (p0:zA4) (p1:zA4):Option Bool:=
 bif (p0.1 != p1.1) then (
 some false
 ) else (
 bif (p0.2.1 != p1.2.1) then (
 some false
 ) else (
 bif (p0.2.2.1 != p1.2.2.1) then (
 some false
 ) else (
 cl true (zDM fu p0.2.2.2 p1.2.2.2) fun x6=>
 bif (!x6) then (
 some false
 ) else (
 some true
 )
 )
 )
 )
theorem zGu {fu : Nat} {A0 : Av} {p0 : zA4} {p1 : zA4} {r : Bool} (c : zDb fu p0 p1 = some r) {w : World} {v0 : Value} {v1 : Value} (d : AvOK A0 w) (h0 : Rep zA2 A0 w v0 p0) (h1 : Rep zA2 A0 w v1 p1) :
 Calls prog 44 #[v0,v1] w fun e w'=>∃ v,e = .returned v∧(v = .bool r∧Fr w w'):=by
 unfold zDb at c
 obtain ⟨w0,hw0,j,C⟩:=pw d
 have hA00:AvOK A0 w0:=C
 rw [fw hw0]
 obtain ⟨A,hAe,B,d,q⟩:=pa d
 refine zA7 [.tmp 4] func44 ntmps44 (by decide) Z Z (nb Z) ?_
 intro R hR
 have f_v0:Rep zA2 A w v0 p0:=hAe ▸ h0
 replace h0:R 0=v0:=hR 0 _ Z
 have f_v1:Rep zA2 A w v1 p1:=hAe ▸ h1
 replace h1:R 1=v1:=hR 1 _ Z
 refine HT.sx [] (⟨_,true,[],some (.box w0.heap.size 51 zA2 p0),true,fun A=>.any⟩::⟨_,true,[],some (.box w0.heap.size 51 zA2 p1),true,fun A=>.any⟩::rB false::[]) (ua (ua (ur (UAll.nil)))) q d ?_ ?_
 exact rc (OblR.made _ Z Z Z Z fun V Q U O D=>by have a0:Q 0=v0:=(O.old 0 Z).trans h0;have ra0:=(f_v0.stp O.stp).eq a0;exact zDw ra0 (Nat.le_trans j.size O.ch.size))<|rc (OblR.made _ Z Z Z Z fun V Q U O D=>by have a0:Q 1=v1:=(O.old 1 Z).trans h1;have ra0:=(f_v1.stp O.stp).eq a0;exact zDw ra0 (Nat.le_trans j.size O.ch.size))<|rp (fun V Q U O D=>zA0 Z)<|rz
 intro done ρ σ A R w y s
 obtain ⟨b2_0,e_b2_0⟩:=s.boxv y 0 Z Z
 have h2:=s.ov y 0 0 e_b2_0
 obtain ⟨b3_1,e_b3_1⟩:=s.boxv y 1 Z Z
 have h3:=s.ov y 1 1 e_b3_1
 obtain ⟨B,j,d⟩:=s.s B C j q N
 replace q:=s.left y [(0,ob (.pointer (some ⟨b2_0,0,none⟩)) (.box w0.heap.size 51 zA2 p0)),(1,ob (.pointer (some ⟨b3_1,0,none⟩)) (.box w0.heap.size 51 zA2 p1))] ⟨Z,Z,e_b2_0,Z,Z,⟨Z,Z,e_b3_1,Z,Z,N⟩⟩
 refine HT.seq ?_
 refine HT.su d j (eR (.pointer (some ⟨b2_0,0,none⟩))::eI p0.1::eR (.pointer (some ⟨b3_1,0,none⟩))::eI p1.1::eB (p0.1 != p1.1)::[]) ?_ ?_
 exact op (fun Q U W H D=>zA9 ((H 2 Z).trans h2) zHb sizeOf3 (by decide) Z)<|op (fun Q U W H D=>OpF.int (zAG ((q.fr W).ok 0 _ Z).1 (D.g 0 Z) zDI Z isAgg3 sizeOf3))<|op (fun Q U W H D=>zA9 ((H 3 Z).trans h3) zHb sizeOf3 (by decide) Z)<|op (fun Q U W H D=>OpF.int (zAG ((q.fr W).ok 1 _ Z).1 (D.g 0 Z) zDI Z isAgg3 sizeOf3))<|op (fun Q U W H D=>zEI (D.g 0 Z) (D.g 1 Z))<|oz
 intro R w m n p d j
 obtain ⟨h2,h3⟩:=k2 n h2 h3
 have h9:=p.r 4 Z
 replace q:=q.fr m
 refine HT.cond (p0.1 != p1.1) h9 (fun c3=>?_) (fun c3=>?_)
 have c:=zAH c3 c
 refine HT.su d j (eB false::[]) ?_ ?_
 exact op (fun Q U W H D=>zA0 Z)<|oz
 intro R w m n p d j
 have h4:=p.r 0 Z
 replace q:=q.fr m
 replace q:IniOK [] A w:=q.sub [] N
 refine HT.ret ?_
 obtain rfl:=si c
 exact ⟨.inr Z,[R 4],⟨Z,N⟩,h4,j⟩
 have c:=zAI c3 c
 refine HT.skip ?_
 refine HT.seq ?_
 refine HT.su d j (eR (.pointer (some ⟨b2_0,1,none⟩))::eI p0.2.1::eR (.pointer (some ⟨b3_1,1,none⟩))::eI p1.2.1::eB (p0.2.1 != p1.2.1)::[]) ?_ ?_
 exact op (fun Q U W H D=>zA9 ((H 2 Z).trans h2) zHW sizeOf3 (by decide) Z)<|op (fun Q U W H D=>OpF.int (zAG ((q.fr W).ok 0 _ Z).1 (D.g 0 Z) zDJ Z isAgg3 sizeOf3))<|op (fun Q U W H D=>zA9 ((H 3 Z).trans h3) zHW sizeOf3 (by decide) Z)<|op (fun Q U W H D=>OpF.int (zAG ((q.fr W).ok 1 _ Z).1 (D.g 0 Z) zDJ Z isAgg3 sizeOf3))<|op (fun Q U W H D=>zEI (D.g 0 Z) (D.g 1 Z))<|oz
 intro R w m n p d j
 obtain ⟨h2,h3⟩:=k2 n h2 h3
 have h14:=p.r 4 Z
 replace q:=q.fr m
 refine HT.cond (p0.2.1 != p1.2.1) h14 (fun c4=>?_) (fun c4=>?_)
 have c:=zAH c4 c
 refine HT.su d j (eB false::[]) ?_ ?_
 exact op (fun Q U W H D=>zA0 Z)<|oz
 intro R w m n p d j
 have h4:=p.r 0 Z
 replace q:=q.fr m
 replace q:IniOK [] A w:=q.sub [] N
 refine HT.ret ?_
 obtain rfl:=si c
 exact ⟨.inr Z,[R 4],⟨Z,N⟩,h4,j⟩
 have c:=zAI c4 c
 refine HT.skip ?_
 refine HT.seq ?_
 refine HT.su d j (eR (.pointer (some ⟨b2_0,2,none⟩))::eI p0.2.2.1::eR (.pointer (some ⟨b3_1,2,none⟩))::eI p1.2.2.1::eB (p0.2.2.1 != p1.2.2.1)::[]) ?_ ?_
 exact op (fun Q U W H D=>zA9 ((H 2 Z).trans h2) zHL sizeOf3 (by decide) Z)<|op (fun Q U W H D=>OpF.int (zAG ((q.fr W).ok 0 _ Z).1 (D.g 0 Z) zDF Z isAgg3 sizeOf3))<|op (fun Q U W H D=>zA9 ((H 3 Z).trans h3) zHL sizeOf3 (by decide) Z)<|op (fun Q U W H D=>OpF.int (zAG ((q.fr W).ok 1 _ Z).1 (D.g 0 Z) zDF Z isAgg3 sizeOf3))<|op (fun Q U W H D=>zEI (D.g 0 Z) (D.g 1 Z))<|oz
 intro R w m n p d j
 obtain ⟨h2,h3⟩:=k2 n h2 h3
 have h19:=p.r 4 Z
 replace q:=q.fr m
 refine HT.cond (p0.2.2.1 != p1.2.2.1) h19 (fun c5=>?_) (fun c5=>?_)
 have c:=zAH c5 c
 refine HT.su d j (eB false::[]) ?_ ?_
 exact op (fun Q U W H D=>zA0 Z)<|oz
 intro R w m n p d j
 have h4:=p.r 0 Z
 replace q:=q.fr m
 replace q:IniOK [] A w:=q.sub [] N
 refine HT.ret ?_
 obtain rfl:=si c
 exact ⟨.inr Z,[R 4],⟨Z,N⟩,h4,j⟩
 have c:=zAI c5 c
 refine HT.skip ?_
 refine HT.seq ?_
 obtain ⟨x6,q7,c⟩:=zA6 c
 refine HT.su d j (eR (.pointer (some ⟨b2_0,3,none⟩))::eF (.rep (eSl eStr) A p0.2.2.2)::eR (.pointer (some ⟨b3_1,3,none⟩))::eF (.rep (eSl eStr) A p1.2.2.2)::eB x6::eB (!x6)::[]) ?_ ?_
 exact op (fun Q U W H D=>zA9 ((H 2 Z).trans h2) zCs sizeOf34 (by decide) Z)<|op (fun Q U W H D=>(zAG ((q.fr W).ok 0 _ Z).1 (D.g 0 Z) zAQ Z isAgg34 sizeOf34))<|op (fun Q U W H D=>zA9 ((H 3 Z).trans h3) zCs sizeOf34 (by decide) Z)<|op (fun Q U W H D=>(zAG ((q.fr W).ok 1 _ Z).1 (D.g 0 Z) zAQ Z isAgg34 sizeOf34))<|op (fun Q U W H D=>zAF call21 (zGa (q7 Z) (d.fr W.size) (D.g 0 Z) (D.g 1 Z)))<|op (fun Q U W H D=>zCw (D.g 0 Z))<|oz
 intro R w m n p d j
 have h25:=p.r 5 Z
 replace q:=q.fr m
 replace q:IniOK [] A w:=q.sub [] N
 refine HT.cond (!x6) h25 (fun c8=>?_) (fun c8=>?_)
 have c:=zAH c8 c
 refine HT.su d j (eB false::[]) ?_ ?_
 exact op (fun Q U W H D=>zA0 Z)<|oz
 intro R w m n p d j
 have h4:=p.r 0 Z
 replace q:=q.fr m
 refine HT.ret ?_
 obtain rfl:=si c
 exact ⟨.inr Z,[R 4],⟨Z,N⟩,h4,j⟩
 have c:=zAI c8 c
 refine HT.skip ?_
 refine HT.su d j (eB true::[]) ?_ ?_
 exact op (fun Q U W H D=>zA0 Z)<|oz
 intro R w m n p d j
 have h4:=p.r 0 Z
 replace q:=q.fr m
 refine HT.ret ?_
 obtain rfl:=si c
 exact ⟨.inr Z,[R 4],⟨Z,N⟩,h4,j⟩
def zBk (fu : Nat) (p0 : List zA4) (p1 : List zA4) : Nat → Int → Option (Ex Bool Unit)
 | 0,_=>none
 | k+1,y5=>
 bif (decide (y5<(p0.length:Int))) then (
 ck (inR y5 p0.length) <|
 ck (inR y5 p1.length) <|
 cl true (zDb fu (gtD p0 y5) (gtD p1 y5)) fun x9=>
 bif (!x9) then (
 some (Ex.ret false)
 ) else (
 ck (i64B (y5+1)) <|
 zBk fu p0 p1 k (y5+1)
 )
 ) else (
 some (Ex.go ())
 )
def zCk (fu:Nat) (p0:List zA4) (p1:List zA4):Option Bool:=
 bif ((p0.length:Int) != (p1.length:Int)) then (
 some false
 ) else (
 cl true (zBk fu p0 p1 fu 0) fun rl2=>
 exM rl2 (fun r=>some r) fun s4=>
 some true
 )
theorem zGi {fu : Nat} {A : Av} {p0 : List zA4} {p1 : List zA4} {r : Bool} (c : zCk fu p0 p1 = some r) {w : World} {v0 : Value} {v1 : Value} (d : AvOK A w) (h0 : Rep (eSl zA2) A w v0 p0) (h1 : Rep (eSl zA2) A w v1 p1) :
 Calls prog 13 #[v0,v1] w fun e w'=>∃ v,e = .returned v∧(v = .bool r∧Fr w w'):=by
 unfold zCk at c
 obtain ⟨w0,hw0,j⟩:=pf w
 rw [fw hw0]
 refine zA7 [.tmp 4] func13 ntmps13 (by decide) Z Z (nb Z) ?_
 intro R hR
 have f_v0:=h0
 replace h0:R 0=v0:=hR 0 _ Z
 have f_v1:=h1
 replace h1:R 1=v1:=hR 1 _ Z
 refine HT.su d j (eB false::[]) ?_ ?_
 exact op (fun Q U W H D=>zA0 Z)<|oz
 intro R w m n p d j
 obtain ⟨h0,h1⟩:=k2 n h0 h1
 replace f_v0:=f_v0.fr m
 replace f_v1:=f_v1.fr m
 refine HT.seq ?_
 refine HT.su d j (eR v0::eI (p0.length:Int)::eR v1::eI (p1.length:Int)::eB ((p0.length:Int) != (p1.length:Int))::[]) ?_ ?_
 exact om h0<|op (fun Q U W H D=>zAO (aT:=#[]) ((f_v0.fr W).eq (D.g 0 Z)) underlying26)<|om h1<|op (fun Q U W H D=>zAO (aT:=#[]) ((f_v1.fr W).eq (D.g 0 Z)) underlying26)<|op (fun Q U W H D=>zEI (D.g 0 Z) (D.g 1 Z))<|oz
 intro R w m n p d j
 obtain ⟨h0,h1⟩:=k2 n h0 h1
 have h10:=p.r 4 Z
 replace f_v0:=f_v0.fr m
 replace f_v1:=f_v1.fr m
 refine HT.cond ((p0.length:Int) != (p1.length:Int)) h10 (fun c1=>?_) (fun c1=>?_)
 have c:=zAH c1 c
 refine HT.su d j (eB false::[]) ?_ ?_
 exact op (fun Q U W H D=>zA0 Z)<|oz
 intro R w m n p d j
 have h4:=p.r 0 Z
 refine HT.ret ?_
 obtain rfl:=si c
 exact ⟨.inr Z,[R 4],⟨Z,N⟩,h4,j⟩
 have c:=zAI c1 c
 refine HT.skip ?_
 refine HT.seq ?_
 refine HT.su d j (eI 0::[]) ?_ ?_
 exact op (fun Q U W H D=>zA0 Z)<|oz
 intro R w m n p d j
 obtain ⟨h0,h1⟩:=k2 n h0 h1
 have h5:=p.r 0 Z
 replace f_v0:=f_v0.fr m
 replace f_v1:=f_v1.fr m
 obtain ⟨rl2,q3,c⟩:=zA6 c
 replace q3:=q3 Z
 refine HT.cut0 (fun R w=>∃ (s4:Unit),rl2=Ex.go s4∧AvOK A w∧Fr w0 w) ?_ ?_
 refine HT.block ?_
 refine HT.loop (fun k R w=>∃ (y5:Int),zBk fu p0 p1 k y5=some rl2∧AvOK A w∧Fr w0 w∧R 0=v0∧R 1=v1∧R 5 = .int .i64 y5∧Rep (eSl zA2) A w v0 p0∧Rep (eSl zA2) A w v1 p1) fu ⟨_,q3,d,j,h0,h1,h5,f_v0,f_v1⟩ ?_
 have hr0:=c;clear c q3
 rintro k R w ⟨y5,c,d,j,h0,h1,h5,f_v0,f_v1⟩
 rcases k with _ | k
 cases (show none=some _ from c)
 rw [zBk] at c
 refine HT.seq ?_
 refine HT.su d j (eI y5::eR v0::eI (p0.length:Int)::eB (decide (y5<(p0.length:Int)))::[]) ?_ ?_
 exact om h5<|om h0<|op (fun Q U W H D=>zAO (aT:=#[]) ((f_v0.fr W).eq (D.g 0 Z)) underlying26)<|op (fun Q U W H D=>zAZ (D.g 0 Z) (D.g 1 Z))<|oz
 intro R w m n p d j
 obtain ⟨h0,h1,h5⟩:=k3 n h0 h1 h5
 have h14:=p.r 3 Z
 replace f_v0:=f_v0.fr m
 replace f_v1:=f_v1.fr m
 refine HT.cond (decide (y5<(p0.length:Int))) h14 (fun c6=>?_) (fun c6=>?_)
 have c:=zAH c6 c
 refine HT.skip ?_
 refine HT.seq ?_
 refine HT.block ?_
 refine HT.seq ?_
 obtain ⟨e7,e8,c⟩:=ck2 c
 obtain ⟨x9,q10,c⟩:=zA6 c
 refine HT.draw (by kernel_rfl) (l:=eR v0::eI y5::eF (.qtr zA2 A (gtD p0 y5))::eF (.rep zA2 A (gtD p0 y5))::eR v1::eI y5::eF (.qtr zA2 A (gtD p1 y5))::eF (.rep zA2 A (gtD p1 y5))::eB x9::eB (!x9)::[]) (tl:=[]) (by kernel_rfl) (by kernel_rfl) (by kernel_rfl) (by kernel_rfl) ?_ ?_
 exact om h0<|om h5<|op (fun Q U W H D=>zAC ((f_v0.fr W).eq (D.g 0 Z)) (D.g 1 Z) underlying26 sizeOf51 e7)<|op (fun Q U W H D=>(zAe (QRep.ptr (D.g 0 Z)) isAgg51 sizeOf51))<|om h1<|om h5<|op (fun Q U W H D=>zAC ((f_v1.fr W).eq (D.g 0 Z)) (D.g 1 Z) underlying26 sizeOf51 e8)<|op (fun Q U W H D=>(zAe (QRep.ptr (D.g 0 Z)) isAgg51 sizeOf51))<|op (fun Q U W H D=>zAF call44 (zGu (q10 Z) (d.fr W.size) (D.g 0 Z) (D.g 1 Z)))<|op (fun Q U W H D=>zCw (D.g 0 Z))<|oz
 intro R w m n p
 obtain ⟨h0,h1,h5⟩:=k3 n h0 h1 h5
 have h26:=p.r 9 Z
 replace f_v0:=f_v0.fr m
 replace f_v1:=f_v1.fr m
 replace d:=d.fr m.size
 replace j:=j.trans m
 refine HT.cond (!x9) h26 (fun c11=>?_) (fun c11=>?_)
 have c:=zAH c11 c
 refine HT.su d j (eB false::[]) ?_ ?_
 exact op (fun Q U W H D=>zA0 Z)<|oz
 intro R w m n p d j
 have h4:=p.r 0 Z
 refine HT.ret ?_
 obtain rfl:=si c
 have c:=hr0
 replace c:some _=some _:=c
 obtain rfl:=si c
 exact ⟨.inr Z,[R 4],⟨Z,N⟩,h4,j⟩
 have c:=zAI c11 c
 refine HT.skip ?_
 obtain ⟨e12,c⟩:=zA5 c
 refine HT.u d j (eI y5::eI (y5+1)::eI (y5+1)::[]) ?_ ?_
 exact om h5<|op (fun Q U W H D=>zAP (D.g 0 Z) Z e12)<|oa<|oz
 intro R w m n p d j
 obtain ⟨h0,h1⟩:=k2 n h0 h1
 have h5:=p.r 2 Z
 replace f_v0:=f_v0.fr m
 replace f_v1:=f_v1.fr m
 exact ei k (And.intro (Nat.lt_succ_self k) ⟨_,c,d,j,h0,h1,h5,f_v0,f_v1⟩)
 have c:=zAI c6 c
 refine HT.exit ?_
 obtain rfl:=si c
 exact ei _ ⟨Z,d,j⟩
 rintro R w ⟨s4,rfl,d,j⟩
 have c:=zES c
 refine HT.su d j (eB true::[]) ?_ ?_
 exact op (fun Q U W H D=>zA0 Z)<|oz
 intro R w m n p d j
 have h4:=p.r 0 Z
 refine HT.ret ?_
 obtain rfl:=si c
 exact ⟨.inr Z,[R 4],⟨Z,N⟩,h4,j⟩
def zBZ (fu : Nat) : Nat → Int → (List UInt8) → Option (List UInt8)
 | 0,_,_=>none
 | k+1,y7,y8=>
 bif (decide (0<y7)) then (
 ck ((10:Int) != 0) <|
 ck (i64B (48+(y7.tmod 10))) <|
 ck (zBH ((strB ([(IntKind.u8.wrap (48+(y7.tmod 10)))]:List Int))++y8).length) <|
 ck ((10:Int) != 0) <|
 ck (i64B (y7.tdiv 10)) <|
 zBZ fu k (y7.tdiv 10) ((strB ([(IntKind.u8.wrap (48+(y7.tmod 10)))]:List Int))++y8)
 ) else (
 some y8
 )
def zD3 (fu:Nat) (p0:Int):Option (List UInt8):=
 bif (decide (p0≤0)) then (
 some ([109,48]:List UInt8)
 ) else (
 cl true (zBZ fu fu p0 ([]:List UInt8)) fun s6=>
 ck (zBH (([109]:List UInt8)++s6).length) <|
 some (([109]:List UInt8)++s6)
 )
theorem zH6 {fu : Nat} {A : Av} {p0 : Int} {r : List UInt8} (c : zD3 fu p0 = some r) {w : World} {v0 : Value} (d : AvOK A w) (h0 : v0 = .int .i64 p0) :
 Calls prog 45 #[v0] w fun e w'=>∃ v,e = .returned v∧(Rep eStr A w' v r∧Fr w w'):=by
 unfold zD3 at c
 obtain ⟨w0,hw0,j⟩:=pf w
 rw [fw hw0]
 refine zA7 [.tmp 2] func45 ntmps45 (by decide) Z Z (nb Z) ?_
 intro R hR
 replace h0:R 0 = .int .i64 p0:=(hR 0 _ Z).trans h0
 refine HT.su d j (eF (.rep eStr A ([]:List UInt8))::[]) ?_ ?_
 exact op (fun Q U W H D=>zA0 ⟨_,Z,⟨_,Z,Z,by decide⟩⟩)<|oz
 intro R w m n p d j
 replace h0:=k1 n h0
 refine HT.seq ?_
 refine HT.su d j (eI p0::eB (decide (p0≤0))::[]) ?_ ?_
 exact om h0<|op (fun Q U W H D=>zEQ (D.g 0 Z) Z)<|oz
 intro R w m n p d j
 replace h0:=k1 n h0
 have h5:=p.r 1 Z
 refine HT.cond (decide (p0≤0)) h5 (fun c1=>?_) (fun c1=>?_)
 have c:=zAH c1 c
 refine HT.su d j (eF (.rep eStr A ([109,48]:List UInt8))::[]) ?_ ?_
 exact op (fun Q U W H D=>zA0 ⟨_,Z,⟨_,Z,Z,by decide⟩⟩)<|oz
 intro R w m n p d j
 obtain ⟨u2,h2,f_u2⟩:∃ u,R 2=u∧Rep eStr A w u ([109,48]:List UInt8):=⟨_,Z,p 0 _ _ Z Z Z⟩
 refine HT.ret ?_
 obtain rfl:=si c
 exact ⟨.inr Z,[R 2],⟨Z,N⟩,(f_u2.eq h2),j⟩
 have c:=zAI c1 c
 refine HT.skip ?_
 refine HT.su d j (eF (.rep eStr A ([]:List UInt8))::[]) ?_ ?_
 exact op (fun Q U W H D=>zA0 ⟨_,Z,⟨_,Z,Z,by decide⟩⟩)<|oz
 intro R w m n p d j
 replace h0:=k1 n h0
 obtain ⟨u3,h3,f_u3⟩:∃ u,R 3=u∧Rep eStr A w u ([]:List UInt8):=⟨_,Z,p 0 _ _ Z Z Z⟩
 obtain ⟨rl4,q5,c⟩:=zA6 c
 replace q5:=q5 Z
 refine HT.cut (fun R w=>∃ (s6:(List UInt8)) (wo_3:Value),rl4=s6∧AvOK A w∧Fr w0 w∧R 3=wo_3∧Rep eStr A w wo_3 s6) ?_ ?_
 refine HT.block ?_
 refine HT.loop (fun k R w=>∃ (y7:Int) (y8:List UInt8) (wl_3:Value),zBZ fu k y7 y8=some rl4∧AvOK A w∧Fr w0 w∧R 0 = .int .i64 y7∧R 3=wl_3∧Rep eStr A w wl_3 y8) fu ⟨_,_,u3,q5,d,j,h0,h3,f_u3⟩ ?_
 have hr0:=c;clear c q5
 rintro k R w ⟨y7,y8,wl_3,c,d,j,h0,h3,f_wl_3⟩
 rcases k with _ | k
 cases (show none=some _ from c)
 rw [zBZ] at c
 refine HT.seq ?_
 refine HT.su d j (eI y7::eB (decide (0<y7))::[]) ?_ ?_
 exact om h0<|op (fun Q U W H D=>zEh (D.g 0 Z) Z)<|oz
 intro R w m n p d j
 obtain ⟨h0,h3⟩:=k2 n h0 h3
 have h7:=p.r 1 Z
 replace f_wl_3:=f_wl_3.fr m
 refine HT.cond (decide (0<y7)) h7 (fun c9=>?_) (fun c9=>?_)
 have c:=zAH c9 c
 refine HT.skip ?_
 refine HT.block ?_
 obtain ⟨e10,e11,e12,c⟩:=ck3 c
 refine HT.su d j (eI y7::eI (y7.tmod 10)::eI (48+(y7.tmod 10))::eU (IntKind.u8.wrap (48+(y7.tmod 10)))::eF (.rep (eSl (eInt .u8)) A ([(IntKind.u8.wrap (48+(y7.tmod 10)))]:List Int))::eF (.rep eStr A (strB ([(IntKind.u8.wrap (48+(y7.tmod 10)))]:List Int)))::eR wl_3::eF (.rep eStr A ((strB ([(IntKind.u8.wrap (48+(y7.tmod 10)))]:List Int))++y8))::eF (.rep eStr A ((strB ([(IntKind.u8.wrap (48+(y7.tmod 10)))]:List Int))++y8))::[]) ?_ ?_
 exact om h0<|op (fun Q U W H D=>zOU (D.g 0 Z) Z e10)<|op (fun Q U W H D=>zAP Z (D.g 0 Z) e11)<|op (fun Q U W H D=>zDz (D.g 0 Z) underlying3 underlying5)<|op (fun Q U W H D=>zB3 [_] (E:=eInt .u8) ⟨(zBs.eq (D.g 0 Z)),N⟩ underlying43 sizeOf5 zeroValue5 Z Z Z (d.fr W.size))<|op (fun Q U W H D=>zBV (D.g 0 Z) underlying43 underlying5 underlying9)<|om h3<|op (fun Q U W H D=>zER (D.g 0 Z) ((f_wl_3.fr W).eq (D.g 1 Z)) e12)<|op (fun Q U W H D=>zA0 (D.g 0 Z))<|oz
 intro R w m n p d j
 replace h0:=k1 n h0
 obtain ⟨u13,h3,f_u13⟩:∃ u,R 3=u∧Rep eStr A w u ((strB ([(IntKind.u8.wrap (48+(y7.tmod 10)))]:List Int))++y8):=⟨_,Z,p 8 _ _ Z Z Z⟩
 obtain ⟨e14,e15,c⟩:=ck2 c
 refine HT.u d j (eI y7::eI (y7.tdiv 10)::eI (y7.tdiv 10)::[]) ?_ ?_
 exact om h0<|op (fun Q U W H D=>zMU (D.g 0 Z) Z e14 e15)<|oa<|oz
 intro R w m n p d j
 replace h3:=k1 n h3
 have h0:=p.r 2 Z
 replace f_u13:=f_u13.fr m
 exact ei k (And.intro (Nat.lt_succ_self k) ⟨_,_,u13,c,d,j,h0,h3,f_u13⟩)
 have c:=zAI c9 c
 refine HT.exit ?_
 obtain rfl:=si c
 exact ei _ ⟨wl_3,Z,d,j,h3,f_wl_3⟩
 rintro R w ⟨s6,wo_3,es,d,j,h3,f_wo_3⟩
 obtain rfl:=es.symm
 obtain ⟨e16,c⟩:=zA5 c
 refine HT.su d j (eR wo_3::eF (.rep eStr A (([109]:List UInt8)++s6))::eF (.rep eStr A (([109]:List UInt8)++s6))::[]) ?_ ?_
 exact om h3<|op (fun Q U W H D=>zER ⟨_,Z,⟨_,Z,Z,by decide⟩⟩ ((f_wo_3.fr W).eq (D.g 0 Z)) e16)<|op (fun Q U W H D=>zA0 (D.g 0 Z))<|oz
 intro R w m n p d j
 obtain ⟨u17,h2,f_u17⟩:∃ u,R 2=u∧Rep eStr A w u (([109]:List UInt8)++s6):=⟨_,Z,p 2 _ _ Z Z Z⟩
 refine HT.ret ?_
 obtain rfl:=si c
 exact ⟨.inr Z,[R 2],⟨Z,N⟩,(f_u17.eq h2),j⟩
def zBM (fu : Nat) : Nat → Int → Int → (List (List UInt8)) → Option (Int × (List (List UInt8)))
 | 0,_,_,_=>none
 | k+1,y4,y5,y6=>
 bif (decide (y5<(y6.length:Int))) then (
 cl true (zD3 fu y4) fun x8=>
 ck (inR y5 y6.length) <|
 ck (i64B (y4+1)) <|
 ck (i64B (y5+1)) <|
 zBM fu k (y4+1) (y5+1) (y6.set y5.toNat x8)
 ) else (
 some (y4,y6)
 )
def zCn (fu:Nat) (p0:List (List UInt8)) (p1:Int):Option (Int × List (List UInt8)):=
 cl true (zBM fu fu p1 0 p0) fun s3=>
 some (s3.1,s3.2)
theorem zFy {fu : Nat} {A0 : Av} {p0 : List (List UInt8)} {p1 : Int} {r : Int × List (List UInt8)} (c : zCn fu p0 p1 = some r) {w : World} {v0 : Value} {v1 : Value} {B0 : Nat} (d : AvOK A0 w) (K : ∀ b o, A0 b o → ¬ zAL v0 b) (h0 : (Res.vec B0 9 eStr p0).ok A0 v0 w) (h1 : v1 = .int .i64 p1) :
 Calls prog 22 #[v0,v1] w fun e w'=>∃ v,e = .returned v∧(v = .int .i64 r.1∧(Res.vec B0 9 eStr r.2).ok A0 v0 w'∧Ch (zAL v0) w w'):=by
 unfold zCn at c
 obtain ⟨w0,hw0,C⟩:=pc d
 have j:Ch (zAL v0) w0 w:=hw0 ▸ Ch.refl _ _
 have hA00:AvOK A0 w0:=C
 rw [show Ch (zAL v0) w=Ch (zAL v0) w0 from hw0 ▸ Z]
 obtain ⟨A,hAe⟩:∃ A,A=addA A0 v0:=⟨_,Z⟩
 have B:∀ b o,A0 b o→A b o:=fun b o h=>hAe ▸ .inl h
 replace d:AvOK A w:=hAe ▸ d.one h0
 have q:IniOK [ob v0 (.vec B0 9 eStr p0)] A w:=hAe ▸ IniOK.one h0 (fun _ _ _ _ _ h=>h)
 refine zA7 [.tmp 4] func22 ntmps22 (by decide) Z Z (nb Z) ?_
 intro R hR
 replace h0:R 0=v0:=hR 0 _ Z
 replace h1:R 1 = .int .i64 p1:=(hR 1 _ Z).trans h1
 refine HT.seq ?_
 refine HT.t (eI 0::[]) ?_ ?_
 exact op (fun Q U W H D=>zA0 Z)<|oz
 intro R w m n p
 obtain ⟨h0,h1⟩:=k2 n h0 h1
 replace q:=q.fr m
 replace d:=d.fr m.size
 replace j:=j.tr (m.ch noB) fun _ h=>False.elim h
 refine HT.seq ?_
 refine HT.seq ?_
 refine HT.t (eI 0::[]) ?_ ?_
 exact op (fun Q U W H D=>zA0 Z)<|oz
 intro R w m n p
 obtain ⟨h0,h1⟩:=k2 n h0 h1
 have h5:=p.r 0 Z
 replace q:=q.fr m
 replace d:=d.fr m.size
 replace j:=j.tr (m.ch noB) fun _ h=>False.elim h
 obtain ⟨rl1,q2,c⟩:=zA6 c
 replace q2:=q2 Z
 refine HT.cut0 (fun R w=>∃ A:Av,∃ (s3:Int × (List (List UInt8))),rl1=s3∧AvOK A w∧Ch (zAL v0) w0 w∧(∀ b o,A0 b o→A b o)∧IniOK [ob v0 (.vec B0 9 eStr s3.2)] A w∧R 1 = .int .i64 s3.1) ?_ ?_
 refine HT.block ?_
 refine HT.loop (fun k R w=>∃ A:Av,∃ (y4:Int) (y5:Int) (y6:List (List UInt8)),zBM fu k y4 y5 y6=some rl1∧AvOK A w∧Ch (zAL v0) w0 w∧(∀ b o,A0 b o→A b o)∧IniOK [ob v0 (.vec B0 9 eStr y6)] A w∧R 0=v0∧R 1 = .int .i64 y4∧R 5 = .int .i64 y5) fu ⟨_,_,_,_,q2,d,j,B,q,h0,h1,h5⟩ ?_
 have hr0:=c;clear c q2
 rintro k R w ⟨A,y4,y5,y6,c,d,j,B,q,h0,h1,h5⟩
 rcases k with _ | k
 cases (show none=some _ from c)
 rw [zBM] at c
 refine HT.seq ?_
 refine HT.seq ?_
 refine HT.t (eI y5::eR v0::eI (y6.length:Int)::eB (decide (y5<(y6.length:Int)))::[]) ?_ ?_
 exact om h5<|om h0<|op (fun Q U W H D=>zBa (q.ok 0 _ Z).1 (D.g 0 Z) underlying34)<|op (fun Q U W H D=>zAZ (D.g 0 Z) (D.g 1 Z))<|oz
 intro R w m n p
 obtain ⟨h0,h1,h5⟩:=k3 n h0 h1 h5
 have h9:=p.r 3 Z
 replace q:=q.fr m
 replace d:=d.fr m.size
 replace j:=j.tr (m.ch noB) fun _ h=>False.elim h
 refine HT.cond (decide (y5<(y6.length:Int))) h9 (fun c7=>?_) (fun c7=>?_)
 have c:=zAH c7 c
 refine HT.skip ?_
 refine HT.seq ?_
 refine HT.block ?_
 obtain ⟨x8,q9,c⟩:=zA6 c
 obtain ⟨e10,c⟩:=zA5 c
 refine HT.sx [ob v0 (.vec B0 9 eStr y6)] (rR v0::rI y5::rI y4::(rF fun A=>.rep eStr A x8)::rR (vptr v0 (y5.toNat*1))::⟨_,true,[0],some (.vec B0 9 eStr (y6.set y5.toNat x8)),false,fun A=>.any⟩::[]) (ur (ur (ur (up (ur (ua (UAll.nil))))))) q d ?_ ?_
 exact rm h0<|rm h5<|rm h1<|rp (fun V Q U O D=>zAF call45 (zH6 (q9 Z) O.av (D.g 0 Z)))<|rp (fun V Q U O D=>zAR (q.ok 0 _ Z).1 (D.g 0 Z) (D.g 1 Z) underlying34 sizeOf9 e10 Z)<|rc (OblR.took 0 _ _ Z Z Z Z Z fun V Q U O D u X Y J L M=>by have a0:Q 16=(vptr v0 (y5.toNat*1)):=D.g 0 Z;have a1:Rep eStr V U (Q 15) x8:=D.g 1 Z;obtain rfl:=J _ Z;exact zE1 a1 X Y a0 e10 Z (FldS.id _) sizeOf9 Z)<|rz
 intro done ρ σ A R w y s
 obtain ⟨h0,h1,h5⟩:=k3 s.rg h0 h1 h5
 have z11:=s.inivR 0 Z
 have z12:=s.on y 6 5 Z Z Z Z Z z11
 replace B:=s.lowK B C K (q.geK (⟨.inr (fun k h=>.inr h),N⟩))
 replace j:Ch (zAL v0) w0 w:=j.tr s.ch (q.geK (⟨.inr (fun k h=>.inr h),N⟩))
 replace q:=s.left y [(6,ob v0 (.vec B0 9 eStr (y6.set y5.toNat x8)))] ⟨Z,Z,z12,Z,Z,N⟩
 replace d:=s.avok
 obtain ⟨e13,c⟩:=zA5 c
 refine HT.t (eI y4::eI (y4+1)::eI (y4+1)::[]) ?_ ?_
 exact om h1<|op (fun Q U W H D=>zAP (D.g 0 Z) Z e13)<|oa<|oz
 intro R w m n p
 obtain ⟨h0,h5⟩:=k2 n h0 h5
 have h1:=p.r 2 Z
 replace q:=q.fr m
 replace d:=d.fr m.size
 replace j:=j.tr (m.ch noB) fun _ h=>False.elim h
 obtain ⟨e14,c⟩:=zA5 c
 refine HT.t (eI y5::eI (y5+1)::eI (y5+1)::[]) ?_ ?_
 exact om h5<|op (fun Q U W H D=>zAP (D.g 0 Z) Z e14)<|oa<|oz
 intro R w m n p
 obtain ⟨h0,h1⟩:=k2 n h0 h1
 have h5:=p.r 2 Z
 replace q:=q.fr m
 replace d:=d.fr m.size
 replace j:=j.tr (m.ch noB) fun _ h=>False.elim h
 exact ei k (And.intro (Nat.lt_succ_self k) ⟨_,_,_,_,c,d,j,B,q,h0,h1,h5⟩)
 have c:=zAI c7 c
 refine HT.exit ?_
 obtain rfl:=si c
 exact ei _ ⟨_,Z,d,j,B,q,h1⟩
 rintro R w ⟨A,s3,es,d,j,B,q,h1⟩
 obtain rfl:=es.symm
 refine HT.seq ?_
 refine HT.t (eI s3.1::eI s3.1::[]) ?_ ?_
 exact om h1<|oa<|oz
 intro R w m n p
 have h4:=p.r 1 Z
 replace q:=q.fr m
 replace d:=d.fr m.size
 replace j:=j.tr (m.ch noB) fun _ h=>False.elim h
 refine HT.ret ?_
 obtain rfl:=si c
 exact ⟨.inr Z,[R 4],⟨Z,N⟩,h4,Vec.flat (q.ok 0 _ Z).1 (fun _ _ _ _ _ h=>h),j⟩
def zBN (fu : Nat) : Nat → Int → Int → (List zA4) → Option (Int × (List zA4))
 | 0,_,_,_=>none
 | k+1,y4,y5,y6=>
 bif (decide (y5<(y6.length:Int))) then (
 ck (inR y5 y6.length) <|
 ck (i64B (y4+1)) <|
 ck (inR y5 (y6.set y5.toNat (y4,(gtD y6 y5).2.1,(gtD y6 y5).2.2.1,(gtD y6 y5).2.2.2)).length) <|
 ck (i64B ((y4+1)+1)) <|
 ck (inR y5 ((y6.set y5.toNat (y4,(gtD y6 y5).2.1,(gtD y6 y5).2.2.1,(gtD y6 y5).2.2.2)).set y5.toNat ((gtD (y6.set y5.toNat (y4,(gtD y6 y5).2.1,(gtD y6 y5).2.2.1,(gtD y6 y5).2.2.2)) y5).1,(y4+1),(gtD (y6.set y5.toNat (y4,(gtD y6 y5).2.1,(gtD y6 y5).2.2.1,(gtD y6 y5).2.2.2)) y5).2.2.1,(gtD (y6.set y5.toNat (y4,(gtD y6 y5).2.1,(gtD y6 y5).2.2.1,(gtD y6 y5).2.2.2)) y5).2.2.2)).length) <|
 ck (i64B (((y4+1)+1)+1)) <|
 ck (inR y5 (((y6.set y5.toNat (y4,(gtD y6 y5).2.1,(gtD y6 y5).2.2.1,(gtD y6 y5).2.2.2)).set y5.toNat ((gtD (y6.set y5.toNat (y4,(gtD y6 y5).2.1,(gtD y6 y5).2.2.1,(gtD y6 y5).2.2.2)) y5).1,(y4+1),(gtD (y6.set y5.toNat (y4,(gtD y6 y5).2.1,(gtD y6 y5).2.2.1,(gtD y6 y5).2.2.2)) y5).2.2.1,(gtD (y6.set y5.toNat (y4,(gtD y6 y5).2.1,(gtD y6 y5).2.2.1,(gtD y6 y5).2.2.2)) y5).2.2.2)).set y5.toNat ((gtD ((y6.set y5.toNat (y4,(gtD y6 y5).2.1,(gtD y6 y5).2.2.1,(gtD y6 y5).2.2.2)).set y5.toNat ((gtD (y6.set y5.toNat (y4,(gtD y6 y5).2.1,(gtD y6 y5).2.2.1,(gtD y6 y5).2.2.2)) y5).1,(y4+1),(gtD (y6.set y5.toNat (y4,(gtD y6 y5).2.1,(gtD y6 y5).2.2.1,(gtD y6 y5).2.2.2)) y5).2.2.1,(gtD (y6.set y5.toNat (y4,(gtD y6 y5).2.1,(gtD y6 y5).2.2.1,(gtD y6 y5).2.2.2)) y5).2.2.2)) y5).1,(gtD ((y6.set y5.toNat (y4,(gtD y6 y5).2.1,(gtD y6 y5).2.2.1,(gtD y6 y5).2.2.2)).set y5.toNat ((gtD (y6.set y5.toNat (y4,(gtD y6 y5).2.1,(gtD y6 y5).2.2.1,(gtD y6 y5).2.2.2)) y5).1,(y4+1),(gtD (y6.set y5.toNat (y4,(gtD y6 y5).2.1,(gtD y6 y5).2.2.1,(gtD y6 y5).2.2.2)) y5).2.2.1,(gtD (y6.set y5.toNat (y4,(gtD y6 y5).2.1,(gtD y6 y5).2.2.1,(gtD y6 y5).2.2.2)) y5).2.2.2)) y5).2.1,((y4+1)+1),(gtD ((y6.set y5.toNat (y4,(gtD y6 y5).2.1,(gtD y6 y5).2.2.1,(gtD y6 y5).2.2.2)).set y5.toNat ((gtD (y6.set y5.toNat (y4,(gtD y6 y5).2.1,(gtD y6 y5).2.2.1,(gtD y6 y5).2.2.2)) y5).1,(y4+1),(gtD (y6.set y5.toNat (y4,(gtD y6 y5).2.1,(gtD y6 y5).2.2.1,(gtD y6 y5).2.2.2)) y5).2.2.1,(gtD (y6.set y5.toNat (y4,(gtD y6 y5).2.1,(gtD y6 y5).2.2.1,(gtD y6 y5).2.2.2)) y5).2.2.2)) y5).2.2.2)).length) <|
 cl true (zCn fu ((gtD (((y6.set y5.toNat (y4,(gtD y6 y5).2.1,(gtD y6 y5).2.2.1,(gtD y6 y5).2.2.2)).set y5.toNat ((gtD (y6.set y5.toNat (y4,(gtD y6 y5).2.1,(gtD y6 y5).2.2.1,(gtD y6 y5).2.2.2)) y5).1,(y4+1),(gtD (y6.set y5.toNat (y4,(gtD y6 y5).2.1,(gtD y6 y5).2.2.1,(gtD y6 y5).2.2.2)) y5).2.2.1,(gtD (y6.set y5.toNat (y4,(gtD y6 y5).2.1,(gtD y6 y5).2.2.1,(gtD y6 y5).2.2.2)) y5).2.2.2)).set y5.toNat ((gtD ((y6.set y5.toNat (y4,(gtD y6 y5).2.1,(gtD y6 y5).2.2.1,(gtD y6 y5).2.2.2)).set y5.toNat ((gtD (y6.set y5.toNat (y4,(gtD y6 y5).2.1,(gtD y6 y5).2.2.1,(gtD y6 y5).2.2.2)) y5).1,(y4+1),(gtD (y6.set y5.toNat (y4,(gtD y6 y5).2.1,(gtD y6 y5).2.2.1,(gtD y6 y5).2.2.2)) y5).2.2.1,(gtD (y6.set y5.toNat (y4,(gtD y6 y5).2.1,(gtD y6 y5).2.2.1,(gtD y6 y5).2.2.2)) y5).2.2.2)) y5).1,(gtD ((y6.set y5.toNat (y4,(gtD y6 y5).2.1,(gtD y6 y5).2.2.1,(gtD y6 y5).2.2.2)).set y5.toNat ((gtD (y6.set y5.toNat (y4,(gtD y6 y5).2.1,(gtD y6 y5).2.2.1,(gtD y6 y5).2.2.2)) y5).1,(y4+1),(gtD (y6.set y5.toNat (y4,(gtD y6 y5).2.1,(gtD y6 y5).2.2.1,(gtD y6 y5).2.2.2)) y5).2.2.1,(gtD (y6.set y5.toNat (y4,(gtD y6 y5).2.1,(gtD y6 y5).2.2.1,(gtD y6 y5).2.2.2)) y5).2.2.2)) y5).2.1,((y4+1)+1),(gtD ((y6.set y5.toNat (y4,(gtD y6 y5).2.1,(gtD y6 y5).2.2.1,(gtD y6 y5).2.2.2)).set y5.toNat ((gtD (y6.set y5.toNat (y4,(gtD y6 y5).2.1,(gtD y6 y5).2.2.1,(gtD y6 y5).2.2.2)) y5).1,(y4+1),(gtD (y6.set y5.toNat (y4,(gtD y6 y5).2.1,(gtD y6 y5).2.2.1,(gtD y6 y5).2.2.2)) y5).2.2.1,(gtD (y6.set y5.toNat (y4,(gtD y6 y5).2.1,(gtD y6 y5).2.2.1,(gtD y6 y5).2.2.2)) y5).2.2.2)) y5).2.2.2)) y5).2.2.2) (((y4+1)+1)+1)) fun x28=>
 ck (i64B (y5+1)) <|
 zBN fu k x28.1 (y5+1) ((((y6.set y5.toNat (y4,(gtD y6 y5).2.1,(gtD y6 y5).2.2.1,(gtD y6 y5).2.2.2)).set y5.toNat ((gtD (y6.set y5.toNat (y4,(gtD y6 y5).2.1,(gtD y6 y5).2.2.1,(gtD y6 y5).2.2.2)) y5).1,(y4+1),(gtD (y6.set y5.toNat (y4,(gtD y6 y5).2.1,(gtD y6 y5).2.2.1,(gtD y6 y5).2.2.2)) y5).2.2.1,(gtD (y6.set y5.toNat (y4,(gtD y6 y5).2.1,(gtD y6 y5).2.2.1,(gtD y6 y5).2.2.2)) y5).2.2.2)).set y5.toNat ((gtD ((y6.set y5.toNat (y4,(gtD y6 y5).2.1,(gtD y6 y5).2.2.1,(gtD y6 y5).2.2.2)).set y5.toNat ((gtD (y6.set y5.toNat (y4,(gtD y6 y5).2.1,(gtD y6 y5).2.2.1,(gtD y6 y5).2.2.2)) y5).1,(y4+1),(gtD (y6.set y5.toNat (y4,(gtD y6 y5).2.1,(gtD y6 y5).2.2.1,(gtD y6 y5).2.2.2)) y5).2.2.1,(gtD (y6.set y5.toNat (y4,(gtD y6 y5).2.1,(gtD y6 y5).2.2.1,(gtD y6 y5).2.2.2)) y5).2.2.2)) y5).1,(gtD ((y6.set y5.toNat (y4,(gtD y6 y5).2.1,(gtD y6 y5).2.2.1,(gtD y6 y5).2.2.2)).set y5.toNat ((gtD (y6.set y5.toNat (y4,(gtD y6 y5).2.1,(gtD y6 y5).2.2.1,(gtD y6 y5).2.2.2)) y5).1,(y4+1),(gtD (y6.set y5.toNat (y4,(gtD y6 y5).2.1,(gtD y6 y5).2.2.1,(gtD y6 y5).2.2.2)) y5).2.2.1,(gtD (y6.set y5.toNat (y4,(gtD y6 y5).2.1,(gtD y6 y5).2.2.1,(gtD y6 y5).2.2.2)) y5).2.2.2)) y5).2.1,((y4+1)+1),(gtD ((y6.set y5.toNat (y4,(gtD y6 y5).2.1,(gtD y6 y5).2.2.1,(gtD y6 y5).2.2.2)).set y5.toNat ((gtD (y6.set y5.toNat (y4,(gtD y6 y5).2.1,(gtD y6 y5).2.2.1,(gtD y6 y5).2.2.2)) y5).1,(y4+1),(gtD (y6.set y5.toNat (y4,(gtD y6 y5).2.1,(gtD y6 y5).2.2.1,(gtD y6 y5).2.2.2)) y5).2.2.1,(gtD (y6.set y5.toNat (y4,(gtD y6 y5).2.1,(gtD y6 y5).2.2.1,(gtD y6 y5).2.2.2)) y5).2.2.2)) y5).2.2.2)).set y5.toNat ((gtD (((y6.set y5.toNat (y4,(gtD y6 y5).2.1,(gtD y6 y5).2.2.1,(gtD y6 y5).2.2.2)).set y5.toNat ((gtD (y6.set y5.toNat (y4,(gtD y6 y5).2.1,(gtD y6 y5).2.2.1,(gtD y6 y5).2.2.2)) y5).1,(y4+1),(gtD (y6.set y5.toNat (y4,(gtD y6 y5).2.1,(gtD y6 y5).2.2.1,(gtD y6 y5).2.2.2)) y5).2.2.1,(gtD (y6.set y5.toNat (y4,(gtD y6 y5).2.1,(gtD y6 y5).2.2.1,(gtD y6 y5).2.2.2)) y5).2.2.2)).set y5.toNat ((gtD ((y6.set y5.toNat (y4,(gtD y6 y5).2.1,(gtD y6 y5).2.2.1,(gtD y6 y5).2.2.2)).set y5.toNat ((gtD (y6.set y5.toNat (y4,(gtD y6 y5).2.1,(gtD y6 y5).2.2.1,(gtD y6 y5).2.2.2)) y5).1,(y4+1),(gtD (y6.set y5.toNat (y4,(gtD y6 y5).2.1,(gtD y6 y5).2.2.1,(gtD y6 y5).2.2.2)) y5).2.2.1,(gtD (y6.set y5.toNat (y4,(gtD y6 y5).2.1,(gtD y6 y5).2.2.1,(gtD y6 y5).2.2.2)) y5).2.2.2)) y5).1,(gtD ((y6.set y5.toNat (y4,(gtD y6 y5).2.1,(gtD y6 y5).2.2.1,(gtD y6 y5).2.2.2)).set y5.toNat ((gtD (y6.set y5.toNat (y4,(gtD y6 y5).2.1,(gtD y6 y5).2.2.1,(gtD y6 y5).2.2.2)) y5).1,(y4+1),(gtD (y6.set y5.toNat (y4,(gtD y6 y5).2.1,(gtD y6 y5).2.2.1,(gtD y6 y5).2.2.2)) y5).2.2.1,(gtD (y6.set y5.toNat (y4,(gtD y6 y5).2.1,(gtD y6 y5).2.2.1,(gtD y6 y5).2.2.2)) y5).2.2.2)) y5).2.1,((y4+1)+1),(gtD ((y6.set y5.toNat (y4,(gtD y6 y5).2.1,(gtD y6 y5).2.2.1,(gtD y6 y5).2.2.2)).set y5.toNat ((gtD (y6.set y5.toNat (y4,(gtD y6 y5).2.1,(gtD y6 y5).2.2.1,(gtD y6 y5).2.2.2)) y5).1,(y4+1),(gtD (y6.set y5.toNat (y4,(gtD y6 y5).2.1,(gtD y6 y5).2.2.1,(gtD y6 y5).2.2.2)) y5).2.2.1,(gtD (y6.set y5.toNat (y4,(gtD y6 y5).2.1,(gtD y6 y5).2.2.1,(gtD y6 y5).2.2.2)) y5).2.2.2)) y5).2.2.2)) y5).1,(gtD (((y6.set y5.toNat (y4,(gtD y6 y5).2.1,(gtD y6 y5).2.2.1,(gtD y6 y5).2.2.2)).set y5.toNat ((gtD (y6.set y5.toNat (y4,(gtD y6 y5).2.1,(gtD y6 y5).2.2.1,(gtD y6 y5).2.2.2)) y5).1,(y4+1),(gtD (y6.set y5.toNat (y4,(gtD y6 y5).2.1,(gtD y6 y5).2.2.1,(gtD y6 y5).2.2.2)) y5).2.2.1,(gtD (y6.set y5.toNat (y4,(gtD y6 y5).2.1,(gtD y6 y5).2.2.1,(gtD y6 y5).2.2.2)) y5).2.2.2)).set y5.toNat ((gtD ((y6.set y5.toNat (y4,(gtD y6 y5).2.1,(gtD y6 y5).2.2.1,(gtD y6 y5).2.2.2)).set y5.toNat ((gtD (y6.set y5.toNat (y4,(gtD y6 y5).2.1,(gtD y6 y5).2.2.1,(gtD y6 y5).2.2.2)) y5).1,(y4+1),(gtD (y6.set y5.toNat (y4,(gtD y6 y5).2.1,(gtD y6 y5).2.2.1,(gtD y6 y5).2.2.2)) y5).2.2.1,(gtD (y6.set y5.toNat (y4,(gtD y6 y5).2.1,(gtD y6 y5).2.2.1,(gtD y6 y5).2.2.2)) y5).2.2.2)) y5).1,(gtD ((y6.set y5.toNat (y4,(gtD y6 y5).2.1,(gtD y6 y5).2.2.1,(gtD y6 y5).2.2.2)).set y5.toNat ((gtD (y6.set y5.toNat (y4,(gtD y6 y5).2.1,(gtD y6 y5).2.2.1,(gtD y6 y5).2.2.2)) y5).1,(y4+1),(gtD (y6.set y5.toNat (y4,(gtD y6 y5).2.1,(gtD y6 y5).2.2.1,(gtD y6 y5).2.2.2)) y5).2.2.1,(gtD (y6.set y5.toNat (y4,(gtD y6 y5).2.1,(gtD y6 y5).2.2.1,(gtD y6 y5).2.2.2)) y5).2.2.2)) y5).2.1,((y4+1)+1),(gtD ((y6.set y5.toNat (y4,(gtD y6 y5).2.1,(gtD y6 y5).2.2.1,(gtD y6 y5).2.2.2)).set y5.toNat ((gtD (y6.set y5.toNat (y4,(gtD y6 y5).2.1,(gtD y6 y5).2.2.1,(gtD y6 y5).2.2.2)) y5).1,(y4+1),(gtD (y6.set y5.toNat (y4,(gtD y6 y5).2.1,(gtD y6 y5).2.2.1,(gtD y6 y5).2.2.2)) y5).2.2.1,(gtD (y6.set y5.toNat (y4,(gtD y6 y5).2.1,(gtD y6 y5).2.2.1,(gtD y6 y5).2.2.2)) y5).2.2.2)) y5).2.2.2)) y5).2.1,(gtD (((y6.set y5.toNat (y4,(gtD y6 y5).2.1,(gtD y6 y5).2.2.1,(gtD y6 y5).2.2.2)).set y5.toNat ((gtD (y6.set y5.toNat (y4,(gtD y6 y5).2.1,(gtD y6 y5).2.2.1,(gtD y6 y5).2.2.2)) y5).1,(y4+1),(gtD (y6.set y5.toNat (y4,(gtD y6 y5).2.1,(gtD y6 y5).2.2.1,(gtD y6 y5).2.2.2)) y5).2.2.1,(gtD (y6.set y5.toNat (y4,(gtD y6 y5).2.1,(gtD y6 y5).2.2.1,(gtD y6 y5).2.2.2)) y5).2.2.2)).set y5.toNat ((gtD ((y6.set y5.toNat (y4,(gtD y6 y5).2.1,(gtD y6 y5).2.2.1,(gtD y6 y5).2.2.2)).set y5.toNat ((gtD (y6.set y5.toNat (y4,(gtD y6 y5).2.1,(gtD y6 y5).2.2.1,(gtD y6 y5).2.2.2)) y5).1,(y4+1),(gtD (y6.set y5.toNat (y4,(gtD y6 y5).2.1,(gtD y6 y5).2.2.1,(gtD y6 y5).2.2.2)) y5).2.2.1,(gtD (y6.set y5.toNat (y4,(gtD y6 y5).2.1,(gtD y6 y5).2.2.1,(gtD y6 y5).2.2.2)) y5).2.2.2)) y5).1,(gtD ((y6.set y5.toNat (y4,(gtD y6 y5).2.1,(gtD y6 y5).2.2.1,(gtD y6 y5).2.2.2)).set y5.toNat ((gtD (y6.set y5.toNat (y4,(gtD y6 y5).2.1,(gtD y6 y5).2.2.1,(gtD y6 y5).2.2.2)) y5).1,(y4+1),(gtD (y6.set y5.toNat (y4,(gtD y6 y5).2.1,(gtD y6 y5).2.2.1,(gtD y6 y5).2.2.2)) y5).2.2.1,(gtD (y6.set y5.toNat (y4,(gtD y6 y5).2.1,(gtD y6 y5).2.2.1,(gtD y6 y5).2.2.2)) y5).2.2.2)) y5).2.1,((y4+1)+1),(gtD ((y6.set y5.toNat (y4,(gtD y6 y5).2.1,(gtD y6 y5).2.2.1,(gtD y6 y5).2.2.2)).set y5.toNat ((gtD (y6.set y5.toNat (y4,(gtD y6 y5).2.1,(gtD y6 y5).2.2.1,(gtD y6 y5).2.2.2)) y5).1,(y4+1),(gtD (y6.set y5.toNat (y4,(gtD y6 y5).2.1,(gtD y6 y5).2.2.1,(gtD y6 y5).2.2.2)) y5).2.2.1,(gtD (y6.set y5.toNat (y4,(gtD y6 y5).2.1,(gtD y6 y5).2.2.1,(gtD y6 y5).2.2.2)) y5).2.2.2)) y5).2.2.2)) y5).2.2.1,x28.2))
 ) else (
 some (y4,y6)
 )
def zCP (fu:Nat) (p0:List zA4) (p1:Int):Option (Int × List zA4):=
 cl true (zBN fu fu p1 0 p0) fun s3=>
 some (s3.1,s3.2)
theorem zG5 {fu : Nat} {A0 : Av} {p0 : List zA4} {p1 : Int} {r : Int × List zA4} (c : zCP fu p0 p1 = some r) {w : World} {v0 : Value} {v1 : Value} {S0 : Nat → Prop} (d : AvOK A0 w) (K : ∀ b o, A0 b o → ¬ S0 b) (h0 : (trP (oSl 51 (oPr (oRd (eInt .i64)) (oPr (oRd (eInt .i64)) (oPr (oRd (eInt .i64)) (oSl 9 (oRd eStr)))))) p0 []).P (addS A0 S0) w S0 v0) (h1 : v1 = .int .i64 p1) :
 Calls prog 14 #[v0,v1] w fun e w'=>∃ v,e = .returned v∧(v = .int .i64 r.1∧Gave (oSl 51 (oPr (oRd (eInt .i64)) (oPr (oRd (eInt .i64)) (oPr (oRd (eInt .i64)) (oSl 9 (oRd eStr)))))) A0 S0 w v0 r.2 w'):=by
 unfold zCP at c
 obtain ⟨w0,hw0,C⟩:=pc d
 have j:Ch S0 w0 w:=hw0 ▸ Ch.refl _ _
 have hA00:AvOK A0 w0:=C
 rw [show Gave (oSl 51 (oPr (oRd (eInt .i64)) (oPr (oRd (eInt .i64)) (oPr (oRd (eInt .i64)) (oSl 9 (oRd eStr)))))) A0 S0 w=Gave (oSl 51 (oPr (oRd (eInt .i64)) (oPr (oRd (eInt .i64)) (oPr (oRd (eInt .i64)) (oSl 9 (oRd eStr)))))) A0 S0 w0 from hw0 ▸ Z]
 have hw0s:w.heap.size=w0.heap.size:=hw0 ▸ Z
 have q:=IniOK.oneT h0
 have hA1:=d.oneT h0
 rw [show w.heap.size=w0.heap.size from hw0s] at q
 obtain ⟨A,hAe⟩:∃ A,A=addS A0 S0:=⟨_,Z⟩
 have B:∀ b o,A0 b o→A b o:=fun b o h=>hAe ▸ .inl h
 replace d:AvOK A w:=hAe ▸ hA1
 replace q:IniOK [⟨v0,S0,trR (fun k=>w0.heap.size≤k∨S0 k) (oSl 51 (oPr (oRd (eInt .i64)) (oPr (oRd (eInt .i64)) (oPr (oRd (eInt .i64)) (oSl 9 (oRd eStr)))))) p0 []⟩] A w:=hAe ▸ q
 refine zA7 [.tmp 4] func14 ntmps14 (by decide) Z Z (nb Z) ?_
 intro R hR
 replace h0:R 0=v0:=hR 0 _ Z
 replace h1:R 1 = .int .i64 p1:=(hR 1 _ Z).trans h1
 refine HT.seq ?_
 refine HT.t (eI 0::[]) ?_ ?_
 exact op (fun Q U W H D=>zA0 Z)<|oz
 intro R w m n p
 obtain ⟨h0,h1⟩:=k2 n h0 h1
 replace q:=q.fr m
 replace d:=d.fr m.size
 replace j:=j.tr (m.ch noB) fun _ h=>False.elim h
 refine HT.seq ?_
 refine HT.seq ?_
 refine HT.t (eI 0::[]) ?_ ?_
 exact op (fun Q U W H D=>zA0 Z)<|oz
 intro R w m n p
 obtain ⟨h0,h1⟩:=k2 n h0 h1
 have h5:=p.r 0 Z
 replace q:=q.fr m
 replace d:=d.fr m.size
 replace j:=j.tr (m.ch noB) fun _ h=>False.elim h
 obtain ⟨rl1,q2,c⟩:=zA6 c
 replace q2:=q2 Z
 refine HT.cut0 (fun R w=>∃ A:Av,∃ (s3:Int × (List zA4)) (So_v0:Nat→Prop),rl1=s3∧AvOK A w∧Ch S0 w0 w∧(∀ b o,A0 b o→A b o)∧IniOK [⟨v0,So_v0,trR (fun k=>w0.heap.size≤k∨S0 k) (oSl 51 (oPr (oRd (eInt .i64)) (oPr (oRd (eInt .i64)) (oPr (oRd (eInt .i64)) (oSl 9 (oRd eStr)))))) s3.2 []⟩] A w∧R 1 = .int .i64 s3.1) ?_ ?_
 refine HT.block ?_
 refine HT.loop (fun k R w=>∃ A:Av,∃ (y4:Int) (y5:Int) (y6:List zA4) (Sl_v0:Nat→Prop),zBN fu k y4 y5 y6=some rl1∧AvOK A w∧Ch S0 w0 w∧(∀ b o,A0 b o→A b o)∧IniOK [⟨v0,Sl_v0,trR (fun k=>w0.heap.size≤k∨S0 k) (oSl 51 (oPr (oRd (eInt .i64)) (oPr (oRd (eInt .i64)) (oPr (oRd (eInt .i64)) (oSl 9 (oRd eStr)))))) y6 []⟩] A w∧R 0=v0∧R 1 = .int .i64 y4∧R 5 = .int .i64 y5) fu ⟨_,_,_,_,S0,q2,d,j,B,q,h0,h1,h5⟩ ?_
 have hr0:=c;clear c q2
 rintro k R w ⟨A,y4,y5,y6,Sl_v0,c,d,j,B,q,h0,h1,h5⟩
 rcases k with _ | k
 cases (show none=some _ from c)
 rw [zBN] at c
 refine HT.seq ?_
 refine HT.seq ?_
 refine HT.t (eI y5::eR v0::eI (y6.length:Int)::eB (decide (y5<(y6.length:Int)))::[]) ?_ ?_
 exact om h5<|om h0<|op (fun Q U W H D=>zNS (zBW (q.own 0 _ Z).2) (D.g 0 Z) underlying26)<|op (fun Q U W H D=>zAZ (D.g 0 Z) (D.g 1 Z))<|oz
 intro R w m n p
 obtain ⟨h0,h1,h5⟩:=k3 n h0 h1 h5
 have h9:=p.r 3 Z
 replace q:=q.fr m
 replace d:=d.fr m.size
 replace j:=j.tr (m.ch noB) fun _ h=>False.elim h
 refine HT.cond (decide (y5<(y6.length:Int))) h9 (fun c7=>?_) (fun c7=>?_)
 have c:=zAH c7 c
 refine HT.skip ?_
 refine HT.seq ?_
 refine HT.block ?_
 obtain ⟨e8,c⟩:=zA5 c
 refine HT.sx [⟨v0,Sl_v0,trR (fun k=>w0.heap.size≤k∨S0 k) (oSl 51 (oPr (oRd (eInt .i64)) (oPr (oRd (eInt .i64)) (oPr (oRd (eInt .i64)) (oSl 9 (oRd eStr)))))) y6 []⟩] (rR v0::rI y5::rI y4::rR (vptr v0 (y5.toNat*4))::rR (vptr v0 (y5.toNat*4))::⟨_,true,[0],some (trR (fun k=>w0.heap.size≤k∨S0 k) (oSl 51 (oPr (oRd (eInt .i64)) (oPr (oRd (eInt .i64)) (oPr (oRd (eInt .i64)) (oSl 9 (oRd eStr)))))) (y6.set y5.toNat (y4,(gtD y6 y5).2.1,(gtD y6 y5).2.2.1,(gtD y6 y5).2.2.2)) []),false,fun A=>.any⟩::[]) (ur (ur (ur (ur (ur (ua (UAll.nil))))))) q d ?_ ?_
 exact rm h0<|rm h5<|rm h1<|rp (fun V Q U O D=>zDY (zBW (q.own 0 _ Z).2) (D.g 0 Z) (D.g 1 Z) underlying26 sizeOf51 e8 Z)<|rp (fun V Q U O D=>zBb (((zBW (q.own 0 _ Z).2).elem e8 Z)).ad (D.g 0 Z) zHb sizeOf3 (by decide) (zJz (((zBW (q.own 0 _ Z).2).elem e8 Z)).ad))<|rc (OblR.tookS 0 _ _ Z Z Z Z Z fun V Q U O D u S X I Y J L M=>by have a0:Q 16=(vptr v0 (y5.toNat*4)):=D.g 0 Z;have a1:Q 14 = .int .i64 y4:=D.g 1 Z;have e0:=(J _ Z).1;rw [e0] at I ⊢;exact zEb (((zBW I.2).elem e8 Z)).fst (zBs.eq a1) a0 Y I.1 sizeOf3 (fun _ _ _ h=>h))<|rz
 intro done ρ σ A R w y s
 obtain ⟨h0,h1,h5⟩:=k3 s.rg h0 h1 h5
 have z9:=s.inivR 0 Z
 have z10:=s.on y 6 5 Z Z Z Z Z z9
 obtain ⟨S11,eS_v0⟩:∃ S,σ 6=S:=⟨_,Z⟩
 replace B:=s.lowK B C K (q.geK (⟨fun _ h=>h,N⟩))
 replace j:Ch S0 w0 w:=j.tr s.ch (q.geK (⟨fun _ h=>h,N⟩))
 replace q:=s.left y [(6,⟨v0,S11,trR (fun k=>w0.heap.size≤k∨S0 k) (oSl 51 (oPr (oRd (eInt .i64)) (oPr (oRd (eInt .i64)) (oPr (oRd (eInt .i64)) (oSl 9 (oRd eStr)))))) (y6.set y5.toNat (y4,(gtD y6 y5).2.1,(gtD y6 y5).2.2.1,(gtD y6 y5).2.2.2)) []⟩)] ⟨Z,Z,z10,eS_v0,Z,N⟩
 replace d:=s.avok
 refine HT.seq ?_
 obtain ⟨e12,c⟩:=zA5 c
 refine HT.t (eI y4::eI (y4+1)::eI (y4+1)::[]) ?_ ?_
 exact om h1<|op (fun Q U W H D=>zAP (D.g 0 Z) Z e12)<|oa<|oz
 intro R w m n p
 obtain ⟨h0,h5⟩:=k2 n h0 h5
 have h1:=p.r 2 Z
 replace q:=q.fr m
 replace d:=d.fr m.size
 replace j:=j.tr (m.ch noB) fun _ h=>False.elim h
 obtain ⟨e13,c⟩:=zA5 c
 refine HT.sx [⟨v0,S11,trR (fun k=>w0.heap.size≤k∨S0 k) (oSl 51 (oPr (oRd (eInt .i64)) (oPr (oRd (eInt .i64)) (oPr (oRd (eInt .i64)) (oSl 9 (oRd eStr)))))) (y6.set y5.toNat (y4,(gtD y6 y5).2.1,(gtD y6 y5).2.2.1,(gtD y6 y5).2.2.2)) []⟩] (rR v0::rI y5::rI (y4+1)::rR (vptr v0 (y5.toNat*4))::rR (vptr v0 (y5.toNat*4+1))::⟨_,true,[0],some (trR (fun k=>w0.heap.size≤k∨S0 k) (oSl 51 (oPr (oRd (eInt .i64)) (oPr (oRd (eInt .i64)) (oPr (oRd (eInt .i64)) (oSl 9 (oRd eStr)))))) ((y6.set y5.toNat (y4,(gtD y6 y5).2.1,(gtD y6 y5).2.2.1,(gtD y6 y5).2.2.2)).set y5.toNat ((gtD (y6.set y5.toNat (y4,(gtD y6 y5).2.1,(gtD y6 y5).2.2.1,(gtD y6 y5).2.2.2)) y5).1,(y4+1),(gtD (y6.set y5.toNat (y4,(gtD y6 y5).2.1,(gtD y6 y5).2.2.1,(gtD y6 y5).2.2.2)) y5).2.2.1,(gtD (y6.set y5.toNat (y4,(gtD y6 y5).2.1,(gtD y6 y5).2.2.1,(gtD y6 y5).2.2.2)) y5).2.2.2)) []),false,fun A=>.any⟩::[]) (ur (ur (ur (ur (ur (ua (UAll.nil))))))) q d ?_ ?_
 exact rm h0<|rm h5<|rm h1<|rp (fun V Q U O D=>zDY (zBW (q.own 0 _ Z).2) (D.g 0 Z) (D.g 1 Z) underlying26 sizeOf51 e13 Z)<|rp (fun V Q U O D=>zBb (((zBW (q.own 0 _ Z).2).elem e13 Z)).ad (D.g 0 Z) zHW sizeOf3 (by decide) (zDO _ _ _))<|rc (OblR.tookS 0 _ _ Z Z Z Z Z fun V Q U O D u S X I Y J L M=>by have a0:Q 23=(vptr v0 (y5.toNat*4+1)):=D.g 0 Z;have a1:Q 21 = .int .i64 (y4+1):=D.g 1 Z;have e0:=(J _ Z).1;rw [e0] at I ⊢;exact zEb ((((zBW I.2).elem e13 Z)).snd (zDO _ _ _)).fst (zBs.eq a1) a0 Y I.1 sizeOf3 (fun _ _ _ h=>h))<|rz
 intro done ρ σ A R w y s
 obtain ⟨h0,h1,h5⟩:=k3 s.rg h0 h1 h5
 have z14:=s.inivR 0 Z
 have z15:=s.on y 6 5 Z Z Z Z Z z14
 obtain ⟨S16,eS_v0⟩:∃ S,σ 6=S:=⟨_,Z⟩
 replace B:=s.lowK B C K (q.geK (⟨fun _ h=>h,N⟩))
 replace j:Ch S0 w0 w:=j.tr s.ch (q.geK (⟨fun _ h=>h,N⟩))
 replace q:=s.left y [(6,⟨v0,S16,trR (fun k=>w0.heap.size≤k∨S0 k) (oSl 51 (oPr (oRd (eInt .i64)) (oPr (oRd (eInt .i64)) (oPr (oRd (eInt .i64)) (oSl 9 (oRd eStr)))))) ((y6.set y5.toNat (y4,(gtD y6 y5).2.1,(gtD y6 y5).2.2.1,(gtD y6 y5).2.2.2)).set y5.toNat ((gtD (y6.set y5.toNat (y4,(gtD y6 y5).2.1,(gtD y6 y5).2.2.1,(gtD y6 y5).2.2.2)) y5).1,(y4+1),(gtD (y6.set y5.toNat (y4,(gtD y6 y5).2.1,(gtD y6 y5).2.2.1,(gtD y6 y5).2.2.2)) y5).2.2.1,(gtD (y6.set y5.toNat (y4,(gtD y6 y5).2.1,(gtD y6 y5).2.2.1,(gtD y6 y5).2.2.2)) y5).2.2.2)) []⟩)] ⟨Z,Z,z15,eS_v0,Z,N⟩
 replace d:=s.avok
 obtain ⟨Yg16,g_Yg16⟩:∃ z:List zA4,z=((y6.set y5.toNat (y4,(gtD y6 y5).2.1,(gtD y6 y5).2.2.1,(gtD y6 y5).2.2.2)).set y5.toNat ((gtD (y6.set y5.toNat (y4,(gtD y6 y5).2.1,(gtD y6 y5).2.2.1,(gtD y6 y5).2.2.2)) y5).1,(y4+1),(gtD (y6.set y5.toNat (y4,(gtD y6 y5).2.1,(gtD y6 y5).2.2.1,(gtD y6 y5).2.2.2)) y5).2.2.1,(gtD (y6.set y5.toNat (y4,(gtD y6 y5).2.1,(gtD y6 y5).2.2.1,(gtD y6 y5).2.2.2)) y5).2.2.2)):=⟨_,Z⟩
 rw [← g_Yg16] at q
 try rw [← g_Yg16] at c
 refine HT.seq ?_
 obtain ⟨e18,c⟩:=zA5 c
 refine HT.t (eI (y4+1)::eI ((y4+1)+1)::eI ((y4+1)+1)::[]) ?_ ?_
 exact om h1<|op (fun Q U W H D=>zAP (D.g 0 Z) Z e18)<|oa<|oz
 intro R w m n p
 obtain ⟨h0,h5⟩:=k2 n h0 h5
 have h1:=p.r 2 Z
 replace q:=q.fr m
 replace d:=d.fr m.size
 replace j:=j.tr (m.ch noB) fun _ h=>False.elim h
 obtain ⟨e19,c⟩:=zA5 c
 refine HT.sx [⟨v0,S16,trR (fun k=>w0.heap.size≤k∨S0 k) (oSl 51 (oPr (oRd (eInt .i64)) (oPr (oRd (eInt .i64)) (oPr (oRd (eInt .i64)) (oSl 9 (oRd eStr)))))) Yg16 []⟩] (rR v0::rI y5::rI ((y4+1)+1)::rR (vptr v0 (y5.toNat*4))::rR (vptr v0 (y5.toNat*4+2))::⟨_,true,[0],some (trR (fun k=>w0.heap.size≤k∨S0 k) (oSl 51 (oPr (oRd (eInt .i64)) (oPr (oRd (eInt .i64)) (oPr (oRd (eInt .i64)) (oSl 9 (oRd eStr)))))) (Yg16.set y5.toNat ((gtD Yg16 y5).1,(gtD Yg16 y5).2.1,((y4+1)+1),(gtD Yg16 y5).2.2.2)) []),false,fun A=>.any⟩::[]) (ur (ur (ur (ur (ur (ua (UAll.nil))))))) q d ?_ ?_
 exact rm h0<|rm h5<|rm h1<|rp (fun V Q U O D=>zDY (zBW (q.own 0 _ Z).2) (D.g 0 Z) (D.g 1 Z) underlying26 sizeOf51 e19 Z)<|rp (fun V Q U O D=>zBb (((zBW (q.own 0 _ Z).2).elem e19 Z)).ad (D.g 0 Z) zHL sizeOf3 (by decide) (zDO _ _ _))<|rc (OblR.tookS 0 _ _ Z Z Z Z Z fun V Q U O D u S X I Y J L M=>by have a0:Q 30=(vptr v0 (y5.toNat*4+2)):=D.g 0 Z;have a1:Q 28 = .int .i64 ((y4+1)+1):=D.g 1 Z;have e0:=(J _ Z).1;rw [e0] at I ⊢;exact zEb (((((zBW I.2).elem e19 Z)).snd (zDO _ _ _)).snd (zDO _ _ _)).fst (zBs.eq a1) a0 Y I.1 sizeOf3 (fun _ _ _ h=>h))<|rz
 intro done ρ σ A R w y s
 obtain ⟨h0,h1,h5⟩:=k3 s.rg h0 h1 h5
 have z20:=s.inivR 0 Z
 have z21:=s.on y 6 5 Z Z Z Z Z z20
 obtain ⟨S22,eS_v0⟩:∃ S,σ 6=S:=⟨_,Z⟩
 replace B:=s.lowK B C K (q.geK (⟨fun _ h=>h,N⟩))
 replace j:Ch S0 w0 w:=j.tr s.ch (q.geK (⟨fun _ h=>h,N⟩))
 replace q:=s.left y [(6,⟨v0,S22,trR (fun k=>w0.heap.size≤k∨S0 k) (oSl 51 (oPr (oRd (eInt .i64)) (oPr (oRd (eInt .i64)) (oPr (oRd (eInt .i64)) (oSl 9 (oRd eStr)))))) (Yg16.set y5.toNat ((gtD Yg16 y5).1,(gtD Yg16 y5).2.1,((y4+1)+1),(gtD Yg16 y5).2.2.2)) []⟩)] ⟨Z,Z,z21,eS_v0,Z,N⟩
 replace d:=s.avok
 obtain ⟨Yg22,g_Yg22⟩:∃ z:List zA4,z=(Yg16.set y5.toNat ((gtD Yg16 y5).1,(gtD Yg16 y5).2.1,((y4+1)+1),(gtD Yg16 y5).2.2.2)):=⟨_,Z⟩
 rw [← g_Yg22] at q
 try rw [← g_Yg22] at c
 refine HT.seq ?_
 obtain ⟨e24,c⟩:=zA5 c
 refine HT.t (eI ((y4+1)+1)::eI (((y4+1)+1)+1)::eI (((y4+1)+1)+1)::[]) ?_ ?_
 exact om h1<|op (fun Q U W H D=>zAP (D.g 0 Z) Z e24)<|oa<|oz
 intro R w m n p
 obtain ⟨h0,h5⟩:=k2 n h0 h5
 have h1:=p.r 2 Z
 replace q:=q.fr m
 replace d:=d.fr m.size
 replace j:=j.tr (m.ch noB) fun _ h=>False.elim h
 obtain ⟨e25,c⟩:=zA5 c
 obtain ⟨h26,p_h26⟩:=(((((((zBW (q.own 0 _ Z).2).elem e25 Z)).snd (zDO _ _ _)).snd (zDO _ _ _)).snd (zDO _ _ _))).open1 Z
 replace q:IniOK [⟨v0,S22,trR (fun k=>w0.heap.size≤k∨S0 k) (oSl 51 (oPr (oRd (eInt .i64)) (oPr (oRd (eInt .i64)) (oPr (oRd (eInt .i64)) (oSl 9 (oRd eStr)))))) Yg22 [((vptr v0 (y5.toNat*4+3)),[h26])]⟩] A w:=q.repin 0 Z (trP.pin p_h26)
 obtain ⟨x28,q29,c⟩:=zA6 c
 refine HT.x [⟨v0,S22,trR (fun k=>w0.heap.size≤k∨S0 k) (oSl 51 (oPr (oRd (eInt .i64)) (oPr (oRd (eInt .i64)) (oPr (oRd (eInt .i64)) (oSl 9 (oRd eStr)))))) Yg22 [((vptr v0 (y5.toNat*4+3)),[h26])]⟩] (rR v0::rI y5::rR (vptr v0 (y5.toNat*4))::rR (vptr v0 (y5.toNat*4+3))::rR h26::rI (((y4+1)+1)+1)::⟨_,true,[0],some (trR (fun k=>w0.heap.size≤k∨S0 k) (oSl 51 (oPr (oRd (eInt .i64)) (oPr (oRd (eInt .i64)) (oPr (oRd (eInt .i64)) (oSl 9 (oRd eStr)))))) (Yg22.set y5.toNat ((gtD Yg22 y5).1,(gtD Yg22 y5).2.1,(gtD Yg22 y5).2.2.1,x28.2)) []),false,fun A=>.raw (.int .i64 x28.1)⟩::rI x28.1::[]) (ur (ur (ur (ur (ur (ur (ur (ur (UAll.nil))))))))) q d ?_ ?_
 exact rm h0<|rm h5<|rp (fun V Q U O D=>zDY (zBW (q.own 0 _ Z).2) (D.g 0 Z) (D.g 1 Z) underlying26 sizeOf51 e25 Z)<|rp (fun V Q U O D=>zBb (((zBW (q.own 0 _ Z).2).elem e25 Z)).ad (D.g 0 Z) zCs sizeOf34 (by decide) (zDO _ _ _))<|rp (fun V Q U O D=>zIC ((O.rdo 0 _ Z Z).2.2 _ (.head _)) (D.g 0 Z) isAgg34 sizeOf34)<|rm h1<|rc (OblR.tookS 0 _ _ Z Z Z Z Z fun V Q U O D u S X I Y J L M=>by have a0:Q 37=h26:=D.g 0 Z;have a1:Q 38 = .int .i64 (((y4+1)+1)+1):=D.g 1 Z;have e0:=(J _ Z).1;rw [e0] at I ⊢;have hu0:zAD Q (.tmp 37)=h26:=a0;exact zIu call22 ((((((((zBW I.2).elem e25 Z)).snd (zDO _ _ _)).snd (zDO _ _ _)).snd (zDO _ _ _))).pin (I.2.2 _ (.head _)) Z) Y I.1 (fun k hk=>.inl (Nat.le_trans (Nat.le_trans j.size O.ch.size) hk)) (fun k hk=>SP.lt _ I.2 hk) (fun S1 hS1 hP=>by simp only [List.map,hu0];exact Calls.mono (zFy (q29 Z) (O.av.subS _) (fun b o h hb=>h.2 ((zLc (fun _ _ _ _ _ h=>h) hP) ▸ hb)) (zKa (fun _ _ _ _ _ h=>h) hP).1 a1) (fun _ _ ⟨v,h1,h2⟩=>⟨v,h1,zKk (fun _ _ _ _ _ h=>h) hP h2 (zLc (fun _ _ _ _ _ h=>h) hP)⟩)) (fun _ _ _ h=>h))<|ra<|rz
 intro done ρ σ A R w y s
 obtain ⟨h0,h5⟩:=k2 s.rg h0 h5
 have z30:=s.inivR 0 Z
 have z31:=s.on y 7 6 Z Z Z Z Z z30
 obtain ⟨S32,eS_v0⟩:∃ S,σ 7=S:=⟨_,Z⟩
 have h1:=s.r y 7 Z
 replace B:=s.lowK B C K (q.geK (⟨fun _ h=>h,N⟩))
 replace j:Ch S0 w0 w:=j.tr s.ch (q.geK (⟨fun _ h=>h,N⟩))
 replace q:=s.left y [(7,⟨v0,S32,trR (fun k=>w0.heap.size≤k∨S0 k) (oSl 51 (oPr (oRd (eInt .i64)) (oPr (oRd (eInt .i64)) (oPr (oRd (eInt .i64)) (oSl 9 (oRd eStr)))))) (Yg22.set y5.toNat ((gtD Yg22 y5).1,(gtD Yg22 y5).2.1,(gtD Yg22 y5).2.2.1,x28.2)) []⟩)] ⟨Z,Z,z31,eS_v0,Z,N⟩
 replace d:=s.avok
 obtain ⟨e33,c⟩:=zA5 c
 refine HT.t (eI y5::eI (y5+1)::eI (y5+1)::[]) ?_ ?_
 exact om h5<|op (fun Q U W H D=>zAP (D.g 0 Z) Z e33)<|oa<|oz
 intro R w m n p
 obtain ⟨h0,h1⟩:=k2 n h0 h1
 have h5:=p.r 2 Z
 replace q:=q.fr m
 replace d:=d.fr m.size
 replace j:=j.tr (m.ch noB) fun _ h=>False.elim h
 exact ei k (And.intro (Nat.lt_succ_self k) ⟨_,_,_,_,S32,c,d,j,B,q,h0,h1,h5⟩)
 have c:=zAI c7 c
 refine HT.exit ?_
 obtain rfl:=si c
 exact ei _ ⟨_,Sl_v0,Z,d,j,B,q,h1⟩
 rintro R w ⟨A,s3,So_v0,es,d,j,B,q,h1⟩
 obtain rfl:=es.symm
 refine HT.seq ?_
 refine HT.t (eI s3.1::eI s3.1::[]) ?_ ?_
 exact om h1<|oa<|oz
 intro R w m n p
 have h4:=p.r 1 Z
 replace q:=q.fr m
 replace d:=d.fr m.size
 replace j:=j.tr (m.ch noB) fun _ h=>False.elim h
 refine HT.ret ?_
 obtain rfl:=si c
 exact ⟨.inr Z,[R 4],⟨Z,N⟩,h4,zN5 Z (q.own 0 _ Z) (q.ok 0 _ Z).2 B j⟩
def zBO (fu : Nat) : Nat → Int → Int → (List zA3) → Option (Int × (List zA3))
 | 0,_,_,_=>none
 | k+1,y4,y5,y6=>
 bif (decide (y5<(y6.length:Int))) then (
 ck (inR y5 y6.length) <|
 ck (i64B (y4+1)) <|
 ck (inR y5 (y6.set y5.toNat (y4,(gtD y6 y5).2)).length) <|
 ck (i64B ((y4+1)+1)) <|
 ck (i64B (y5+1)) <|
 zBO fu k ((y4+1)+1) (y5+1) ((y6.set y5.toNat (y4,(gtD y6 y5).2)).set y5.toNat ((gtD (y6.set y5.toNat (y4,(gtD y6 y5).2)) y5).1,(y4+1)))
 ) else (
 some (y4,y6)
 )
def zCL (fu:Nat) (p0:List zA3) (p1:Int):Option (Int × List zA3):=
 cl true (zBO fu fu p1 0 p0) fun s3=>
 some (s3.1,s3.2)
theorem zG0 {fu : Nat} {A0 : Av} {p0 : List zA3} {p1 : Int} {r : Int × List zA3} (c : zCL fu p0 p1 = some r) {w : World} {v0 : Value} {v1 : Value} {B0 : Nat} (d : AvOK A0 w) (K : ∀ b o, A0 b o → ¬ zAL v0 b) (h0 : (Res.vec B0 48 zA1 p0).ok A0 v0 w) (h1 : v1 = .int .i64 p1) :
 Calls prog 27 #[v0,v1] w fun e w'=>∃ v,e = .returned v∧(v = .int .i64 r.1∧(Res.vec B0 48 zA1 r.2).ok A0 v0 w'∧Ch (zAL v0) w w'):=by
 unfold zCL at c
 obtain ⟨w0,hw0,C⟩:=pc d
 have j:Ch (zAL v0) w0 w:=hw0 ▸ Ch.refl _ _
 have hA00:AvOK A0 w0:=C
 rw [show Ch (zAL v0) w=Ch (zAL v0) w0 from hw0 ▸ Z]
 obtain ⟨A,hAe⟩:∃ A,A=addA A0 v0:=⟨_,Z⟩
 have B:∀ b o,A0 b o→A b o:=fun b o h=>hAe ▸ .inl h
 replace d:AvOK A w:=hAe ▸ d.one h0
 have q:IniOK [ob v0 (.vec B0 48 zA1 p0)] A w:=hAe ▸ IniOK.one h0 (fun _ _ _ _ _ h=>h)
 refine zA7 [.tmp 4] func27 ntmps27 (by decide) Z Z (nb Z) ?_
 intro R hR
 replace h0:R 0=v0:=hR 0 _ Z
 replace h1:R 1 = .int .i64 p1:=(hR 1 _ Z).trans h1
 refine HT.seq ?_
 refine HT.t (eI 0::[]) ?_ ?_
 exact op (fun Q U W H D=>zA0 Z)<|oz
 intro R w m n p
 obtain ⟨h0,h1⟩:=k2 n h0 h1
 replace q:=q.fr m
 replace d:=d.fr m.size
 replace j:=j.tr (m.ch noB) fun _ h=>False.elim h
 refine HT.seq ?_
 refine HT.seq ?_
 refine HT.t (eI 0::[]) ?_ ?_
 exact op (fun Q U W H D=>zA0 Z)<|oz
 intro R w m n p
 obtain ⟨h0,h1⟩:=k2 n h0 h1
 have h5:=p.r 0 Z
 replace q:=q.fr m
 replace d:=d.fr m.size
 replace j:=j.tr (m.ch noB) fun _ h=>False.elim h
 obtain ⟨rl1,q2,c⟩:=zA6 c
 replace q2:=q2 Z
 refine HT.cut0 (fun R w=>∃ A:Av,∃ (s3:Int × (List zA3)),rl1=s3∧AvOK A w∧Ch (zAL v0) w0 w∧(∀ b o,A0 b o→A b o)∧IniOK [ob v0 (.vec B0 48 zA1 s3.2)] A w∧R 1 = .int .i64 s3.1) ?_ ?_
 refine HT.block ?_
 refine HT.loop (fun k R w=>∃ A:Av,∃ (y4:Int) (y5:Int) (y6:List zA3),zBO fu k y4 y5 y6=some rl1∧AvOK A w∧Ch (zAL v0) w0 w∧(∀ b o,A0 b o→A b o)∧IniOK [ob v0 (.vec B0 48 zA1 y6)] A w∧R 0=v0∧R 1 = .int .i64 y4∧R 5 = .int .i64 y5) fu ⟨_,_,_,_,q2,d,j,B,q,h0,h1,h5⟩ ?_
 have hr0:=c;clear c q2
 rintro k R w ⟨A,y4,y5,y6,c,d,j,B,q,h0,h1,h5⟩
 rcases k with _ | k
 cases (show none=some _ from c)
 rw [zBO] at c
 refine HT.seq ?_
 refine HT.seq ?_
 refine HT.t (eI y5::eR v0::eI (y6.length:Int)::eB (decide (y5<(y6.length:Int)))::[]) ?_ ?_
 exact om h5<|om h0<|op (fun Q U W H D=>zBa (q.ok 0 _ Z).1 (D.g 0 Z) underlying39)<|op (fun Q U W H D=>zAZ (D.g 0 Z) (D.g 1 Z))<|oz
 intro R w m n p
 obtain ⟨h0,h1,h5⟩:=k3 n h0 h1 h5
 have h9:=p.r 3 Z
 replace q:=q.fr m
 replace d:=d.fr m.size
 replace j:=j.tr (m.ch noB) fun _ h=>False.elim h
 refine HT.cond (decide (y5<(y6.length:Int))) h9 (fun c7=>?_) (fun c7=>?_)
 have c:=zAH c7 c
 refine HT.skip ?_
 refine HT.seq ?_
 refine HT.block ?_
 obtain ⟨e8,c⟩:=zA5 c
 refine HT.sx [ob v0 (.vec B0 48 zA1 y6)] (rR v0::rI y5::rI y4::rR (vptr v0 (y5.toNat*2))::rR (vptr v0 (y5.toNat*2+0))::⟨_,true,[0],some (.vec B0 48 zA1 (y6.set y5.toNat (y4,(gtD y6 y5).2))),false,fun A=>.any⟩::[]) (ur (ur (ur (ur (ur (ua (UAll.nil))))))) q d ?_ ?_
 exact rm h0<|rm h5<|rm h1<|rp (fun V Q U O D=>zAR (q.ok 0 _ Z).1 (D.g 0 Z) (D.g 1 Z) underlying39 sizeOf48 e8 Z)<|rp (fun V Q U O D=>zDD (O.rd 0 _ Z Z) (zK0 e8) (D.g 0 Z) zFp sizeOf3 (by decide) Z)<|rc (OblR.took 0 _ _ Z Z Z Z Z fun V Q U O D u X Y J L M=>by have a0:Q 16=(vptr v0 (y5.toNat*2+0)):=D.g 0 Z;have a1:Q 14 = .int .i64 y4:=D.g 1 Z;obtain rfl:=J _ Z;exact zE1 (zBs.eq a1) X Y a0 e8 Z zHj sizeOf3 Z)<|rz
 intro done ρ σ A R w y s
 obtain ⟨h0,h1,h5⟩:=k3 s.rg h0 h1 h5
 have z9:=s.inivR 0 Z
 have z10:=s.on y 6 5 Z Z Z Z Z z9
 replace B:=s.lowK B C K (q.geK (⟨.inr (fun k h=>.inr h),N⟩))
 replace j:Ch (zAL v0) w0 w:=j.tr s.ch (q.geK (⟨.inr (fun k h=>.inr h),N⟩))
 replace q:=s.left y [(6,ob v0 (.vec B0 48 zA1 (y6.set y5.toNat (y4,(gtD y6 y5).2))))] ⟨Z,Z,z10,Z,Z,N⟩
 replace d:=s.avok
 refine HT.seq ?_
 obtain ⟨e11,c⟩:=zA5 c
 refine HT.t (eI y4::eI (y4+1)::eI (y4+1)::[]) ?_ ?_
 exact om h1<|op (fun Q U W H D=>zAP (D.g 0 Z) Z e11)<|oa<|oz
 intro R w m n p
 obtain ⟨h0,h5⟩:=k2 n h0 h5
 have h1:=p.r 2 Z
 replace q:=q.fr m
 replace d:=d.fr m.size
 replace j:=j.tr (m.ch noB) fun _ h=>False.elim h
 obtain ⟨e12,c⟩:=zA5 c
 refine HT.sx [ob v0 (.vec B0 48 zA1 (y6.set y5.toNat (y4,(gtD y6 y5).2)))] (rR v0::rI y5::rI (y4+1)::rR (vptr v0 (y5.toNat*2))::rR (vptr v0 (y5.toNat*2+1))::⟨_,true,[0],some (.vec B0 48 zA1 ((y6.set y5.toNat (y4,(gtD y6 y5).2)).set y5.toNat ((gtD (y6.set y5.toNat (y4,(gtD y6 y5).2)) y5).1,(y4+1)))),false,fun A=>.any⟩::[]) (ur (ur (ur (ur (ur (ua (UAll.nil))))))) q d ?_ ?_
 exact rm h0<|rm h5<|rm h1<|rp (fun V Q U O D=>zAR (q.ok 0 _ Z).1 (D.g 0 Z) (D.g 1 Z) underlying39 sizeOf48 e12 Z)<|rp (fun V Q U O D=>zDD (O.rd 0 _ Z Z) (zK0 e12) (D.g 0 Z) zHT sizeOf3 (by decide) Z)<|rc (OblR.took 0 _ _ Z Z Z Z Z fun V Q U O D u X Y J L M=>by have a0:Q 23=(vptr v0 (y5.toNat*2+1)):=D.g 0 Z;have a1:Q 21 = .int .i64 (y4+1):=D.g 1 Z;obtain rfl:=J _ Z;exact zE1 (zBs.eq a1) X Y a0 e12 Z zHp sizeOf3 Z)<|rz
 intro done ρ σ A R w y s
 obtain ⟨h0,h1,h5⟩:=k3 s.rg h0 h1 h5
 have z13:=s.inivR 0 Z
 have z14:=s.on y 6 5 Z Z Z Z Z z13
 replace B:=s.lowK B C K (q.geK (⟨.inr (fun k h=>.inr h),N⟩))
 replace j:Ch (zAL v0) w0 w:=j.tr s.ch (q.geK (⟨.inr (fun k h=>.inr h),N⟩))
 replace q:=s.left y [(6,ob v0 (.vec B0 48 zA1 ((y6.set y5.toNat (y4,(gtD y6 y5).2)).set y5.toNat ((gtD (y6.set y5.toNat (y4,(gtD y6 y5).2)) y5).1,(y4+1)))))] ⟨Z,Z,z14,Z,Z,N⟩
 replace d:=s.avok
 obtain ⟨Yg14,g_Yg14⟩:∃ z:List zA3,z=((y6.set y5.toNat (y4,(gtD y6 y5).2)).set y5.toNat ((gtD (y6.set y5.toNat (y4,(gtD y6 y5).2)) y5).1,(y4+1))):=⟨_,Z⟩
 rw [← g_Yg14] at q
 try rw [← g_Yg14] at c
 obtain ⟨e16,c⟩:=zA5 c
 refine HT.t (eI (y4+1)::eI ((y4+1)+1)::eI ((y4+1)+1)::[]) ?_ ?_
 exact om h1<|op (fun Q U W H D=>zAP (D.g 0 Z) Z e16)<|oa<|oz
 intro R w m n p
 obtain ⟨h0,h5⟩:=k2 n h0 h5
 have h1:=p.r 2 Z
 replace q:=q.fr m
 replace d:=d.fr m.size
 replace j:=j.tr (m.ch noB) fun _ h=>False.elim h
 obtain ⟨e17,c⟩:=zA5 c
 refine HT.t (eI y5::eI (y5+1)::eI (y5+1)::[]) ?_ ?_
 exact om h5<|op (fun Q U W H D=>zAP (D.g 0 Z) Z e17)<|oa<|oz
 intro R w m n p
 obtain ⟨h0,h1⟩:=k2 n h0 h1
 have h5:=p.r 2 Z
 replace q:=q.fr m
 replace d:=d.fr m.size
 replace j:=j.tr (m.ch noB) fun _ h=>False.elim h
 exact ei k (And.intro (Nat.lt_succ_self k) ⟨_,_,_,_,c,d,j,B,q,h0,h1,h5⟩)
 have c:=zAI c7 c
 refine HT.exit ?_
 obtain rfl:=si c
 exact ei _ ⟨_,Z,d,j,B,q,h1⟩
 rintro R w ⟨A,s3,es,d,j,B,q,h1⟩
 obtain rfl:=es.symm
 refine HT.seq ?_
 refine HT.t (eI s3.1::eI s3.1::[]) ?_ ?_
 exact om h1<|oa<|oz
 intro R w m n p
 have h4:=p.r 1 Z
 replace q:=q.fr m
 replace d:=d.fr m.size
 replace j:=j.tr (m.ch noB) fun _ h=>False.elim h
 refine HT.ret ?_
 obtain rfl:=si c
 exact ⟨.inr Z,[R 4],⟨Z,N⟩,h4,Vec.flat (q.ok 0 _ Z).1 (fun _ _ _ _ _ h=>h),j⟩
def zBQ (fu : Nat) (p0 : List zA3) : Nat → Int → Int → Option (Ex Int Int)
 | 0,_,_=>none
 | k+1,y4,y5=>
 bif (decide (y5<(p0.length:Int))) then (
 ck (inR y5 p0.length) <|
 bif (((gtD p0 y5).1) != y4) then (
 some (Ex.ret (-1))
 ) else (
 ck (i64B (y4+1)) <|
 ck (inR y5 p0.length) <|
 bif (((gtD p0 y5).2) != (y4+1)) then (
 some (Ex.ret (-1))
 ) else (
 ck (i64B ((y4+1)+1)) <|
 ck (i64B (y5+1)) <|
 zBQ fu p0 k ((y4+1)+1) (y5+1)
 )
 )
 ) else (
 some (Ex.go y4)
 )
def zBt (fu:Nat) (p0:List zA3) (p1:Int):Option Int:=
 cl true (zBQ fu p0 fu p1 0) fun rl1=>
 exM rl1 (fun r=>some r) fun s3=>
 some s3
theorem zEi {fu : Nat} {A : Av} {p0 : List zA3} {p1 : Int} {r : Int} (c : zBt fu p0 p1 = some r) {w : World} {v0 : Value} {v1 : Value} (d : AvOK A w) (h0 : Rep (eSl zA1) A w v0 p0) (h1 : v1 = .int .i64 p1) :
 Calls prog 28 #[v0,v1] w fun e w'=>∃ v,e = .returned v∧(v = .int .i64 r∧Fr w w'):=by
 unfold zBt at c
 obtain ⟨w0,hw0,j⟩:=pf w
 rw [fw hw0]
 refine zA7 [.tmp 4] func28 ntmps28 (by decide) Z Z (nb Z) ?_
 intro R hR
 have f_v0:=h0
 replace h0:R 0=v0:=hR 0 _ Z
 replace h1:R 1 = .int .i64 p1:=(hR 1 _ Z).trans h1
 refine HT.su d j (eI 0::[]) ?_ ?_
 exact op (fun Q U W H D=>zA0 Z)<|oz
 intro R w m n p d j
 obtain ⟨h0,h1⟩:=k2 n h0 h1
 replace f_v0:=f_v0.fr m
 refine HT.seq ?_
 refine HT.su d j (eI 0::[]) ?_ ?_
 exact op (fun Q U W H D=>zA0 Z)<|oz
 intro R w m n p d j
 obtain ⟨h0,h1⟩:=k2 n h0 h1
 have h5:=p.r 0 Z
 replace f_v0:=f_v0.fr m
 obtain ⟨rl1,q2,c⟩:=zA6 c
 replace q2:=q2 Z
 refine HT.cut0 (fun R w=>∃ (s3:Int),rl1=Ex.go s3∧AvOK A w∧Fr w0 w∧R 1 = .int .i64 s3) ?_ ?_
 refine HT.block ?_
 refine HT.loop (fun k R w=>∃ (y4:Int) (y5:Int),zBQ fu p0 k y4 y5=some rl1∧AvOK A w∧Fr w0 w∧R 0=v0∧R 1 = .int .i64 y4∧R 5 = .int .i64 y5∧Rep (eSl zA1) A w v0 p0) fu ⟨_,_,q2,d,j,h0,h1,h5,f_v0⟩ ?_
 have hr0:=c;clear c q2
 rintro k R w ⟨y4,y5,c,d,j,h0,h1,h5,f_v0⟩
 rcases k with _ | k
 cases (show none=some _ from c)
 rw [zBQ] at c
 refine HT.seq ?_
 refine HT.su d j (eI y5::eR v0::eI (p0.length:Int)::eB (decide (y5<(p0.length:Int)))::[]) ?_ ?_
 exact om h5<|om h0<|op (fun Q U W H D=>zAO (aT:=#[]) ((f_v0.fr W).eq (D.g 0 Z)) underlying39)<|op (fun Q U W H D=>zAZ (D.g 0 Z) (D.g 1 Z))<|oz
 intro R w m n p d j
 obtain ⟨h0,h1,h5⟩:=k3 n h0 h1 h5
 have h9:=p.r 3 Z
 replace f_v0:=f_v0.fr m
 refine HT.cond (decide (y5<(p0.length:Int))) h9 (fun c6=>?_) (fun c6=>?_)
 have c:=zAH c6 c
 refine HT.skip ?_
 refine HT.seq ?_
 refine HT.block ?_
 refine HT.seq ?_
 obtain ⟨e7,c⟩:=zA5 c
 refine HT.su d j (eR v0::eI y5::eF (.qtr zA1 A (gtD p0 y5))::eF (.qtr (eInt .i64) A ((gtD p0 y5).1))::eI ((gtD p0 y5).1)::eI y4::eB (((gtD p0 y5).1) != y4)::[]) ?_ ?_
 exact om h0<|om h5<|op (fun Q U W H D=>zAC ((f_v0.fr W).eq (D.g 0 Z)) (D.g 1 Z) underlying39 sizeOf48 e7)<|op (fun Q U W H D=>zFH (qt (D.g 0 Z)) zFp sizeOf3 (by decide) zCV Z)<|op (fun Q U W H D=>OpF.int (zAe (QRep.ptr (D.g 0 Z)) isAgg3 sizeOf3))<|om h1<|op (fun Q U W H D=>zEI (D.g 0 Z) (D.g 1 Z))<|oz
 intro R w m n p d j
 obtain ⟨h0,h1,h5⟩:=k3 n h0 h1 h5
 have h18:=p.r 6 Z
 replace f_v0:=f_v0.fr m
 refine HT.cond (((gtD p0 y5).1) != y4) h18 (fun c8=>?_) (fun c8=>?_)
 have c:=zAH c8 c
 refine HT.su d j (eI (-1)::[]) ?_ ?_
 exact op (fun Q U W H D=>zA0 Z)<|oz
 intro R w m n p d j
 have h4:=p.r 0 Z
 refine HT.ret ?_
 obtain rfl:=si c
 have c:=hr0
 replace c:some _=some _:=c
 obtain rfl:=si c
 exact ⟨.inr Z,[R 4],⟨Z,N⟩,h4,j⟩
 have c:=zAI c8 c
 refine HT.skip ?_
 obtain ⟨e9,c⟩:=zA5 c
 refine HT.su d j (eI y4::eI (y4+1)::eI (y4+1)::[]) ?_ ?_
 exact om h1<|op (fun Q U W H D=>zAP (D.g 0 Z) Z e9)<|oa<|oz
 intro R w m n p d j
 obtain ⟨h0,h5⟩:=k2 n h0 h5
 have h1:=p.r 2 Z
 replace f_v0:=f_v0.fr m
 refine HT.seq ?_
 obtain ⟨e10,c⟩:=zA5 c
 refine HT.su d j (eR v0::eI y5::eF (.qtr zA1 A (gtD p0 y5))::eF (.qtr (eInt .i64) A ((gtD p0 y5).2))::eI ((gtD p0 y5).2)::eI (y4+1)::eB (((gtD p0 y5).2) != (y4+1))::[]) ?_ ?_
 exact om h0<|om h5<|op (fun Q U W H D=>zAC ((f_v0.fr W).eq (D.g 0 Z)) (D.g 1 Z) underlying39 sizeOf48 e10)<|op (fun Q U W H D=>zFH (qt (D.g 0 Z)) zHT sizeOf3 (by decide) zDN Z)<|op (fun Q U W H D=>OpF.int (zAe (QRep.ptr (D.g 0 Z)) isAgg3 sizeOf3))<|om h1<|op (fun Q U W H D=>zEI (D.g 0 Z) (D.g 1 Z))<|oz
 intro R w m n p d j
 obtain ⟨h0,h1,h5⟩:=k3 n h0 h1 h5
 have h27:=p.r 6 Z
 replace f_v0:=f_v0.fr m
 refine HT.cond (((gtD p0 y5).2) != (y4+1)) h27 (fun c11=>?_) (fun c11=>?_)
 have c:=zAH c11 c
 refine HT.su d j (eI (-1)::[]) ?_ ?_
 exact op (fun Q U W H D=>zA0 Z)<|oz
 intro R w m n p d j
 have h4:=p.r 0 Z
 refine HT.ret ?_
 obtain rfl:=si c
 have c:=hr0
 replace c:some _=some _:=c
 obtain rfl:=si c
 exact ⟨.inr Z,[R 4],⟨Z,N⟩,h4,j⟩
 have c:=zAI c11 c
 refine HT.skip ?_
 obtain ⟨e12,c⟩:=zA5 c
 refine HT.u d j (eI (y4+1)::eI ((y4+1)+1)::eI ((y4+1)+1)::[]) ?_ ?_
 exact om h1<|op (fun Q U W H D=>zAP (D.g 0 Z) Z e12)<|oa<|oz
 intro R w m n p d j
 obtain ⟨h0,h5⟩:=k2 n h0 h5
 have h1:=p.r 2 Z
 replace f_v0:=f_v0.fr m
 obtain ⟨e13,c⟩:=zA5 c
 refine HT.u d j (eI y5::eI (y5+1)::eI (y5+1)::[]) ?_ ?_
 exact om h5<|op (fun Q U W H D=>zAP (D.g 0 Z) Z e13)<|oa<|oz
 intro R w m n p d j
 obtain ⟨h0,h1⟩:=k2 n h0 h1
 have h5:=p.r 2 Z
 replace f_v0:=f_v0.fr m
 exact ei k (And.intro (Nat.lt_succ_self k) ⟨_,_,c,d,j,h0,h1,h5,f_v0⟩)
 have c:=zAI c6 c
 refine HT.exit ?_
 obtain rfl:=si c
 exact ei _ ⟨Z,d,j,h1⟩
 rintro R w ⟨s3,rfl,d,j,h1⟩
 have c:=zES c
 refine HT.su d j (eI s3::eI s3::[]) ?_ ?_
 exact om h1<|oa<|oz
 intro R w m n p d j
 have h4:=p.r 1 Z
 refine HT.ret ?_
 obtain rfl:=si c
 exact ⟨.inr Z,[R 4],⟨Z,N⟩,h4,j⟩
def zCM (fu:Nat) (p0:List zA4) (p1:Int):Option Bool:=
 cl true (zDL fu p0 1048576) fun x1=>
 bif (decide (x1<0)) then (
 some true
 ) else (
 cl true (zBT fu p0) fun x4=>
 cl true (zBp fu x4 p1) fun x6=>
 cl true (zBT fu p0) fun x9=>
 cl true (zBU fu x9 p1) fun x13=>
 cl true (zBz fu x13 x6) fun x17=>
 bif (!x17) then (
 some false
 ) else (
 cl true (zBT fu p0) fun x20=>
 cl true (zCk fu x9 x20) fun x22=>
 bif (!x22) then (
 some false
 ) else (
 cl true (zCP fu x9 1) fun x25=>
 cl (true&&((decide (x25.1<0))==false)) (zBz fu x13 x6) fun x31=>
 bd ((decide (x25.1<0)) || (!x31)) fun x33=>
 bif x33 then (
 some false
 ) else (
 cl true (zCL fu x13 1) fun x36=>
 cl true (zBt fu x36.2 1) fun x40=>
 bif (decide (x40<0)) then (
 some false
 ) else (
 bif (x40 != x36.1) then (
 some false
 ) else (
 cl true (zBT fu p0) fun x44=>
 cl true (zBU fu x44 p1) fun x46=>
 cl true (zBz fu x46 x6) fun x49=>
 bif (!x49) then (
 some false
 ) else (
 cl true (zBt fu x36.2 1) fun x52=>
 bif (decide (x52<0)) then (
 some false
 ) else (
 bif (x52 != x36.1) then (
 some false
 ) else (
 some true
 )
 )
 )
 )
 )
 )
 )
 )
 )
theorem zF4 {fu : Nat} {A0 : Av} {p0 : List zA4} {p1 : Int} {r : Bool} (c : zCM fu p0 p1 = some r) {w : World} {v0 : Value} {v1 : Value} (d : AvOK A0 w) (hG : GTab w) (h0 : Rep (eSl zA2) A0 w v0 p0) (h1 : v1 = .int .i64 p1) :
 Calls prog 6 #[v0,v1] w fun e w'=>∃ v,e = .returned v∧(v = .bool r∧Fr w w'):=by
 unfold zCM at c
 obtain ⟨w0,hw0,j,C⟩:=pw d
 have hA00:AvOK A0 w0:=C
 rw [fw hw0]
 have hG0:GTab w0:=hw0 ▸ hG
 obtain ⟨A,hAe,B,d,q⟩:=pa d
 refine zA7 [.tmp 4] func6 ntmps6 (by decide) Z Z (nb Z) ?_
 intro R hR
 have f_v0:Rep (eSl zA2) A w v0 p0:=hAe ▸ h0
 replace h0:R 0=v0:=hR 0 _ Z
 replace h1:R 1 = .int .i64 p1:=(hR 1 _ Z).trans h1
 refine HT.su d j (eB false::[]) ?_ ?_
 exact op (fun Q U W H D=>zA0 Z)<|oz
 intro R w m n p d j
 obtain ⟨h0,h1⟩:=k2 n h0 h1
 replace f_v0:=f_v0.fr m
 replace q:=q.fr m
 refine HT.su d j (eI 1048576::[]) ?_ ?_
 exact op (fun Q U W H D=>zA0 Z)<|oz
 intro R w m n p d j
 obtain ⟨h0,h1⟩:=k2 n h0 h1
 have h5:=p.r 0 Z
 replace f_v0:=f_v0.fr m
 replace q:=q.fr m
 obtain ⟨x1,q2,c⟩:=zA6 c
 refine HT.su d j (eR v0::eI 1048576::eI x1::eI x1::[]) ?_ ?_
 exact om h0<|om h5<|op (fun Q U W H D=>zAF call8 (zGW (q2 Z) (d.fr W.size) ((f_v0.fr W).eq (D.g 0 Z)) (D.g 1 Z)))<|oa<|oz
 intro R w m n p d j
 obtain ⟨h0,h1⟩:=k2 n h0 h1
 have h5:=p.r 3 Z
 replace f_v0:=f_v0.fr m
 replace q:=q.fr m
 refine HT.seq ?_
 refine HT.su d j (eI x1::eB (decide (x1<0))::[]) ?_ ?_
 exact om h5<|op (fun Q U W H D=>zAZ (D.g 0 Z) Z)<|oz
 intro R w m n p d j
 obtain ⟨h0,h1⟩:=k2 n h0 h1
 have h17:=p.r 1 Z
 replace f_v0:=f_v0.fr m
 replace q:=q.fr m
 refine HT.cond (decide (x1<0)) h17 (fun c3=>?_) (fun c3=>?_)
 have c:=zAH c3 c
 refine HT.su d j (eB true::[]) ?_ ?_
 exact op (fun Q U W H D=>zA0 Z)<|oz
 intro R w m n p d j
 have h4:=p.r 0 Z
 replace q:=q.fr m
 refine HT.ret ?_
 obtain rfl:=si c
 exact ⟨.inr Z,[R 4],⟨Z,N⟩,h4,j⟩
 have c:=zAI c3 c
 refine HT.skip ?_
 obtain ⟨x4,q5,c⟩:=zA6 c
 obtain ⟨x6,q7,c⟩:=zA6 c
 refine HT.su d j (eR v0::eF (.rep (eSl zA2) A x4)::eI p1::eF (.rep (eSl zA1) A x6)::eF (.rep (eSl zA1) A x6)::[]) ?_ ?_
 exact om h0<|op (fun Q U W H D=>zAF call10 (zDj (q5 Z) (d.fr W.size) ((f_v0.fr W).eq (D.g 0 Z))))<|om h1<|op (fun Q U W H D=>zAF call24 (zFq (q7 Z) (d.fr W.size) (D.g 0 Z) (D.g 1 Z)))<|op (fun Q U W H D=>zA0 (D.g 0 Z))<|oz
 intro R w m n p d j
 obtain ⟨h0,h1⟩:=k2 n h0 h1
 obtain ⟨u8,h6,f_u8⟩:∃ u,R 6=u∧Rep (eSl zA1) A w u x6:=⟨_,Z,p 4 _ _ Z Z Z⟩
 replace f_v0:=f_v0.fr m
 replace q:=q.fr m
 obtain ⟨x9,q10,c⟩:=zA6 c
 refine HT.sx [] (rR v0::⟨_,true,[],some (trR (geB w0.heap.size) (oSl 51 (oPr (oRd (eInt .i64)) (oPr (oRd (eInt .i64)) (oPr (oRd (eInt .i64)) (oSl 9 (oRd eStr)))))) x9 []),true,fun A=>.any⟩::⟨_,true,[1],some (trR (geB w0.heap.size) (oSl 51 (oPr (oRd (eInt .i64)) (oPr (oRd (eInt .i64)) (oPr (oRd (eInt .i64)) (oSl 9 (oRd eStr)))))) x9 []),true,fun A=>.any⟩::[]) (ur (ua (ua (UAll.nil)))) q d ?_ ?_
 exact rm h0<|rc (OblR.madeS _ Z Z Z Z fun V Q U O D=>by have a0:Q 22=v0:=D.g 0 Z;have ra0:=(f_v0.stp O.stp).eq a0;exact zJ9 call10 (zEz (q10 Z) O.av ra0) (fun k hk=>Nat.le_trans (Nat.le_trans j.size O.ch.size) hk))<|rc (OblR.tookS 1 _ _ Z Z Z Z Z fun V Q U O D u S X I Y J L M=>by exact zFD (L _ _ Z Z Z Z).symm (trP.nopin I.2) Y I.1)<|rz
 intro done ρ σ A R w y s
 obtain ⟨h0,h1,h6⟩:=k3 s.rg h0 h1 h6
 obtain ⟨u11,e_u11⟩:∃ u,ρ 2=u:=⟨_,Z⟩
 have h7:=s.ov y 2 2 e_u11
 obtain ⟨S12,eS_u11⟩:∃ S,σ 2=S:=⟨_,Z⟩
 replace f_u8:=f_u8.stp s.stp
 replace f_v0:=f_v0.stp s.stp
 obtain ⟨B,j,d⟩:=s.s B C j q N
 replace q:=s.left y [(2,⟨u11,S12,trR (geB w0.heap.size) (oSl 51 (oPr (oRd (eInt .i64)) (oPr (oRd (eInt .i64)) (oPr (oRd (eInt .i64)) (oSl 9 (oRd eStr)))))) x9 []⟩)] ⟨Z,Z,e_u11,eS_u11,Z,N⟩
 obtain ⟨x13,q14,c⟩:=zA6 c
 refine HT.sx [⟨u11,S12,trR (geB w0.heap.size) (oSl 51 (oPr (oRd (eInt .i64)) (oPr (oRd (eInt .i64)) (oPr (oRd (eInt .i64)) (oSl 9 (oRd eStr)))))) x9 []⟩] (rR u11::rI p1::⟨_,true,[],some (.vec w0.heap.size 48 zA1 x13),true,fun A=>.any⟩::⟨_,true,[3],some (.vec w0.heap.size 48 zA1 x13),true,fun A=>.any⟩::[]) (ur (ur (ua (ua (UAll.nil))))) q d ?_ ?_
 exact rm h7<|rm h1<|rc (OblR.made _ Z Z Z Z fun V Q U O D=>by have a0:Q 24=u11:=D.g 0 Z;have ra0:Rep (eSl zA2) A0 U (Q 24) _:=(zNC (O.rdo 0 _ Z Z).2 (O.low' B C (q.ge (⟨fun _ h=>h,N⟩))) (fun k o hk ha=>Nat.not_lt.2 ((O.rdo 0 _ Z Z).1 k hk) (C k o ha))).eq a0;have a1:Q 25 = .int .i64 p1:=D.g 1 Z;exact zEa call25 (zEp (q14 Z) (hA00.fr ((Nat.le_trans j.size O.ch.size))) (hG0.fr (j.tr O.ch (q.ge (⟨fun _ h=>h,N⟩)))) ra0 a1) (Nat.le_trans j.size O.ch.size) (O.low' B C (q.ge (⟨fun _ h=>h,N⟩))) (fun _ _ _ _ _ h=>h))<|rc (OblR.took 3 _ _ Z Z Z Z Z fun V Q U O D u X Y J L M=>by exact zAA (L _ _ Z Z Z Z).symm X Y)<|rz
 intro done ρ σ A R w y s
 obtain ⟨h0,h1,h6,h7⟩:=k4 s.rg h0 h1 h6 h7
 have z15:=s.inivR 0 Z
 obtain ⟨u16,e_u16⟩:∃ u,ρ 4=u:=⟨_,Z⟩
 have h8:=s.ov y 4 3 e_u16
 have eS_u11:=s.inisR 0 Z
 replace f_u8:=f_u8.stp s.stp
 replace f_v0:=f_v0.stp s.stp
 obtain ⟨B,j,d⟩:=s.s B C j q ⟨fun _ h=>h,N⟩
 replace q:=s.left y [(0,⟨u11,S12,trR (geB w0.heap.size) (oSl 51 (oPr (oRd (eInt .i64)) (oPr (oRd (eInt .i64)) (oPr (oRd (eInt .i64)) (oSl 9 (oRd eStr)))))) x9 []⟩),(4,ob u16 (.vec w0.heap.size 48 zA1 x13))] ⟨Z,Z,z15,eS_u11,Z,⟨Z,Z,e_u16,Z,Z,N⟩⟩
 refine HT.seq ?_
 obtain ⟨x17,q18,c⟩:=zA6 c
 refine HT.su d j (eR u16::eR u8::eB x17::eB (!x17)::[]) ?_ ?_
 exact om h8<|om h6<|op (fun Q U W H D=>by have ra1:=(f_u8.fr W).eq (D.g 1 Z);exact zAF call26 (zE2 (q18 Z) (hA00.fr ((Nat.le_trans j.size W.size))) ((zBq ((q.fr W).ok 1 _ Z).1 B C).eq (D.g 0 Z)) (ra1.down B)))<|op (fun Q U W H D=>zCw (D.g 0 Z))<|oz
 intro R w m n p d j
 obtain ⟨h0,h1,h6,h7,h8⟩:=k5 n h0 h1 h6 h7 h8
 have h30:=p.r 3 Z
 replace f_u8:=f_u8.fr m
 replace f_v0:=f_v0.fr m
 replace q:=q.fr m
 refine HT.cond (!x17) h30 (fun c19=>?_) (fun c19=>?_)
 have c:=zAH c19 c
 refine HT.su d j (eB false::[]) ?_ ?_
 exact op (fun Q U W H D=>zA0 Z)<|oz
 intro R w m n p d j
 have h4:=p.r 0 Z
 replace q:=q.fr m
 replace q:IniOK [] A w:=q.sub [] N
 refine HT.ret ?_
 obtain rfl:=si c
 exact ⟨.inr Z,[R 4],⟨Z,N⟩,h4,j⟩
 have c:=zAI c19 c
 refine HT.skip ?_
 refine HT.seq ?_
 obtain ⟨x20,q21,c⟩:=zA6 c
 obtain ⟨x22,q23,c⟩:=zA6 c
 refine HT.su d j (eR u11::eR v0::eF (.rep (eSl zA2) A x20)::eB x22::eB (!x22)::[]) ?_ ?_
 exact om h7<|om h0<|op (fun Q U W H D=>zAF call10 (zDj (q21 Z) (d.fr W.size) ((f_v0.fr W).eq (D.g 0 Z))))<|op (fun Q U W H D=>by have ra0:Rep (eSl zA2) A0 U (Q 31) _:=(zNC ((q.fr W).own 0 _ Z).2 B (fun k o hk ha=>Nat.not_lt.2 (((q.fr W).own 0 _ Z).1 k hk) (C k o ha))).eq (D.g 0 Z);have a1:Rep (eSl zA2) A U (Q 33) x20:=D.g 1 Z;exact zAF call13 (zGi (q23 Z) (hA00.fr ((Nat.le_trans j.size W.size))) ra0 (a1.down B)))<|op (fun Q U W H D=>zCw (D.g 0 Z))<|oz
 intro R w m n p d j
 obtain ⟨h0,h1,h6,h7,h8⟩:=k5 n h0 h1 h6 h7 h8
 have h35:=p.r 4 Z
 replace f_u8:=f_u8.fr m
 replace f_v0:=f_v0.fr m
 replace q:=q.fr m
 refine HT.cond (!x22) h35 (fun c24=>?_) (fun c24=>?_)
 have c:=zAH c24 c
 refine HT.su d j (eB false::[]) ?_ ?_
 exact op (fun Q U W H D=>zA0 Z)<|oz
 intro R w m n p d j
 have h4:=p.r 0 Z
 replace q:=q.fr m
 replace q:IniOK [] A w:=q.sub [] N
 refine HT.ret ?_
 obtain rfl:=si c
 exact ⟨.inr Z,[R 4],⟨Z,N⟩,h4,j⟩
 have c:=zAI c24 c
 refine HT.skip ?_
 refine HT.su d j (eI 1::[]) ?_ ?_
 exact op (fun Q U W H D=>zA0 Z)<|oz
 intro R w m n p d j
 obtain ⟨h0,h1,h6,h7,h8⟩:=k5 n h0 h1 h6 h7 h8
 have h9:=p.r 0 Z
 replace f_u8:=f_u8.fr m
 replace f_v0:=f_v0.fr m
 replace q:=q.fr m
 obtain ⟨x25,q26,c⟩:=zA6 c
 refine HT.sx [⟨u11,S12,trR (geB w0.heap.size) (oSl 51 (oPr (oRd (eInt .i64)) (oPr (oRd (eInt .i64)) (oPr (oRd (eInt .i64)) (oSl 9 (oRd eStr)))))) x9 []⟩,ob u16 (.vec w0.heap.size 48 zA1 x13)] (rR u11::rI 1::⟨_,true,[0],some (trR (geB w0.heap.size) (oSl 51 (oPr (oRd (eInt .i64)) (oPr (oRd (eInt .i64)) (oPr (oRd (eInt .i64)) (oSl 9 (oRd eStr)))))) x25.2 []),false,fun A=>.raw (.int .i64 x25.1)⟩::rI x25.1::[]) (ur (ur (ur (ur (UAll.nil))))) q d ?_ ?_
 exact rm h7<|rm h9<|rc (OblR.tookS 0 _ _ Z Z Z Z Z fun V Q U O D u S X I Y J L M=>by have a0:Q 36=u11:=D.g 0 Z;have a1:Q 37 = .int .i64 1:=D.g 1 Z;have e0:=(J _ Z).1;rw [e0] at I ⊢;have hu0:zAD Q (.tmp 36)=u11:=a0;exact zIu call14 (zBW I.2) Y I.1 (fun k hk=>Nat.le_trans (Nat.le_trans j.size O.ch.size) hk) (fun k hk=>SP.lt _ I.2 hk) (fun S1 hS1 hP=>by simp only [List.map,hu0];exact zG5 (q26 Z) (O.av.subS _) (fun b o h=>h.2) hP a1) (fun _ _ _ h=>h))<|ra<|rz
 intro done ρ σ A R w y s
 obtain ⟨h0,h1,h6,h8⟩:=k4 s.rg h0 h1 h6 h8
 have z27:=s.inivR 0 Z
 have z28:=s.on y 4 2 Z Z Z Z Z z27
 have z29:=s.inivR 1 Z
 obtain ⟨S30,eS_u11⟩:∃ S,σ 4=S:=⟨_,Z⟩
 have h9:=s.r y 3 Z
 replace f_u8:=f_u8.stp s.stp
 replace f_v0:=f_v0.stp s.stp
 obtain ⟨B,j,d⟩:=s.s B C j q ⟨fun _ h=>h,⟨Z,N⟩⟩
 replace q:=s.left y [(1,ob u16 (.vec w0.heap.size 48 zA1 x13))] ⟨Z,Z,z29,Z,Z,N⟩
 refine HT.seq ?_
 refine HT.seq ?_
 obtain ⟨x31,q32,c⟩:=zA6 c
 obtain ⟨x33,q34,c⟩:=zAU c
 refine HT.u d j (eI x25.1::eB (decide (x25.1<0))::eB (decide (x25.1<0))::gR (true&&((decide (x25.1<0))==false)) u16::gR (true&&((decide (x25.1<0))==false)) u8::gB (true&&((decide (x25.1<0))==false)) x31::gB (true&&((decide (x25.1<0))==false)) (!x31)::eB x33::[]) ?_ ?_
 exact om h9<|op (fun Q U W H D=>zAZ (D.g 0 Z) Z)<|ov<|gm 2 false h8<|gm 2 false h6<|og 2 false (fun G Q U W H D=>by have ra1:=(f_u8.fr W).eq (D.h 1 G Z);exact zAF call26 (zE2 (q32 G) (hA00.fr ((Nat.le_trans j.size W.size))) ((zBq ((q.fr W).ok 0 _ Z).1 B C).eq (D.h 0 G Z)) (ra1.down B)))<|og 2 false (fun G Q U W H D=>zCw (D.h 0 G Z))<|op (fun Q U W H D=>zAf (decide (x25.1<0)) (D.g 0 Z) (fun hc=>by show _=Value.bool x33;rw [q34,hc];exact Z) (fun hc=>by have a2:Q 45 = .bool (!x31):=D 1 _ _ _ Z Z Z Z (zC3 Z (zB2 hc));show _=Value.bool x33;rw [q34,hc];exact a2))<|oz
 intro R w m n p d j
 obtain ⟨h0,h1,h6,h8⟩:=k4 n h0 h1 h6 h8
 have h46:=p.r 7 Z
 replace f_u8:=f_u8.fr m
 replace f_v0:=f_v0.fr m
 replace q:=q.fr m
 refine HT.cond x33 h46 (fun c35=>?_) (fun c35=>?_)
 have c:=zAH c35 c
 refine HT.su d j (eB false::[]) ?_ ?_
 exact op (fun Q U W H D=>zA0 Z)<|oz
 intro R w m n p d j
 have h4:=p.r 0 Z
 replace q:=q.fr m
 replace q:IniOK [] A w:=q.sub [] N
 refine HT.ret ?_
 obtain rfl:=si c
 exact ⟨.inr Z,[R 4],⟨Z,N⟩,h4,j⟩
 have c:=zAI c35 c
 refine HT.skip ?_
 refine HT.su d j (eI 1::[]) ?_ ?_
 exact op (fun Q U W H D=>zA0 Z)<|oz
 intro R w m n p d j
 obtain ⟨h0,h1,h6,h8⟩:=k4 n h0 h1 h6 h8
 have h10:=p.r 0 Z
 replace f_u8:=f_u8.fr m
 replace f_v0:=f_v0.fr m
 replace q:=q.fr m
 obtain ⟨x36,q37,c⟩:=zA6 c
 refine HT.sx [ob u16 (.vec w0.heap.size 48 zA1 x13)] (rR u16::rI 1::⟨_,true,[0],some (.vec w0.heap.size 48 zA1 x36.2),false,fun A=>.raw (.int .i64 x36.1)⟩::rI x36.1::[]) (ur (ur (ur (ur (UAll.nil))))) q d ?_ ?_
 exact rm h8<|rm h10<|rc (OblR.took 0 _ _ Z Z Z Z Z fun V Q U O D u X Y J L M=>by have a0:Q 47=u16:=D.g 0 Z;have a1:Q 48 = .int .i64 1:=D.g 1 Z;have hu0:zAD Q (.tmp 47)=u:=a0.trans (J _ Z).symm;exact zIS call27 Y (fun _ _ _ _ _ h=>h) (by simp only [List.map,hu0];exact Calls.mono (zG0 (q37 Z) (O.av.sub _) (fun b o h=>h.2) (Vec.flat X (fun _ _ _ _ _ h=>h)) a1) (fun _ _ ⟨v,h1,h2,h3,h4⟩=>⟨v,h1,h2,h3,h4⟩)))<|ra<|rz
 intro done ρ σ A R w y s
 obtain ⟨h0,h1,h6,h8⟩:=k4 s.rg h0 h1 h6 h8
 have z38:=s.inivR 0 Z
 have z39:=s.on y 3 2 Z Z Z Z Z z38
 have h10:=s.r y 3 Z
 replace f_u8:=f_u8.stp s.stp
 replace f_v0:=f_v0.stp s.stp
 obtain ⟨B,j,d⟩:=s.s B C j q ⟨Z,N⟩
 replace q:=s.left y [(3,ob u16 (.vec w0.heap.size 48 zA1 x36.2))] ⟨Z,Z,z39,Z,Z,N⟩
 refine HT.su d j (eI 1::[]) ?_ ?_
 exact op (fun Q U W H D=>zA0 Z)<|oz
 intro R w m n p d j
 obtain ⟨h0,h1,h6,h8,h10⟩:=k5 n h0 h1 h6 h8 h10
 have h11:=p.r 0 Z
 replace f_u8:=f_u8.fr m
 replace f_v0:=f_v0.fr m
 replace q:=q.fr m
 obtain ⟨x40,q41,c⟩:=zA6 c
 refine HT.su d j (eR u16::eI 1::eI x40::eI x40::[]) ?_ ?_
 exact om h8<|om h11<|op (fun Q U W H D=>zAF call28 (zEi (q41 Z) (hA00.fr ((Nat.le_trans j.size W.size))) ((zBq ((q.fr W).ok 0 _ Z).1 B C).eq (D.g 0 Z)) (D.g 1 Z)))<|oa<|oz
 intro R w m n p d j
 obtain ⟨h0,h1,h6,h8,h10⟩:=k5 n h0 h1 h6 h8 h10
 have h11:=p.r 3 Z
 replace f_u8:=f_u8.fr m
 replace f_v0:=f_v0.fr m
 replace q:=q.fr m
 refine HT.seq ?_
 refine HT.su d j (eI x40::eB (decide (x40<0))::[]) ?_ ?_
 exact om h11<|op (fun Q U W H D=>zAZ (D.g 0 Z) Z)<|oz
 intro R w m n p d j
 obtain ⟨h0,h1,h6,h8,h10,h11⟩:=k6 n h0 h1 h6 h8 h10 h11
 have h54:=p.r 1 Z
 replace f_u8:=f_u8.fr m
 replace f_v0:=f_v0.fr m
 replace q:=q.fr m
 refine HT.cond (decide (x40<0)) h54 (fun c42=>?_) (fun c42=>?_)
 have c:=zAH c42 c
 refine HT.su d j (eB false::[]) ?_ ?_
 exact op (fun Q U W H D=>zA0 Z)<|oz
 intro R w m n p d j
 have h4:=p.r 0 Z
 replace q:=q.fr m
 replace q:IniOK [] A w:=q.sub [] N
 refine HT.ret ?_
 obtain rfl:=si c
 exact ⟨.inr Z,[R 4],⟨Z,N⟩,h4,j⟩
 have c:=zAI c42 c
 refine HT.skip ?_
 refine HT.seq ?_
 refine HT.su d j (eI x40::eI x36.1::eB (x40 != x36.1)::[]) ?_ ?_
 exact om h11<|om h10<|op (fun Q U W H D=>zEI (D.g 0 Z) (D.g 1 Z))<|oz
 intro R w m n p d j
 obtain ⟨h0,h1,h6,h8,h10⟩:=k5 n h0 h1 h6 h8 h10
 have h57:=p.r 2 Z
 replace f_u8:=f_u8.fr m
 replace f_v0:=f_v0.fr m
 replace q:=q.fr m
 refine HT.cond (x40 != x36.1) h57 (fun c43=>?_) (fun c43=>?_)
 have c:=zAH c43 c
 refine HT.su d j (eB false::[]) ?_ ?_
 exact op (fun Q U W H D=>zA0 Z)<|oz
 intro R w m n p d j
 have h4:=p.r 0 Z
 replace q:=q.fr m
 replace q:IniOK [] A w:=q.sub [] N
 refine HT.ret ?_
 obtain rfl:=si c
 exact ⟨.inr Z,[R 4],⟨Z,N⟩,h4,j⟩
 have c:=zAI c43 c
 refine HT.skip ?_
 obtain ⟨x44,q45,c⟩:=zA6 c
 obtain ⟨x46,q47,c⟩:=zA6 c
 refine HT.su d j (eR v0::eF (.rep (eSl zA2) A x44)::eI p1::eF (.rep (eSl zA1) A x46)::eF (.rep (eSl zA1) A x46)::[]) ?_ ?_
 exact om h0<|op (fun Q U W H D=>zAF call10 (zDj (q45 Z) (d.fr W.size) ((f_v0.fr W).eq (D.g 0 Z))))<|om h1<|op (fun Q U W H D=>zAF call25 (zFz (q47 Z) (d.fr W.size) (hG0.fr (j.trans W)) (D.g 0 Z) (D.g 1 Z)))<|op (fun Q U W H D=>zA0 (D.g 0 Z))<|oz
 intro R w m n p d j
 obtain ⟨h6,h8,h10⟩:=k3 n h6 h8 h10
 obtain ⟨u48,h12,f_u48⟩:∃ u,R 12=u∧Rep (eSl zA1) A w u x46:=⟨_,Z,p 4 _ _ Z Z Z⟩
 replace f_u8:=f_u8.fr m
 replace q:=q.fr m
 refine HT.seq ?_
 obtain ⟨x49,q50,c⟩:=zA6 c
 refine HT.su d j (eR u48::eR u8::eB x49::eB (!x49)::[]) ?_ ?_
 exact om h12<|om h6<|op (fun Q U W H D=>zAF call26 (zE2 (q50 Z) (d.fr W.size) ((f_u48.fr W).eq (D.g 0 Z)) ((f_u8.fr W).eq (D.g 1 Z))))<|op (fun Q U W H D=>zCw (D.g 0 Z))<|oz
 intro R w m n p d j
 obtain ⟨h8,h10⟩:=k2 n h8 h10
 have h65:=p.r 3 Z
 replace q:=q.fr m
 refine HT.cond (!x49) h65 (fun c51=>?_) (fun c51=>?_)
 have c:=zAH c51 c
 refine HT.su d j (eB false::[]) ?_ ?_
 exact op (fun Q U W H D=>zA0 Z)<|oz
 intro R w m n p d j
 have h4:=p.r 0 Z
 replace q:=q.fr m
 replace q:IniOK [] A w:=q.sub [] N
 refine HT.ret ?_
 obtain rfl:=si c
 exact ⟨.inr Z,[R 4],⟨Z,N⟩,h4,j⟩
 have c:=zAI c51 c
 refine HT.skip ?_
 refine HT.su d j (eI 1::[]) ?_ ?_
 exact op (fun Q U W H D=>zA0 Z)<|oz
 intro R w m n p d j
 obtain ⟨h8,h10⟩:=k2 n h8 h10
 have h11:=p.r 0 Z
 replace q:=q.fr m
 obtain ⟨x52,q53,c⟩:=zA6 c
 refine HT.su d j (eR u16::eI 1::eI x52::eI x52::[]) ?_ ?_
 exact om h8<|om h11<|op (fun Q U W H D=>zAF call28 (zEi (q53 Z) (hA00.fr ((Nat.le_trans j.size W.size))) ((zBq ((q.fr W).ok 0 _ Z).1 B C).eq (D.g 0 Z)) (D.g 1 Z)))<|oa<|oz
 intro R w m n p d j
 replace h10:=k1 n h10
 have h11:=p.r 3 Z
 replace q:=q.fr m
 replace q:IniOK [] A w:=q.sub [] N
 refine HT.seq ?_
 refine HT.su d j (eI x52::eB (decide (x52<0))::[]) ?_ ?_
 exact om h11<|op (fun Q U W H D=>zAZ (D.g 0 Z) Z)<|oz
 intro R w m n p d j
 obtain ⟨h10,h11⟩:=k2 n h10 h11
 have h70:=p.r 1 Z
 replace q:=q.fr m
 refine HT.cond (decide (x52<0)) h70 (fun c54=>?_) (fun c54=>?_)
 have c:=zAH c54 c
 refine HT.su d j (eB false::[]) ?_ ?_
 exact op (fun Q U W H D=>zA0 Z)<|oz
 intro R w m n p d j
 have h4:=p.r 0 Z
 replace q:=q.fr m
 refine HT.ret ?_
 obtain rfl:=si c
 exact ⟨.inr Z,[R 4],⟨Z,N⟩,h4,j⟩
 have c:=zAI c54 c
 refine HT.skip ?_
 refine HT.seq ?_
 refine HT.su d j (eI x52::eI x36.1::eB (x52 != x36.1)::[]) ?_ ?_
 exact om h11<|om h10<|op (fun Q U W H D=>zEI (D.g 0 Z) (D.g 1 Z))<|oz
 intro R w m n p d j
 have h73:=p.r 2 Z
 replace q:=q.fr m
 refine HT.cond (x52 != x36.1) h73 (fun c55=>?_) (fun c55=>?_)
 have c:=zAH c55 c
 refine HT.su d j (eB false::[]) ?_ ?_
 exact op (fun Q U W H D=>zA0 Z)<|oz
 intro R w m n p d j
 have h4:=p.r 0 Z
 replace q:=q.fr m
 refine HT.ret ?_
 obtain rfl:=si c
 exact ⟨.inr Z,[R 4],⟨Z,N⟩,h4,j⟩
 have c:=zAI c55 c
 refine HT.skip ?_
 refine HT.su d j (eB true::[]) ?_ ?_
 exact op (fun Q U W H D=>zA0 Z)<|oz
 intro R w m n p d j
 have h4:=p.r 0 Z
 replace q:=q.fr m
 refine HT.ret ?_
 obtain rfl:=si c
 exact ⟨.inr Z,[R 4],⟨Z,N⟩,h4,j⟩
end Go.Proofs.YtldppodfhabkjaaGreatDoor
namespace Go.Proofs.YtldppodfhabkjaaGreatDoor
open Go.RowKit
set_option linter.unusedVariables false
open _root_.Go.Proofs.Tryz
set_option maxRecDepth 100000
set_option maxHeartbeats 4000000
end Go.Proofs.YtldppodfhabkjaaGreatDoor
namespace Go.Proofs.YtldppodfhabkjaaGreatDoor
open Go.RowKit
set_option linter.unusedVariables false
open _root_.Go.Proofs.Tryz
set_option maxRecDepth 100000
set_option maxHeartbeats 4000000
end Go.Proofs.YtldppodfhabkjaaGreatDoor

namespace Go.Proofs.YtldppodfhabkjaaGreatDoor
open Go.RowKit
set_option linter.unusedVariables false
theorem zA8 {α β:Type} [Inhabited α] {x:α} {k:α→Option β}:cl true (some x) k=k x:=rfl
theorem zLZ {α β:Type} [Inhabited α] {o:Option α} {k:α→Option β}:cl false o k=k default:=rfl
theorem zQF {α β:Type} [Inhabited α] {g:Bool} {x:α} {k:α→Option β}:cl g (some x) k=k (bif g then x else default):=by cases g <;> rfl
theorem zCf {α β:Type} {e:α} {k:α→Option β}:bd e k=k e:=rfl
theorem ck_t {α:Type} {b:Bool} {k:Option α} (h:b=true):ck b k=k:=by rw [h];rfl
theorem zCu {α:Type} {k:Option α}:ck true k=k:=rfl
theorem zP5 {ρ σ γ:Type} {r:ρ} {f:ρ→Option γ} {g:σ→Option γ}:exM (.ret r) f g=f r:=rfl
theorem zL5 {ρ σ γ:Type} {s:σ} {f:ρ→Option γ} {g:σ→Option γ}:exM (.go s) f g=g s:=rfl
theorem zB0 {i:Nat} {n:Nat} (h:i<n):inR (i:Int) n=true:=zDi.2 ⟨by omega,by omega⟩
theorem zL1 {i:Int} {n:Nat} (h0:0≤i) (h:i<n):inR i n=true:=zDi.2 ⟨h0,h⟩
theorem zC4 {x:Int} (h0:-9223372036854775808≤x) (h1:x≤9223372036854775807):i64B x=true:=by simp [i64B,h0,h1]
theorem zNJ {α : Type} {xs : List α} {L : Nat → Int → List α → Option (List α)} 
    (hs:∀ k i ys x,i<xs.length→ys.length=xs.length→xs[i]? = some x→L (k+1) ((i:Nat):Int) ys=L k ((i+1:Nat):Int) (ys.set i x)) (he:∀ k ys,L (k+1) ((xs.length:Nat):Int) ys=some ys) :
    ∀ m i k ys,i+m=xs.length→m<k→ys.length=xs.length→ys.take i=xs.take i→L k ((i:Nat):Int) ys=some xs:=by
  intro m
  induction m with
  | zero=>
    intro i k ys hi hk hy ht
    obtain ⟨k,rfl⟩:∃ q,k=q+1:=⟨k-1,by omega⟩
    obtain rfl:i=xs.length:=by omega
    rw [he]
    rw [List.take_of_length_le (by omega),List.take_of_length_le (by omega)] at ht
    rw [ht]
  | succ m ih=>
    intro i k ys hi hk hy ht
    obtain ⟨k,rfl⟩:∃ q,k=q+1:=⟨k-1,by omega⟩
    have hlt:i<xs.length:=by omega
    rw [hs k i ys _ hlt hy (List.getElem?_eq_getElem hlt)]
    refine ih (i+1) k _ (by omega) (by omega) (by rw [List.length_set,hy]) ?_
    apply List.ext_getElem?
    intro j
    rw [List.getElem?_take,List.getElem?_take]
    split
    · rename_i hj
      rcases Nat.lt_or_ge j i with h | h
      · have := congrArg (fun l => l[j]?) ht
        simp only [List.getElem?_take,if_pos h] at this
        rw [List.getElem?_set_ne (by omega)]
        exact this
      · obtain rfl : j = i := by omega
        rw [List.getElem?_set_self (by omega),List.getElem?_eq_getElem hlt]
    · rfl
theorem zAW {α:Type} [Inhabited α] {xs:List α} {i:Nat} {x:α} (h:xs[i]? = some x):gtD xs (i:Int)=x:=by
  unfold gtD
  rw [Int.toNat_natCast,List.getD_eq_getElem?_getD,h]
  rfl
end Go.Proofs.YtldppodfhabkjaaGreatDoor
namespace Go.Proofs.YtldppodfhabkjaaGreatDoor
open Go.RowKit
set_option linter.unusedVariables false
theorem zAg {n:Nat} (h:n≤4294967296):zBH n=true:=Nat.ble_eq_true_of_le h
theorem zPg {n:Nat} (h:n≤1048577):mkOK (n:Int)=true:=by simp [mkOK];omega
theorem zIy : ∀ (a : List UInt8), bLt a a = false
  | []=>rfl
  | a::x=>by
    unfold bLt Op.bytesLess
    rw [show Op.bytesLess x x=false from zIy x]
    simp
theorem zKH : ∀ {a b c : List UInt8}, bLt a b = true → bLt b c = true → bLt a c = true
  | _,_,[],_,h=>by cases ‹List UInt8› <;> simp [bLt,Op.bytesLess] at h
  | _,[],_::_,h,_=>by cases ‹List UInt8› <;> simp [bLt,Op.bytesLess] at h
  | [],_::_,_::_,_,_=>rfl
  | a::x,b::y,c::z,h,k=>by
    unfold bLt Op.bytesLess at h k ⊢
    simp only [Bool.or_eq_true,Bool.and_eq_true,decide_eq_true_eq,beq_iff_eq] at h k ⊢
    rcases h with h | ⟨rfl,h⟩
    · rcases k with k | ⟨rfl, k⟩
      · exact .inl (UInt8.lt_trans h k)
      · exact .inl h
    · rcases k with k | ⟨rfl, k⟩
      · exact .inl k
      · exact .inr ⟨rfl,zKH h k⟩
theorem zMZ : ∀ {a b : List UInt8}, bLt a b = false → bLt b a = false → a = b
  | [],[],_,_=>rfl
  | [],_::_,h,_=>by simp [bLt,Op.bytesLess] at h
  | _::_,[],_,h=>by simp [bLt,Op.bytesLess] at h
  | a::x,b::y,h,k=>by
    unfold bLt Op.bytesLess at h k
    simp only [Bool.or_eq_false_iff,Bool.and_eq_false_imp,decide_eq_false_iff_not,beq_iff_eq] at h k
    have e:a=b:=by
      rcases UInt8.lt_or_lt_of_ne (a:=a) (b:=b) |> fun f=>Classical.em (a=b) |>.imp id f with e | e | e
      · exact e
      · exact absurd e h.1
      · exact absurd e k.1
    subst e
    rw [zMZ (h.2 rfl) (k.2 rfl)]
theorem zPY (a b:List UInt8):decide (a≤b) = !(bLt b a):=by
  have h:=Go.Proofs.bytesLess_eq b a
  unfold bLt
  rw [h]
  by_cases hlt:b<a
  · have : ¬ a ≤ b := List.not_le.2 hlt
    rw [decide_eq_true hlt,decide_eq_false this]
    rfl
  · have : a ≤ b := List.not_lt.1 hlt
    rw [decide_eq_false hlt,decide_eq_true this]
    rfl
end Go.Proofs.YtldppodfhabkjaaGreatDoor
namespace Go.Proofs.YtldppodfhabkjaaGreatDoor
open Go.RowKit
set_option linter.unusedVariables false
theorem lt_t {i n:Nat} (h:i<n):decide ((i:Int)<(n:Int))=true:=by simpa using h
theorem lt_f (n:Nat):decide ((n:Int)<(n:Int))=false:=decide_eq_false (Int.lt_irrefl _)
theorem zC2 {i:Nat} (hn:i≤4294967296):i64B ((i:Int)+1)=true:=zC4 (by omega) (by omega)
theorem zD7 {α:Type} {xs:List α} {i:Nat} {x:α} (h:xs[i]? = some x):i<xs.length:=(List.getElem?_eq_some_iff.1 h).1
theorem zDh {α:Type} {xs:List α} {i:Nat} {x:α} (h:xs[i]? = some x):x ∈ xs:=List.mem_of_getElem? h
theorem zAo (i:Nat):(i:Int)+1=((i+1:Nat):Int):=rfl
theorem zGT {α:Type} (xs:List α) (i:Nat) (x:α):xs.set ((i:Nat):Int).toNat x=xs.set i x:=by rw [Int.toNat_natCast]
theorem zMs {α:Type} [Inhabited α] {xs:List α} {i:Nat} (h:i<xs.length) (x:α):gtD (xs.set i x) (i:Int)=x:=zAW (List.getElem?_set_self h)
def szR (n:Int) (w:Nat):Int:=if (w:Int)≤n then n-w else -1
theorem zK2 {n:Int} {w:Nat} (h:(w:Int)≤n):decide (szR n w<0)=false:=by
  unfold szR
  rw [if_pos h]
  exact decide_eq_false (by omega)
theorem zKc {n:Int} {w:Nat} (h:¬ (w:Int)≤n):decide (szR n w<0)=true:=by
  unfold szR
  rw [if_neg h]
  rfl
theorem zOy {n:Int} {w:Nat} (h:(w:Int)≤n):szR n w=n-w:=if_pos h
theorem zMp {n:Int} {w v:Nat} (h:(w:Int)≤n):szR (n-w) v=szR n (w+v):=by
  unfold szR
  by_cases h2:(v:Int)≤n-w
  · rw [if_pos h2, if_pos (by omega)]
    omega
  · rw [if_neg h2,if_neg (by omega)]
theorem zMj {n:Int} {w v:Nat} (h:¬ (w:Int)≤n):szR n (w+v) = -1:=if_neg (by omega)
theorem zPr {n : Int} {l : Nat} (hn : 0 ≤ n) (hn1 : n ≤ 1048576) (hl : l ≤ maxLen) {c : Option Int} {r : Int} (h1 : ¬ (l : Int) ≤ n → r = -1) (h2 : (l : Int) ≤ n → c = some r) :
    (ck (i64B (n-(l:Int)))<|bif (decide ((n-(l:Int))<(0:Int))) then some (-1:Int) else c)=some r:=by
  unfold maxLen at hl
  rw [ck_t (zC4 (by omega) (by omega))]
  by_cases h:(l:Int)≤n
  · rw [decide_eq_false (by omega), cond_false]
    exact h2 h
  · rw [decide_eq_true (by omega),cond_true,h1 h]
def wL {α:Type} (f:α→Nat) (xs:List α):Nat:=xs.length+(xs.map f).sum
theorem zCl {α:Type} {xs:List α} {i:Nat} {x:α} (h:xs[i]? = some x):xs.drop i=x::xs.drop (i+1):=by
  obtain ⟨h1,rfl⟩:=List.getElem?_eq_some_iff.1 h
  exact List.drop_eq_getElem_cons h1
theorem zNd {α : Type} {xs : List α} {f : α → Nat} {L : Nat → Int → Int → Option (Ex Int Int)}
    (hs:∀ k y (i:Nat) x,xs[i]? = some x→0≤y→y≤1048576→L (k+1) y (i:Int)=bif decide (szR y (f x)<0) then some (.ret (-1)) else L k (szR y (f x)) ((i+1:Nat):Int))
    (he:∀ k y,L (k+1) y (xs.length:Int)=some (.go y)) :
    ∀ m i k y,i+m=xs.length→m<k→0≤y→y≤1048576→L k y ((i:Nat):Int)=some (if ((((xs.drop i).map f).sum:Nat):Int)≤y then .go (szR y ((xs.drop i).map f).sum) else .ret (-1)):=by
  intro m
  induction m with
  | zero=>
    intro i k y hi hk h0 h1
    obtain ⟨k,rfl⟩:∃ q,k=q+1:=⟨k-1,by omega⟩
    obtain rfl:i=xs.length:=by omega
    rw [he,List.drop_length]
    simp [szR,h0]
  | succ m ih=>
    intro i k y hi hk h0 h1
    obtain ⟨k,rfl⟩:∃ q,k=q+1:=⟨k-1,by omega⟩
    have hlt:i<xs.length:=by omega
    have hx:=List.getElem?_eq_getElem hlt
    rw [hs k y i _ hx h0 h1,zCl hx,List.map_cons,List.sum_cons]
    by_cases h:(f xs[i]:Int)≤y
    · rw [zK2 h, cond_false, zOy h, ih (i + 1) k _ (by omega) (by omega) (by omega) (by omega), zMp h]
      congr 1
      by_cases h2:((((xs.drop (i+1)).map f).sum:Nat):Int)≤y-(f xs[i]:Int)
      · rw [if_pos h2,if_pos (by omega)]
      · rw [if_neg h2,if_neg (by omega)]
    · rw [zKc h,cond_true,if_neg (by omega)]
theorem zNP {α : Type} {xs : List α} {f : α → Nat} {L : Nat → Int → Int → Option (Ex Int Int)} {n : Int} {fu : Nat} (hn : 0 ≤ n) (hn1 : n ≤ 1048576) (hl : xs.length ≤ maxLen) (hf : 1048577 ≤ fu)
    (hs:∀ k y (i:Nat) x,xs.length≤1048576→xs[i]? = some x→0≤y→y≤1048576→L (k+1) y (i:Int)=bif decide (szR y (f x)<0) then some (.ret (-1)) else L k (szR y (f x)) ((i+1:Nat):Int))
    (he:∀ k y,L (k+1) y (xs.length:Int)=some (.go y)) :
    (ck (i64B (n-(xs.length:Int)))<|bif (decide ((n-(xs.length:Int))<(0:Int))) then some (-1:Int) else cl true (L fu (n-(xs.length:Int)) (0:Int)) fun rl=>exM rl (fun r=>some r) fun s=>some s)=some (szR n (wL f xs)):=by
  refine zPr hn hn1 hl (fun h=>zMj h) fun h=>?_
  have:=zNd (fun k y i x=>hs k y i x (by omega)) he xs.length 0 fu (n-(xs.length:Int)) (by omega) (by omega) (by omega) (by omega)
  rw [show ((0:Nat):Int)=0 from rfl] at this
  rw [this,zA8,List.drop_zero]
  by_cases h2:(((xs.map f).sum:Nat):Int)≤n-(xs.length:Int)
  · rw [if_pos h2, zMp h]
    rfl
  · rw [if_neg h2]
    unfold wL szR
    rw [if_neg (by omega)]
    rfl
theorem zGQ {α : Type} {f : α → Nat} {x : α} : ∀ {xs : List α}, x ∈ xs → f x ≤ (xs.map f).sum
  | y::ys,h=>by
    rw [List.map_cons,List.sum_cons]
    rcases List.mem_cons.1 h with rfl | h
    · omega
    · have := zGQ (f := f) h
      omega
theorem zNI {α : Type} [Inhabited α] {xs : List α} {z : α} {L : Nat → Int → List α → Option (List α)} {fu : Nat} (hl : xs.length ≤ 1048576) (hf : 1048577 ≤ fu)
    (hs:∀ k (i:Nat) ys x,i<xs.length→ys.length=xs.length→xs[i]? = some x→L (k+1) ((i:Nat):Int) ys=L k ((i+1:Nat):Int) (ys.set i x)) (he:∀ k ys,L (k+1) (xs.length:Int) ys=some ys) :
    (ck (mkOK (xs.length:Int))<|cl true (L fu (0:Int) (List.replicate (xs.length:Int).toNat z)) fun s=>some s)=some xs:=by
  rw [ck_t (zPg (by omega))]
  have:=zNJ hs he xs.length 0 fu (List.replicate (xs.length:Int).toNat z) (by omega) (by omega) (by simp) (by simp)
  rw [show ((0:Nat):Int)=0 from rfl] at this
  rw [this]
  rfl
theorem zPH {α : Type} [BEq α] {xs ys : List α} (hl : xs.length = ys.length) {L : Nat → Int → Option (Ex Bool Unit)}
    (hs:∀ k (i:Nat) x y,xs[i]? = some x→ys[i]? = some y→L (k+1) (i:Int)=bif !(x==y) then some (.ret false) else L k ((i+1:Nat):Int))
    (he:∀ k,L (k+1) (xs.length:Int)=some (.go ())) :
    ∀ m i k,i+m=xs.length→m<k→L k ((i:Nat):Int)=some (bif xs.drop i==ys.drop i then .go () else .ret false):=by
  intro m
  induction m with
  | zero=>
    intro i k hi hk
    obtain ⟨k,rfl⟩:∃ q,k=q+1:=⟨k-1,by omega⟩
    obtain rfl:i=xs.length:=by omega
    rw [he,List.drop_length,hl,List.drop_length]
    rfl
  | succ m ih=>
    intro i k hi hk
    obtain ⟨k,rfl⟩:∃ q,k=q+1:=⟨k-1,by omega⟩
    have hx:=List.getElem?_eq_getElem (show i<xs.length by omega)
    have hy:=List.getElem?_eq_getElem (show i<ys.length by omega)
    rw [hs k i _ _ hx hy,zCl hx,zCl hy,List.cons_beq_cons]
    cases xs[i]==ys[i]
    · rfl
    · rw [Bool.not_true, cond_false, Bool.true_and]
      exact ih (i+1) k (by omega) (by omega)
theorem zNF {α : Type} [BEq α] : ∀ {xs ys : List α}, xs.length ≠ ys.length → (xs == ys) = false
  | [],[],h=>absurd rfl h
  | [],_::_,_=>rfl
  | _::_,[],_=>rfl
  | x::xs,y::ys,h=>by
    rw [List.cons_beq_cons,zNF (xs:=xs) (ys:=ys) (fun e=>h (by simp [e])),Bool.and_false]
theorem zKj {α : Type} [BEq α] {xs ys : List α} {L : Nat → Int → Option (Ex Bool Unit)} {fu : Nat} (hf : xs.length < fu)
    (hs:∀ k (i:Nat) x y,xs.length=ys.length→xs[i]? = some x→ys[i]? = some y→L (k+1) (i:Int)=bif !(x==y) then some (.ret false) else L k ((i+1:Nat):Int))
    (he:∀ k,L (k+1) (xs.length:Int)=some (.go ())) :
    (bif ((xs.length:Int) != (ys.length:Int)) then some false else cl true (L fu (0:Int)) fun rl=>exM rl (fun r=>some r) fun s=>some true)=some (xs==ys):=by
  by_cases hl:xs.length=ys.length
  · have h1 : ((xs.length : Int) != (ys.length : Int)) = false := by simp [hl]
    have:=zPH hl (fun k i x y=>hs k i x y hl) he xs.length 0 fu (by omega) (by omega)
    rw [show ((0:Nat):Int)=0 from rfl,List.drop_zero,List.drop_zero] at this
    rw [h1,cond_false,this,zA8]
    cases xs==ys <;> rfl
  · have h1 : ((xs.length : Int) != (ys.length : Int)) = true := by simp; omega
    rw [h1,cond_true,zNF hl]
def cW {α:Type} (c:α→Int) (xs:List α):Int:=(xs.map c).sum
theorem zJH {α:Type} {c:α→Int} {x:α} {xs:List α}:cW c (x::xs)=c x+cW c xs:=by simp [cW]
theorem zFS {α : Type} {c : α → Int} (hc : ∀ x, 0 ≤ c x) : ∀ xs : List α, 0 ≤ cW c xs
  | []=>Int.le_refl _
  | x::xs=>by rw [zJH];have:=hc x;have:=zFS hc xs;omega
theorem zJe {α : Type} {c : α → Int} {f : α → Nat} (h : ∀ x, c x ≤ 8 * (f x : Int) + 8) : ∀ xs : List α, cW c xs ≤ 8 * (wL f xs : Int)
  | []=>by simp [cW,wL]
  | x::xs=>by
    have h1:=zJe h xs
    have h2:=h x
    rw [zJH]
    unfold wL at h1 ⊢
    simp only [List.length_cons,List.map_cons,List.sum_cons]
    omega
def mkW {α : Type} (f : α → Int → α) (c : α → Int) : List α → Int → List α
  | [],_=>[]
  | x::xs,k=>f x k::mkW f c xs (k+c x)
theorem zHU {α : Type} {f : α → Int → α} {c : α → Int} : ∀ {xs : List α} {k : Int}, (mkW f c xs k).length = xs.length
  | [],_=>rfl
  | x::xs,k=>by simp [mkW,zHU]
theorem zOk {α : Type} {f : α → Int → α} {c : α → Int} {Bd : α → Prop} {n : Nat} {lim : Int} {L : Nat → Int → Int → List α → Option (Int × List α)} (hc : ∀ x, 0 ≤ c x)
    (hs:∀ k y (i:Nat) ys x,i<n→ys.length=n→ys[i]? = some x→0<y→y+c x≤lim→Bd x→L (k+1) y (i:Int) ys=L k (y+c x) ((i+1:Nat):Int) (ys.set i (f x y)))
    (he:∀ k y ys,ys.length=n→L (k+1) y (n:Int) ys=some (y,ys)) :
    ∀ m i k y ys,i+m=n→m<k→ys.length=n→0<y→y+cW c (ys.drop i)≤lim→(∀ x ∈ ys.drop i,Bd x)→L k y ((i:Nat):Int) ys=some (y+cW c (ys.drop i),ys.take i++mkW f c (ys.drop i) y):=by
  intro m
  induction m with
  | zero=>
    intro i k y ys hi hk hl h0 h1 hb
    obtain ⟨k,rfl⟩:∃ q,k=q+1:=⟨k-1,by omega⟩
    obtain rfl:i=n:=by omega
    rw [he k y ys hl,List.drop_of_length_le (by omega),List.take_of_length_le (by omega)]
    simp [cW,mkW]
  | succ m ih=>
    intro i k y ys hi hk hl h0 h1 hb
    obtain ⟨k,rfl⟩:∃ q,k=q+1:=⟨k-1,by omega⟩
    have hlt:i<ys.length:=by omega
    have hx:=List.getElem?_eq_getElem hlt
    rw [zCl hx] at h1 hb ⊢
    rw [zJH] at h1 ⊢
    have hc1:=hc ys[i]
    have hc2:=zFS hc (ys.drop (i+1))
    have hd:(ys.set i (f ys[i] y)).drop (i+1)=ys.drop (i+1):=List.drop_set_of_lt (by omega)
    have ht:(ys.set i (f ys[i] y)).take (i+1)=ys.take i ++ [f ys[i] y]:=by
      rw [List.take_add_one,List.take_set_of_le (Nat.le_refl _),List.getElem?_set_self hlt]
      rfl
    rw [hs k y i ys _ (by omega) hl hx h0 (by omega) (hb _ (List.mem_cons_self ..)),ih (i+1) k _ _ (by omega) (by omega) (by rw [List.length_set];exact hl) (by omega) (by rw [hd];omega) (by rw [hd];exact fun x hx=>hb x (List.mem_cons_of_mem _ hx)),hd,ht,mkW,List.append_assoc,Int.add_assoc]
    rfl
theorem zIO {α : Type} {f : α → Int → α} {c : α → Int} {Bd : α → Prop} {lim : Int} {L : Nat → Int → Int → List α → Option (Int × List α)} {xs : List α} {k : Int} {fu : Nat} (hc : ∀ x, 0 ≤ c x) (hf : xs.length < fu) (hk : 0 < k) (h1 : k + cW c xs ≤ lim) (hb : ∀ x ∈ xs, Bd x)
    (hs:∀ k y (i:Nat) ys x,i<xs.length→ys.length=xs.length→ys[i]? = some x→0<y→y+c x≤lim→Bd x→L (k+1) y (i:Int) ys=L k (y+c x) ((i+1:Nat):Int) (ys.set i (f x y)))
    (he:∀ k y ys,ys.length=xs.length→L (k+1) y (xs.length:Int) ys=some (y,ys)) :
    (cl true (L fu k (0:Int) xs) fun s=>some (s.1,s.2))=some (k+cW c xs,mkW f c xs k):=by
  have:=zOk hc hs he xs.length 0 fu k xs (by omega) (by omega) rfl hk (by rw [List.drop_zero];exact h1) (by rw [List.drop_zero];exact hb)
  rw [show ((0:Nat):Int)=0 from rfl,List.drop_zero] at this
  rw [this]
  rfl
theorem zNn {α:Type} {f:α→Int→α} {c:α→Int} {zs:List α} {i:Nat} {x:α} {xs:List α} {k:Int} (h:zs.drop i=mkW f c (x::xs) k):zs[i]? = some (f x k)∧zs.drop (i+1)=mkW f c xs (k+c x):=by
  have h1:(zs.drop i)[0]? = some (f x k):=by rw [h];rfl
  rw [List.getElem?_drop,Nat.add_zero] at h1
  refine ⟨h1,?_⟩
  have h2:=zCl h1
  rw [h] at h2
  injection h2 with _ h2
  exact h2.symm
theorem zPM {α : Type} {f : α → Int → α} {c : α → Int} {Bd : α → Prop} {zs : List α} {lim : Int} {L : Nat → Int → Int → Option (Ex Int Int)} (hc : ∀ x, 0 ≤ c x)
    (hs:∀ k y (i:Nat) x,zs[i]? = some (f x y)→0<y→y+c x≤lim→Bd x→L (k+1) y (i:Int)=L k (y+c x) ((i+1:Nat):Int))
    (he:∀ k y,L (k+1) y (zs.length:Int)=some (.go y)) :
    ∀ xs i k y,i+xs.length=zs.length→xs.length<k→0<y→y+cW c xs≤lim→(∀ x ∈ xs,Bd x)→zs.drop i=mkW f c xs y→L k y ((i:Nat):Int)=some (.go (y+cW c xs)):=by
  intro xs
  induction xs with
  | nil=>
    intro i k y hi hk h0 h1 hb hz
    obtain ⟨k,rfl⟩:∃ q,k=q+1:=⟨k-1,by omega⟩
    obtain rfl:i=zs.length:=by simpa using hi
    rw [he]
    simp [cW]
  | cons x xs ih=>
    intro i k y hi hk h0 h1 hb hz
    obtain ⟨k,rfl⟩:∃ q,k=q+1:=⟨k-1,by omega⟩
    obtain ⟨hx,hz'⟩:=zNn hz
    rw [zJH] at h1 ⊢
    simp only [List.length_cons] at hi hk
    have hc1:=hc x
    have hc2:=zFS hc xs
    rw [hs k y i x hx h0 (by omega) (hb _ (List.mem_cons_self ..)),ih (i+1) k _ (by omega) (by omega) (by omega) (by omega) (fun x hx=>hb x (List.mem_cons_of_mem _ hx)) hz',Int.add_assoc]
theorem zN3 {α : Type} {f : α → Int → α} {c : α → Int} {Bd : α → Prop} {lim : Int} {L : Nat → Int → Int → Option (Ex Int Int)} {xs zs : List α} {k : Int} {fu : Nat} (hz : zs = mkW f c xs k) (hc : ∀ x, 0 ≤ c x) (hf : xs.length < fu) (hk : 0 < k) (h1 : k + cW c xs ≤ lim) (hb : ∀ x ∈ xs, Bd x)
    (hs:∀ k y (i:Nat) x,zs[i]? = some (f x y)→0<y→y+c x≤lim→Bd x→L (k+1) y (i:Int)=L k (y+c x) ((i+1:Nat):Int))
    (he:∀ k y,L (k+1) y (zs.length:Int)=some (.go y)) :
    (cl true (L fu k (0:Int)) fun rl=>exM rl (fun r=>some r) fun s=>some s)=some (k+cW c xs):=by
  have:=zPM hc hs he xs 0 fu k (by rw [hz,zHU];omega) (by omega) hk h1 hb (by rw [List.drop_zero];exact hz)
  rw [show ((0:Nat):Int)=0 from rfl] at this
  rw [this]
  rfl
end Go.Proofs.YtldppodfhabkjaaGreatDoor
namespace Go.Proofs.YtldppodfhabkjaaGreatDoor
open Go.RowKit
set_option linter.unusedVariables false
set_option linter.unusedSimpArgs false
def zCz (x:List (List UInt8)):Nat:=wL (fun s:List UInt8=>s.length) x
def zCZ (x:(Int) × (Int) × (Int) × (List (List UInt8))):Nat:=zCz x.2.2.2
def zCb (x:List ((Int) × (Int) × (Int) × (List (List UInt8)))):Nat:=wL zCZ x
theorem zLv {fu:Nat} {x:List (List UInt8)} {n:Int} (hb:(qS qB) x) (h0:0≤n) (h1:n≤1048576) (hf:1048577≤fu):zDH fu x n=some (szR n (zCz x)):=by
  unfold zDH zCz
  refine zNP h0 h1 hb.1 hf (L:=zBn fu x) (fun k y i z hl hz hy hy1=>?_) (fun k y=>by rw [zBn,lt_f];rfl)
  have hi:=zD7 hz
  have hq:=hb.2 z (zDh hz)
  unfold qB maxLen at hq
  rw [zBn,lt_t hi,cond_true,ck_t (zB0 hi),zAW hz,ck_t (zC4 (by omega) (by omega))]
  by_cases h:(z.length:Int)≤y
  · rw [zK2 h,zOy h,decide_eq_false (by omega),cond_false,cond_false,ck_t (zC2 (by omega)),zAo]
  · rw [zKc h,decide_eq_true (by omega),cond_true,cond_true]
theorem zMv {fu:Nat} {x:(Int) × (Int) × (Int) × (List (List UInt8))} {n:Int} (hb:(qP qI (qP qI (qP qI (qS qB)))) x) (h0:0≤n) (h1:n≤1048576) (hf:1048577≤fu):zDW fu x n=some (szR n (zCZ x)):=by
  unfold zDW zCZ
  rw [zLv hb.2.2.2 (by omega) (by omega) hf,zA8]
  by_cases g0:¬ (zCz x.2.2.2:Int)≤n
  · rw [zKc g0, cond_true]
    unfold szR
    rw [if_neg (by omega)]
  replace g0:=Classical.not_not.1 g0
  rw [zK2 g0,cond_false,zOy g0]
theorem zLx {fu:Nat} {x:List ((Int) × (Int) × (Int) × (List (List UInt8)))} {n:Int} (hb:(qS (qP qI (qP qI (qP qI (qS qB))))) x) (h0:0≤n) (h1:n≤1048576) (hf:1048577≤fu):zDL fu x n=some (szR n (zCb x)):=by
  unfold zDL zCb
  refine zNP h0 h1 hb.1 hf (L:=zBl fu x) (fun k y i z hl hz hy hy1=>?_) (fun k y=>by rw [zBl,lt_f];rfl)
  have hi:=zD7 hz
  have hq:=hb.2 z (zDh hz)
  rw [zBl,lt_t hi,cond_true,ck_t (zB0 hi),zAW hz,zMv hq hy hy1 hf,zA8]
  by_cases h:(zCZ z:Int)≤y
  · rw [zK2 h,cond_false,cond_false,ck_t (zC2 (by omega)),zAo]
  · rw [zKc h,cond_true,cond_true]
theorem zMB {fu:Nat} {x:List (List UInt8)} (hw:zCz x≤1048576) (hf:1048577≤fu):zDG fu x=some x:=by
  have hw':=hw
  unfold zCz wL at hw'
  unfold zDG
  refine zNI (by omega) hf (L:=zBi fu x) (fun k i ys z hi hl hz=>?_) (fun k ys=>by rw [zBi,lt_f];rfl)
  rw [zBi,lt_t hi,cond_true,ck_t (zB0 hi),ck_t (zB0 (by omega)),ck_t (zC2 (by omega)),zAW hz,zGT,zAo]
theorem zN8 {fu:Nat} {x:(Int) × (Int) × (Int) × (List (List UInt8))} (hw:zCZ x≤1048576) (hf:1048577≤fu):zDZ fu x=some x:=by
  unfold zCZ at hw
  unfold zDZ
  rw [zMB (by omega) hf,zA8]
theorem zLq {fu:Nat} {x:List ((Int) × (Int) × (Int) × (List (List UInt8)))} (hw:zCb x≤1048576) (hf:1048577≤fu):zBT fu x=some x:=by
  have hw':=hw
  unfold zCb wL at hw'
  unfold zBT
  refine zNI (by omega) hf (L:=zBj fu x) (fun k i ys z hi hl hz=>?_) (fun k ys=>by rw [zBj,lt_f];rfl)
  have hm:=zGQ (f:=zCZ) (zDh hz)
  rw [zBj,lt_t hi,cond_true,ck_t (zB0 hi),zAW hz,zN8 (by omega) hf,zA8,ck_t (zB0 (by omega)),ck_t (zC2 (by omega)),zGT,zAo]
theorem zLz {fu:Nat} {x y:List (List UInt8)} (hw:zCz x≤1048576) (hf:1048577≤fu):zDM fu x y=some (x==y):=by
  have hw':=hw
  unfold zCz wL at hw'
  unfold zDM
  refine zKj (by omega) (L:=zBo fu x y) (fun k i z z' hl hz hz'=>?_) (fun k=>by rw [zBo,lt_f];rfl)
  have hi:=zD7 hz
  rw [zBo,lt_t hi,cond_true,ck_t (zB0 hi),ck_t (zB0 (zD7 hz')),ck_t (zC2 (by omega)),zAW hz,zAW hz',zAo]
theorem zMn {fu:Nat} {x y:(Int) × (Int) × (Int) × (List (List UInt8))} (hw:zCZ x≤1048576) (hf:1048577≤fu):zDb fu x y=some (x==y):=by
  obtain ⟨x0,x1,x2,x3⟩:=x
  obtain ⟨y0,y1,y2,y3⟩:=y
  unfold zCZ at hw
  try simp only [] at hw
  unfold zDb
  rw [show (((x0,x1,x2,x3):(Int) × (Int) × (Int) × (List (List UInt8)))==(y0,y1,y2,y3))=((x0==y0)&&((x1==y1)&&((x2==y2)&&(x3==y3)))) from rfl]
  simp only []
  rw [zLz (by omega) hf,zA8]
  try simp only [bne]
  cases h0:(x0==y0) <;> cases h1:(x1==y1) <;> cases h2:(x2==y2) <;> cases h3:(x3==y3) <;> rfl
theorem zM9 {fu:Nat} {x y:List ((Int) × (Int) × (Int) × (List (List UInt8)))} (hw:zCb x≤1048576) (hf:1048577≤fu):zCk fu x y=some (x==y):=by
  have hw':=hw
  unfold zCb wL at hw'
  unfold zCk
  refine zKj (by omega) (L:=zBk fu x y) (fun k i z z' hl hz hz'=>?_) (fun k=>by rw [zBk,lt_f];rfl)
  have hi:=zD7 hz
  have hm:=zGQ (f:=zCZ) (zDh hz)
  rw [zBk,lt_t hi,cond_true,ck_t (zB0 hi),ck_t (zB0 (zD7 hz')),ck_t (zC2 (by omega)),zAW hz,zAW hz',zMn (by omega) hf,zA8,zAo]
def zDx (x:(Int) × (Int)):Nat:=0
def zDS (x:List ((Int) × (Int))):Nat:=wL zDx x
theorem zMz {fu:Nat} {x y:(Int) × (Int)} (hw:zDx x≤1048576) (hf:1048577≤fu):zDX fu x y=some (x==y):=by
  obtain ⟨x0,x1⟩:=x
  obtain ⟨y0,y1⟩:=y
  unfold zDx at hw
  try simp only [] at hw
  unfold zDX
  rw [show (((x0,x1):(Int) × (Int))==(y0,y1))=((x0==y0)&&(x1==y1)) from rfl]
  simp only []
  try simp only [bne]
  cases h0:(x0==y0) <;> cases h1:(x1==y1) <;> rfl
theorem zLs {fu:Nat} {x y:List ((Int) × (Int))} (hw:zDS x≤1048576) (hf:1048577≤fu):zBz fu x y=some (x==y):=by
  have hw':=hw
  unfold zDS wL at hw'
  unfold zBz
  refine zKj (by omega) (L:=zBe fu x y) (fun k i z z' hl hz hz'=>?_) (fun k=>by rw [zBe,lt_f];rfl)
  have hi:=zD7 hz
  have hm:=zGQ (f:=zDx) (zDh hz)
  rw [zBe,lt_t hi,cond_true,ck_t (zB0 hi),ck_t (zB0 (zD7 hz')),ck_t (zC2 (by omega)),zAW hz,zAW hz',zMz (by omega) hf,zA8,zAo]
def mt (k:Int):List UInt8:=gv (zD3 64 k)
theorem zFb {fu fu' : Nat} : ∀ (d : Nat) (y : Int) (s : List UInt8) (k : Nat), 0 ≤ y → y ≤ 4294967296 → y < 10 ^ d → d < k → s.length + d ≤ 1000 → ∃ r, r.length ≤ s.length + d ∧ zBZ fu k y s = some r ∧ zBZ fu' (d + 1) y s = some r
  | 0,y,s,k,h0,hM,h1,hk,hl=>by
    obtain ⟨k,rfl⟩:∃ q,k=q+1:=⟨k-1,by omega⟩
    obtain rfl:y=0:=by omega
    exact ⟨s,by omega,rfl,rfl⟩
  | d+1,y,s,k,h0,hM,h1,hk,hl=>by
    obtain ⟨k,rfl⟩:∃ q,k=q+1:=⟨k-1,by omega⟩
    rw [zBZ,zBZ]
    by_cases hy:0<y
    · have e1 : y.tmod 10 = y % 10 := Int.tmod_eq_emod_of_nonneg h0
      have e2:y.tdiv 10=y / 10:=Int.tdiv_eq_ediv_of_nonneg h0
      have hp:(10:Int) ^ (d+1)=10 ^ d*10:=Int.pow_succ ..
      have hm:0≤y % 10∧y % 10<10:=⟨Int.emod_nonneg _ (by omega),Int.emod_lt_of_pos _ (by omega)⟩
      have hlen:((strB [IntKind.u8.wrap (48+y.tmod 10)])++s).length=s.length+1:=by simp [strB]
      have hy2:i64B (y.tdiv 10)=true:=by
        rw [e2]
        exact zC4 (by have:=Int.ediv_nonneg h0 (show (0:Int)≤10 by omega);omega) (by have:=Int.ediv_le_self 10 h0;omega)
      rw [decide_eq_true hy,cond_true,cond_true,ck_t (by decide),ck_t (zC4 (by omega) (by omega)),ck_t (zAg (by rw [hlen];omega)),ck_t (by decide),ck_t hy2,ck_t (by decide),ck_t (zC4 (by omega) (by omega)),ck_t (zAg (by rw [hlen];omega)),ck_t (by decide),ck_t hy2]
      obtain ⟨r,h2,h3,h4⟩:=zFb (fu:=fu) (fu':=fu') d (y.tdiv 10) ((strB [IntKind.u8.wrap (48+y.tmod 10)])++s) k (by rw [e2];exact Int.ediv_nonneg h0 (by omega)) (by rw [e2];have:=Int.ediv_le_self 10 h0;omega) (by rw [e2];exact Int.ediv_lt_of_lt_mul (by omega) (by omega)) (by omega) (by rw [hlen];omega)
      exact ⟨r,by rw [hlen] at h2;omega,h3,h4⟩
    · obtain rfl : y = 0 := by omega
      exact ⟨s,by omega,rfl,rfl⟩
theorem zMM {fu:Nat} {k:Int} (h0:0<k) (h1:k≤4294967296) (hf:1048577≤fu):zD3 fu k=some (mt k):=by
  obtain ⟨r,h2,h3,h4⟩:=zFb (fu:=fu) (fu':=64) 12 k [] fu (by omega) h1 (by omega) (by omega) (by decide)
  obtain ⟨r',_,h3',h4'⟩:=zFb (fu:=64) (fu':=64) 12 k [] 64 (by omega) h1 (by omega) (by omega) (by decide)
  have e:r=r':=by rw [h4] at h4';injection h4'
  subst e
  unfold mt zD3
  rw [decide_eq_false (by omega),cond_false,cond_false,h3,h3',zA8,ck_t (zAg (by simp at h2 ⊢;omega))]
  rfl
def zJA (x:List UInt8) (k:Int):List UInt8:=mt k
def zEV (x:List UInt8):Int:=1
theorem zIG (x:List UInt8):0≤zEV x:=by
  unfold zEV
  omega
def zKS (x:List (List UInt8)) (k:Int):List (List UInt8):=mkW zJA zEV x k
def zFM (x:List (List UInt8)):Int:=cW zEV x
theorem zIx (x:List (List UInt8)):0≤zFM x:=zFS zIG x
theorem zM8 (x:List (List UInt8)):zFM x≤8*(zCz x:Int):=by
  unfold zFM zCz
  refine zJe (fun x=>?_) x
  unfold zEV
  omega
def zHY (x:(Int) × (Int) × (Int) × (List (List UInt8))) (k:Int):(Int) × (Int) × (Int) × (List (List UInt8)):=(k,k+1,k+1+1,zKS x.2.2.2 (k+1+1+1))
def zEA (x:(Int) × (Int) × (Int) × (List (List UInt8))):Int:=1+1+1+zFM x.2.2.2
theorem zIA (x:(Int) × (Int) × (Int) × (List (List UInt8))):0≤zEA x:=by
  unfold zEA
  have:=zIx (x.2.2.2)
  omega
def zKT (x:List ((Int) × (Int) × (Int) × (List (List UInt8)))) (k:Int):List ((Int) × (Int) × (Int) × (List (List UInt8))):=mkW zHY zEA x k
def zF5 (x:List ((Int) × (Int) × (Int) × (List (List UInt8)))):Int:=cW zEA x
theorem zM1 (x:List ((Int) × (Int) × (Int) × (List (List UInt8)))):0≤zF5 x:=zFS zIA x
theorem zMH (x:List ((Int) × (Int) × (Int) × (List (List UInt8)))):zF5 x≤8*(zCb x:Int):=by
  unfold zF5 zCb
  refine zJe (fun x=>?_) x
  unfold zEA zCZ
  have:=zM8 (x.2.2.2)
  omega
theorem zKM {fu:Nat} {x:List (List UInt8)} {k:Int} (hw:zCz x≤1048576) (hk:0<k) (h1:k+zFM x≤4294967296) (hf:1048577≤fu):zCn fu x k=some (k+zFM x,zKS x k):=by
  have hw':=hw
  unfold zCz wL at hw'
  unfold zCn
  have hb:∀ z ∈ x,(fun s:List UInt8=>s.length) z≤1048576:=fun z hz=>Nat.le_trans (zGQ (f:=(fun s:List UInt8=>s.length)) hz) (by omega)
  refine zIO (f:=zJA) (c:=zEV) (Bd:=(fun z:List UInt8=>(fun s:List UInt8=>s.length) z≤1048576)) (lim:=4294967296) (L:=zBM fu) zIG (by omega) hk h1 hb (fun k y i ys z hi hl hz hy hyl hbz=>?_) (fun k y ys hl=>by rw [zBM,hl,lt_f];rfl)
  have hil:i<ys.length:=by omega
  unfold zEV at hyl
  rw [zBM,lt_t hil,cond_true,zMM hy (by omega) hf,zA8,ck_t (zB0 hil),ck_t (zC4 (by omega) (by omega)),ck_t (zC2 (by omega)),zGT,zAo]
  rfl
theorem zKE {fu:Nat} {x:List ((Int) × (Int) × (Int) × (List (List UInt8)))} {k:Int} (hw:zCb x≤1048576) (hk:0<k) (h1:k+zF5 x≤4294967296) (hf:1048577≤fu):zCP fu x k=some (k+zF5 x,zKT x k):=by
  have hw':=hw
  unfold zCb wL at hw'
  unfold zCP
  have hb:∀ z ∈ x,zCZ z≤1048576:=fun z hz=>Nat.le_trans (zGQ (f:=zCZ) hz) (by omega)
  refine zIO (f:=zHY) (c:=zEA) (Bd:=(fun z:(Int) × (Int) × (Int) × (List (List UInt8))=>zCZ z≤1048576)) (lim:=4294967296) (L:=zBN fu) zIA (by omega) hk h1 hb (fun k y i ys z hi hl hz hy hyl hbz=>?_) (fun k y ys hl=>by rw [zBN,hl,lt_f];rfl)
  have hil:i<ys.length:=by omega
  unfold zEA at hyl
  have hc3:=zIx (z.2.2.2)
  have hbz':zCZ z≤1048576:=hbz
  unfold zCZ at hbz'
  rw [zBN,lt_t hil,cond_true]
  have b0:i64B (y+1)=true:=zC4 (by omega) (by omega)
  have b1:i64B (y+1+1)=true:=zC4 (by omega) (by omega)
  have b2:i64B (y+1+1+1)=true:=zC4 (by omega) (by omega)
  have m3:=zKM (x:=z.2.2.2) (k:=y+1+1+1) (by omega) (by omega) (by omega) hf
  have b:i64B ((i:Int)+1)=true:=zC2 (by omega)
  have b':i64B ((i+1:Nat):Int)=true:=b
  simp only [List.length_set,zGT,List.set_set,zB0 hil,zCu,zA8,zAo,zMs hil,zAW hz,b0,b1,b2,m3,b,b',cond_true,cond_false,Bool.not_true,beq_self_eq_true,bne_self_eq_false']
  try simp only [zHY,zEA,Int.add_assoc]
  try rfl
def zEv (x:(Int) × (Int)) (k:Int):(Int) × (Int):=(k,k+1)
def zD1 (x:(Int) × (Int)):Int:=1+1
theorem zGZ (x:(Int) × (Int)):0≤zD1 x:=by
  unfold zD1
  omega
def zGo (x:List ((Int) × (Int))) (k:Int):List ((Int) × (Int)):=mkW zEv zD1 x k
def zDs (x:List ((Int) × (Int))):Int:=cW zD1 x
theorem zM4 (x:List ((Int) × (Int))):0≤zDs x:=zFS zGZ x
theorem zME (x:List ((Int) × (Int))):zDs x≤8*(zDS x:Int):=by
  unfold zDs zDS
  refine zJe (fun x=>?_) x
  unfold zD1 zDx
  omega
theorem zKK {fu:Nat} {x:List ((Int) × (Int))} {k:Int} (hw:zDS x≤1048576) (hk:0<k) (h1:k+zDs x≤4294967296) (hf:1048577≤fu):zCL fu x k=some (k+zDs x,zGo x k):=by
  have hw':=hw
  unfold zDS wL at hw'
  unfold zCL
  have hb:∀ z ∈ x,zDx z≤1048576:=fun z hz=>Nat.le_trans (zGQ (f:=zDx) hz) (by omega)
  refine zIO (f:=zEv) (c:=zD1) (Bd:=(fun z:(Int) × (Int)=>zDx z≤1048576)) (lim:=4294967296) (L:=zBO fu) zGZ (by omega) hk h1 hb (fun k y i ys z hi hl hz hy hyl hbz=>?_) (fun k y ys hl=>by rw [zBO,hl,lt_f];rfl)
  have hil:i<ys.length:=by omega
  unfold zD1 at hyl
  rw [zBO,lt_t hil,cond_true]
  have b0:i64B (y+1)=true:=zC4 (by omega) (by omega)
  have b1:i64B (y+1+1)=true:=zC4 (by omega) (by omega)
  have b:i64B ((i:Int)+1)=true:=zC2 (by omega)
  have b':i64B ((i+1:Nat):Int)=true:=b
  simp only [List.length_set,zGT,List.set_set,zB0 hil,zCu,zA8,zAo,zMs hil,zAW hz,b0,b1,b,b',cond_true,cond_false,Bool.not_true,beq_self_eq_true,bne_self_eq_false']
  try simp only [zEv,zD1,Int.add_assoc]
  try rfl
theorem zKJ {fu:Nat} {x z:List ((Int) × (Int))} {k:Int} (hz:z=zGo x k) (hw:zDS x≤1048576) (hk:0<k) (h1:k+zDs x≤4294967296) (hf:1048577≤fu):zBt fu z k=some (k+zDs x):=by
  have hw':=hw
  unfold zDS wL at hw'
  unfold zBt
  have hb:∀ z ∈ x,zDx z≤1048576:=fun z hz=>Nat.le_trans (zGQ (f:=zDx) hz) (by omega)
  have hzl:z.length=x.length:=by rw [hz];exact zHU
  refine zN3 (f:=zEv) (c:=zD1) (Bd:=(fun z:(Int) × (Int)=>zDx z≤1048576)) (lim:=4294967296) (L:=zBQ fu z) hz zGZ (by omega) hk h1 hb (fun k y i u hu hy hyl hbz=>?_) (fun k y=>by rw [zBQ,lt_f];rfl)
  have hi:=zD7 hu
  unfold zD1 at hyl
  rw [zBQ,lt_t hi,cond_true]
  have b0:i64B (y+1)=true:=zC4 (by omega) (by omega)
  have b1:i64B (y+1+1)=true:=zC4 (by omega) (by omega)
  have b:i64B ((i:Int)+1)=true:=zC2 (by omega)
  have b':i64B ((i+1:Nat):Int)=true:=b
  simp only [zB0 hi,zCu,zA8,zAo,zAW hu,zEv,b0,b1,b,b',cond_true,cond_false,Bool.not_true,beq_self_eq_true,bne_self_eq_false']
  try simp only [zEv,zD1,Int.add_assoc]
  try rfl
theorem zIi {fu : Nat} {a0 : List ((Int) × (Int) × (Int) × (List (List UInt8)))} {a1 : Int} (hf : 1048577 ≤ fu) (h0 : (qS (qP qI (qP qI (qP qI (qS qB))))) a0) (h1 : qI a1)
    (hs:zCb a0≤1048576→∃ r:(List ((Int) × (Int))),zBp fu a0 a1=some r∧zBU fu a0 a1=some r∧zDS r≤1048576):zCM fu a0 a1=some true:=by
  unfold zCM
  rw [zLx h0 (by omega) (by omega) hf,zA8]
  by_cases g0:¬ (zCb a0:Int)≤1048576
  · rw [zKc g0,cond_true]
  replace g0:=Classical.not_not.1 g0
  rw [zK2 g0,cond_false]
  obtain ⟨r,e1,e2,v0⟩:=hs (by omega)
  have t0:zBT fu a0=some a0:=zLq (by omega) hf
  have q0:zCk fu a0 a0=some (a0==a0):=zM9 (by omega) hf
  have p0:zBz fu r r=some (r==r):=zLs (by omega) hf
  have c0:=zM1 a0
  have d0:=zMH a0
  have m0:zCP fu a0 (1)=some (1+zF5 a0,zKT a0 (1)):=zKE (by omega) (by omega) (by omega) hf
  have k0:decide (1+zF5 a0<0)=false:=decide_eq_false (by omega)
  have cr0:=zM4 r
  have dr0:=zME r
  have mr0:zCL fu r (1)=some (1+zDs r,zGo r (1)):=zKK (by omega) (by omega) (by omega) hf
  have hr0:zBt fu (zGo r (1)) (1)=some (1+zDs r):=zKJ rfl (by omega) (by omega) (by omega) hf
  have kr0:decide (1+zDs r<0)=false:=decide_eq_false (by omega)
  simp only [e1,e2,zA8,zCf,beq_self_eq_true,bne_self_eq_false',Bool.not_true,Bool.not_false,cond_false,cond_true,Bool.true_and,Bool.and_true,Bool.false_or,Bool.or_false,Bool.true_or,Bool.false_and,t0,q0,p0,m0,k0,mr0,hr0,kr0,show (false==false)=true from rfl,show (true==false)=false from rfl,show (false==true)=false from rfl]
end Go.Proofs.YtldppodfhabkjaaGreatDoor
namespace Go.Proofs.YtldppodfhabkjaaGreatDoor
open Go.RowKit
set_option linter.unusedVariables false
theorem zGB {α ρ : Type} {xs : List α} {p : α → Bool} {r : ρ} {L : Nat → Int → Option (Ex ρ Unit)}
    (hs:∀ k (i:Nat) x,xs[i]? = some x→L (k+1) (i:Int)=bif p x then some (.ret r) else L k ((i+1:Nat):Int)) (he:∀ k,L (k+1) (xs.length:Int)=some (.go ())) {fu:Nat} (hf:xs.length<fu) :
    L fu (0:Int)=some (bif xs.any p then .ret r else .go ()):=by
  have key:∀ m i k,i+m=xs.length→m<k→L k ((i:Nat):Int)=some (bif (xs.drop i).any p then .ret r else .go ()):=by
    intro m
    induction m with
    | zero=>
      intro i k hi hk
      obtain ⟨k,rfl⟩:∃ q,k=q+1:=⟨k-1,by omega⟩
      obtain rfl:i=xs.length:=by omega
      rw [he,List.drop_length]
      rfl
    | succ m ih=>
      intro i k hi hk
      obtain ⟨k,rfl⟩:∃ q,k=q+1:=⟨k-1,by omega⟩
      have hx:=List.getElem?_eq_getElem (show i<xs.length by omega)
      rw [hs k i _ hx,zCl hx,List.any_cons]
      cases p xs[i]
      · exact ih (i+1) k (by omega) (by omega)
      · rfl
  have:=key xs.length 0 fu (by omega) hf
  rwa [show ((0:Nat):Int)=0 from rfl,List.drop_zero] at this
def ixI : Nat → List Bool → Option Nat
  | _,[]=>none
  | i,b::bs=>bif b then some i else ixI (i+1) bs
theorem zJp : ∀ {bs : List Bool} {i j : Nat}, ixI i bs = some j → i ≤ j ∧ bs[j - i]? = some true ∧ ∀ q, q < j - i → bs[q]? = some false
  | [],i,j,h=>by cases h
  | b::bs,i,j,h=>by
    unfold ixI at h
    cases b with
    | true=>
      obtain rfl:=Option.some.inj h
      refine ⟨Nat.le_refl _,by simp,fun q hq=>by omega⟩
    | false=>
      obtain ⟨h1,h2,h3⟩:=zJp (bs:=bs) (i:=i+1) h
      refine ⟨by omega,?_,fun q hq=>?_⟩
      · rw [show j - i = (j - (i + 1)) + 1 by omega, List.getElem?_cons_succ]
        exact h2
      · cases q with
        | zero=>rfl
        | succ q=>rw [List.getElem?_cons_succ];exact h3 q (by omega)
theorem zJU : ∀ {bs : List Bool} {i : Nat}, ixI i bs = none → ∀ b ∈ bs, b = false
  | [],i,h,b,hb=>by cases hb
  | c::bs,i,h,b,hb=>by
    unfold ixI at h
    cases c with
    | true=>cases h
    | false=>
      rcases List.mem_cons.1 hb with rfl | hb
      · rfl
      · exact zJU (bs:=bs) (i:=i+1) h b hb
theorem zN1 {α : Type} {xs : List α} {p : α → Bool} {L : Nat → Int → Option (Ex Int Unit)}
    (hs:∀ k (i:Nat) x,xs[i]? = some x→L (k+1) (i:Int)=bif p x then some (.ret (i:Int)) else L k ((i+1:Nat):Int)) (he:∀ k,L (k+1) (xs.length:Int)=some (.go ())) {fu:Nat} (hf:xs.length<fu) :
    L fu (0:Int)=some (match ixI 0 (xs.map p) with | some i=>.ret (i:Int) | none=>.go ()):=by
  have key:∀ m i k,i+m=xs.length→m<k→L k ((i:Nat):Int)=some (match ixI i ((xs.drop i).map p) with | some i=>.ret (i:Int) | none=>.go ()):=by
    intro m
    induction m with
    | zero=>
      intro i k hi hk
      obtain ⟨k,rfl⟩:∃ q,k=q+1:=⟨k-1,by omega⟩
      obtain rfl:i=xs.length:=by omega
      rw [he,List.drop_length]
      rfl
    | succ m ih=>
      intro i k hi hk
      obtain ⟨k,rfl⟩:∃ q,k=q+1:=⟨k-1,by omega⟩
      have hx:=List.getElem?_eq_getElem (show i<xs.length by omega)
      rw [hs k i _ hx,zCl hx,List.map_cons,ixI]
      cases p xs[i]
      · exact ih (i+1) k (by omega) (by omega)
      · rfl
  have:=key xs.length 0 fu (by omega) hf
  rwa [show ((0:Nat):Int)=0 from rfl,List.drop_zero] at this
theorem zDq {α σ : Type} {xs : List α} {g : σ → α → σ} {Inv : Nat → σ → Prop} {L : Nat → Int → σ → Option σ}
    (hs:∀ k (i:Nat) a x,xs[i]? = some x→Inv i a→L (k+1) (i:Int) a=L k ((i+1:Nat):Int) (g a x)) (hI:∀ (i:Nat) a x,xs[i]? = some x→Inv i a→Inv (i+1) (g a x))
    (he:∀ k a,Inv xs.length a→L (k+1) (xs.length:Int) a=some a) {a:σ} (h0:Inv 0 a) {fu:Nat} (hf:xs.length<fu) :
    L fu (0:Int) a=some (xs.foldl g a)∧Inv xs.length (xs.foldl g a):=by
  have key:∀ m i k a,i+m=xs.length→m<k→Inv i a→L k ((i:Nat):Int) a=some ((xs.drop i).foldl g a)∧Inv xs.length ((xs.drop i).foldl g a):=by
    intro m
    induction m with
    | zero=>
      intro i k a hi hk ha
      obtain ⟨k,rfl⟩:∃ q,k=q+1:=⟨k-1,by omega⟩
      obtain rfl:i=xs.length:=by omega
      rw [he k a ha,List.drop_length]
      exact ⟨rfl,ha⟩
    | succ m ih=>
      intro i k a hi hk ha
      obtain ⟨k,rfl⟩:∃ q,k=q+1:=⟨k-1,by omega⟩
      have hx:=List.getElem?_eq_getElem (show i<xs.length by omega)
      rw [hs k i a _ hx ha,zCl hx,List.foldl_cons]
      exact ih (i+1) k _ (by omega) (by omega) (hI i a _ hx ha)
  have:=key xs.length 0 fu a (by omega) hf h0
  rwa [show ((0:Nat):Int)=0 from rfl,List.drop_zero] at this
theorem zCg {i:Nat} (hn:i≤4294967296):i64B ((i+1:Nat):Int)=true:=zC4 (by omega) (by omega)
theorem zNQ (i:Nat) (hn:i≤4294967296):i64B (i:Int)=true:=zC4 (by omega) (by omega)
theorem lt_0 {n:Nat} (h:0<n):decide ((0:Int)<(n:Int))=true:=decide_eq_true (by omega)
theorem zOj {n:Nat} (h:0<n):inR (0:Int) n=true:=zB0 (i:=0) h
theorem zPs:(0:Int)+1=((1:Nat):Int):=rfl
theorem zOd:i64B ((1:Nat):Int)=true:=rfl
theorem zPZ (i:Nat):((i+1:Nat):Int)-1=(i:Int):=by omega
end Go.Proofs.YtldppodfhabkjaaGreatDoor
namespace Go.Proofs.YtldppodfhabkjaaGreatDoor
open Go.RowKit
set_option linter.unusedVariables false
set_option linter.unusedSimpArgs false
theorem zEo {t:List UInt8} {i:Nat} {c:UInt8} (h:t[i]? = some c):bAt t (i:Int)=(c.toNat:Int):=by
  unfold bAt
  rw [Int.toNat_natCast,List.getD_eq_getElem?_getD,h]
  rfl
def smI (n:Int):Bool:=decide (97≤n)&&decide (n≤122)
def dgI (n:Int):Bool:=decide (48≤n)&&decide (n≤57)
def cpI (n:Int):Bool:=decide (65≤n)&&decide (n≤90)
def zJY (n:Int):Int:=bif cpI n then n+32 else n
theorem zKn (n:Int) (h0:0≤n) (h1:n≤255):IntKind.u8.wrap n=n:=by
  have:n % 256=n:=Int.emod_eq_of_lt h0 (by omega)
  simp [IntKind.wrap,IntKind.bits,this,show IntKind.u8.signed=false from rfl]
theorem zPN {fu:Nat} {t:List UInt8} (hf:t.length<fu) (hl:t.length≤1048576):zCD fu t=some (t.map fun c=>UInt8.ofNat (zJY c.toNat).toNat):=by
  unfold zCD
  have h:=zDq (xs:=t) (g:=fun (a:List Int) (c:UInt8)=>a ++ [zJY c.toNat]) (Inv:=fun i a=>a.length=i) (L:=zBY fu t) (fun k i a c hc ha=>by
    have hi:=zD7 hc
    have hcu:c.toNat<256:=c.toNat_lt
    rw [zBY,lt_t hi,cond_true]
    simp only [zB0 hi,zEo hc,zCf,zCu,List.length_singleton,zAg (show a.length+1≤4294967296 by omega),zCg (show i≤4294967296 by omega),zAo,zJY,cpI]
    cases hcp:(decide ((65:Int)≤(c.toNat:Int))&&decide ((c.toNat:Int)≤90))
    · rfl
    · simp only [Bool.and_eq_true, decide_eq_true_eq] at hcp
      rw [zKn _ (by omega) (by omega)]
      rfl) (fun i a c hc ha=>by simp [ha]) (fun k a ha=>by rw [zBY,lt_f];rfl) (a:=[]) rfl hf
  rw [h.1,zA8]
  have key:∀ (t:List UInt8) (a:List Int),t.foldl (fun (a:List Int) (c:UInt8)=>a ++ [zJY c.toNat]) a=a++t.map fun c=>zJY c.toNat:=by
    intro t
    induction t with
    | nil=>intro a;simp
    | cons c t ih=>intro a;rw [List.foldl_cons,ih];simp
  rw [key,List.nil_append]
  unfold strB
  rw [List.map_map]
  rfl
def wdI (n:Int):Bool:=(smI n || cpI n) || dgI n
end Go.Proofs.YtldppodfhabkjaaGreatDoor
namespace Go.Proofs.YtldppodfhabkjaaGreatDoor
open Go.RowKit
set_option linter.unusedVariables false
set_option linter.unusedSimpArgs false
def spC (c : UInt8) : List UInt8 → List (List UInt8)
  | []=>[[]]
  | b :: s => if b = c then [] :: spC c s else match spC c s with
    | []=>[[b]]
    | x::xs=>(b::x)::xs
theorem zLe (c:UInt8) (s:List UInt8):spC c s ≠ []:=by
  cases s with
  | nil=>simp [spC]
  | cons b s=>
    unfold spC
    split
    · simp
    · cases spC c s <;> simp
theorem zLU {c : UInt8} : ∀ {s : List UInt8}, c ∉ s → spC c s = [s]
  | [],_=>rfl
  | b::s,h=>by
    have h1:b ≠ c:=fun e=>h (e ▸ List.mem_cons_self)
    have h2:=zLU (c:=c) (s:=s) fun h'=>h (List.mem_cons_of_mem _ h')
    unfold spC
    rw [if_neg h1,h2]
theorem zNH {c : UInt8} : ∀ {x s : List UInt8}, c ∉ x → spC c (x ++ c :: s) = x :: spC c s
  | [],s,_=>by
    show spC c (c::s)=_
    rw [spC,if_pos rfl]
  | b::x,s,h=>by
    have h1:b ≠ c:=fun e=>h (e ▸ List.mem_cons_self)
    have h2:=zNH (c:=c) (x:=x) (s:=s) fun h'=>h (List.mem_cons_of_mem _ h')
    rw [List.cons_append,spC,if_neg h1,h2]
theorem zJG (c : UInt8) : ∀ s : List UInt8, (spC c s).length ≤ s.length + 1
  | []=>Nat.le_refl _
  | b::s=>by
    have:=zJG c s
    unfold spC
    split
    · simp only [List.length_cons];omega
    · cases h : spC c s with
      | nil=>simp
      | cons x xs=>rw [h] at this;simp only [List.length_cons] at this ⊢;omega
theorem zJu (c : UInt8) : ∀ s : List UInt8, ∀ x ∈ spC c s, x.length ≤ s.length
  | [],x,hx=>by rw [spC] at hx;rw [List.mem_singleton.1 hx];exact Nat.le_refl _
  | b::s,x,hx=>by
    unfold spC at hx
    split at hx
    · rcases List.mem_cons.1 hx with rfl | hx
      · exact Nat.zero_le _
      · exact Nat.le_succ_of_le (zJu c s x hx)
    · cases h : spC c s with
      | nil=>exact absurd h (zLe c s)
      | cons y ys=>
        rw [h] at hx
        rcases List.mem_cons.1 hx with rfl | hx
        · have := zJu c s y (by rw [h]; exact List.mem_cons_self)
          simp only [List.length_cons];omega
        · have := zJu c s x (by rw [h]; exact List.mem_cons_of_mem _ hx)
          simp only [List.length_cons];omega
theorem zJI {t:List UInt8} {i:Nat} {c:UInt8} (h:t[i]? = some c):bAt t (i:Int)=(c.toNat:Int):=by
  unfold bAt
  simp [List.getD_eq_getElem?_getD,h]
theorem zNW {s:List UInt8} {a b:Nat}:subL s (a:Int) (b:Int)=(s.drop a).take (b-a):=by simp [subL]
theorem zNa {fu : Nat} {s : List UInt8} {c : UInt8} (hs : s.length ≤ 1048576) : ∀ m i a k (acc : List (List UInt8)), i + m = s.length → m < k → a ≤ i → acc.length ≤ i → c ∉ (s.drop a).take (i - a) →
    ∃ q:Nat × List (List UInt8),zCE fu s (c.toNat:Int) k (a:Int) (i:Int) acc=some ((q.1:Int),q.2)∧q.1≤s.length∧q.2.length≤s.length∧q.2 ++ [s.drop q.1]=acc++spC c (s.drop a):=by
  intro m
  induction m with
  | zero=>
    intro i a k acc hi hk ha hacc hn
    obtain ⟨k,rfl⟩:∃ z,k=z+1:=⟨k-1,by omega⟩
    obtain rfl:i=s.length:=by omega
    refine ⟨(a,acc),by rw [zCE,lt_f];rfl,ha,hacc,?_⟩
    rw [List.take_of_length_le (by simp)] at hn
    rw [zLU hn]
  | succ m ih=>
    intro i a k acc hi hk ha hacc hn
    obtain ⟨k,rfl⟩:∃ z,k=z+1:=⟨k-1,by omega⟩
    have hlt:i<s.length:=by omega
    have hx:=List.getElem?_eq_getElem hlt
    have hdrop:s.drop a=(s.drop a).take (i-a)++s[i]::s.drop (i+1):=by
      have h1:(s.drop a).drop (i-a)=s[i]::s.drop (i+1):=by
        rw [List.drop_drop,show a+(i-a)=i by omega]
        exact List.drop_eq_getElem_cons hlt
      rw [← h1,List.take_append_drop]
    rw [zCE,lt_t hlt,cond_true,ck_t (zB0 hlt),zJI hx]
    by_cases hc:s[i]=c
    · have e : ((s[i].toNat : Int) == (c.toNat : Int)) = true := by rw [hc]; simp
      obtain ⟨q,h1,h2,h3,h4⟩:=ih (i+1) (i+1) k (acc ++ [(s.drop a).take (i-a)]) (by omega) (by omega) (Nat.le_refl _) (by simp;omega) (by simp)
      refine ⟨q,?_,h2,h3,?_⟩
      · rw [e, cond_true, ck_t (zBJ.2 ⟨by omega, by omega, by omega⟩), ck_t (zAg (by simp; omega)), ck_t (zC2 (by omega)), ck_t (zC2 (by omega)), zAo, zNW]
        exact h1
      · have e3 := congrArg (spC c) hdrop
        rw [hc,zNH hn] at e3
        rw [h4,e3,List.append_assoc]
        rfl
    · have e:((s[i].toNat:Int)==(c.toNat:Int))=false:=by
        rw [beq_eq_false_iff_ne]
        intro h
        exact hc (UInt8.toNat_inj.1 (by omega))
      obtain ⟨q, h1, h2, h3, h4⟩ := ih (i + 1) a k acc (by omega) (by omega) (by omega) (by omega) (by
        have ht:(s.drop a).take (i+1-a)=(s.drop a).take (i-a) ++ [s[i]]:=by
          rw [show i+1-a=(i-a)+1 by omega,List.take_add_one,List.getElem?_drop,show a+(i-a)=i by omega,hx]
          rfl
        rw [ht]
        intro h
        rcases List.mem_append.1 h with h | h
        · exact hn h
        · exact hc (List.mem_singleton.1 h).symm)
      refine ⟨q,?_,h2,h3,h4⟩
      rw [e,cond_false,ck_t (zC2 (by omega)),zAo]
      exact h1
theorem zPK {fu:Nat} {s:List UInt8} {c:UInt8} (hf:1048577≤fu) (hs:s.length≤1048576):zDT fu s (c.toNat:Int)=some (spC c s):=by
  obtain ⟨q,h1,h2,h3,h4⟩:=zNa (fu:=fu) (c:=c) hs s.length 0 0 fu [] (by omega) (by omega) (Nat.le_refl _) (Nat.zero_le _) (by simp)
  unfold zDT
  have e:subL s (q.1:Int) (s.length:Int)=s.drop q.1:=by
    unfold subL
    exact List.take_of_length_le (by simp only [List.length_drop];omega)
  rw [show (0:Int)=((0:Nat):Int) from rfl,h1,zA8]
  dsimp only
  rw [ck_t (zBJ.2 ⟨by omega,by omega,by omega⟩),e,ck_t (zAg (by simp;omega)),h4]
  simp
theorem zKr {b c:UInt8} {l:List UInt8} (h:b ≠ c):Lib.index (b::l) [c]=if Lib.index l [c] == -1 then -1 else Lib.index l [c]+1:=by
  have hp:([c]:List UInt8).isPrefixOf (b::l)=false:=by simp [List.isPrefixOf,Ne.symm h]
  rw [Lib.index,hp]
  simp
end Go.Proofs.YtldppodfhabkjaaGreatDoor
namespace Go.Proofs.YtldppodfhabkjaaGreatDoor
open Go.RowKit
set_option linter.unusedVariables false
set_option linter.unusedSimpArgs false
theorem zCC (s:List UInt8):(bytL s).length=s.length:=by simp [bytL]
theorem zEE (s:List UInt8):strB (bytL s)=s:=by
  unfold strB bytL
  rw [List.map_map]
  have:((fun n:Int=>UInt8.ofNat n.toNat) ∘ fun b:UInt8=>(b.toNat:Int))=id:=by
    funext b
    show UInt8.ofNat ((b.toNat:Int)).toNat=b
    rw [Int.toNat_natCast]
    exact UInt8.ofNat_toNat
  rw [this,List.map_id]
theorem zDe (s t:List UInt8):bytL s++bytL t=bytL (s++t):=by simp [bytL]
theorem zFA (c:UInt8):([(c.toNat:Int)]:List Int)=bytL [c]:=rfl
theorem zLI {s:List UInt8} {i:Nat} {c:UInt8} (h:s[i]? = some c):gtD (bytL s) (i:Int)=(c.toNat:Int):=zAW (by simp [bytL,h])
theorem zEX {σ ρ:Type} {L:Nat→Int→σ→Option ρ} {n:Nat} {r:ρ} (St:Nat→σ) (hs:∀ k i,i<n→L (k+1) (i:Int) (St i)=L k ((i+1:Nat):Int) (St (i+1))) (he:∀ k,L (k+1) (n:Int) (St n)=some r) {fu:Nat} (hf:n<fu):L fu (0:Int) (St 0)=some r:=by
  have key:∀ m i k,i+m=n→m<k→L k ((i:Nat):Int) (St i)=some r:=by
    intro m
    induction m with
    | zero=>
      intro i k hi hk
      obtain ⟨k,rfl⟩:∃ q,k=q+1:=⟨k-1,by omega⟩
      obtain rfl:i=n:=by omega
      exact he k
    | succ m ih=>
      intro i k hi hk
      obtain ⟨k,rfl⟩:∃ q,k=q+1:=⟨k-1,by omega⟩
      rw [hs k i (by omega)]
      exact ih (i+1) k (by omega) (by omega)
  exact key n 0 fu (by omega) hf
theorem zFU {α σ:Type} {g:σ→α→σ} {a:σ} {s:List α} {i:Nat} {c:α} (h:s[i]? = some c):(s.take (i+1)).foldl g a=g ((s.take i).foldl g a) c:=by
  rw [List.take_add_one,h]
  simp
theorem zH9 {α σ:Type} {g:σ→α→σ} {a:σ} (s:List α):(s.take s.length).foldl g a=s.foldl g a:=by rw [List.take_length]
theorem zLa {fu:Nat} {s:List UInt8} {F:Int→Option Int} {f:UInt8→UInt8} (hF:∀ c ∈ s,F (c.toNat:Int)=some ((f c).toNat:Int)) (hf:s.length<fu) (hl:s.length≤1048576):zDg fu s F=some (s.map f):=by
  unfold zDg
  have h:=zEX (L:=zCT fu s F) (n:=s.length) (r:=bytL (s.map f)) (fun i=>bytL ((s.take i).map f++s.drop i)) (fun k i hi=>by
    have hx:=List.getElem?_eq_getElem hi
    have hlen:((s.take i).map f++s.drop i).length=s.length:=by simp;omega
    have hg:((s.take i).map f++s.drop i)[i]? = some s[i]:=by
      rw [List.getElem?_append_right (by simp;omega)]
      simp [Nat.min_eq_left (Nat.le_of_lt hi),hx]
    have hset0:((s.take i).map f++s.drop i).set i (f s[i])=(s.take (i+1)).map f++s.drop (i+1):=by
      rw [List.drop_eq_getElem_cons hi,List.set_append_right _ _ (by simp;omega)]
      have h0:i-((s.take i).map f).length=0:=by simp;omega
      rw [h0,List.set_cons_zero,List.take_add_one,hx,List.map_append,List.append_assoc]
      rfl
    have hset:(bytL ((s.take i).map f++s.drop i)).set i ((f s[i]).toNat:Int)=bytL ((s.take (i+1)).map f++s.drop (i+1)):=by
      rw [← hset0]
      unfold bytL
      exact List.map_set.symm
    rw [zCT,zCC,lt_t hi,cond_true]
    rw [ck_t (zB0 (by rw [zCC,hlen];exact hi)),zLI hg,hF _ (List.getElem_mem hi),zA8,ck_t (zB0 (by rw [zCC,hlen];exact hi)),zAo,ck_t (zCg (by omega)),Int.toNat_natCast,hset]) (fun k=>by
    rw [zCT,zCC,lt_f,cond_false]
    simp) hf
  rw [List.take_zero,List.drop_zero,List.map_nil,List.nil_append] at h
  rw [ck_t (zAg (by omega)),h,zA8,zEE]
def fld (c:UInt8):UInt8:=UInt8.ofNat (zJY c.toNat).toNat
theorem zOs (c:UInt8):((fld c).toNat:Int)=zJY c.toNat:=by
  have hc:c.toNat<256:=c.toNat_lt
  unfold fld zJY cpI
  by_cases h:(65:Int)≤(c.toNat:Int)∧(c.toNat:Int)≤90
  · rw [decide_eq_true h.1, decide_eq_true h.2]
    simp only [Bool.and_self,cond_true]
    rw [UInt8.toNat_ofNat']
    omega
  · have:(decide ((65:Int)≤(c.toNat:Int))&&decide ((c.toNat:Int)≤90))=false:=by
      rw [Bool.and_eq_false_iff,decide_eq_false_iff_not,decide_eq_false_iff_not]
      omega
    rw [this,cond_false,UInt8.toNat_ofNat']
    omega
theorem zIp {fu:Nat} {s:List UInt8} (hf:s.length<fu) (hl:s.length≤1048576):zD5 fu s=some (s.map fld):=by
  unfold zD5
  rw [zLa (f:=fld) (fun c _=>?_) hf hl,zA8]
  have hc:c.toNat<256:=c.toNat_lt
  rw [zOs]
  unfold zDf zJY cpI
  rw [zCf]
  by_cases h:(65:Int)≤(c.toNat:Int)∧(c.toNat:Int)≤90
  · rw [decide_eq_true h.1, decide_eq_true h.2]
    simp only [Bool.and_self,cond_true]
    rw [zKn _ (by omega) (by omega)]
  · have:(decide ((65:Int)≤(c.toNat:Int))&&decide ((c.toNat:Int)≤90))=false:=by
      rw [Bool.and_eq_false_iff,decide_eq_false_iff_not,decide_eq_false_iff_not]
      omega
    rw [this,cond_false,cond_false]
theorem zHG {fu:Nat} {s:List UInt8} (hf:s.length<fu) (hl:s.length≤1048576):zCD fu s=some (s.map fld):=zPN hf hl
theorem zPk (c : UInt8) : ∀ s : List UInt8, Lib.replaceK [c] [] (Lib.count s [c]) s = s.filter fun b => b != c
  | []=>by rw [Lib.count_one];rfl
  | b::l=>by
    have ih:=zPk c l
    by_cases h:b=c
    · subst h
      rw [Lib.count_cons_eq,Nat.add_comm,Lib.replaceK,show Lib.index (b::l) [b]=0 by rw [Lib.index];simp [List.isPrefixOf],if_neg (by decide),List.filter_cons]
      simpa using ih
    · rw [Lib.count_cons_ne b c l h, List.filter_cons, if_pos (by simpa using h), ← ih]
      cases hk:Lib.count l [c] with
      | zero=>rfl
      | succ k=>
        have hm:Lib.index l [c] ≠ -1:=fun hm=>by rw [Lib.count_miss hm] at hk;cases hk
        have hge:=Lib.index_ge l [c]
        obtain ⟨j,hj⟩:∃ j:Nat,Lib.index l [c]=j:=⟨(Lib.index l [c]).toNat,by omega⟩
        have e2:((j:Int)+1).toNat=j+1:=by omega
        rw [Lib.replaceK,zKr h,hj,if_neg (by simp;omega),if_neg (by simp),e2,Lib.replaceK,hj,if_neg (by simp)]
        simp
theorem zP4 (c:UInt8) (s:List UInt8):Lib.replaceAll s [c] []=s.filter fun b=>b != c:=by
  unfold Lib.replaceAll Lib.replace Lib.replaceNum
  rw [if_neg (by simp),if_pos (.inl (by decide)),zPk]
def wdB (c:UInt8):Bool:=wdI c.toNat
def mkC (c:UInt8):UInt8:=bif wdB c then c else 32
def strL (s:List UInt8):List UInt8:=(s.filter fun b=>b != 39).map mkC
theorem zOz {fu:Nat} {c:UInt8}:zD0 fu (c.toNat:Int)=some (wdB c):=by
  unfold zD0 zCr zDQ wdB wdI smI cpI dgI
  simp only [zCf,zA8,zQF]
  generalize (decide ((97:Int)≤(c.toNat:Int))&&decide ((c.toNat:Int)≤122))=a
  generalize (decide ((65:Int)≤(c.toNat:Int))&&decide ((c.toNat:Int)≤90))=b
  generalize (decide ((48:Int)≤(c.toNat:Int))&&decide ((c.toNat:Int)≤57))=d
  cases a <;> cases b <;> cases d <;> rfl
theorem zP3 {fu:Nat} {c:UInt8}:zEP fu (c.toNat:Int)=some (wdB c):=by
  unfold zEP wdB wdI smI cpI dgI
  rfl
theorem zKi {fu:Nat} {s:List UInt8} (hf:s.length<fu) (hl:s.length≤1048576):zD2 fu s=some (strL s):=by
  have hle:=List.length_filter_le (fun b:UInt8=>b != 39) s
  unfold zD2 zG4
  rw [zP4,ck_t (by simp;omega),zA8,zLa (f:=mkC) (fun c _=>?_) (by omega) (by omega),zA8]
  · rfl
  · unfold zDB mkC
    rw [zOz,zA8]
    cases wdB c <;> rfl
theorem zJO {c d:UInt8} (h:c ≠ d):(((c.toNat:Int))==(d.toNat:Int))=false:=by
  rw [beq_eq_false_iff_ne]
  intro e
  exact h (UInt8.toNat_inj.1 (by omega))
def stG (a:List UInt8) (c:UInt8):List UInt8:=bif c != 39 then a ++ [mkC c] else a
theorem zJd : ∀ (s a : List UInt8), s.foldl stG a = a ++ strL s
  | [],a=>by simp [strL]
  | c::s,a=>by
    rw [List.foldl_cons,zJd s]
    unfold stG strL
    rw [List.filter_cons]
    cases h:c != 39 <;> simp
theorem zKo {fu:Nat} {s:List UInt8} (hf:s.length<fu) (hl:s.length≤1048576):zCx fu s=some (strL s):=by
  unfold zCx
  have hlen:∀ i,i≤s.length→((s.take i).foldl stG []).length≤i:=fun i hi=>by
    rw [zJd,List.nil_append]
    unfold strL
    rw [List.length_map]
    have:=List.length_filter_le (fun b:UInt8=>b != 39) (s.take i)
    rw [List.length_take] at this
    omega
  have h:=zEX (L:=zB4 fu s) (n:=s.length) (r:=bytL (s.foldl stG [])) (fun i=>bytL ((s.take i).foldl stG [])) (fun k i hi=>by
    have hx:=List.getElem?_eq_getElem hi
    have hil:=hlen i (by omega)
    generalize hc:s[i]=c at hx
    rw [zB4,lt_t hi,cond_true,zFU hx,ck_t (zB0 hi),zEo hx,zP3,zA8]
    generalize (s.take i).foldl stG []=o at hil ⊢
    have hl1:∀ (l:List Int),l.length=1→zBH ((bytL o).length+l.length)=true:=fun l hl=>zAg (by rw [zCC,hl];omega)
    rw [hl1 _ rfl,hl1 _ rfl]
    simp only [zB0 hi,Bool.or_true,zCu,zCf,zAo,zCg (show i≤4294967296 by omega)]
    by_cases h32:c=32
    · subst h32
      have hw:(wdB 32 || (((UInt8.toNat 32:Nat):Int)==(32:Int)))=true:=by decide
      rw [hw,cond_true,zFA,zDe]
      rfl
    · have e32 : (((c.toNat : Int)) == (32 : Int)) = false := zJO (d := 32) h32
      rw [e32,Bool.or_false]
      cases hw:wdB c with
      | true=>
        have h39:c ≠ 39:=fun e=>by subst e;exact absurd hw (by decide)
        have:(c != 39)=true:=by simpa using h39
        rw [cond_true,zFA,zDe]
        unfold stG mkC
        rw [this,hw,cond_true,cond_true]
      | false=>
        rw [cond_false]
        by_cases h39:c=39
        · subst h39
          rfl
        · have e39:(((c.toNat:Int)) != (39:Int))=true:=by
            have:=zJO (d:=39) h39
            show (!(((c.toNat:Int))==(((39:UInt8).toNat:Nat):Int)))=true
            rw [this]
            rfl
          have:(c != 39)=true:=by simpa using h39
          rw [e39,cond_true,show ([(32:Int)]:List Int)=bytL [32] from rfl,zDe]
          unfold stG mkC
          rw [this,hw,cond_true,cond_false]) (fun k=>by rw [zB4,lt_f,cond_false,zH9]) hf
  rw [show (([]:List Int))=bytL ((s.take 0).foldl stG []) from rfl,h,zA8,zEE,zJd,List.nil_append]
def coS (o:List UInt8 × Bool) (c:UInt8):List UInt8 × Bool:=bif c==32 then (o.1,true) else ((bif !o.1.isEmpty&&o.2 then o.1 ++ [32] else o.1) ++ [c],false)
def coT (o:List UInt8 × Bool):List UInt8:=bif !o.1.isEmpty&&o.2 then o.1 ++ [32] else o.1
def colL (s:List UInt8):List UInt8:=(s.foldl coS ([],false)).1
theorem zLt {o:List UInt8 × Bool} {c:UInt8} (h:(c==32)=true):coS o c=(o.1,true):=by unfold coS;rw [h];rfl
theorem zMJ {o:List UInt8 × Bool} {c:UInt8} (h:(c==32)=false):coS o c=(coT o ++ [c],false):=by unfold coS coT;rw [h];rfl
theorem zMh (o:List UInt8 × Bool):(coT o).length≤o.1.length+1:=by
  unfold coT
  cases (!o.1.isEmpty&&o.2)
  · rw [cond_false];omega
  · rw [cond_true,List.length_append,List.length_singleton];omega
theorem zLG (s:List UInt8):∀ i,i≤s.length→((s.take i).foldl coS ([],false)).1.length≤2*i:=by
  intro i
  induction i with
  | zero=>intro _;exact Nat.zero_le _
  | succ i ih=>
    intro hi
    have:=ih (by omega)
    rw [zFU (List.getElem?_eq_getElem (show i<s.length by omega))]
    generalize (s.take i).foldl coS ([],false)=o at this ⊢
    have h2:=zMh o
    cases h:s[i]==32
    · rw [zMJ h]
      dsimp only
      rw [List.length_append,List.length_singleton]
      omega
    · rw [zLt h]
      dsimp only
      omega
theorem zP6 (s:List UInt8) {i:Nat} (hi:i<s.length):((s.take (i+1)).foldl coS ([],false)).2=(s[i]==32):=by
  rw [zFU (List.getElem?_eq_getElem hi)]
  generalize (s.take i).foldl coS ([],false)=o
  cases h:s[i]==32
  · rw [zMJ h]
  · rw [zLt h]
theorem zMO (s:List UInt8):∀ i,i≤s.length→((s.take i).foldl coS ([],false)).1 = []∨∃ l c,((s.take i).foldl coS ([],false)).1=l ++ [c]∧(c==32)=false:=by
  intro i
  induction i with
  | zero=>intro _;exact .inl rfl
  | succ i ih=>
    intro hi
    have:=ih (by omega)
    rw [zFU (List.getElem?_eq_getElem (show i<s.length by omega))]
    generalize (s.take i).foldl coS ([],false)=o at this ⊢
    cases h:s[i]==32
    · rw [zMJ h]
      exact .inr ⟨_,_,rfl,h⟩
    · rw [zLt h]
      exact this
theorem e32 {c:UInt8}:(((c.toNat:Int))==(32:Int))=(c==32):=by
  by_cases h:c=32
  · subst h;rfl
  · exact (show (((c.toNat:Int))==(32:Int))=false from zJO (d:=32) h).trans (beq_eq_false_iff_ne.2 h).symm
theorem ne32 {c:UInt8}:(((c.toNat:Int)) != (32:Int)) = !(c==32):=by rw [← e32];rfl
theorem zMW (l:List UInt8):decide ((0:Int)<((bytL l).length:Int)) = !l.isEmpty:=by
  rw [zCC]
  cases l with
  | nil=>rfl
  | cons a l=>exact decide_eq_true (by simp)
theorem zMR {fu:Nat} {s:List UInt8} (hf:s.length<fu) (hl:s.length≤1048576):zCF fu s=some (colL s):=by
  unfold zCF
  have h:=zEX (L:=zAm fu s) (n:=s.length) (r:=bytL (s.foldl coS ([],false)).1) (fun i=>bytL ((s.take i).foldl coS ([],false)).1) (fun k i hi=>by
    have hx:=List.getElem?_eq_getElem hi
    have hil:=zLG s i (by omega)
    have hpv:∀ j,i=j+1→((s.take i).foldl coS ([],false)).2=(s[j]! == 32):=fun j hj=>by subst hj;rw [zP6 s (by omega),getElem!_pos s j (by omega)]
    have hz:i=0→((s.take i).foldl coS ([],false)).1 = []:=fun h0=>by subst h0;rfl
    generalize hc:s[i]=c at hx
    rw [zAm,lt_t hi,cond_true,zFU hx,ck_t (zB0 hi),zEo hx]
    generalize (s.take i).foldl coS ([],false)=o at hil hpv hz ⊢
    have hl1:∀ (l:List Int),l.length=1→zBH ((bytL o.1).length+l.length)=true:=fun l hl=>zAg (by rw [zCC,hl];omega)
    have hl2:∀ (l m:List Int),l.length=1→m.length=1→zBH ((bytL o.1++l).length+m.length)=true:=fun l m h1 h2=>zAg (by rw [List.length_append,zCC,h1,h2];omega)
    rw [hl1 _ rfl,hl1 _ rfl,hl2 _ _ rfl rfl,ne32,zMW]
    simp only [zB0 hi,zCu,zCf,zAo,zCg (show i≤4294967296 by omega)]
    cases h32:c==32 with
    | true=>
      rw [zLt h32]
      rfl
    | false=>
      rw [zMJ h32]
      cases ho:o.1.isEmpty with
      | true=>
        have:o.1 = []:=List.isEmpty_iff.1 ho
        unfold coT
        rw [ho,this]
        rfl
      | false=>
        have hi0:i ≠ 0:=fun h0=>by rw [hz h0] at ho;cases ho
        obtain ⟨j,rfl⟩:∃ j,i=j+1:=⟨i-1,by omega⟩
        have hj:=List.getElem?_eq_getElem (show j<s.length by omega)
        have hp:=hpv j rfl
        rw [getElem!_pos s j (by omega)] at hp
        simp only [zPZ,zB0 (show j<s.length by omega),zNQ j (by omega),zEo hj,e32,Bool.or_true,zCu,← hp,Bool.not_false,Bool.true_and,cond_true]
        unfold coT
        rw [ho]
        cases o.2
        · simp only [cond_false, Bool.and_false]
          rw [zFA,zDe]
        · simp only [cond_true, cond_false, Bool.not_false, Bool.and_true]
          rw [zFA,show ([(32:Int)]:List Int)=bytL [32] from rfl,zDe,zDe]) (fun k=>by rw [zAm,lt_f,cond_false,zH9]) hf
  rw [show (([]:List Int))=bytL ((s.take 0).foldl coS ([],false)).1 from rfl,h,zA8,zEE]
  rfl
theorem zOb {l:List UInt8} {c:UInt8}:gtD (bytL (l ++ [c])) (((bytL (l ++ [c])).length:Int)-1)=(c.toNat:Int):=by
  rw [zCC,List.length_append,List.length_singleton,show (((l.length+1:Nat):Int))-1=((l.length:Nat):Int) by omega]
  exact zLI (by simp)
theorem zQD {l:List UInt8} (h:l ≠ []):inR (((bytL l).length:Int)-1) (bytL l).length=true:=by
  have:0<l.length:=List.length_pos_iff.2 h
  rw [zCC]
  exact zL1 (by omega) (by omega)
theorem zO4 {fu:Nat} {l:List UInt8} (hl:l.length≤4194304):zBX fu (l ++ [32]) ([32]:List UInt8)=some l:=by
  unfold zBX zAz zB1
  have e1:(((l ++ [32]:List UInt8).length:Nat):Int)-((([32]:List UInt8).length:Nat):Int)=((l.length:Nat):Int):=by simp
  have e2:subL (l ++ [32]:List UInt8) (l.length:Int) (((l ++ [32]:List UInt8).length:Nat):Int) = [32]:=by simp [subL]
  have e3:subL (l ++ [32]:List UInt8) 0 (l.length:Int)=l:=by simp [subL]
  have e4:decide (((([32]:List UInt8).length:Nat):Int)≤(((l ++ [32]:List UInt8).length:Nat):Int))=true:=decide_eq_true (by simp;omega)
  simp only [e1,e2,e3,e4,zNQ l.length (by omega),Bool.or_true,zCu,zCf,zA8,zBJ.2 (show (0:Int)≤(l.length:Int)∧(l.length:Int)≤(((l ++ [32]:List UInt8).length:Nat):Int)∧(((l ++ [32]:List UInt8).length:Nat):Int)≤(((l ++ [32]:List UInt8).length:Nat):Int) from ⟨by omega,by simp;omega,Int.le_refl _⟩),zBJ.2 (show (0:Int)≤(0:Int)∧(0:Int)≤(l.length:Int)∧(l.length:Int)≤(((l ++ [32]:List UInt8).length:Nat):Int) from ⟨by omega,by omega,by simp;omega⟩)]
  rfl
theorem zN4 {fu:Nat} {l:List UInt8} {c:UInt8} (h:(c==32)=false) (hl:l.length≤4194304):zBX fu (l ++ [c]) ([32]:List UInt8)=some (l ++ [c]):=by
  unfold zBX zAz zB1
  have e1:(((l ++ [c]:List UInt8).length:Nat):Int)-((([32]:List UInt8).length:Nat):Int)=((l.length:Nat):Int):=by simp
  have e2:subL (l ++ [c]:List UInt8) (l.length:Int) (((l ++ [c]:List UInt8).length:Nat):Int) = [c]:=by simp [subL]
  have e4:decide (((([32]:List UInt8).length:Nat):Int)≤(((l ++ [c]:List UInt8).length:Nat):Int))=true:=decide_eq_true (by simp;omega)
  have e5:(([c]:List UInt8) == [32])=false:=by simpa using h
  simp only [e1,e2,e4,e5,zNQ l.length (by omega),Bool.or_true,zCu,zCf,zA8,zBJ.2 (show (0:Int)≤(l.length:Int)∧(l.length:Int)≤(((l ++ [c]:List UInt8).length:Nat):Int)∧(((l ++ [c]:List UInt8).length:Nat):Int)≤(((l ++ [c]:List UInt8).length:Nat):Int) from ⟨by omega,by simp;omega,Int.le_refl _⟩)]
  rfl
theorem zNN {fu:Nat} {s:List UInt8} (hf:s.length<fu) (hl:s.length≤1048576):zCI fu s=some (colL s):=by
  unfold zCI
  have h:=zEX (L:=zAv fu s) (n:=s.length) (r:=bytL (coT (s.foldl coS ([],false)))) (fun i=>bytL (coT ((s.take i).foldl coS ([],false)))) (fun k i hi=>by
    have hx:=List.getElem?_eq_getElem hi
    have hil:=zLG s i (by omega)
    have hla:=zMO s i (by omega)
    generalize hc:s[i]=c at hx
    rw [zAv,lt_t hi,cond_true,zFU hx,ck_t (zB0 hi),zEo hx]
    generalize (s.take i).foldl coS ([],false)=o at hil hla ⊢
    have hcl:=zMh o
    have hl1:∀ (l:List Int),l.length=1→zBH ((bytL (coT o)).length+l.length)=true:=fun l hl=>zAg (by rw [zCC,hl];omega)
    rw [hl1 _ rfl,ne32,zMW]
    simp only [zB0 hi,zCu,zCf,zAo,zCg (show i≤4294967296 by omega)]
    have hb:i64B (((bytL (coT o)).length:Int)-1)=true:=zC4 (by omega) (by rw [zCC];omega)
    rw [hb]
    simp only [Bool.or_true,zCu]
    cases h32:c==32 with
    | false=>
      rw [zMJ h32]
      have e:coT (coT o ++ [c],false)=coT o ++ [c]:=by simp [coT]
      rw [e,← zDe,← zFA]
      simp [zCu]
    | true=>
      rw [zLt h32]
      rcases hla with h0 | ⟨l,d,h0,hd⟩
      · have e1 : coT o = [] := by unfold coT; rw [h0]; rfl
        have e2:coT (o.1,true) = []:=by unfold coT;rw [h0];rfl
        rw [e1,e2]
        rfl
      · have ho : o.1.isEmpty = false := by rw [h0]; simp
        have e2:coT (o.1,true)=o.1 ++ [32]:=by unfold coT;dsimp only;rw [ho];rfl
        have e0:(coT o).isEmpty=false:=by
          unfold coT
          rw [h0]
          cases (!(l ++ [d]).isEmpty&&o.2) <;> simp
        have hne:coT o ≠ []:=fun h=>by rw [h] at e0;cases e0
        rw [e0,e2,zQD hne]
        simp only [Bool.or_true,zCu,Bool.not_true,Bool.false_or,Bool.not_false,Bool.true_and]
        cases h2:o.2 with
        | true=>
          have e1:coT o=o.1 ++ [32]:=by unfold coT;rw [ho,h2];rfl
          rw [e1,zOb]
          rfl
        | false=>
          have e1:coT o=o.1:=by unfold coT;rw [ho,h2];rfl
          rw [e1,h0,zOb,ne32,hd]
          have:c=32:=by simpa using h32
          rw [this,zFA,zDe]
          rfl) (fun k=>by rw [zAv,lt_f,cond_false,zH9]) hf
  rw [show (([]:List Int))=bytL (coT ((s.take 0).foldl coS ([],false))) from rfl,h,zA8,zEE]
  have hla:=zMO s s.length (Nat.le_refl _)
  have hil:=zLG s s.length (Nat.le_refl _)
  rw [zH9] at hla hil
  unfold colL
  generalize s.foldl coS ([],false)=o at hla hil ⊢
  rcases hla with h0 | ⟨l,d,h0,hd⟩
  · have e1 : coT o = [] := by unfold coT; rw [h0]; rfl
    rw [e1,h0]
    rfl
  · have hll : l.length ≤ 4194304 := by rw [h0, List.length_append] at hil; omega
    have ho:o.1.isEmpty=false:=by rw [h0];simp
    cases h2:o.2 with
    | true=>
      have e1:coT o=o.1 ++ [32]:=by unfold coT;rw [ho,h2];rfl
      rw [e1,zO4 (by omega)]
      rfl
    | false=>
      have e1:coT o=o.1:=by unfold coT;rw [ho,h2];rfl
      rw [e1,h0,zN4 hd hll]
      rfl
def nrmL (s:List UInt8):List UInt8:=colL (strL (s.map fld))
theorem zJT (s:List UInt8):(strL s).length≤s.length:=by
  unfold strL
  rw [List.length_map]
  exact List.length_filter_le _ _
theorem zM7 {fu:Nat} {s:List UInt8} (hf:s.length<fu) (hl:s.length≤1048576):zDK fu s=some (nrmL s):=by
  have h1:=zJT (s.map fld)
  rw [List.length_map] at h1
  unfold zDK
  rw [zHG hf hl,zA8,zKo (by simpa using hf) (by simpa using hl),zA8,zMR (by omega) (by omega),zA8]
  rfl
theorem zML {fu:Nat} {s:List UInt8} (hf:s.length<fu) (hl:s.length≤1048576):zDE fu s=some (nrmL s):=by
  have h1:=zJT (s.map fld)
  rw [List.length_map] at h1
  unfold zDE
  rw [zIp hf hl,zA8,zKi (by simpa using hf) (by simpa using hl),zA8,zNN (by omega) (by omega),zA8]
  rfl
theorem zJc (s:List UInt8):(nrmL s).length≤2*s.length:=by
  have h1:=zJT (s.map fld)
  have h2:=zLG (strL (s.map fld)) _ (Nat.le_refl _)
  rw [zH9] at h2
  rw [List.length_map] at h1
  unfold nrmL colL
  omega
end Go.Proofs.YtldppodfhabkjaaGreatDoor
namespace Go.Proofs.YtldppodfhabkjaaGreatDoor
open Go.RowKit
set_option linter.unusedVariables false
structure Sto {α : Type} (lt : α → α → Bool) : Prop where
  irr:∀ a,lt a a=false
  tr:∀ a b c,lt a b=true→lt b c=true→lt a c=true
  tri:∀ a b,lt a b=false→lt b a=false→a=b
theorem zGj:Sto bLt:=⟨zIy,fun _ _ _=>zKH,fun _ _=>zMZ⟩
section
variable {α:Type} {lt:α→α→Bool}
theorem Sto.asy (S:Sto lt) {a b:α} (h:lt a b=true):lt b a=false:=by
  cases hb:lt b a
  · rfl
  · have := S.tr a b a h hb
    rw [S.irr] at this
    cases this
theorem Sto.le_tr (S:Sto lt) {a b c:α} (h:lt b a=false) (k:lt c b=false):lt c a=false:=by
  cases hca:lt c a
  · rfl
  · cases hab : lt a b
    · have := S.tri a b hab h
      subst this
      rw [hca] at k
      cases k
    · have := S.tr c a b hca hab
      rw [this] at k
      cases k
abbrev zDC (lt:α→α→Bool) (l:List α):Prop:=l.Pairwise fun a b=>lt a b=true
abbrev zIg (lt:α→α→Bool) (l:List α):Prop:=l.Pairwise fun a b=>lt b a=false
theorem zDC.w (S:Sto lt) {l:List α} (h:zDC lt l):zIg lt l:=h.imp fun h=>S.asy h
theorem zFe (S : Sto lt) : ∀ {l m : List α}, zDC lt l → zDC lt m → (∀ x, x ∈ l ↔ x ∈ m) → l = m
  | [],[],_,_,_=>rfl
  | [],b::m,_,_,h=>by have:=(h b).2 (List.mem_cons_self ..);cases this
  | a::l,[],_,_,h=>by have:=(h a).1 (List.mem_cons_self ..);cases this
  | a::l,b::m,hl,hm,h=>by
    obtain ⟨h1,h2⟩:=List.pairwise_cons.1 hl
    obtain ⟨h3,h4⟩:=List.pairwise_cons.1 hm
    have e:a=b:=by
      rcases List.mem_cons.1 ((h a).1 (List.mem_cons_self ..)) with e | e
      · exact e
      · rcases List.mem_cons.1 ((h b).2 (List.mem_cons_self ..)) with e' | e'
        · exact e'.symm
        · have := S.asy (h1 b e')
          rw [h3 a e] at this
          cases this
    subst e
    congr 1
    refine zFe S h2 h4 fun x=>?_
    constructor
    · intro hx
      rcases List.mem_cons.1 ((h x).1 (List.mem_cons_of_mem _ hx)) with e | e
      · have := h1 x hx
        rw [e,S.irr] at this
        cases this
      · exact e
    · intro hx
      rcases List.mem_cons.1 ((h x).2 (List.mem_cons_of_mem _ hx)) with e | e
      · have := h3 x hx
        rw [e,S.irr] at this
        cases this
      · exact e
theorem zDC.nodup (S:Sto lt) {l:List α} (h:zDC lt l):l.Nodup:=h.imp fun {a b} h e=>by subst e;rw [S.irr] at h;cases h
def zKx (l:List α) (k:Nat) (x:α):List α:=l.take k++x::l.drop k
theorem zJ0 (l:List α) (k:Nat) (x:α):(zKx l k x).Perm (x::l):=by
  have:=(List.perm_middle (a:=x) (l₁:=l.take k) (l₂:=l.drop k))
  rwa [List.take_append_drop] at this
theorem zE9 (l:List α) (k:Nat) (x:α):(zKx l k x).length=l.length+1:=by simpa using (zJ0 l k x).length_eq
theorem zNO {l:List α} {k:Nat} {x y:α}:y ∈ zKx l k x ↔ y=x∨y ∈ l:=by rw [(zJ0 l k x).mem_iff,List.mem_cons]
theorem zPS {R:α→α→Prop} {l:List α} {k:Nat} {x:α} (hl:l.Pairwise R) (h1:∀ y ∈ l.take k,R y x) (h2:∀ y ∈ l.drop k,R x y):(zKx l k x).Pairwise R:=by
  have hl':(l.take k++l.drop k).Pairwise R:=by rw [List.take_append_drop];exact hl
  obtain ⟨a,b,c⟩:=List.pairwise_append.1 hl'
  refine List.pairwise_append.2 ⟨a,List.pairwise_cons.2 ⟨h2,b⟩,fun y hy z hz=>?_⟩
  rcases List.mem_cons.1 hz with rfl | hz
  · exact h1 y hy
  · exact c y hy z hz
def plc (lt : α → α → Bool) (x : α) : List α → Nat
  | []=>0
  | y::l=>bif lt y x then plc lt x l+1 else 0
theorem zNK {x : α} : ∀ l : List α, plc lt x l ≤ l.length
  | []=>Nat.le_refl _
  | y::l=>by
    unfold plc
    cases lt y x
    · exact Nat.zero_le _
    · have h : plc lt x l ≤ l.length := zNK l
      simp
      omega
theorem zLJ {x : α} : ∀ l : List α, ∀ y ∈ l.take (plc lt x l), lt y x = true
  | [],y,h=>by cases h
  | z::l,y,h=>by
    unfold plc at h
    cases hz:lt z x
    · rw [hz] at h
      cases h
    · rw [hz, cond_true, List.take_succ_cons] at h
      rcases List.mem_cons.1 h with rfl | h
      · exact hz
      · exact zLJ l y h
theorem zJg {x : α} : ∀ l : List α, ∀ y, l[plc lt x l]? = some y → lt y x = false
  | [],y,h=>by cases h
  | z::l,y,h=>by
    unfold plc at h
    cases hz:lt z x
    · rw [hz] at h
      obtain rfl:z=y:=by simpa using h
      exact hz
    · rw [hz, cond_true, List.getElem?_cons_succ] at h
      exact zJg l y h
theorem zOP (S:Sto lt) {x:α} {l:List α} (hl:zIg lt l):∀ y ∈ l.drop (plc lt x l),lt y x=false:=by
  intro y hy
  cases hd:l.drop (plc lt x l) with
  | nil=>rw [hd] at hy;cases hy
  | cons z t=>
    have hz:l[plc lt x l]? = some z:=by
      have:(l.drop (plc lt x l))[0]? = some z:=by rw [hd];rfl
      rwa [List.getElem?_drop,Nat.add_zero] at this
    have h0:=zJg l z hz
    rw [hd] at hy
    rcases List.mem_cons.1 hy with rfl | hy
    · exact h0
    · have hp : (z :: t).Pairwise fun a b => lt b a = false := hd ▸ hl.sublist (List.drop_sublist _ _)
      exact S.le_tr h0 ((List.pairwise_cons.1 hp).1 y hy)
def putW (lt:α→α→Bool) (l:List α) (x:α):List α:=zKx l (plc lt x l) x
def putS [BEq α] (lt:α→α→Bool) (l:List α) (x:α):List α:=bif (l[plc lt x l]? == some x) then l else putW lt l x
theorem zLE [BEq α] [LawfulBEq α] (S:Sto lt) {l:List α} (x:α) (hl:zDC lt l):zDC lt (putS lt l x):=by
  unfold putS
  cases hc:(l[plc lt x l]? == some x)
  · refine zPS hl (zLJ l) fun y hy => ?_
    have h1:=zOP S (hl.w S) y hy
    cases hxy:lt x y
    · have e := S.tri y x h1 hxy
      subst e
      exfalso
      cases hd:l.drop (plc lt y l) with
      | nil=>rw [hd] at hy;cases hy
      | cons z t=>
        have hz:l[plc lt y l]? = some z:=by
          have:(l.drop (plc lt y l))[0]? = some z:=by rw [hd];rfl
          rwa [List.getElem?_drop,Nat.add_zero] at this
        rw [hd] at hy
        have hp:(z::t).Pairwise fun a b=>lt a b=true:=hd ▸ hl.sublist (List.drop_sublist _ _)
        rcases List.mem_cons.1 hy with e | hy
        · subst e
          rw [hz] at hc
          simp at hc
        · have := (List.pairwise_cons.1 hp).1 y hy
          rw [zJg l z hz] at this
          cases this
    · rfl
  · exact hl
theorem zOF [BEq α] [LawfulBEq α] {l:List α} {x y:α}:y ∈ putS lt l x ↔ y=x∨y ∈ l:=by
  unfold putS
  cases hc:(l[plc lt x l]? == some x)
  · exact zNO
  · rw [beq_iff_eq] at hc
    exact ⟨.inr,fun h=>h.elim (fun e=>(by rw [e];exact List.mem_of_getElem? hc)) id⟩
def cmpA [BEq α] : α → List α → List α
  | _,[]=>[]
  | p,x::xs=>bif x==p then cmpA x xs else x::cmpA x xs
def cmpL [BEq α] : List α → List α
  | []=>[]
  | x::xs=>x::cmpA x xs
theorem zJJ [BEq α] [LawfulBEq α] : ∀ {p : α} {l : List α} {y : α}, y ∈ cmpA p l → y ∈ l
  | p,x::xs,y,h=>by
    unfold cmpA at h
    cases hx:(x==p)
    · rw [hx, cond_false] at h
      rcases List.mem_cons.1 h with rfl | h
      · exact List.mem_cons_self ..
      · exact List.mem_cons_of_mem _ (zJJ h)
    · rw [hx, cond_true] at h
      exact List.mem_cons_of_mem _ (zJJ h)
theorem zIL [BEq α] [LawfulBEq α] : ∀ {p : α} {l : List α} {y : α}, y ∈ l → y = p ∨ y ∈ cmpA p l
  | p,x::xs,y,h=>by
    unfold cmpA
    cases hx:(x==p)
    · rw [cond_false]
      rcases List.mem_cons.1 h with rfl | h
      · exact .inr (List.mem_cons_self ..)
      · rcases zIL (p := x) h with rfl | h
        · exact .inr (List.mem_cons_self ..)
        · exact .inr (List.mem_cons_of_mem _ h)
    · rw [cond_true]
      rw [beq_iff_eq] at hx
      subst hx
      rcases List.mem_cons.1 h with rfl | h
      · exact .inl rfl
      · exact zIL h
theorem zLT [BEq α] [LawfulBEq α] {l:List α} {y:α}:y ∈ cmpL l ↔ y ∈ l:=by
  cases l with
  | nil=>rfl
  | cons x xs=>
    unfold cmpL
    constructor
    · intro h
      rcases List.mem_cons.1 h with rfl | h
      · exact List.mem_cons_self ..
      · exact List.mem_cons_of_mem _ (zJJ h)
    · intro h
      rcases List.mem_cons.1 h with rfl | h
      · exact List.mem_cons_self ..
      · rcases zIL (p := x) h with rfl | h
        · exact List.mem_cons_self ..
        · exact List.mem_cons_of_mem _ h
theorem zGb [BEq α] [LawfulBEq α] (S : Sto lt) : ∀ {p : α} {l : List α}, zIg lt (p :: l) → zDC lt (p :: cmpA p l)
  | p,[],_=>List.pairwise_cons.2 ⟨fun y h=>(by cases h),List.Pairwise.nil⟩
  | p,x::xs,h=>by
    obtain ⟨h1,h2⟩:=List.pairwise_cons.1 h
    unfold cmpA
    cases hx:(x==p)
    · rw [cond_false]
      have ih:=zGb S h2
      refine List.pairwise_cons.2 ⟨fun y hy=>?_,ih⟩
      have hpx:lt p x=true:=by
        cases hpx:lt p x
        · have := S.tri p x hpx (h1 x (List.mem_cons_self ..))
          subst this
          simp at hx
        · rfl
      rcases List.mem_cons.1 hy with rfl | hy
      · exact hpx
      · exact S.tr p x y hpx ((List.pairwise_cons.1 ih).1 y hy)
    · rw [cond_true]
      rw [beq_iff_eq] at hx
      subst hx
      exact zGb S h2
theorem zIU [BEq α] [LawfulBEq α] (S:Sto lt) {l:List α} (h:zIg lt l):zDC lt (cmpL l):=by
  cases l with
  | nil=>exact List.Pairwise.nil
  | cons x xs=>exact zGb S h
theorem zGl [BEq α] : ∀ {p : α} {l : List α}, (cmpA p l).length ≤ l.length
  | _,[]=>Nat.le_refl _
  | p,x::xs=>by
    unfold cmpA
    have:=zGl (p:=x) (l:=xs)
    cases (x==p) <;> simp <;> omega
theorem zHO [BEq α] [LawfulBEq α] (S : Sto lt) : ∀ (xs : List α) (a : List α), zDC lt a → zDC lt (xs.foldl (putS lt) a) ∧ ∀ y, y ∈ xs.foldl (putS lt) a ↔ y ∈ xs ∨ y ∈ a
  | [],a,h=>⟨h,fun y=>by simp⟩
  | x::xs,a,h=>by
    obtain ⟨h1,h2⟩:=zHO S xs (putS lt a x) (zLE S x h)
    refine ⟨h1,fun y=>?_⟩
    rw [List.foldl_cons,h2,zOF,List.mem_cons]
    constructor
    · rintro (h | h | h)
      · exact .inl (.inr h)
      · exact .inl (.inl h)
      · exact .inr h
    · rintro ((h | h) | h)
      · exact .inr (.inl h)
      · exact .inl h
      · exact .inr (.inr h)
theorem zIE (S:Sto lt) (l:List α):zIg lt (l.mergeSort fun x y=>!(lt y x)):=by
  have:=List.pairwise_mergeSort (le:=fun x y=>!(lt y x)) (fun a b c h k=>by
    simp only [Bool.not_eq_true'] at *
    exact S.le_tr h k) (fun a b=>by
    simp only [Bool.or_eq_true,Bool.not_eq_true']
    cases hb:lt b a
    · exact .inl rfl
    · exact .inr (S.asy hb)) l
  exact this.imp fun h=>by simpa using h
end
end Go.Proofs.YtldppodfhabkjaaGreatDoor
namespace Go.Proofs.YtldppodfhabkjaaGreatDoor
open Go.RowKit
set_option linter.unusedVariables false
set_option linter.unusedSimpArgs false
theorem zFO {α:Type} (xs:List α) (k:Nat):subL xs 0 (k:Int)=xs.take k:=by simp [subL]
theorem zH8 {α:Type} (xs:List α) (k:Nat):subL xs (k:Int) (xs.length:Int)=xs.drop k:=by
  unfold subL
  rw [Int.toNat_natCast,Int.toNat_natCast]
  exact List.take_of_length_le (by simp)
theorem zLV {α:Type} {xs:List α} {k:Nat} (h:k≤xs.length):subR 0 (k:Int) xs.length=true:=zBJ.2 ⟨by omega,by omega,by omega⟩
theorem zJw {α:Type} {xs:List α} {k:Nat} (h:k≤xs.length):subR (k:Int) (xs.length:Int) xs.length=true:=zBJ.2 ⟨by omega,by omega,by omega⟩
theorem zLd {α : Type} {lt : α → α → Bool} {x : α} {l : List α} {L : Nat → Int → Option Int} (hs : ∀ k (i : Nat) y, l[i]? = some y → L (k + 1) (i : Int) = bif lt y x then L k ((i + 1 : Nat) : Int) else some (i : Int)) (he : ∀ k, L (k + 1) (l.length : Int) = some (l.length : Int)) {fu : Nat} (hf : l.length < fu) :
    L fu (0:Int)=some ((plc lt x l:Nat):Int):=by
  have key:∀ m i k,i+m=l.length→m<k→L k ((i:Nat):Int)=some ((i+plc lt x (l.drop i):Nat):Int):=by
    intro m
    induction m with
    | zero=>
      intro i k hi hk
      obtain ⟨k,rfl⟩:∃ q,k=q+1:=⟨k-1,by omega⟩
      obtain rfl:i=l.length:=by omega
      rw [he,List.drop_length]
      rfl
    | succ m ih=>
      intro i k hi hk
      obtain ⟨k,rfl⟩:∃ q,k=q+1:=⟨k-1,by omega⟩
      have hx:=List.getElem?_eq_getElem (show i<l.length by omega)
      rw [hs k i _ hx,zCl hx,plc]
      cases lt l[i] x
      · rfl
      · rw [cond_true, cond_true, ih (i + 1) k (by omega) (by omega)]
        congr 2
        omega
  have:=key l.length 0 fu (by omega) hf
  rwa [show ((0:Nat):Int)=0 from rfl,List.drop_zero,Nat.zero_add] at this
theorem zK9 {fu:Nat} {l:List (List UInt8)} {x:List UInt8} {tw:Bool} (hf:l.length<fu) (hl:l.length≤2147483648):zBy fu l x tw=some (bif tw then putW bLt l x else putS bLt l x):=by
  unfold zBy
  have h:=zLd (lt:=bLt) (x:=x) (l:=l) (L:=zCd fu l x) (fun k i y hy=>by
    have hi:=zD7 hy
    rw [zCd]
    simp only [lt_t hi,zB0 hi,zAW hy,zCf,Bool.or_true,Bool.true_and,zCu,zCg (show i≤4294967296 by omega),zAo]) (fun k=>by rw [zCd,lt_f];rfl) hf
  have hp:=zNK (lt:=bLt) (x:=x) l
  rw [h,zA8]
  simp only [zCf,zFO,zH8,zLV hp,zJw hp,zCu,List.length_nil,List.length_append,List.length_take,List.length_drop,List.length_singleton,List.nil_append,Nat.zero_add,zAg (show min (plc bLt x l) l.length≤4294967296 by omega),zAg (show min (plc bLt x l) l.length+1≤4294967296 by omega),zAg (show min (plc bLt x l) l.length+1+(l.length-plc bLt x l)≤4294967296 by omega)]
  have hins:l.take (plc bLt x l) ++ [x]++l.drop (plc bLt x l)=putW bLt l x:=by simp [putW,zKx]
  rw [hins]
  unfold putS
  by_cases hlt:plc bLt x l<l.length
  · have hg := List.getElem?_eq_getElem hlt
    rw [lt_t hlt,zB0 hlt,zAW hg,hg]
    have:(some l[plc bLt x l]==some x)=(l[plc bLt x l]==x):=rfl
    rw [this]
    cases tw <;> cases (l[plc bLt x l]==x) <;> rfl
  · have e : decide (((plc bLt x l : Nat) : Int) < (l.length : Int)) = false := decide_eq_false (by omega)
    have e2:l[plc bLt x l]? = none:=List.getElem?_eq_none (by omega)
    rw [e,e2]
    cases tw <;> rfl
theorem zQ5 {fu:Nat} {l:List (List UInt8)} {x:List UInt8} (hf:l.length<fu) (hl:l.length≤2147483648):zEm fu l x=some (l.any fun y=>y==x):=by
  unfold zEm
  have h:=zGB (xs:=l) (p:=fun y=>y==x) (r:=true) (L:=zCc fu l x) (fun k i y hy=>by
    have hi:=zD7 hy
    rw [zCc,lt_t hi,cond_true]
    simp only [zB0 hi,zAW hy,zCu,zCg (show i≤4294967296 by omega),zAo]) (fun k=>by rw [zCc,lt_f];rfl) hf
  rw [h,zA8]
  cases l.any fun y=>y==x <;> rfl
theorem zPL {fu:Nat} {l:List (List UInt8)} (hl:l.length≤4294967296):zBI fu l=some l:=by
  unfold zBI
  rw [List.nil_append,ck_t (zAg (by simpa using hl))]
theorem zPG {fu:Nat} {l:List (List UInt8)} (hl:l.length≤4294967296):zJX fu l=some (l.mergeSort fun x y=>!(bLt y x)):=by
  unfold zJX
  rw [ck_t (zAg hl)]
  have:(fun x y:List UInt8=>decide (x≤y))=fun x y=>!(bLt y x):=by
    funext x y
    exact zPY x y
  rw [this]
theorem zK1 {α:Type} {z:α} {s:List α} {w:Nat} (h:w≤s.length):subL (s.take w++List.replicate (s.length-w) z) 0 (w:Int)=s.take w:=by
  rw [zFO,List.take_append_of_le_length (by simp;omega),List.take_take,Nat.min_self]
theorem zHg {α:Type} {z:α} {s:List α} {w:Nat} (h:w≤s.length):(s.take w++List.replicate (s.length-w) z).length=s.length:=by simp;omega
theorem zMK {fu : Nat} {s : List (List UInt8)} {i : Nat} (hl : s.length ≤ 1048576) (hi0 : 0 < i) : ∀ m j w k ys q, i + j + m = s.length → m < k → 1 ≤ j → w ≤ i + j - 1 → ys.length = s.length → ys.drop (i + j - 1) = s.drop (i + j - 1) → s[i + j - 1]? = some q → ys.take w ++ cmpA q (s.drop (i + j)) = cmpL s →
    ∃ (w':Nat) (ys':List (List UInt8)),zAS fu (i:Int) (s.length-i) k (w:Int) (j:Int) ys=some ((w':Int),ys')∧ys'.length=s.length∧w'≤s.length∧ys'.take w'=cmpL s:=by
  intro m
  induction m with
  | zero=>
    intro j w k ys q hm hk hj hw hlen hdr hq hc
    obtain ⟨k,rfl⟩:∃ q,k=q+1:=⟨k-1,by omega⟩
    refine ⟨w,ys,?_,hlen,by omega,?_⟩
    · rw [zAS, decide_eq_false (show ¬ (j : Int) < ((s.length - i : Nat) : Int) by omega)]
      rfl
    · rw [show i + j = s.length by omega, List.drop_length] at hc
      simpa [cmpA] using hc
  | succ m ih=>
    intro j w k ys q hm hk hj hw hlen hdr hq hc
    obtain ⟨k,rfl⟩:∃ q,k=q+1:=⟨k-1,by omega⟩
    have hx:=List.getElem?_eq_getElem (show i+j<s.length by omega)
    have hat:∀ n,i+j-1≤n→ys[n]? = s[n]?:=fun n hn=>by
      have:=congrArg (fun l=>l[n-(i+j-1)]?) hdr
      simp only [List.getElem?_drop] at this
      rwa [show i+j-1+(n-(i+j-1))=n by omega] at this
    have hyx:ys[i+j]? = some s[i+j]:=(hat _ (by omega)).trans hx
    have hyq:ys[i+j-1]? = some q:=(hat _ (Nat.le_refl _)).trans hq
    have e1:((i:Int)+(j:Int))=((i+j:Nat):Int):=rfl
    have e2:((i:Int)+((j:Int)-1))=((i+j-1:Nat):Int):=by omega
    rw [zAS,decide_eq_true (show (j:Int)<((s.length-i:Nat):Int) by omega),cond_true,ck_t (zL1 (by omega) (by omega)),ck_t (decide_eq_true (by omega)),e1,ck_t (zB0 (by omega)),ck_t (zC4 (by omega) (by omega)),ck_t (zL1 (by omega) (by omega)),ck_t (decide_eq_true (by omega)),e2,ck_t (zB0 (by omega)),zAW hyx,zAW hyq]
    rw [zCl hx,cmpA] at hc
    cases hb:(s[i+j]==q)
    · rw [Bool.not_false, cond_true, ck_t (zL1 (by omega) (by omega)), ck_t (decide_eq_true (by omega)), ck_t (zB0 (by omega)), ck_t (zB0 (by omega)), ck_t (zC2 (by omega)), ck_t (zC2 (by omega)), zAo, zAo, zGT]
      rw [hb,cond_false] at hc
      have:=ih (j+1) (w+1) k (ys.set w s[i+j]) s[i+j] (by omega) (by omega) (by omega) (by omega) (by rw [List.length_set];exact hlen) ?_ ?_ ?_
      · exact this
      · rw [List.drop_set_of_lt (by omega)]
        have:=congrArg (fun l=>l.drop 1) hdr
        simp only [List.drop_drop] at this
        rwa [show i+(j+1)-1=i+j-1+1 by omega]
      · rw [show i + (j + 1) - 1 = i + j by omega]
        exact hx
      · rw [List.take_add_one, List.take_set_of_le (Nat.le_refl _), List.getElem?_set_self (by omega)]
        simpa [Nat.add_assoc] using hc
    · rw [Bool.not_true, cond_false, ck_t (zC2 (by omega)), zAo]
      rw [hb,cond_true] at hc
      refine ih (j+1) w k ys s[i+j] (by omega) (by omega) (by omega) (by omega) hlen ?_ ?_ hc
      · have := congrArg (fun l => l.drop 1) hdr
        simp only [List.drop_drop] at this
        rwa [show i+(j+1)-1=i+j-1+1 by omega]
      · rw [show i + (j + 1) - 1 = i + j by omega]
        exact hx
theorem zN0 {fu:Nat} {s:List (List UInt8)} (hf:1048577≤fu) (hl:s.length≤1048576):zB8 fu s=some (cmpL s):=by
  unfold zB8
  by_cases h2:s.length<2
  · rw [decide_eq_true (by omega), cond_true]
    match s,h2 with
    | [],_=>rfl
    | [x],_=>rfl
  · rw [decide_eq_false (by omega), cond_false]
    have key : ∀ m i k q, i + m = s.length → m < k → 0 < i → s[i - 1]? = some q → s.take i ++ cmpA q (s.drop i) = cmpL s →
        zAT fu k (i:Int) s=some (Ex.ret (cmpL s))∨(zAT fu k (i:Int) s=some (Ex.go s)∧cmpL s=s):=by
      intro m
      induction m with
      | zero=>
        intro i k q hm hk hi hq hc
        obtain ⟨k,rfl⟩:∃ q,k=q+1:=⟨k-1,by omega⟩
        obtain rfl:i=s.length:=by omega
        right
        refine ⟨by rw [zAT,lt_f];rfl,?_⟩
        rw [List.drop_length,List.take_length] at hc
        simpa [cmpA] using hc.symm
      | succ m ih=>
        intro i k q hm hk hi hq hc
        obtain ⟨k,rfl⟩:∃ q,k=q+1:=⟨k-1,by omega⟩
        have hlt:i<s.length:=by omega
        have hx:=List.getElem?_eq_getElem hlt
        have e1:((i:Int)-1)=((i-1:Nat):Int):=by omega
        rw [zAT,lt_t hlt,cond_true,ck_t (zB0 hlt),ck_t (zC4 (by omega) (by omega)),e1,ck_t (zB0 (by omega)),zAW hx,zAW hq]
        have hc':=hc
        rw [zCl hx,cmpA] at hc
        cases hb:(s[i]==q)
        · rw [cond_false, ck_t (zC2 (by omega)), zAo]
          rw [hb,cond_false] at hc
          refine ih (i+1) k s[i] (by omega) (by omega) (by omega) (by rw [Nat.add_sub_cancel];exact hx) ?_
          have ht:s.take (i+1)=s.take i ++ [s[i]]:=by rw [List.take_add_one,hx];rfl
          rw [ht,List.append_assoc]
          exact hc
        · left
          rw [hb,cond_true] at hc
          obtain ⟨w',ys',h3,h4,h5,h6⟩:=zMK (fu:=fu) hl hi (s.length-i-1) 1 i fu s s[i] (by omega) (by omega) (Nat.le_refl _) (by omega) rfl rfl (by rw [Nat.add_sub_cancel];exact hx) hc
          rw [cond_true,ck_t (zJw (Nat.le_of_lt hlt)),zCf,Int.toNat_natCast,Int.toNat_natCast,show ((1:Int))=((1:Nat):Int) from rfl,h3,zA8]
          simp only [h4,zBJ.2 ⟨show (0:Int)≤(w':Int) by omega,show (w':Int)≤(s.length:Int) by omega,show (s.length:Int)≤(s.length:Int) from Int.le_refl _⟩,zCf,Int.toNat_natCast,zCu,beq_self_eq_true]
          have e3:(ys'.take w'++List.replicate (s.length-w') ([]:List UInt8))=(ys'.take w'++List.replicate (ys'.length-w') ([]:List UInt8)):=by rw [h4]
          rw [e3,ck_t (by rw [zHg (by omega)];exact zLV (by omega)),zK1 (by omega),h6]
    obtain ⟨x0,t,hs⟩:∃ x t,s=x::t:=by
      cases s with
      | nil=>simp at h2
      | cons x t=>exact ⟨x,t,rfl⟩
    have hk:=key (s.length-1) 1 fu x0 (by omega) (by omega) (by omega) (by rw [hs];rfl) (by rw [hs];rfl)
    rw [show ((1:Int))=((1:Nat):Int) from rfl]
    rcases hk with h | ⟨h,e⟩
    · rw [h]
      rfl
    · rw [h, e]
      rfl
theorem zE3 {fu:Nat} {l:List (List UInt8)} (hf:1048577≤fu) (hl:l.length≤1048576):zB5 fu l=some (cmpL (l.mergeSort fun x y=>!(bLt y x))):=by
  unfold zB5
  rw [zPL (by omega),zA8,zPG (by omega),zA8,zN0 hf (by rw [List.length_mergeSort];exact hl)]
  rfl
def setL (l:List (List UInt8)):List (List UInt8):=cmpL (l.mergeSort fun x y=>!(bLt y x))
theorem zF0 (l:List (List UInt8)):zDC bLt (setL l):=zIU zGj (zIE zGj l)
theorem zF8 {l:List (List UInt8)} {x:List UInt8}:x ∈ setL l ↔ x ∈ l:=by
  unfold setL
  rw [zLT,List.mem_mergeSort]
theorem zKd {l:List (List UInt8)}:(cmpL l).length≤l.length:=by
  cases l with
  | nil=>exact Nat.le_refl _
  | cons x xs=>
    have:=zGl (p:=x) (l:=xs)
    simp [cmpL]
    omega
theorem zEw (l:List (List UInt8)):(setL l).length≤l.length:=by
  have:=zKd (l:=l.mergeSort fun x y=>!(bLt y x))
  rwa [List.length_mergeSort] at this
end Go.Proofs.YtldppodfhabkjaaGreatDoor
namespace Go.Proofs.YtldppodfhabkjaaGreatDoor
open Go.RowKit
set_option linter.unusedVariables false
set_option linter.unusedSimpArgs false
def wds : List UInt8 → List UInt8 → List (List UInt8)
  | cur,[]=>bif cur.isEmpty then [] else [cur]
  | cur,b::l=>bif b==32 then (bif cur.isEmpty then wds [] l else cur::wds [] l) else wds (cur ++ [b]) l
def neL (l:List (List UInt8)):List (List UInt8):=l.filter fun y=>!y.isEmpty
theorem zJC (x:List UInt8) (l:List (List UInt8)):neL (x::l)=bif x.isEmpty then neL l else x::neL l:=by
  unfold neL
  rw [List.filter_cons]
  cases x.isEmpty <;> rfl
theorem zKy : ∀ (s cur x : List UInt8) (xs : List (List UInt8)), spC 32 s = x :: xs → wds cur s = neL ((cur ++ x) :: xs)
  | [],cur,x,xs,h=>by
    rw [spC] at h
    injection h with h1 h2
    subst h1;subst h2
    rw [wds,zJC,List.append_nil]
    rfl
  | b::s,cur,x,xs,h=>by
    obtain ⟨y,ys,hy⟩:∃ y ys,spC 32 s=y::ys:=by
      cases h':spC 32 s with
      | nil=>exact absurd h' (zLe 32 s)
      | cons y ys=>exact ⟨y,ys,rfl⟩
    by_cases hb:b=32
    · subst hb
      rw [spC,if_pos rfl] at h
      injection h with h1 h2
      subst h1;subst h2
      have ih:=zKy s [] y ys hy
      rw [List.nil_append,← hy] at ih
      rw [wds,show ((32:UInt8)==32)=true from rfl,cond_true,ih,zJC,List.append_nil]
    · rw [spC, if_neg hb, hy] at h
      injection h with h1 h2
      subst h1;subst h2
      rw [wds,show (b==32)=false from beq_eq_false_iff_ne.2 hb,cond_false,zKy s (cur ++ [b]) y ys hy,List.append_assoc]
      rfl
theorem zPR (s:List UInt8):wds [] s=neL (spC 32 s):=by
  cases h:spC 32 s with
  | nil=>exact absurd h (zLe 32 s)
  | cons y ys=>rw [zKy s [] y ys h,List.nil_append]
theorem zMb (s : ByteArray) (f : Nat) (st : Option Nat) (acc : List (Nat × Nat)) (p : Nat → Bool) (hst : ∀ a, st = some a → a < s.size) :
    (Lib.closeSpans s (Lib.spansFromP p s f s.size st acc)).map (fun q=>Lib.pieceU s.data.toList q.1 q.2)=acc.map (fun q=>Lib.pieceU s.data.toList q.1 q.2)++wds (Lib.openPiece s.data.toList st s.size) (s.data.toList.drop s.size):=by
  have hd:s.data.toList.drop s.size = []:=List.drop_eq_nil_of_le (by rw [← Lib.size_eq];exact Nat.le_refl _)
  rw [hd,Lib.spansFromP_end p s _ _ _ _ (Nat.lt_irrefl _)]
  cases st with
  | none=>simp [Lib.closeSpans,Lib.openPiece,wds]
  | some a=>
    have:=Lib.pieceU_ne s.data.toList a s.size (hst a rfl) (by rw [← Lib.size_eq];exact Nat.le_refl _)
    have h2:(Lib.pieceU s.data.toList a s.size).isEmpty=false:=by
      cases hz:Lib.pieceU s.data.toList a s.size with
      | nil=>exact absurd hz this
      | cons _ _=>rfl
    simp [Lib.closeSpans,Lib.openPiece,wds,h2]
theorem zPE (s : ByteArray) (hs : ∀ b ∈ s.data.toList, b.toNat < 128) (p : Nat → Bool) (hp : ∀ b : UInt8, b.toNat < 128 → p b.toNat = (b == 32)) : ∀ (f pos : Nat) (st : Option Nat) (acc : List (Nat × Nat)), s.size ≤ pos + f → pos ≤ s.size → (∀ a, st = some a → a < pos) →
    (Lib.closeSpans s (Lib.spansFromP p s f pos st acc)).map (fun q=>Lib.pieceU s.data.toList q.1 q.2)=acc.map (fun q=>Lib.pieceU s.data.toList q.1 q.2)++wds (Lib.openPiece s.data.toList st pos) (s.data.toList.drop pos):=by
  intro f
  induction f with
  | zero=>
    intro pos st acc h hp0 hst
    obtain rfl:pos=s.size:=by omega
    exact zMb s 0 st acc p hst
  | succ f ih=>
    intro pos st acc h hp0 hst
    by_cases hlt:pos<s.size
    · have hl : pos < s.data.toList.length := by rw [← Lib.size_eq]; exact hlt
      have hb:(s[pos]'hlt)=s.data.toList[pos]'hl:=rfl
      have ha:(s[pos]'hlt).toNat<128:=by rw [hb];exact hs _ (List.getElem_mem hl)
      have hd:=decode_ascii s pos hlt ha
      have hdr:s.data.toList.drop pos=(s[pos]'hlt)::s.data.toList.drop (pos+1):=List.drop_eq_getElem_cons hl
      unfold Lib.spansFromP
      rw [if_pos hlt,hd,hdr]
      generalize (s[pos]'hlt)=b at ha hb hdr ⊢
      dsimp only
      rw [hp b ha,wds]
      have h1:s.size≤pos+1+f:=by omega
      cases hb32:b==32 with
      | true=>
        rw [if_pos rfl,cond_true]
        cases st with
        | none=>
          have ih:=ih (pos+1) none acc h1 (by omega) (fun a h=>by cases h)
          dsimp only
          rw [ih]
          rfl
        | some a=>
          have hpn:=Lib.pieceU_ne s.data.toList a pos (hst a rfl) (by omega)
          have ih:=ih (pos+1) none (acc ++ [(a,pos)]) h1 (by omega) (fun a h=>by cases h)
          dsimp only
          rw [ih]
          have:(Lib.openPiece s.data.toList (some a) pos).isEmpty=false:=by
            show (Lib.pieceU s.data.toList a pos).isEmpty=false
            cases hz:Lib.pieceU s.data.toList a pos with
            | nil=>exact absurd hz hpn
            | cons _ _=>rfl
          rw [this,cond_false,List.map_append,List.append_assoc]
          rfl
      | false=>
        rw [if_neg (by decide),cond_false]
        have ht:(s.data.toList.drop pos).take 1 = [b]:=by rw [hdr];rfl
        cases st with
        | none=>
          have ih:=ih (pos+1) (some pos) acc h1 (by omega) (fun a h=>by cases h;omega)
          dsimp only
          rw [ih]
          have:Lib.openPiece s.data.toList (some pos) (pos+1) = [] ++ [b]:=by
            show Lib.pieceU s.data.toList pos (pos+1)=_
            unfold Lib.pieceU
            rw [Nat.add_sub_cancel_left,ht]
            rfl
          rw [this]
          rfl
        | some a=>
          have ih:=ih (pos+1) (some a) acc h1 (by omega) (fun b h=>by cases h;have:=hst a rfl;omega)
          dsimp only
          rw [ih]
          have:Lib.openPiece s.data.toList (some a) (pos+1)=Lib.openPiece s.data.toList (some a) pos ++ [b]:=by
            show Lib.pieceU s.data.toList a (pos+1)=Lib.pieceU s.data.toList a pos ++ [b]
            rw [← Lib.pieceU_grow _ _ _ _ (Nat.le_of_lt (hst a rfl)),ht]
          rw [this]
    · obtain rfl : pos = s.size := by omega
      exact zMb s (f+1) st acc p hst
theorem zOC (s:ByteArray) (hs:∀ b ∈ s.data.toList,b.toNat<128) (p:Nat→Bool) (hp:∀ b:UInt8,b.toNat<128→p b.toNat=(b==32)):(Lib.goFieldsP p s).map (·.data.toList)=neL (spC 32 s.data.toList):=by
  have h:=zPE s hs p hp s.size 0 none [] (by omega) (Nat.zero_le _) (fun a h=>by cases h)
  rw [List.map_nil,List.nil_append,List.drop_zero] at h
  rw [show Lib.openPiece s.data.toList none 0 = [] from rfl,zPR] at h
  rw [← h]
  unfold Lib.goFieldsP Lib.spansOfP
  rw [List.map_map]
  apply List.map_congr_left
  intro q _
  exact Lib.extract_data s q.1 q.2
def okC (c:UInt8):Bool:=wdB c || c==32
theorem zOo {c:UInt8} (h:okC c=true):c.toNat<128:=by
  unfold okC wdB wdI smI cpI dgI at h
  by_cases h32:c=32
  · subst h32;decide
  · rw [show (c == 32) = false from beq_eq_false_iff_ne.2 h32, Bool.or_false] at h
    simp only [Bool.or_eq_true,Bool.and_eq_true,decide_eq_true_eq] at h
    omega
theorem zP9 (s:List UInt8):∀ c ∈ strL s,okC c=true:=by
  intro c hc
  unfold strL at hc
  obtain ⟨b,_,rfl⟩:=List.mem_map.1 hc
  unfold mkC okC
  cases h:wdB b
  · rfl
  · rw [cond_true,h];rfl
theorem zPq {o:List UInt8 × Bool} (h:∀ c ∈ o.1,okC c=true):∀ c ∈ coT o,okC c=true:=by
  unfold coT
  cases (!o.1.isEmpty&&o.2)
  · exact h
  · intro c hc
    rcases List.mem_append.1 hc with hc | hc
    · exact h c hc
    · rw [List.mem_singleton.1 hc];rfl
theorem zMl : ∀ (s : List UInt8) (o : List UInt8 × Bool), (∀ c ∈ s, okC c = true) → (∀ c ∈ o.1, okC c = true) → ∀ c ∈ (s.foldl coS o).1, okC c = true
  | [],o,_,ho=>ho
  | b::s,o,hs,ho=>by
    rw [List.foldl_cons]
    refine zMl s _ (fun c hc=>hs c (List.mem_cons_of_mem _ hc)) ?_
    cases h:b==32
    · rw [zMJ h]
      intro c hc
      rcases List.mem_append.1 hc with hc | hc
      · exact zPq ho c hc
      · rw [List.mem_singleton.1 hc];exact hs b List.mem_cons_self
    · rw [zLt h]
      exact ho
theorem zMt (s:List UInt8):∀ c ∈ nrmL s,okC c=true:=zMl _ _ (zP9 _) (fun c h=>by cases h)
theorem zI0 (l:List (List UInt8)):l.foldl (putS bLt) []=setL l:=by
  obtain ⟨h1,h2⟩:=zHO zGj l [] List.Pairwise.nil
  refine zFe zGj h1 (zF0 l) fun x=>?_
  rw [h2,zF8]
  simp
def tokL (s:List UInt8):List (List UInt8):=setL (neL (spC 32 (nrmL s)))
theorem zJN (l:List (List UInt8)):(neL l).length≤l.length:=List.length_filter_le _ _
theorem zPC {fu:Nat} {s:List UInt8} (hs:s.length≤2097152) (ha:∀ c ∈ s,okC c=true):zEf fu s=some (neL (spC 32 s)):=by
  have hF:∀ n:Int,zDr fu n=some (n==32):=fun n=>rfl
  unfold zEf zHu
  rw [ck_t (zAg (by omega)),ck_t (zLl fun n _=>by rw [hF];rfl),zA8]
  have:=zOC ⟨s.toArray⟩ (by simpa using fun b hb=>zOo (ha b hb)) (fun n=>(zDr fu (n:Int)).getD false) (fun b _=>by
    rw [hF]
    show (((b.toNat:Nat):Int)==(32:Int))=_
    exact e32)
  rw [this]
theorem zIK {fu:Nat} {s:List UInt8} (hf:1048577≤fu) (hl:s.length≤262144):zCp fu s=some (tokL s):=by
  have h2:=zJc s
  have h3:=zJG 32 (nrmL s)
  have h4:=zJN (spC 32 (nrmL s))
  unfold zCp
  rw [zML (by omega) (by omega),zA8,zPC (by omega) (zMt s),zA8,zE3 hf (by omega),zA8]
  rfl
theorem zKI {fu:Nat} {s:List UInt8} (hf:1048577≤fu) (hl:s.length≤262144):zCm fu s=some (tokL s):=by
  have h2:=zJc s
  have h3:=zJG 32 (nrmL s)
  unfold zCm tokL
  have hcut:zDT fu (nrmL s) (32:Int)=some (spC 32 (nrmL s)):=zPK (c:=32) hf (by omega)
  rw [zM7 (by omega) (by omega),zA8,hcut,zA8]
  generalize spC 32 (nrmL s)=l at h3 ⊢
  have h:=zDq (xs:=l) (g:=fun (acc:List (List UInt8)) x=>bif x.isEmpty then acc else putS bLt acc x) (Inv:=fun i acc=>acc.length≤i) (L:=zBw fu l) (fun k i acc x hx hacc=>by
    have hi:=zD7 hx
    rw [zBw,lt_t hi,cond_true]
    simp only [zB0 hi,zAW hx,zCu,zK9 (show acc.length<fu by omega) (show acc.length≤2147483648 by omega),zA8,zCg (show i≤4294967296 by omega),zAo,cond_false]
    cases x with
    | nil=>rfl
    | cons b x=>rfl) (fun i acc x hx hacc=>by
    show (bif x.isEmpty then acc else putS bLt acc x).length≤i+1
    cases x.isEmpty
    · rw [cond_false]
      unfold putS putW
      cases (acc[plc bLt x acc]? == some x)
      · rw [cond_false,zE9];omega
      · exact Nat.le_succ_of_le hacc
    · exact Nat.le_succ_of_le hacc) (fun k acc hacc=>by rw [zBw,lt_f];rfl) (a:=[]) (Nat.zero_le _) (show l.length<fu by omega)
  rw [h.1,zA8,← zI0]
  unfold neL
  rw [List.foldl_filter]
  congr 2
  funext acc x
  cases x.isEmpty <;> rfl
theorem zKR (c : UInt8) : ∀ s : List UInt8, ∀ x ∈ spC c s, ∀ b ∈ x, b ∈ s ∧ b ≠ c
  | [],x,hx,b,hb=>by rw [spC] at hx;rw [List.mem_singleton.1 hx] at hb;cases hb
  | a::s,x,hx,b,hb=>by
    unfold spC at hx
    split at hx
    · rcases List.mem_cons.1 hx with rfl | hx
      · cases hb
      · exact ⟨List.mem_cons_of_mem _ (zKR c s x hx b hb).1,(zKR c s x hx b hb).2⟩
    · rename_i hac
      cases h:spC c s with
      | nil=>exact absurd h (zLe c s)
      | cons y ys=>
        rw [h] at hx
        rcases List.mem_cons.1 hx with rfl | hx
        · rcases List.mem_cons.1 hb with rfl | hb
          · exact ⟨List.mem_cons_self,hac⟩
          · have := zKR c s y (by rw [h]; exact List.mem_cons_self) b hb
            exact ⟨List.mem_cons_of_mem _ this.1,this.2⟩
        · have := zKR c s x (by rw [h]; exact List.mem_cons_of_mem _ hx) b hb
          exact ⟨List.mem_cons_of_mem _ this.1,this.2⟩
theorem zJL {s t:List UInt8} (h:t ∈ tokL s):t ≠ []∧t.length≤2*s.length∧∀ b ∈ t,wdB b=true:=by
  unfold tokL at h
  rw [zF8] at h
  unfold neL at h
  obtain ⟨h1,h2⟩:=List.mem_filter.1 h
  refine ⟨(by intro e;subst e;cases h2),Nat.le_trans (zJu 32 _ t h1) (zJc s),fun b hb=>?_⟩
  obtain ⟨h3,h4⟩:=zKR 32 _ t h1 b hb
  have:=zMt s b h3
  unfold okC at this
  rw [show (b==32)=false from beq_eq_false_iff_ne.2 h4,Bool.or_false] at this
  exact this
theorem zGA (s:List UInt8):(tokL s).length≤2*s.length+1:=by
  have h2:=zJc s
  have h3:=zJG 32 (nrmL s)
  have h4:=zJN (spC 32 (nrmL s))
  have h5:=zEw (neL (spC 32 (nrmL s)))
  unfold tokL
  omega
end Go.Proofs.YtldppodfhabkjaaGreatDoor
namespace Go.Proofs.YtldppodfhabkjaaGreatDoor
open Go.RowKit
set_option linter.unusedVariables false
set_option linter.unusedSimpArgs false
theorem zLP {p:UInt8→Prop} (h:∀ n:Fin 256,p (UInt8.ofNat n.val)) (d:UInt8):p d:=by
  have:=h ⟨d.toNat,d.toNat_lt⟩
  rwa [UInt8.ofNat_toNat] at this
theorem zMw {α σ ρ τ : Type} {xs : List α} {bad : α → Bool} {r : ρ} {g : σ → α → σ} {f : σ → τ} {Inv : Nat → σ → Prop} {L : Nat → Int → σ → Option (Ex ρ τ)} {i0 : Nat}
    (hs:∀ k (i:Nat) a x,i0≤i→xs[i]? = some x→Inv i a→L (k+1) (i:Int) a=bif bad x then some (.ret r) else L k ((i+1:Nat):Int) (g a x)) (hI:∀ (i:Nat) a x,i0≤i→xs[i]? = some x→bad x=false→Inv i a→Inv (i+1) (g a x))
    (he:∀ k a,Inv xs.length a→L (k+1) (xs.length:Int) a=some (.go (f a))) {a:σ} (h0:Inv i0 a) (hi0:i0≤xs.length) {fu:Nat} (hf:xs.length-i0<fu) :
    L fu (i0:Int) a=some (bif (xs.drop i0).any bad then .ret r else .go (f ((xs.drop i0).foldl g a)))∧((xs.drop i0).any bad=false→Inv xs.length ((xs.drop i0).foldl g a)):=by
  have key:∀ m i k a,i+m=xs.length→m<k→i0≤i→Inv i a→L k ((i:Nat):Int) a=some (bif (xs.drop i).any bad then .ret r else .go (f ((xs.drop i).foldl g a)))∧((xs.drop i).any bad=false→Inv xs.length ((xs.drop i).foldl g a)):=by
    intro m
    induction m with
    | zero=>
      intro i k a hi hk hge ha
      obtain ⟨k,rfl⟩:∃ q,k=q+1:=⟨k-1,by omega⟩
      obtain rfl:i=xs.length:=by omega
      rw [he k a ha,List.drop_length]
      exact ⟨rfl,fun _=>ha⟩
    | succ m ih=>
      intro i k a hi hk hge ha
      obtain ⟨k,rfl⟩:∃ q,k=q+1:=⟨k-1,by omega⟩
      have hx:=List.getElem?_eq_getElem (show i<xs.length by omega)
      rw [hs k i a _ hge hx ha,zCl hx,List.foldl_cons,List.any_cons]
      cases hb:bad xs[i] with
      | true=>exact ⟨rfl,fun h=>by cases h⟩
      | false=>
        rw [cond_false,Bool.false_or]
        exact ih (i+1) k _ (by omega) (by omega) (by omega) (hI i a _ hge hx hb ha)
  exact key (xs.length-i0) i0 fu a (by omega) hf (Nat.le_refl _) h0
def sndD (d:UInt8):Int:=bif smI d.toNat then gtD sndL ((d.toNat:Int)-97) else -2
def sndC (c:UInt8):Int:=sndD (fld c)
theorem zLN {fu:Nat} {c:UInt8} (hf:1048577≤fu):zDP fu (c.toNat:Int)=some (sndC c):=by
  unfold zDP sndC
  have e:strB ([((c.toNat:Nat):Int)]:List Int) = [c]:=zEE [c]
  rw [e,zHG (s:=[c]) (by simp;omega) (by simp),zA8]
  show _=some (sndD (fld c))
  rw [show ([c].map fld) = [fld c] from rfl]
  generalize fld c=d
  revert d
  refine zLP ?_
  decide +kernel
theorem zOM (fu:Nat) (c:UInt8):zCR fu (c.toNat:Int)=some (sndC c):=by
  unfold zCR zCr sndC
  revert c
  refine zLP ?_
  decide +kernel
theorem zJP {fu:Nat} {c:UInt8}:zCR fu (c.toNat:Int)=some (sndC c):=zOM fu c
theorem zOY (c:UInt8):-2≤sndC c∧sndC c≤6:=by
  revert c
  refine zLP ?_
  decide +kernel
theorem zPU {n:Int} (h0:0≤n) (h1:n≤6):([(IntKind.u8.wrap ((48:Int)+n))]:List Int)=bytL [UInt8.ofNat (48+n.toNat)]:=by
  obtain ⟨k,rfl⟩:∃ k:Nat,n=(k:Int):=⟨n.toNat,by omega⟩
  rw [zKn _ (by omega) (by omega),Int.toNat_natCast]
  unfold bytL
  rw [List.map_cons,List.map_nil,UInt8.toNat_ofNat']
  congr 1
  omega
def sxG (o:List UInt8 × Int) (c:UInt8):List UInt8 × Int:=bif decide (sndC c<0) then o else (bif decide (0<sndC c)&&(sndC c != o.2) then o.1 ++ [UInt8.ofNat (48+(sndC c).toNat)] else o.1,sndC c)
def sxL (s : List UInt8) : List UInt8 := match s with
  | []=>[]
  | c::t=>bif (c::t).any (fun c=>sndC c == -2) then [] else ((t.foldl sxG ([fld c],sndC c)).1 ++ [48,48,48]).take 4
theorem zI6 : ∀ (t : List UInt8) (o : List UInt8 × Int), o.1.length ≤ (t.foldl sxG o).1.length ∧ (t.foldl sxG o).1.length ≤ o.1.length + t.length
  | [],o=>⟨Nat.le_refl _,Nat.le_refl _⟩
  | c::t,o=>by
    have:=zI6 t (sxG o c)
    have h2:o.1.length≤(sxG o c).1.length∧(sxG o c).1.length≤o.1.length+1:=by
      unfold sxG
      cases decide (sndC c<0)
      · cases (decide (0 < sndC c) && (sndC c != o.2))
        · exact ⟨Nat.le_refl _,Nat.le_succ _⟩
        · simp
      · exact ⟨Nat.le_refl _,Nat.le_succ _⟩
    rw [List.foldl_cons,List.length_cons]
    omega
theorem sub1 {c:UInt8} {t:List UInt8}:subL (c::t) 0 (1:Int) = [c]:=by
  rw [show ((1:Int))=((1:Nat):Int) from rfl,zFO]
  rfl
theorem zNu {fu:Nat} {s:List UInt8} (hf:1048577≤fu) (hl:s.length≤1048576):zDp fu s=some (sxL s):=by
  unfold zDp
  cases s with
  | nil=>rfl
  | cons c t=>
    have hlen:(c::t).length=t.length+1:=rfl
    rw [show ((c::t)==([]:List UInt8))=false from rfl,cond_false,ck_t (zBJ.2 ⟨Int.le_refl _,by omega,by rw [hlen];omega⟩),sub1,zIp (s:=[c]) (by simp;omega) (by simp),zA8,show ([c].map fld) = [fld c] from rfl,ck_t (zAg (by simp)),ck_t (zOj (by rw [hlen];omega)),show bAt (c::t) (0:Int)=(c.toNat:Int) from rfl,zJP,zA8]
    have h1:=zMw (xs:=c::t) (bad:=fun c=>sndC c == -2) (r:=([]:List UInt8)) (g:=sxG) (f:=fun a:List UInt8 × Int=>bytL a.1) (Inv:=fun i a=>a.1.length≤i) (i0:=1) (L:=fun k i (a:List UInt8 × Int)=>zBF fu (c::t) k a.2 i (bytL a.1)) (fun k i a x hge hx ha=>by
      have hi:=zD7 hx
      have hr:=zOY x
      try dsimp only
      rw [zBF,lt_t hi,cond_true,ck_t (zB0 hi),zEo hx,zJP,zA8]
      have e0:(((i:Nat):Int)==(0:Int))=false:=by rw [beq_eq_false_iff_ne];omega
      have hone:∀ (l:List Int),l.length=1→zBH ((bytL a.1).length+l.length)=true:=fun l hl=>zAg (by rw [zCC,hl];omega)
      rw [e0,Bool.false_or,zCf,zCf,hone _ rfl,zC4 (show -9223372036854775808≤(48:Int)+sndC x by omega) (show (48:Int)+sndC x≤9223372036854775807 by omega)]
      simp only [zCu,zAo,zCg (show i≤4294967296 by omega)]
      cases hb:sndC x == -2 with
      | true=>rfl
      | false=>
        rw [cond_false,cond_false]
        unfold sxG
        cases hn:decide (sndC x<0) with
        | true=>rfl
        | false=>
          have h0:0≤sndC x:=by rw [decide_eq_false_iff_not] at hn;omega
          rw [cond_false]
          cases (decide (0<sndC x)&&(sndC x != a.2)) with
          | true=>rw [cond_true,zPU h0 hr.2,zDe];rfl
          | false=>rfl) (fun i a x hge hx hb ha=>by
      have:=(zI6 [x] a).2
      simp only [List.foldl_cons,List.foldl_nil,List.length_singleton] at this
      show (sxG a x).1.length≤i+1
      omega) (fun k a ha=>by (try dsimp only);rw [zBF,lt_f,cond_false]) (a:=([fld c],sndC c)) (Nat.le_refl _) (by rw [hlen];omega) (fu:=fu-1) (by rw [hlen];omega)
    have h1:=h1.1
    try dsimp only at h1
    obtain ⟨k,rfl⟩:∃ k,fu=k+1:=⟨fu-1,by omega⟩
    rw [Nat.add_sub_cancel] at h1
    rw [zBF,lt_0 (by rw [hlen];omega),cond_true,ck_t (zOj (by rw [hlen];omega)),show bAt (c::t) (0:Int)=(c.toNat:Int) from rfl,zJP,zA8,zCf,show ((((0:Int))==(0:Int)) || decide (sndC c<(0:Int)))=true from rfl,cond_true,zPs,ck_t zOd,h1]
    have e:sxL (c::t)=bif (c::t).any (fun c=>sndC c == -2) then [] else ((t.foldl sxG ([fld c],sndC c)).1 ++ [48,48,48]).take 4:=rfl
    rw [e,List.any_cons,List.drop_one,List.tail_cons]
    cases hb:sndC c == -2 with
    | true=>rw [cond_true,zA8,Bool.true_or,cond_true];rfl
    | false=>
      rw [cond_false,zA8,Bool.false_or]
      cases hb2:t.any fun c=>sndC c == -2 with
      | true=>rw [cond_true,cond_true];rfl
      | false=>
        have hg:=zI6 t ([fld c],sndC c)
        generalize (t.foldl sxG ([fld c],sndC c)).1=o at hg ⊢
        rw [cond_false,cond_false,zL5,zEE]
        have hg1:1≤o.length:=hg.1
        have hg2:o.length≤1+t.length:=hg.2
        rw [ck_t (zAg (by simp;omega)),ck_t (zBJ.2 ⟨Int.le_refl _,by omega,by simp;omega⟩),show ((4:Int))=((4:Nat):Int) from rfl,zFO]
theorem zNL {o:List UInt8} {d:UInt8}:(o ++ [d]).take 4=bif decide (o.length<4) then o.take 4 ++ [d] else o.take 4:=by
  by_cases h:o.length<4
  · rw [decide_eq_true h,cond_true,List.take_of_length_le (by simp;omega),List.take_of_length_le (by omega)]
  · rw [decide_eq_false h,cond_false,List.take_append_of_le_length (by omega)]
theorem zLR {fu : Nat} : ∀ (n k : Nat) (o : List UInt8), o.length + n = 4 → n < k → zC7 fu k (bytL o) = some (bytL (o ++ List.replicate n 48))
  | 0,k,o,h,hk=>by
    obtain ⟨k,rfl⟩:∃ q,k=q+1:=⟨k-1,by omega⟩
    rw [zC7,zCC,decide_eq_false (by omega),cond_false,List.replicate_zero,List.append_nil]
  | n+1,k,o,h,hk=>by
    obtain ⟨k,rfl⟩:∃ q,k=q+1:=⟨k-1,by omega⟩
    rw [zC7,zCC,decide_eq_true (by omega),cond_true,show ([(48:Int)]:List Int)=bytL [48] from rfl,ck_t (zAg (by rw [zCC];simp;omega)),zDe,zLR n k (o ++ [48]) (by simp;omega) (by omega),List.append_assoc]
    rfl
theorem zNl {fu:Nat} {s:List UInt8} (hf:1048577≤fu) (hl:s.length≤1048576):zDk fu s=some (sxL s):=by
  unfold zDk
  cases s with
  | nil=>
    obtain ⟨k,rfl⟩:∃ k,fu=k+1:=⟨fu-1,by omega⟩
    rw [zAs]
    rfl
  | cons c t=>
    have hlen:(c::t).length=t.length+1:=rfl
    have h1:=zMw (xs:=c::t) (bad:=fun c=>sndC c == -2) (r:=([]:List UInt8)) (g:=sxG) (f:=fun a:List UInt8 × Int=>bytL (a.1.take 4)) (Inv:=fun i a=>a.1.length≤i) (i0:=1) (L:=fun k i (a:List UInt8 × Int)=>zAs fu (c::t) k a.2 i (bytL (a.1.take 4))) (fun k i a x hge hx ha=>by
      have hi:=zD7 hx
      have hr:=zOY x
      try dsimp only
      rw [zAs,lt_t hi,cond_true,ck_t (zB0 hi),zEo hx,zLN hf,zA8]
      have e0:(((i:Nat):Int)==(0:Int))=false:=by rw [beq_eq_false_iff_ne];omega
      have hone:∀ (l:List Int),l.length=1→zBH ((bytL (a.1.take 4)).length+l.length)=true:=fun l hl=>zAg (by rw [zCC,hl,List.length_take];omega)
      have h4:decide (((bytL (a.1.take 4)).length:Int)<(4:Int))=decide (a.1.length<4):=by
        rw [zCC,List.length_take]
        by_cases h:a.1.length<4
        · rw [decide_eq_true h,decide_eq_true (by omega)]
        · rw [decide_eq_false h,decide_eq_false (by omega)]
      rw [e0,zCf,zCf,hone _ rfl,h4,zC4 (show -9223372036854775808≤(48:Int)+sndC x by omega) (show (48:Int)+sndC x≤9223372036854775807 by omega)]
      simp only [zCu,zAo,zCg (show i≤4294967296 by omega)]
      cases hb:sndC x == -2 with
      | true=>rfl
      | false=>
        rw [cond_false,cond_false]
        unfold sxG
        by_cases hn:sndC x<0
        · rw [decide_eq_true hn, decide_eq_false (show ¬ (0 : Int) < sndC x by omega), decide_eq_false (show ¬ (0 : Int) ≤ sndC x by omega)]
          rfl
        · have h0 : 0 ≤ sndC x := by omega
          rw [decide_eq_false hn,decide_eq_true h0,cond_true,cond_true,cond_false,cond_false]
          cases (decide (0<sndC x)&&(sndC x != a.2)) with
          | true=>
            rw [Bool.true_and,cond_true,zPU h0 hr.2,zDe]
            dsimp only
            rw [zNL]
            cases decide (a.1.length<4) <;> rfl
          | false=>rfl) (fun i a x hge hx hb ha=>by
      have:=(zI6 [x] a).2
      simp only [List.foldl_cons,List.foldl_nil,List.length_singleton] at this
      show (sxG a x).1.length≤i+1
      omega) (fun k a ha=>by (try dsimp only);rw [zAs,lt_f,cond_false]) (a:=([fld c],sndC c)) (Nat.le_refl _) (by rw [hlen];omega) (fu:=fu-1) (by rw [hlen];omega)
    have h1:=h1.1
    try dsimp only at h1
    obtain ⟨k,rfl⟩:∃ k,fu=k+1:=⟨fu-1,by omega⟩
    rw [Nat.add_sub_cancel] at h1
    rw [zAs,lt_0 (by rw [hlen];omega),cond_true,ck_t (zOj (by rw [hlen];omega)),show bAt (c::t) (0:Int)=(c.toNat:Int) from rfl,zLN hf,zA8,show (((0:Int))==(0:Int))=true from rfl,cond_true,ck_t (zBJ.2 ⟨Int.le_refl _,by omega,by rw [hlen];omega⟩),sub1,zHG (s:=[c]) (by simp;omega) (by simp),zA8,show ([c].map fld) = [fld c] from rfl,ck_t (zDi.2 ⟨Int.le_refl _,by simp⟩),show bAt [fld c] (0:Int)=((fld c).toNat:Int) from rfl,ck_t (zAg (by simp)),zPs,ck_t zOd,show (([]:List Int) ++ [((fld c).toNat:Int)])=bytL (([fld c]:List UInt8).take 4) from rfl,h1]
    have e:sxL (c::t)=bif (c::t).any (fun c=>sndC c == -2) then [] else ((t.foldl sxG ([fld c],sndC c)).1 ++ [48,48,48]).take 4:=rfl
    rw [e,List.any_cons,List.drop_one,List.tail_cons]
    cases hb:sndC c == -2 with
    | true=>rw [cond_true,zA8,Bool.true_or,cond_true];rfl
    | false=>
      rw [cond_false,zA8,Bool.false_or]
      cases hb2:t.any fun c=>sndC c == -2 with
      | true=>rw [cond_true,cond_true];rfl
      | false=>
        have hg:=zI6 t ([fld c],sndC c)
        generalize (t.foldl sxG ([fld c],sndC c)).1=o at hg ⊢
        have hg1:1≤o.length:=hg.1
        rw [cond_false,cond_false,zL5,zCC,show (((o.take 4).length:Int)==(0:Int))=false by rw [beq_eq_false_iff_ne,List.length_take];omega,cond_false,zLR (4-(o.take 4).length) _ _ (by rw [List.length_take];omega) (by omega),zA8,zEE]
        congr 1
        by_cases h4:o.length<4
        · rw [List.take_of_length_le (Nat.le_of_lt h4), List.take_append, List.take_of_length_le (Nat.le_of_lt h4)]
          congr 1
          match o.length,hg1,h4 with
          | 1,_,_=>rfl
          | 2,_,_=>rfl
          | 3,_,_=>rfl
        · rw [List.take_append_of_le_length (by omega),show 4-(o.take 4).length=0 by rw [List.length_take];omega,List.replicate_zero,List.append_nil]
theorem zOu (s:List UInt8):(sxL s).length≤4:=by
  unfold sxL
  cases s with
  | nil=>exact Nat.zero_le _
  | cons c t=>
    dsimp only
    cases ((c::t).any fun c=>sndC c == -2)
    · rw [cond_false,List.length_take];omega
    · exact Nat.zero_le _
def skL (s:List UInt8):List (List UInt8):=setL (neL ((tokL s).map sxL))
theorem isE (x:List UInt8):(x==([]:List UInt8))=x.isEmpty:=by cases x <;> rfl
theorem zPQ (l:List (List UInt8)):neL (l.map sxL)=l.foldl (fun (a:List (List UInt8)) t=>bif (sxL t).isEmpty then a else a ++ [sxL t]) []:=by
  have key:∀ (l a:List (List UInt8)),l.foldl (fun (a:List (List UInt8)) t=>bif (sxL t).isEmpty then a else a ++ [sxL t]) a=a++neL (l.map sxL):=by
    intro l
    induction l with
    | nil=>intro a;simp [neL]
    | cons t l ih=>
      intro a
      rw [List.foldl_cons,ih,List.map_cons,zJC]
      cases (sxL t).isEmpty <;> simp
  rw [key,List.nil_append]
theorem zO9 {fu:Nat} {s:List UInt8} (hf:1048577≤fu) (hl:s.length≤262144):zCh fu s=some (skL s):=by
  have hle:=zGA s
  have htl:∀ t ∈ tokL s,t.length≤1048576:=fun t ht=>by have:=(zJL ht).2.1;omega
  unfold zCh skL
  rw [zIK hf hl,zA8]
  generalize tokL s=l at hle htl ⊢
  have h:=zDq (xs:=l) (g:=fun (a:List (List UInt8)) t=>bif (sxL t).isEmpty then a else a ++ [sxL t]) (Inv:=fun i a=>a.length≤i) (L:=zBL fu l) (fun k i a x hx ha=>by
    have hi:=zD7 hx
    rw [zBL,lt_t hi,cond_true,ck_t (zB0 hi),zAW hx,zNu hf (htl x (zDh hx)),zA8,isE,zAo,zCg (show i≤4294967296 by omega),List.length_singleton,zAg (show a.length+1≤4294967296 by omega)]
    cases (sxL x).isEmpty <;> rfl) (fun i a x hx ha=>by
    show (bif (sxL x).isEmpty then a else a ++ [sxL x]).length≤i+1
    cases (sxL x).isEmpty
    · rw [cond_false,List.length_append,List.length_singleton];omega
    · exact Nat.le_succ_of_le ha) (fun k a ha=>by rw [zBL,lt_f,cond_false]) (a:=[]) (Nat.zero_le _) (show l.length<fu by omega)
  rw [h.1,zA8,← zPQ,zE3 hf (by have:=zJN (l.map sxL);rw [List.length_map] at this;omega),zA8]
  rfl
theorem zNp {fu:Nat} {s:List UInt8} (hf:1048577≤fu) (hl:s.length≤262144):zCi fu s=some (skL s):=by
  have hle:=zGA s
  have htl:∀ t ∈ tokL s,t.length≤1048576:=fun t ht=>by have:=(zJL ht).2.1;omega
  unfold zCi skL
  rw [zKI hf hl,zA8]
  generalize tokL s=l at hle htl ⊢
  have h:=zDq (xs:=l) (g:=fun (a:List (List UInt8)) t=>bif (sxL t).isEmpty then a else putS bLt a (sxL t)) (Inv:=fun i a=>a.length≤i) (L:=zBS fu l) (fun k i a x hx ha=>by
    have hi:=zD7 hx
    rw [zBS,lt_t hi,cond_true,ck_t (zB0 hi),zAW hx,zNl hf (htl x (zDh hx)),zA8,isE,zAo,zCg (show i≤4294967296 by omega),zK9 (show a.length<fu by omega) (show a.length≤2147483648 by omega),zA8]
    cases (sxL x).isEmpty <;> rfl) (fun i a x hx ha=>by
    show (bif (sxL x).isEmpty then a else putS bLt a (sxL x)).length≤i+1
    cases (sxL x).isEmpty
    · rw [cond_false]
      unfold putS putW
      cases (a[plc bLt (sxL x) a]? == some (sxL x))
      · rw [cond_false,zE9];omega
      · exact Nat.le_succ_of_le ha
    · exact Nat.le_succ_of_le ha) (fun k a ha=>by rw [zBS,lt_f,cond_false]) (a:=[]) (Nat.zero_le _) (show l.length<fu by omega)
  rw [h.1,zA8]
  congr 1
  rw [← zI0]
  unfold neL
  rw [List.foldl_filter,List.foldl_map]
  congr 1
  funext acc x
  cases (sxL x).isEmpty <;> rfl
theorem zKz (s:List UInt8):(skL s).length≤2*s.length+1:=by
  have h1:=zGA s
  have h2:=zJN ((tokL s).map sxL)
  have h3:=zEw (neL ((tokL s).map sxL))
  rw [List.length_map] at h2
  unfold skL
  omega
theorem zL3 {s t:List UInt8} (h:t ∈ skL s):t.length≤4:=by
  unfold skL neL at h
  rw [zF8] at h
  obtain ⟨u,_,rfl⟩:=List.mem_map.1 (List.mem_filter.1 h).1
  exact zOu u
end Go.Proofs.YtldppodfhabkjaaGreatDoor
namespace Go.Proofs.YtldppodfhabkjaaGreatDoor
open Go.RowKit
set_option linter.unusedVariables false
set_option linter.unusedSimpArgs false
def inI (x lo hi:Int):Bool:=decide (lo≤x)&&decide (x≤hi)
theorem zLg {fu:Nat} {x lo hi:Int}:zE7 fu x lo hi=some (inI x lo hi):=rfl
end Go.Proofs.YtldppodfhabkjaaGreatDoor
namespace Go.Proofs.YtldppodfhabkjaaGreatDoor
open Go.RowKit
set_option linter.unusedVariables false
set_option linter.unusedSimpArgs false
theorem zQA:∀ d:Nat,d<10→strB [IntKind.u8.wrap ((48:Int)+(d:Int))] = [UInt8.ofNat (48+d)]:=by
  intro d hd
  have:∀ d:Fin 10,strB [IntKind.u8.wrap ((48:Int)+((d.val:Nat):Int))] = [UInt8.ofNat (48+d.val)]:=by decide
  exact this ⟨d,hd⟩
theorem zNo (n:Int):(if n.tmod 10<0 then 0-n.tmod 10 else n.tmod 10)=((n.natAbs % 10:Nat):Int)∧(n.tdiv 10).natAbs=n.natAbs / 10:=by
  cases n with
  | ofNat u=>
    have h1:(Int.ofNat u).tmod 10=((u % 10:Nat):Int):=rfl
    have h2:(Int.ofNat u).tdiv 10=((u / 10:Nat):Int):=rfl
    rw [h1,h2]
    refine ⟨?_,?_⟩
    · rw [if_neg (by omega)];rfl
    · rw [Int.natAbs_natCast];rfl
  | negSucc u=>
    have h1:(Int.negSucc u).tmod 10 = -(((u+1) % 10:Nat):Int):=rfl
    have h2:(Int.negSucc u).tdiv 10 = -(((u+1) / 10:Nat):Int):=rfl
    rw [h1,h2,show (Int.negSucc u).natAbs=u+1 from rfl]
    refine ⟨?_,?_⟩
    · split <;> omega
    · rw [Int.natAbs_neg,Int.natAbs_natCast]
def decT (u:Nat):List UInt8:=if u=0 then [] else Lib.decDigits u
theorem zMo (u:Nat) (h:u ≠ 0):decT u=decT (u / 10) ++ [UInt8.ofNat (48+u % 10)]:=by
  unfold decT
  rw [if_neg h,Lib.decDigits]
  by_cases h10:u<10
  · rw [dif_pos h10,if_pos (by omega),List.nil_append,Nat.mod_eq_of_lt h10]
  · rw [dif_neg h10,if_neg (by omega)]
theorem zNj (k u:Nat) (h:u<10 ^ (k+1)):(decT u).length≤k+1:=by
  unfold decT
  split
  · simp
  · exact zEl k u h
theorem zIW {fu : Nat} : ∀ (k : Nat) (n : Int) (acc : List UInt8), n.natAbs < 10 ^ k → n.natAbs ≤ 9223372036854775808 → acc.length + k ≤ 1000 → ∀ q, k < q → zBE fu q n acc = some (decT n.natAbs ++ acc)
  | 0,n,acc,h,hn,hl,q,hq=>by
    obtain ⟨q,rfl⟩:∃ z,q=z+1:=⟨q-1,by omega⟩
    have:n=0:=by rw [Nat.pow_zero] at h;omega
    subst this
    rw [zBE]
    rfl
  | k+1,n,acc,h,hn,hl,q,hq=>by
    obtain ⟨q,rfl⟩:∃ z,q=z+1:=⟨q-1,by omega⟩
    by_cases h0:n=0
    · subst h0
      rw [zBE]
      rfl
    · obtain ⟨h1, h2⟩ := zNo n
      have hm:n.natAbs % 10<10:=Nat.mod_lt _ (by omega)
      have hu:n.natAbs ≠ 0:=by omega
      have hd:=zQA (n.natAbs % 10) hm
      have ih:=zIW (fu:=fu) k (n.tdiv 10) ([UInt8.ofNat (48+n.natAbs % 10)]++acc) (by rw [h2];rw [Nat.pow_succ] at h;omega) (by rw [h2];omega) (by simp;omega) q (by omega)
      have hr:-9223372036854775808≤n.tdiv 10∧n.tdiv 10≤9223372036854775807:=by
        generalize n.tdiv 10=z at h2
        omega
      have hlen:zBH (([UInt8.ofNat (48+n.natAbs % 10)]:List UInt8)++acc).length=true:=zAg (by simp;omega)
      have fin:decT (n.tdiv 10).natAbs++([UInt8.ofNat (48+n.natAbs % 10)]++acc)=decT n.natAbs++acc:=by rw [h2,zMo _ hu,List.append_assoc]
      rw [zBE,show (n != (0:Int))=true from by simpa using h0,cond_true,ck_t (show ((10:Int) != 0)=true from rfl)]
      by_cases ht:n.tmod 10<0
      · rw [if_pos ht] at h1
        rw [decide_eq_true ht,cond_true,h1,ck_t (zC4 (by omega) (by omega)),ck_t (zC4 (by omega) (by omega)),hd,ck_t hlen,ck_t (show ((10:Int) != 0)=true from rfl),ck_t (zC4 hr.1 hr.2),ih,fin]
      · rw [if_neg ht] at h1
        rw [decide_eq_false ht,cond_false,h1,ck_t (zC4 (by omega) (by omega)),hd,ck_t hlen,ck_t (show ((10:Int) != 0)=true from rfl),ck_t (zC4 hr.1 hr.2),ih,fin]
theorem zJV {fu:Nat} {n:Int} (hf:1048577≤fu) (h0:-9223372036854775808≤n) (h1:n≤9223372036854775807):zBc fu n=some (Lib.itoa n):=by
  unfold zBc
  by_cases hz:n=0
  · subst hz
    rw [show ((0:Int)==0)=true from rfl,cond_true]
    unfold Lib.itoa
    rw [if_neg (by decide),show (0:Int).toNat=0 from rfl,Lib.decDigits,dif_pos (by decide)]
    rfl
  · have hd := zIW (fu := fu) 20 n [] (by omega) (by omega) (by simp) fu (by omega)
    have hl:=zNj 19 n.natAbs (by omega)
    rw [List.append_nil] at hd
    have hu:n.natAbs ≠ 0:=by omega
    have e:decT n.natAbs=Lib.decDigits n.natAbs:=if_neg hu
    rw [show (n==(0:Int))=false from by simpa using hz,cond_false,hd,zA8]
    unfold Lib.itoa
    by_cases hneg:n<0
    · rw [decide_eq_true hneg, cond_true, if_pos hneg, ck_t (zAg (by simp; omega)), e]
      rfl
    · rw [decide_eq_false hneg,cond_false,if_neg hneg,e,show n.natAbs=n.toNat from by omega]
theorem zJv {fu:Nat} {n:Int} (h0:-9223372036854775808≤n) (h1:n≤9223372036854775807):zC0 fu n=some (Lib.itoa n):=by
  unfold zC0 zMx
  rw [ck_t (zC4 h0 h1)]
  rfl
theorem zOg {n:Int} (h0:-9223372036854775808≤n) (h1:n≤9223372036854775807):(Lib.itoa n).length≤21:=zLH h0 h1
end Go.Proofs.YtldppodfhabkjaaGreatDoor
