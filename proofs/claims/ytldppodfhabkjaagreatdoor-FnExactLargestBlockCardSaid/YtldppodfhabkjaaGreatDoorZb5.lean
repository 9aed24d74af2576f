/- Own texts laid together. No statement of the seat is proved here. -/
import Derived.Test.YtldppodfhabkjaaGreatDoorZb4
import Derived.Sort.Walk0
import Derived.Lib.Bytealg
import Derived.Lib.SplitLaws
import Derived.Lib.Replace
namespace Go.Proofs.YtldppodfhabkjaaGreatDoor
open Go.RowKit
set_option linter.unusedVariables false
open _root_.Go.Proofs.Tryz
set_option maxRecDepth 100000
set_option maxHeartbeats 4000000
def zAK (fu : Nat) (y5 : Int) (x13 : Nat) : Nat → Int → Int → (List (List UInt8)) → Option (Int × (List (List UInt8)))
 | 0,_,_,_=>none
 | k+1,y18,y19,y20=>
 bif (decide (y19<(x13:Int))) then (
 ck (inR y19 x13) <|
 ck (decide (0≤y5)) <|
 ck (inR (y5+y19) y20.length) <|
 ck (i64B (y19-1)) <|
 ck (inR (y19-1) x13) <|
 ck (decide (0≤y5)) <|
 ck (inR (y5+(y19-1)) y20.length) <|
 bif (!((gtD y20 (y5+y19))==(gtD y20 (y5+(y19-1))))) then (
 ck (inR y19 x13) <|
 ck (decide (0≤y5)) <|
 ck (inR (y5+y19) y20.length) <|
 ck (inR y18 y20.length) <|
 ck (i64B (y18+1)) <|
 ck (i64B (y19+1)) <|
 zAK fu y5 x13 k (y18+1) (y19+1) (y20.set y18.toNat (gtD y20 (y5+y19)))
 ) else (
 ck (i64B (y19+1)) <|
 zAK fu y5 x13 k y18 (y19+1) y20
 )
 ) else (
 some (y18,y20)
 )
def zAL (fu : Nat) : Nat → Int → (List (List UInt8)) → Option (Ex (List (List UInt8)) (List (List UInt8)))
 | 0,_,_=>none
 | k+1,y5,y6=>
 bif (decide (y5<(y6.length:Int))) then (
 ck (inR y5 y6.length) <|
 ck (i64B (y5-1)) <|
 ck (inR (y5-1) y6.length) <|
 bif ((gtD y6 y5)==(gtD y6 (y5-1))) then (
 ck (subR y5 (y6.length:Int) y6.length) <|
 bd ((y6.length:Int).toNat-y5.toNat) fun x13=>
 cl true (zAK fu y5 x13 fu y5 1 y6) fun s17=>
 ck (subR s17.1 (s17.2.length:Int) s17.2.length) <|
 bd ((s17.2.length:Int).toNat-s17.1.toNat) fun x40=>
 ck (subR s17.1 s17.2.length s17.2.length) <|
 ck (x40==s17.2.length-s17.1.toNat) <|
 ck (subR 0 s17.1 (s17.2.take s17.1.toNat++List.replicate (s17.2.length-s17.1.toNat) ([]:List UInt8)).length) <|
 some (Ex.ret (subL (s17.2.take s17.1.toNat++List.replicate (s17.2.length-s17.1.toNat) ([]:List UInt8)) 0 s17.1))
 ) else (
 ck (i64B (y5+1)) <|
 zAL fu k (y5+1) y6
 )
 ) else (
 some (Ex.go y6)
 )
def zAw (fu:Nat) (p0:List (List UInt8)):Option (List (List UInt8)):=
 bif (decide ((p0.length:Int)<2)) then (
 some p0
 ) else (
 cl true (zAL fu fu 1 p0) fun rl2=>
 exM rl2 (fun r=>some r) fun s4=>
 some s4
 )
theorem zDY {fu : Nat} {A0 : Av} {p0 : List (List UInt8)} {r : List (List UInt8)} (c : zAw fu p0 = some r) {w : World} {v0 : Value} {B0 : Nat} (d : AvOK A0 w) (K : ∀ b o, A0 b o → ¬ zAM v0 b) (h0 : (Res.vec B0 9 eStr p0).ok A0 v0 w) :
 Calls prog 76 #[v0] w fun e w'=>∃ v,e = .returned v∧Took (addA A0 v0) true v0 (.vec B0 9 eStr r) (fun _=>.any) w v w':=by
 unfold zAw at c
 obtain ⟨w0,hw0,C⟩:=pc d
 have j:Ch (zAM v0) w0 w:=hw0 ▸ Ch.refl _ _
 have hA00:AvOK A0 w0:=C
 rw [show Took (addA A0 v0) true v0 (.vec B0 9 eStr r) (fun _=>.any) w=Took (addA A0 v0) true v0 (.vec B0 9 eStr r) (fun _=>.any) w0 from hw0 ▸ Z]
 obtain ⟨A,hAe⟩:∃ A,A=addA A0 v0:=⟨_,Z⟩
 have B:∀ b o,A0 b o→A b o:=fun b o h=>hAe ▸ .inl h
 replace d:AvOK A w:=hAe ▸ d.one h0
 have q:IniOK [ob v0 (.vec B0 9 eStr p0)] A w:=hAe ▸ IniOK.one h0 (fun _ _ _ _ _ h=>h)
 refine zA5 [.tmp 2] func76 ntmps76 (by decide) Z Z (nb Z) ?_
 intro R hR
 replace h0:R 0=v0:=hR 0 _ Z
 refine HT.seq ?_
 refine HT.t (eA::[]) ?_ ?_
 exact op (fun Q U W H D=>zA0 N)<|oz
 intro R w m n p
 replace h0:=k1 n h0
 replace q:=q.fr m
 replace d:=d.fr m.size
 replace j:=j.tr (m.ch noB) fun _ h=>False.elim h
 refine HT.seq ?_
 refine HT.seq ?_
 refine HT.t (eR v0::eI (p0.length:Int)::eB (decide ((p0.length:Int)<2))::[]) ?_ ?_
 exact om h0<|op (fun Q U W H D=>zCC (q.ok 0 _ Z).1 (D.g 0 Z) underlying34)<|op (fun Q U W H D=>zAk (D.g 0 Z) Z)<|oz
 intro R w m n p
 replace h0:=k1 n h0
 have h8:=p.r 2 Z
 replace q:=q.fr m
 replace d:=d.fr m.size
 replace j:=j.tr (m.ch noB) fun _ h=>False.elim h
 refine HT.cond (decide ((p0.length:Int)<2)) h8 (fun c1=>?_) (fun c1=>?_)
 have c:=zAH c1 c
 refine HT.seq ?_
 refine HT.t (eR v0::eR v0::[]) ?_ ?_
 exact om h0<|oa<|oz
 intro R w m n p
 have h2:=p.r 1 Z
 replace q:=q.fr m
 replace d:=d.fr m.size
 replace j:=j.tr (m.ch noB) fun _ h=>False.elim h
 refine HT.ret ?_
 obtain rfl:=si c
 exact ⟨.inr Z,[R 2],⟨Z,N⟩,by show Took _ true _ _ _ w0 (R 2) w;rw [h2];exact zEv (fun k h o=>.inr h) j (q.ok 0 _ Z).1 (q.own_ge (⟨.inr (fun k h=>.inr h),N⟩) (i:=0) Z) (fun _ _ _ _ _ h=>h)⟩
 have c:=zAI c1 c
 refine HT.skip ?_
 refine HT.seq ?_
 refine HT.seq ?_
 refine HT.t (eI 1::[]) ?_ ?_
 exact op (fun Q U W H D=>zA0 Z)<|oz
 intro R w m n p
 replace h0:=k1 n h0
 have h3:=p.r 0 Z
 replace q:=q.fr m
 replace d:=d.fr m.size
 replace j:=j.tr (m.ch noB) fun _ h=>False.elim h
 obtain ⟨rl2,q3,c⟩:=zA4 c
 replace q3:=q3 Z
 refine HT.cut0 (fun R w=>∃ A:Av,∃ (s4:(List (List UInt8))),rl2=Ex.go s4∧AvOK A w∧Ch (zAM v0) w0 w∧(∀ b o,A0 b o→A b o)∧IniOK [ob v0 (.vec B0 9 eStr s4)] A w∧R 0=v0) ?_ ?_
 refine HT.block ?_
 refine HT.loop (fun k R w=>∃ A:Av,∃ (y5:Int) (y6:List (List UInt8)),zAL fu k y5 y6=some rl2∧AvOK A w∧Ch (zAM v0) w0 w∧(∀ b o,A0 b o→A b o)∧IniOK [ob v0 (.vec B0 9 eStr y6)] A w∧R 0=v0∧R 3 = .int .i64 y5) fu ⟨_,_,_,q3,d,j,B,q,h0,h3⟩ ?_
 have hr0:=c;clear c q3
 rintro k R w ⟨A,y5,y6,c,d,j,B,q,h0,h3⟩
 rcases k with _ | k
 cases (show none=some _ from c)
 rw [zAL] at c
 refine HT.seq ?_
 refine HT.seq ?_
 refine HT.t (eI y5::eR v0::eI (y6.length:Int)::eB (decide (y5<(y6.length:Int)))::[]) ?_ ?_
 exact om h3<|om h0<|op (fun Q U W H D=>zCC (q.ok 0 _ Z).1 (D.g 0 Z) underlying34)<|op (fun Q U W H D=>zAk (D.g 0 Z) (D.g 1 Z))<|oz
 intro R w m n p
 obtain ⟨h0,h3⟩:=k2 n h0 h3
 have h13:=p.r 3 Z
 replace q:=q.fr m
 replace d:=d.fr m.size
 replace j:=j.tr (m.ch noB) fun _ h=>False.elim h
 refine HT.cond (decide (y5<(y6.length:Int))) h13 (fun c7=>?_) (fun c7=>?_)
 have c:=zAH c7 c
 refine HT.skip ?_
 refine HT.seq ?_
 refine HT.block ?_
 refine HT.seq ?_
 obtain ⟨e8,e9,e10,c⟩:=ck3 c
 refine HT.draw (by kernel_rfl) (l:=eR v0::eI y5::eR (vptr v0 (y5.toNat*1))::eF (.rep eStr A (gtD y6 y5))::eR v0::eI y5::eI (y5-1)::eR (vptr v0 ((y5-1).toNat*1))::eF (.rep eStr A (gtD y6 (y5-1)))::eB ((gtD y6 y5)==(gtD y6 (y5-1)))::[]) (tl:=[]) (by kernel_rfl) (by kernel_rfl) (by kernel_rfl) (by kernel_rfl) ?_ ?_
 exact om h0<|om h3<|op (fun Q U W H D=>zBB (q.ok 0 _ Z).1 (D.g 0 Z) (D.g 1 Z) underlying34 sizeOf9 e8 Z)<|op (fun Q U W H D=>(zCK ((q.fr W).ok 0 _ Z).1 (D.g 0 Z) e8 Z (Fld.id _) Z isAgg9 sizeOf9))<|om h0<|om h3<|op (fun Q U W H D=>zF1 (D.g 0 Z) Z e9)<|op (fun Q U W H D=>zBB (q.ok 0 _ Z).1 (D.g 0 Z) (D.g 1 Z) underlying34 sizeOf9 e10 Z)<|op (fun Q U W H D=>(zCK ((q.fr W).ok 0 _ Z).1 (D.g 0 Z) e10 Z (Fld.id _) Z isAgg9 sizeOf9))<|op (fun Q U W H D=>zBU (D.g 0 Z) (D.g 1 Z))<|oz
 intro R w m n p
 obtain ⟨h0,h3⟩:=k2 n h0 h3
 have h25:=p.r 9 Z
 replace q:=q.fr m
 replace d:=d.fr m.size
 replace j:=j.tr (m.ch noB) fun _ h=>False.elim h
 refine HT.cond ((gtD y6 y5)==(gtD y6 (y5-1))) h25 (fun c11=>?_) (fun c11=>?_)
 have c:=zAH c11 c
 refine HT.seq ?_
 obtain ⟨e12,c⟩:=zA3 c
 obtain ⟨x13,q14,c⟩:=zAV c
 refine HT.t (eR v0::eI y5::eR (vsub v0 y5.toNat x13 1)::eR (vsub v0 y5.toNat x13 1)::[]) ?_ ?_
 exact om h0<|om h3<|op (fun Q U W H D=>(q14 ▸ zJG (q.ok 0 _ Z).1 (D.g 0 Z) (D.g 1 Z) underlying34 sizeOf9 e12))<|oa<|oz
 intro R w m n p
 obtain ⟨h0,h3⟩:=k2 n h0 h3
 have h4:=p.r 3 Z
 replace q:=q.fr m
 replace d:=d.fr m.size
 replace j:=j.tr (m.ch noB) fun _ h=>False.elim h
 refine HT.seq ?_
 refine HT.seq ?_
 refine HT.t (eI 1::[]) ?_ ?_
 exact op (fun Q U W H D=>zA0 Z)<|oz
 intro R w m n p
 obtain ⟨h0,h3,h4⟩:=k3 n h0 h3 h4
 have h5:=p.r 0 Z
 replace q:=q.fr m
 replace d:=d.fr m.size
 replace j:=j.tr (m.ch noB) fun _ h=>False.elim h
 obtain ⟨rl15,q16,c⟩:=zA4 c
 replace q16:=q16 Z
 refine HT.cut0 (fun R w=>∃ A:Av,∃ (s17:Int × (List (List UInt8))),rl15=s17∧AvOK A w∧Ch (zAM v0) w0 w∧(∀ b o,A0 b o→A b o)∧IniOK [ob v0 (.vec B0 9 eStr s17.2)] A w∧R 0=v0∧R 3 = .int .i64 s17.1) ?_ ?_
 refine HT.block ?_
 refine HT.loop (fun k R w=>∃ A:Av,∃ (y18:Int) (y19:Int) (y20:List (List UInt8)),zAK fu y5 x13 k y18 y19 y20=some rl15∧AvOK A w∧Ch (zAM v0) w0 w∧(∀ b o,A0 b o→A b o)∧IniOK [ob v0 (.vec B0 9 eStr y20)] A w∧R 0=v0∧R 3 = .int .i64 y18∧R 4=(vsub v0 y5.toNat x13 1)∧R 5 = .int .i64 y19) fu ⟨_,_,_,_,q16,d,j,B,q,h0,h3,h4,h5⟩ ?_
 have hr1:=c;clear c q16
 rintro k R w ⟨A,y18,y19,y20,c,d,j,B,q,h0,h3,h4,h5⟩
 rcases k with _ | k
 cases (show none=some _ from c)
 rw [zAK] at c
 refine HT.seq ?_
 refine HT.seq ?_
 refine HT.t (eI y19::eR (vsub v0 y5.toNat x13 1)::eI (x13:Int)::eB (decide (y19<(x13:Int)))::[]) ?_ ?_
 exact om h5<|om h4<|op (fun Q U W H D=>zJE (q.ok 0 _ Z).1 (D.g 0 Z) underlying34)<|op (fun Q U W H D=>zAk (D.g 0 Z) (D.g 1 Z))<|oz
 intro R w m n p
 obtain ⟨h0,h3,h4,h5⟩:=k4 n h0 h3 h4 h5
 have h32:=p.r 3 Z
 replace q:=q.fr m
 replace d:=d.fr m.size
 replace j:=j.tr (m.ch noB) fun _ h=>False.elim h
 refine HT.cond (decide (y19<(x13:Int))) h32 (fun c21=>?_) (fun c21=>?_)
 have c:=zAH c21 c
 refine HT.skip ?_
 refine HT.seq ?_
 refine HT.block ?_
 refine HT.seq ?_
 obtain ⟨e22,e23,e24,e25,c⟩:=ck4 c
 obtain ⟨e26,e27,e28,c⟩:=ck3 c
 refine HT.draw (by kernel_rfl) (l:=eR (vsub v0 y5.toNat x13 1)::eI y19::eR (vptr v0 ((y5+y19).toNat*1))::eF (.rep eStr A (gtD y20 (y5+y19)))::eR (vsub v0 y5.toNat x13 1)::eI y19::eI (y19-1)::eR (vptr v0 ((y5+(y19-1)).toNat*1))::eF (.rep eStr A (gtD y20 (y5+(y19-1))))::eB (!((gtD y20 (y5+y19))==(gtD y20 (y5+(y19-1)))))::[]) (tl:=[]) (by kernel_rfl) (by kernel_rfl) (by kernel_rfl) (by kernel_rfl) ?_ ?_
 exact om h4<|om h5<|op (fun Q U W H D=>zDk (q.ok 0 _ Z).1 (D.g 0 Z) (D.g 1 Z) underlying34 sizeOf9 e22 e23 e24 Z)<|op (fun Q U W H D=>(zCK ((q.fr W).ok 0 _ Z).1 (D.g 0 Z) e24 Z (Fld.id _) Z isAgg9 sizeOf9))<|om h4<|om h5<|op (fun Q U W H D=>zF1 (D.g 0 Z) Z e25)<|op (fun Q U W H D=>zDk (q.ok 0 _ Z).1 (D.g 0 Z) (D.g 1 Z) underlying34 sizeOf9 e26 e27 e28 Z)<|op (fun Q U W H D=>(zCK ((q.fr W).ok 0 _ Z).1 (D.g 0 Z) e28 Z (Fld.id _) Z isAgg9 sizeOf9))<|op (fun Q U W H D=>zF3 (D.g 0 Z) (D.g 1 Z))<|oz
 intro R w m n p
 obtain ⟨h0,h3,h4,h5⟩:=k4 n h0 h3 h4 h5
 have h44:=p.r 9 Z
 replace q:=q.fr m
 replace d:=d.fr m.size
 replace j:=j.tr (m.ch noB) fun _ h=>False.elim h
 refine HT.cond (!((gtD y20 (y5+y19))==(gtD y20 (y5+(y19-1))))) h44 (fun c29=>?_) (fun c29=>?_)
 have c:=zAH c29 c
 obtain ⟨e30,e31,e32,e33,c⟩:=ck4 c
 refine HT.sx [ob v0 (.vec B0 9 eStr y20)] (rR v0::rI y18::rR (vsub v0 y5.toNat x13 1)::rI y19::rR (vptr v0 ((y5+y19).toNat*1))::(rF fun A=>.rep eStr A (gtD y20 (y5+y19)))::rR (vptr v0 (y18.toNat*1))::⟨_,true,[0],some (.vec B0 9 eStr (y20.set y18.toNat (gtD y20 (y5+y19)))),false,fun A=>.any⟩::[]) (ur (ur (ur (ur (ur (up (ur (ua (UAll.nil))))))))) q d ?_ ?_
 exact rm h0<|rm h3<|rm h4<|rm h5<|rp (fun V Q U O D=>zDk (q.ok 0 _ Z).1 (D.g 0 Z) (D.g 1 Z) underlying34 sizeOf9 e30 e31 e32 Z)<|rp (fun V Q U O D=>(zCK (O.rd 0 _ Z Z) (D.g 0 Z) e32 Z (Fld.id _) Z isAgg9 sizeOf9))<|rp (fun V Q U O D=>zBB (q.ok 0 _ Z).1 (D.g 0 Z) (D.g 1 Z) underlying34 sizeOf9 e33 Z)<|rc (OblR.took 0 _ _ Z Z Z Z Z fun V Q U O D u X Y J L M=>by have a0:Q 51=(vptr v0 (y18.toNat*1)):=D.g 0 Z;have a1:Rep eStr V U (Q 50) (gtD y20 (y5+y19)):=D.g 1 Z;obtain rfl:=J _ Z;exact zFe a1 X Y a0 e33 Z (FldS.id _) sizeOf9 Z)<|rz
 intro done ρ σ A R w y s
 obtain ⟨h0,h3,h4,h5⟩:=k4 s.rg h0 h3 h4 h5
 have z34:=s.inivR 0 Z
 have z35:=s.on y 8 7 Z Z Z Z Z z34
 replace B:=s.lowK B C K (q.geK (⟨.inr (fun k h=>.inr h),N⟩))
 replace j:Ch (zAM v0) w0 w:=j.tr s.ch (q.geK (⟨.inr (fun k h=>.inr h),N⟩))
 replace q:=s.left y [(8,ob v0 (.vec B0 9 eStr (y20.set y18.toNat (gtD y20 (y5+y19)))))] ⟨Z,Z,z35,Z,Z,N⟩
 replace d:=s.avok
 obtain ⟨e36,c⟩:=zA3 c
 refine HT.t (eI y18::eI (y18+1)::eI (y18+1)::[]) ?_ ?_
 exact om h3<|op (fun Q U W H D=>zAU (D.g 0 Z) Z e36)<|oa<|oz
 intro R w m n p
 obtain ⟨h0,h4,h5⟩:=k3 n h0 h4 h5
 have h3:=p.r 2 Z
 replace q:=q.fr m
 replace d:=d.fr m.size
 replace j:=j.tr (m.ch noB) fun _ h=>False.elim h
 obtain ⟨e37,c⟩:=zA3 c
 refine HT.t (eI y19::eI (y19+1)::eI (y19+1)::[]) ?_ ?_
 exact om h5<|op (fun Q U W H D=>zAU (D.g 0 Z) Z e37)<|oa<|oz
 intro R w m n p
 obtain ⟨h0,h3,h4⟩:=k3 n h0 h3 h4
 have h5:=p.r 2 Z
 replace q:=q.fr m
 replace d:=d.fr m.size
 replace j:=j.tr (m.ch noB) fun _ h=>False.elim h
 exact ei k (And.intro (Nat.lt_succ_self k) ⟨_,_,_,_,c,d,j,B,q,h0,h3,h4,h5⟩)
 have c:=zAI c29 c
 refine HT.skip ?_
 obtain ⟨e38,c⟩:=zA3 c
 refine HT.t (eI y19::eI (y19+1)::eI (y19+1)::[]) ?_ ?_
 exact om h5<|op (fun Q U W H D=>zAU (D.g 0 Z) Z e38)<|oa<|oz
 intro R w m n p
 obtain ⟨h0,h3,h4⟩:=k3 n h0 h3 h4
 have h5:=p.r 2 Z
 replace q:=q.fr m
 replace d:=d.fr m.size
 replace j:=j.tr (m.ch noB) fun _ h=>False.elim h
 exact ei k (And.intro (Nat.lt_succ_self k) ⟨_,_,_,_,c,d,j,B,q,h0,h3,h4,h5⟩)
 have c:=zAI c21 c
 refine HT.exit ?_
 obtain rfl:=si c
 exact ei _ ⟨_,Z,d,j,B,q,h0,h3⟩
 rintro R w ⟨A,s17,es,d,j,B,q,h0,h3⟩
 obtain rfl:=es.symm
 refine HT.seq ?_
 obtain ⟨e39,c⟩:=zA3 c
 obtain ⟨x40,q41,c⟩:=zAV c
 obtain ⟨e42,e43,c⟩:=ck2 c
 refine HT.x [ob v0 (.vec B0 9 eStr s17.2)] (rR v0::rI s17.1::rR (vsub v0 s17.1.toNat x40 1)::⟨_,true,[0],some (.vec B0 9 eStr (s17.2.take s17.1.toNat++List.replicate (s17.2.length-s17.1.toNat) ([]:List UInt8))),false,fun A=>.any⟩::[]) (ur (ur (ur (ua (UAll.nil))))) q d ?_ ?_
 exact rm h0<|rm h3<|rp (fun V Q U O D=>(q41 ▸ zJG (q.ok 0 _ Z).1 (D.g 0 Z) (D.g 1 Z) underlying34 sizeOf9 e39))<|rc (OblR.took 0 _ _ Z Z Z Z Z fun V Q U O D u X Y J L M=>by have a0:Q 56=(vsub v0 s17.1.toNat x40 1):=D.g 0 Z;obtain rfl:=J _ Z;exact zK0 a0 X Y underlying34 Z zeroValue9 (fun A w=>(zGa Z (by decide))) e42 e43 Z)<|rz
 intro done ρ σ A R w y s
 obtain ⟨h0,h3⟩:=k2 s.rg h0 h3
 have z44:=s.inivR 0 Z
 have z45:=s.on y 4 3 Z Z Z Z Z z44
 replace B:=s.lowK B C K (q.geK (⟨.inr (fun k h=>.inr h),N⟩))
 replace j:Ch (zAM v0) w0 w:=j.tr s.ch (q.geK (⟨.inr (fun k h=>.inr h),N⟩))
 replace q:=s.left y [(4,ob v0 (.vec B0 9 eStr (s17.2.take s17.1.toNat++List.replicate (s17.2.length-s17.1.toNat) ([]:List UInt8))))] ⟨Z,Z,z45,Z,Z,N⟩
 replace d:=s.avok
 obtain ⟨e46,c⟩:=zA3 c
 refine HT.sx [ob v0 (.vec B0 9 eStr (s17.2.take s17.1.toNat++List.replicate (s17.2.length-s17.1.toNat) ([]:List UInt8)))] (rR v0::rI s17.1::⟨_,true,[0],some (.vec B0 9 eStr (subL (s17.2.take s17.1.toNat++List.replicate (s17.2.length-s17.1.toNat) ([]:List UInt8)) 0 s17.1)),true,fun A=>.any⟩::⟨_,true,[3],some (.vec B0 9 eStr (subL (s17.2.take s17.1.toNat++List.replicate (s17.2.length-s17.1.toNat) ([]:List UInt8)) 0 s17.1)),true,fun A=>.any⟩::[]) (ur (ur (ua (ua (UAll.nil))))) q d ?_ ?_
 exact rm h0<|rm h3<|rc (OblR.took 0 _ _ Z Z Z Z Z fun V Q U O D u X Y J L M=>by have a0:Q 57=v0:=D.g 0 Z;have a1:Q 58 = .int .i64 s17.1:=D.g 1 Z;exact zIz (a0.trans (J _ Z).symm) X Y a1 underlying34 sizeOf9 e46 Z)<|rc (OblR.took 3 _ _ Z Z Z Z Z fun V Q U O D u X Y J L M=>by exact zA8 (L _ _ Z Z Z Z).symm X Y)<|rz
 intro done ρ σ A R w y s
 obtain ⟨u47,e_u47⟩:∃ u,ρ 4=u:=⟨_,Z⟩
 have h2:=s.ov y 4 3 e_u47
 have hK_u47:∀ k,zAM u47 k→w0.heap.size≤k∨(zAM v0) k:=s.geK y 4 Z Z Z e_u47 (q.geK (⟨.inr (fun k h=>.inr h),N⟩)) j.size
 replace B:=s.lowK B C K (q.geK (⟨.inr (fun k h=>.inr h),N⟩))
 replace j:Ch (zAM v0) w0 w:=j.tr s.ch (q.geK (⟨.inr (fun k h=>.inr h),N⟩))
 replace q:=s.left y [(4,ob u47 (.vec B0 9 eStr (subL (s17.2.take s17.1.toNat++List.replicate (s17.2.length-s17.1.toNat) ([]:List UInt8)) 0 s17.1)))] ⟨Z,Z,e_u47,Z,Z,N⟩
 replace d:=s.avok
 obtain ⟨Yg47,g_Yg47⟩:∃ z:List (List UInt8),z=(subL (s17.2.take s17.1.toNat++List.replicate (s17.2.length-s17.1.toNat) ([]:List UInt8)) 0 s17.1):=⟨_,Z⟩
 rw [← g_Yg47] at q
 try rw [← g_Yg47] at c
 refine HT.ret ?_
 obtain rfl:=si c
 have c:=hr0
 replace c:some _=some _:=c
 obtain rfl:=si c
 exact ⟨.inr Z,[R 2],⟨Z,N⟩,by show Took _ true _ _ _ w0 (R 2) w;rw [h2];exact zEv (fun k h o=>.inr h) j (q.ok 0 _ Z).1 (q.own_ge (⟨.inr hK_u47,N⟩) (i:=0) Z) (fun _ _ _ _ _ h=>h)⟩
 have c:=zAI c11 c
 refine HT.skip ?_
 obtain ⟨e49,c⟩:=zA3 c
 refine HT.t (eI y5::eI (y5+1)::eI (y5+1)::[]) ?_ ?_
 exact om h3<|op (fun Q U W H D=>zAU (D.g 0 Z) Z e49)<|oa<|oz
 intro R w m n p
 replace h0:=k1 n h0
 have h3:=p.r 2 Z
 replace q:=q.fr m
 replace d:=d.fr m.size
 replace j:=j.tr (m.ch noB) fun _ h=>False.elim h
 exact ei k (And.intro (Nat.lt_succ_self k) ⟨_,_,_,c,d,j,B,q,h0,h3⟩)
 have c:=zAI c7 c
 refine HT.exit ?_
 obtain rfl:=si c
 exact ei _ ⟨_,Z,d,j,B,q,h0⟩
 rintro R w ⟨A,s4,rfl,d,j,B,q,h0⟩
 have c:=zEC c
 refine HT.seq ?_
 refine HT.t (eR v0::eR v0::[]) ?_ ?_
 exact om h0<|oa<|oz
 intro R w m n p
 have h2:=p.r 1 Z
 replace q:=q.fr m
 replace d:=d.fr m.size
 replace j:=j.tr (m.ch noB) fun _ h=>False.elim h
 refine HT.ret ?_
 obtain rfl:=si c
 exact ⟨.inr Z,[R 2],⟨Z,N⟩,by show Took _ true _ _ _ w0 (R 2) w;rw [h2];exact zEv (fun k h o=>.inr h) j (q.ok 0 _ Z).1 (q.own_ge (⟨.inr (fun k h=>.inr h),N⟩) (i:=0) Z) (fun _ _ _ _ _ h=>h)⟩
def zAr (fu:Nat) (p0:List (List UInt8)):Option (List (List UInt8)):=
 cl true (zB5 fu p0) fun x1=>
 cl true (zHm fu x1) fun x4=>
 cl true (zAw fu x4) fun x8=>
 some x8
theorem zBT {fu : Nat} {A0 : Av} {p0 : List (List UInt8)} {r : List (List UInt8)} (c : zAr fu p0 = some r) {w : World} {v0 : Value} (d : AvOK A0 w) (h0 : Rep (eSl eStr) A0 w v0 p0) :
 Calls prog 42 #[v0] w fun e w'=>∃ v,e = .returned v∧((Res.vec w.heap.size 9 eStr r).ok (addA A0 v) v w'∧Fr w w'):=by
 unfold zAr at c
 obtain ⟨w0,hw0,j,C⟩:=pw d
 have hA00:AvOK A0 w0:=C
 rw [fh hw0]
 rw [fw hw0]
 obtain ⟨A,hAe,B,d,q⟩:=pa d
 refine zA5 [.tmp 2] func42 ntmps42 (by decide) Z Z (nb Z) ?_
 intro R hR
 have f_v0:Rep (eSl eStr) A w v0 p0:=hAe ▸ h0
 replace h0:R 0=v0:=hR 0 _ Z
 refine HT.su d j (eA::[]) ?_ ?_
 exact op (fun Q U W H D=>zA0 N)<|oz
 intro R w m n p d j
 replace h0:=k1 n h0
 replace f_v0:=f_v0.fr m
 replace q:=q.fr m
 obtain ⟨x1,q2,c⟩:=zA4 c
 refine HT.sx [] (rR v0::⟨_,true,[],some (.vec w0.heap.size 9 eStr x1),true,fun A=>.any⟩::⟨_,true,[1],some (.vec w0.heap.size 9 eStr x1),true,fun A=>.any⟩::[]) (ur (ua (ua (UAll.nil)))) q d ?_ ?_
 exact rm h0<|rc (OblR.made _ Z Z Z Z fun V Q U O D=>by have a0:Q 4=v0:=D.g 0 Z;have ra0:=(f_v0.stp O.stp).eq a0;exact zG7 call74 (zDn (q2 Z) O.av ra0) (Nat.le_trans j.size O.ch.size))<|rc (OblR.took 1 _ _ Z Z Z Z Z fun V Q U O D u X Y J L M=>by exact zA8 (L _ _ Z Z Z Z).symm X Y)<|rz
 intro done ρ σ A R w y s
 obtain ⟨u3,e_u3⟩:∃ u,ρ 2=u:=⟨_,Z⟩
 have h3:=s.ov y 2 2 e_u3
 obtain ⟨B,j,d⟩:=s.s B C j q N
 replace q:=s.left y [(2,ob u3 (.vec w0.heap.size 9 eStr x1))] ⟨Z,Z,e_u3,Z,Z,N⟩
 obtain ⟨x4,q5,c⟩:=zA4 c
 refine HT.sx [ob u3 (.vec w0.heap.size 9 eStr x1)] (rR u3::⟨_,true,[0],some (.vec w0.heap.size 9 eStr x4),false,fun A=>.any⟩::[]) (ur (ua (UAll.nil))) q d ?_ ?_
 exact rm h3<|rc (OblR.took 0 _ _ Z Z Z Z Z fun V Q U O D u X Y J L M=>by have a0:Q 6=u3:=D.g 0 Z;have hu0:zA9 Q (.tmp 6)=u:=a0.trans (J _ Z).symm;exact zLH call75 Y (fun _ _ _ _ _ h=>h) (by simp only [List.map,hu0];exact Calls.mono (zJi (q5 Z) (O.av.sub _) (fun b o h=>h.2) (Vec.flat X (fun _ _ _ _ _ h=>h))) (fun _ _ ⟨v,h1,h2,h3,h4⟩=>⟨v,h1,N,h3,h4⟩)))<|rz
 intro done ρ σ A R w y s
 replace h3:=k1 s.rg h3
 have z6:=s.inivR 0 Z
 have z7:=s.on y 2 1 Z Z Z Z Z z6
 obtain ⟨B,j,d⟩:=s.s B C j q ⟨Z,N⟩
 replace q:=s.left y [(2,ob u3 (.vec w0.heap.size 9 eStr x4))] ⟨Z,Z,z7,Z,Z,N⟩
 obtain ⟨x8,q9,c⟩:=zA4 c
 refine HT.sx [ob u3 (.vec w0.heap.size 9 eStr x4)] (rR u3::⟨_,true,[0],some (.vec w0.heap.size 9 eStr x8),true,fun A=>.any⟩::⟨_,true,[2],some (.vec w0.heap.size 9 eStr x8),true,fun A=>.any⟩::[]) (ur (ua (ua (UAll.nil)))) q d ?_ ?_
 exact rm h3<|rc (OblR.took 0 _ _ Z Z Z Z Z fun V Q U O D u X Y J L M=>by have a0:Q 8=u3:=D.g 0 Z;have hu0:zA9 Q (.tmp 8)=u:=a0.trans (J _ Z).symm;exact zD4 call76 Y (by simp only [List.map,hu0];exact zDY (q9 Z) (O.av.sub _) (fun b o h=>h.2) (Vec.flat X (fun _ _ _ _ _ h=>h))))<|rc (OblR.took 2 _ _ Z Z Z Z Z fun V Q U O D u X Y J L M=>by exact zA8 (L _ _ Z Z Z Z).symm X Y)<|rz
 intro done ρ σ A R w y s
 obtain ⟨u10,e_u10⟩:∃ u,ρ 3=u:=⟨_,Z⟩
 have h2:=s.ov y 3 2 e_u10
 obtain ⟨B,j,d⟩:=s.s B C j q ⟨Z,N⟩
 replace q:=s.left y [(3,ob u10 (.vec w0.heap.size 9 eStr x8))] ⟨Z,Z,e_u10,Z,Z,N⟩
 refine HT.ret ?_
 obtain rfl:=si c
 exact ⟨.inr Z,[R 2],⟨Z,N⟩,(zC4 (q.ok 0 _ Z) B h2),j⟩
def zCG (fu:Nat) (p0:List UInt8):Option (List (List UInt8)):=
 cl true (zCc fu p0) fun x1=>
 cl true (zDr fu x1) fun x3=>
 cl true (zAr fu x3) fun x5=>
 some x5
theorem zGU {fu : Nat} {A0 : Av} {p0 : List UInt8} {r : List (List UInt8)} (c : zCG fu p0 = some r) {w : World} {v0 : Value} (d : AvOK A0 w) (hG : GTab w) (h0 : Rep eStr A0 w v0 p0) :
 Calls prog 72 #[v0] w fun e w'=>∃ v,e = .returned v∧((Res.vec w.heap.size 9 eStr r).ok (addA A0 v) v w'∧Fr w w'):=by
 unfold zCG at c
 obtain ⟨w0,hw0,j,C⟩:=pw d
 have hA00:AvOK A0 w0:=C
 rw [fh hw0]
 rw [fw hw0]
 have hG0:GTab w0:=hw0 ▸ hG
 obtain ⟨A,hAe,B,d,q⟩:=pa d
 refine zA5 [.tmp 2] func72 ntmps72 (by decide) Z Z (nb Z) ?_
 intro R hR
 have f_v0:Rep eStr A w v0 p0:=hAe ▸ h0
 replace h0:R 0=v0:=hR 0 _ Z
 refine HT.su d j (eA::[]) ?_ ?_
 exact op (fun Q U W H D=>zA0 N)<|oz
 intro R w m n p d j
 replace h0:=k1 n h0
 replace f_v0:=f_v0.fr m
 replace q:=q.fr m
 obtain ⟨x1,q2,c⟩:=zA4 c
 obtain ⟨x3,q4,c⟩:=zA4 c
 obtain ⟨x5,q6,c⟩:=zA4 c
 refine HT.sx [] (rR v0::(rF fun A=>.rep eStr A x1)::(rF fun A=>.rep (eSl eStr) A x3)::⟨_,true,[],some (.vec w0.heap.size 9 eStr x5),true,fun A=>.any⟩::⟨_,true,[3],some (.vec w0.heap.size 9 eStr x5),true,fun A=>.any⟩::[]) (ur (up (up (ua (ua (UAll.nil)))))) q d ?_ ?_
 exact rm h0<|rp (fun V Q U O D=>zAC call104 (zFj (q2 Z) O.av (hG0.fr (j.tr O.ch (q.ge (N)))) ((f_v0.stp O.stp).eq (D.g 0 Z))))<|rp (fun V Q U O D=>zAC call103 (zGt (q4 Z) O.av (D.g 0 Z)))<|rc (OblR.made _ Z Z Z Z fun V Q U O D=>by have a0:Rep (eSl eStr) V U (Q 5) x3:=D.g 0 Z;exact zG7 call42 (zBT (q6 Z) O.av a0) (Nat.le_trans j.size O.ch.size))<|rc (OblR.took 3 _ _ Z Z Z Z Z fun V Q U O D u X Y J L M=>by exact zA8 (L _ _ Z Z Z Z).symm X Y)<|rz
 intro done ρ σ A R w y s
 obtain ⟨u7,e_u7⟩:∃ u,ρ 4=u:=⟨_,Z⟩
 have h2:=s.ov y 4 4 e_u7
 obtain ⟨B,j,d⟩:=s.s B C j q N
 replace q:=s.left y [(4,ob u7 (.vec w0.heap.size 9 eStr x5))] ⟨Z,Z,e_u7,Z,Z,N⟩
 refine HT.ret ?_
 obtain rfl:=si c
 exact ⟨.inr Z,[R 2],⟨Z,N⟩,(zC4 (q.ok 0 _ Z) B h2),j⟩
theorem zDh {fu : Nat} {A0 : Av} {p0 : List UInt8} {r : List (List UInt8)} (c : zCG fu p0 = some r) {w : World} {v0 : Value} (d : AvOK A0 w) (hG : GTab w) (h0 : Rep eStr A0 w v0 p0) :
 Calls prog 72 #[v0] w fun e w'=>∃ v,e = .returned v∧(Rep (eSl eStr) A0 w' v r∧Fr w w'):=by
 refine Calls.mono (zGU c d hG h0) ?_
 rintro e w' ⟨v,he,hv,hf⟩
 exact ⟨v,he,zC5 hv (fun b o h=>.inl h) d,hf⟩
def zBv (fu:Nat) (p0:Int):Option Int:=
 bd ((decide (65≤p0))&&(decide (p0≤90))) fun x1=>
 bif x1 then (
 cl true (zCL fu (IntKind.u8.wrap (p0+32))) fun x4=>
 bif (!x4) then (
 some (-2)
 ) else (
 ck (inR (IntKind.u8.wrap ((IntKind.u8.wrap (p0+32))-97)) sndL.length) <|
 some (gtD sndL (IntKind.u8.wrap ((IntKind.u8.wrap (p0+32))-97)))
 )
 ) else (
 cl true (zCL fu p0) fun x8=>
 bif (!x8) then (
 some (-2)
 ) else (
 ck (inR (IntKind.u8.wrap (p0-97)) sndL.length) <|
 some (gtD sndL (IntKind.u8.wrap (p0-97)))
 )
 )
theorem zE8 {fu : Nat} {A : Av} {p0 : Int} {r : Int} (c : zBv fu p0 = some r) {w : World} {v0 : Value} (d : AvOK A w) (hG : GTab w) (h0 : v0 = .int .u8 p0) :
 Calls prog 131 #[v0] w fun e w'=>∃ v,e = .returned v∧(v = .int .i64 r∧Fr w w'):=by
 unfold zBv at c
 obtain ⟨w0,hw0,j⟩:=pf w
 rw [fw hw0]
 have hG0:GTab w0:=hw0 ▸ hG
 refine zA5 [.tmp 2] func131 ntmps131 (by decide) Z Z (nb Z) ?_
 intro R hR
 replace h0:R 0 = .int .u8 p0:=(hR 0 _ Z).trans h0
 refine HT.su d j (eI 0::[]) ?_ ?_
 exact op (fun Q U W H D=>zA0 Z)<|oz
 intro R w m n p d j
 replace h0:=k1 n h0
 refine HT.seq ?_
 refine HT.seq ?_
 obtain ⟨x1,q2,c⟩:=zAV c
 refine HT.u d j (eU p0::eB (decide (65≤p0))::eB (decide (65≤p0))::gU (true&&((decide (65≤p0))==true)) p0::gB (true&&((decide (65≤p0))==true)) (decide (p0≤90))::eB x1::[]) ?_ ?_
 exact om h0<|op (fun Q U W H D=>zDR (D.g 0 Z) Z)<|ov<|gm 2 true h0<|og 2 true (fun G Q U W H D=>zE0 (D.h 0 G Z) Z)<|op (fun Q U W H D=>zAd (decide (65≤p0)) (D.g 0 Z) (fun hc=>by have a1:Q 7 = .bool (decide (p0≤90)):=D 1 _ _ _ Z Z Z Z (zC0 Z (zB2 hc));show _=Value.bool x1;rw [q2,hc];exact a1) (fun hc=>by show _=Value.bool x1;rw [q2,hc];exact Z))<|oz
 intro R w m n p d j
 replace h0:=k1 n h0
 have h8:=p.r 5 Z
 refine HT.cond x1 h8 (fun c3=>?_) (fun c3=>?_)
 have c:=zAH c3 c
 refine HT.u d j (eU p0::eU (IntKind.u8.wrap (p0+32))::eU (IntKind.u8.wrap (p0+32))::[]) ?_ ?_
 exact om h0<|op (fun Q U W H D=>zIB (D.g 0 Z) Z)<|oa<|oz
 intro R w m n p d j
 have h0:=p.r 2 Z
 refine HT.seq ?_
 obtain ⟨x4,q5,c⟩:=zA4 c
 refine HT.su d j (eU (IntKind.u8.wrap (p0+32))::eB x4::eB (!x4)::[]) ?_ ?_
 exact om h0<|op (fun Q U W H D=>zAC call158 (zDj (q5 Z) (d.fr W.size) (D.g 0 Z)))<|op (fun Q U W H D=>zCx (D.g 0 Z))<|oz
 intro R w m n p d j
 replace h0:=k1 n h0
 have h13:=p.r 2 Z
 refine HT.cond (!x4) h13 (fun c6=>?_) (fun c6=>?_)
 have c:=zAH c6 c
 refine HT.su d j (eI (-2)::[]) ?_ ?_
 exact op (fun Q U W H D=>zA0 Z)<|oz
 intro R w m n p d j
 have h2:=p.r 0 Z
 refine HT.ret ?_
 obtain rfl:=si c
 exact ⟨.inr Z,[R 2],⟨Z,N⟩,h2,j⟩
 have c:=zAI c6 c
 refine HT.skip ?_
 obtain ⟨e7,c⟩:=zA3 c
 refine HT.su d j (eU (IntKind.u8.wrap (p0+32))::eU (IntKind.u8.wrap ((IntKind.u8.wrap (p0+32))-97))::eR (.pointer (some ⟨0,(IntKind.u8.wrap ((IntKind.u8.wrap (p0+32))-97)).toNat,none⟩))::eI (gtD sndL (IntKind.u8.wrap ((IntKind.u8.wrap (p0+32))-97)))::eI (gtD sndL (IntKind.u8.wrap ((IntKind.u8.wrap (p0+32))-97)))::[]) ?_ ?_
 exact om h0<|op (fun Q U W H D=>zHx (D.g 0 Z) Z)<|op (fun Q U W H D=>zFP (D.g 0 Z) underlying144 sizeOf3 e7)<|op (fun Q U W H D=>OpF.int (zAe ((hG0.fr (j.trans W)).sndAt e7 ((D.g 0 Z))) isAgg3 sizeOf3))<|oa<|oz
 intro R w m n p d j
 have h2:=p.r 4 Z
 refine HT.ret ?_
 obtain rfl:=si c
 exact ⟨.inr Z,[R 2],⟨Z,N⟩,h2,j⟩
 have c:=zAI c3 c
 refine HT.skip ?_
 refine HT.seq ?_
 obtain ⟨x8,q9,c⟩:=zA4 c
 refine HT.su d j (eU p0::eB x8::eB (!x8)::[]) ?_ ?_
 exact om h0<|op (fun Q U W H D=>zAC call158 (zDj (q9 Z) (d.fr W.size) (D.g 0 Z)))<|op (fun Q U W H D=>zCx (D.g 0 Z))<|oz
 intro R w m n p d j
 replace h0:=k1 n h0
 have h13:=p.r 2 Z
 refine HT.cond (!x8) h13 (fun c10=>?_) (fun c10=>?_)
 have c:=zAH c10 c
 refine HT.su d j (eI (-2)::[]) ?_ ?_
 exact op (fun Q U W H D=>zA0 Z)<|oz
 intro R w m n p d j
 have h2:=p.r 0 Z
 refine HT.ret ?_
 obtain rfl:=si c
 exact ⟨.inr Z,[R 2],⟨Z,N⟩,h2,j⟩
 have c:=zAI c10 c
 refine HT.skip ?_
 obtain ⟨e11,c⟩:=zA3 c
 refine HT.su d j (eU p0::eU (IntKind.u8.wrap (p0-97))::eR (.pointer (some ⟨0,(IntKind.u8.wrap (p0-97)).toNat,none⟩))::eI (gtD sndL (IntKind.u8.wrap (p0-97)))::eI (gtD sndL (IntKind.u8.wrap (p0-97)))::[]) ?_ ?_
 exact om h0<|op (fun Q U W H D=>zHx (D.g 0 Z) Z)<|op (fun Q U W H D=>zFP (D.g 0 Z) underlying144 sizeOf3 e11)<|op (fun Q U W H D=>OpF.int (zAe ((hG0.fr (j.trans W)).sndAt e11 ((D.g 0 Z))) isAgg3 sizeOf3))<|oa<|oz
 intro R w m n p d j
 have h2:=p.r 4 Z
 refine HT.ret ?_
 obtain rfl:=si c
 exact ⟨.inr Z,[R 2],⟨Z,N⟩,h2,j⟩
def zB4 (fu : Nat) (p0 : List UInt8) : Nat → Int → Int → (List Int) → Option (Ex (List UInt8) (List Int))
 | 0,_,_,_=>none
 | k+1,y14,y15,y16=>
 bif (decide (y15<(p0.length:Int))) then (
 ck (inR y15 p0.length) <|
 cl true (zBv fu (bAt p0 y15)) fun x19=>
 bif (x19==(-2)) then (
 some (Ex.ret ([]:List UInt8))
 ) else (
 bd ((y15==0) || (decide (x19<0))) fun x23=>
 bif x23 then (
 ck (i64B (y15+1)) <|
 zB4 fu p0 k y14 (y15+1) y16
 ) else (
 bd ((decide (0<x19))&&(x19 != y14)) fun x27=>
 bif x27 then (
 ck (i64B (48+x19)) <|
 ck (zBD (y16.length+([(IntKind.u8.wrap (48+x19))]:List Int).length)) <|
 ck (i64B (y15+1)) <|
 zB4 fu p0 k x19 (y15+1) (y16++([(IntKind.u8.wrap (48+x19))]:List Int))
 ) else (
 ck (i64B (y15+1)) <|
 zB4 fu p0 k x19 (y15+1) y16
 )
 )
 )
 ) else (
 some (Ex.go y16)
 )
def zDA (fu:Nat) (p0:List UInt8):Option (List UInt8):=
 bif (p0==([]:List UInt8)) then (
 some ([]:List UInt8)
 ) else (
 ck (subR 0 1 p0.length) <|
 cl true (zCQ fu (subL p0 0 1)) fun x4=>
 ck (zBD x4.length) <|
 ck (inR 0 p0.length) <|
 cl true (zBv fu (bAt p0 0)) fun x9=>
 cl true (zB4 fu p0 fu x9 0 (bytL x4)) fun rl11=>
 exM rl11 (fun r=>some r) fun s13=>
 ck (zBD ((strB s13)++([48,48,48]:List UInt8)).length) <|
 ck (subR 0 4 ((strB s13)++([48,48,48]:List UInt8)).length) <|
 some (subL ((strB s13)++([48,48,48]:List UInt8)) 0 4)
 )
theorem zGC {fu : Nat} {A0 : Av} {p0 : List UInt8} {r : List UInt8} (c : zDA fu p0 = some r) {w : World} {v0 : Value} (d : AvOK A0 w) (hG : GTab w) (h0 : Rep eStr A0 w v0 p0) :
 Calls prog 100 #[v0] w fun e w'=>∃ v,e = .returned v∧(Rep eStr A0 w' v r∧Fr w w'):=by
 unfold zDA at c
 obtain ⟨w0,hw0,j,C⟩:=pw d
 have hA00:AvOK A0 w0:=C
 rw [fw hw0]
 have hG0:GTab w0:=hw0 ▸ hG
 obtain ⟨A,hAe,B,d,q⟩:=pa d
 refine zA5 [.tmp 2] func100 ntmps100 (by decide) Z Z (nb Z) ?_
 intro R hR
 have f_v0:Rep eStr A w v0 p0:=hAe ▸ h0
 replace h0:R 0=v0:=hR 0 _ Z
 refine HT.su d j (eF (.rep eStr A ([]:List UInt8))::[]) ?_ ?_
 exact op (fun Q U W H D=>zA0 ⟨_,Z,⟨_,Z,Z,by decide⟩⟩)<|oz
 intro R w m n p d j
 replace h0:=k1 n h0
 replace f_v0:=f_v0.fr m
 replace q:=q.fr m
 refine HT.seq ?_
 refine HT.su d j (eR v0::eB (p0==([]:List UInt8))::[]) ?_ ?_
 exact om h0<|op (fun Q U W H D=>zBU ((f_v0.fr W).eq (D.g 0 Z)) ⟨_,Z,⟨_,Z,Z,by decide⟩⟩)<|oz
 intro R w m n p d j
 replace h0:=k1 n h0
 have h8:=p.r 1 Z
 replace f_v0:=f_v0.fr m
 replace q:=q.fr m
 refine HT.cond (p0==([]:List UInt8)) h8 (fun c1=>?_) (fun c1=>?_)
 have c:=zAH c1 c
 refine HT.su d j (eF (.rep eStr A ([]:List UInt8))::[]) ?_ ?_
 exact op (fun Q U W H D=>zA0 ⟨_,Z,⟨_,Z,Z,by decide⟩⟩)<|oz
 intro R w m n p d j
 obtain ⟨u2,h2,f_u2⟩:∃ u,R 2=u∧Rep eStr A w u ([]:List UInt8):=⟨_,Z,p 0 _ _ Z Z Z⟩
 replace q:=q.fr m
 refine HT.ret ?_
 obtain rfl:=si c
 exact ⟨.inr Z,[R 2],⟨Z,N⟩,(f_u2.eq h2).down B,j⟩
 have c:=zAI c1 c
 refine HT.skip ?_
 obtain ⟨e3,c⟩:=zA3 c
 obtain ⟨x4,q5,c⟩:=zA4 c
 obtain ⟨e6,c⟩:=zA3 c
 refine HT.sx [] (rR v0::(rF fun A=>.rep eStr A (subL p0 0 1))::(rF fun A=>.rep eStr A x4)::⟨_,true,[],some (.vec w0.heap.size 5 (eInt .u8) (bytL x4)),true,fun A=>.any⟩::⟨_,true,[3],some (.vec w0.heap.size 5 (eInt .u8) (bytL x4)),true,fun A=>.any⟩::[]) (ur (up (up (ua (ua (UAll.nil)))))) q d ?_ ?_
 exact rm h0<|rp (fun V Q U O D=>zBp ((f_v0.stp O.stp).eq (D.g 0 Z)) Z underlying9  e3)<|rp (fun V Q U O D=>zAC call130 (zEK (q5 Z) O.av (D.g 0 Z)))<|rc (OblR.made _ Z Z Z Z fun V Q U O D=>by have a0:Rep eStr V U (Q 11) x4:=D.g 0 Z;exact zHO a0 underlying9 underlying43 underlying5 Z e6 (Nat.le_trans j.size O.ch.size))<|rc (OblR.took 3 _ _ Z Z Z Z Z fun V Q U O D u X Y J L M=>by exact zA8 (L _ _ Z Z Z Z).symm X Y)<|rz
 intro done ρ σ A R w y s
 replace h0:=k1 s.rg h0
 obtain ⟨u7,e_u7⟩:∃ u,ρ 4=u:=⟨_,Z⟩
 have h3:=s.ov y 4 4 e_u7
 replace f_v0:=f_v0.stp s.stp
 obtain ⟨B,j,d⟩:=s.s B C j q N
 replace q:=s.left y [(4,ob u7 (.vec w0.heap.size 5 (eInt .u8) (bytL x4)))] ⟨Z,Z,e_u7,Z,Z,N⟩
 obtain ⟨e8,c⟩:=zA3 c
 obtain ⟨x9,q10,c⟩:=zA4 c
 refine HT.su d j (eR v0::eU (bAt p0 0)::eI x9::eI x9::[]) ?_ ?_
 exact om h0<|op (fun Q U W H D=>zAQ ((f_v0.fr W).eq (D.g 0 Z)) Z underlying9 e8)<|op (fun Q U W H D=>zAC call131 (zE8 (q10 Z) (d.fr W.size) (hG0.fr (j.trans W)) (D.g 0 Z)))<|oa<|oz
 intro R w m n p d j
 obtain ⟨h0,h3⟩:=k2 n h0 h3
 have h4:=p.r 3 Z
 replace f_v0:=f_v0.fr m
 replace q:=q.fr m
 refine HT.seq ?_
 refine HT.su d j (eR v0::eI (p0.length:Int)::eI 0::[]) ?_ ?_
 exact om h0<|op (fun Q U W H D=>zAZ ((f_v0.fr W).eq (D.g 0 Z)) underlying9)<|op (fun Q U W H D=>zBl Z)<|oz
 intro R w m n p d j
 obtain ⟨h0,h3,h4⟩:=k3 n h0 h3 h4
 have h17:=p.r 1 Z
 have h18:=p.r 2 Z
 replace f_v0:=f_v0.fr m
 replace q:=q.fr m
 obtain ⟨rl11,q12,c⟩:=zA4 c
 replace q12:=q12 Z
 refine HT.cut0 (fun R w=>∃ A:Av,∃ (s13:(List Int)) (uo_u7:Value),rl11=Ex.go s13∧AvOK A w∧Fr w0 w∧(∀ b o,A0 b o→A b o)∧IniOK [ob uo_u7 (.vec w0.heap.size 5 (eInt .u8) s13)] A w∧R 3=uo_u7) ?_ ?_
 refine HT.block ?_
 refine HT.loop (fun k R w=>∃ A:Av,∃ (y14:Int) (y15:Int) (y16:List Int) (ul_u7:Value),zB4 fu p0 k y14 y15 y16=some rl11∧AvOK A w∧Fr w0 w∧(∀ b o,A0 b o→A b o)∧IniOK [ob ul_u7 (.vec w0.heap.size 5 (eInt .u8) y16)] A w∧R 0=v0∧R 3=ul_u7∧R 4 = .int .i64 y14∧R 17 = .int .i64 (p0.length:Int)∧R 18 = .int .i64 y15∧Rep eStr A w v0 p0) fu ⟨_,_,_,_,u7,q12,d,j,B,q,h0,h3,h4,h17,h18,f_v0⟩ ?_
 have hr0:=c;clear c q12
 rintro k R w ⟨A,y14,y15,y16,ul_u7,c,d,j,B,q,h0,h3,h4,h17,h18,f_v0⟩
 rcases k with _ | k
 cases (show none=some _ from c)
 rw [zB4] at c
 refine HT.su d j (eB (decide (y15<(p0.length:Int)))::[]) ?_ ?_
 exact op (fun Q U W H D=>zAk ((H 18 Z).trans h18) ((H 17 Z).trans h17))<|oz
 intro R w m n p d j
 obtain ⟨h0,h3,h4,h17,h18⟩:=k5 n h0 h3 h4 h17 h18
 have h19:=p.r 0 Z
 replace f_v0:=f_v0.fr m
 replace q:=q.fr m
 refine HT.seq ?_
 refine HT.cond (decide (y15<(p0.length:Int))) h19 (fun c17=>?_) (fun c17=>?_)
 have c:=zAH c17 c
 refine HT.skip ?_
 refine HT.seq ?_
 refine HT.block ?_
 refine HT.su d j (eI y15::eI y15::[]) ?_ ?_
 exact om h18<|oa<|oz
 intro R w m n p d j
 obtain ⟨h0,h3,h4,h17,h18⟩:=k5 n h0 h3 h4 h17 h18
 have h5:=p.r 1 Z
 replace f_v0:=f_v0.fr m
 replace q:=q.fr m
 obtain ⟨e18,c⟩:=zA3 c
 obtain ⟨x19,q20,c⟩:=zA4 c
 refine HT.su d j (eR v0::eI y15::eU (bAt p0 y15)::eI x19::eI x19::[]) ?_ ?_
 exact om h0<|om h5<|op (fun Q U W H D=>zAQ ((f_v0.fr W).eq (D.g 0 Z)) (D.g 1 Z) underlying9 e18)<|op (fun Q U W H D=>zAC call131 (zE8 (q20 Z) (d.fr W.size) (hG0.fr (j.trans W)) (D.g 0 Z)))<|oa<|oz
 intro R w m n p d j
 obtain ⟨h0,h3,h4,h5,h17,h18⟩:=k6 n h0 h3 h4 h5 h17 h18
 have h6:=p.r 4 Z
 replace f_v0:=f_v0.fr m
 replace q:=q.fr m
 refine HT.seq ?_
 refine HT.su d j (eI x19::eB (x19==(-2))::[]) ?_ ?_
 exact om h6<|op (fun Q U W H D=>zED (D.g 0 Z) Z)<|oz
 intro R w m n p d j
 obtain ⟨h0,h3,h4,h5,h6,h17⟩:=k6 n h0 h3 h4 h5 h6 h17
 replace h18:=k1 n h18
 have h26:=p.r 1 Z
 replace f_v0:=f_v0.fr m
 replace q:=q.fr m
 refine HT.cond (x19==(-2)) h26 (fun c21=>?_) (fun c21=>?_)
 have c:=zAH c21 c
 refine HT.su d j (eF (.rep eStr A ([]:List UInt8))::[]) ?_ ?_
 exact op (fun Q U W H D=>zA0 ⟨_,Z,⟨_,Z,Z,by decide⟩⟩)<|oz
 intro R w m n p d j
 obtain ⟨u22,h2,f_u22⟩:∃ u,R 2=u∧Rep eStr A w u ([]:List UInt8):=⟨_,Z,p 0 _ _ Z Z Z⟩
 replace q:=q.fr m
 replace q:IniOK [] A w:=q.sub [] N
 refine HT.ret ?_
 obtain rfl:=si c
 have c:=hr0
 replace c:some _=some _:=c
 obtain rfl:=si c
 exact ⟨.inr Z,[R 2],⟨Z,N⟩,(f_u22.eq h2).down B,j⟩
 have c:=zAI c21 c
 refine HT.skip ?_
 refine HT.seq ?_
 refine HT.seq ?_
 obtain ⟨x23,q24,c⟩:=zAV c
 refine HT.u d j (eI y15::eB (y15==0)::eB (y15==0)::gI (true&&((y15==0)==false)) x19::gB (true&&((y15==0)==false)) (decide (x19<0))::eB x23::[]) ?_ ?_
 exact om h5<|op (fun Q U W H D=>zED (D.g 0 Z) Z)<|ov<|gm 2 false h6<|og 2 false (fun G Q U W H D=>zAk (D.h 0 G Z) Z)<|op (fun Q U W H D=>zAd (y15==0) (D.g 0 Z) (fun hc=>by show _=Value.bool x23;rw [q24,hc];exact Z) (fun hc=>by have a2:Q 31 = .bool (decide (x19<0)):=D 1 _ _ _ Z Z Z Z (zC0 Z (zB2 hc));show _=Value.bool x23;rw [q24,hc];exact a2))<|oz
 intro R w m n p d j
 obtain ⟨h0,h3,h4,h6,h17,h18⟩:=k6 n h0 h3 h4 h6 h17 h18
 have h32:=p.r 5 Z
 replace f_v0:=f_v0.fr m
 replace q:=q.fr m
 refine HT.cond x23 h32 (fun c25=>?_) (fun c25=>?_)
 have c:=zAH c25 c
 refine HT.exit ?_
 obtain ⟨e26,c⟩:=zA3 c
 refine HT.u d j (eI (y15+1)::eI (y15+1)::[]) ?_ ?_
 exact op (fun Q U W H D=>zAU ((H 18 Z).trans h18) Z e26)<|ov<|oz
 intro R w m n p d j
 obtain ⟨h0,h3,h4,h17⟩:=k4 n h0 h3 h4 h17
 have h18:=p.r 1 Z
 replace f_v0:=f_v0.fr m
 replace q:=q.fr m
 exact ei k (And.intro (Nat.lt_succ_self k) ⟨_,_,_,_,ul_u7,c,d,j,B,q,h0,h3,h4,h17,h18,f_v0⟩)
 have c:=zAI c25 c
 refine HT.skip ?_
 refine HT.seq ?_
 refine HT.seq ?_
 obtain ⟨x27,q28,c⟩:=zAV c
 refine HT.u d j (eI x19::eB (decide (0<x19))::eB (decide (0<x19))::gI (true&&((decide (0<x19))==true)) x19::gI (true&&((decide (0<x19))==true)) y14::gB (true&&((decide (0<x19))==true)) (x19 != y14)::eB x27::[]) ?_ ?_
 exact om h6<|op (fun Q U W H D=>zEA (D.g 0 Z) Z)<|ov<|gm 2 true h6<|gm 2 true h4<|og 2 true (fun G Q U W H D=>zES (D.h 0 G Z) (D.h 1 G Z))<|op (fun Q U W H D=>zAd (decide (0<x19)) (D.g 0 Z) (fun hc=>by have a1:Q 38 = .bool (x19 != y14):=D 1 _ _ _ Z Z Z Z (zC0 Z (zB2 hc));show _=Value.bool x27;rw [q28,hc];exact a1) (fun hc=>by show _=Value.bool x27;rw [q28,hc];exact Z))<|oz
 intro R w m n p d j
 obtain ⟨h0,h3,h6,h17,h18⟩:=k5 n h0 h3 h6 h17 h18
 have h39:=p.r 6 Z
 replace f_v0:=f_v0.fr m
 replace q:=q.fr m
 refine HT.cond x27 h39 (fun c29=>?_) (fun c29=>?_)
 have c:=zAH c29 c
 obtain ⟨e30,e31,c⟩:=ck2 c
 refine HT.x [ob ul_u7 (.vec w0.heap.size 5 (eInt .u8) y16)] (rR ul_u7::rI x19::rI (48+x19)::rU (IntKind.u8.wrap (48+x19))::(rF fun A=>.rep (eSl (eInt .u8)) A ([(IntKind.u8.wrap (48+x19))]:List Int))::⟨_,true,[0],some (.vec w0.heap.size 5 (eInt .u8) (y16++([(IntKind.u8.wrap (48+x19))]:List Int))),true,fun A=>.any⟩::⟨_,true,[6],some (.vec w0.heap.size 5 (eInt .u8) (y16++([(IntKind.u8.wrap (48+x19))]:List Int))),true,fun A=>.any⟩::[]) (ur (ur (ur (ur (up (ua (ua (UAll.nil)))))))) q d ?_ ?_
 exact rm h3<|rm h6<|rp (fun V Q U O D=>zAU Z (D.g 0 Z) e30)<|rp (fun V Q U O D=>zDo (D.g 0 Z) underlying3 underlying5)<|rp (fun V Q U O D=>zB3 [_] (E:=eInt .u8) ⟨(zC2.eq (D.g 0 Z)),N⟩ underlying43 sizeOf5 zeroValue5 Z Z Z O.av)<|rc (OblR.took 0 _ _ Z Z Z Z Z fun V Q U O D u X Y J L M=>by have a0:Q 40=ul_u7:=D.g 0 Z;have a1:Rep (eSl (eInt .u8)) V U (Q 44) ([(IntKind.u8.wrap (48+x19))]:List Int):=D.g 1 Z;exact zAW (a0.trans (J _ Z).symm) X Y (Nat.le_trans j.size O.ch.size) a1 underlying43 el_5 e31)<|rc (OblR.took 6 _ _ Z Z Z Z Z fun V Q U O D u X Y J L M=>by exact zA8 (L _ _ Z Z Z Z).symm X Y)<|rz
 intro done ρ σ A R w y s
 obtain ⟨h0,h6,h17,h18⟩:=k4 s.rg h0 h6 h17 h18
 obtain ⟨u32,e_u32⟩:∃ u,ρ 7=u:=⟨_,Z⟩
 have h3:=s.ov y 7 6 e_u32
 replace f_v0:=f_v0.stp s.stp
 obtain ⟨B,j,d⟩:=s.s B C j q ⟨Z,N⟩
 replace q:=s.left y [(7,ob u32 (.vec w0.heap.size 5 (eInt .u8) (y16++([(IntKind.u8.wrap (48+x19))]:List Int))))] ⟨Z,Z,e_u32,Z,Z,N⟩
 refine HT.u d j (eI x19::eI x19::[]) ?_ ?_
 exact om h6<|oa<|oz
 intro R w m n p d j
 obtain ⟨h0,h3,h17,h18⟩:=k4 n h0 h3 h17 h18
 have h4:=p.r 1 Z
 replace f_v0:=f_v0.fr m
 replace q:=q.fr m
 obtain ⟨e33,c⟩:=zA3 c
 refine HT.u d j (eI (y15+1)::eI (y15+1)::[]) ?_ ?_
 exact op (fun Q U W H D=>zAU ((H 18 Z).trans h18) Z e33)<|ov<|oz
 intro R w m n p d j
 obtain ⟨h0,h3,h4,h17⟩:=k4 n h0 h3 h4 h17
 have h18:=p.r 1 Z
 replace f_v0:=f_v0.fr m
 replace q:=q.fr m
 exact ei k (And.intro (Nat.lt_succ_self k) ⟨_,_,_,_,u32,c,d,j,B,q,h0,h3,h4,h17,h18,f_v0⟩)
 have c:=zAI c29 c
 refine HT.skip ?_
 refine HT.u d j (eI x19::eI x19::[]) ?_ ?_
 exact om h6<|oa<|oz
 intro R w m n p d j
 obtain ⟨h0,h3,h17,h18⟩:=k4 n h0 h3 h17 h18
 have h4:=p.r 1 Z
 replace f_v0:=f_v0.fr m
 replace q:=q.fr m
 obtain ⟨e34,c⟩:=zA3 c
 refine HT.u d j (eI (y15+1)::eI (y15+1)::[]) ?_ ?_
 exact op (fun Q U W H D=>zAU ((H 18 Z).trans h18) Z e34)<|ov<|oz
 intro R w m n p d j
 obtain ⟨h0,h3,h4,h17⟩:=k4 n h0 h3 h4 h17
 have h18:=p.r 1 Z
 replace f_v0:=f_v0.fr m
 replace q:=q.fr m
 exact ei k (And.intro (Nat.lt_succ_self k) ⟨_,_,_,_,ul_u7,c,d,j,B,q,h0,h3,h4,h17,h18,f_v0⟩)
 have c:=zAI c17 c
 refine HT.exit ?_
 obtain rfl:=si c
 exact ei _ ⟨_,ul_u7,Z,d,j,B,q,h3⟩
 rintro R w ⟨A,s13,uo_u7,rfl,d,j,B,q,h3⟩
 have c:=zEC c
 obtain ⟨e35,e36,c⟩:=ck2 c
 refine HT.su d j (eR uo_u7::eF (.rep eStr A (strB s13))::eF (.rep eStr A ((strB s13)++([48,48,48]:List UInt8)))::eF (.rep eStr A (subL ((strB s13)++([48,48,48]:List UInt8)) 0 4))::eF (.rep eStr A (subL ((strB s13)++([48,48,48]:List UInt8)) 0 4))::[]) ?_ ?_
 exact om h3<|op (fun Q U W H D=>zBK ((zC5 ((q.fr W).ok 0 _ Z).1 B C).eq (D.g 0 Z)) underlying43 underlying5 underlying9)<|op (fun Q U W H D=>zDy (D.g 0 Z) ⟨_,Z,⟨_,Z,Z,by decide⟩⟩ e35)<|op (fun Q U W H D=>zBp (D.g 0 Z) Z underlying9  e36)<|op (fun Q U W H D=>zA0 (D.g 0 Z))<|oz
 intro R w m n p d j
 obtain ⟨u37,h2,f_u37⟩:∃ u,R 2=u∧Rep eStr A w u (subL ((strB s13)++([48,48,48]:List UInt8)) 0 4):=⟨_,Z,p 4 _ _ Z Z Z⟩
 replace q:=q.fr m
 replace q:IniOK [] A w:=q.sub [] N
 refine HT.ret ?_
 obtain rfl:=si c
 exact ⟨.inr Z,[R 2],⟨Z,N⟩,(f_u37.eq h2).down B,j⟩
def zB7 (fu : Nat) (x2 : List (List UInt8)) : Nat → Int → (List (List UInt8)) → Option (List (List UInt8))
 | 0,_,_=>none
 | k+1,y8,y9=>
 bif (decide (y8<(x2.length:Int))) then (
 ck (inR y8 x2.length) <|
 cl true (zDA fu (gtD x2 y8)) fun x13=>
 bif (!(x13==([]:List UInt8))) then (
 ck (zBD (y9.length+([x13]:List (List UInt8)).length)) <|
 ck (i64B (y8+1)) <|
 zB7 fu x2 k (y8+1) (y9++([x13]:List (List UInt8)))
 ) else (
 ck (i64B (y8+1)) <|
 zB7 fu x2 k (y8+1) y9
 )
 ) else (
 some y9
 )
def zCB (fu:Nat) (p0:List UInt8):Option (List (List UInt8)):=
 cl true (zCG fu p0) fun x2=>
 cl true (zB7 fu x2 fu 0 ([]:List (List UInt8))) fun s7=>
 cl true (zAr fu s7) fun x21=>
 some x21
theorem zFV {fu : Nat} {A0 : Av} {p0 : List UInt8} {r : List (List UInt8)} (c : zCB fu p0 = some r) {w : World} {v0 : Value} (d : AvOK A0 w) (hG : GTab w) (h0 : Rep eStr A0 w v0 p0) :
 Calls prog 69 #[v0] w fun e w'=>∃ v,e = .returned v∧((Res.vec w.heap.size 9 eStr r).ok (addA A0 v) v w'∧Fr w w'):=by
 unfold zCB at c
 obtain ⟨w0,hw0,j,C⟩:=pw d
 have hA00:AvOK A0 w0:=C
 rw [fh hw0]
 rw [fw hw0]
 have hG0:GTab w0:=hw0 ▸ hG
 obtain ⟨A,hAe,B,d,q⟩:=pa d
 refine zA5 [.tmp 2] func69 ntmps69 (by decide) Z Z (nb Z) ?_
 intro R hR
 have f_v0:Rep eStr A w v0 p0:=hAe ▸ h0
 replace h0:R 0=v0:=hR 0 _ Z
 refine HT.su d j (eA::[]) ?_ ?_
 exact op (fun Q U W H D=>zA0 N)<|oz
 intro R w m n p d j
 replace h0:=k1 n h0
 replace f_v0:=f_v0.fr m
 replace q:=q.fr m
 refine HT.su d j (eR (.slice none 0 0)::[]) ?_ ?_
 exact op (fun Q U W H D=>zA0 Z)<|oz
 intro R w m n p d j
 replace h0:=k1 n h0
 obtain ⟨u1,n_u1⟩:∃ u,u=Value.slice none 0 0:=⟨_,Z⟩
 have h3:R 3=u1:=(p 0 _ _ Z Z Z).trans n_u1.symm
 replace f_v0:=f_v0.fr m
 replace q:=q.fr m
 replace q:=q.nilcons (u:=u1) n_u1 w0.heap.size 9 eStr
 refine HT.seq ?_
 obtain ⟨x2,q3,c⟩:=zA4 c
 refine HT.su d j (eR v0::eF (.rep (eSl eStr) A x2)::eI (x2.length:Int)::eI 0::[]) ?_ ?_
 exact om h0<|op (fun Q U W H D=>zAC call72 (zDh (q3 Z) (d.fr W.size) (hG0.fr (j.trans W)) ((f_v0.fr W).eq (D.g 0 Z))))<|op (fun Q U W H D=>zAN (aT:=#[]) (D.g 0 Z) underlying34)<|op (fun Q U W H D=>zBl Z)<|oz
 intro R w m n p d j
 replace h3:=k1 n h3
 obtain ⟨u4,h8,f_u4⟩:∃ u,R 8=u∧Rep (eSl eStr) A w u x2:=⟨_,Z,p 1 _ _ Z Z Z⟩
 have h9:=p.r 2 Z
 have h10:=p.r 3 Z
 replace q:=q.fr m
 obtain ⟨rl5,q6,c⟩:=zA4 c
 replace q6:=q6 Z
 refine HT.cut0 (fun R w=>∃ A:Av,∃ (s7:(List (List UInt8))) (uo_u1:Value),rl5=s7∧AvOK A w∧Fr w0 w∧(∀ b o,A0 b o→A b o)∧IniOK [ob uo_u1 (.vec w0.heap.size 9 eStr s7)] A w∧R 3=uo_u1) ?_ ?_
 refine HT.block ?_
 refine HT.loop (fun k R w=>∃ A:Av,∃ (y8:Int) (y9:List (List UInt8)) (ul_u1:Value),zB7 fu x2 k y8 y9=some rl5∧AvOK A w∧Fr w0 w∧(∀ b o,A0 b o→A b o)∧IniOK [ob ul_u1 (.vec w0.heap.size 9 eStr y9)] A w∧R 3=ul_u1∧R 8=u4∧R 9 = .int .i64 (x2.length:Int)∧R 10 = .int .i64 y8∧Rep (eSl eStr) A w u4 x2) fu ⟨_,_,_,u1,q6,d,j,B,q,h3,h8,h9,h10,f_u4⟩ ?_
 have hr0:=c;clear c q6
 rintro k R w ⟨A,y8,y9,ul_u1,c,d,j,B,q,h3,h8,h9,h10,f_u4⟩
 rcases k with _ | k
 cases (show none=some _ from c)
 rw [zB7] at c
 refine HT.su d j (eB (decide (y8<(x2.length:Int)))::[]) ?_ ?_
 exact op (fun Q U W H D=>zAk ((H 10 Z).trans h10) ((H 9 Z).trans h9))<|oz
 intro R w m n p d j
 obtain ⟨h3,h8,h9,h10⟩:=k4 n h3 h8 h9 h10
 have h11:=p.r 0 Z
 replace f_u4:=f_u4.fr m
 replace q:=q.fr m
 refine HT.seq ?_
 refine HT.cond (decide (y8<(x2.length:Int))) h11 (fun c10=>?_) (fun c10=>?_)
 have c:=zAH c10 c
 refine HT.skip ?_
 refine HT.seq ?_
 refine HT.block ?_
 obtain ⟨e11,c⟩:=zA3 c
 refine HT.su d j (eF (.qtr eStr A (gtD x2 y8))::eF (.rep eStr A (gtD x2 y8))::eF (.rep eStr A (gtD x2 y8))::[]) ?_ ?_
 exact op (fun Q U W H D=>zAB ((f_u4.fr W).eq ((H 8 Z).trans h8)) ((H 10 Z).trans h10) underlying34 sizeOf9 e11)<|op (fun Q U W H D=>(zAe (QRep.ptr (D.g 0 Z)) isAgg9 sizeOf9))<|op (fun Q U W H D=>zA0 (D.g 0 Z))<|oz
 intro R w m n p d j
 obtain ⟨h3,h8,h9,h10⟩:=k4 n h3 h8 h9 h10
 obtain ⟨u12,h5,f_u12⟩:∃ u,R 5=u∧Rep eStr A w u (gtD x2 y8):=⟨_,Z,p 2 _ _ Z Z Z⟩
 replace f_u4:=f_u4.fr m
 replace q:=q.fr m
 obtain ⟨x13,q14,c⟩:=zA4 c
 refine HT.su d j (eR u12::eF (.rep eStr A x13)::eF (.rep eStr A x13)::[]) ?_ ?_
 exact om h5<|op (fun Q U W H D=>zAC call100 (zGC (q14 Z) (d.fr W.size) (hG0.fr (j.trans W)) ((f_u12.fr W).eq (D.g 0 Z))))<|op (fun Q U W H D=>zA0 (D.g 0 Z))<|oz
 intro R w m n p d j
 obtain ⟨h3,h8,h9,h10⟩:=k4 n h3 h8 h9 h10
 obtain ⟨u15,h6,f_u15⟩:∃ u,R 6=u∧Rep eStr A w u x13:=⟨_,Z,p 2 _ _ Z Z Z⟩
 replace f_u4:=f_u4.fr m
 replace q:=q.fr m
 refine HT.su d j (eR u15::eB (!(x13==([]:List UInt8)))::[]) ?_ ?_
 exact om h6<|op (fun Q U W H D=>zF3 ((f_u15.fr W).eq (D.g 0 Z)) ⟨_,Z,⟨_,Z,Z,by decide⟩⟩)<|oz
 intro R w m n p d j
 obtain ⟨h3,h6,h8,h9,h10⟩:=k5 n h3 h6 h8 h9 h10
 have h17:=p.r 1 Z
 replace f_u15:=f_u15.fr m
 replace f_u4:=f_u4.fr m
 replace q:=q.fr m
 refine HT.cond (!(x13==([]:List UInt8))) h17 (fun c16=>?_) (fun c16=>?_)
 have c:=zAH c16 c
 obtain ⟨e17,c⟩:=zA3 c
 refine HT.x [ob ul_u1 (.vec w0.heap.size 9 eStr y9)] (rR ul_u1::rR u15::(rF fun A=>.rep (eSl eStr) A ([x13]:List (List UInt8)))::⟨_,true,[0],some (.vec w0.heap.size 9 eStr (y9++([x13]:List (List UInt8)))),true,fun A=>.any⟩::⟨_,true,[4],some (.vec w0.heap.size 9 eStr (y9++([x13]:List (List UInt8)))),true,fun A=>.any⟩::[]) (ur (ur (up (ua (ua (UAll.nil)))))) q d ?_ ?_
 exact rm h3<|rm h6<|rp (fun V Q U O D=>zB3 [_] (E:=eStr) ⟨((f_u15.stp O.stp).eq (D.g 0 Z)),N⟩ underlying34 sizeOf9 zeroValue9 Z Z Z O.av)<|rc (OblR.took 0 _ _ Z Z Z Z Z fun V Q U O D u X Y J L M=>by have a0:Q 18=ul_u1:=D.g 0 Z;have a1:Rep (eSl eStr) V U (Q 20) ([x13]:List (List UInt8)):=D.g 1 Z;exact zAW (a0.trans (J _ Z).symm) X Y (Nat.le_trans j.size O.ch.size) a1 underlying34 el_9 e17)<|rc (OblR.took 4 _ _ Z Z Z Z Z fun V Q U O D u X Y J L M=>by exact zA8 (L _ _ Z Z Z Z).symm X Y)<|rz
 intro done ρ σ A R w y s
 obtain ⟨h8,h9,h10⟩:=k3 s.rg h8 h9 h10
 obtain ⟨u18,e_u18⟩:∃ u,ρ 5=u:=⟨_,Z⟩
 have h3:=s.ov y 5 4 e_u18
 replace f_u4:=f_u4.stp s.stp
 obtain ⟨B,j,d⟩:=s.s B C j q ⟨Z,N⟩
 replace q:=s.left y [(5,ob u18 (.vec w0.heap.size 9 eStr (y9++([x13]:List (List UInt8)))))] ⟨Z,Z,e_u18,Z,Z,N⟩
 obtain ⟨e19,c⟩:=zA3 c
 refine HT.u d j (eI (y8+1)::eI (y8+1)::[]) ?_ ?_
 exact op (fun Q U W H D=>zAU ((H 10 Z).trans h10) Z e19)<|ov<|oz
 intro R w m n p d j
 obtain ⟨h3,h8,h9⟩:=k3 n h3 h8 h9
 have h10:=p.r 1 Z
 replace f_u4:=f_u4.fr m
 replace q:=q.fr m
 exact ei k (And.intro (Nat.lt_succ_self k) ⟨_,_,_,u18,c,d,j,B,q,h3,h8,h9,h10,f_u4⟩)
 have c:=zAI c16 c
 refine HT.skip ?_
 obtain ⟨e20,c⟩:=zA3 c
 refine HT.u d j (eI (y8+1)::eI (y8+1)::[]) ?_ ?_
 exact op (fun Q U W H D=>zAU ((H 10 Z).trans h10) Z e20)<|ov<|oz
 intro R w m n p d j
 obtain ⟨h3,h8,h9⟩:=k3 n h3 h8 h9
 have h10:=p.r 1 Z
 replace f_u4:=f_u4.fr m
 replace q:=q.fr m
 exact ei k (And.intro (Nat.lt_succ_self k) ⟨_,_,_,ul_u1,c,d,j,B,q,h3,h8,h9,h10,f_u4⟩)
 have c:=zAI c10 c
 refine HT.exit ?_
 obtain rfl:=si c
 exact ei _ ⟨_,ul_u1,Z,d,j,B,q,h3⟩
 rintro R w ⟨A,s7,uo_u1,es,d,j,B,q,h3⟩
 obtain rfl:=es.symm
 obtain ⟨x21,q22,c⟩:=zA4 c
 refine HT.sx [ob uo_u1 (.vec w0.heap.size 9 eStr s7)] (rR uo_u1::⟨_,true,[],some (.vec w0.heap.size 9 eStr x21),true,fun A=>.any⟩::⟨_,true,[2],some (.vec w0.heap.size 9 eStr x21),true,fun A=>.any⟩::[]) (ur (ua (ua (UAll.nil)))) q d ?_ ?_
 exact rm h3<|rc (OblR.made _ Z Z Z Z fun V Q U O D=>by have a0:Q 23=uo_u1:=D.g 0 Z;have ra0:=(zC5 (O.rd 0 _ Z Z) (O.low' B C (q.ge (⟨Z,N⟩))) C).eq a0;exact zE4 call42 (zBT (q22 Z) (hA00.fr ((Nat.le_trans j.size O.ch.size))) ra0) (Nat.le_trans j.size O.ch.size) (O.low' B C (q.ge (⟨Z,N⟩))) (fun _ _ _ _ _ h=>h))<|rc (OblR.took 2 _ _ Z Z Z Z Z fun V Q U O D u X Y J L M=>by exact zA8 (L _ _ Z Z Z Z).symm X Y)<|rz
 intro done ρ σ A R w y s
 have z23:=s.inivR 0 Z
 obtain ⟨u24,e_u24⟩:∃ u,ρ 3=u:=⟨_,Z⟩
 have h2:=s.ov y 3 2 e_u24
 obtain ⟨B,j,d⟩:=s.s B C j q ⟨Z,N⟩
 replace q:=s.left y [(3,ob u24 (.vec w0.heap.size 9 eStr x21))] ⟨Z,Z,e_u24,Z,Z,N⟩
 refine HT.ret ?_
 obtain rfl:=si c
 exact ⟨.inr Z,[R 2],⟨Z,N⟩,(zC4 (q.ok 0 _ Z) B h2),j⟩
theorem zFJ {fu : Nat} {A0 : Av} {p0 : List UInt8} {r : List (List UInt8)} (c : zCB fu p0 = some r) {w : World} {v0 : Value} (d : AvOK A0 w) (hG : GTab w) (h0 : Rep eStr A0 w v0 p0) :
 Calls prog 69 #[v0] w fun e w'=>∃ v,e = .returned v∧(Rep (eSl eStr) A0 w' v r∧Fr w w'):=by
 refine Calls.mono (zFV c d hG h0) ?_
 rintro e w' ⟨v,he,hv,hf⟩
 exact ⟨v,he,zC5 hv (fun b o h=>.inl h) d,hf⟩
def zAs (fu : Nat) (p0 : List UInt8) : Nat → Int → (List Int) → Option (List Int)
 | 0,_,_=>none
 | k+1,y5,y6=>
 bif (decide (y5<(p0.length:Int))) then (
 ck (inR y5 p0.length) <|
 cl true (zCj fu (bAt p0 y5)) fun x9=>
 bif x9 then (
 ck (inR y5 p0.length) <|
 ck (zBD (y6.length+([(bAt p0 y5)]:List Int).length)) <|
 ck (i64B (y5+1)) <|
 zAs fu p0 k (y5+1) (y6++([(bAt p0 y5)]:List Int))
 ) else (
 ck (i64B (y5+1)) <|
 zAs fu p0 k (y5+1) y6
 )
 ) else (
 some y6
 )
def zCq (fu:Nat) (p0:List UInt8):Option (List UInt8):=
 cl true (zAs fu p0 fu 0 ([]:List Int)) fun s4=>
 some (strB s4)
theorem zFv {fu : Nat} {A0 : Av} {p0 : List UInt8} {r : List UInt8} (c : zCq fu p0 = some r) {w : World} {v0 : Value} (d : AvOK A0 w) (h0 : Rep eStr A0 w v0 p0) :
 Calls prog 70 #[v0] w fun e w'=>∃ v,e = .returned v∧(Rep eStr A0 w' v r∧Fr w w'):=by
 unfold zCq at c
 obtain ⟨w0,hw0,j,C⟩:=pw d
 have hA00:AvOK A0 w0:=C
 rw [fw hw0]
 obtain ⟨A,hAe,B,d,q⟩:=pa d
 refine zA5 [.tmp 2] func70 ntmps70 (by decide) Z Z (nb Z) ?_
 intro R hR
 have f_v0:Rep eStr A w v0 p0:=hAe ▸ h0
 replace h0:R 0=v0:=hR 0 _ Z
 refine HT.su d j (eF (.rep eStr A ([]:List UInt8))::[]) ?_ ?_
 exact op (fun Q U W H D=>zA0 ⟨_,Z,⟨_,Z,Z,by decide⟩⟩)<|oz
 intro R w m n p d j
 replace h0:=k1 n h0
 replace f_v0:=f_v0.fr m
 replace q:=q.fr m
 refine HT.su d j (eR (.slice none 0 0)::[]) ?_ ?_
 exact op (fun Q U W H D=>zA0 Z)<|oz
 intro R w m n p d j
 replace h0:=k1 n h0
 obtain ⟨u1,n_u1⟩:∃ u,u=Value.slice none 0 0:=⟨_,Z⟩
 have h3:R 3=u1:=(p 0 _ _ Z Z Z).trans n_u1.symm
 replace f_v0:=f_v0.fr m
 replace q:=q.fr m
 replace q:=q.nilcons (u:=u1) n_u1 w0.heap.size 5 (eInt .u8)
 refine HT.seq ?_
 refine HT.su d j (eR v0::eI (p0.length:Int)::eI 0::[]) ?_ ?_
 exact om h0<|op (fun Q U W H D=>zAZ ((f_v0.fr W).eq (D.g 0 Z)) underlying9)<|op (fun Q U W H D=>zBl Z)<|oz
 intro R w m n p d j
 obtain ⟨h0,h3⟩:=k2 n h0 h3
 have h6:=p.r 1 Z
 have h7:=p.r 2 Z
 replace f_v0:=f_v0.fr m
 replace q:=q.fr m
 obtain ⟨rl2,q3,c⟩:=zA4 c
 replace q3:=q3 Z
 refine HT.cut0 (fun R w=>∃ A:Av,∃ (s4:(List Int)) (uo_u1:Value),rl2=s4∧AvOK A w∧Fr w0 w∧(∀ b o,A0 b o→A b o)∧IniOK [ob uo_u1 (.vec w0.heap.size 5 (eInt .u8) s4)] A w∧R 3=uo_u1) ?_ ?_
 refine HT.block ?_
 refine HT.loop (fun k R w=>∃ A:Av,∃ (y5:Int) (y6:List Int) (ul_u1:Value),zAs fu p0 k y5 y6=some rl2∧AvOK A w∧Fr w0 w∧(∀ b o,A0 b o→A b o)∧IniOK [ob ul_u1 (.vec w0.heap.size 5 (eInt .u8) y6)] A w∧R 0=v0∧R 3=ul_u1∧R 6 = .int .i64 (p0.length:Int)∧R 7 = .int .i64 y5∧Rep eStr A w v0 p0) fu ⟨_,_,_,u1,q3,d,j,B,q,h0,h3,h6,h7,f_v0⟩ ?_
 have hr0:=c;clear c q3
 rintro k R w ⟨A,y5,y6,ul_u1,c,d,j,B,q,h0,h3,h6,h7,f_v0⟩
 rcases k with _ | k
 cases (show none=some _ from c)
 rw [zAs] at c
 refine HT.su d j (eB (decide (y5<(p0.length:Int)))::[]) ?_ ?_
 exact op (fun Q U W H D=>zAk ((H 7 Z).trans h7) ((H 6 Z).trans h6))<|oz
 intro R w m n p d j
 obtain ⟨h0,h3,h6,h7⟩:=k4 n h0 h3 h6 h7
 have h8:=p.r 0 Z
 replace f_v0:=f_v0.fr m
 replace q:=q.fr m
 refine HT.seq ?_
 refine HT.cond (decide (y5<(p0.length:Int))) h8 (fun c7=>?_) (fun c7=>?_)
 have c:=zAH c7 c
 refine HT.skip ?_
 refine HT.seq ?_
 refine HT.block ?_
 refine HT.su d j (eI y5::eI y5::[]) ?_ ?_
 exact om h7<|oa<|oz
 intro R w m n p d j
 obtain ⟨h0,h3,h6,h7⟩:=k4 n h0 h3 h6 h7
 have h4:=p.r 1 Z
 replace f_v0:=f_v0.fr m
 replace q:=q.fr m
 obtain ⟨e8,c⟩:=zA3 c
 obtain ⟨x9,q10,c⟩:=zA4 c
 refine HT.su d j (eR v0::eI y5::eU (bAt p0 y5)::eB x9::[]) ?_ ?_
 exact om h0<|om h4<|op (fun Q U W H D=>zAQ ((f_v0.fr W).eq (D.g 0 Z)) (D.g 1 Z) underlying9 e8)<|op (fun Q U W H D=>zAC call101 (zEW (q10 Z) (d.fr W.size) (D.g 0 Z)))<|oz
 intro R w m n p d j
 obtain ⟨h0,h3,h4,h6,h7⟩:=k5 n h0 h3 h4 h6 h7
 have h13:=p.r 3 Z
 replace f_v0:=f_v0.fr m
 replace q:=q.fr m
 refine HT.cond x9 h13 (fun c11=>?_) (fun c11=>?_)
 have c:=zAH c11 c
 obtain ⟨e12,e13,c⟩:=ck2 c
 refine HT.x [ob ul_u1 (.vec w0.heap.size 5 (eInt .u8) y6)] (rR ul_u1::rR v0::rI y5::rU (bAt p0 y5)::(rF fun A=>.rep (eSl (eInt .u8)) A ([(bAt p0 y5)]:List Int))::⟨_,true,[0],some (.vec w0.heap.size 5 (eInt .u8) (y6++([(bAt p0 y5)]:List Int))),true,fun A=>.any⟩::⟨_,true,[6],some (.vec w0.heap.size 5 (eInt .u8) (y6++([(bAt p0 y5)]:List Int))),true,fun A=>.any⟩::[]) (ur (ur (ur (ur (up (ua (ua (UAll.nil)))))))) q d ?_ ?_
 exact rm h3<|rm h0<|rm h4<|rp (fun V Q U O D=>zAQ ((f_v0.stp O.stp).eq (D.g 0 Z)) (D.g 1 Z) underlying9 e12)<|rp (fun V Q U O D=>zB3 [_] (E:=eInt .u8) ⟨(zC2.eq (D.g 0 Z)),N⟩ underlying43 sizeOf5 zeroValue5 Z Z Z O.av)<|rc (OblR.took 0 _ _ Z Z Z Z Z fun V Q U O D u X Y J L M=>by have a0:Q 14=ul_u1:=D.g 0 Z;have a1:Rep (eSl (eInt .u8)) V U (Q 18) ([(bAt p0 y5)]:List Int):=D.g 1 Z;exact zAW (a0.trans (J _ Z).symm) X Y (Nat.le_trans j.size O.ch.size) a1 underlying43 el_5 e13)<|rc (OblR.took 6 _ _ Z Z Z Z Z fun V Q U O D u X Y J L M=>by exact zA8 (L _ _ Z Z Z Z).symm X Y)<|rz
 intro done ρ σ A R w y s
 obtain ⟨h0,h6,h7⟩:=k3 s.rg h0 h6 h7
 obtain ⟨u14,e_u14⟩:∃ u,ρ 7=u:=⟨_,Z⟩
 have h3:=s.ov y 7 6 e_u14
 replace f_v0:=f_v0.stp s.stp
 obtain ⟨B,j,d⟩:=s.s B C j q ⟨Z,N⟩
 replace q:=s.left y [(7,ob u14 (.vec w0.heap.size 5 (eInt .u8) (y6++([(bAt p0 y5)]:List Int))))] ⟨Z,Z,e_u14,Z,Z,N⟩
 obtain ⟨e15,c⟩:=zA3 c
 refine HT.u d j (eI (y5+1)::eI (y5+1)::[]) ?_ ?_
 exact op (fun Q U W H D=>zAU ((H 7 Z).trans h7) Z e15)<|ov<|oz
 intro R w m n p d j
 obtain ⟨h0,h3,h6⟩:=k3 n h0 h3 h6
 have h7:=p.r 1 Z
 replace f_v0:=f_v0.fr m
 replace q:=q.fr m
 exact ei k (And.intro (Nat.lt_succ_self k) ⟨_,_,_,u14,c,d,j,B,q,h0,h3,h6,h7,f_v0⟩)
 have c:=zAI c11 c
 refine HT.skip ?_
 obtain ⟨e16,c⟩:=zA3 c
 refine HT.u d j (eI (y5+1)::eI (y5+1)::[]) ?_ ?_
 exact op (fun Q U W H D=>zAU ((H 7 Z).trans h7) Z e16)<|ov<|oz
 intro R w m n p d j
 obtain ⟨h0,h3,h6⟩:=k3 n h0 h3 h6
 have h7:=p.r 1 Z
 replace f_v0:=f_v0.fr m
 replace q:=q.fr m
 exact ei k (And.intro (Nat.lt_succ_self k) ⟨_,_,_,ul_u1,c,d,j,B,q,h0,h3,h6,h7,f_v0⟩)
 have c:=zAI c7 c
 refine HT.exit ?_
 obtain rfl:=si c
 exact ei _ ⟨_,ul_u1,Z,d,j,B,q,h3⟩
 rintro R w ⟨A,s4,uo_u1,es,d,j,B,q,h3⟩
 obtain rfl:=es.symm
 refine HT.su d j (eR uo_u1::eF (.rep eStr A (strB s4))::eF (.rep eStr A (strB s4))::[]) ?_ ?_
 exact om h3<|op (fun Q U W H D=>zBK ((zC5 ((q.fr W).ok 0 _ Z).1 B C).eq (D.g 0 Z)) underlying43 underlying5 underlying9)<|op (fun Q U W H D=>zA0 (D.g 0 Z))<|oz
 intro R w m n p d j
 obtain ⟨u17,h2,f_u17⟩:∃ u,R 2=u∧Rep eStr A w u (strB s4):=⟨_,Z,p 2 _ _ Z Z Z⟩
 replace q:=q.fr m
 replace q:IniOK [] A w:=q.sub [] N
 refine HT.ret ?_
 obtain rfl:=si c
 exact ⟨.inr Z,[R 2],⟨Z,N⟩,(f_u17.eq h2).down B,j⟩
def zBa (fu:Nat) (p0:Int):Option (List UInt8):=
 cl true (zKm fu p0) fun x1=>
 some x1
theorem zDJ {fu : Nat} {A : Av} {p0 : Int} {r : List UInt8} (c : zBa fu p0 = some r) {w : World} {v0 : Value} (d : AvOK A w) (hG : GTab w) (h0 : v0 = .int .i64 p0) :
 Calls prog 73 #[v0] w fun e w'=>∃ v,e = .returned v∧(Rep eStr A w' v r∧Fr w w'):=by
 unfold zBa at c
 obtain ⟨w0,hw0,j⟩:=pf w
 rw [fw hw0]
 have hG0:GTab w0:=hw0 ▸ hG
 refine zA5 [.tmp 2] func73 ntmps73 (by decide) Z Z (nb Z) ?_
 intro R hR
 replace h0:R 0 = .int .i64 p0:=(hR 0 _ Z).trans h0
 refine HT.su d j (eF (.rep eStr A ([]:List UInt8))::[]) ?_ ?_
 exact op (fun Q U W H D=>zA0 ⟨_,Z,⟨_,Z,Z,by decide⟩⟩)<|oz
 intro R w m n p d j
 replace h0:=k1 n h0
 obtain ⟨x1,q2,c⟩:=zA4 c
 refine HT.su d j (eI p0::eF (.rep eStr A x1)::eF (.rep eStr A x1)::[]) ?_ ?_
 exact om h0<|op (fun Q U W H D=>zAC call105 (zL4 (q2 Z) (d.fr W.size) (hG0.fr (j.trans W)) (D.g 0 Z)))<|op (fun Q U W H D=>zA0 (D.g 0 Z))<|oz
 intro R w m n p d j
 obtain ⟨u3,h2,f_u3⟩:∃ u,R 2=u∧Rep eStr A w u x1:=⟨_,Z,p 2 _ _ Z Z Z⟩
 refine HT.ret ?_
 obtain rfl:=si c
 exact ⟨.inr Z,[R 2],⟨Z,N⟩,(f_u3.eq h2),j⟩
def zCt (fu:Nat) (p0:List UInt8):Option (Int × Bool):=
 cl true (zKv fu p0) fun x1=>
 cl (true&&(x1.2==false)) (zBa fu x1.1) fun x4=>
 bd (x1.2 || (!(x4==p0))) fun x6=>
 cl (true&&(x6==false)) (zBX fu x1.1 (-999999999) 999999999) fun x8=>
 bd (x6 || (!x8)) fun x10=>
 bif x10 then (
 some (0,false)
 ) else (
 some (x1.1,true)
 )
theorem zFs {fu : Nat} {A : Av} {p0 : List UInt8} {r : Int × Bool} (c : zCt fu p0 = some r) {w : World} {v0 : Value} (d : AvOK A w) (hG : GTab w) (h0 : Rep eStr A w v0 p0) :
 Calls prog 102 #[v0] w fun e w'=>∃ v,e = .returned v∧((∃ a b,v = .tuple #[a,b]∧a = .int .i64 r.1∧b = .bool r.2)∧Fr w w'):=by
 unfold zCt at c
 obtain ⟨w0,hw0,j⟩:=pf w
 rw [fw hw0]
 have hG0:GTab w0:=hw0 ▸ hG
 refine zA5 [.tmp 2,.tmp 3] func102 ntmps102 (by decide) Z Z (nb Z) ?_
 intro R hR
 have f_v0:=h0
 replace h0:R 0=v0:=hR 0 _ Z
 refine HT.su d j (eI 0::eB false::[]) ?_ ?_
 exact op (fun Q U W H D=>zA0 Z)<|op (fun Q U W H D=>zA0 Z)<|oz
 intro R w m n p d j
 replace h0:=k1 n h0
 replace f_v0:=f_v0.fr m
 obtain ⟨x1,q2,c⟩:=zA4 c
 refine HT.su d j (eR v0::eF (.tup2 (.raw (.int .i64 x1.1)) (.rep eErr A x1.2))::eF (.tup2 (.raw (.int .i64 x1.1)) (.rep eErr A x1.2))::eI x1.1::eF (.rep eErr A x1.2)::eI x1.1::eF (.rep eErr A x1.2)::[]) ?_ ?_
 exact om h0<|op (fun Q U W H D=>zAC call132 (zKw (q2 Z) (d.fr W.size) (hG0.fr (j.trans W)) ((f_v0.fr W).eq (D.g 0 Z))))<|op (fun Q U W H D=>zBl (D.g 0 Z))<|op (fun Q U W H D=>zEh (D.g 0 Z))<|op (fun Q U W H D=>zEY (D.g 0 Z))<|oa<|op (fun Q U W H D=>zA0 (D.g 0 Z))<|oz
 intro R w m n p d j
 replace h0:=k1 n h0
 have h4:=p.r 5 Z
 obtain ⟨u3,h5,f_u3⟩:∃ u,R 5=u∧Rep eErr A w u x1.2:=⟨_,Z,p 6 _ _ Z Z Z⟩
 replace f_v0:=f_v0.fr m
 refine HT.seq ?_
 refine HT.seq ?_
 obtain ⟨x4,q5,c⟩:=zA4 c
 obtain ⟨x6,q7,c⟩:=zAV c
 obtain ⟨x8,q9,c⟩:=zA4 c
 obtain ⟨x10,q11,c⟩:=zAV c
 refine HT.u d j (eR u3::eB x1.2::eB x1.2::gI (true&&(x1.2==false)) x1.1::gF (true&&(x1.2==false)) (.rep eStr A x4)::gR (true&&(x1.2==false)) v0::gB (true&&(x1.2==false)) (!(x4==p0))::eB x6::eB x6::gI (true&&(x6==false)) x1.1::gB (true&&(x6==false)) x8::gB (true&&(x6==false)) (!x8)::eB x10::[]) ?_ ?_
 exact om h5<|op (fun Q U W H D=>zJy ((f_u3.fr W).eq (D.g 0 Z)) (by kernel_rfl))<|ov<|gm 2 false h4<|og 2 false (fun G Q U W H D=>zAC call73 (zDJ (q5 G) (d.fr W.size) (hG0.fr (j.trans W)) (D.h 0 G Z)))<|gm 2 false h0<|og 2 false (fun G Q U W H D=>zF3 (D.h 0 G Z) ((f_v0.fr W).eq (D.h 1 G Z)))<|op (fun Q U W H D=>zAd x1.2 (D.g 0 Z) (fun hc=>by show _=Value.bool x6;rw [q7,hc];exact Z) (fun hc=>by have a2:Q 17 = .bool (!(x4==p0)):=D 1 _ _ _ Z Z Z Z (zC0 Z (zB2 hc));show _=Value.bool x6;rw [q7,hc];exact a2))<|ov<|gm 8 false h4<|og 8 false (fun G Q U W H D=>zAC call89 (zCD (q9 G) (d.fr W.size) (D.h 0 G Z) Z Z))<|og 8 false (fun G Q U W H D=>zCx (D.h 0 G Z))<|op (fun Q U W H D=>zAd x6 (D.g 0 Z) (fun hc=>by show _=Value.bool x10;rw [q11,hc];exact Z) (fun hc=>by have a2:Q 22 = .bool (!x8):=D 1 _ _ _ Z Z Z Z (zC0 Z (zB2 hc));show _=Value.bool x10;rw [q11,hc];exact a2))<|oz
 intro R w m n p d j
 replace h4:=k1 n h4
 have h23:=p.r 12 Z
 refine HT.cond x10 h23 (fun c12=>?_) (fun c12=>?_)
 have c:=zAH c12 c
 refine HT.su d j (eI 0::eB false::[]) ?_ ?_
 exact op (fun Q U W H D=>zA0 Z)<|op (fun Q U W H D=>zA0 Z)<|oz
 intro R w m n p d j
 have h2:=p.r 0 Z
 have h3:=p.r 1 Z
 refine HT.ret ?_
 obtain rfl:=si c
 exact ⟨.inr Z,[R 2,R 3],⟨Z,⟨Z,N⟩⟩,⟨_,_,Z,h2,h3⟩,j⟩
 have c:=zAI c12 c
 refine HT.skip ?_
 refine HT.su d j (eI x1.1::eI x1.1::eB true::[]) ?_ ?_
 exact om h4<|oa<|op (fun Q U W H D=>zA0 Z)<|oz
 intro R w m n p d j
 have h2:=p.r 1 Z
 have h3:=p.r 2 Z
 refine HT.ret ?_
 obtain rfl:=si c
 exact ⟨.inr Z,[R 2,R 3],⟨Z,⟨Z,N⟩⟩,⟨_,_,Z,h2,h3⟩,j⟩
def zBb (fu:Nat) (p0:List UInt8):Option Int:=
 cl true (zCt fu p0) fun x1=>
 cl (true&&(x1.2==true)) (zBX fu x1.1 1000 9999) fun x3=>
 bd (x1.2&&x3) fun x5=>
 bif x5 then (
 some x1.1
 ) else (
 some 0
 )
theorem zE7 {fu : Nat} {A : Av} {p0 : List UInt8} {r : Int} (c : zBb fu p0 = some r) {w : World} {v0 : Value} (d : AvOK A w) (hG : GTab w) (h0 : Rep eStr A w v0 p0) :
 Calls prog 71 #[v0] w fun e w'=>∃ v,e = .returned v∧(v = .int .i64 r∧Fr w w'):=by
 unfold zBb at c
 obtain ⟨w0,hw0,j⟩:=pf w
 rw [fw hw0]
 have hG0:GTab w0:=hw0 ▸ hG
 refine zA5 [.tmp 2] func71 ntmps71 (by decide) Z Z (nb Z) ?_
 intro R hR
 have f_v0:=h0
 replace h0:R 0=v0:=hR 0 _ Z
 refine HT.su d j (eI 0::[]) ?_ ?_
 exact op (fun Q U W H D=>zA0 Z)<|oz
 intro R w m n p d j
 replace h0:=k1 n h0
 replace f_v0:=f_v0.fr m
 refine HT.seq ?_
 obtain ⟨x1,q2,c⟩:=zA4 c
 refine HT.su d j (eR v0::eF (.tup2 (.raw (.int .i64 x1.1)) (.raw (.bool x1.2)))::eF (.tup2 (.raw (.int .i64 x1.1)) (.raw (.bool x1.2)))::eI x1.1::eB x1.2::eI x1.1::eB x1.2::[]) ?_ ?_
 exact om h0<|op (fun Q U W H D=>zAC call102 (zFs (q2 Z) (d.fr W.size) (hG0.fr (j.trans W)) ((f_v0.fr W).eq (D.g 0 Z))))<|op (fun Q U W H D=>zBl (D.g 0 Z))<|op (fun Q U W H D=>zEh (D.g 0 Z))<|op (fun Q U W H D=>zEY (D.g 0 Z))<|oa<|oa<|oz
 intro R w m n p d j
 have h3:=p.r 5 Z
 have h4:=p.r 6 Z
 refine HT.seq ?_
 obtain ⟨x3,q4,c⟩:=zA4 c
 obtain ⟨x5,q6,c⟩:=zAV c
 refine HT.u d j (eB x1.2::eB x1.2::gI (true&&(x1.2==true)) x1.1::gB (true&&(x1.2==true)) x3::eB x5::[]) ?_ ?_
 exact om h4<|ov<|gm 1 true h3<|og 1 true (fun G Q U W H D=>zAC call89 (zCD (q4 G) (d.fr W.size) (D.h 0 G Z) Z Z))<|op (fun Q U W H D=>zAd x1.2 (D.g 0 Z) (fun hc=>by have a1:Q 13 = .bool x3:=D 1 _ _ _ Z Z Z Z (zC0 Z (zB2 hc));show _=Value.bool x5;rw [q6,hc];exact a1) (fun hc=>by show _=Value.bool x5;rw [q6,hc];exact Z))<|oz
 intro R w m n p d j
 replace h3:=k1 n h3
 have h14:=p.r 4 Z
 refine HT.cond x5 h14 (fun c7=>?_) (fun c7=>?_)
 have c:=zAH c7 c
 refine HT.su d j (eI x1.1::eI x1.1::[]) ?_ ?_
 exact om h3<|oa<|oz
 intro R w m n p d j
 have h2:=p.r 1 Z
 refine HT.ret ?_
 obtain rfl:=si c
 exact ⟨.inr Z,[R 2],⟨Z,N⟩,h2,j⟩
 have c:=zAI c7 c
 refine HT.skip ?_
 refine HT.su d j (eI 0::[]) ?_ ?_
 exact op (fun Q U W H D=>zA0 Z)<|oz
 intro R w m n p d j
 have h2:=p.r 0 Z
 refine HT.ret ?_
 obtain rfl:=si c
 exact ⟨.inr Z,[R 2],⟨Z,N⟩,h2,j⟩
def zBO (fu : Nat) (x4 : List (List UInt8)) : Nat → Int → (List (List UInt8)) → Option (List (List UInt8))
 | 0,_,_=>none
 | k+1,y10,y11=>
 bif (decide (y10<(x4.length:Int))) then (
 ck (inR y10 x4.length) <|
 ck (zBD (([115]:List UInt8)++(gtD x4 y10)).length) <|
 ck (zBD (y11.length+([(([115]:List UInt8)++(gtD x4 y10))]:List (List UInt8)).length)) <|
 ck (i64B (y10+1)) <|
 zBO fu x4 k (y10+1) (y11++([(([115]:List UInt8)++(gtD x4 y10))]:List (List UInt8)))
 ) else (
 some y11
 )
def zB8 (fu : Nat) (x33 : Int) (x37 : List (List UInt8)) : Nat → Int → (List (List UInt8)) → Option (List (List UInt8))
 | 0,_,_=>none
 | k+1,y43,y44=>
 bif (decide (y43<(x37.length:Int))) then (
 ck (inR y43 x37.length) <|
 cl true (zBa fu x33) fun x48=>
 ck (zBD (([121]:List UInt8)++x48).length) <|
 ck (subR 0 1 (gtD x37 y43).length) <|
 ck (zBD ((([121]:List UInt8)++x48)++(subL (gtD x37 y43) 0 1)).length) <|
 ck (zBD (y44.length+([((([121]:List UInt8)++x48)++(subL (gtD x37 y43) 0 1))]:List (List UInt8)).length)) <|
 ck (i64B (y43+1)) <|
 zB8 fu x33 x37 k (y43+1) (y44++([((([121]:List UInt8)++x48)++(subL (gtD x37 y43) 0 1))]:List (List UInt8)))
 ) else (
 some y44
 )
def zBA (fu : Nat) (x66 : Int) (x70 : List (List UInt8)) : Nat → Int → (List (List UInt8)) → Option (List (List UInt8))
 | 0,_,_=>none
 | k+1,y76,y77=>
 bif (decide (y76<(x70.length:Int))) then (
 ck (inR y76 x70.length) <|
 cl true (zBa fu x66) fun x81=>
 ck (zBD (([121]:List UInt8)++x81).length) <|
 ck (subR 0 1 (gtD x70 y76).length) <|
 ck (zBD ((([121]:List UInt8)++x81)++(subL (gtD x70 y76) 0 1)).length) <|
 ck (zBD (y77.length+([((([121]:List UInt8)++x81)++(subL (gtD x70 y76) 0 1))]:List (List UInt8)).length)) <|
 ck (i64B (y76+1)) <|
 zBA fu x66 x70 k (y76+1) (y77++([((([121]:List UInt8)++x81)++(subL (gtD x70 y76) 0 1))]:List (List UInt8)))
 ) else (
 some y77
 )
def zBx (fu:Nat) (p0:zA2):Option (List (List UInt8)):=
 ck (inR 0 p0.2.2.2.length) <|
 cl true (zCB fu (gtD p0.2.2.2 0)) fun x4=>
 cl true (zBO fu x4 fu 0 ([]:List (List UInt8))) fun s9=>
 ck (inR 3 p0.2.2.2.length) <|
 cl true (zCq fu (gtD p0.2.2.2 3)) fun x21=>
 bif (decide (4≤(x21.length:Int))) then (
 ck (i64B ((x21.length:Int)-4)) <|
 ck (subR ((x21.length:Int)-4) (x21.length:Int) x21.length) <|
 ck (zBD (([112]:List UInt8)++(subL x21 ((x21.length:Int)-4) (x21.length:Int))).length) <|
 ck (zBD (s9.length+([(([112]:List UInt8)++(subL x21 ((x21.length:Int)-4) (x21.length:Int)))]:List (List UInt8)).length)) <|
 ck (inR 2 p0.2.2.2.length) <|
 cl true (zBb fu (gtD p0.2.2.2 2)) fun x33=>
 bif (decide (0<x33)) then (
 ck (inR 0 p0.2.2.2.length) <|
 cl true (zCG fu (gtD p0.2.2.2 0)) fun x37=>
 cl true (zB8 fu x33 x37 fu 0 (s9++([(([112]:List UInt8)++(subL x21 ((x21.length:Int)-4) (x21.length:Int)))]:List (List UInt8)))) fun s42=>
 cl true (zAr fu s42) fun x56=>
 some x56
 ) else (
 cl true (zAr fu (s9++([(([112]:List UInt8)++(subL x21 ((x21.length:Int)-4) (x21.length:Int)))]:List (List UInt8)))) fun x60=>
 some x60
 )
 ) else (
 ck (inR 2 p0.2.2.2.length) <|
 cl true (zBb fu (gtD p0.2.2.2 2)) fun x66=>
 bif (decide (0<x66)) then (
 ck (inR 0 p0.2.2.2.length) <|
 cl true (zCG fu (gtD p0.2.2.2 0)) fun x70=>
 cl true (zBA fu x66 x70 fu 0 s9) fun s75=>
 cl true (zAr fu s75) fun x89=>
 some x89
 ) else (
 cl true (zAr fu s9) fun x93=>
 some x93
 )
 )
theorem zFm {fu : Nat} {A0 : Av} {p0 : zA2} {r : List (List UInt8)} (c : zBx fu p0 = some r) {w : World} {v0 : Value} (d : AvOK A0 w) (hG : GTab w) (h0 : Rep zA1 A0 w v0 p0) :
 Calls prog 41 #[v0] w fun e w'=>∃ v,e = .returned v∧((Res.vec w.heap.size 9 eStr r).ok (addA A0 v) v w'∧Fr w w'):=by
 unfold zBx at c
 obtain ⟨w0,hw0,j,C⟩:=pw d
 have hA00:AvOK A0 w0:=C
 rw [fh hw0]
 rw [fw hw0]
 have hG0:GTab w0:=hw0 ▸ hG
 obtain ⟨A,hAe,B,d,q⟩:=pa d
 refine zA5 [.tmp 2] func41 ntmps41 (by decide) Z Z (nb Z) ?_
 intro R hR
 have f_v0:Rep zA1 A w v0 p0:=hAe ▸ h0
 replace h0:R 0=v0:=hR 0 _ Z
 refine HT.sx [] (⟨_,true,[],some (.box w0.heap.size 51 zA1 p0),true,fun A=>.any⟩::rA::[]) (ua (ua (UAll.nil))) q d ?_ ?_
 exact rc (OblR.made _ Z Z Z Z fun V Q U O D=>by have a0:Q 0=v0:=(O.old 0 Z).trans h0;have ra0:=(f_v0.stp O.stp).eq a0;exact zE2 ra0 (Nat.le_trans j.size O.ch.size))<|rp (fun V Q U O D=>zA0 N)<|rz
 intro done ρ σ A R w y s
 obtain ⟨b1_0,e_b1_0⟩:=s.boxv y 0 Z Z
 have h1:=s.ov y 0 0 e_b1_0
 obtain ⟨B,j,d⟩:=s.s B C j q N
 replace q:=s.left y [(0,ob (.pointer (some ⟨b1_0,0,none⟩)) (.box w0.heap.size 51 zA1 p0))] ⟨Z,Z,e_b1_0,Z,Z,N⟩
 refine HT.su d j (eR (.slice none 0 0)::[]) ?_ ?_
 exact op (fun Q U W H D=>zA0 Z)<|oz
 intro R w m n p d j
 replace h1:=k1 n h1
 obtain ⟨u2,n_u2⟩:∃ u,u=Value.slice none 0 0:=⟨_,Z⟩
 have h3:R 3=u2:=(p 0 _ _ Z Z Z).trans n_u2.symm
 replace q:=q.fr m
 replace q:=q.nilcons (u:=u2) n_u2 w0.heap.size 9 eStr
 refine HT.seq ?_
 obtain ⟨e3,c⟩:=zA3 c
 obtain ⟨x4,q5,c⟩:=zA4 c
 refine HT.su d j (eR (.pointer (some ⟨b1_0,3,none⟩))::eF (.rep (eSl eStr) A p0.2.2.2)::eF (.qtr eStr A (gtD p0.2.2.2 0))::eF (.rep eStr A (gtD p0.2.2.2 0))::eF (.rep (eSl eStr) A x4)::eI (x4.length:Int)::eI 0::[]) ?_ ?_
 exact op (fun Q U W H D=>zA7 ((H 1 Z).trans h1) zCO sizeOf34 (by decide) Z)<|op (fun Q U W H D=>(zAF ((q.fr W).ok 1 _ Z).1 (D.g 0 Z) zAJ Z isAgg34 sizeOf34))<|op (fun Q U W H D=>zAB (D.g 0 Z) Z underlying34 sizeOf9 e3)<|op (fun Q U W H D=>(zAe (QRep.ptr (D.g 0 Z)) isAgg9 sizeOf9))<|op (fun Q U W H D=>zAC call69 (zFJ (q5 Z) (d.fr W.size) (hG0.fr (j.trans W)) (D.g 0 Z)))<|op (fun Q U W H D=>zAN (aT:=#[]) (D.g 0 Z) underlying34)<|op (fun Q U W H D=>zBl Z)<|oz
 intro R w m n p d j
 obtain ⟨h1,h3⟩:=k2 n h1 h3
 obtain ⟨u6,h14,f_u6⟩:∃ u,R 14=u∧Rep (eSl eStr) A w u x4:=⟨_,Z,p 4 _ _ Z Z Z⟩
 have h15:=p.r 5 Z
 have h16:=p.r 6 Z
 replace q:=q.fr m
 obtain ⟨rl7,q8,c⟩:=zA4 c
 replace q8:=q8 Z
 refine HT.cut0 (fun R w=>∃ A:Av,∃ (s9:(List (List UInt8))) (uo_u2:Value),rl7=s9∧AvOK A w∧Fr w0 w∧(∀ b o,A0 b o→A b o)∧IniOK [ob uo_u2 (.vec w0.heap.size 9 eStr s9),ob (.pointer (some ⟨b1_0,0,none⟩)) (.box w0.heap.size 51 zA1 p0)] A w∧R 1=(.pointer (some ⟨b1_0,0,none⟩))∧R 3=uo_u2) ?_ ?_
 refine HT.block ?_
 refine HT.loop (fun k R w=>∃ A:Av,∃ (y10:Int) (y11:List (List UInt8)) (ul_u2:Value),zBO fu x4 k y10 y11=some rl7∧AvOK A w∧Fr w0 w∧(∀ b o,A0 b o→A b o)∧IniOK [ob ul_u2 (.vec w0.heap.size 9 eStr y11),ob (.pointer (some ⟨b1_0,0,none⟩)) (.box w0.heap.size 51 zA1 p0)] A w∧R 1=(.pointer (some ⟨b1_0,0,none⟩))∧R 3=ul_u2∧R 14=u6∧R 15 = .int .i64 (x4.length:Int)∧R 16 = .int .i64 y10∧Rep (eSl eStr) A w u6 x4) fu ⟨_,_,_,u2,q8,d,j,B,q,h1,h3,h14,h15,h16,f_u6⟩ ?_
 have hr0:=c;clear c q8
 rintro k R w ⟨A,y10,y11,ul_u2,c,d,j,B,q,h1,h3,h14,h15,h16,f_u6⟩
 rcases k with _ | k
 cases (show none=some _ from c)
 rw [zBO] at c
 refine HT.su d j (eB (decide (y10<(x4.length:Int)))::[]) ?_ ?_
 exact op (fun Q U W H D=>zAk ((H 16 Z).trans h16) ((H 15 Z).trans h15))<|oz
 intro R w m n p d j
 obtain ⟨h1,h3,h14,h15,h16⟩:=k5 n h1 h3 h14 h15 h16
 have h17:=p.r 0 Z
 replace f_u6:=f_u6.fr m
 replace q:=q.fr m
 refine HT.seq ?_
 refine HT.cond (decide (y10<(x4.length:Int))) h17 (fun c12=>?_) (fun c12=>?_)
 have c:=zAH c12 c
 refine HT.skip ?_
 refine HT.seq ?_
 refine HT.block ?_
 obtain ⟨e13,c⟩:=zA3 c
 refine HT.su d j (eF (.qtr eStr A (gtD x4 y10))::eF (.rep eStr A (gtD x4 y10))::eF (.rep eStr A (gtD x4 y10))::[]) ?_ ?_
 exact op (fun Q U W H D=>zAB ((f_u6.fr W).eq ((H 14 Z).trans h14)) ((H 16 Z).trans h16) underlying34 sizeOf9 e13)<|op (fun Q U W H D=>(zAe (QRep.ptr (D.g 0 Z)) isAgg9 sizeOf9))<|op (fun Q U W H D=>zA0 (D.g 0 Z))<|oz
 intro R w m n p d j
 obtain ⟨h1,h3,h14,h15,h16⟩:=k5 n h1 h3 h14 h15 h16
 obtain ⟨u14,h5,f_u14⟩:∃ u,R 5=u∧Rep eStr A w u (gtD x4 y10):=⟨_,Z,p 2 _ _ Z Z Z⟩
 replace f_u6:=f_u6.fr m
 replace q:=q.fr m
 obtain ⟨e15,e16,c⟩:=ck2 c
 refine HT.x [ob ul_u2 (.vec w0.heap.size 9 eStr y11),ob (.pointer (some ⟨b1_0,0,none⟩)) (.box w0.heap.size 51 zA1 p0)] (rR ul_u2::rR u14::(rF fun A=>.rep eStr A (([115]:List UInt8)++(gtD x4 y10)))::(rF fun A=>.rep (eSl eStr) A ([(([115]:List UInt8)++(gtD x4 y10))]:List (List UInt8)))::⟨_,true,[0],some (.vec w0.heap.size 9 eStr (y11++([(([115]:List UInt8)++(gtD x4 y10))]:List (List UInt8)))),true,fun A=>.any⟩::⟨_,true,[6],some (.vec w0.heap.size 9 eStr (y11++([(([115]:List UInt8)++(gtD x4 y10))]:List (List UInt8)))),true,fun A=>.any⟩::[]) (ur (ur (up (up (ua (ua (UAll.nil))))))) q d ?_ ?_
 exact rm h3<|rm h5<|rp (fun V Q U O D=>zDy ⟨_,Z,⟨_,Z,Z,by decide⟩⟩ ((f_u14.stp O.stp).eq (D.g 0 Z)) e15)<|rp (fun V Q U O D=>zB3 [_] (E:=eStr) ⟨(D.g 0 Z),N⟩ underlying34 sizeOf9 zeroValue9 Z Z Z O.av)<|rc (OblR.took 0 _ _ Z Z Z Z Z fun V Q U O D u X Y J L M=>by have a0:Q 20=ul_u2:=D.g 0 Z;have a1:Rep (eSl eStr) V U (Q 23) ([(([115]:List UInt8)++(gtD x4 y10))]:List (List UInt8)):=D.g 1 Z;exact zAW (a0.trans (J _ Z).symm) X Y (Nat.le_trans j.size O.ch.size) a1 underlying34 el_9 e16)<|rc (OblR.took 6 _ _ Z Z Z Z Z fun V Q U O D u X Y J L M=>by exact zA8 (L _ _ Z Z Z Z).symm X Y)<|rz
 intro done ρ σ A R w y s
 obtain ⟨h1,h14,h15,h16⟩:=k4 s.rg h1 h14 h15 h16
 obtain ⟨u17,e_u17⟩:∃ u,ρ 7=u:=⟨_,Z⟩
 have h3:=s.ov y 7 5 e_u17
 have z18:=s.inivR 1 Z
 replace f_u6:=f_u6.stp s.stp
 obtain ⟨B,j,d⟩:=s.s B C j q ⟨Z,⟨Z,N⟩⟩
 replace q:=s.left y [(7,ob u17 (.vec w0.heap.size 9 eStr (y11++([(([115]:List UInt8)++(gtD x4 y10))]:List (List UInt8))))),(1,ob (.pointer (some ⟨b1_0,0,none⟩)) (.box w0.heap.size 51 zA1 p0))] ⟨Z,Z,e_u17,Z,Z,⟨Z,Z,z18,Z,Z,N⟩⟩
 obtain ⟨e19,c⟩:=zA3 c
 refine HT.u d j (eI (y10+1)::eI (y10+1)::[]) ?_ ?_
 exact op (fun Q U W H D=>zAU ((H 16 Z).trans h16) Z e19)<|ov<|oz
 intro R w m n p d j
 obtain ⟨h1,h3,h14,h15⟩:=k4 n h1 h3 h14 h15
 have h16:=p.r 1 Z
 replace f_u6:=f_u6.fr m
 replace q:=q.fr m
 exact ei k (And.intro (Nat.lt_succ_self k) ⟨_,_,_,u17,c,d,j,B,q,h1,h3,h14,h15,h16,f_u6⟩)
 have c:=zAI c12 c
 refine HT.exit ?_
 obtain rfl:=si c
 exact ei _ ⟨_,ul_u2,Z,d,j,B,q,h1,h3⟩
 rintro R w ⟨A,s9,uo_u2,es,d,j,B,q,h1,h3⟩
 obtain rfl:=es.symm
 refine HT.seq ?_
 obtain ⟨e20,c⟩:=zA3 c
 obtain ⟨x21,q22,c⟩:=zA4 c
 refine HT.su d j (eR (.pointer (some ⟨b1_0,3,none⟩))::eF (.rep (eSl eStr) A p0.2.2.2)::eF (.qtr eStr A (gtD p0.2.2.2 3))::eF (.rep eStr A (gtD p0.2.2.2 3))::eF (.rep eStr A x21)::eF (.rep eStr A x21)::[]) ?_ ?_
 exact op (fun Q U W H D=>zA7 ((H 1 Z).trans h1) zCO sizeOf34 (by decide) Z)<|op (fun Q U W H D=>(zAF ((q.fr W).ok 1 _ Z).1 (D.g 0 Z) zAJ Z isAgg34 sizeOf34))<|op (fun Q U W H D=>zAB (D.g 0 Z) Z underlying34 sizeOf9 e20)<|op (fun Q U W H D=>(zAe (QRep.ptr (D.g 0 Z)) isAgg9 sizeOf9))<|op (fun Q U W H D=>zAC call70 (zFv (q22 Z) (d.fr W.size) (D.g 0 Z)))<|op (fun Q U W H D=>zA0 (D.g 0 Z))<|oz
 intro R w m n p d j
 obtain ⟨h1,h3⟩:=k2 n h1 h3
 obtain ⟨u23,h6,f_u23⟩:∃ u,R 6=u∧Rep eStr A w u x21:=⟨_,Z,p 5 _ _ Z Z Z⟩
 replace q:=q.fr m
 refine HT.su d j (eR u23::eI (x21.length:Int)::eB (decide (4≤(x21.length:Int)))::[]) ?_ ?_
 exact om h6<|op (fun Q U W H D=>zAZ ((f_u23.fr W).eq (D.g 0 Z)) underlying9)<|op (fun Q U W H D=>zDR (D.g 0 Z) Z)<|oz
 intro R w m n p d j
 obtain ⟨h1,h3,h6⟩:=k3 n h1 h3 h6
 have h33:=p.r 2 Z
 replace f_u23:=f_u23.fr m
 replace q:=q.fr m
 refine HT.cond (decide (4≤(x21.length:Int))) h33 (fun c24=>?_) (fun c24=>?_)
 have c:=zAH c24 c
 obtain ⟨e25,e26,e27,e28,c⟩:=ck4 c
 refine HT.x [ob uo_u2 (.vec w0.heap.size 9 eStr s9),ob (.pointer (some ⟨b1_0,0,none⟩)) (.box w0.heap.size 51 zA1 p0)] (rR uo_u2::rR u23::rR u23::rI (x21.length:Int)::rI ((x21.length:Int)-4)::(rF fun A=>.rep eStr A (subL x21 ((x21.length:Int)-4) (x21.length:Int)))::(rF fun A=>.rep eStr A (([112]:List UInt8)++(subL x21 ((x21.length:Int)-4) (x21.length:Int))))::(rF fun A=>.rep (eSl eStr) A ([(([112]:List UInt8)++(subL x21 ((x21.length:Int)-4) (x21.length:Int)))]:List (List UInt8)))::⟨_,true,[0],some (.vec w0.heap.size 9 eStr (s9++([(([112]:List UInt8)++(subL x21 ((x21.length:Int)-4) (x21.length:Int)))]:List (List UInt8)))),true,fun A=>.any⟩::⟨_,true,[10],some (.vec w0.heap.size 9 eStr (s9++([(([112]:List UInt8)++(subL x21 ((x21.length:Int)-4) (x21.length:Int)))]:List (List UInt8)))),true,fun A=>.any⟩::[]) (ur (ur (ur (ur (ur (up (up (up (ua (ua (UAll.nil))))))))))) q d ?_ ?_
 exact rm h3<|rm h6<|rm h6<|rp (fun V Q U O D=>zAZ ((f_u23.stp O.stp).eq (D.g 0 Z)) underlying9)<|rp (fun V Q U O D=>zF1 (D.g 0 Z) Z e25)<|rp (fun V Q U O D=>zDf ((f_u23.stp O.stp).eq (D.g 0 Z)) (D.g 1 Z) underlying9  e26)<|rp (fun V Q U O D=>zDy ⟨_,Z,⟨_,Z,Z,by decide⟩⟩ (D.g 0 Z) e27)<|rp (fun V Q U O D=>zB3 [_] (E:=eStr) ⟨(D.g 0 Z),N⟩ underlying34 sizeOf9 zeroValue9 Z Z Z O.av)<|rc (OblR.took 0 _ _ Z Z Z Z Z fun V Q U O D u X Y J L M=>by have a0:Q 34=uo_u2:=D.g 0 Z;have a1:Rep (eSl eStr) V U (Q 41) ([(([112]:List UInt8)++(subL x21 ((x21.length:Int)-4) (x21.length:Int)))]:List (List UInt8)):=D.g 1 Z;exact zAW (a0.trans (J _ Z).symm) X Y (Nat.le_trans j.size O.ch.size) a1 underlying34 el_9 e28)<|rc (OblR.took 10 _ _ Z Z Z Z Z fun V Q U O D u X Y J L M=>by exact zA8 (L _ _ Z Z Z Z).symm X Y)<|rz
 intro done ρ σ A R w y s
 replace h1:=k1 s.rg h1
 obtain ⟨u29,e_u29⟩:∃ u,ρ 11=u:=⟨_,Z⟩
 have h3:=s.ov y 11 9 e_u29
 have z30:=s.inivR 1 Z
 obtain ⟨B,j,d⟩:=s.s B C j q ⟨Z,⟨Z,N⟩⟩
 replace q:=s.left y [(11,ob u29 (.vec w0.heap.size 9 eStr (s9++([(([112]:List UInt8)++(subL x21 ((x21.length:Int)-4) (x21.length:Int)))]:List (List UInt8))))),(1,ob (.pointer (some ⟨b1_0,0,none⟩)) (.box w0.heap.size 51 zA1 p0))] ⟨Z,Z,e_u29,Z,Z,⟨Z,Z,z30,Z,Z,N⟩⟩
 obtain ⟨Yg30,g_Yg30⟩:∃ z:List (List UInt8),z=(s9++([(([112]:List UInt8)++(subL x21 ((x21.length:Int)-4) (x21.length:Int)))]:List (List UInt8))):=⟨_,Z⟩
 rw [← g_Yg30] at q
 try rw [← g_Yg30] at c
 refine HT.seq ?_
 obtain ⟨e32,c⟩:=zA3 c
 obtain ⟨x33,q34,c⟩:=zA4 c
 refine HT.su d j (eR (.pointer (some ⟨b1_0,3,none⟩))::eF (.rep (eSl eStr) A p0.2.2.2)::eF (.qtr eStr A (gtD p0.2.2.2 2))::eF (.rep eStr A (gtD p0.2.2.2 2))::eI x33::eI x33::[]) ?_ ?_
 exact op (fun Q U W H D=>zA7 ((H 1 Z).trans h1) zCO sizeOf34 (by decide) Z)<|op (fun Q U W H D=>(zAF ((q.fr W).ok 1 _ Z).1 (D.g 0 Z) zAJ Z isAgg34 sizeOf34))<|op (fun Q U W H D=>zAB (D.g 0 Z) Z underlying34 sizeOf9 e32)<|op (fun Q U W H D=>(zAe (QRep.ptr (D.g 0 Z)) isAgg9 sizeOf9))<|op (fun Q U W H D=>zAC call71 (zE7 (q34 Z) (d.fr W.size) (hG0.fr (j.trans W)) (D.g 0 Z)))<|oa<|oz
 intro R w m n p d j
 obtain ⟨h1,h3⟩:=k2 n h1 h3
 have h7:=p.r 5 Z
 replace q:=q.fr m
 refine HT.su d j (eI x33::eB (decide (0<x33))::[]) ?_ ?_
 exact om h7<|op (fun Q U W H D=>zEA (D.g 0 Z) Z)<|oz
 intro R w m n p d j
 obtain ⟨h1,h3,h7⟩:=k3 n h1 h3 h7
 have h49:=p.r 1 Z
 replace q:=q.fr m
 refine HT.cond (decide (0<x33)) h49 (fun c35=>?_) (fun c35=>?_)
 have c:=zAH c35 c
 obtain ⟨e36,c⟩:=zA3 c
 obtain ⟨x37,q38,c⟩:=zA4 c
 refine HT.su d j (eR (.pointer (some ⟨b1_0,3,none⟩))::eF (.rep (eSl eStr) A p0.2.2.2)::eF (.qtr eStr A (gtD p0.2.2.2 0))::eF (.rep eStr A (gtD p0.2.2.2 0))::eF (.rep (eSl eStr) A x37)::eI (x37.length:Int)::eI 0::[]) ?_ ?_
 exact op (fun Q U W H D=>zA7 ((H 1 Z).trans h1) zCO sizeOf34 (by decide) Z)<|op (fun Q U W H D=>(zAF ((q.fr W).ok 1 _ Z).1 (D.g 0 Z) zAJ Z isAgg34 sizeOf34))<|op (fun Q U W H D=>zAB (D.g 0 Z) Z underlying34 sizeOf9 e36)<|op (fun Q U W H D=>(zAe (QRep.ptr (D.g 0 Z)) isAgg9 sizeOf9))<|op (fun Q U W H D=>zAC call72 (zDh (q38 Z) (d.fr W.size) (hG0.fr (j.trans W)) (D.g 0 Z)))<|op (fun Q U W H D=>zAN (aT:=#[]) (D.g 0 Z) underlying34)<|op (fun Q U W H D=>zBl Z)<|oz
 intro R w m n p d j
 obtain ⟨h3,h7⟩:=k2 n h3 h7
 obtain ⟨u39,h54,f_u39⟩:∃ u,R 54=u∧Rep (eSl eStr) A w u x37:=⟨_,Z,p 4 _ _ Z Z Z⟩
 have h55:=p.r 5 Z
 have h56:=p.r 6 Z
 replace q:=q.fr m
 replace q:IniOK [ob u29 (.vec w0.heap.size 9 eStr Yg30)] A w:=q.sub [(0,ob u29 (.vec w0.heap.size 9 eStr Yg30))] ⟨Z,Z,N⟩
 obtain ⟨rl40,q41,c⟩:=zA4 c
 replace q41:=q41 Z
 refine HT.cut0 (fun R w=>∃ A:Av,∃ (s42:(List (List UInt8))) (uo_u29:Value),rl40=s42∧AvOK A w∧Fr w0 w∧(∀ b o,A0 b o→A b o)∧IniOK [ob uo_u29 (.vec w0.heap.size 9 eStr s42)] A w∧R 3=uo_u29) ?_ ?_
 refine HT.block ?_
 refine HT.loop (fun k R w=>∃ A:Av,∃ (y43:Int) (y44:List (List UInt8)) (ul_u29:Value),zB8 fu x33 x37 k y43 y44=some rl40∧AvOK A w∧Fr w0 w∧(∀ b o,A0 b o→A b o)∧IniOK [ob ul_u29 (.vec w0.heap.size 9 eStr y44)] A w∧R 3=ul_u29∧R 7 = .int .i64 x33∧R 54=u39∧R 55 = .int .i64 (x37.length:Int)∧R 56 = .int .i64 y43∧Rep (eSl eStr) A w u39 x37) fu ⟨_,_,_,u29,q41,d,j,B,q,h3,h7,h54,h55,h56,f_u39⟩ ?_
 have hr0:=c;clear c q41
 rintro k R w ⟨A,y43,y44,ul_u29,c,d,j,B,q,h3,h7,h54,h55,h56,f_u39⟩
 rcases k with _ | k
 cases (show none=some _ from c)
 rw [zB8] at c
 refine HT.su d j (eB (decide (y43<(x37.length:Int)))::[]) ?_ ?_
 exact op (fun Q U W H D=>zAk ((H 56 Z).trans h56) ((H 55 Z).trans h55))<|oz
 intro R w m n p d j
 obtain ⟨h3,h7,h54,h55,h56⟩:=k5 n h3 h7 h54 h55 h56
 have h57:=p.r 0 Z
 replace f_u39:=f_u39.fr m
 replace q:=q.fr m
 refine HT.seq ?_
 refine HT.cond (decide (y43<(x37.length:Int))) h57 (fun c45=>?_) (fun c45=>?_)
 have c:=zAH c45 c
 refine HT.skip ?_
 refine HT.seq ?_
 refine HT.block ?_
 obtain ⟨e46,c⟩:=zA3 c
 refine HT.su d j (eF (.qtr eStr A (gtD x37 y43))::eF (.rep eStr A (gtD x37 y43))::eF (.rep eStr A (gtD x37 y43))::[]) ?_ ?_
 exact op (fun Q U W H D=>zAB ((f_u39.fr W).eq ((H 54 Z).trans h54)) ((H 56 Z).trans h56) underlying34 sizeOf9 e46)<|op (fun Q U W H D=>(zAe (QRep.ptr (D.g 0 Z)) isAgg9 sizeOf9))<|op (fun Q U W H D=>zA0 (D.g 0 Z))<|oz
 intro R w m n p d j
 obtain ⟨h3,h7,h54,h55,h56⟩:=k5 n h3 h7 h54 h55 h56
 obtain ⟨u47,h9,f_u47⟩:∃ u,R 9=u∧Rep eStr A w u (gtD x37 y43):=⟨_,Z,p 2 _ _ Z Z Z⟩
 replace f_u39:=f_u39.fr m
 replace q:=q.fr m
 obtain ⟨x48,q49,c⟩:=zA4 c
 obtain ⟨e50,e51,e52,e53,c⟩:=ck4 c
 refine HT.drawR [ob ul_u29 (.vec w0.heap.size 9 eStr y44)] (rR ul_u29::rI x33::(rF fun A=>.rep eStr A x48)::(rF fun A=>.rep eStr A (([121]:List UInt8)++x48))::rR u47::(rF fun A=>.rep eStr A (subL (gtD x37 y43) 0 1))::(rF fun A=>.rep eStr A ((([121]:List UInt8)++x48)++(subL (gtD x37 y43) 0 1)))::(rF fun A=>.rep (eSl eStr) A ([((([121]:List UInt8)++x48)++(subL (gtD x37 y43) 0 1))]:List (List UInt8)))::⟨_,true,[0],some (.vec w0.heap.size 9 eStr (y44++([((([121]:List UInt8)++x48)++(subL (gtD x37 y43) 0 1))]:List (List UInt8)))),true,fun A=>.any⟩::⟨_,true,[9],some (.vec w0.heap.size 9 eStr (y44++([((([121]:List UInt8)++x48)++(subL (gtD x37 y43) 0 1))]:List (List UInt8)))),true,fun A=>.any⟩::[]) (by kernel_rfl) (by kernel_rfl) (by kernel_rfl) (Wf.mk' (by kernel_rfl) (ur (ur (up (up (ur (up (up (up (ua (ua (UAll.nil))))))))))) (by kernel_rfl) (by kernel_rfl)) q d ?_ ?_
 exact rm h3<|rm h7<|rp (fun V Q U O D=>zAC call73 (zDJ (q49 Z) O.av (hG0.fr (j.tr O.ch (q.ge (⟨Z,N⟩)))) (D.g 0 Z)))<|rp (fun V Q U O D=>zDy ⟨_,Z,⟨_,Z,Z,by decide⟩⟩ (D.g 0 Z) e50)<|rm h9<|rp (fun V Q U O D=>zBp ((f_u47.stp O.stp).eq (D.g 0 Z)) Z underlying9  e51)<|rp (fun V Q U O D=>zDy (D.g 0 Z) (D.g 1 Z) e52)<|rp (fun V Q U O D=>zB3 [_] (E:=eStr) ⟨(D.g 0 Z),N⟩ underlying34 sizeOf9 zeroValue9 Z Z Z O.av)<|rc (OblR.took 0 _ _ Z Z Z Z Z fun V Q U O D u X Y J L M=>by have a0:Q 60=ul_u29:=D.g 0 Z;have a1:Rep (eSl eStr) V U (Q 67) ([((([121]:List UInt8)++x48)++(subL (gtD x37 y43) 0 1))]:List (List UInt8)):=D.g 1 Z;exact zAW (a0.trans (J _ Z).symm) X Y (Nat.le_trans j.size O.ch.size) a1 underlying34 el_9 e53)<|rc (OblR.took 9 _ _ Z Z Z Z Z fun V Q U O D u X Y J L M=>by exact zA8 (L _ _ Z Z Z Z).symm X Y)<|rz
 intro done ρ σ A R w y s
 obtain ⟨h7,h54,h55,h56⟩:=k4 s.rg h7 h54 h55 h56
 obtain ⟨u54,e_u54⟩:∃ u,ρ 10=u:=⟨_,Z⟩
 have h3:=s.ov y 10 9 e_u54
 replace f_u39:=f_u39.stp s.stp
 obtain ⟨B,j,d⟩:=s.s B C j q ⟨Z,N⟩
 replace q:=s.left y [(10,ob u54 (.vec w0.heap.size 9 eStr (y44++([((([121]:List UInt8)++x48)++(subL (gtD x37 y43) 0 1))]:List (List UInt8)))))] ⟨Z,Z,e_u54,Z,Z,N⟩
 obtain ⟨e55,c⟩:=zA3 c
 refine HT.u d j (eI (y43+1)::eI (y43+1)::[]) ?_ ?_
 exact op (fun Q U W H D=>zAU ((H 56 Z).trans h56) Z e55)<|ov<|oz
 intro R w m n p d j
 obtain ⟨h3,h7,h54,h55⟩:=k4 n h3 h7 h54 h55
 have h56:=p.r 1 Z
 replace f_u39:=f_u39.fr m
 replace q:=q.fr m
 exact ei k (And.intro (Nat.lt_succ_self k) ⟨_,_,_,u54,c,d,j,B,q,h3,h7,h54,h55,h56,f_u39⟩)
 have c:=zAI c45 c
 refine HT.exit ?_
 obtain rfl:=si c
 exact ei _ ⟨_,ul_u29,Z,d,j,B,q,h3⟩
 rintro R w ⟨A,s42,uo_u29,es,d,j,B,q,h3⟩
 obtain rfl:=es.symm
 obtain ⟨x56,q57,c⟩:=zA4 c
 refine HT.sx [ob uo_u29 (.vec w0.heap.size 9 eStr s42)] (rR uo_u29::⟨_,true,[],some (.vec w0.heap.size 9 eStr x56),true,fun A=>.any⟩::⟨_,true,[2],some (.vec w0.heap.size 9 eStr x56),true,fun A=>.any⟩::[]) (ur (ua (ua (UAll.nil)))) q d ?_ ?_
 exact rm h3<|rc (OblR.made _ Z Z Z Z fun V Q U O D=>by have a0:Q 70=uo_u29:=D.g 0 Z;have ra0:=(zC5 (O.rd 0 _ Z Z) (O.low' B C (q.ge (⟨Z,N⟩))) C).eq a0;exact zE4 call42 (zBT (q57 Z) (hA00.fr ((Nat.le_trans j.size O.ch.size))) ra0) (Nat.le_trans j.size O.ch.size) (O.low' B C (q.ge (⟨Z,N⟩))) (fun _ _ _ _ _ h=>h))<|rc (OblR.took 2 _ _ Z Z Z Z Z fun V Q U O D u X Y J L M=>by exact zA8 (L _ _ Z Z Z Z).symm X Y)<|rz
 intro done ρ σ A R w y s
 have z58:=s.inivR 0 Z
 obtain ⟨u59,e_u59⟩:∃ u,ρ 3=u:=⟨_,Z⟩
 have h2:=s.ov y 3 2 e_u59
 obtain ⟨B,j,d⟩:=s.s B C j q ⟨Z,N⟩
 replace q:=s.left y [(3,ob u59 (.vec w0.heap.size 9 eStr x56))] ⟨Z,Z,e_u59,Z,Z,N⟩
 refine HT.ret ?_
 obtain rfl:=si c
 exact ⟨.inr Z,[R 2],⟨Z,N⟩,(zC4 (q.ok 0 _ Z) B h2),j⟩
 have c:=zAI c35 c
 refine HT.skip ?_
 obtain ⟨x60,q61,c⟩:=zA4 c
 refine HT.sx [ob u29 (.vec w0.heap.size 9 eStr Yg30),ob (.pointer (some ⟨b1_0,0,none⟩)) (.box w0.heap.size 51 zA1 p0)] (rR u29::⟨_,true,[],some (.vec w0.heap.size 9 eStr x60),true,fun A=>.any⟩::⟨_,true,[3],some (.vec w0.heap.size 9 eStr x60),true,fun A=>.any⟩::[]) (ur (ua (ua (UAll.nil)))) q d ?_ ?_
 exact rm h3<|rc (OblR.made _ Z Z Z Z fun V Q U O D=>by have a0:Q 70=u29:=D.g 0 Z;have ra0:=(zC5 (O.rd 0 _ Z Z) (O.low' B C (q.ge (⟨Z,⟨Z,N⟩⟩))) C).eq a0;exact zE4 call42 (zBT (q61 Z) (hA00.fr ((Nat.le_trans j.size O.ch.size))) ra0) (Nat.le_trans j.size O.ch.size) (O.low' B C (q.ge (⟨Z,⟨Z,N⟩⟩))) (fun _ _ _ _ _ h=>h))<|rc (OblR.took 3 _ _ Z Z Z Z Z fun V Q U O D u X Y J L M=>by exact zA8 (L _ _ Z Z Z Z).symm X Y)<|rz
 intro done ρ σ A R w y s
 have z62:=s.inivR 0 Z
 have z63:=s.inivR 1 Z
 obtain ⟨u64,e_u64⟩:∃ u,ρ 4=u:=⟨_,Z⟩
 have h2:=s.ov y 4 2 e_u64
 obtain ⟨B,j,d⟩:=s.s B C j q ⟨Z,⟨Z,N⟩⟩
 replace q:=s.left y [(4,ob u64 (.vec w0.heap.size 9 eStr x60))] ⟨Z,Z,e_u64,Z,Z,N⟩
 refine HT.ret ?_
 obtain rfl:=si c
 exact ⟨.inr Z,[R 2],⟨Z,N⟩,(zC4 (q.ok 0 _ Z) B h2),j⟩
 have c:=zAI c24 c
 refine HT.skip ?_
 refine HT.seq ?_
 obtain ⟨e65,c⟩:=zA3 c
 obtain ⟨x66,q67,c⟩:=zA4 c
 refine HT.su d j (eR (.pointer (some ⟨b1_0,3,none⟩))::eF (.rep (eSl eStr) A p0.2.2.2)::eF (.qtr eStr A (gtD p0.2.2.2 2))::eF (.rep eStr A (gtD p0.2.2.2 2))::eI x66::eI x66::[]) ?_ ?_
 exact op (fun Q U W H D=>zA7 ((H 1 Z).trans h1) zCO sizeOf34 (by decide) Z)<|op (fun Q U W H D=>(zAF ((q.fr W).ok 1 _ Z).1 (D.g 0 Z) zAJ Z isAgg34 sizeOf34))<|op (fun Q U W H D=>zAB (D.g 0 Z) Z underlying34 sizeOf9 e65)<|op (fun Q U W H D=>(zAe (QRep.ptr (D.g 0 Z)) isAgg9 sizeOf9))<|op (fun Q U W H D=>zAC call71 (zE7 (q67 Z) (d.fr W.size) (hG0.fr (j.trans W)) (D.g 0 Z)))<|oa<|oz
 intro R w m n p d j
 obtain ⟨h1,h3⟩:=k2 n h1 h3
 have h7:=p.r 5 Z
 replace q:=q.fr m
 refine HT.su d j (eI x66::eB (decide (0<x66))::[]) ?_ ?_
 exact om h7<|op (fun Q U W H D=>zEA (D.g 0 Z) Z)<|oz
 intro R w m n p d j
 obtain ⟨h1,h3,h7⟩:=k3 n h1 h3 h7
 have h49:=p.r 1 Z
 replace q:=q.fr m
 refine HT.cond (decide (0<x66)) h49 (fun c68=>?_) (fun c68=>?_)
 have c:=zAH c68 c
 obtain ⟨e69,c⟩:=zA3 c
 obtain ⟨x70,q71,c⟩:=zA4 c
 refine HT.su d j (eR (.pointer (some ⟨b1_0,3,none⟩))::eF (.rep (eSl eStr) A p0.2.2.2)::eF (.qtr eStr A (gtD p0.2.2.2 0))::eF (.rep eStr A (gtD p0.2.2.2 0))::eF (.rep (eSl eStr) A x70)::eI (x70.length:Int)::eI 0::[]) ?_ ?_
 exact op (fun Q U W H D=>zA7 ((H 1 Z).trans h1) zCO sizeOf34 (by decide) Z)<|op (fun Q U W H D=>(zAF ((q.fr W).ok 1 _ Z).1 (D.g 0 Z) zAJ Z isAgg34 sizeOf34))<|op (fun Q U W H D=>zAB (D.g 0 Z) Z underlying34 sizeOf9 e69)<|op (fun Q U W H D=>(zAe (QRep.ptr (D.g 0 Z)) isAgg9 sizeOf9))<|op (fun Q U W H D=>zAC call72 (zDh (q71 Z) (d.fr W.size) (hG0.fr (j.trans W)) (D.g 0 Z)))<|op (fun Q U W H D=>zAN (aT:=#[]) (D.g 0 Z) underlying34)<|op (fun Q U W H D=>zBl Z)<|oz
 intro R w m n p d j
 obtain ⟨h3,h7⟩:=k2 n h3 h7
 obtain ⟨u72,h54,f_u72⟩:∃ u,R 54=u∧Rep (eSl eStr) A w u x70:=⟨_,Z,p 4 _ _ Z Z Z⟩
 have h55:=p.r 5 Z
 have h56:=p.r 6 Z
 replace q:=q.fr m
 replace q:IniOK [ob uo_u2 (.vec w0.heap.size 9 eStr s9)] A w:=q.sub [(0,ob uo_u2 (.vec w0.heap.size 9 eStr s9))] ⟨Z,Z,N⟩
 obtain ⟨rl73,q74,c⟩:=zA4 c
 replace q74:=q74 Z
 refine HT.cut0 (fun R w=>∃ A:Av,∃ (s75:(List (List UInt8))) (uo_uo_u2:Value),rl73=s75∧AvOK A w∧Fr w0 w∧(∀ b o,A0 b o→A b o)∧IniOK [ob uo_uo_u2 (.vec w0.heap.size 9 eStr s75)] A w∧R 3=uo_uo_u2) ?_ ?_
 refine HT.block ?_
 refine HT.loop (fun k R w=>∃ A:Av,∃ (y76:Int) (y77:List (List UInt8)) (ul_uo_u2:Value),zBA fu x66 x70 k y76 y77=some rl73∧AvOK A w∧Fr w0 w∧(∀ b o,A0 b o→A b o)∧IniOK [ob ul_uo_u2 (.vec w0.heap.size 9 eStr y77)] A w∧R 3=ul_uo_u2∧R 7 = .int .i64 x66∧R 54=u72∧R 55 = .int .i64 (x70.length:Int)∧R 56 = .int .i64 y76∧Rep (eSl eStr) A w u72 x70) fu ⟨_,_,_,uo_u2,q74,d,j,B,q,h3,h7,h54,h55,h56,f_u72⟩ ?_
 have hr0:=c;clear c q74
 rintro k R w ⟨A,y76,y77,ul_uo_u2,c,d,j,B,q,h3,h7,h54,h55,h56,f_u72⟩
 rcases k with _ | k
 cases (show none=some _ from c)
 rw [zBA] at c
 refine HT.su d j (eB (decide (y76<(x70.length:Int)))::[]) ?_ ?_
 exact op (fun Q U W H D=>zAk ((H 56 Z).trans h56) ((H 55 Z).trans h55))<|oz
 intro R w m n p d j
 obtain ⟨h3,h7,h54,h55,h56⟩:=k5 n h3 h7 h54 h55 h56
 have h57:=p.r 0 Z
 replace f_u72:=f_u72.fr m
 replace q:=q.fr m
 refine HT.seq ?_
 refine HT.cond (decide (y76<(x70.length:Int))) h57 (fun c78=>?_) (fun c78=>?_)
 have c:=zAH c78 c
 refine HT.skip ?_
 refine HT.seq ?_
 refine HT.block ?_
 obtain ⟨e79,c⟩:=zA3 c
 refine HT.su d j (eF (.qtr eStr A (gtD x70 y76))::eF (.rep eStr A (gtD x70 y76))::eF (.rep eStr A (gtD x70 y76))::[]) ?_ ?_
 exact op (fun Q U W H D=>zAB ((f_u72.fr W).eq ((H 54 Z).trans h54)) ((H 56 Z).trans h56) underlying34 sizeOf9 e79)<|op (fun Q U W H D=>(zAe (QRep.ptr (D.g 0 Z)) isAgg9 sizeOf9))<|op (fun Q U W H D=>zA0 (D.g 0 Z))<|oz
 intro R w m n p d j
 obtain ⟨h3,h7,h54,h55,h56⟩:=k5 n h3 h7 h54 h55 h56
 obtain ⟨u80,h9,f_u80⟩:∃ u,R 9=u∧Rep eStr A w u (gtD x70 y76):=⟨_,Z,p 2 _ _ Z Z Z⟩
 replace f_u72:=f_u72.fr m
 replace q:=q.fr m
 obtain ⟨x81,q82,c⟩:=zA4 c
 obtain ⟨e83,e84,e85,e86,c⟩:=ck4 c
 refine HT.drawR [ob ul_uo_u2 (.vec w0.heap.size 9 eStr y77)] (rR ul_uo_u2::rI x66::(rF fun A=>.rep eStr A x81)::(rF fun A=>.rep eStr A (([121]:List UInt8)++x81))::rR u80::(rF fun A=>.rep eStr A (subL (gtD x70 y76) 0 1))::(rF fun A=>.rep eStr A ((([121]:List UInt8)++x81)++(subL (gtD x70 y76) 0 1)))::(rF fun A=>.rep (eSl eStr) A ([((([121]:List UInt8)++x81)++(subL (gtD x70 y76) 0 1))]:List (List UInt8)))::⟨_,true,[0],some (.vec w0.heap.size 9 eStr (y77++([((([121]:List UInt8)++x81)++(subL (gtD x70 y76) 0 1))]:List (List UInt8)))),true,fun A=>.any⟩::⟨_,true,[9],some (.vec w0.heap.size 9 eStr (y77++([((([121]:List UInt8)++x81)++(subL (gtD x70 y76) 0 1))]:List (List UInt8)))),true,fun A=>.any⟩::[]) (by kernel_rfl) (by kernel_rfl) (by kernel_rfl) (Wf.mk' (by kernel_rfl) (ur (ur (up (up (ur (up (up (up (ua (ua (UAll.nil))))))))))) (by kernel_rfl) (by kernel_rfl)) q d ?_ ?_
 exact rm h3<|rm h7<|rp (fun V Q U O D=>zAC call73 (zDJ (q82 Z) O.av (hG0.fr (j.tr O.ch (q.ge (⟨Z,N⟩)))) (D.g 0 Z)))<|rp (fun V Q U O D=>zDy ⟨_,Z,⟨_,Z,Z,by decide⟩⟩ (D.g 0 Z) e83)<|rm h9<|rp (fun V Q U O D=>zBp ((f_u80.stp O.stp).eq (D.g 0 Z)) Z underlying9  e84)<|rp (fun V Q U O D=>zDy (D.g 0 Z) (D.g 1 Z) e85)<|rp (fun V Q U O D=>zB3 [_] (E:=eStr) ⟨(D.g 0 Z),N⟩ underlying34 sizeOf9 zeroValue9 Z Z Z O.av)<|rc (OblR.took 0 _ _ Z Z Z Z Z fun V Q U O D u X Y J L M=>by have a0:Q 60=ul_uo_u2:=D.g 0 Z;have a1:Rep (eSl eStr) V U (Q 67) ([((([121]:List UInt8)++x81)++(subL (gtD x70 y76) 0 1))]:List (List UInt8)):=D.g 1 Z;exact zAW (a0.trans (J _ Z).symm) X Y (Nat.le_trans j.size O.ch.size) a1 underlying34 el_9 e86)<|rc (OblR.took 9 _ _ Z Z Z Z Z fun V Q U O D u X Y J L M=>by exact zA8 (L _ _ Z Z Z Z).symm X Y)<|rz
 intro done ρ σ A R w y s
 obtain ⟨h7,h54,h55,h56⟩:=k4 s.rg h7 h54 h55 h56
 obtain ⟨u87,e_u87⟩:∃ u,ρ 10=u:=⟨_,Z⟩
 have h3:=s.ov y 10 9 e_u87
 replace f_u72:=f_u72.stp s.stp
 obtain ⟨B,j,d⟩:=s.s B C j q ⟨Z,N⟩
 replace q:=s.left y [(10,ob u87 (.vec w0.heap.size 9 eStr (y77++([((([121]:List UInt8)++x81)++(subL (gtD x70 y76) 0 1))]:List (List UInt8)))))] ⟨Z,Z,e_u87,Z,Z,N⟩
 obtain ⟨e88,c⟩:=zA3 c
 refine HT.u d j (eI (y76+1)::eI (y76+1)::[]) ?_ ?_
 exact op (fun Q U W H D=>zAU ((H 56 Z).trans h56) Z e88)<|ov<|oz
 intro R w m n p d j
 obtain ⟨h3,h7,h54,h55⟩:=k4 n h3 h7 h54 h55
 have h56:=p.r 1 Z
 replace f_u72:=f_u72.fr m
 replace q:=q.fr m
 exact ei k (And.intro (Nat.lt_succ_self k) ⟨_,_,_,u87,c,d,j,B,q,h3,h7,h54,h55,h56,f_u72⟩)
 have c:=zAI c78 c
 refine HT.exit ?_
 obtain rfl:=si c
 exact ei _ ⟨_,ul_uo_u2,Z,d,j,B,q,h3⟩
 rintro R w ⟨A,s75,uo_uo_u2,es,d,j,B,q,h3⟩
 obtain rfl:=es.symm
 obtain ⟨x89,q90,c⟩:=zA4 c
 refine HT.sx [ob uo_uo_u2 (.vec w0.heap.size 9 eStr s75)] (rR uo_uo_u2::⟨_,true,[],some (.vec w0.heap.size 9 eStr x89),true,fun A=>.any⟩::⟨_,true,[2],some (.vec w0.heap.size 9 eStr x89),true,fun A=>.any⟩::[]) (ur (ua (ua (UAll.nil)))) q d ?_ ?_
 exact rm h3<|rc (OblR.made _ Z Z Z Z fun V Q U O D=>by have a0:Q 70=uo_uo_u2:=D.g 0 Z;have ra0:=(zC5 (O.rd 0 _ Z Z) (O.low' B C (q.ge (⟨Z,N⟩))) C).eq a0;exact zE4 call42 (zBT (q90 Z) (hA00.fr ((Nat.le_trans j.size O.ch.size))) ra0) (Nat.le_trans j.size O.ch.size) (O.low' B C (q.ge (⟨Z,N⟩))) (fun _ _ _ _ _ h=>h))<|rc (OblR.took 2 _ _ Z Z Z Z Z fun V Q U O D u X Y J L M=>by exact zA8 (L _ _ Z Z Z Z).symm X Y)<|rz
 intro done ρ σ A R w y s
 have z91:=s.inivR 0 Z
 obtain ⟨u92,e_u92⟩:∃ u,ρ 3=u:=⟨_,Z⟩
 have h2:=s.ov y 3 2 e_u92
 obtain ⟨B,j,d⟩:=s.s B C j q ⟨Z,N⟩
 replace q:=s.left y [(3,ob u92 (.vec w0.heap.size 9 eStr x89))] ⟨Z,Z,e_u92,Z,Z,N⟩
 refine HT.ret ?_
 obtain rfl:=si c
 exact ⟨.inr Z,[R 2],⟨Z,N⟩,(zC4 (q.ok 0 _ Z) B h2),j⟩
 have c:=zAI c68 c
 refine HT.skip ?_
 obtain ⟨x93,q94,c⟩:=zA4 c
 refine HT.sx [ob uo_u2 (.vec w0.heap.size 9 eStr s9),ob (.pointer (some ⟨b1_0,0,none⟩)) (.box w0.heap.size 51 zA1 p0)] (rR uo_u2::⟨_,true,[],some (.vec w0.heap.size 9 eStr x93),true,fun A=>.any⟩::⟨_,true,[3],some (.vec w0.heap.size 9 eStr x93),true,fun A=>.any⟩::[]) (ur (ua (ua (UAll.nil)))) q d ?_ ?_
 exact rm h3<|rc (OblR.made _ Z Z Z Z fun V Q U O D=>by have a0:Q 70=uo_u2:=D.g 0 Z;have ra0:=(zC5 (O.rd 0 _ Z Z) (O.low' B C (q.ge (⟨Z,⟨Z,N⟩⟩))) C).eq a0;exact zE4 call42 (zBT (q94 Z) (hA00.fr ((Nat.le_trans j.size O.ch.size))) ra0) (Nat.le_trans j.size O.ch.size) (O.low' B C (q.ge (⟨Z,⟨Z,N⟩⟩))) (fun _ _ _ _ _ h=>h))<|rc (OblR.took 3 _ _ Z Z Z Z Z fun V Q U O D u X Y J L M=>by exact zA8 (L _ _ Z Z Z Z).symm X Y)<|rz
 intro done ρ σ A R w y s
 have z95:=s.inivR 0 Z
 have z96:=s.inivR 1 Z
 obtain ⟨u97,e_u97⟩:∃ u,ρ 4=u:=⟨_,Z⟩
 have h2:=s.ov y 4 2 e_u97
 obtain ⟨B,j,d⟩:=s.s B C j q ⟨Z,⟨Z,N⟩⟩
 replace q:=s.left y [(4,ob u97 (.vec w0.heap.size 9 eStr x93))] ⟨Z,Z,e_u97,Z,Z,N⟩
 refine HT.ret ?_
 obtain rfl:=si c
 exact ⟨.inr Z,[R 2],⟨Z,N⟩,(zC4 (q.ok 0 _ Z) B h2),j⟩
theorem zFH {fu : Nat} {A0 : Av} {p0 : zA2} {r : List (List UInt8)} (c : zBx fu p0 = some r) {w : World} {v0 : Value} (d : AvOK A0 w) (hG : GTab w) (h0 : Rep zA1 A0 w v0 p0) :
 Calls prog 41 #[v0] w fun e w'=>∃ v,e = .returned v∧(Rep (eSl eStr) A0 w' v r∧Fr w w'):=by
 refine Calls.mono (zFm c d hG h0) ?_
 rintro e w' ⟨v,he,hv,hf⟩
 exact ⟨v,he,zC5 hv (fun b o h=>.inl h) d,hf⟩
def zAX (fu : Nat) (y14 : Int) (x23 : List (List UInt8)) : Nat → Int → (List (List UInt8)) → (MpT Int) → Option ((List (List UInt8)) × (MpT Int))
 | 0,_,_,_=>none
 | k+1,y29,y30,y31=>
 bif (decide (y29<(x23.length:Int))) then (
 ck (inR y29 x23.length) <|
 ck (zBD (y30.length+([(gtD x23 y29)]:List (List UInt8)).length)) <|
 ck (decide ((gtD x23 y29) ∉ y31.2.1)) <|
 ck (zBD ((y31.1 (gtD x23 y29)).length+([y14]:List Int).length)) <|
 ck (decide (y31.2.2<maxLen)) <|
 ck (i64B (y29+1)) <|
 zAX fu y14 x23 k (y29+1) (y30++([(gtD x23 y29)]:List (List UInt8))) ((fun s'=>if s'=(gtD x23 y29) then ((y31.1 (gtD x23 y29))++([y14]:List Int)) else y31.1 s'),y31.2.1,y31.2.2+1)
 ) else (
 some (y30,y31)
 )
def zAT (fu : Nat) (p0 : List zA2) : Nat → Int → (List (List UInt8)) → (MpT Int) → Option ((List (List UInt8)) × (MpT Int))
 | 0,_,_,_=>none
 | k+1,y14,y15,y16=>
 bif (decide (y14<(p0.length:Int))) then (
 ck (inR y14 p0.length) <|
 cl true (zBx fu (gtD p0 y14)) fun x23=>
 cl true (zAX fu y14 x23 fu 0 y15 y16) fun s28=>
 ck (i64B (y14+1)) <|
 zAT fu p0 k (y14+1) s28.1 s28.2
 ) else (
 some (y15,y16)
 )
def zAR (fu : Nat) (x55 : List (List UInt8)) : Nat → Int → (MpT Int) → (List zAA) → Option (List zAA)
 | 0,_,_,_=>none
 | k+1,y67,y68,y69=>
 bif (decide (y67<(x55.length:Int))) then (
 ck (inR y67 x55.length) <|
 ck (decide ((gtD x55 y67) ∉ y68.2.1)) <|
 ck (zBD (y69.length+1)) <|
 ck (i64B (y67+1)) <|
 zAR fu x55 k (y67+1) (y68.1,(gtD x55 y67)::y68.2.1,y68.2.2) (y69 ++ [((gtD x55 y67),(y68.1 (gtD x55 y67)))])
 ) else (
 some y69
 )
def zBt (fu:Nat) (p0:List zA2):Option (List zAA):=
 cl (true&&((decide (12<(p0.length:Int)))==false)) (zCT fu p0) fun x1=>
 bd ((decide (12<(p0.length:Int))) || (!x1)) fun x3=>
 bif x3 then (
 some ([]:List zAA)
 ) else (
 cl true (zAT fu p0 fu 0 ([]:List (List UInt8)) ((fun _=>[]:List UInt8→List Int),([]:List (List UInt8)),(0:Nat))) fun s13=>
 cl true (zAr fu s13.1) fun x55=>
 cl true (zAR fu x55 fu 0 s13.2 ([]:List zAA)) fun s66=>
 some s66
 )
set_option linter.unusedSimpArgs false in
theorem zEy {fu : Nat} {A0 : Av} {p0 : List zA2} {r : List zAA} (c : zBt fu p0 = some r) {w : World} {v0 : Value} (d : AvOK A0 w) (hG : GTab w) (h0 : Rep (eSl zA1) A0 w v0 p0) :
 Calls prog 11 #[v0] w fun e w'=>∃ v,e = .returned v∧(zDv A0 (trR (geB w.heap.size) (oSl 54 (oPr (oRd eStr) (oSl 3 (oRd (eInt .i64))))) r []) (fun _=>.any) w v w'):=by
 unfold zBt at c
 obtain ⟨w0,hw0,j,C⟩:=pw d
 have hA00:AvOK A0 w0:=C
 rw [show zDv A0 (trR (geB w.heap.size) (oSl 54 (oPr (oRd eStr) (oSl 3 (oRd (eInt .i64))))) r []) (fun _=>.any) w=zDv A0 (trR (geB w0.heap.size) (oSl 54 (oPr (oRd eStr) (oSl 3 (oRd (eInt .i64))))) r []) (fun _=>.any) w0 from hw0 ▸ Z]
 have hG0:GTab w0:=hw0 ▸ hG
 obtain ⟨A,hAe,B,d,q⟩:=pa d
 refine zA5 [.tmp 2] func11 ntmps11 (by decide) Z Z (nb Z) ?_
 intro R hR
 have f_v0:Rep (eSl zA1) A w v0 p0:=hAe ▸ h0
 replace h0:R 0=v0:=hR 0 _ Z
 refine HT.su d j (eA::[]) ?_ ?_
 exact op (fun Q U W H D=>zA0 N)<|oz
 intro R w m n p d j
 replace h0:=k1 n h0
 replace f_v0:=f_v0.fr m
 replace q:=q.fr m
 refine HT.seq ?_
 refine HT.seq ?_
 obtain ⟨x1,q2,c⟩:=zA4 c
 obtain ⟨x3,q4,c⟩:=zAV c
 refine HT.u d j (eR v0::eI (p0.length:Int)::eB (decide (12<(p0.length:Int)))::eB (decide (12<(p0.length:Int)))::gR (true&&((decide (12<(p0.length:Int)))==false)) v0::gB (true&&((decide (12<(p0.length:Int)))==false)) x1::gB (true&&((decide (12<(p0.length:Int)))==false)) (!x1)::eB x3::[]) ?_ ?_
 exact om h0<|op (fun Q U W H D=>zAN (aT:=#[]) ((f_v0.fr W).eq (D.g 0 Z)) underlying26)<|op (fun Q U W H D=>zEA (D.g 0 Z) Z)<|ov<|gm 3 false h0<|og 3 false (fun G Q U W H D=>zAC call40 (zFL (q2 G) (d.fr W.size) ((f_v0.fr W).eq (D.h 0 G Z))))<|og 3 false (fun G Q U W H D=>zCx (D.h 0 G Z))<|op (fun Q U W H D=>zAd (decide (12<(p0.length:Int))) (D.g 0 Z) (fun hc=>by show _=Value.bool x3;rw [q4,hc];exact Z) (fun hc=>by have a2:Q 18 = .bool (!x1):=D 1 _ _ _ Z Z Z Z (zC0 Z (zB2 hc));show _=Value.bool x3;rw [q4,hc];exact a2))<|oz
 intro R w m n p d j
 replace h0:=k1 n h0
 have h19:=p.r 7 Z
 replace f_v0:=f_v0.fr m
 replace q:=q.fr m
 refine HT.cond x3 h19 (fun c5=>?_) (fun c5=>?_)
 have c:=zAH c5 c
 refine HT.sx [] (⟨_,true,[],some (trR (geB w0.heap.size) (oSl 54 (oPr (oRd eStr) (oSl 3 (oRd (eInt .i64))))) ([]:List zAA) []),true,fun A=>.any⟩::[]) (ua (UAll.nil)) q d ?_ ?_
 exact rc (OblR.madeS _ Z Z Z Z fun V Q U O D=>by exact zIE Z)<|rz
 intro done ρ σ A R w y s
 obtain ⟨u6,e_u6⟩:∃ u,ρ 0=u:=⟨_,Z⟩
 have h2:=s.ov y 0 0 e_u6
 obtain ⟨S7,eS_u6⟩:∃ S,σ 0=S:=⟨_,Z⟩
 obtain ⟨B,j,d⟩:=s.s B C j q N
 replace q:=s.left y [(0,⟨u6,S7,trR (geB w0.heap.size) (oSl 54 (oPr (oRd eStr) (oSl 3 (oRd (eInt .i64))))) ([]:List zAA) []⟩)] ⟨Z,Z,e_u6,eS_u6,Z,N⟩
 refine HT.ret ?_
 obtain rfl:=si c
 exact ⟨.inr Z,[R 2],⟨Z,N⟩,zGy Z (q.own 0 _ Z) (q.ok 0 _ Z).2 B j h2 N⟩
 have c:=zAI c5 c
 refine HT.skip ?_
 refine HT.sx [] (⟨_,true,[],some (.gen (geB w0.heap.size) (mapX prog 9 w0.heap.size 3 (eInt .i64) ((fun _=>[]:List UInt8→List Int),([]:List (List UInt8)),(0:Nat)))),true,fun A=>.any⟩::⟨_,true,[0],some (.gen (geB w0.heap.size) (mapX prog 9 w0.heap.size 3 (eInt .i64) ((fun _=>[]:List UInt8→List Int),([]:List (List UInt8)),(0:Nat)))),true,fun A=>.any⟩::[]) (ua (ua (UAll.nil))) q d ?_ ?_
 exact rc (OblR.madeS _ Z Z Z Z fun V Q U O D=>by exact zLg (Nat.le_trans j.size O.ch.size) (fun k hk=>Nat.le_trans (Nat.le_trans j.size O.ch.size) hk))<|rc (OblR.tookS 0 _ _ Z Z Z Z Z fun V Q U O D u S X I Y J L M=>by exact zF2 (L _ _ Z Z Z Z).symm I.2 Y I.1)<|rz
 intro done ρ σ A R w y s
 replace h0:=k1 s.rg h0
 obtain ⟨u8,e_u8⟩:∃ u,ρ 1=u:=⟨_,Z⟩
 have h3:=s.ov y 1 1 e_u8
 obtain ⟨S9,eS_u8⟩:∃ S,σ 1=S:=⟨_,Z⟩
 replace f_v0:=f_v0.stp s.stp
 obtain ⟨B,j,d⟩:=s.s B C j q N
 replace q:=s.left y [(1,⟨u8,S9,.gen (geB w0.heap.size) (mapX prog 9 w0.heap.size 3 (eInt .i64) ((fun _=>[]:List UInt8→List Int),([]:List (List UInt8)),(0:Nat)))⟩)] ⟨Z,Z,e_u8,eS_u8,Z,N⟩
 refine HT.su d j (eR (.slice none 0 0)::[]) ?_ ?_
 exact op (fun Q U W H D=>zA0 Z)<|oz
 intro R w m n p d j
 obtain ⟨h0,h3⟩:=k2 n h0 h3
 obtain ⟨u10,n_u10⟩:∃ u,u=Value.slice none 0 0:=⟨_,Z⟩
 have h4:R 4=u10:=(p 0 _ _ Z Z Z).trans n_u10.symm
 replace f_v0:=f_v0.fr m
 replace q:=q.fr m
 replace q:=q.nilcons (u:=u10) n_u10 w0.heap.size 9 eStr
 refine HT.seq ?_
 refine HT.su d j (eR v0::eI (p0.length:Int)::eI 0::[]) ?_ ?_
 exact om h0<|op (fun Q U W H D=>zAN (aT:=#[]) ((f_v0.fr W).eq (D.g 0 Z)) underlying26)<|op (fun Q U W H D=>zBl Z)<|oz
 intro R w m n p d j
 obtain ⟨h3,h4⟩:=k2 n h3 h4
 have h21:=p.r 0 Z
 have h22:=p.r 1 Z
 have h23:=p.r 2 Z
 replace f_v0:=f_v0.fr m
 replace q:=q.fr m
 obtain ⟨rl11,q12,c⟩:=zA4 c
 replace q12:=q12 Z
 refine HT.cut0 (fun R w=>∃ A:Av,∃ (s13:(List (List UInt8)) × (MpT Int)) (uo_u10:Value) (So_u8:Nat→Prop),rl11=s13∧AvOK A w∧Fr w0 w∧(∀ b o,A0 b o→A b o)∧IniOK [ob uo_u10 (.vec w0.heap.size 9 eStr s13.1),⟨u8,So_u8,.gen (geB w0.heap.size) (mapX prog 9 w0.heap.size 3 (eInt .i64) s13.2)⟩] A w∧R 3=u8∧R 4=uo_u10) ?_ ?_
 refine HT.block ?_
 refine HT.loop (fun k R w=>∃ A:Av,∃ (y14:Int) (y15:List (List UInt8)) (y16:MpT Int) (ul_u10:Value) (Sl_u8:Nat→Prop),zAT fu p0 k y14 y15 y16=some rl11∧AvOK A w∧Fr w0 w∧(∀ b o,A0 b o→A b o)∧IniOK [ob ul_u10 (.vec w0.heap.size 9 eStr y15),⟨u8,Sl_u8,.gen (geB w0.heap.size) (mapX prog 9 w0.heap.size 3 (eInt .i64) y16)⟩] A w∧R 3=u8∧R 4=ul_u10∧R 21=v0∧R 22 = .int .i64 (p0.length:Int)∧R 23 = .int .i64 y14∧Rep (eSl zA1) A w v0 p0) fu ⟨_,_,_,_,u10,S9,q12,d,j,B,q,h3,h4,h21,h22,h23,f_v0⟩ ?_
 have hr0:=c;clear c q12
 rintro k R w ⟨A,y14,y15,y16,ul_u10,Sl_u8,c,d,j,B,q,h3,h4,h21,h22,h23,f_v0⟩
 rcases k with _ | k
 cases (show none=some _ from c)
 rw [zAT] at c
 refine HT.su d j (eB (decide (y14<(p0.length:Int)))::[]) ?_ ?_
 exact op (fun Q U W H D=>zAk ((H 23 Z).trans h23) ((H 22 Z).trans h22))<|oz
 intro R w m n p d j
 obtain ⟨h3,h4,h21,h22,h23⟩:=k5 n h3 h4 h21 h22 h23
 have h24:=p.r 0 Z
 replace f_v0:=f_v0.fr m
 replace q:=q.fr m
 refine HT.seq ?_
 refine HT.cond (decide (y14<(p0.length:Int))) h24 (fun c17=>?_) (fun c17=>?_)
 have c:=zAH c17 c
 refine HT.skip ?_
 refine HT.seq ?_
 refine HT.block ?_
 obtain ⟨e18,c⟩:=zA3 c
 refine HT.sx [ob ul_u10 (.vec w0.heap.size 9 eStr y15),⟨u8,Sl_u8,.gen (geB w0.heap.size) (mapX prog 9 w0.heap.size 3 (eInt .i64) y16)⟩] (rI y14::(rF fun A=>.qtr zA1 A (gtD p0 y14))::(rF fun A=>.rep zA1 A (gtD p0 y14))::⟨_,true,[],some (.box w0.heap.size 51 zA1 (0,(0,(0,([]:List (List UInt8)))))),true,fun A=>.any⟩::rI y14::⟨_,true,[5],some (.box w0.heap.size 51 zA1 (gtD p0 y14)),false,fun A=>.any⟩::[]) (ur (UAll.cons zEE (up (ua (ur (ua (UAll.nil))))))) q d ?_ ?_
 exact rm h23<|rp (fun V Q U O D=>zAB ((f_v0.stp O.stp).eq ((O.old 21 Z).trans h21)) ((O.old 23 Z).trans h23) underlying26 sizeOf51 e18)<|rp (fun V Q U O D=>(zAe (QRep.ptr (D.g 0 Z)) isAgg51 sizeOf51))<|rc (OblR.made _ Z Z Z Z fun V Q U O D=>by exact zHX zeroValue51 (fun A w=>zJc zDI (zJc zDI (zJc zDI zGZ))) (Nat.le_trans j.size O.ch.size))<|ra<|rc (OblR.took 5 _ _ Z Z Z Z Z fun V Q U O D u X Y J L M=>by have a1:Rep zA1 V U (Q 27) (gtD p0 y14):=D.g 1 Z;obtain ⟨b,hb,hB',hbx⟩:=X;have hop':=L _ _ Z Z Z Z;exact zHT a1 (hop'.symm.trans hb) hb ⟨b,hb,hB',hbx⟩ Y (FldS.id _) sizeOf51 Z)<|rz
 intro done ρ σ A R w y s
 obtain ⟨h3,h4,h21,h22,h23⟩:=k5 s.rg h3 h4 h21 h22 h23
 have z19:=s.inivR 0 Z
 have z20:=s.inivR 1 Z
 obtain ⟨b6_20,e_b6_20⟩:=s.boxv y 7 Z Z
 have z22:=(s.opnR y 7 5 Z Z Z Z Z).symm.trans e_b6_20
 have h6:=s.ov y 5 3 z22
 have eS_u8:=s.inisR 1 Z
 have h5:=s.r y 4 Z
 replace f_v0:=f_v0.stp s.stp
 obtain ⟨B,j,d⟩:=s.s B C j q ⟨Z,⟨fun _ h=>h,N⟩⟩
 replace q:=s.left y [(0,ob ul_u10 (.vec w0.heap.size 9 eStr y15)),(1,⟨u8,Sl_u8,.gen (geB w0.heap.size) (mapX prog 9 w0.heap.size 3 (eInt .i64) y16)⟩),(7,ob (.pointer (some ⟨b6_20,0,none⟩)) (.box w0.heap.size 51 zA1 (gtD p0 y14)))] ⟨Z,Z,z19,Z,Z,⟨Z,Z,z20,eS_u8,Z,⟨Z,Z,e_b6_20,Z,Z,N⟩⟩⟩
 obtain ⟨x23,q24,c⟩:=zA4 c
 refine HT.su d j (eF (.rep zA1 A (gtD p0 y14))::eF (.rep (eSl eStr) A x23)::eI (x23.length:Int)::eI 0::[]) ?_ ?_
 exact op (fun Q U W H D=>(zAF ((q.fr W).ok 2 _ Z).1 ((H 6 Z).trans h6) (Fld.id _) Z isAgg51 sizeOf51))<|op (fun Q U W H D=>zAC call41 (zFH (q24 Z) (d.fr W.size) (hG0.fr (j.trans W)) (D.g 0 Z)))<|op (fun Q U W H D=>zAN (aT:=#[]) (D.g 0 Z) underlying34)<|op (fun Q U W H D=>zBl Z)<|oz
 intro R w m n p d j
 obtain ⟨h3,h4,h5,h21,h22,h23⟩:=k6 n h3 h4 h5 h21 h22 h23
 obtain ⟨u25,h29,f_u25⟩:∃ u,R 29=u∧Rep (eSl eStr) A w u x23:=⟨_,Z,p 1 _ _ Z Z Z⟩
 have h30:=p.r 2 Z
 have h31:=p.r 3 Z
 replace f_v0:=f_v0.fr m
 replace q:=q.fr m
 replace q:IniOK [ob ul_u10 (.vec w0.heap.size 9 eStr y15),⟨u8,Sl_u8,.gen (geB w0.heap.size) (mapX prog 9 w0.heap.size 3 (eInt .i64) y16)⟩] A w:=q.sub [(0,ob ul_u10 (.vec w0.heap.size 9 eStr y15)),(1,⟨u8,Sl_u8,.gen (geB w0.heap.size) (mapX prog 9 w0.heap.size 3 (eInt .i64) y16)⟩)] ⟨Z,Z,⟨Z,Z,N⟩⟩
 obtain ⟨rl26,q27,c⟩:=zA4 c
 replace q27:=q27 Z
 refine HT.cut0 (fun R w=>∃ A:Av,∃ (s28:(List (List UInt8)) × (MpT Int)) (uo_ul_u10:Value) (So_u8:Nat→Prop),rl26=s28∧AvOK A w∧Fr w0 w∧(∀ b o,A0 b o→A b o)∧IniOK [ob uo_ul_u10 (.vec w0.heap.size 9 eStr s28.1),⟨u8,So_u8,.gen (geB w0.heap.size) (mapX prog 9 w0.heap.size 3 (eInt .i64) s28.2)⟩] A w∧R 3=u8∧R 4=uo_ul_u10∧R 21=v0∧R 22 = .int .i64 (p0.length:Int)∧R 23 = .int .i64 y14∧Rep (eSl zA1) A w v0 p0) ?_ ?_
 refine HT.block ?_
 refine HT.loop (fun k R w=>∃ A:Av,∃ (y29:Int) (y30:List (List UInt8)) (y31:MpT Int) (ul_ul_u10:Value) (Sl_u8:Nat→Prop),zAX fu y14 x23 k y29 y30 y31=some rl26∧AvOK A w∧Fr w0 w∧(∀ b o,A0 b o→A b o)∧IniOK [ob ul_ul_u10 (.vec w0.heap.size 9 eStr y30),⟨u8,Sl_u8,.gen (geB w0.heap.size) (mapX prog 9 w0.heap.size 3 (eInt .i64) y31)⟩] A w∧R 3=u8∧R 4=ul_ul_u10∧R 5 = .int .i64 y14∧R 21=v0∧R 22 = .int .i64 (p0.length:Int)∧R 23 = .int .i64 y14∧R 29=u25∧R 30 = .int .i64 (x23.length:Int)∧R 31 = .int .i64 y29∧Rep (eSl eStr) A w u25 x23∧Rep (eSl zA1) A w v0 p0) fu ⟨_,_,_,_,ul_u10,Sl_u8,q27,d,j,B,q,h3,h4,h5,h21,h22,h23,h29,h30,h31,f_u25,f_v0⟩ ?_
 have hr0:=c;clear c q27
 rintro k R w ⟨A,y29,y30,y31,ul_ul_u10,Sl_u8,c,d,j,B,q,h3,h4,h5,h21,h22,h23,h29,h30,h31,f_u25,f_v0⟩
 rcases k with _ | k
 cases (show none=some _ from c)
 rw [zAX] at c
 refine HT.su d j (eB (decide (y29<(x23.length:Int)))::[]) ?_ ?_
 exact op (fun Q U W H D=>zAk ((H 31 Z).trans h31) ((H 30 Z).trans h30))<|oz
 intro R w m n p d j
 obtain ⟨h3,h4,h5,h21,h22,h23⟩:=k6 n h3 h4 h5 h21 h22 h23
 obtain ⟨h29,h30,h31⟩:=k3 n h29 h30 h31
 have h32:=p.r 0 Z
 replace f_u25:=f_u25.fr m
 replace f_v0:=f_v0.fr m
 replace q:=q.fr m
 refine HT.seq ?_
 refine HT.cond (decide (y29<(x23.length:Int))) h32 (fun c32=>?_) (fun c32=>?_)
 have c:=zAH c32 c
 refine HT.skip ?_
 refine HT.seq ?_
 refine HT.block ?_
 obtain ⟨e33,c⟩:=zA3 c
 refine HT.su d j (eF (.qtr eStr A (gtD x23 y29))::eF (.rep eStr A (gtD x23 y29))::eF (.rep eStr A (gtD x23 y29))::[]) ?_ ?_
 exact op (fun Q U W H D=>zAB ((f_u25.fr W).eq ((H 29 Z).trans h29)) ((H 31 Z).trans h31) underlying34 sizeOf9 e33)<|op (fun Q U W H D=>(zAe (QRep.ptr (D.g 0 Z)) isAgg9 sizeOf9))<|op (fun Q U W H D=>zA0 (D.g 0 Z))<|oz
 intro R w m n p d j
 obtain ⟨h3,h4,h5,h21,h22,h23⟩:=k6 n h3 h4 h5 h21 h22 h23
 obtain ⟨h29,h30,h31⟩:=k3 n h29 h30 h31
 obtain ⟨u34,h8,f_u34⟩:∃ u,R 8=u∧Rep eStr A w u (gtD x23 y29):=⟨_,Z,p 2 _ _ Z Z Z⟩
 replace f_u25:=f_u25.fr m
 replace f_v0:=f_v0.fr m
 replace q:=q.fr m
 obtain ⟨e35,c⟩:=zA3 c
 refine HT.sx [ob ul_ul_u10 (.vec w0.heap.size 9 eStr y30),⟨u8,Sl_u8,.gen (geB w0.heap.size) (mapX prog 9 w0.heap.size 3 (eInt .i64) y31)⟩] (rR ul_ul_u10::rR u34::(rF fun A=>.rep (eSl eStr) A ([(gtD x23 y29)]:List (List UInt8)))::⟨_,true,[0],some (.vec w0.heap.size 9 eStr (y30++([(gtD x23 y29)]:List (List UInt8)))),true,fun A=>.any⟩::⟨_,true,[5],some (.vec w0.heap.size 9 eStr (y30++([(gtD x23 y29)]:List (List UInt8)))),true,fun A=>.any⟩::[]) (ur (ur (up (ua (ua (UAll.nil)))))) q d ?_ ?_
 exact rm h4<|rm h8<|rp (fun V Q U O D=>zB3 [_] (E:=eStr) ⟨((f_u34.stp O.stp).eq (D.g 0 Z)),N⟩ underlying34 sizeOf9 zeroValue9 Z Z Z O.av)<|rc (OblR.took 0 _ _ Z Z Z Z Z fun V Q U O D u X Y J L M=>by have a0:Q 35=ul_ul_u10:=D.g 0 Z;have a1:Rep (eSl eStr) V U (Q 37) ([(gtD x23 y29)]:List (List UInt8)):=D.g 1 Z;exact zAW (a0.trans (J _ Z).symm) X Y (Nat.le_trans j.size O.ch.size) a1 underlying34 el_9 e35)<|rc (OblR.took 5 _ _ Z Z Z Z Z fun V Q U O D u X Y J L M=>by exact zA8 (L _ _ Z Z Z Z).symm X Y)<|rz
 intro done ρ σ A R w y s
 obtain ⟨h3,h5,h8,h21,h22,h23⟩:=k6 s.rg h3 h5 h8 h21 h22 h23
 obtain ⟨h29,h30,h31⟩:=k3 s.rg h29 h30 h31
 obtain ⟨u36,e_u36⟩:∃ u,ρ 6=u:=⟨_,Z⟩
 have h4:=s.ov y 6 4 e_u36
 have z37:=s.inivR 1 Z
 have eS_u8:=s.inisR 1 Z
 replace f_u25:=f_u25.stp s.stp
 replace f_u34:=f_u34.stp s.stp
 replace f_v0:=f_v0.stp s.stp
 obtain ⟨B,j,d⟩:=s.s B C j q ⟨Z,⟨fun _ h=>h,N⟩⟩
 replace q:=s.left y [(6,ob u36 (.vec w0.heap.size 9 eStr (y30++([(gtD x23 y29)]:List (List UInt8))))),(1,⟨u8,Sl_u8,.gen (geB w0.heap.size) (mapX prog 9 w0.heap.size 3 (eInt .i64) y31)⟩)] ⟨Z,Z,e_u36,Z,Z,⟨Z,Z,z37,eS_u8,Z,N⟩⟩
 refine SG.of ?_
 refine SG.textR [ob u36 (.vec w0.heap.size 9 eStr (y30++([(gtD x23 y29)]:List (List UInt8)))),⟨u8,Sl_u8,.gen (geB w0.heap.size) (mapX prog 9 w0.heap.size 3 (eInt .i64) y31)⟩] (rR u8::rR u34::rR u8::rR u34::[]) 4 Z Z Z (by kernel_rfl) (by kernel_rfl) (Wf.mk' (by kernel_rfl) (ur (ur (ur (ur (UAll.nil))))) (by kernel_rfl) (by kernel_rfl)) q d (N) ?_ ?_
 exact rm h3<|rm h8<|rm h3<|rm h8<|rz
 intro done ρ σ A R w y s
 obtain ⟨h3,h4,h5,h21,h22,h23⟩:=k6 s.rg h3 h4 h5 h21 h22 h23
 obtain ⟨h29,h30,h31⟩:=k3 s.rg h29 h30 h31
 have z38:=s.inivR 0 Z
 have z39:=s.inivR 1 Z
 have eS_u8:=s.inisR 1 Z
 have h39:=s.r y 0 Z
 have h40:=s.r y 1 Z
 have h41:=s.r y 2 Z
 have h42:=s.r y 3 Z
 replace f_u25:=f_u25.stp s.stp
 replace f_u34:=f_u34.stp s.stp
 replace f_v0:=f_v0.stp s.stp
 obtain ⟨B,j,d⟩:=s.s B C j q ⟨Z,⟨fun _ h=>h,N⟩⟩
 replace q:=s.left y [(0,ob u36 (.vec w0.heap.size 9 eStr (y30++([(gtD x23 y29)]:List (List UInt8))))),(1,⟨u8,Sl_u8,.gen (geB w0.heap.size) (mapX prog 9 w0.heap.size 3 (eInt .i64) y31)⟩)] ⟨Z,Z,z38,Z,Z,⟨Z,Z,z39,eS_u8,Z,N⟩⟩
 obtain ⟨e40,c⟩:=zA3 c
 refine SG.op 43 Z Z Z Z (zHV q 1 Z underlying9 underlying62 (zeroValue52 _) h41 (f_u34.eq h42) (of_decide_eq_true e40) zGs) ?_
 rintro u41 w1 ⟨hw_,S42,hO2,-⟩ R n hd
 obtain rfl:w=w1:=hw_.symm
 have hst:Stp A A w w:=(Fr.refl w).stp A
 replace q:IniOK [ob u36 (.vec w0.heap.size 9 eStr (y30++([(gtD x23 y29)]:List (List UInt8)))),⟨u8,S42,.gen (geB w0.heap.size) (mapX prog 9 w0.heap.size 3 (eInt .i64) (y31.1,(gtD x23 y29)::y31.2.1,y31.2.2))⟩,ob u41 (.vec w0.heap.size 3 (eInt .i64) (y31.1 (gtD x23 y29)))] A w:=hO2
 replace h3:=(n 3 Z).trans h3
 replace h4:=(n 4 Z).trans h4
 replace h5:=(n 5 Z).trans h5
 replace h21:=(n 21 Z).trans h21
 replace h22:=(n 22 Z).trans h22
 replace h23:=(n 23 Z).trans h23
 replace h29:=(n 29 Z).trans h29
 replace h30:=(n 30 Z).trans h30
 replace h31:=(n 31 Z).trans h31
 replace h39:=(n 39 Z).trans h39
 replace h40:=(n 40 Z).trans h40
 replace h41:=(n 41 Z).trans h41
 replace h42:=(n 42 Z).trans h42
 replace f_u25:=f_u25.stp hst
 replace f_u34:=f_u34.stp hst
 replace f_v0:=f_v0.stp hst
 have h43:R 43=u41:=hd
 clear n hd hst
 obtain ⟨e43,c⟩:=zA3 c
 refine SG.textR [ob u36 (.vec w0.heap.size 9 eStr (y30++([(gtD x23 y29)]:List (List UInt8)))),⟨u8,S42,.gen (geB w0.heap.size) (mapX prog 9 w0.heap.size 3 (eInt .i64) (y31.1,(gtD x23 y29)::y31.2.1,y31.2.2))⟩,ob u41 (.vec w0.heap.size 3 (eInt .i64) (y31.1 (gtD x23 y29)))] (rR u8::rR u34::rR u8::rR u34::rR u41::rI y14::(rF fun A=>.rep (eSl (eInt .i64)) A ([y14]:List Int))::⟨_,true,[2],some (.vec w0.heap.size 3 (eInt .i64) ((y31.1 (gtD x23 y29))++([y14]:List Int))),true,fun A=>.any⟩::[]) 8 Z Z Z (by kernel_rfl) (by kernel_rfl) (Wf.mk' (by kernel_rfl) (ur (ur (ur (ur (ur (ur (up (ua (UAll.nil))))))))) (by kernel_rfl) (by kernel_rfl)) q d (⟨⟨Z,Z,Z,h39⟩,⟨⟨Z,Z,Z,h40⟩,⟨⟨Z,Z,Z,h41⟩,⟨⟨Z,Z,Z,h42⟩,⟨⟨Z,Z,Z,h43⟩,N⟩⟩⟩⟩⟩) ?_ ?_
 exact rm h5<|rp (fun V Q U O D=>zB3 [_] (E:=eInt .i64) ⟨(zC2.eq (D.g 0 Z)),N⟩ underlying52 sizeOf3 zeroValue3 Z Z Z O.av)<|rc (OblR.took 2 _ _ Z Z Z Z Z fun V Q U O D u X Y J L M=>by have a0:Q 43=u41:=D.g 0 Z;have a1:Rep (eSl (eInt .i64)) V U (Q 45) ([y14]:List Int):=D.g 1 Z;exact zAW (a0.trans (J _ Z).symm) X Y (Nat.le_trans j.size O.ch.size) a1 underlying52 el_3 e43)<|rz
 intro done ρ σ A R w y s
 obtain ⟨h3,h4,h5,h21,h22,h23⟩:=k6 s.rg h3 h4 h5 h21 h22 h23
 obtain ⟨h29,h30,h31⟩:=k3 s.rg h29 h30 h31
 have z44:=s.inivR 0 Z
 have z45:=s.inivR 1 Z
 obtain ⟨u46,e_u46⟩:∃ u,ρ 10=u:=⟨_,Z⟩
 have h46:=s.ov y 10 7 e_u46
 have eS_u8:=s.inisR 1 Z
 have h39:=s.r y 0 Z
 have h40:=s.r y 1 Z
 replace f_u25:=f_u25.stp s.stp
 replace f_u34:=f_u34.stp s.stp
 replace f_v0:=f_v0.stp s.stp
 obtain ⟨B,j,d⟩:=s.s B C j q ⟨Z,⟨fun _ h=>h,⟨Z,N⟩⟩⟩
 replace q:=s.left y [(0,ob u36 (.vec w0.heap.size 9 eStr (y30++([(gtD x23 y29)]:List (List UInt8))))),(1,⟨u8,S42,.gen (geB w0.heap.size) (mapX prog 9 w0.heap.size 3 (eInt .i64) (y31.1,(gtD x23 y29)::y31.2.1,y31.2.2))⟩),(10,ob u46 (.vec w0.heap.size 3 (eInt .i64) ((y31.1 (gtD x23 y29))++([y14]:List Int))))] ⟨Z,Z,z44,Z,Z,⟨Z,Z,z45,eS_u8,Z,⟨Z,Z,e_u46,Z,Z,N⟩⟩⟩
 obtain ⟨e47,c⟩:=zA3 c
 refine SG.op0 Z Z Z (zHo q d 1 2 Z Z (by decide) underlying9 underlying62 (of_decide_eq_true e47) h39 (f_u34.eq h40) h46 (of_decide_eq_true e40) (fun k hk=>zKL (q.ok 2 _ Z).1 (q.own 2 _ Z) k hk)) ?_
 rintro v_ w ⟨hch,hst,hA2,hO2⟩
 replace j:Fr w0 w:=j.tr hch ((q.own 1 _ Z).1)
 replace d:=hA2
 replace q:IniOK [ob u36 (.vec w0.heap.size 9 eStr (y30++([(gtD x23 y29)]:List (List UInt8)))),⟨u8,(fun k=>S42 k∨zAM u46 k),.gen (geB w0.heap.size) (mapX prog 9 w0.heap.size 3 (eInt .i64) ((fun s'=>if s'=(gtD x23 y29) then ((y31.1 (gtD x23 y29))++([y14]:List Int)) else y31.1 s'),y31.2.1,y31.2.2+1))⟩,⟨undef,(fun _=>False),.nul⟩] A w:=hO2
 replace q:IniOK [ob u36 (.vec w0.heap.size 9 eStr (y30++([(gtD x23 y29)]:List (List UInt8)))),⟨u8,(fun k=>S42 k∨zAM u46 k),.gen (geB w0.heap.size) (mapX prog 9 w0.heap.size 3 (eInt .i64) ((fun s'=>if s'=(gtD x23 y29) then ((y31.1 (gtD x23 y29))++([y14]:List Int)) else y31.1 s'),y31.2.1,y31.2.2+1))⟩] A w:=q.sub [(0,ob u36 (.vec w0.heap.size 9 eStr (y30++([(gtD x23 y29)]:List (List UInt8))))),(1,⟨u8,(fun k=>S42 k∨zAM u46 k),.gen (geB w0.heap.size) (mapX prog 9 w0.heap.size 3 (eInt .i64) ((fun s'=>if s'=(gtD x23 y29) then ((y31.1 (gtD x23 y29))++([y14]:List Int)) else y31.1 s'),y31.2.1,y31.2.2+1))⟩)] ⟨Z,Z,⟨Z,Z,N⟩⟩
 obtain ⟨S48,e_S48⟩:∃ S,S=fun k=>S42 k∨zAM u46 k:=⟨_,Z⟩
 replace q:IniOK [ob u36 (.vec w0.heap.size 9 eStr (y30++([(gtD x23 y29)]:List (List UInt8)))),⟨u8,S48,.gen (geB w0.heap.size) (mapX prog 9 w0.heap.size 3 (eInt .i64) ((fun s'=>if s'=(gtD x23 y29) then ((y31.1 (gtD x23 y29))++([y14]:List Int)) else y31.1 s'),y31.2.1,y31.2.2+1))⟩] A w:=e_S48 ▸ q
 replace f_u25:=f_u25.stp hst
 replace f_u34:=f_u34.stp hst
 replace f_v0:=f_v0.stp hst
 clear hst hch
 refine SG.fin Z ?_
 obtain ⟨e49,c⟩:=zA3 c
 refine HT.u d j (eI (y29+1)::eI (y29+1)::[]) ?_ ?_
 exact op (fun Q U W H D=>zAU ((H 31 Z).trans h31) Z e49)<|ov<|oz
 intro R w m n p d j
 obtain ⟨h3,h4,h5,h21,h22,h23⟩:=k6 n h3 h4 h5 h21 h22 h23
 obtain ⟨h29,h30⟩:=k2 n h29 h30
 have h31:=p.r 1 Z
 replace f_u25:=f_u25.fr m
 replace f_v0:=f_v0.fr m
 replace q:=q.fr m
 exact ei k (And.intro (Nat.lt_succ_self k) ⟨_,_,_,_,u36,S48,c,d,j,B,q,h3,h4,h5,h21,h22,h23,h29,h30,h31,f_u25,f_v0⟩)
 have c:=zAI c32 c
 refine HT.exit ?_
 obtain rfl:=si c
 exact ei _ ⟨_,ul_ul_u10,Sl_u8,Z,d,j,B,q,h3,h4,h21,h22,h23,f_v0⟩
 rintro R w ⟨A,s28,uo_ul_u10,So_u8,es,d,j,B,q,h3,h4,h21,h22,h23,f_v0⟩
 obtain rfl:=es.symm
 obtain ⟨e50,c⟩:=zA3 c
 refine HT.u d j (eI (y14+1)::eI (y14+1)::[]) ?_ ?_
 exact op (fun Q U W H D=>zAU ((H 23 Z).trans h23) Z e50)<|ov<|oz
 intro R w m n p d j
 obtain ⟨h3,h4,h21,h22⟩:=k4 n h3 h4 h21 h22
 have h23:=p.r 1 Z
 replace f_v0:=f_v0.fr m
 replace q:=q.fr m
 exact ei k (And.intro (Nat.lt_succ_self k) ⟨_,_,_,_,uo_ul_u10,So_u8,c,d,j,B,q,h3,h4,h21,h22,h23,f_v0⟩)
 have c:=zAI c17 c
 refine HT.exit ?_
 obtain rfl:=si c
 exact ei _ ⟨_,ul_u10,Sl_u8,Z,d,j,B,q,h3,h4⟩
 rintro R w ⟨A,s13,uo_u10,So_u8,es,d,j,B,q,h3,h4⟩
 obtain rfl:=es.symm
 refine HT.sx [ob uo_u10 (.vec w0.heap.size 9 eStr s13.1),⟨u8,So_u8,.gen (geB w0.heap.size) (mapX prog 9 w0.heap.size 3 (eInt .i64) s13.2)⟩] (⟨_,true,[],some (trR (geB w0.heap.size) (oSl 54 (oPr (oRd eStr) (oSl 3 (oRd (eInt .i64))))) ([]:List zAA) []),true,fun A=>.any⟩::[]) (ua (UAll.nil)) q d ?_ ?_
 exact rc (OblR.madeS _ Z Z Z Z fun V Q U O D=>by exact zIE Z)<|rz
 intro done ρ σ A R w y s
 obtain ⟨h3,h4⟩:=k2 s.rg h3 h4
 have z51:=s.inivR 0 Z
 have z52:=s.inivR 1 Z
 obtain ⟨u53,e_u53⟩:∃ u,ρ 2=u:=⟨_,Z⟩
 have h9:=s.ov y 2 0 e_u53
 have eS_u8:=s.inisR 1 Z
 obtain ⟨S54,eS_u53⟩:∃ S,σ 2=S:=⟨_,Z⟩
 obtain ⟨B,j,d⟩:=s.s B C j q ⟨Z,⟨fun _ h=>h,N⟩⟩
 replace q:=s.left y [(0,ob uo_u10 (.vec w0.heap.size 9 eStr s13.1)),(1,⟨u8,So_u8,.gen (geB w0.heap.size) (mapX prog 9 w0.heap.size 3 (eInt .i64) s13.2)⟩),(2,⟨u53,S54,trR (geB w0.heap.size) (oSl 54 (oPr (oRd eStr) (oSl 3 (oRd (eInt .i64))))) ([]:List zAA) []⟩)] ⟨Z,Z,z51,Z,Z,⟨Z,Z,z52,eS_u8,Z,⟨Z,Z,e_u53,eS_u53,Z,N⟩⟩⟩
 refine HT.seq ?_
 refine HT.seq ?_
 refine SG.of ?_
 obtain ⟨x55,q56,c⟩:=zA4 c
 refine SG.textR [ob uo_u10 (.vec w0.heap.size 9 eStr s13.1),⟨u8,So_u8,.gen (geB w0.heap.size) (mapX prog 9 w0.heap.size 3 (eInt .i64) s13.2)⟩,⟨u53,S54,trR (geB w0.heap.size) (oSl 54 (oPr (oRd eStr) (oSl 3 (oRd (eInt .i64))))) ([]:List zAA) []⟩] (rR uo_u10::⟨_,true,[],some (.vec w0.heap.size 9 eStr x55),true,fun A=>.any⟩::[]) 2 Z Z Z (by kernel_rfl) (by kernel_rfl) (Wf.mk' (by kernel_rfl) (ur (ua (UAll.nil))) (by kernel_rfl) (by kernel_rfl)) q d (N) ?_ ?_
 exact rm h4<|rc (OblR.made _ Z Z Z Z fun V Q U O D=>by have a0:Q 49=uo_u10:=D.g 0 Z;have ra0:=(zC5 (O.rd 0 _ Z Z) (O.low' B C (q.ge (⟨Z,⟨fun _ h=>h,⟨fun _ h=>h,N⟩⟩⟩))) C).eq a0;exact zE4 call42 (zBT (q56 Z) (hA00.fr ((Nat.le_trans j.size O.ch.size))) ra0) (Nat.le_trans j.size O.ch.size) (O.low' B C (q.ge (⟨Z,⟨fun _ h=>h,⟨fun _ h=>h,N⟩⟩⟩))) (fun _ _ _ _ _ h=>h))<|rz
 intro done ρ σ A R w y s
 obtain ⟨h3,h9⟩:=k2 s.rg h3 h9
 have z57:=s.inivR 0 Z
 have z58:=s.inivR 1 Z
 have z59:=s.inivR 2 Z
 obtain ⟨u60,e_u60⟩:∃ u,ρ 4=u:=⟨_,Z⟩
 have h50:=s.ov y 4 1 e_u60
 have eS_u8:=s.inisR 1 Z
 have eS_u53:=s.inisR 2 Z
 obtain ⟨B,j,d⟩:=s.s B C j q ⟨Z,⟨fun _ h=>h,⟨fun _ h=>h,N⟩⟩⟩
 replace q:=s.left y [(1,⟨u8,So_u8,.gen (geB w0.heap.size) (mapX prog 9 w0.heap.size 3 (eInt .i64) s13.2)⟩),(2,⟨u53,S54,trR (geB w0.heap.size) (oSl 54 (oPr (oRd eStr) (oSl 3 (oRd (eInt .i64))))) ([]:List zAA) []⟩),(4,ob u60 (.vec w0.heap.size 9 eStr x55))] ⟨Z,Z,z58,eS_u8,Z,⟨Z,Z,z59,eS_u53,Z,⟨Z,Z,e_u60,Z,Z,N⟩⟩⟩
 refine SG.textR [⟨u8,So_u8,.gen (geB w0.heap.size) (mapX prog 9 w0.heap.size 3 (eInt .i64) s13.2)⟩,⟨u53,S54,trR (geB w0.heap.size) (oSl 54 (oPr (oRd eStr) (oSl 3 (oRd (eInt .i64))))) ([]:List zAA) []⟩,ob u60 (.vec w0.heap.size 9 eStr x55)] (rA::rR u60::rI (x55.length:Int)::rI 0::[]) 4 Z Z Z (by kernel_rfl) (by kernel_rfl) (Wf.mk' (by kernel_rfl) (ua (ur (ur (ur (UAll.nil))))) (by kernel_rfl) (by kernel_rfl)) q d (⟨⟨Z,Z,Z,N⟩,⟨⟨Z,Z,Z,h50⟩,N⟩⟩) ?_ ?_
 exact rp (fun V Q U O D=>zCC (q.ok 2 _ Z).1 (D.g 0 Z) underlying34)<|rp (fun V Q U O D=>zBl Z)<|rz
 intro done ρ σ A R w y s
 obtain ⟨h3,h9⟩:=k2 s.rg h3 h9
 have z61:=s.inivR 0 Z
 have z62:=s.inivR 1 Z
 have z63:=s.inivR 2 Z
 have eS_u8:=s.inisR 0 Z
 have eS_u53:=s.inisR 1 Z
 have h50:=s.r y 1 Z
 have h51:=s.r y 2 Z
 have h52:=s.r y 3 Z
 obtain ⟨B,j,d⟩:=s.s B C j q ⟨fun _ h=>h,⟨fun _ h=>h,⟨Z,N⟩⟩⟩
 replace q:=s.left y [(0,⟨u8,So_u8,.gen (geB w0.heap.size) (mapX prog 9 w0.heap.size 3 (eInt .i64) s13.2)⟩),(1,⟨u53,S54,trR (geB w0.heap.size) (oSl 54 (oPr (oRd eStr) (oSl 3 (oRd (eInt .i64))))) ([]:List zAA) []⟩),(2,ob u60 (.vec w0.heap.size 9 eStr x55))] ⟨Z,Z,z61,eS_u8,Z,⟨Z,Z,z62,eS_u53,Z,⟨Z,Z,z63,Z,Z,N⟩⟩⟩
 refine SG.fin Z ?_
 obtain ⟨rl64,q65,c⟩:=zA4 c
 replace q65:=q65 Z
 refine HT.cut0 (fun R w=>∃ A:Av,∃ (s66:(List zAA)) (uo_u53:Value) (So_u53:Nat→Prop),rl64=s66∧AvOK A w∧Fr w0 w∧(∀ b o,A0 b o→A b o)∧IniOK [⟨uo_u53,So_u53,trR (geB w0.heap.size) (oSl 54 (oPr (oRd eStr) (oSl 3 (oRd (eInt .i64))))) s66 []⟩] A w∧R 9=uo_u53) ?_ ?_
 refine HT.block ?_
 refine HT.loop (fun k R w=>∃ A:Av,∃ (y67:Int) (y68:MpT Int) (y69:List zAA) (Sl_u8:Nat→Prop) (ul_u53:Value) (Sl_u53:Nat→Prop),zAR fu x55 k y67 y68 y69=some rl64∧AvOK A w∧Fr w0 w∧(∀ b o,A0 b o→A b o)∧IniOK [⟨u8,Sl_u8,.gen (geB w0.heap.size) (mapX prog 9 w0.heap.size 3 (eInt .i64) y68)⟩,⟨ul_u53,Sl_u53,trR (geB w0.heap.size) (oSl 54 (oPr (oRd eStr) (oSl 3 (oRd (eInt .i64))))) y69 []⟩,ob u60 (.vec w0.heap.size 9 eStr x55)] A w∧R 3=u8∧R 9=ul_u53∧R 50=u60∧R 51 = .int .i64 (x55.length:Int)∧R 52 = .int .i64 y67) fu ⟨_,_,_,_,So_u8,u53,S54,q65,d,j,B,q,h3,h9,h50,h51,h52⟩ ?_
 have hr0:=c;clear c q65
 rintro k R w ⟨A,y67,y68,y69,Sl_u8,ul_u53,Sl_u53,c,d,j,B,q,h3,h9,h50,h51,h52⟩
 rcases k with _ | k
 cases (show none=some _ from c)
 rw [zAR] at c
 refine HT.su d j (eB (decide (y67<(x55.length:Int)))::[]) ?_ ?_
 exact op (fun Q U W H D=>zAk ((H 52 Z).trans h52) ((H 51 Z).trans h51))<|oz
 intro R w m n p d j
 obtain ⟨h3,h9,h50,h51,h52⟩:=k5 n h3 h9 h50 h51 h52
 have h53:=p.r 0 Z
 replace q:=q.fr m
 refine HT.seq ?_
 refine HT.cond (decide (y67<(x55.length:Int))) h53 (fun c70=>?_) (fun c70=>?_)
 have c:=zAH c70 c
 refine HT.skip ?_
 refine HT.seq ?_
 refine HT.block ?_
 obtain ⟨e71,c⟩:=zA3 c
 refine HT.su d j (eR (vptr u60 (y67.toNat*1))::eF (.rep eStr A (gtD x55 y67))::eF (.rep eStr A (gtD x55 y67))::[]) ?_ ?_
 exact op (fun Q U W H D=>zBB (q.ok 2 _ Z).1 ((H 50 Z).trans h50) ((H 52 Z).trans h52) underlying34 sizeOf9 e71 Z)<|op (fun Q U W H D=>(zCK ((q.fr W).ok 2 _ Z).1 (D.g 0 Z) e71 Z (Fld.id _) Z isAgg9 sizeOf9))<|op (fun Q U W H D=>zA0 (D.g 0 Z))<|oz
 intro R w m n p d j
 obtain ⟨h3,h9,h50,h51,h52⟩:=k5 n h3 h9 h50 h51 h52
 obtain ⟨u72,h11,f_u72⟩:∃ u,R 11=u∧Rep eStr A w u (gtD x55 y67):=⟨_,Z,p 2 _ _ Z Z Z⟩
 replace q:=q.fr m
 refine SG.of ?_
 refine SG.textR [⟨u8,Sl_u8,.gen (geB w0.heap.size) (mapX prog 9 w0.heap.size 3 (eInt .i64) y68)⟩,⟨ul_u53,Sl_u53,trR (geB w0.heap.size) (oSl 54 (oPr (oRd eStr) (oSl 3 (oRd (eInt .i64))))) y69 []⟩,ob u60 (.vec w0.heap.size 9 eStr x55)] (rR ul_u53::rR u72::rR u8::rR u72::[]) 4 Z Z Z (by kernel_rfl) (by kernel_rfl) (Wf.mk' (by kernel_rfl) (ur (ur (ur (ur (UAll.nil))))) (by kernel_rfl) (by kernel_rfl)) q d (N) ?_ ?_
 exact rm h9<|rm h11<|rm h3<|rm h11<|rz
 intro done ρ σ A R w y s
 obtain ⟨h3,h9,h50,h51,h52⟩:=k5 s.rg h3 h9 h50 h51 h52
 have z73:=s.inivR 0 Z
 have z74:=s.inivR 1 Z
 have z75:=s.inivR 2 Z
 have eS_u8:=s.inisR 0 Z
 have eS_ul_u53:=s.inisR 1 Z
 have h56:=s.r y 0 Z
 have h57:=s.r y 1 Z
 have h58:=s.r y 2 Z
 have h59:=s.r y 3 Z
 replace f_u72:=f_u72.stp s.stp
 obtain ⟨B,j,d⟩:=s.s B C j q ⟨fun _ h=>h,⟨fun _ h=>h,⟨Z,N⟩⟩⟩
 replace q:=s.left y [(0,⟨u8,Sl_u8,.gen (geB w0.heap.size) (mapX prog 9 w0.heap.size 3 (eInt .i64) y68)⟩),(1,⟨ul_u53,Sl_u53,trR (geB w0.heap.size) (oSl 54 (oPr (oRd eStr) (oSl 3 (oRd (eInt .i64))))) y69 []⟩),(2,ob u60 (.vec w0.heap.size 9 eStr x55))] ⟨Z,Z,z73,eS_u8,Z,⟨Z,Z,z74,eS_ul_u53,Z,⟨Z,Z,z75,Z,Z,N⟩⟩⟩
 obtain ⟨e76,c⟩:=zA3 c
 refine SG.op 60 Z Z Z Z (zHV q 0 Z underlying9 underlying62 (zeroValue52 _) h58 (f_u72.eq h59) (of_decide_eq_true e76) zGs) ?_
 rintro u77 w1 ⟨hw_,S78,hO2,-⟩ R n hd
 obtain rfl:w=w1:=hw_.symm
 have hst:Stp A A w w:=(Fr.refl w).stp A
 replace q:IniOK [⟨u8,S78,.gen (geB w0.heap.size) (mapX prog 9 w0.heap.size 3 (eInt .i64) (y68.1,(gtD x55 y67)::y68.2.1,y68.2.2))⟩,⟨ul_u53,Sl_u53,trR (geB w0.heap.size) (oSl 54 (oPr (oRd eStr) (oSl 3 (oRd (eInt .i64))))) y69 []⟩,ob u60 (.vec w0.heap.size 9 eStr x55),ob u77 (.vec w0.heap.size 3 (eInt .i64) (y68.1 (gtD x55 y67)))] A w:=hO2
 replace h3:=(n 3 Z).trans h3
 replace h9:=(n 9 Z).trans h9
 replace h50:=(n 50 Z).trans h50
 replace h51:=(n 51 Z).trans h51
 replace h52:=(n 52 Z).trans h52
 replace h56:=(n 56 Z).trans h56
 replace h57:=(n 57 Z).trans h57
 replace h58:=(n 58 Z).trans h58
 replace h59:=(n 59 Z).trans h59
 replace f_u72:=f_u72.stp hst
 have h60:R 60=u77:=hd
 clear n hd hst
 obtain ⟨e80,c⟩:=zA3 c
 refine SG.textR [⟨u8,S78,.gen (geB w0.heap.size) (mapX prog 9 w0.heap.size 3 (eInt .i64) (y68.1,(gtD x55 y67)::y68.2.1,y68.2.2))⟩,⟨ul_u53,Sl_u53,trR (geB w0.heap.size) (oSl 54 (oPr (oRd eStr) (oSl 3 (oRd (eInt .i64))))) y69 []⟩,ob u60 (.vec w0.heap.size 9 eStr x55),ob u77 (.vec w0.heap.size 3 (eInt .i64) (y68.1 (gtD x55 y67)))] (rR ul_u53::rR u72::rR u8::rR u72::rR u77::⟨_,true,[3],some (trR (geB w0.heap.size) (oPr (oRd eStr) (oSl 3 (oRd (eInt .i64)))) ((gtD x55 y67),(y68.1 (gtD x55 y67))) []),true,fun A=>.any⟩::⟨_,true,[9],some (trR (geB w0.heap.size) (oSl 54 (oPr (oRd eStr) (oSl 3 (oRd (eInt .i64))))) ([((gtD x55 y67),(y68.1 (gtD x55 y67)))]:List zAA) []),true,fun A=>.any⟩::⟨_,true,[1,10],some (trR (geB w0.heap.size) (oSl 54 (oPr (oRd eStr) (oSl 3 (oRd (eInt .i64))))) (y69 ++ [((gtD x55 y67),(y68.1 (gtD x55 y67)))]) []),true,fun A=>.any⟩::⟨_,true,[11],some (trR (geB w0.heap.size) (oSl 54 (oPr (oRd eStr) (oSl 3 (oRd (eInt .i64))))) (y69 ++ [((gtD x55 y67),(y68.1 (gtD x55 y67)))]) []),true,fun A=>.any⟩::[]) 9 Z Z Z (by kernel_rfl) (by kernel_rfl) (Wf.mk' (by kernel_rfl) (ur (ur (ur (ur (ur (ua (ua (ua (ua (UAll.nil)))))))))) (by kernel_rfl) (by kernel_rfl)) q d (⟨⟨Z,Z,Z,h56⟩,⟨⟨Z,Z,Z,h57⟩,⟨⟨Z,Z,Z,h58⟩,⟨⟨Z,Z,Z,h59⟩,⟨⟨Z,Z,Z,h60⟩,N⟩⟩⟩⟩⟩) ?_ ?_
 exact rc (OblR.tookS 3 _ _ Z Z Z Z Z fun V Q U O D u S X I Y J L M=>by have a0:Q 57=u72:=D.g 0 Z;have ra0:=(f_u72.stp O.stp).eq a0;have a1:Q 60=u77:=D.g 1 Z;obtain ⟨c79s,c79,c79r⟩:=zH6 ra0;obtain ⟨gc,ge,go⟩:=zGi X I;obtain ⟨ga,gn,gk,rfl⟩:=zIs go;have gx:Q 60 = .slice ga gn gk:=(a1.trans (J _ Z).1.symm).trans ge;exact zKP (v:=.agg #[.string c79s,.slice ga gn gk]) (by simp [execOp,Instr.build,zA9,c79,gx,underlying,underlying54,zeroValue54,sizeOf52,sizeOf9,go_sem,Instr.fill]) ⟨⟨_,Z,zN1 (zEl c79r) go⟩,fun q hq=>by cases hq⟩ Y (zKL X I))<|rc (OblR.tookS 9 _ _ Z Z Z Z Z fun V Q U O D u S X I Y J L M=>by exact zIu I.2 (L _ _ Z Z Z Z).symm Y I.1 (fun k hk=>Nat.le_trans (Nat.le_trans j.size O.ch.size) hk) underlying24 sizeOf54 zeroValue54 (by decide))<|rc (OblR.tookM 1 [10] _ Z Z Z Z fun V Q U O D ρ σ X Y J L M hdd=>by have a0:Q 56=ul_u53:=D.g 0 Z;exact zII Z (trP.nopin (X 1 (.head _) _ Z).2.2) (trP.nopin (X 10 (.tail _ (.head _)) _ Z).2.2) (a0.trans (J 1 (.head _) _ Z).1.symm) (L 10 (.tail _ (.head _)) _ _ Z Z Z Z).symm Y hdd (X 1 (.head _) _ Z).2.1 (X 10 (.tail _ (.head _)) _ Z).2.1 (fun k hk=>Nat.le_trans (Nat.le_trans j.size O.ch.size) hk) underlying24 zNh (by decide) e80)<|rc (OblR.tookS 11 _ _ Z Z Z Z Z fun V Q U O D u S X I Y J L M=>by exact zF2 (L _ _ Z Z Z Z).symm (trP.nopin I.2) Y I.1)<|rz
 intro done ρ σ A R w y s
 obtain ⟨h3,h50,h51,h52⟩:=k4 s.rg h3 h50 h51 h52
 have z81:=s.inivR 0 Z
 obtain ⟨u82,e_u82⟩:∃ u,ρ 12=u:=⟨_,Z⟩
 have h9:=s.ov y 12 8 e_u82
 have z83:=s.inivR 2 Z
 have eS_u8:=s.inisR 0 Z
 obtain ⟨S84,eS_u82⟩:∃ S,σ 12=S:=⟨_,Z⟩
 obtain ⟨B,j,d⟩:=s.s B C j q ⟨fun _ h=>h,⟨fun _ h=>h,⟨Z,⟨Z,N⟩⟩⟩⟩
 replace q:=s.left y [(0,⟨u8,S78,.gen (geB w0.heap.size) (mapX prog 9 w0.heap.size 3 (eInt .i64) (y68.1,(gtD x55 y67)::y68.2.1,y68.2.2))⟩),(12,⟨u82,S84,trR (geB w0.heap.size) (oSl 54 (oPr (oRd eStr) (oSl 3 (oRd (eInt .i64))))) (y69 ++ [((gtD x55 y67),(y68.1 (gtD x55 y67)))]) []⟩),(2,ob u60 (.vec w0.heap.size 9 eStr x55))] ⟨Z,Z,z81,eS_u8,Z,⟨Z,Z,e_u82,eS_u82,Z,⟨Z,Z,z83,Z,Z,N⟩⟩⟩
 refine SG.fin Z ?_
 obtain ⟨e85,c⟩:=zA3 c
 refine HT.u d j (eI (y67+1)::eI (y67+1)::[]) ?_ ?_
 exact op (fun Q U W H D=>zAU ((H 52 Z).trans h52) Z e85)<|ov<|oz
 intro R w m n p d j
 obtain ⟨h3,h9,h50,h51⟩:=k4 n h3 h9 h50 h51
 have h52:=p.r 1 Z
 replace q:=q.fr m
 exact ei k (And.intro (Nat.lt_succ_self k) ⟨_,_,_,_,S78,u82,S84,c,d,j,B,q,h3,h9,h50,h51,h52⟩)
 have c:=zAI c70 c
 refine HT.exit ?_
 obtain rfl:=si c
 replace q:IniOK [⟨ul_u53,Sl_u53,trR (geB w0.heap.size) (oSl 54 (oPr (oRd eStr) (oSl 3 (oRd (eInt .i64))))) y69 []⟩] A w:=q.sub [(1,⟨ul_u53,Sl_u53,trR (geB w0.heap.size) (oSl 54 (oPr (oRd eStr) (oSl 3 (oRd (eInt .i64))))) y69 []⟩)] ⟨Z,Z,N⟩
 exact ei _ ⟨_,ul_u53,Sl_u53,Z,d,j,B,q,h9⟩
 rintro R w ⟨A,s66,uo_u53,So_u53,es,d,j,B,q,h9⟩
 obtain rfl:=es.symm
 refine HT.sx [⟨uo_u53,So_u53,trR (geB w0.heap.size) (oSl 54 (oPr (oRd eStr) (oSl 3 (oRd (eInt .i64))))) s66 []⟩] (rR uo_u53::rR uo_u53::[]) (ur (ur (UAll.nil))) q d ?_ ?_
 exact rm h9<|ra<|rz
 intro done ρ σ A R w y s
 have z86:=s.inivR 0 Z
 have eS_uo_u53:=s.inisR 0 Z
 have h2:=s.r y 1 Z
 obtain ⟨B,j,d⟩:=s.s B C j q ⟨fun _ h=>h,N⟩
 replace q:=s.left y [(0,⟨uo_u53,So_u53,trR (geB w0.heap.size) (oSl 54 (oPr (oRd eStr) (oSl 3 (oRd (eInt .i64))))) s66 []⟩)] ⟨Z,Z,z86,eS_uo_u53,Z,N⟩
 refine HT.ret ?_
 obtain rfl:=si c
 exact ⟨.inr Z,[R 2],⟨Z,N⟩,zGy Z (q.own 0 _ Z) (q.ok 0 _ Z).2 B j h2 N⟩
theorem zEn {fu : Nat} {A0 : Av} {p0 : List zA2} {r : List zAA} (c : zBt fu p0 = some r) {w : World} {v0 : Value} (d : AvOK A0 w) (hG : GTab w) (h0 : Rep (eSl zA1) A0 w v0 p0) :
 Calls prog 11 #[v0] w fun e w'=>∃ v,e = .returned v∧(Rep (eSl zAD) A0 w' v r∧Fr w w'):=by
 refine Calls.mono (zEy c d hG h0) ?_
 rintro e w' ⟨v,he,h⟩
 exact ⟨v,he,zIc h d⟩
def zBN (fu : Nat) (p0 : List (List UInt8)) (p1 : List (List UInt8)) : Nat → Int → Option (Ex Bool Unit)
 | 0,_=>none
 | k+1,y5=>
 bif (decide (y5<(p0.length:Int))) then (
 ck (inR y5 p0.length) <|
 ck (inR y5 p1.length) <|
 bif (!((gtD p0 y5)==(gtD p1 y5))) then (
 some (Ex.ret false)
 ) else (
 ck (i64B (y5+1)) <|
 zBN fu p0 p1 k (y5+1)
 )
 ) else (
 some (Ex.go ())
 )
def zCa (fu:Nat) (p0:List (List UInt8)) (p1:List (List UInt8)):Option Bool:=
 bif ((p0.length:Int) != (p1.length:Int)) then (
 some false
 ) else (
 cl true (zBN fu p0 p1 fu 0) fun rl2=>
 exM rl2 (fun r=>some r) fun s4=>
 some true
 )
theorem zFZ {fu : Nat} {A : Av} {p0 : List (List UInt8)} {p1 : List (List UInt8)} {r : Bool} (c : zCa fu p0 p1 = some r) {w : World} {v0 : Value} {v1 : Value} (d : AvOK A w) (h0 : Rep (eSl eStr) A w v0 p0) (h1 : Rep (eSl eStr) A w v1 p1) :
 Calls prog 21 #[v0,v1] w fun e w'=>∃ v,e = .returned v∧(v = .bool r∧Fr w w'):=by
 unfold zCa at c
 obtain ⟨w0,hw0,j⟩:=pf w
 rw [fw hw0]
 refine zA5 [.tmp 4] func21 ntmps21 (by decide) Z Z (nb Z) ?_
 intro R hR
 have f_v0:=h0
 replace h0:R 0=v0:=hR 0 _ Z
 have f_v1:=h1
 replace h1:R 1=v1:=hR 1 _ Z
 refine HT.su d j (eB false::[]) ?_ ?_
 exact op (fun Q U W H D=>zA0 Z)<|oz
 intro R w m n p d j
 obtain ⟨h0,h1⟩:=k2 n h0 h1
 replace f_v0:=f_v0.fr m
 replace f_v1:=f_v1.fr m
 refine HT.seq ?_
 refine HT.su d j (eR v0::eI (p0.length:Int)::eR v1::eI (p1.length:Int)::eB ((p0.length:Int) != (p1.length:Int))::[]) ?_ ?_
 exact om h0<|op (fun Q U W H D=>zAN (aT:=#[]) ((f_v0.fr W).eq (D.g 0 Z)) underlying34)<|om h1<|op (fun Q U W H D=>zAN (aT:=#[]) ((f_v1.fr W).eq (D.g 0 Z)) underlying34)<|op (fun Q U W H D=>zES (D.g 0 Z) (D.g 1 Z))<|oz
 intro R w m n p d j
 obtain ⟨h0,h1⟩:=k2 n h0 h1
 have h10:=p.r 4 Z
 replace f_v0:=f_v0.fr m
 replace f_v1:=f_v1.fr m
 refine HT.cond ((p0.length:Int) != (p1.length:Int)) h10 (fun c1=>?_) (fun c1=>?_)
 have c:=zAH c1 c
 refine HT.su d j (eB false::[]) ?_ ?_
 exact op (fun Q U W H D=>zA0 Z)<|oz
 intro R w m n p d j
 have h4:=p.r 0 Z
 refine HT.ret ?_
 obtain rfl:=si c
 exact ⟨.inr Z,[R 4],⟨Z,N⟩,h4,j⟩
 have c:=zAI c1 c
 refine HT.skip ?_
 refine HT.seq ?_
 refine HT.su d j (eI 0::[]) ?_ ?_
 exact op (fun Q U W H D=>zA0 Z)<|oz
 intro R w m n p d j
 obtain ⟨h0,h1⟩:=k2 n h0 h1
 have h5:=p.r 0 Z
 replace f_v0:=f_v0.fr m
 replace f_v1:=f_v1.fr m
 obtain ⟨rl2,q3,c⟩:=zA4 c
 replace q3:=q3 Z
 refine HT.cut0 (fun R w=>∃ (s4:Unit),rl2=Ex.go s4∧AvOK A w∧Fr w0 w) ?_ ?_
 refine HT.block ?_
 refine HT.loop (fun k R w=>∃ (y5:Int),zBN fu p0 p1 k y5=some rl2∧AvOK A w∧Fr w0 w∧R 0=v0∧R 1=v1∧R 5 = .int .i64 y5∧Rep (eSl eStr) A w v0 p0∧Rep (eSl eStr) A w v1 p1) fu ⟨_,q3,d,j,h0,h1,h5,f_v0,f_v1⟩ ?_
 have hr0:=c;clear c q3
 rintro k R w ⟨y5,c,d,j,h0,h1,h5,f_v0,f_v1⟩
 rcases k with _ | k
 cases (show none=some _ from c)
 rw [zBN] at c
 refine HT.seq ?_
 refine HT.su d j (eI y5::eR v0::eI (p0.length:Int)::eB (decide (y5<(p0.length:Int)))::[]) ?_ ?_
 exact om h5<|om h0<|op (fun Q U W H D=>zAN (aT:=#[]) ((f_v0.fr W).eq (D.g 0 Z)) underlying34)<|op (fun Q U W H D=>zAk (D.g 0 Z) (D.g 1 Z))<|oz
 intro R w m n p d j
 obtain ⟨h0,h1,h5⟩:=k3 n h0 h1 h5
 have h14:=p.r 3 Z
 replace f_v0:=f_v0.fr m
 replace f_v1:=f_v1.fr m
 refine HT.cond (decide (y5<(p0.length:Int))) h14 (fun c6=>?_) (fun c6=>?_)
 have c:=zAH c6 c
 refine HT.skip ?_
 refine HT.seq ?_
 refine HT.block ?_
 refine HT.seq ?_
 obtain ⟨e7,e8,c⟩:=ck2 c
 refine HT.draw (by kernel_rfl) (l:=eR v0::eI y5::eF (.qtr eStr A (gtD p0 y5))::eF (.rep eStr A (gtD p0 y5))::eR v1::eI y5::eF (.qtr eStr A (gtD p1 y5))::eF (.rep eStr A (gtD p1 y5))::eB (!((gtD p0 y5)==(gtD p1 y5)))::[]) (tl:=[]) (by kernel_rfl) (by kernel_rfl) (by kernel_rfl) (by kernel_rfl) ?_ ?_
 exact om h0<|om h5<|op (fun Q U W H D=>zAB ((f_v0.fr W).eq (D.g 0 Z)) (D.g 1 Z) underlying34 sizeOf9 e7)<|op (fun Q U W H D=>(zAe (QRep.ptr (D.g 0 Z)) isAgg9 sizeOf9))<|om h1<|om h5<|op (fun Q U W H D=>zAB ((f_v1.fr W).eq (D.g 0 Z)) (D.g 1 Z) underlying34 sizeOf9 e8)<|op (fun Q U W H D=>(zAe (QRep.ptr (D.g 0 Z)) isAgg9 sizeOf9))<|op (fun Q U W H D=>zF3 (D.g 0 Z) (D.g 1 Z))<|oz
 intro R w m n p
 obtain ⟨h0,h1,h5⟩:=k3 n h0 h1 h5
 have h25:=p.r 8 Z
 replace f_v0:=f_v0.fr m
 replace f_v1:=f_v1.fr m
 replace d:=d.fr m.size
 replace j:=j.trans m
 refine HT.cond (!((gtD p0 y5)==(gtD p1 y5))) h25 (fun c9=>?_) (fun c9=>?_)
 have c:=zAH c9 c
 refine HT.su d j (eB false::[]) ?_ ?_
 exact op (fun Q U W H D=>zA0 Z)<|oz
 intro R w m n p d j
 have h4:=p.r 0 Z
 refine HT.ret ?_
 obtain rfl:=si c
 have c:=hr0
 replace c:some _=some _:=c
 obtain rfl:=si c
 exact ⟨.inr Z,[R 4],⟨Z,N⟩,h4,j⟩
 have c:=zAI c9 c
 refine HT.skip ?_
 obtain ⟨e10,c⟩:=zA3 c
 refine HT.u d j (eI y5::eI (y5+1)::eI (y5+1)::[]) ?_ ?_
 exact om h5<|op (fun Q U W H D=>zAU (D.g 0 Z) Z e10)<|oa<|oz
 intro R w m n p d j
 obtain ⟨h0,h1⟩:=k2 n h0 h1
 have h5:=p.r 2 Z
 replace f_v0:=f_v0.fr m
 replace f_v1:=f_v1.fr m
 exact ei k (And.intro (Nat.lt_succ_self k) ⟨_,c,d,j,h0,h1,h5,f_v0,f_v1⟩)
 have c:=zAI c6 c
 refine HT.exit ?_
 obtain rfl:=si c
 exact ei _ ⟨Z,d,j⟩
 rintro R w ⟨s4,rfl,d,j⟩
 have c:=zEC c
 refine HT.su d j (eB true::[]) ?_ ?_
 exact op (fun Q U W H D=>zA0 Z)<|oz
 intro R w m n p d j
 have h4:=p.r 0 Z
 refine HT.ret ?_
 obtain rfl:=si c
 exact ⟨.inr Z,[R 4],⟨Z,N⟩,h4,j⟩
def zCy (fu:Nat) (p0:zA2) (p1:zA2):Option Bool:=
 bif (p0.1 != p1.1) then (
 some false
 ) else (
 bif (p0.2.1 != p1.2.1) then (
 some false
 ) else (
 bif (p0.2.2.1 != p1.2.2.1) then (
 some false
 ) else (
 cl true (zCa fu p0.2.2.2 p1.2.2.2) fun x6=>
 bif (!x6) then (
 some false
 ) else (
 some true
 )
 )
 )
 )
theorem zG8 {fu : Nat} {A0 : Av} {p0 : zA2} {p1 : zA2} {r : Bool} (c : zCy fu p0 p1 = some r) {w : World} {v0 : Value} {v1 : Value} (d : AvOK A0 w) (h0 : Rep zA1 A0 w v0 p0) (h1 : Rep zA1 A0 w v1 p1) :
 Calls prog 44 #[v0,v1] w fun e w'=>∃ v,e = .returned v∧(v = .bool r∧Fr w w'):=by
 unfold zCy at c
 obtain ⟨w0,hw0,j,C⟩:=pw d
 have hA00:AvOK A0 w0:=C
 rw [fw hw0]
 obtain ⟨A,hAe,B,d,q⟩:=pa d
 refine zA5 [.tmp 4] func44 ntmps44 (by decide) Z Z (nb Z) ?_
 intro R hR
 have f_v0:Rep zA1 A w v0 p0:=hAe ▸ h0
 replace h0:R 0=v0:=hR 0 _ Z
 have f_v1:Rep zA1 A w v1 p1:=hAe ▸ h1
 replace h1:R 1=v1:=hR 1 _ Z
 refine HT.sx [] (⟨_,true,[],some (.box w0.heap.size 51 zA1 p0),true,fun A=>.any⟩::⟨_,true,[],some (.box w0.heap.size 51 zA1 p1),true,fun A=>.any⟩::rB false::[]) (ua (ua (ur (UAll.nil)))) q d ?_ ?_
 exact rc (OblR.made _ Z Z Z Z fun V Q U O D=>by have a0:Q 0=v0:=(O.old 0 Z).trans h0;have ra0:=(f_v0.stp O.stp).eq a0;exact zE2 ra0 (Nat.le_trans j.size O.ch.size))<|rc (OblR.made _ Z Z Z Z fun V Q U O D=>by have a0:Q 1=v1:=(O.old 1 Z).trans h1;have ra0:=(f_v1.stp O.stp).eq a0;exact zE2 ra0 (Nat.le_trans j.size O.ch.size))<|rp (fun V Q U O D=>zA0 Z)<|rz
 intro done ρ σ A R w y s
 obtain ⟨b2_0,e_b2_0⟩:=s.boxv y 0 Z Z
 have h2:=s.ov y 0 0 e_b2_0
 obtain ⟨b3_1,e_b3_1⟩:=s.boxv y 1 Z Z
 have h3:=s.ov y 1 1 e_b3_1
 obtain ⟨B,j,d⟩:=s.s B C j q N
 replace q:=s.left y [(0,ob (.pointer (some ⟨b2_0,0,none⟩)) (.box w0.heap.size 51 zA1 p0)),(1,ob (.pointer (some ⟨b3_1,0,none⟩)) (.box w0.heap.size 51 zA1 p1))] ⟨Z,Z,e_b2_0,Z,Z,⟨Z,Z,e_b3_1,Z,Z,N⟩⟩
 refine HT.seq ?_
 refine HT.su d j (eR (.pointer (some ⟨b2_0,0,none⟩))::eI p0.1::eR (.pointer (some ⟨b3_1,0,none⟩))::eI p1.1::eB (p0.1 != p1.1)::[]) ?_ ?_
 exact op (fun Q U W H D=>zA7 ((H 2 Z).trans h2) zGv sizeOf3 (by decide) Z)<|op (fun Q U W H D=>OpF.int (zAF ((q.fr W).ok 0 _ Z).1 (D.g 0 Z) zCe Z isAgg3 sizeOf3))<|op (fun Q U W H D=>zA7 ((H 3 Z).trans h3) zGv sizeOf3 (by decide) Z)<|op (fun Q U W H D=>OpF.int (zAF ((q.fr W).ok 1 _ Z).1 (D.g 0 Z) zCe Z isAgg3 sizeOf3))<|op (fun Q U W H D=>zES (D.g 0 Z) (D.g 1 Z))<|oz
 intro R w m n p d j
 obtain ⟨h2,h3⟩:=k2 n h2 h3
 have h9:=p.r 4 Z
 replace q:=q.fr m
 refine HT.cond (p0.1 != p1.1) h9 (fun c3=>?_) (fun c3=>?_)
 have c:=zAH c3 c
 refine HT.su d j (eB false::[]) ?_ ?_
 exact op (fun Q U W H D=>zA0 Z)<|oz
 intro R w m n p d j
 have h4:=p.r 0 Z
 replace q:=q.fr m
 replace q:IniOK [] A w:=q.sub [] N
 refine HT.ret ?_
 obtain rfl:=si c
 exact ⟨.inr Z,[R 4],⟨Z,N⟩,h4,j⟩
 have c:=zAI c3 c
 refine HT.skip ?_
 refine HT.seq ?_
 refine HT.su d j (eR (.pointer (some ⟨b2_0,1,none⟩))::eI p0.2.1::eR (.pointer (some ⟨b3_1,1,none⟩))::eI p1.2.1::eB (p0.2.1 != p1.2.1)::[]) ?_ ?_
 exact op (fun Q U W H D=>zA7 ((H 2 Z).trans h2) zH3 sizeOf3 (by decide) Z)<|op (fun Q U W H D=>OpF.int (zAF ((q.fr W).ok 0 _ Z).1 (D.g 0 Z) zCg Z isAgg3 sizeOf3))<|op (fun Q U W H D=>zA7 ((H 3 Z).trans h3) zH3 sizeOf3 (by decide) Z)<|op (fun Q U W H D=>OpF.int (zAF ((q.fr W).ok 1 _ Z).1 (D.g 0 Z) zCg Z isAgg3 sizeOf3))<|op (fun Q U W H D=>zES (D.g 0 Z) (D.g 1 Z))<|oz
 intro R w m n p d j
 obtain ⟨h2,h3⟩:=k2 n h2 h3
 have h14:=p.r 4 Z
 replace q:=q.fr m
 refine HT.cond (p0.2.1 != p1.2.1) h14 (fun c4=>?_) (fun c4=>?_)
 have c:=zAH c4 c
 refine HT.su d j (eB false::[]) ?_ ?_
 exact op (fun Q U W H D=>zA0 Z)<|oz
 intro R w m n p d j
 have h4:=p.r 0 Z
 replace q:=q.fr m
 replace q:IniOK [] A w:=q.sub [] N
 refine HT.ret ?_
 obtain rfl:=si c
 exact ⟨.inr Z,[R 4],⟨Z,N⟩,h4,j⟩
 have c:=zAI c4 c
 refine HT.skip ?_
 refine HT.seq ?_
 refine HT.su d j (eR (.pointer (some ⟨b2_0,2,none⟩))::eI p0.2.2.1::eR (.pointer (some ⟨b3_1,2,none⟩))::eI p1.2.2.1::eB (p0.2.2.1 != p1.2.2.1)::[]) ?_ ?_
 exact op (fun Q U W H D=>zA7 ((H 2 Z).trans h2) zH5 sizeOf3 (by decide) Z)<|op (fun Q U W H D=>OpF.int (zAF ((q.fr W).ok 0 _ Z).1 (D.g 0 Z) zCi Z isAgg3 sizeOf3))<|op (fun Q U W H D=>zA7 ((H 3 Z).trans h3) zH5 sizeOf3 (by decide) Z)<|op (fun Q U W H D=>OpF.int (zAF ((q.fr W).ok 1 _ Z).1 (D.g 0 Z) zCi Z isAgg3 sizeOf3))<|op (fun Q U W H D=>zES (D.g 0 Z) (D.g 1 Z))<|oz
 intro R w m n p d j
 obtain ⟨h2,h3⟩:=k2 n h2 h3
 have h19:=p.r 4 Z
 replace q:=q.fr m
 refine HT.cond (p0.2.2.1 != p1.2.2.1) h19 (fun c5=>?_) (fun c5=>?_)
 have c:=zAH c5 c
 refine HT.su d j (eB false::[]) ?_ ?_
 exact op (fun Q U W H D=>zA0 Z)<|oz
 intro R w m n p d j
 have h4:=p.r 0 Z
 replace q:=q.fr m
 replace q:IniOK [] A w:=q.sub [] N
 refine HT.ret ?_
 obtain rfl:=si c
 exact ⟨.inr Z,[R 4],⟨Z,N⟩,h4,j⟩
 have c:=zAI c5 c
 refine HT.skip ?_
 refine HT.seq ?_
 obtain ⟨x6,q7,c⟩:=zA4 c
 refine HT.su d j (eR (.pointer (some ⟨b2_0,3,none⟩))::eF (.rep (eSl eStr) A p0.2.2.2)::eR (.pointer (some ⟨b3_1,3,none⟩))::eF (.rep (eSl eStr) A p1.2.2.2)::eB x6::eB (!x6)::[]) ?_ ?_
 exact op (fun Q U W H D=>zA7 ((H 2 Z).trans h2) zCO sizeOf34 (by decide) Z)<|op (fun Q U W H D=>(zAF ((q.fr W).ok 0 _ Z).1 (D.g 0 Z) zAJ Z isAgg34 sizeOf34))<|op (fun Q U W H D=>zA7 ((H 3 Z).trans h3) zCO sizeOf34 (by decide) Z)<|op (fun Q U W H D=>(zAF ((q.fr W).ok 1 _ Z).1 (D.g 0 Z) zAJ Z isAgg34 sizeOf34))<|op (fun Q U W H D=>zAC call21 (zFZ (q7 Z) (d.fr W.size) (D.g 0 Z) (D.g 1 Z)))<|op (fun Q U W H D=>zCx (D.g 0 Z))<|oz
 intro R w m n p d j
 have h25:=p.r 5 Z
 replace q:=q.fr m
 replace q:IniOK [] A w:=q.sub [] N
 refine HT.cond (!x6) h25 (fun c8=>?_) (fun c8=>?_)
 have c:=zAH c8 c
 refine HT.su d j (eB false::[]) ?_ ?_
 exact op (fun Q U W H D=>zA0 Z)<|oz
 intro R w m n p d j
 have h4:=p.r 0 Z
 replace q:=q.fr m
 refine HT.ret ?_
 obtain rfl:=si c
 exact ⟨.inr Z,[R 4],⟨Z,N⟩,h4,j⟩
 have c:=zAI c8 c
 refine HT.skip ?_
 refine HT.su d j (eB true::[]) ?_ ?_
 exact op (fun Q U W H D=>zA0 Z)<|oz
 intro R w m n p d j
 have h4:=p.r 0 Z
 replace q:=q.fr m
 refine HT.ret ?_
 obtain rfl:=si c
 exact ⟨.inr Z,[R 4],⟨Z,N⟩,h4,j⟩
def zBW (fu : Nat) (p0 : List zA2) (p1 : List zA2) : Nat → Int → Option (Ex Bool Unit)
 | 0,_=>none
 | k+1,y5=>
 bif (decide (y5<(p0.length:Int))) then (
 ck (inR y5 p0.length) <|
 ck (inR y5 p1.length) <|
 cl true (zCy fu (gtD p0 y5) (gtD p1 y5)) fun x9=>
 bif (!x9) then (
 some (Ex.ret false)
 ) else (
 ck (i64B (y5+1)) <|
 zBW fu p0 p1 k (y5+1)
 )
 ) else (
 some (Ex.go ())
 )
def zCE (fu:Nat) (p0:List zA2) (p1:List zA2):Option Bool:=
 bif ((p0.length:Int) != (p1.length:Int)) then (
 some false
 ) else (
 cl true (zBW fu p0 p1 fu 0) fun rl2=>
 exM rl2 (fun r=>some r) fun s4=>
 some true
 )
theorem zFd {fu : Nat} {A : Av} {p0 : List zA2} {p1 : List zA2} {r : Bool} (c : zCE fu p0 p1 = some r) {w : World} {v0 : Value} {v1 : Value} (d : AvOK A w) (h0 : Rep (eSl zA1) A w v0 p0) (h1 : Rep (eSl zA1) A w v1 p1) :
 Calls prog 13 #[v0,v1] w fun e w'=>∃ v,e = .returned v∧(v = .bool r∧Fr w w'):=by
 unfold zCE at c
 obtain ⟨w0,hw0,j⟩:=pf w
 rw [fw hw0]
 refine zA5 [.tmp 4] func13 ntmps13 (by decide) Z Z (nb Z) ?_
 intro R hR
 have f_v0:=h0
 replace h0:R 0=v0:=hR 0 _ Z
 have f_v1:=h1
 replace h1:R 1=v1:=hR 1 _ Z
 refine HT.su d j (eB false::[]) ?_ ?_
 exact op (fun Q U W H D=>zA0 Z)<|oz
 intro R w m n p d j
 obtain ⟨h0,h1⟩:=k2 n h0 h1
 replace f_v0:=f_v0.fr m
 replace f_v1:=f_v1.fr m
 refine HT.seq ?_
 refine HT.su d j (eR v0::eI (p0.length:Int)::eR v1::eI (p1.length:Int)::eB ((p0.length:Int) != (p1.length:Int))::[]) ?_ ?_
 exact om h0<|op (fun Q U W H D=>zAN (aT:=#[]) ((f_v0.fr W).eq (D.g 0 Z)) underlying26)<|om h1<|op (fun Q U W H D=>zAN (aT:=#[]) ((f_v1.fr W).eq (D.g 0 Z)) underlying26)<|op (fun Q U W H D=>zES (D.g 0 Z) (D.g 1 Z))<|oz
 intro R w m n p d j
 obtain ⟨h0,h1⟩:=k2 n h0 h1
 have h10:=p.r 4 Z
 replace f_v0:=f_v0.fr m
 replace f_v1:=f_v1.fr m
 refine HT.cond ((p0.length:Int) != (p1.length:Int)) h10 (fun c1=>?_) (fun c1=>?_)
 have c:=zAH c1 c
 refine HT.su d j (eB false::[]) ?_ ?_
 exact op (fun Q U W H D=>zA0 Z)<|oz
 intro R w m n p d j
 have h4:=p.r 0 Z
 refine HT.ret ?_
 obtain rfl:=si c
 exact ⟨.inr Z,[R 4],⟨Z,N⟩,h4,j⟩
 have c:=zAI c1 c
 refine HT.skip ?_
 refine HT.seq ?_
 refine HT.su d j (eI 0::[]) ?_ ?_
 exact op (fun Q U W H D=>zA0 Z)<|oz
 intro R w m n p d j
 obtain ⟨h0,h1⟩:=k2 n h0 h1
 have h5:=p.r 0 Z
 replace f_v0:=f_v0.fr m
 replace f_v1:=f_v1.fr m
 obtain ⟨rl2,q3,c⟩:=zA4 c
 replace q3:=q3 Z
 refine HT.cut0 (fun R w=>∃ (s4:Unit),rl2=Ex.go s4∧AvOK A w∧Fr w0 w) ?_ ?_
 refine HT.block ?_
 refine HT.loop (fun k R w=>∃ (y5:Int),zBW fu p0 p1 k y5=some rl2∧AvOK A w∧Fr w0 w∧R 0=v0∧R 1=v1∧R 5 = .int .i64 y5∧Rep (eSl zA1) A w v0 p0∧Rep (eSl zA1) A w v1 p1) fu ⟨_,q3,d,j,h0,h1,h5,f_v0,f_v1⟩ ?_
 have hr0:=c;clear c q3
 rintro k R w ⟨y5,c,d,j,h0,h1,h5,f_v0,f_v1⟩
 rcases k with _ | k
 cases (show none=some _ from c)
 rw [zBW] at c
 refine HT.seq ?_
 refine HT.su d j (eI y5::eR v0::eI (p0.length:Int)::eB (decide (y5<(p0.length:Int)))::[]) ?_ ?_
 exact om h5<|om h0<|op (fun Q U W H D=>zAN (aT:=#[]) ((f_v0.fr W).eq (D.g 0 Z)) underlying26)<|op (fun Q U W H D=>zAk (D.g 0 Z) (D.g 1 Z))<|oz
 intro R w m n p d j
 obtain ⟨h0,h1,h5⟩:=k3 n h0 h1 h5
 have h14:=p.r 3 Z
 replace f_v0:=f_v0.fr m
 replace f_v1:=f_v1.fr m
 refine HT.cond (decide (y5<(p0.length:Int))) h14 (fun c6=>?_) (fun c6=>?_)
 have c:=zAH c6 c
 refine HT.skip ?_
 refine HT.seq ?_
 refine HT.block ?_
 refine HT.seq ?_
 obtain ⟨e7,e8,c⟩:=ck2 c
 obtain ⟨x9,q10,c⟩:=zA4 c
 refine HT.draw (by kernel_rfl) (l:=eR v0::eI y5::eF (.qtr zA1 A (gtD p0 y5))::eF (.rep zA1 A (gtD p0 y5))::eR v1::eI y5::eF (.qtr zA1 A (gtD p1 y5))::eF (.rep zA1 A (gtD p1 y5))::eB x9::eB (!x9)::[]) (tl:=[]) (by kernel_rfl) (by kernel_rfl) (by kernel_rfl) (by kernel_rfl) ?_ ?_
 exact om h0<|om h5<|op (fun Q U W H D=>zAB ((f_v0.fr W).eq (D.g 0 Z)) (D.g 1 Z) underlying26 sizeOf51 e7)<|op (fun Q U W H D=>(zAe (QRep.ptr (D.g 0 Z)) isAgg51 sizeOf51))<|om h1<|om h5<|op (fun Q U W H D=>zAB ((f_v1.fr W).eq (D.g 0 Z)) (D.g 1 Z) underlying26 sizeOf51 e8)<|op (fun Q U W H D=>(zAe (QRep.ptr (D.g 0 Z)) isAgg51 sizeOf51))<|op (fun Q U W H D=>zAC call44 (zG8 (q10 Z) (d.fr W.size) (D.g 0 Z) (D.g 1 Z)))<|op (fun Q U W H D=>zCx (D.g 0 Z))<|oz
 intro R w m n p
 obtain ⟨h0,h1,h5⟩:=k3 n h0 h1 h5
 have h26:=p.r 9 Z
 replace f_v0:=f_v0.fr m
 replace f_v1:=f_v1.fr m
 replace d:=d.fr m.size
 replace j:=j.trans m
 refine HT.cond (!x9) h26 (fun c11=>?_) (fun c11=>?_)
 have c:=zAH c11 c
 refine HT.su d j (eB false::[]) ?_ ?_
 exact op (fun Q U W H D=>zA0 Z)<|oz
 intro R w m n p d j
 have h4:=p.r 0 Z
 refine HT.ret ?_
 obtain rfl:=si c
 have c:=hr0
 replace c:some _=some _:=c
 obtain rfl:=si c
 exact ⟨.inr Z,[R 4],⟨Z,N⟩,h4,j⟩
 have c:=zAI c11 c
 refine HT.skip ?_
 obtain ⟨e12,c⟩:=zA3 c
 refine HT.u d j (eI y5::eI (y5+1)::eI (y5+1)::[]) ?_ ?_
 exact om h5<|op (fun Q U W H D=>zAU (D.g 0 Z) Z e12)<|oa<|oz
 intro R w m n p d j
 obtain ⟨h0,h1⟩:=k2 n h0 h1
 have h5:=p.r 2 Z
 replace f_v0:=f_v0.fr m
 replace f_v1:=f_v1.fr m
 exact ei k (And.intro (Nat.lt_succ_self k) ⟨_,c,d,j,h0,h1,h5,f_v0,f_v1⟩)
 have c:=zAI c6 c
 refine HT.exit ?_
 obtain rfl:=si c
 exact ei _ ⟨Z,d,j⟩
 rintro R w ⟨s4,rfl,d,j⟩
 have c:=zEC c
 refine HT.su d j (eB true::[]) ?_ ?_
 exact op (fun Q U W H D=>zA0 Z)<|oz
 intro R w m n p d j
 have h4:=p.r 0 Z
 refine HT.ret ?_
 obtain rfl:=si c
 exact ⟨.inr Z,[R 4],⟨Z,N⟩,h4,j⟩
end Go.Proofs.YtldppodfhabkjaaGreatDoor
namespace Go.Proofs.YtldppodfhabkjaaGreatDoor
open Go.RowKit
set_option linter.unusedVariables false
open _root_.Go.Proofs.Tryz
set_option maxRecDepth 100000
set_option maxHeartbeats 4000000
end Go.Proofs.YtldppodfhabkjaaGreatDoor
namespace Go.Proofs.YtldppodfhabkjaaGreatDoor
open Go.RowKit
set_option linter.unusedVariables false
open _root_.Go.Proofs.Tryz
set_option maxRecDepth 100000
set_option maxHeartbeats 4000000
def zAb (fu : Nat) (x1 : List zAA) : Nat → Int → Int → Option Int
 | 0,_,_=>none
 | k+1,y7,y8=>
 bif (decide (y8<(x1.length:Int))) then (
 ck (inR y8 x1.length) <|
 ck (i64B (y8+1)) <|
 zAb fu x1 k (max y7 (((gtD x1 y8).2).length:Int)) (y8+1)
 ) else (
 some y7
 )
def zBL (fu:Nat) (p0:List zA2):Option Int:=
 cl true (zBs fu p0) fun x1=>
 cl true (zAb fu x1 fu 0 0) fun s6=>
 some s6
theorem zEt {fu : Nat} {A : Av} {p0 : List zA2} {r : Int} (c : zBL fu p0 = some r) {w : World} {v0 : Value} (d : AvOK A w) (h0 : Rep (eSl zA1) A w v0 p0) :
 Calls prog 17 #[v0] w fun e w'=>∃ v,e = .returned v∧(v = .int .i64 r∧Fr w w'):=by
 unfold zBL at c
 obtain ⟨w0,hw0,j⟩:=pf w
 rw [fw hw0]
 refine zA5 [.tmp 2] func17 ntmps17 (by decide) Z Z (nb Z) ?_
 intro R hR
 have f_v0:=h0
 replace h0:R 0=v0:=hR 0 _ Z
 refine HT.su d j (eI 0::[]) ?_ ?_
 exact op (fun Q U W H D=>zA0 Z)<|oz
 intro R w m n p d j
 replace h0:=k1 n h0
 replace f_v0:=f_v0.fr m
 refine HT.su d j (eI 0::[]) ?_ ?_
 exact op (fun Q U W H D=>zA0 Z)<|oz
 intro R w m n p d j
 replace h0:=k1 n h0
 have h3:=p.r 0 Z
 replace f_v0:=f_v0.fr m
 obtain ⟨x1,q2,c⟩:=zA4 c
 refine HT.su d j (eR v0::eF (.rep (eSl zAD) A x1)::eF (.rep (eSl zAD) A x1)::[]) ?_ ?_
 exact om h0<|op (fun Q U W H D=>zAC call9 (zEp (q2 Z) (d.fr W.size) ((f_v0.fr W).eq (D.g 0 Z))))<|op (fun Q U W H D=>zA0 (D.g 0 Z))<|oz
 intro R w m n p d j
 replace h3:=k1 n h3
 obtain ⟨u3,h4,f_u3⟩:∃ u,R 4=u∧Rep (eSl zAD) A w u x1:=⟨_,Z,p 2 _ _ Z Z Z⟩
 refine HT.seq ?_
 refine HT.su d j (eI 0::[]) ?_ ?_
 exact op (fun Q U W H D=>zA0 Z)<|oz
 intro R w m n p d j
 obtain ⟨h3,h4⟩:=k2 n h3 h4
 have h5:=p.r 0 Z
 replace f_u3:=f_u3.fr m
 obtain ⟨rl4,q5,c⟩:=zA4 c
 replace q5:=q5 Z
 refine HT.cut0 (fun R w=>∃ (s6:Int),rl4=s6∧AvOK A w∧Fr w0 w∧R 3 = .int .i64 s6) ?_ ?_
 refine HT.block ?_
 refine HT.loop (fun k R w=>∃ (y7:Int) (y8:Int),zAb fu x1 k y7 y8=some rl4∧AvOK A w∧Fr w0 w∧R 3 = .int .i64 y7∧R 4=u3∧R 5 = .int .i64 y8∧Rep (eSl zAD) A w u3 x1) fu ⟨_,_,q5,d,j,h3,h4,h5,f_u3⟩ ?_
 have hr0:=c;clear c q5
 rintro k R w ⟨y7,y8,c,d,j,h3,h4,h5,f_u3⟩
 rcases k with _ | k
 cases (show none=some _ from c)
 rw [zAb] at c
 refine HT.seq ?_
 refine HT.su d j (eI y8::eR u3::eI (x1.length:Int)::eB (decide (y8<(x1.length:Int)))::[]) ?_ ?_
 exact om h5<|om h4<|op (fun Q U W H D=>zAN (aT:=#[]) ((f_u3.fr W).eq (D.g 0 Z)) underlying24)<|op (fun Q U W H D=>zAk (D.g 0 Z) (D.g 1 Z))<|oz
 intro R w m n p d j
 obtain ⟨h3,h4,h5⟩:=k3 n h3 h4 h5
 have h11:=p.r 3 Z
 replace f_u3:=f_u3.fr m
 refine HT.cond (decide (y8<(x1.length:Int))) h11 (fun c9=>?_) (fun c9=>?_)
 have c:=zAH c9 c
 refine HT.skip ?_
 refine HT.seq ?_
 refine HT.block ?_
 obtain ⟨e10,c⟩:=zA3 c
 refine HT.u d j (eI y7::eR u3::eI y8::eF (.qtr zAD A (gtD x1 y8))::eF (.qtr (eSl (eInt .i64)) A ((gtD x1 y8).2))::eF (.rep (eSl (eInt .i64)) A ((gtD x1 y8).2))::eI (((gtD x1 y8).2).length:Int)::eI (max y7 (((gtD x1 y8).2).length:Int))::eI (max y7 (((gtD x1 y8).2).length:Int))::[]) ?_ ?_
 exact om h3<|om h4<|om h5<|op (fun Q U W H D=>zAB ((f_u3.fr W).eq (D.g 0 Z)) (D.g 1 Z) underlying24 sizeOf54 e10)<|op (fun Q U W H D=>zHC (qt (D.g 0 Z)) zI5 sizeOf52 (by decide) zF0 Z)<|op (fun Q U W H D=>(zAe (QRep.ptr (D.g 0 Z)) isAgg52 sizeOf52))<|op (fun Q U W H D=>zAN (aT:=#[]) (D.g 0 Z) underlying52)<|op (fun Q U W H D=>zKi (D.g 0 Z) (D.g 1 Z))<|oa<|oz
 intro R w m n p d j
 obtain ⟨h4,h5⟩:=k2 n h4 h5
 have h3:=p.r 8 Z
 replace f_u3:=f_u3.fr m
 obtain ⟨e11,c⟩:=zA3 c
 refine HT.u d j (eI y8::eI (y8+1)::eI (y8+1)::[]) ?_ ?_
 exact om h5<|op (fun Q U W H D=>zAU (D.g 0 Z) Z e11)<|oa<|oz
 intro R w m n p d j
 obtain ⟨h3,h4⟩:=k2 n h3 h4
 have h5:=p.r 2 Z
 replace f_u3:=f_u3.fr m
 exact ei k (And.intro (Nat.lt_succ_self k) ⟨_,_,c,d,j,h3,h4,h5,f_u3⟩)
 have c:=zAI c9 c
 refine HT.exit ?_
 obtain rfl:=si c
 exact ei _ ⟨Z,d,j,h3⟩
 rintro R w ⟨s6,es,d,j,h3⟩
 obtain rfl:=es.symm
 refine HT.su d j (eI s6::eI s6::[]) ?_ ?_
 exact om h3<|oa<|oz
 intro R w m n p d j
 have h2:=p.r 1 Z
 refine HT.ret ?_
 obtain rfl:=si c
 exact ⟨.inr Z,[R 2],⟨Z,N⟩,h2,j⟩
def zAc (fu : Nat) (x1 : List zAA) : Nat → Int → Int → Option Int
 | 0,_,_=>none
 | k+1,y7,y8=>
 bif (decide (y8<(x1.length:Int))) then (
 ck (inR y8 x1.length) <|
 ck (i64B (y8+1)) <|
 zAc fu x1 k (max y7 (((gtD x1 y8).2).length:Int)) (y8+1)
 ) else (
 some y7
 )
def zBQ (fu:Nat) (p0:List zA2):Option Int:=
 cl true (zBt fu p0) fun x1=>
 cl true (zAc fu x1 fu 0 0) fun s6=>
 some s6
theorem zEo {fu : Nat} {A0 : Av} {p0 : List zA2} {r : Int} (c : zBQ fu p0 = some r) {w : World} {v0 : Value} (d : AvOK A0 w) (hG : GTab w) (h0 : Rep (eSl zA1) A0 w v0 p0) :
 Calls prog 18 #[v0] w fun e w'=>∃ v,e = .returned v∧(v = .int .i64 r∧Fr w w'):=by
 unfold zBQ at c
 obtain ⟨w0,hw0,j,C⟩:=pw d
 have hA00:AvOK A0 w0:=C
 rw [fw hw0]
 have hG0:GTab w0:=hw0 ▸ hG
 obtain ⟨A,hAe,B,d,q⟩:=pa d
 refine zA5 [.tmp 2] func18 ntmps18 (by decide) Z Z (nb Z) ?_
 intro R hR
 have f_v0:Rep (eSl zA1) A w v0 p0:=hAe ▸ h0
 replace h0:R 0=v0:=hR 0 _ Z
 refine HT.su d j (eI 0::[]) ?_ ?_
 exact op (fun Q U W H D=>zA0 Z)<|oz
 intro R w m n p d j
 replace h0:=k1 n h0
 replace f_v0:=f_v0.fr m
 replace q:=q.fr m
 refine HT.su d j (eI 0::[]) ?_ ?_
 exact op (fun Q U W H D=>zA0 Z)<|oz
 intro R w m n p d j
 replace h0:=k1 n h0
 have h3:=p.r 0 Z
 replace f_v0:=f_v0.fr m
 replace q:=q.fr m
 refine HT.seq ?_
 obtain ⟨x1,q2,c⟩:=zA4 c
 refine HT.su d j (eR v0::eF (.rep (eSl zAD) A x1)::eI (x1.length:Int)::eI 0::[]) ?_ ?_
 exact om h0<|op (fun Q U W H D=>zAC call11 (zEn (q2 Z) (d.fr W.size) (hG0.fr (j.trans W)) ((f_v0.fr W).eq (D.g 0 Z))))<|op (fun Q U W H D=>zAN (aT:=#[]) (D.g 0 Z) underlying24)<|op (fun Q U W H D=>zBl Z)<|oz
 intro R w m n p d j
 replace h3:=k1 n h3
 obtain ⟨u3,h7,f_u3⟩:∃ u,R 7=u∧Rep (eSl zAD) A w u x1:=⟨_,Z,p 1 _ _ Z Z Z⟩
 have h8:=p.r 2 Z
 have h9:=p.r 3 Z
 replace q:=q.fr m
 obtain ⟨rl4,q5,c⟩:=zA4 c
 replace q5:=q5 Z
 refine HT.cut0 (fun R w=>∃ A:Av,∃ (s6:Int),rl4=s6∧AvOK A w∧Fr w0 w∧(∀ b o,A0 b o→A b o)∧IniOK [] A w∧R 3 = .int .i64 s6) ?_ ?_
 refine HT.block ?_
 refine HT.loop (fun k R w=>∃ A:Av,∃ (y7:Int) (y8:Int),zAc fu x1 k y7 y8=some rl4∧AvOK A w∧Fr w0 w∧(∀ b o,A0 b o→A b o)∧IniOK [] A w∧R 3 = .int .i64 y7∧R 7=u3∧R 8 = .int .i64 (x1.length:Int)∧R 9 = .int .i64 y8∧Rep (eSl zAD) A w u3 x1) fu ⟨_,_,_,q5,d,j,B,q,h3,h7,h8,h9,f_u3⟩ ?_
 have hr0:=c;clear c q5
 rintro k R w ⟨A,y7,y8,c,d,j,B,q,h3,h7,h8,h9,f_u3⟩
 rcases k with _ | k
 cases (show none=some _ from c)
 rw [zAc] at c
 refine HT.su d j (eB (decide (y8<(x1.length:Int)))::[]) ?_ ?_
 exact op (fun Q U W H D=>zAk ((H 9 Z).trans h9) ((H 8 Z).trans h8))<|oz
 intro R w m n p d j
 obtain ⟨h3,h7,h8,h9⟩:=k4 n h3 h7 h8 h9
 have h10:=p.r 0 Z
 replace f_u3:=f_u3.fr m
 replace q:=q.fr m
 refine HT.seq ?_
 refine HT.cond (decide (y8<(x1.length:Int))) h10 (fun c9=>?_) (fun c9=>?_)
 have c:=zAH c9 c
 refine HT.skip ?_
 refine HT.seq ?_
 refine HT.block ?_
 obtain ⟨e10,c⟩:=zA3 c
 refine HT.sx [] ((rF fun A=>.qtr zAD A (gtD x1 y8))::(rF fun A=>.rep zAD A (gtD x1 y8))::⟨_,true,[],some (.box w0.heap.size 54 zAD (([]:List UInt8),([]:List Int))),true,fun A=>.any⟩::⟨_,true,[2],some (.box w0.heap.size 54 zAD (gtD x1 y8)),false,fun A=>.any⟩::[]) (UAll.cons zEE (up (ua (ua (UAll.nil))))) q d ?_ ?_
 exact rp (fun V Q U O D=>zAB ((f_u3.stp O.stp).eq ((O.old 7 Z).trans h7)) ((O.old 9 Z).trans h9) underlying24 sizeOf54 e10)<|rp (fun V Q U O D=>(zAe (QRep.ptr (D.g 0 Z)) isAgg54 sizeOf54))<|rc (OblR.made _ Z Z Z Z fun V Q U O D=>by exact zHX zeroValue54 (fun A w=>zJc (zGa Z (by decide)) zGZ) (Nat.le_trans j.size O.ch.size))<|rc (OblR.took 2 _ _ Z Z Z Z Z fun V Q U O D u X Y J L M=>by have a1:Rep zAD V U (Q 12) (gtD x1 y8):=D.g 1 Z;obtain ⟨b,hb,hB',hbx⟩:=X;have hop':=L _ _ Z Z Z Z;exact zHT a1 (hop'.symm.trans hb) hb ⟨b,hb,hB',hbx⟩ Y (FldS.id _) sizeOf54 Z)<|rz
 intro done ρ σ A R w y s
 obtain ⟨h3,h7,h8,h9⟩:=k4 s.rg h3 h7 h8 h9
 obtain ⟨b5_10,e_b5_10⟩:=s.boxv y 3 Z Z
 have z12:=(s.opnR y 3 3 Z Z Z Z Z).symm.trans e_b5_10
 have h5:=s.ov y 2 2 z12
 replace f_u3:=f_u3.stp s.stp
 obtain ⟨B,j,d⟩:=s.s B C j q N
 replace q:=s.left y [(3,ob (.pointer (some ⟨b5_10,0,none⟩)) (.box w0.heap.size 54 zAD (gtD x1 y8)))] ⟨Z,Z,e_b5_10,Z,Z,N⟩
 refine HT.u d j (eI y7::eR (.pointer (some ⟨b5_10,1,none⟩))::eF (.rep (eSl (eInt .i64)) A ((gtD x1 y8).2))::eI (((gtD x1 y8).2).length:Int)::eI (max y7 (((gtD x1 y8).2).length:Int))::eI (max y7 (((gtD x1 y8).2).length:Int))::[]) ?_ ?_
 exact om h3<|op (fun Q U W H D=>zA7 ((H 5 Z).trans h5) zI5 sizeOf52 (by decide) Z)<|op (fun Q U W H D=>(zAF ((q.fr W).ok 0 _ Z).1 (D.g 0 Z) zF0 Z isAgg52 sizeOf52))<|op (fun Q U W H D=>zAN (aT:=#[]) (D.g 0 Z) underlying52)<|op (fun Q U W H D=>zKi (D.g 0 Z) (D.g 1 Z))<|oa<|oz
 intro R w m n p d j
 obtain ⟨h7,h8,h9⟩:=k3 n h7 h8 h9
 have h3:=p.r 5 Z
 replace f_u3:=f_u3.fr m
 replace q:=q.fr m
 replace q:IniOK [] A w:=q.sub [] N
 obtain ⟨e13,c⟩:=zA3 c
 refine HT.u d j (eI (y8+1)::eI (y8+1)::[]) ?_ ?_
 exact op (fun Q U W H D=>zAU ((H 9 Z).trans h9) Z e13)<|ov<|oz
 intro R w m n p d j
 obtain ⟨h3,h7,h8⟩:=k3 n h3 h7 h8
 have h9:=p.r 1 Z
 replace f_u3:=f_u3.fr m
 replace q:=q.fr m
 exact ei k (And.intro (Nat.lt_succ_self k) ⟨_,_,_,c,d,j,B,q,h3,h7,h8,h9,f_u3⟩)
 have c:=zAI c9 c
 refine HT.exit ?_
 obtain rfl:=si c
 exact ei _ ⟨_,Z,d,j,B,q,h3⟩
 rintro R w ⟨A,s6,es,d,j,B,q,h3⟩
 obtain rfl:=es.symm
 refine HT.su d j (eI s6::eI s6::[]) ?_ ?_
 exact om h3<|oa<|oz
 intro R w m n p d j
 have h2:=p.r 1 Z
 replace q:=q.fr m
 refine HT.ret ?_
 obtain rfl:=si c
 exact ⟨.inr Z,[R 2],⟨Z,N⟩,h2,j⟩
def zBe (fu:Nat) (p0:List zA2):Option Bool:=
 cl true (zCb fu p0 1048576) fun x1=>
 bif (decide (x1<0)) then (
 some true
 ) else (
 cl true (zBJ fu p0) fun x4=>
 cl true (zBL fu x4) fun x6=>
 cl true (zBJ fu p0) fun x8=>
 cl true (zBQ fu x8) fun x11=>
 bif (x11 != x6) then (
 some false
 ) else (
 cl true (zBJ fu p0) fun x14=>
 cl true (zCE fu x8 x14) fun x16=>
 bif (!x16) then (
 some false
 ) else (
 some true
 )
 )
 )
theorem zDx {fu : Nat} {A : Av} {p0 : List zA2} {r : Bool} (c : zBe fu p0 = some r) {w : World} {v0 : Value} (d : AvOK A w) (hG : GTab w) (h0 : Rep (eSl zA1) A w v0 p0) :
 Calls prog 4 #[v0] w fun e w'=>∃ v,e = .returned v∧(v = .bool r∧Fr w w'):=by
 unfold zBe at c
 obtain ⟨w0,hw0,j⟩:=pf w
 rw [fw hw0]
 have hG0:GTab w0:=hw0 ▸ hG
 refine zA5 [.tmp 2] func4 ntmps4 (by decide) Z Z (nb Z) ?_
 intro R hR
 have f_v0:=h0
 replace h0:R 0=v0:=hR 0 _ Z
 refine HT.su d j (eB false::[]) ?_ ?_
 exact op (fun Q U W H D=>zA0 Z)<|oz
 intro R w m n p d j
 replace h0:=k1 n h0
 replace f_v0:=f_v0.fr m
 refine HT.su d j (eI 1048576::[]) ?_ ?_
 exact op (fun Q U W H D=>zA0 Z)<|oz
 intro R w m n p d j
 replace h0:=k1 n h0
 have h3:=p.r 0 Z
 replace f_v0:=f_v0.fr m
 obtain ⟨x1,q2,c⟩:=zA4 c
 refine HT.su d j (eR v0::eI 1048576::eI x1::eI x1::[]) ?_ ?_
 exact om h0<|om h3<|op (fun Q U W H D=>zAC call8 (zFh (q2 Z) (d.fr W.size) ((f_v0.fr W).eq (D.g 0 Z)) (D.g 1 Z)))<|oa<|oz
 intro R w m n p d j
 replace h0:=k1 n h0
 have h3:=p.r 3 Z
 replace f_v0:=f_v0.fr m
 refine HT.seq ?_
 refine HT.su d j (eI x1::eB (decide (x1<0))::[]) ?_ ?_
 exact om h3<|op (fun Q U W H D=>zAk (D.g 0 Z) Z)<|oz
 intro R w m n p d j
 replace h0:=k1 n h0
 have h11:=p.r 1 Z
 replace f_v0:=f_v0.fr m
 refine HT.cond (decide (x1<0)) h11 (fun c3=>?_) (fun c3=>?_)
 have c:=zAH c3 c
 refine HT.su d j (eB true::[]) ?_ ?_
 exact op (fun Q U W H D=>zA0 Z)<|oz
 intro R w m n p d j
 have h2:=p.r 0 Z
 refine HT.ret ?_
 obtain rfl:=si c
 exact ⟨.inr Z,[R 2],⟨Z,N⟩,h2,j⟩
 have c:=zAI c3 c
 refine HT.skip ?_
 obtain ⟨x4,q5,c⟩:=zA4 c
 obtain ⟨x6,q7,c⟩:=zA4 c
 refine HT.su d j (eR v0::eF (.rep (eSl zA1) A x4)::eI x6::eI x6::[]) ?_ ?_
 exact om h0<|op (fun Q U W H D=>zAC call10 (zD8 (q5 Z) (d.fr W.size) ((f_v0.fr W).eq (D.g 0 Z))))<|op (fun Q U W H D=>zAC call17 (zEt (q7 Z) (d.fr W.size) (D.g 0 Z)))<|oa<|oz
 intro R w m n p d j
 replace h0:=k1 n h0
 have h4:=p.r 3 Z
 replace f_v0:=f_v0.fr m
 obtain ⟨x8,q9,c⟩:=zA4 c
 refine HT.su d j (eR v0::eF (.rep (eSl zA1) A x8)::eF (.rep (eSl zA1) A x8)::[]) ?_ ?_
 exact om h0<|op (fun Q U W H D=>zAC call10 (zD8 (q9 Z) (d.fr W.size) ((f_v0.fr W).eq (D.g 0 Z))))<|op (fun Q U W H D=>zA0 (D.g 0 Z))<|oz
 intro R w m n p d j
 obtain ⟨h0,h4⟩:=k2 n h0 h4
 obtain ⟨u10,h5,f_u10⟩:∃ u,R 5=u∧Rep (eSl zA1) A w u x8:=⟨_,Z,p 2 _ _ Z Z Z⟩
 replace f_v0:=f_v0.fr m
 obtain ⟨x11,q12,c⟩:=zA4 c
 refine HT.su d j (eR u10::eI x11::eI x11::[]) ?_ ?_
 exact om h5<|op (fun Q U W H D=>zAC call18 (zEo (q12 Z) (d.fr W.size) (hG0.fr (j.trans W)) ((f_u10.fr W).eq (D.g 0 Z))))<|oa<|oz
 intro R w m n p d j
 obtain ⟨h0,h4,h5⟩:=k3 n h0 h4 h5
 have h6:=p.r 2 Z
 replace f_u10:=f_u10.fr m
 replace f_v0:=f_v0.fr m
 refine HT.seq ?_
 refine HT.su d j (eI x11::eI x6::eB (x11 != x6)::[]) ?_ ?_
 exact om h6<|om h4<|op (fun Q U W H D=>zES (D.g 0 Z) (D.g 1 Z))<|oz
 intro R w m n p d j
 obtain ⟨h0,h5⟩:=k2 n h0 h5
 have h21:=p.r 2 Z
 replace f_u10:=f_u10.fr m
 replace f_v0:=f_v0.fr m
 refine HT.cond (x11 != x6) h21 (fun c13=>?_) (fun c13=>?_)
 have c:=zAH c13 c
 refine HT.su d j (eB false::[]) ?_ ?_
 exact op (fun Q U W H D=>zA0 Z)<|oz
 intro R w m n p d j
 have h2:=p.r 0 Z
 refine HT.ret ?_
 obtain rfl:=si c
 exact ⟨.inr Z,[R 2],⟨Z,N⟩,h2,j⟩
 have c:=zAI c13 c
 refine HT.skip ?_
 refine HT.seq ?_
 obtain ⟨x14,q15,c⟩:=zA4 c
 obtain ⟨x16,q17,c⟩:=zA4 c
 refine HT.su d j (eR u10::eR v0::eF (.rep (eSl zA1) A x14)::eB x16::eB (!x16)::[]) ?_ ?_
 exact om h5<|om h0<|op (fun Q U W H D=>zAC call10 (zD8 (q15 Z) (d.fr W.size) ((f_v0.fr W).eq (D.g 0 Z))))<|op (fun Q U W H D=>zAC call13 (zFd (q17 Z) (d.fr W.size) ((f_u10.fr W).eq (D.g 0 Z)) (D.g 1 Z)))<|op (fun Q U W H D=>zCx (D.g 0 Z))<|oz
 intro R w m n p d j
 have h26:=p.r 4 Z
 refine HT.cond (!x16) h26 (fun c18=>?_) (fun c18=>?_)
 have c:=zAH c18 c
 refine HT.su d j (eB false::[]) ?_ ?_
 exact op (fun Q U W H D=>zA0 Z)<|oz
 intro R w m n p d j
 have h2:=p.r 0 Z
 refine HT.ret ?_
 obtain rfl:=si c
 exact ⟨.inr Z,[R 2],⟨Z,N⟩,h2,j⟩
 have c:=zAI c18 c
 refine HT.skip ?_
 refine HT.su d j (eB true::[]) ?_ ?_
 exact op (fun Q U W H D=>zA0 Z)<|oz
 intro R w m n p d j
 have h2:=p.r 0 Z
 refine HT.ret ?_
 obtain rfl:=si c
 exact ⟨.inr Z,[R 2],⟨Z,N⟩,h2,j⟩
end Go.Proofs.YtldppodfhabkjaaGreatDoor
namespace Go.Proofs.YtldppodfhabkjaaGreatDoor
open Go.RowKit
set_option linter.unusedVariables false
open _root_.Go.Proofs.Tryz
set_option maxRecDepth 100000
set_option maxHeartbeats 4000000
end Go.Proofs.YtldppodfhabkjaaGreatDoor

namespace Go.Proofs.YtldppodfhabkjaaGreatDoor
open Go.RowKit
set_option linter.unusedVariables false
theorem zA6 {α β:Type} [Inhabited α] {x:α} {k:α→Option β}:cl true (some x) k=k x:=rfl
theorem zJR {α β:Type} [Inhabited α] {o:Option α} {k:α→Option β}:cl false o k=k default:=rfl
theorem zNm {α β:Type} [Inhabited α] {g:Bool} {x:α} {k:α→Option β}:cl g (some x) k=k (bif g then x else default):=by cases g <;> rfl
theorem zCW {α β:Type} {e:α} {k:α→Option β}:bd e k=k e:=rfl
theorem ck_t {α:Type} {b:Bool} {k:Option α} (h:b=true):ck b k=k:=by rw [h];rfl
theorem zCz {α:Type} {k:Option α}:ck true k=k:=rfl
theorem zMz {ρ σ γ:Type} {r:ρ} {f:ρ→Option γ} {g:σ→Option γ}:exM (.ret r) f g=f r:=rfl
theorem zIo {ρ σ γ:Type} {s:σ} {f:ρ→Option γ} {g:σ→Option γ}:exM (.go s) f g=g s:=rfl
theorem zBC {i:Nat} {n:Nat} (h:i<n):inR (i:Int) n=true:=zDQ.2 ⟨by omega,by omega⟩
theorem zLj {i:Int} {n:Nat} (h0:0≤i) (h:i<n):inR i n=true:=zDQ.2 ⟨h0,h⟩
theorem zD7 {x:Int} (h0:-9223372036854775808≤x) (h1:x≤9223372036854775807):i64B x=true:=by simp [i64B,h0,h1]
theorem zKO {α : Type} {xs : List α} {L : Nat → Int → List α → Option (List α)} 
    (hs:∀ k i ys x,i<xs.length→ys.length=xs.length→xs[i]? = some x→L (k+1) ((i:Nat):Int) ys=L k ((i+1:Nat):Int) (ys.set i x)) (he:∀ k ys,L (k+1) ((xs.length:Nat):Int) ys=some ys) :
    ∀ m i k ys,i+m=xs.length→m<k→ys.length=xs.length→ys.take i=xs.take i→L k ((i:Nat):Int) ys=some xs:=by
  intro m
  induction m with
  | zero=>
    intro i k ys hi hk hy ht
    obtain ⟨k,rfl⟩:∃ q,k=q+1:=⟨k-1,by omega⟩
    obtain rfl:i=xs.length:=by omega
    rw [he]
    rw [List.take_of_length_le (by omega),List.take_of_length_le (by omega)] at ht
    rw [ht]
  | succ m ih=>
    intro i k ys hi hk hy ht
    obtain ⟨k,rfl⟩:∃ q,k=q+1:=⟨k-1,by omega⟩
    have hlt:i<xs.length:=by omega
    rw [hs k i ys _ hlt hy (List.getElem?_eq_getElem hlt)]
    refine ih (i+1) k _ (by omega) (by omega) (by rw [List.length_set,hy]) ?_
    apply List.ext_getElem?
    intro j
    rw [List.getElem?_take,List.getElem?_take]
    split
    · rename_i hj
      rcases Nat.lt_or_ge j i with h | h
      · have := congrArg (fun l => l[j]?) ht
        simp only [List.getElem?_take,if_pos h] at this
        rw [List.getElem?_set_ne (by omega)]
        exact this
      · obtain rfl : j = i := by omega
        rw [List.getElem?_set_self (by omega),List.getElem?_eq_getElem hlt]
    · rfl
theorem zAu {α:Type} [Inhabited α] {xs:List α} {i:Nat} {x:α} (h:xs[i]? = some x):gtD xs (i:Int)=x:=by
  unfold gtD
  rw [Int.toNat_natCast,List.getD_eq_getElem?_getD,h]
  rfl
end Go.Proofs.YtldppodfhabkjaaGreatDoor
namespace Go.Proofs.YtldppodfhabkjaaGreatDoor
open Go.RowKit
set_option linter.unusedVariables false
theorem zAh {n:Nat} (h:n≤4294967296):zBD n=true:=Nat.ble_eq_true_of_le h
theorem zNH {n:Nat} (h:n≤1048577):mkOK (n:Int)=true:=by simp [mkOK];omega
theorem zHF : ∀ (a : List UInt8), bLt a a = false
  | []=>rfl
  | a::x=>by
    unfold bLt Op.bytesLess
    rw [show Op.bytesLess x x=false from zHF x]
    simp
theorem zIP : ∀ {a b c : List UInt8}, bLt a b = true → bLt b c = true → bLt a c = true
  | _,_,[],_,h=>by cases ‹List UInt8› <;> simp [bLt,Op.bytesLess] at h
  | _,[],_::_,h,_=>by cases ‹List UInt8› <;> simp [bLt,Op.bytesLess] at h
  | [],_::_,_::_,_,_=>rfl
  | a::x,b::y,c::z,h,k=>by
    unfold bLt Op.bytesLess at h k ⊢
    simp only [Bool.or_eq_true,Bool.and_eq_true,decide_eq_true_eq,beq_iff_eq] at h k ⊢
    rcases h with h | ⟨rfl,h⟩
    · rcases k with k | ⟨rfl, k⟩
      · exact .inl (UInt8.lt_trans h k)
      · exact .inl h
    · rcases k with k | ⟨rfl, k⟩
      · exact .inl k
      · exact .inr ⟨rfl,zIP h k⟩
theorem zKW : ∀ {a b : List UInt8}, bLt a b = false → bLt b a = false → a = b
  | [],[],_,_=>rfl
  | [],_::_,h,_=>by simp [bLt,Op.bytesLess] at h
  | _::_,[],_,h=>by simp [bLt,Op.bytesLess] at h
  | a::x,b::y,h,k=>by
    unfold bLt Op.bytesLess at h k
    simp only [Bool.or_eq_false_iff,Bool.and_eq_false_imp,decide_eq_false_iff_not,beq_iff_eq] at h k
    have e:a=b:=by
      rcases UInt8.lt_or_lt_of_ne (a:=a) (b:=b) |> fun f=>Classical.em (a=b) |>.imp id f with e | e | e
      · exact e
      · exact absurd e h.1
      · exact absurd e k.1
    subst e
    rw [zKW (h.2 rfl) (k.2 rfl)]
theorem zNW (a b:List UInt8):decide (a≤b) = !(bLt b a):=by
  have h:=Go.Proofs.bytesLess_eq b a
  unfold bLt
  rw [h]
  by_cases hlt:b<a
  · have : ¬ a ≤ b := List.not_le.2 hlt
    rw [decide_eq_true hlt,decide_eq_false this]
    rfl
  · have : a ≤ b := List.not_lt.1 hlt
    rw [decide_eq_false hlt,decide_eq_true this]
    rfl
end Go.Proofs.YtldppodfhabkjaaGreatDoor
namespace Go.Proofs.YtldppodfhabkjaaGreatDoor
open Go.RowKit
set_option linter.unusedVariables false
theorem lt_t {i n:Nat} (h:i<n):decide ((i:Int)<(n:Int))=true:=by simpa using h
theorem lt_f (n:Nat):decide ((n:Int)<(n:Int))=false:=decide_eq_false (Int.lt_irrefl _)
theorem zCl {i:Nat} (hn:i≤4294967296):i64B ((i:Int)+1)=true:=zD7 (by omega) (by omega)
theorem zCm {α:Type} {xs:List α} {i:Nat} {x:α} (h:xs[i]? = some x):i<xs.length:=(List.getElem?_eq_some_iff.1 h).1
theorem zDX {α:Type} {xs:List α} {i:Nat} {x:α} (h:xs[i]? = some x):x ∈ xs:=List.mem_of_getElem? h
theorem zB1 (i:Nat):(i:Int)+1=((i+1:Nat):Int):=rfl
theorem zIv {α:Type} (xs:List α) (i:Nat) (x:α):xs.set ((i:Nat):Int).toNat x=xs.set i x:=by rw [Int.toNat_natCast]
def szR (n:Int) (w:Nat):Int:=if (w:Int)≤n then n-w else -1
theorem zIb {n:Int} {w:Nat} (h:(w:Int)≤n):decide (szR n w<0)=false:=by
  unfold szR
  rw [if_pos h]
  exact decide_eq_false (by omega)
theorem zIG {n:Int} {w:Nat} (h:¬ (w:Int)≤n):decide (szR n w<0)=true:=by
  unfold szR
  rw [if_neg h]
  rfl
theorem zMV {n:Int} {w:Nat} (h:(w:Int)≤n):szR n w=n-w:=if_pos h
theorem zKh {n:Int} {w v:Nat} (h:(w:Int)≤n):szR (n-w) v=szR n (w+v):=by
  unfold szR
  by_cases h2:(v:Int)≤n-w
  · rw [if_pos h2, if_pos (by omega)]
    omega
  · rw [if_neg h2,if_neg (by omega)]
theorem zKz {n:Int} {w v:Nat} (h:¬ (w:Int)≤n):szR n (w+v) = -1:=if_neg (by omega)
theorem zNG {n : Int} {l : Nat} (hn : 0 ≤ n) (hn1 : n ≤ 1048576) (hl : l ≤ maxLen) {c : Option Int} {r : Int} (h1 : ¬ (l : Int) ≤ n → r = -1) (h2 : (l : Int) ≤ n → c = some r) :
    (ck (i64B (n-(l:Int)))<|bif (decide ((n-(l:Int))<(0:Int))) then some (-1:Int) else c)=some r:=by
  unfold maxLen at hl
  rw [ck_t (zD7 (by omega) (by omega))]
  by_cases h:(l:Int)≤n
  · rw [decide_eq_false (by omega), cond_false]
    exact h2 h
  · rw [decide_eq_true (by omega),cond_true,h1 h]
def wL {α:Type} (f:α→Nat) (xs:List α):Nat:=xs.length+(xs.map f).sum
theorem zDH {α:Type} {xs:List α} {i:Nat} {x:α} (h:xs[i]? = some x):xs.drop i=x::xs.drop (i+1):=by
  obtain ⟨h1,rfl⟩:=List.getElem?_eq_some_iff.1 h
  exact List.drop_eq_getElem_cons h1
theorem zLs {α : Type} {xs : List α} {f : α → Nat} {L : Nat → Int → Int → Option (Ex Int Int)}
    (hs:∀ k y (i:Nat) x,xs[i]? = some x→0≤y→y≤1048576→L (k+1) y (i:Int)=bif decide (szR y (f x)<0) then some (.ret (-1)) else L k (szR y (f x)) ((i+1:Nat):Int))
    (he:∀ k y,L (k+1) y (xs.length:Int)=some (.go y)) :
    ∀ m i k y,i+m=xs.length→m<k→0≤y→y≤1048576→L k y ((i:Nat):Int)=some (if ((((xs.drop i).map f).sum:Nat):Int)≤y then .go (szR y ((xs.drop i).map f).sum) else .ret (-1)):=by
  intro m
  induction m with
  | zero=>
    intro i k y hi hk h0 h1
    obtain ⟨k,rfl⟩:∃ q,k=q+1:=⟨k-1,by omega⟩
    obtain rfl:i=xs.length:=by omega
    rw [he,List.drop_length]
    simp [szR,h0]
  | succ m ih=>
    intro i k y hi hk h0 h1
    obtain ⟨k,rfl⟩:∃ q,k=q+1:=⟨k-1,by omega⟩
    have hlt:i<xs.length:=by omega
    have hx:=List.getElem?_eq_getElem hlt
    rw [hs k y i _ hx h0 h1,zDH hx,List.map_cons,List.sum_cons]
    by_cases h:(f xs[i]:Int)≤y
    · rw [zIb h, cond_false, zMV h, ih (i + 1) k _ (by omega) (by omega) (by omega) (by omega), zKh h]
      congr 1
      by_cases h2:((((xs.drop (i+1)).map f).sum:Nat):Int)≤y-(f xs[i]:Int)
      · rw [if_pos h2,if_pos (by omega)]
      · rw [if_neg h2,if_neg (by omega)]
    · rw [zIG h,cond_true,if_neg (by omega)]
theorem zKI {α : Type} {xs : List α} {f : α → Nat} {L : Nat → Int → Int → Option (Ex Int Int)} {n : Int} {fu : Nat} (hn : 0 ≤ n) (hn1 : n ≤ 1048576) (hl : xs.length ≤ maxLen) (hf : 1048577 ≤ fu)
    (hs:∀ k y (i:Nat) x,xs.length≤1048576→xs[i]? = some x→0≤y→y≤1048576→L (k+1) y (i:Int)=bif decide (szR y (f x)<0) then some (.ret (-1)) else L k (szR y (f x)) ((i+1:Nat):Int))
    (he:∀ k y,L (k+1) y (xs.length:Int)=some (.go y)) :
    (ck (i64B (n-(xs.length:Int)))<|bif (decide ((n-(xs.length:Int))<(0:Int))) then some (-1:Int) else cl true (L fu (n-(xs.length:Int)) (0:Int)) fun rl=>exM rl (fun r=>some r) fun s=>some s)=some (szR n (wL f xs)):=by
  refine zNG hn hn1 hl (fun h=>zKz h) fun h=>?_
  have:=zLs (fun k y i x=>hs k y i x (by omega)) he xs.length 0 fu (n-(xs.length:Int)) (by omega) (by omega) (by omega) (by omega)
  rw [show ((0:Nat):Int)=0 from rfl] at this
  rw [this,zA6,List.drop_zero]
  by_cases h2:(((xs.map f).sum:Nat):Int)≤n-(xs.length:Int)
  · rw [if_pos h2, zKh h]
    rfl
  · rw [if_neg h2]
    unfold wL szR
    rw [if_neg (by omega)]
    rfl
theorem zIK {α : Type} {f : α → Nat} {x : α} : ∀ {xs : List α}, x ∈ xs → f x ≤ (xs.map f).sum
  | y::ys,h=>by
    rw [List.map_cons,List.sum_cons]
    rcases List.mem_cons.1 h with rfl | h
    · omega
    · have := zIK (f := f) h
      omega
theorem zKT {α : Type} [Inhabited α] {xs : List α} {z : α} {L : Nat → Int → List α → Option (List α)} {fu : Nat} (hl : xs.length ≤ 1048576) (hf : 1048577 ≤ fu)
    (hs:∀ k (i:Nat) ys x,i<xs.length→ys.length=xs.length→xs[i]? = some x→L (k+1) ((i:Nat):Int) ys=L k ((i+1:Nat):Int) (ys.set i x)) (he:∀ k ys,L (k+1) (xs.length:Int) ys=some ys) :
    (ck (mkOK (xs.length:Int))<|cl true (L fu (0:Int) (List.replicate (xs.length:Int).toNat z)) fun s=>some s)=some xs:=by
  rw [ck_t (zNH (by omega))]
  have:=zKO hs he xs.length 0 fu (List.replicate (xs.length:Int).toNat z) (by omega) (by omega) (by simp) (by simp)
  rw [show ((0:Nat):Int)=0 from rfl] at this
  rw [this]
  rfl
theorem zMW {α : Type} [BEq α] {xs ys : List α} (hl : xs.length = ys.length) {L : Nat → Int → Option (Ex Bool Unit)}
    (hs:∀ k (i:Nat) x y,xs[i]? = some x→ys[i]? = some y→L (k+1) (i:Int)=bif !(x==y) then some (.ret false) else L k ((i+1:Nat):Int))
    (he:∀ k,L (k+1) (xs.length:Int)=some (.go ())) :
    ∀ m i k,i+m=xs.length→m<k→L k ((i:Nat):Int)=some (bif xs.drop i==ys.drop i then .go () else .ret false):=by
  intro m
  induction m with
  | zero=>
    intro i k hi hk
    obtain ⟨k,rfl⟩:∃ q,k=q+1:=⟨k-1,by omega⟩
    obtain rfl:i=xs.length:=by omega
    rw [he,List.drop_length,hl,List.drop_length]
    rfl
  | succ m ih=>
    intro i k hi hk
    obtain ⟨k,rfl⟩:∃ q,k=q+1:=⟨k-1,by omega⟩
    have hx:=List.getElem?_eq_getElem (show i<xs.length by omega)
    have hy:=List.getElem?_eq_getElem (show i<ys.length by omega)
    rw [hs k i _ _ hx hy,zDH hx,zDH hy,List.cons_beq_cons]
    cases xs[i]==ys[i]
    · rfl
    · rw [Bool.not_true, cond_false, Bool.true_and]
      exact ih (i+1) k (by omega) (by omega)
theorem zKH {α : Type} [BEq α] : ∀ {xs ys : List α}, xs.length ≠ ys.length → (xs == ys) = false
  | [],[],h=>absurd rfl h
  | [],_::_,_=>rfl
  | _::_,[],_=>rfl
  | x::xs,y::ys,h=>by
    rw [List.cons_beq_cons,zKH (xs:=xs) (ys:=ys) (fun e=>h (by simp [e])),Bool.and_false]
theorem zKb {α : Type} [BEq α] {xs ys : List α} {L : Nat → Int → Option (Ex Bool Unit)} {fu : Nat} (hf : xs.length < fu)
    (hs:∀ k (i:Nat) x y,xs.length=ys.length→xs[i]? = some x→ys[i]? = some y→L (k+1) (i:Int)=bif !(x==y) then some (.ret false) else L k ((i+1:Nat):Int))
    (he:∀ k,L (k+1) (xs.length:Int)=some (.go ())) :
    (bif ((xs.length:Int) != (ys.length:Int)) then some false else cl true (L fu (0:Int)) fun rl=>exM rl (fun r=>some r) fun s=>some true)=some (xs==ys):=by
  by_cases hl:xs.length=ys.length
  · have h1 : ((xs.length : Int) != (ys.length : Int)) = false := by simp [hl]
    have:=zMW hl (fun k i x y=>hs k i x y hl) he xs.length 0 fu (by omega) (by omega)
    rw [show ((0:Nat):Int)=0 from rfl,List.drop_zero,List.drop_zero] at this
    rw [h1,cond_false,this,zA6]
    cases xs==ys <;> rfl
  · have h1 : ((xs.length : Int) != (ys.length : Int)) = true := by simp; omega
    rw [h1,cond_true,zKH hl]
end Go.Proofs.YtldppodfhabkjaaGreatDoor
namespace Go.Proofs.YtldppodfhabkjaaGreatDoor
open Go.RowKit
set_option linter.unusedVariables false
set_option linter.unusedSimpArgs false
def zDW (x:List (List UInt8)):Nat:=wL (fun s:List UInt8=>s.length) x
def zD2 (x:(Int) × (Int) × (Int) × (List (List UInt8))):Nat:=zDW x.2.2.2
def zCw (x:List ((Int) × (Int) × (Int) × (List (List UInt8)))):Nat:=wL zD2 x
theorem zJk {fu:Nat} {x:List (List UInt8)} {n:Int} (hb:(qS qB) x) (h0:0≤n) (h1:n≤1048576) (hf:1048577≤fu):zCY fu x n=some (szR n (zDW x)):=by
  unfold zCY zDW
  refine zKI h0 h1 hb.1 hf (L:=zBS fu x) (fun k y i z hl hz hy hy1=>?_) (fun k y=>by rw [zBS,lt_f];rfl)
  have hi:=zCm hz
  have hq:=hb.2 z (zDX hz)
  unfold qB maxLen at hq
  rw [zBS,lt_t hi,cond_true,ck_t (zBC hi),zAu hz,ck_t (zD7 (by omega) (by omega))]
  by_cases h:(z.length:Int)≤y
  · rw [zIb h,zMV h,decide_eq_false (by omega),cond_false,cond_false,ck_t (zCl (by omega)),zB1]
  · rw [zIG h,decide_eq_true (by omega),cond_true,cond_true]
theorem zKq {fu:Nat} {x:(Int) × (Int) × (Int) × (List (List UInt8))} {n:Int} (hb:(qP qI (qP qI (qP qI (qS qB)))) x) (h0:0≤n) (h1:n≤1048576) (hf:1048577≤fu):zCs fu x n=some (szR n (zD2 x)):=by
  unfold zCs zD2
  rw [zJk hb.2.2.2 (by omega) (by omega) hf,zA6]
  by_cases g0:¬ (zDW x.2.2.2:Int)≤n
  · rw [zIG g0, cond_true]
    unfold szR
    rw [if_neg (by omega)]
  replace g0:=Classical.not_not.1 g0
  rw [zIb g0,cond_false,zMV g0]
theorem zJu {fu:Nat} {x:List ((Int) × (Int) × (Int) × (List (List UInt8)))} {n:Int} (hb:(qS (qP qI (qP qI (qP qI (qS qB))))) x) (h0:0≤n) (h1:n≤1048576) (hf:1048577≤fu):zCb fu x n=some (szR n (zCw x)):=by
  unfold zCb zCw
  refine zKI h0 h1 hb.1 hf (L:=zBV fu x) (fun k y i z hl hz hy hy1=>?_) (fun k y=>by rw [zBV,lt_f];rfl)
  have hi:=zCm hz
  have hq:=hb.2 z (zDX hz)
  rw [zBV,lt_t hi,cond_true,ck_t (zBC hi),zAu hz,zKq hq hy hy1 hf,zA6]
  by_cases h:(zD2 z:Int)≤y
  · rw [zIb h,cond_false,cond_false,ck_t (zCl (by omega)),zB1]
  · rw [zIG h,cond_true,cond_true]
theorem zK8 {fu:Nat} {x:List (List UInt8)} (hw:zDW x≤1048576) (hf:1048577≤fu):zCd fu x=some x:=by
  have hw':=hw
  unfold zDW wL at hw'
  unfold zCd
  refine zKT (by omega) hf (L:=zBM fu x) (fun k i ys z hi hl hz=>?_) (fun k ys=>by rw [zBM,lt_f];rfl)
  rw [zBM,lt_t hi,cond_true,ck_t (zBC hi),ck_t (zBC (by omega)),ck_t (zCl (by omega)),zAu hz,zIv,zB1]
theorem zKK {fu:Nat} {x:(Int) × (Int) × (Int) × (List (List UInt8))} (hw:zD2 x≤1048576) (hf:1048577≤fu):zCv fu x=some x:=by
  unfold zD2 at hw
  unfold zCv
  rw [zK8 (by omega) hf,zA6]
theorem zK6 {fu:Nat} {x:List ((Int) × (Int) × (Int) × (List (List UInt8)))} (hw:zCw x≤1048576) (hf:1048577≤fu):zBJ fu x=some x:=by
  have hw':=hw
  unfold zCw wL at hw'
  unfold zBJ
  refine zKT (by omega) hf (L:=zBP fu x) (fun k i ys z hi hl hz=>?_) (fun k ys=>by rw [zBP,lt_f];rfl)
  have hm:=zIK (f:=zD2) (zDX hz)
  rw [zBP,lt_t hi,cond_true,ck_t (zBC hi),zAu hz,zKK (by omega) hf,zA6,ck_t (zBC (by omega)),ck_t (zCl (by omega)),zIv,zB1]
theorem zK4 {fu:Nat} {x y:List (List UInt8)} (hw:zDW x≤1048576) (hf:1048577≤fu):zCa fu x y=some (x==y):=by
  have hw':=hw
  unfold zDW wL at hw'
  unfold zCa
  refine zKb (by omega) (L:=zBN fu x y) (fun k i z z' hl hz hz'=>?_) (fun k=>by rw [zBN,lt_f];rfl)
  have hi:=zCm hz
  rw [zBN,lt_t hi,cond_true,ck_t (zBC hi),ck_t (zBC (zCm hz')),ck_t (zCl (by omega)),zAu hz,zAu hz',zB1]
theorem zKx {fu:Nat} {x y:(Int) × (Int) × (Int) × (List (List UInt8))} (hw:zD2 x≤1048576) (hf:1048577≤fu):zCy fu x y=some (x==y):=by
  obtain ⟨x0,x1,x2,x3⟩:=x
  obtain ⟨y0,y1,y2,y3⟩:=y
  unfold zD2 at hw
  try simp only [] at hw
  unfold zCy
  rw [show (((x0,x1,x2,x3):(Int) × (Int) × (Int) × (List (List UInt8)))==(y0,y1,y2,y3))=((x0==y0)&&((x1==y1)&&((x2==y2)&&(x3==y3)))) from rfl]
  simp only []
  rw [zK4 (by omega) hf,zA6]
  try simp only [bne]
  cases h0:(x0==y0) <;> cases h1:(x1==y1) <;> cases h2:(x2==y2) <;> cases h3:(x3==y3) <;> rfl
theorem zJw {fu:Nat} {x y:List ((Int) × (Int) × (Int) × (List (List UInt8)))} (hw:zCw x≤1048576) (hf:1048577≤fu):zCE fu x y=some (x==y):=by
  have hw':=hw
  unfold zCw wL at hw'
  unfold zCE
  refine zKb (by omega) (L:=zBW fu x y) (fun k i z z' hl hz hz'=>?_) (fun k=>by rw [zBW,lt_f];rfl)
  have hi:=zCm hz
  have hm:=zIK (f:=zD2) (zDX hz)
  rw [zBW,lt_t hi,cond_true,ck_t (zBC hi),ck_t (zBC (zCm hz')),ck_t (zCl (by omega)),zAu hz,zAu hz',zKx (by omega) hf,zA6,zB1]
theorem zGS {fu : Nat} {a0 : List ((Int) × (Int) × (Int) × (List (List UInt8)))} (hf : 1048577 ≤ fu) (h0 : (qS (qP qI (qP qI (qP qI (qS qB))))) a0)
    (hs:zCw a0≤1048576→∃ r:(Int),zBL fu a0=some r∧zBQ fu a0=some r):zBe fu a0=some true:=by
  unfold zBe
  rw [zJu h0 (by omega) (by omega) hf,zA6]
  by_cases g0:¬ (zCw a0:Int)≤1048576
  · rw [zIG g0,cond_true]
  replace g0:=Classical.not_not.1 g0
  rw [zIb g0,cond_false]
  obtain ⟨r,e1,e2⟩:=hs (by omega)
  have t0:zBJ fu a0=some a0:=zK6 (by omega) hf
  have q0:zCE fu a0 a0=some (a0==a0):=zJw (by omega) hf
  simp only [e1,e2,zA6,zCW,beq_self_eq_true,bne_self_eq_false',Bool.not_true,Bool.not_false,cond_false,cond_true,Bool.true_and,Bool.and_true,Bool.false_or,Bool.or_false,Bool.true_or,Bool.false_and,t0,q0,show (false==false)=true from rfl,show (true==false)=false from rfl,show (false==true)=false from rfl]
end Go.Proofs.YtldppodfhabkjaaGreatDoor
namespace Go.Proofs.YtldppodfhabkjaaGreatDoor
open Go.RowKit
set_option linter.unusedVariables false
theorem zFB {α ρ : Type} {xs : List α} {p : α → Bool} {r : ρ} {L : Nat → Int → Option (Ex ρ Unit)}
    (hs:∀ k (i:Nat) x,xs[i]? = some x→L (k+1) (i:Int)=bif p x then some (.ret r) else L k ((i+1:Nat):Int)) (he:∀ k,L (k+1) (xs.length:Int)=some (.go ())) {fu:Nat} (hf:xs.length<fu) :
    L fu (0:Int)=some (bif xs.any p then .ret r else .go ()):=by
  have key:∀ m i k,i+m=xs.length→m<k→L k ((i:Nat):Int)=some (bif (xs.drop i).any p then .ret r else .go ()):=by
    intro m
    induction m with
    | zero=>
      intro i k hi hk
      obtain ⟨k,rfl⟩:∃ q,k=q+1:=⟨k-1,by omega⟩
      obtain rfl:i=xs.length:=by omega
      rw [he,List.drop_length]
      rfl
    | succ m ih=>
      intro i k hi hk
      obtain ⟨k,rfl⟩:∃ q,k=q+1:=⟨k-1,by omega⟩
      have hx:=List.getElem?_eq_getElem (show i<xs.length by omega)
      rw [hs k i _ hx,zDH hx,List.any_cons]
      cases p xs[i]
      · exact ih (i+1) k (by omega) (by omega)
      · rfl
  have:=key xs.length 0 fu (by omega) hf
  rwa [show ((0:Nat):Int)=0 from rfl,List.drop_zero] at this
def ixI : Nat → List Bool → Option Nat
  | _,[]=>none
  | i,b::bs=>bif b then some i else ixI (i+1) bs
theorem zI8 : ∀ {bs : List Bool} {i j : Nat}, ixI i bs = some j → i ≤ j ∧ bs[j - i]? = some true ∧ ∀ q, q < j - i → bs[q]? = some false
  | [],i,j,h=>by cases h
  | b::bs,i,j,h=>by
    unfold ixI at h
    cases b with
    | true=>
      obtain rfl:=Option.some.inj h
      refine ⟨Nat.le_refl _,by simp,fun q hq=>by omega⟩
    | false=>
      obtain ⟨h1,h2,h3⟩:=zI8 (bs:=bs) (i:=i+1) h
      refine ⟨by omega,?_,fun q hq=>?_⟩
      · rw [show j - i = (j - (i + 1)) + 1 by omega, List.getElem?_cons_succ]
        exact h2
      · cases q with
        | zero=>rfl
        | succ q=>rw [List.getElem?_cons_succ];exact h3 q (by omega)
theorem zI3 : ∀ {bs : List Bool} {i : Nat}, ixI i bs = none → ∀ b ∈ bs, b = false
  | [],i,h,b,hb=>by cases hb
  | c::bs,i,h,b,hb=>by
    unfold ixI at h
    cases c with
    | true=>cases h
    | false=>
      rcases List.mem_cons.1 hb with rfl | hb
      · rfl
      · exact zI3 (bs:=bs) (i:=i+1) h b hb
theorem zL1 {α : Type} {xs : List α} {p : α → Bool} {L : Nat → Int → Option (Ex Int Unit)}
    (hs:∀ k (i:Nat) x,xs[i]? = some x→L (k+1) (i:Int)=bif p x then some (.ret (i:Int)) else L k ((i+1:Nat):Int)) (he:∀ k,L (k+1) (xs.length:Int)=some (.go ())) {fu:Nat} (hf:xs.length<fu) :
    L fu (0:Int)=some (match ixI 0 (xs.map p) with | some i=>.ret (i:Int) | none=>.go ()):=by
  have key:∀ m i k,i+m=xs.length→m<k→L k ((i:Nat):Int)=some (match ixI i ((xs.drop i).map p) with | some i=>.ret (i:Int) | none=>.go ()):=by
    intro m
    induction m with
    | zero=>
      intro i k hi hk
      obtain ⟨k,rfl⟩:∃ q,k=q+1:=⟨k-1,by omega⟩
      obtain rfl:i=xs.length:=by omega
      rw [he,List.drop_length]
      rfl
    | succ m ih=>
      intro i k hi hk
      obtain ⟨k,rfl⟩:∃ q,k=q+1:=⟨k-1,by omega⟩
      have hx:=List.getElem?_eq_getElem (show i<xs.length by omega)
      rw [hs k i _ hx,zDH hx,List.map_cons,ixI]
      cases p xs[i]
      · exact ih (i+1) k (by omega) (by omega)
      · rfl
  have:=key xs.length 0 fu (by omega) hf
  rwa [show ((0:Nat):Int)=0 from rfl,List.drop_zero] at this
theorem zCf {α σ : Type} {xs : List α} {g : σ → α → σ} {Inv : Nat → σ → Prop} {L : Nat → Int → σ → Option σ}
    (hs:∀ k (i:Nat) a x,xs[i]? = some x→Inv i a→L (k+1) (i:Int) a=L k ((i+1:Nat):Int) (g a x)) (hI:∀ (i:Nat) a x,xs[i]? = some x→Inv i a→Inv (i+1) (g a x))
    (he:∀ k a,Inv xs.length a→L (k+1) (xs.length:Int) a=some a) {a:σ} (h0:Inv 0 a) {fu:Nat} (hf:xs.length<fu) :
    L fu (0:Int) a=some (xs.foldl g a)∧Inv xs.length (xs.foldl g a):=by
  have key:∀ m i k a,i+m=xs.length→m<k→Inv i a→L k ((i:Nat):Int) a=some ((xs.drop i).foldl g a)∧Inv xs.length ((xs.drop i).foldl g a):=by
    intro m
    induction m with
    | zero=>
      intro i k a hi hk ha
      obtain ⟨k,rfl⟩:∃ q,k=q+1:=⟨k-1,by omega⟩
      obtain rfl:i=xs.length:=by omega
      rw [he k a ha,List.drop_length]
      exact ⟨rfl,ha⟩
    | succ m ih=>
      intro i k a hi hk ha
      obtain ⟨k,rfl⟩:∃ q,k=q+1:=⟨k-1,by omega⟩
      have hx:=List.getElem?_eq_getElem (show i<xs.length by omega)
      rw [hs k i a _ hx ha,zDH hx,List.foldl_cons]
      exact ih (i+1) k _ (by omega) (by omega) (hI i a _ hx ha)
  have:=key xs.length 0 fu a (by omega) hf h0
  rwa [show ((0:Nat):Int)=0 from rfl,List.drop_zero] at this
theorem zCF {i:Nat} (hn:i≤4294967296):i64B ((i+1:Nat):Int)=true:=zD7 (by omega) (by omega)
theorem zKX (i:Nat) (hn:i≤4294967296):i64B (i:Int)=true:=zD7 (by omega) (by omega)
theorem lt_0 {n:Nat} (h:0<n):decide ((0:Int)<(n:Int))=true:=decide_eq_true (by omega)
theorem zN0 {n:Nat} (h:0<n):inR (0:Int) n=true:=zBC (i:=0) h
theorem zNY:(0:Int)+1=((1:Nat):Int):=rfl
theorem zMP:i64B ((1:Nat):Int)=true:=rfl
theorem zND (i:Nat):((i+1:Nat):Int)-1=(i:Int):=by omega
end Go.Proofs.YtldppodfhabkjaaGreatDoor
namespace Go.Proofs.YtldppodfhabkjaaGreatDoor
open Go.RowKit
set_option linter.unusedVariables false
set_option linter.unusedSimpArgs false
theorem zDw {t:List UInt8} {i:Nat} {c:UInt8} (h:t[i]? = some c):bAt t (i:Int)=(c.toNat:Int):=by
  unfold bAt
  rw [Int.toNat_natCast,List.getD_eq_getElem?_getD,h]
  rfl
def smI (n:Int):Bool:=decide (97≤n)&&decide (n≤122)
def dgI (n:Int):Bool:=decide (48≤n)&&decide (n≤57)
def cpI (n:Int):Bool:=decide (65≤n)&&decide (n≤90)
def zHl (n:Int):Int:=bif cpI n then n+32 else n
theorem zIn (n:Int) (h0:0≤n) (h1:n≤255):IntKind.u8.wrap n=n:=by
  have:n % 256=n:=Int.emod_eq_of_lt h0 (by omega)
  simp [IntKind.wrap,IntKind.bits,this,show IntKind.u8.signed=false from rfl]
theorem zNP {fu:Nat} {t:List UInt8} (hf:t.length<fu) (hl:t.length≤1048576):zBn fu t=some (t.map fun c=>UInt8.ofNat (zHl c.toNat).toNat):=by
  unfold zBn
  have h:=zCf (xs:=t) (g:=fun (a:List Int) (c:UInt8)=>a ++ [zHl c.toNat]) (Inv:=fun i a=>a.length=i) (L:=zBF fu t) (fun k i a c hc ha=>by
    have hi:=zCm hc
    have hcu:c.toNat<256:=c.toNat_lt
    rw [zBF,lt_t hi,cond_true]
    simp only [zBC hi,zDw hc,zCW,zCz,List.length_singleton,zAh (show a.length+1≤4294967296 by omega),zCF (show i≤4294967296 by omega),zB1,zHl,cpI]
    cases hcp:(decide ((65:Int)≤(c.toNat:Int))&&decide ((c.toNat:Int)≤90))
    · rfl
    · simp only [Bool.and_eq_true, decide_eq_true_eq] at hcp
      rw [zIn _ (by omega) (by omega)]
      rfl) (fun i a c hc ha=>by simp [ha]) (fun k a ha=>by rw [zBF,lt_f];rfl) (a:=[]) rfl hf
  rw [h.1,zA6]
  have key:∀ (t:List UInt8) (a:List Int),t.foldl (fun (a:List Int) (c:UInt8)=>a ++ [zHl c.toNat]) a=a++t.map fun c=>zHl c.toNat:=by
    intro t
    induction t with
    | nil=>intro a;simp
    | cons c t ih=>intro a;rw [List.foldl_cons,ih];simp
  rw [key,List.nil_append]
  unfold strB
  rw [List.map_map]
  rfl
def wdI (n:Int):Bool:=(smI n || cpI n) || dgI n
end Go.Proofs.YtldppodfhabkjaaGreatDoor
namespace Go.Proofs.YtldppodfhabkjaaGreatDoor
open Go.RowKit
set_option linter.unusedVariables false
set_option linter.unusedSimpArgs false
def spC (c : UInt8) : List UInt8 → List (List UInt8)
  | []=>[[]]
  | b :: s => if b = c then [] :: spC c s else match spC c s with
    | []=>[[b]]
    | x::xs=>(b::x)::xs
theorem zJM (c:UInt8) (s:List UInt8):spC c s ≠ []:=by
  cases s with
  | nil=>simp [spC]
  | cons b s=>
    unfold spC
    split
    · simp
    · cases spC c s <;> simp
theorem zJa {c : UInt8} : ∀ {s : List UInt8}, c ∉ s → spC c s = [s]
  | [],_=>rfl
  | b::s,h=>by
    have h1:b ≠ c:=fun e=>h (e ▸ List.mem_cons_self)
    have h2:=zJa (c:=c) (s:=s) fun h'=>h (List.mem_cons_of_mem _ h')
    unfold spC
    rw [if_neg h1,h2]
theorem zL3 {c : UInt8} : ∀ {x s : List UInt8}, c ∉ x → spC c (x ++ c :: s) = x :: spC c s
  | [],s,_=>by
    show spC c (c::s)=_
    rw [spC,if_pos rfl]
  | b::x,s,h=>by
    have h1:b ≠ c:=fun e=>h (e ▸ List.mem_cons_self)
    have h2:=zL3 (c:=c) (x:=x) (s:=s) fun h'=>h (List.mem_cons_of_mem _ h')
    rw [List.cons_append,spC,if_neg h1,h2]
theorem zHg (c : UInt8) : ∀ s : List UInt8, (spC c s).length ≤ s.length + 1
  | []=>Nat.le_refl _
  | b::s=>by
    have:=zHg c s
    unfold spC
    split
    · simp only [List.length_cons];omega
    · cases h : spC c s with
      | nil=>simp
      | cons x xs=>rw [h] at this;simp only [List.length_cons] at this ⊢;omega
theorem zHs (c : UInt8) : ∀ s : List UInt8, ∀ x ∈ spC c s, x.length ≤ s.length
  | [],x,hx=>by rw [spC] at hx;rw [List.mem_singleton.1 hx];exact Nat.le_refl _
  | b::s,x,hx=>by
    unfold spC at hx
    split at hx
    · rcases List.mem_cons.1 hx with rfl | hx
      · exact Nat.zero_le _
      · exact Nat.le_succ_of_le (zHs c s x hx)
    · cases h : spC c s with
      | nil=>exact absurd h (zJM c s)
      | cons y ys=>
        rw [h] at hx
        rcases List.mem_cons.1 hx with rfl | hx
        · have := zHs c s y (by rw [h]; exact List.mem_cons_self)
          simp only [List.length_cons];omega
        · have := zHs c s x (by rw [h]; exact List.mem_cons_of_mem _ hx)
          simp only [List.length_cons];omega
theorem zI1 {t:List UInt8} {i:Nat} {c:UInt8} (h:t[i]? = some c):bAt t (i:Int)=(c.toNat:Int):=by
  unfold bAt
  simp [List.getD_eq_getElem?_getD,h]
theorem zLc {s:List UInt8} {a b:Nat}:subL s (a:Int) (b:Int)=(s.drop a).take (b-a):=by simp [subL]
theorem zLx {fu : Nat} {s : List UInt8} {c : UInt8} (hs : s.length ≤ 1048576) : ∀ m i a k (acc : List (List UInt8)), i + m = s.length → m < k → a ≤ i → acc.length ≤ i → c ∉ (s.drop a).take (i - a) →
    ∃ q:Nat × List (List UInt8),zBm fu s (c.toNat:Int) k (a:Int) (i:Int) acc=some ((q.1:Int),q.2)∧q.1≤s.length∧q.2.length≤s.length∧q.2 ++ [s.drop q.1]=acc++spC c (s.drop a):=by
  intro m
  induction m with
  | zero=>
    intro i a k acc hi hk ha hacc hn
    obtain ⟨k,rfl⟩:∃ z,k=z+1:=⟨k-1,by omega⟩
    obtain rfl:i=s.length:=by omega
    refine ⟨(a,acc),by rw [zBm,lt_f];rfl,ha,hacc,?_⟩
    rw [List.take_of_length_le (by simp)] at hn
    rw [zJa hn]
  | succ m ih=>
    intro i a k acc hi hk ha hacc hn
    obtain ⟨k,rfl⟩:∃ z,k=z+1:=⟨k-1,by omega⟩
    have hlt:i<s.length:=by omega
    have hx:=List.getElem?_eq_getElem hlt
    have hdrop:s.drop a=(s.drop a).take (i-a)++s[i]::s.drop (i+1):=by
      have h1:(s.drop a).drop (i-a)=s[i]::s.drop (i+1):=by
        rw [List.drop_drop,show a+(i-a)=i by omega]
        exact List.drop_eq_getElem_cons hlt
      rw [← h1,List.take_append_drop]
    rw [zBm,lt_t hlt,cond_true,ck_t (zBC hlt),zI1 hx]
    by_cases hc:s[i]=c
    · have e : ((s[i].toNat : Int) == (c.toNat : Int)) = true := by rw [hc]; simp
      obtain ⟨q,h1,h2,h3,h4⟩:=ih (i+1) (i+1) k (acc ++ [(s.drop a).take (i-a)]) (by omega) (by omega) (Nat.le_refl _) (by simp;omega) (by simp)
      refine ⟨q,?_,h2,h3,?_⟩
      · rw [e, cond_true, ck_t (zBG.2 ⟨by omega, by omega, by omega⟩), ck_t (zAh (by simp; omega)), ck_t (zCl (by omega)), ck_t (zCl (by omega)), zB1, zLc]
        exact h1
      · have e3 := congrArg (spC c) hdrop
        rw [hc,zL3 hn] at e3
        rw [h4,e3,List.append_assoc]
        rfl
    · have e:((s[i].toNat:Int)==(c.toNat:Int))=false:=by
        rw [beq_eq_false_iff_ne]
        intro h
        exact hc (UInt8.toNat_inj.1 (by omega))
      obtain ⟨q, h1, h2, h3, h4⟩ := ih (i + 1) a k acc (by omega) (by omega) (by omega) (by omega) (by
        have ht:(s.drop a).take (i+1-a)=(s.drop a).take (i-a) ++ [s[i]]:=by
          rw [show i+1-a=(i-a)+1 by omega,List.take_add_one,List.getElem?_drop,show a+(i-a)=i by omega,hx]
          rfl
        rw [ht]
        intro h
        rcases List.mem_append.1 h with h | h
        · exact hn h
        · exact hc (List.mem_singleton.1 h).symm)
      refine ⟨q,?_,h2,h3,h4⟩
      rw [e,cond_false,ck_t (zCl (by omega)),zB1]
      exact h1
theorem zN4 {fu:Nat} {s:List UInt8} {c:UInt8} (hf:1048577≤fu) (hs:s.length≤1048576):zCu fu s (c.toNat:Int)=some (spC c s):=by
  obtain ⟨q,h1,h2,h3,h4⟩:=zLx (fu:=fu) (c:=c) hs s.length 0 0 fu [] (by omega) (by omega) (Nat.le_refl _) (Nat.zero_le _) (by simp)
  unfold zCu
  have e:subL s (q.1:Int) (s.length:Int)=s.drop q.1:=by
    unfold subL
    exact List.take_of_length_le (by simp only [List.length_drop];omega)
  rw [show (0:Int)=((0:Nat):Int) from rfl,h1,zA6]
  dsimp only
  rw [ck_t (zBG.2 ⟨by omega,by omega,by omega⟩),e,ck_t (zAh (by simp;omega)),h4]
  simp
theorem zJ6 {b c:UInt8} {l:List UInt8} (h:b ≠ c):Lib.index (b::l) [c]=if Lib.index l [c] == -1 then -1 else Lib.index l [c]+1:=by
  have hp:([c]:List UInt8).isPrefixOf (b::l)=false:=by simp [List.isPrefixOf,Ne.symm h]
  rw [Lib.index,hp]
  simp
end Go.Proofs.YtldppodfhabkjaaGreatDoor
namespace Go.Proofs.YtldppodfhabkjaaGreatDoor
open Go.RowKit
set_option linter.unusedVariables false
set_option linter.unusedSimpArgs false
theorem zBk (s:List UInt8):(bytL s).length=s.length:=by simp [bytL]
theorem zDc (s:List UInt8):strB (bytL s)=s:=by
  unfold strB bytL
  rw [List.map_map]
  have:((fun n:Int=>UInt8.ofNat n.toNat) ∘ fun b:UInt8=>(b.toNat:Int))=id:=by
    funext b
    show UInt8.ofNat ((b.toNat:Int)).toNat=b
    rw [Int.toNat_natCast]
    exact UInt8.ofNat_toNat
  rw [this,List.map_id]
theorem zD3 (s t:List UInt8):bytL s++bytL t=bytL (s++t):=by simp [bytL]
theorem zEI (c:UInt8):([(c.toNat:Int)]:List Int)=bytL [c]:=rfl
theorem zJO {s:List UInt8} {i:Nat} {c:UInt8} (h:s[i]? = some c):gtD (bytL s) (i:Int)=(c.toNat:Int):=zAu (by simp [bytL,h])
theorem zEX {σ ρ:Type} {L:Nat→Int→σ→Option ρ} {n:Nat} {r:ρ} (St:Nat→σ) (hs:∀ k i,i<n→L (k+1) (i:Int) (St i)=L k ((i+1:Nat):Int) (St (i+1))) (he:∀ k,L (k+1) (n:Int) (St n)=some r) {fu:Nat} (hf:n<fu):L fu (0:Int) (St 0)=some r:=by
  have key:∀ m i k,i+m=n→m<k→L k ((i:Nat):Int) (St i)=some r:=by
    intro m
    induction m with
    | zero=>
      intro i k hi hk
      obtain ⟨k,rfl⟩:∃ q,k=q+1:=⟨k-1,by omega⟩
      obtain rfl:i=n:=by omega
      exact he k
    | succ m ih=>
      intro i k hi hk
      obtain ⟨k,rfl⟩:∃ q,k=q+1:=⟨k-1,by omega⟩
      rw [hs k i (by omega)]
      exact ih (i+1) k (by omega) (by omega)
  exact key n 0 fu (by omega) hf
theorem zET {α σ:Type} {g:σ→α→σ} {a:σ} {s:List α} {i:Nat} {c:α} (h:s[i]? = some c):(s.take (i+1)).foldl g a=g ((s.take i).foldl g a) c:=by
  rw [List.take_add_one,h]
  simp
theorem zG1 {α σ:Type} {g:σ→α→σ} {a:σ} (s:List α):(s.take s.length).foldl g a=s.foldl g a:=by rw [List.take_length]
theorem zJV {fu:Nat} {s:List UInt8} {F:Int→Option Int} {f:UInt8→UInt8} (hF:∀ c ∈ s,F (c.toNat:Int)=some ((f c).toNat:Int)) (hf:s.length<fu) (hl:s.length≤1048576):zD0 fu s F=some (s.map f):=by
  unfold zD0
  have h:=zEX (L:=zBy fu s F) (n:=s.length) (r:=bytL (s.map f)) (fun i=>bytL ((s.take i).map f++s.drop i)) (fun k i hi=>by
    have hx:=List.getElem?_eq_getElem hi
    have hlen:((s.take i).map f++s.drop i).length=s.length:=by simp;omega
    have hg:((s.take i).map f++s.drop i)[i]? = some s[i]:=by
      rw [List.getElem?_append_right (by simp;omega)]
      simp [Nat.min_eq_left (Nat.le_of_lt hi),hx]
    have hset0:((s.take i).map f++s.drop i).set i (f s[i])=(s.take (i+1)).map f++s.drop (i+1):=by
      rw [List.drop_eq_getElem_cons hi,List.set_append_right _ _ (by simp;omega)]
      have h0:i-((s.take i).map f).length=0:=by simp;omega
      rw [h0,List.set_cons_zero,List.take_add_one,hx,List.map_append,List.append_assoc]
      rfl
    have hset:(bytL ((s.take i).map f++s.drop i)).set i ((f s[i]).toNat:Int)=bytL ((s.take (i+1)).map f++s.drop (i+1)):=by
      rw [← hset0]
      unfold bytL
      exact List.map_set.symm
    rw [zBy,zBk,lt_t hi,cond_true]
    rw [ck_t (zBC (by rw [zBk,hlen];exact hi)),zJO hg,hF _ (List.getElem_mem hi),zA6,ck_t (zBC (by rw [zBk,hlen];exact hi)),zB1,ck_t (zCF (by omega)),Int.toNat_natCast,hset]) (fun k=>by
    rw [zBy,zBk,lt_f,cond_false]
    simp) hf
  rw [List.take_zero,List.drop_zero,List.map_nil,List.nil_append] at h
  rw [ck_t (zAh (by omega)),h,zA6,zDc]
def fld (c:UInt8):UInt8:=UInt8.ofNat (zHl c.toNat).toNat
theorem zMr (c:UInt8):((fld c).toNat:Int)=zHl c.toNat:=by
  have hc:c.toNat<256:=c.toNat_lt
  unfold fld zHl cpI
  by_cases h:(65:Int)≤(c.toNat:Int)∧(c.toNat:Int)≤90
  · rw [decide_eq_true h.1, decide_eq_true h.2]
    simp only [Bool.and_self,cond_true]
    rw [UInt8.toNat_ofNat']
    omega
  · have:(decide ((65:Int)≤(c.toNat:Int))&&decide ((c.toNat:Int)≤90))=false:=by
      rw [Bool.and_eq_false_iff,decide_eq_false_iff_not,decide_eq_false_iff_not]
      omega
    rw [this,cond_false,UInt8.toNat_ofNat']
    omega
theorem zHU {fu:Nat} {s:List UInt8} (hf:s.length<fu) (hl:s.length≤1048576):zCQ fu s=some (s.map fld):=by
  unfold zCQ
  rw [zJV (f:=fld) (fun c _=>?_) hf hl,zA6]
  have hc:c.toNat<256:=c.toNat_lt
  rw [zMr]
  unfold zD5 zHl cpI
  rw [zCW]
  by_cases h:(65:Int)≤(c.toNat:Int)∧(c.toNat:Int)≤90
  · rw [decide_eq_true h.1, decide_eq_true h.2]
    simp only [Bool.and_self,cond_true]
    rw [zIn _ (by omega) (by omega)]
  · have:(decide ((65:Int)≤(c.toNat:Int))&&decide ((c.toNat:Int)≤90))=false:=by
      rw [Bool.and_eq_false_iff,decide_eq_false_iff_not,decide_eq_false_iff_not]
      omega
    rw [this,cond_false,cond_false]
theorem zGI {fu:Nat} {s:List UInt8} (hf:s.length<fu) (hl:s.length≤1048576):zBn fu s=some (s.map fld):=zNP hf hl
theorem zNZ (c : UInt8) : ∀ s : List UInt8, Lib.replaceK [c] [] (Lib.count s [c]) s = s.filter fun b => b != c
  | []=>by rw [Lib.count_one];rfl
  | b::l=>by
    have ih:=zNZ c l
    by_cases h:b=c
    · subst h
      rw [Lib.count_cons_eq,Nat.add_comm,Lib.replaceK,show Lib.index (b::l) [b]=0 by rw [Lib.index];simp [List.isPrefixOf],if_neg (by decide),List.filter_cons]
      simpa using ih
    · rw [Lib.count_cons_ne b c l h, List.filter_cons, if_pos (by simpa using h), ← ih]
      cases hk:Lib.count l [c] with
      | zero=>rfl
      | succ k=>
        have hm:Lib.index l [c] ≠ -1:=fun hm=>by rw [Lib.count_miss hm] at hk;cases hk
        have hge:=Lib.index_ge l [c]
        obtain ⟨j,hj⟩:∃ j:Nat,Lib.index l [c]=j:=⟨(Lib.index l [c]).toNat,by omega⟩
        have e2:((j:Int)+1).toNat=j+1:=by omega
        rw [Lib.replaceK,zJ6 h,hj,if_neg (by simp;omega),if_neg (by simp),e2,Lib.replaceK,hj,if_neg (by simp)]
        simp
theorem zMa (c:UInt8) (s:List UInt8):Lib.replaceAll s [c] []=s.filter fun b=>b != c:=by
  unfold Lib.replaceAll Lib.replace Lib.replaceNum
  rw [if_neg (by simp),if_pos (.inl (by decide)),zNZ]
def wdB (c:UInt8):Bool:=wdI c.toNat
def mkC (c:UInt8):UInt8:=bif wdB c then c else 32
def strL (s:List UInt8):List UInt8:=(s.filter fun b=>b != 39).map mkC
theorem zMU {fu:Nat} {c:UInt8}:zCN fu (c.toNat:Int)=some (wdB c):=by
  unfold zCN zCL zCj wdB wdI smI cpI dgI
  simp only [zCW,zA6,zNm]
  generalize (decide ((97:Int)≤(c.toNat:Int))&&decide ((c.toNat:Int)≤122))=a
  generalize (decide ((65:Int)≤(c.toNat:Int))&&decide ((c.toNat:Int)≤90))=b
  generalize (decide ((48:Int)≤(c.toNat:Int))&&decide ((c.toNat:Int)≤57))=d
  cases a <;> cases b <;> cases d <;> rfl
theorem zMZ {fu:Nat} {c:UInt8}:zDT fu (c.toNat:Int)=some (wdB c):=by
  unfold zDT wdB wdI smI cpI dgI
  rfl
theorem zJC {fu:Nat} {s:List UInt8} (hf:s.length<fu) (hl:s.length≤1048576):zCR fu s=some (strL s):=by
  have hle:=List.length_filter_le (fun b:UInt8=>b != 39) s
  unfold zCR zEw
  rw [zMa,ck_t (by simp;omega),zA6,zJV (f:=mkC) (fun c _=>?_) (by omega) (by omega),zA6]
  · rfl
  · unfold zCU mkC
    rw [zMU,zA6]
    cases wdB c <;> rfl
theorem zHn {c d:UInt8} (h:c ≠ d):(((c.toNat:Int))==(d.toNat:Int))=false:=by
  rw [beq_eq_false_iff_ne]
  intro e
  exact h (UInt8.toNat_inj.1 (by omega))
def stG (a:List UInt8) (c:UInt8):List UInt8:=bif c != 39 then a ++ [mkC c] else a
theorem zI4 : ∀ (s a : List UInt8), s.foldl stG a = a ++ strL s
  | [],a=>by simp [strL]
  | c::s,a=>by
    rw [List.foldl_cons,zI4 s]
    unfold stG strL
    rw [List.filter_cons]
    cases h:c != 39 <;> simp
theorem zJF {fu:Nat} {s:List UInt8} (hf:s.length<fu) (hl:s.length≤1048576):zCP fu s=some (strL s):=by
  unfold zCP
  have hlen:∀ i,i≤s.length→((s.take i).foldl stG []).length≤i:=fun i hi=>by
    rw [zI4,List.nil_append]
    unfold strL
    rw [List.length_map]
    have:=List.length_filter_le (fun b:UInt8=>b != 39) (s.take i)
    rw [List.length_take] at this
    omega
  have h:=zEX (L:=zAq fu s) (n:=s.length) (r:=bytL (s.foldl stG [])) (fun i=>bytL ((s.take i).foldl stG [])) (fun k i hi=>by
    have hx:=List.getElem?_eq_getElem hi
    have hil:=hlen i (by omega)
    generalize hc:s[i]=c at hx
    rw [zAq,lt_t hi,cond_true,zET hx,ck_t (zBC hi),zDw hx,zMZ,zA6]
    generalize (s.take i).foldl stG []=o at hil ⊢
    have hl1:∀ (l:List Int),l.length=1→zBD ((bytL o).length+l.length)=true:=fun l hl=>zAh (by rw [zBk,hl];omega)
    rw [hl1 _ rfl,hl1 _ rfl]
    simp only [zBC hi,Bool.or_true,zCz,zCW,zB1,zCF (show i≤4294967296 by omega)]
    by_cases h32:c=32
    · subst h32
      have hw:(wdB 32 || (((UInt8.toNat 32:Nat):Int)==(32:Int)))=true:=by decide
      rw [hw,cond_true,zEI,zD3]
      rfl
    · have e32 : (((c.toNat : Int)) == (32 : Int)) = false := zHn (d := 32) h32
      rw [e32,Bool.or_false]
      cases hw:wdB c with
      | true=>
        have h39:c ≠ 39:=fun e=>by subst e;exact absurd hw (by decide)
        have:(c != 39)=true:=by simpa using h39
        rw [cond_true,zEI,zD3]
        unfold stG mkC
        rw [this,hw,cond_true,cond_true]
      | false=>
        rw [cond_false]
        by_cases h39:c=39
        · subst h39
          rfl
        · have e39:(((c.toNat:Int)) != (39:Int))=true:=by
            have:=zHn (d:=39) h39
            show (!(((c.toNat:Int))==(((39:UInt8).toNat:Nat):Int)))=true
            rw [this]
            rfl
          have:(c != 39)=true:=by simpa using h39
          rw [e39,cond_true,show ([(32:Int)]:List Int)=bytL [32] from rfl,zD3]
          unfold stG mkC
          rw [this,hw,cond_true,cond_false]) (fun k=>by rw [zAq,lt_f,cond_false,zG1]) hf
  rw [show (([]:List Int))=bytL ((s.take 0).foldl stG []) from rfl,h,zA6,zDc,zI4,List.nil_append]
def coS (o:List UInt8 × Bool) (c:UInt8):List UInt8 × Bool:=bif c==32 then (o.1,true) else ((bif !o.1.isEmpty&&o.2 then o.1 ++ [32] else o.1) ++ [c],false)
def coT (o:List UInt8 × Bool):List UInt8:=bif !o.1.isEmpty&&o.2 then o.1 ++ [32] else o.1
def colL (s:List UInt8):List UInt8:=(s.foldl coS ([],false)).1
theorem zJs {o:List UInt8 × Bool} {c:UInt8} (h:(c==32)=true):coS o c=(o.1,true):=by unfold coS;rw [h];rfl
theorem zJl {o:List UInt8 × Bool} {c:UInt8} (h:(c==32)=false):coS o c=(coT o ++ [c],false):=by unfold coS coT;rw [h];rfl
theorem zKa (o:List UInt8 × Bool):(coT o).length≤o.1.length+1:=by
  unfold coT
  cases (!o.1.isEmpty&&o.2)
  · rw [cond_false];omega
  · rw [cond_true,List.length_append,List.length_singleton];omega
theorem zJK (s:List UInt8):∀ i,i≤s.length→((s.take i).foldl coS ([],false)).1.length≤2*i:=by
  intro i
  induction i with
  | zero=>intro _;exact Nat.zero_le _
  | succ i ih=>
    intro hi
    have:=ih (by omega)
    rw [zET (List.getElem?_eq_getElem (show i<s.length by omega))]
    generalize (s.take i).foldl coS ([],false)=o at this ⊢
    have h2:=zKa o
    cases h:s[i]==32
    · rw [zJl h]
      dsimp only
      rw [List.length_append,List.length_singleton]
      omega
    · rw [zJs h]
      dsimp only
      omega
theorem zN2 (s:List UInt8) {i:Nat} (hi:i<s.length):((s.take (i+1)).foldl coS ([],false)).2=(s[i]==32):=by
  rw [zET (List.getElem?_eq_getElem hi)]
  generalize (s.take i).foldl coS ([],false)=o
  cases h:s[i]==32
  · rw [zJl h]
  · rw [zJs h]
theorem zKn (s:List UInt8):∀ i,i≤s.length→((s.take i).foldl coS ([],false)).1 = []∨∃ l c,((s.take i).foldl coS ([],false)).1=l ++ [c]∧(c==32)=false:=by
  intro i
  induction i with
  | zero=>intro _;exact .inl rfl
  | succ i ih=>
    intro hi
    have:=ih (by omega)
    rw [zET (List.getElem?_eq_getElem (show i<s.length by omega))]
    generalize (s.take i).foldl coS ([],false)=o at this ⊢
    cases h:s[i]==32
    · rw [zJl h]
      exact .inr ⟨_,_,rfl,h⟩
    · rw [zJs h]
      exact this
theorem e32 {c:UInt8}:(((c.toNat:Int))==(32:Int))=(c==32):=by
  by_cases h:c=32
  · subst h;rfl
  · exact (show (((c.toNat:Int))==(32:Int))=false from zHn (d:=32) h).trans (beq_eq_false_iff_ne.2 h).symm
theorem ne32 {c:UInt8}:(((c.toNat:Int)) != (32:Int)) = !(c==32):=by rw [← e32];rfl
theorem zLF (l:List UInt8):decide ((0:Int)<((bytL l).length:Int)) = !l.isEmpty:=by
  rw [zBk]
  cases l with
  | nil=>rfl
  | cons a l=>exact decide_eq_true (by simp)
theorem zLG {fu:Nat} {s:List UInt8} (hf:s.length<fu) (hl:s.length≤1048576):zBo fu s=some (colL s):=by
  unfold zBo
  have h:=zEX (L:=zAa fu s) (n:=s.length) (r:=bytL (s.foldl coS ([],false)).1) (fun i=>bytL ((s.take i).foldl coS ([],false)).1) (fun k i hi=>by
    have hx:=List.getElem?_eq_getElem hi
    have hil:=zJK s i (by omega)
    have hpv:∀ j,i=j+1→((s.take i).foldl coS ([],false)).2=(s[j]! == 32):=fun j hj=>by subst hj;rw [zN2 s (by omega),getElem!_pos s j (by omega)]
    have hz:i=0→((s.take i).foldl coS ([],false)).1 = []:=fun h0=>by subst h0;rfl
    generalize hc:s[i]=c at hx
    rw [zAa,lt_t hi,cond_true,zET hx,ck_t (zBC hi),zDw hx]
    generalize (s.take i).foldl coS ([],false)=o at hil hpv hz ⊢
    have hl1:∀ (l:List Int),l.length=1→zBD ((bytL o.1).length+l.length)=true:=fun l hl=>zAh (by rw [zBk,hl];omega)
    have hl2:∀ (l m:List Int),l.length=1→m.length=1→zBD ((bytL o.1++l).length+m.length)=true:=fun l m h1 h2=>zAh (by rw [List.length_append,zBk,h1,h2];omega)
    rw [hl1 _ rfl,hl1 _ rfl,hl2 _ _ rfl rfl,ne32,zLF]
    simp only [zBC hi,zCz,zCW,zB1,zCF (show i≤4294967296 by omega)]
    cases h32:c==32 with
    | true=>
      rw [zJs h32]
      rfl
    | false=>
      rw [zJl h32]
      cases ho:o.1.isEmpty with
      | true=>
        have:o.1 = []:=List.isEmpty_iff.1 ho
        unfold coT
        rw [ho,this]
        rfl
      | false=>
        have hi0:i ≠ 0:=fun h0=>by rw [hz h0] at ho;cases ho
        obtain ⟨j,rfl⟩:∃ j,i=j+1:=⟨i-1,by omega⟩
        have hj:=List.getElem?_eq_getElem (show j<s.length by omega)
        have hp:=hpv j rfl
        rw [getElem!_pos s j (by omega)] at hp
        simp only [zND,zBC (show j<s.length by omega),zKX j (by omega),zDw hj,e32,Bool.or_true,zCz,← hp,Bool.not_false,Bool.true_and,cond_true]
        unfold coT
        rw [ho]
        cases o.2
        · simp only [cond_false, Bool.and_false]
          rw [zEI,zD3]
        · simp only [cond_true, cond_false, Bool.not_false, Bool.and_true]
          rw [zEI,show ([(32:Int)]:List Int)=bytL [32] from rfl,zD3,zD3]) (fun k=>by rw [zAa,lt_f,cond_false,zG1]) hf
  rw [show (([]:List Int))=bytL ((s.take 0).foldl coS ([],false)).1 from rfl,h,zA6,zDc]
  rfl
theorem zMF {l:List UInt8} {c:UInt8}:gtD (bytL (l ++ [c])) (((bytL (l ++ [c])).length:Int)-1)=(c.toNat:Int):=by
  rw [zBk,List.length_append,List.length_singleton,show (((l.length+1:Nat):Int))-1=((l.length:Nat):Int) by omega]
  exact zJO (by simp)
theorem zNp {l:List UInt8} (h:l ≠ []):inR (((bytL l).length:Int)-1) (bytL l).length=true:=by
  have:0<l.length:=List.length_pos_iff.2 h
  rw [zBk]
  exact zLj (by omega) (by omega)
theorem zLK {fu:Nat} {l:List UInt8} (hl:l.length≤4194304):zBE fu (l ++ [32]) ([32]:List UInt8)=some l:=by
  unfold zBE zAo zAp
  have e1:(((l ++ [32]:List UInt8).length:Nat):Int)-((([32]:List UInt8).length:Nat):Int)=((l.length:Nat):Int):=by simp
  have e2:subL (l ++ [32]:List UInt8) (l.length:Int) (((l ++ [32]:List UInt8).length:Nat):Int) = [32]:=by simp [subL]
  have e3:subL (l ++ [32]:List UInt8) 0 (l.length:Int)=l:=by simp [subL]
  have e4:decide (((([32]:List UInt8).length:Nat):Int)≤(((l ++ [32]:List UInt8).length:Nat):Int))=true:=decide_eq_true (by simp;omega)
  simp only [e1,e2,e3,e4,zKX l.length (by omega),Bool.or_true,zCz,zCW,zA6,zBG.2 (show (0:Int)≤(l.length:Int)∧(l.length:Int)≤(((l ++ [32]:List UInt8).length:Nat):Int)∧(((l ++ [32]:List UInt8).length:Nat):Int)≤(((l ++ [32]:List UInt8).length:Nat):Int) from ⟨by omega,by simp;omega,Int.le_refl _⟩),zBG.2 (show (0:Int)≤(0:Int)∧(0:Int)≤(l.length:Int)∧(l.length:Int)≤(((l ++ [32]:List UInt8).length:Nat):Int) from ⟨by omega,by omega,by simp;omega⟩)]
  rfl
theorem zKF {fu:Nat} {l:List UInt8} {c:UInt8} (h:(c==32)=false) (hl:l.length≤4194304):zBE fu (l ++ [c]) ([32]:List UInt8)=some (l ++ [c]):=by
  unfold zBE zAo zAp
  have e1:(((l ++ [c]:List UInt8).length:Nat):Int)-((([32]:List UInt8).length:Nat):Int)=((l.length:Nat):Int):=by simp
  have e2:subL (l ++ [c]:List UInt8) (l.length:Int) (((l ++ [c]:List UInt8).length:Nat):Int) = [c]:=by simp [subL]
  have e4:decide (((([32]:List UInt8).length:Nat):Int)≤(((l ++ [c]:List UInt8).length:Nat):Int))=true:=decide_eq_true (by simp;omega)
  have e5:(([c]:List UInt8) == [32])=false:=by simpa using h
  simp only [e1,e2,e4,e5,zKX l.length (by omega),Bool.or_true,zCz,zCW,zA6,zBG.2 (show (0:Int)≤(l.length:Int)∧(l.length:Int)≤(((l ++ [c]:List UInt8).length:Nat):Int)∧(((l ++ [c]:List UInt8).length:Nat):Int)≤(((l ++ [c]:List UInt8).length:Nat):Int) from ⟨by omega,by simp;omega,Int.le_refl _⟩)]
  rfl
theorem zKy {fu:Nat} {s:List UInt8} (hf:s.length<fu) (hl:s.length≤1048576):zBq fu s=some (colL s):=by
  unfold zBq
  have h:=zEX (L:=zAj fu s) (n:=s.length) (r:=bytL (coT (s.foldl coS ([],false)))) (fun i=>bytL (coT ((s.take i).foldl coS ([],false)))) (fun k i hi=>by
    have hx:=List.getElem?_eq_getElem hi
    have hil:=zJK s i (by omega)
    have hla:=zKn s i (by omega)
    generalize hc:s[i]=c at hx
    rw [zAj,lt_t hi,cond_true,zET hx,ck_t (zBC hi),zDw hx]
    generalize (s.take i).foldl coS ([],false)=o at hil hla ⊢
    have hcl:=zKa o
    have hl1:∀ (l:List Int),l.length=1→zBD ((bytL (coT o)).length+l.length)=true:=fun l hl=>zAh (by rw [zBk,hl];omega)
    rw [hl1 _ rfl,ne32,zLF]
    simp only [zBC hi,zCz,zCW,zB1,zCF (show i≤4294967296 by omega)]
    have hb:i64B (((bytL (coT o)).length:Int)-1)=true:=zD7 (by omega) (by rw [zBk];omega)
    rw [hb]
    simp only [Bool.or_true,zCz]
    cases h32:c==32 with
    | false=>
      rw [zJl h32]
      have e:coT (coT o ++ [c],false)=coT o ++ [c]:=by simp [coT]
      rw [e,← zD3,← zEI]
      simp [zCz]
    | true=>
      rw [zJs h32]
      rcases hla with h0 | ⟨l,d,h0,hd⟩
      · have e1 : coT o = [] := by unfold coT; rw [h0]; rfl
        have e2:coT (o.1,true) = []:=by unfold coT;rw [h0];rfl
        rw [e1,e2]
        rfl
      · have ho : o.1.isEmpty = false := by rw [h0]; simp
        have e2:coT (o.1,true)=o.1 ++ [32]:=by unfold coT;dsimp only;rw [ho];rfl
        have e0:(coT o).isEmpty=false:=by
          unfold coT
          rw [h0]
          cases (!(l ++ [d]).isEmpty&&o.2) <;> simp
        have hne:coT o ≠ []:=fun h=>by rw [h] at e0;cases e0
        rw [e0,e2,zNp hne]
        simp only [Bool.or_true,zCz,Bool.not_true,Bool.false_or,Bool.not_false,Bool.true_and]
        cases h2:o.2 with
        | true=>
          have e1:coT o=o.1 ++ [32]:=by unfold coT;rw [ho,h2];rfl
          rw [e1,zMF]
          rfl
        | false=>
          have e1:coT o=o.1:=by unfold coT;rw [ho,h2];rfl
          rw [e1,h0,zMF,ne32,hd]
          have:c=32:=by simpa using h32
          rw [this,zEI,zD3]
          rfl) (fun k=>by rw [zAj,lt_f,cond_false,zG1]) hf
  rw [show (([]:List Int))=bytL (coT ((s.take 0).foldl coS ([],false))) from rfl,h,zA6,zDc]
  have hla:=zKn s s.length (Nat.le_refl _)
  have hil:=zJK s s.length (Nat.le_refl _)
  rw [zG1] at hla hil
  unfold colL
  generalize s.foldl coS ([],false)=o at hla hil ⊢
  rcases hla with h0 | ⟨l,d,h0,hd⟩
  · have e1 : coT o = [] := by unfold coT; rw [h0]; rfl
    rw [e1,h0]
    rfl
  · have hll : l.length ≤ 4194304 := by rw [h0, List.length_append] at hil; omega
    have ho:o.1.isEmpty=false:=by rw [h0];simp
    cases h2:o.2 with
    | true=>
      have e1:coT o=o.1 ++ [32]:=by unfold coT;rw [ho,h2];rfl
      rw [e1,zLK (by omega)]
      rfl
    | false=>
      have e1:coT o=o.1:=by unfold coT;rw [ho,h2];rfl
      rw [e1,h0,zKF hd hll]
      rfl
def nrmL (s:List UInt8):List UInt8:=colL (strL (s.map fld))
theorem zHi (s:List UInt8):(strL s).length≤s.length:=by
  unfold strL
  rw [List.length_map]
  exact List.length_filter_le _ _
theorem zKA {fu:Nat} {s:List UInt8} (hf:s.length<fu) (hl:s.length≤1048576):zCZ fu s=some (nrmL s):=by
  have h1:=zHi (s.map fld)
  rw [List.length_map] at h1
  unfold zCZ
  rw [zGI hf hl,zA6,zJF (by simpa using hf) (by simpa using hl),zA6,zLG (by omega) (by omega),zA6]
  rfl
theorem zJm {fu:Nat} {s:List UInt8} (hf:s.length<fu) (hl:s.length≤1048576):zCc fu s=some (nrmL s):=by
  have h1:=zHi (s.map fld)
  rw [List.length_map] at h1
  unfold zCc
  rw [zHU hf hl,zA6,zJC (by simpa using hf) (by simpa using hl),zA6,zKy (by omega) (by omega),zA6]
  rfl
theorem zHt (s:List UInt8):(nrmL s).length≤2*s.length:=by
  have h1:=zHi (s.map fld)
  have h2:=zJK (strL (s.map fld)) _ (Nat.le_refl _)
  rw [zG1] at h2
  rw [List.length_map] at h1
  unfold nrmL colL
  omega
end Go.Proofs.YtldppodfhabkjaaGreatDoor
namespace Go.Proofs.YtldppodfhabkjaaGreatDoor
open Go.RowKit
set_option linter.unusedVariables false
structure Sto {α : Type} (lt : α → α → Bool) : Prop where
  irr:∀ a,lt a a=false
  tr:∀ a b c,lt a b=true→lt b c=true→lt a c=true
  tri:∀ a b,lt a b=false→lt b a=false→a=b
theorem zFT:Sto bLt:=⟨zHF,fun _ _ _=>zIP,fun _ _=>zKW⟩
section
variable {α:Type} {lt:α→α→Bool}
theorem Sto.asy (S:Sto lt) {a b:α} (h:lt a b=true):lt b a=false:=by
  cases hb:lt b a
  · rfl
  · have := S.tr a b a h hb
    rw [S.irr] at this
    cases this
theorem Sto.le_tr (S:Sto lt) {a b c:α} (h:lt b a=false) (k:lt c b=false):lt c a=false:=by
  cases hca:lt c a
  · rfl
  · cases hab : lt a b
    · have := S.tri a b hab h
      subst this
      rw [hca] at k
      cases k
    · have := S.tr c a b hca hab
      rw [this] at k
      cases k
abbrev zCk (lt:α→α→Bool) (l:List α):Prop:=l.Pairwise fun a b=>lt a b=true
abbrev zH1 (lt:α→α→Bool) (l:List α):Prop:=l.Pairwise fun a b=>lt b a=false
theorem zCk.w (S:Sto lt) {l:List α} (h:zCk lt l):zH1 lt l:=h.imp fun h=>S.asy h
theorem zFi (S : Sto lt) : ∀ {l m : List α}, zCk lt l → zCk lt m → (∀ x, x ∈ l ↔ x ∈ m) → l = m
  | [],[],_,_,_=>rfl
  | [],b::m,_,_,h=>by have:=(h b).2 (List.mem_cons_self ..);cases this
  | a::l,[],_,_,h=>by have:=(h a).1 (List.mem_cons_self ..);cases this
  | a::l,b::m,hl,hm,h=>by
    obtain ⟨h1,h2⟩:=List.pairwise_cons.1 hl
    obtain ⟨h3,h4⟩:=List.pairwise_cons.1 hm
    have e:a=b:=by
      rcases List.mem_cons.1 ((h a).1 (List.mem_cons_self ..)) with e | e
      · exact e
      · rcases List.mem_cons.1 ((h b).2 (List.mem_cons_self ..)) with e' | e'
        · exact e'.symm
        · have := S.asy (h1 b e')
          rw [h3 a e] at this
          cases this
    subst e
    congr 1
    refine zFi S h2 h4 fun x=>?_
    constructor
    · intro hx
      rcases List.mem_cons.1 ((h x).1 (List.mem_cons_of_mem _ hx)) with e | e
      · have := h1 x hx
        rw [e,S.irr] at this
        cases this
      · exact e
    · intro hx
      rcases List.mem_cons.1 ((h x).2 (List.mem_cons_of_mem _ hx)) with e | e
      · have := h3 x hx
        rw [e,S.irr] at this
        cases this
      · exact e
theorem zCk.nodup (S:Sto lt) {l:List α} (h:zCk lt l):l.Nodup:=h.imp fun {a b} h e=>by subst e;rw [S.irr] at h;cases h
def zK5 (l:List α) (k:Nat) (x:α):List α:=l.take k++x::l.drop k
theorem zHN (l:List α) (k:Nat) (x:α):(zK5 l k x).Perm (x::l):=by
  have:=(List.perm_middle (a:=x) (l₁:=l.take k) (l₂:=l.drop k))
  rwa [List.take_append_drop] at this
theorem zDu (l:List α) (k:Nat) (x:α):(zK5 l k x).length=l.length+1:=by simpa using (zHN l k x).length_eq
theorem zL6 {l:List α} {k:Nat} {x y:α}:y ∈ zK5 l k x ↔ y=x∨y ∈ l:=by rw [(zHN l k x).mem_iff,List.mem_cons]
theorem zNX {R:α→α→Prop} {l:List α} {k:Nat} {x:α} (hl:l.Pairwise R) (h1:∀ y ∈ l.take k,R y x) (h2:∀ y ∈ l.drop k,R x y):(zK5 l k x).Pairwise R:=by
  have hl':(l.take k++l.drop k).Pairwise R:=by rw [List.take_append_drop];exact hl
  obtain ⟨a,b,c⟩:=List.pairwise_append.1 hl'
  refine List.pairwise_append.2 ⟨a,List.pairwise_cons.2 ⟨h2,b⟩,fun y hy z hz=>?_⟩
  rcases List.mem_cons.1 hz with rfl | hz
  · exact h1 y hy
  · exact c y hy z hz
def plc (lt : α → α → Bool) (x : α) : List α → Nat
  | []=>0
  | y::l=>bif lt y x then plc lt x l+1 else 0
theorem zMN {x : α} : ∀ l : List α, plc lt x l ≤ l.length
  | []=>Nat.le_refl _
  | y::l=>by
    unfold plc
    cases lt y x
    · exact Nat.zero_le _
    · have h : plc lt x l ≤ l.length := zMN l
      simp
      omega
theorem zJW {x : α} : ∀ l : List α, ∀ y ∈ l.take (plc lt x l), lt y x = true
  | [],y,h=>by cases h
  | z::l,y,h=>by
    unfold plc at h
    cases hz:lt z x
    · rw [hz] at h
      cases h
    · rw [hz, cond_true, List.take_succ_cons] at h
      rcases List.mem_cons.1 h with rfl | h
      · exact hz
      · exact zJW l y h
theorem zHu {x : α} : ∀ l : List α, ∀ y, l[plc lt x l]? = some y → lt y x = false
  | [],y,h=>by cases h
  | z::l,y,h=>by
    unfold plc at h
    cases hz:lt z x
    · rw [hz] at h
      obtain rfl:z=y:=by simpa using h
      exact hz
    · rw [hz, cond_true, List.getElem?_cons_succ] at h
      exact zHu l y h
theorem zLe (S:Sto lt) {x:α} {l:List α} (hl:zH1 lt l):∀ y ∈ l.drop (plc lt x l),lt y x=false:=by
  intro y hy
  cases hd:l.drop (plc lt x l) with
  | nil=>rw [hd] at hy;cases hy
  | cons z t=>
    have hz:l[plc lt x l]? = some z:=by
      have:(l.drop (plc lt x l))[0]? = some z:=by rw [hd];rfl
      rwa [List.getElem?_drop,Nat.add_zero] at this
    have h0:=zHu l z hz
    rw [hd] at hy
    rcases List.mem_cons.1 hy with rfl | hy
    · exact h0
    · have hp : (z :: t).Pairwise fun a b => lt b a = false := hd ▸ hl.sublist (List.drop_sublist _ _)
      exact S.le_tr h0 ((List.pairwise_cons.1 hp).1 y hy)
def putW (lt:α→α→Bool) (l:List α) (x:α):List α:=zK5 l (plc lt x l) x
def putS [BEq α] (lt:α→α→Bool) (l:List α) (x:α):List α:=bif (l[plc lt x l]? == some x) then l else putW lt l x
theorem zJ7 [BEq α] [LawfulBEq α] (S:Sto lt) {l:List α} (x:α) (hl:zCk lt l):zCk lt (putS lt l x):=by
  unfold putS
  cases hc:(l[plc lt x l]? == some x)
  · refine zNX hl (zJW l) fun y hy => ?_
    have h1:=zLe S (hl.w S) y hy
    cases hxy:lt x y
    · have e := S.tri y x h1 hxy
      subst e
      exfalso
      cases hd:l.drop (plc lt y l) with
      | nil=>rw [hd] at hy;cases hy
      | cons z t=>
        have hz:l[plc lt y l]? = some z:=by
          have:(l.drop (plc lt y l))[0]? = some z:=by rw [hd];rfl
          rwa [List.getElem?_drop,Nat.add_zero] at this
        rw [hd] at hy
        have hp:(z::t).Pairwise fun a b=>lt a b=true:=hd ▸ hl.sublist (List.drop_sublist _ _)
        rcases List.mem_cons.1 hy with e | hy
        · subst e
          rw [hz] at hc
          simp at hc
        · have := (List.pairwise_cons.1 hp).1 y hy
          rw [zHu l z hz] at this
          cases this
    · rfl
  · exact hl
theorem zLJ [BEq α] [LawfulBEq α] {l:List α} {x y:α}:y ∈ putS lt l x ↔ y=x∨y ∈ l:=by
  unfold putS
  cases hc:(l[plc lt x l]? == some x)
  · exact zL6
  · rw [beq_iff_eq] at hc
    exact ⟨.inr,fun h=>h.elim (fun e=>(by rw [e];exact List.mem_of_getElem? hc)) id⟩
def cmpA [BEq α] : α → List α → List α
  | _,[]=>[]
  | p,x::xs=>bif x==p then cmpA x xs else x::cmpA x xs
def cmpL [BEq α] : List α → List α
  | []=>[]
  | x::xs=>x::cmpA x xs
theorem zI0 [BEq α] [LawfulBEq α] : ∀ {p : α} {l : List α} {y : α}, y ∈ cmpA p l → y ∈ l
  | p,x::xs,y,h=>by
    unfold cmpA at h
    cases hx:(x==p)
    · rw [hx, cond_false] at h
      rcases List.mem_cons.1 h with rfl | h
      · exact List.mem_cons_self ..
      · exact List.mem_cons_of_mem _ (zI0 h)
    · rw [hx, cond_true] at h
      exact List.mem_cons_of_mem _ (zI0 h)
theorem zGp [BEq α] [LawfulBEq α] : ∀ {p : α} {l : List α} {y : α}, y ∈ l → y = p ∨ y ∈ cmpA p l
  | p,x::xs,y,h=>by
    unfold cmpA
    cases hx:(x==p)
    · rw [cond_false]
      rcases List.mem_cons.1 h with rfl | h
      · exact .inr (List.mem_cons_self ..)
      · rcases zGp (p := x) h with rfl | h
        · exact .inr (List.mem_cons_self ..)
        · exact .inr (List.mem_cons_of_mem _ h)
    · rw [cond_true]
      rw [beq_iff_eq] at hx
      subst hx
      rcases List.mem_cons.1 h with rfl | h
      · exact .inl rfl
      · exact zGp h
theorem zLu [BEq α] [LawfulBEq α] {l:List α} {y:α}:y ∈ cmpL l ↔ y ∈ l:=by
  cases l with
  | nil=>rfl
  | cons x xs=>
    unfold cmpL
    constructor
    · intro h
      rcases List.mem_cons.1 h with rfl | h
      · exact List.mem_cons_self ..
      · exact List.mem_cons_of_mem _ (zI0 h)
    · intro h
      rcases List.mem_cons.1 h with rfl | h
      · exact List.mem_cons_self ..
      · rcases zGp (p := x) h with rfl | h
        · exact List.mem_cons_self ..
        · exact List.mem_cons_of_mem _ h
theorem zFW [BEq α] [LawfulBEq α] (S : Sto lt) : ∀ {p : α} {l : List α}, zH1 lt (p :: l) → zCk lt (p :: cmpA p l)
  | p,[],_=>List.pairwise_cons.2 ⟨fun y h=>(by cases h),List.Pairwise.nil⟩
  | p,x::xs,h=>by
    obtain ⟨h1,h2⟩:=List.pairwise_cons.1 h
    unfold cmpA
    cases hx:(x==p)
    · rw [cond_false]
      have ih:=zFW S h2
      refine List.pairwise_cons.2 ⟨fun y hy=>?_,ih⟩
      have hpx:lt p x=true:=by
        cases hpx:lt p x
        · have := S.tri p x hpx (h1 x (List.mem_cons_self ..))
          subst this
          simp at hx
        · rfl
      rcases List.mem_cons.1 hy with rfl | hy
      · exact hpx
      · exact S.tr p x y hpx ((List.pairwise_cons.1 ih).1 y hy)
    · rw [cond_true]
      rw [beq_iff_eq] at hx
      subst hx
      exact zFW S h2
theorem zJ8 [BEq α] [LawfulBEq α] (S:Sto lt) {l:List α} (h:zH1 lt l):zCk lt (cmpL l):=by
  cases l with
  | nil=>exact List.Pairwise.nil
  | cons x xs=>exact zFW S h
theorem zGw [BEq α] : ∀ {p : α} {l : List α}, (cmpA p l).length ≤ l.length
  | _,[]=>Nat.le_refl _
  | p,x::xs=>by
    unfold cmpA
    have:=zGw (p:=x) (l:=xs)
    cases (x==p) <;> simp <;> omega
theorem zHJ [BEq α] [LawfulBEq α] (S : Sto lt) : ∀ (xs : List α) (a : List α), zCk lt a → zCk lt (xs.foldl (putS lt) a) ∧ ∀ y, y ∈ xs.foldl (putS lt) a ↔ y ∈ xs ∨ y ∈ a
  | [],a,h=>⟨h,fun y=>by simp⟩
  | x::xs,a,h=>by
    obtain ⟨h1,h2⟩:=zHJ S xs (putS lt a x) (zJ7 S x h)
    refine ⟨h1,fun y=>?_⟩
    rw [List.foldl_cons,h2,zLJ,List.mem_cons]
    constructor
    · rintro (h | h | h)
      · exact .inl (.inr h)
      · exact .inl (.inl h)
      · exact .inr h
    · rintro ((h | h) | h)
      · exact .inr (.inl h)
      · exact .inl h
      · exact .inr (.inr h)
theorem zJ4 (S:Sto lt) (l:List α):zH1 lt (l.mergeSort fun x y=>!(lt y x)):=by
  have:=List.pairwise_mergeSort (le:=fun x y=>!(lt y x)) (fun a b c h k=>by
    simp only [Bool.not_eq_true'] at *
    exact S.le_tr h k) (fun a b=>by
    simp only [Bool.or_eq_true,Bool.not_eq_true']
    cases hb:lt b a
    · exact .inl rfl
    · exact .inr (S.asy hb)) l
  exact this.imp fun h=>by simpa using h
end
end Go.Proofs.YtldppodfhabkjaaGreatDoor
namespace Go.Proofs.YtldppodfhabkjaaGreatDoor
open Go.RowKit
set_option linter.unusedVariables false
set_option linter.unusedSimpArgs false
theorem zF5 {α:Type} (xs:List α) (k:Nat):subL xs 0 (k:Int)=xs.take k:=by simp [subL]
theorem zIN {α:Type} (xs:List α) (k:Nat):subL xs (k:Int) (xs.length:Int)=xs.drop k:=by
  unfold subL
  rw [Int.toNat_natCast,Int.toNat_natCast]
  exact List.take_of_length_le (by simp)
theorem zMH {α:Type} {xs:List α} {k:Nat} (h:k≤xs.length):subR 0 (k:Int) xs.length=true:=zBG.2 ⟨by omega,by omega,by omega⟩
theorem zMG {α:Type} {xs:List α} {k:Nat} (h:k≤xs.length):subR (k:Int) (xs.length:Int) xs.length=true:=zBG.2 ⟨by omega,by omega,by omega⟩
theorem zM8 {α : Type} {lt : α → α → Bool} {x : α} {l : List α} {L : Nat → Int → Option Int} (hs : ∀ k (i : Nat) y, l[i]? = some y → L (k + 1) (i : Int) = bif lt y x then L k ((i + 1 : Nat) : Int) else some (i : Int)) (he : ∀ k, L (k + 1) (l.length : Int) = some (l.length : Int)) {fu : Nat} (hf : l.length < fu) :
    L fu (0:Int)=some ((plc lt x l:Nat):Int):=by
  have key:∀ m i k,i+m=l.length→m<k→L k ((i:Nat):Int)=some ((i+plc lt x (l.drop i):Nat):Int):=by
    intro m
    induction m with
    | zero=>
      intro i k hi hk
      obtain ⟨k,rfl⟩:∃ q,k=q+1:=⟨k-1,by omega⟩
      obtain rfl:i=l.length:=by omega
      rw [he,List.drop_length]
      rfl
    | succ m ih=>
      intro i k hi hk
      obtain ⟨k,rfl⟩:∃ q,k=q+1:=⟨k-1,by omega⟩
      have hx:=List.getElem?_eq_getElem (show i<l.length by omega)
      rw [hs k i _ hx,zDH hx,plc]
      cases lt l[i] x
      · rfl
      · rw [cond_true, cond_true, ih (i + 1) k (by omega) (by omega)]
        congr 2
        omega
  have:=key l.length 0 fu (by omega) hf
  rwa [show ((0:Nat):Int)=0 from rfl,List.drop_zero,Nat.zero_add] at this
theorem zIZ {fu:Nat} {l:List (List UInt8)} {x:List UInt8} {tw:Bool} (hf:l.length<fu) (hl:l.length≤2147483648):zBZ fu l x tw=some (bif tw then putW bLt l x else putS bLt l x):=by
  unfold zBZ
  have h:=zM8 (lt:=bLt) (x:=x) (l:=l) (L:=zC7 fu l x) (fun k i y hy=>by
    have hi:=zCm hy
    rw [zC7]
    simp only [lt_t hi,zBC hi,zAu hy,zCW,Bool.or_true,Bool.true_and,zCz,zCF (show i≤4294967296 by omega),zB1]) (fun k=>by rw [zC7,lt_f];rfl) hf
  have hp:=zMN (lt:=bLt) (x:=x) l
  rw [h,zA6]
  simp only [zCW,zF5,zIN,zMH hp,zMG hp,zCz,List.length_nil,List.length_append,List.length_take,List.length_drop,List.length_singleton,List.nil_append,Nat.zero_add,zAh (show min (plc bLt x l) l.length≤4294967296 by omega),zAh (show min (plc bLt x l) l.length+1≤4294967296 by omega),zAh (show min (plc bLt x l) l.length+1+(l.length-plc bLt x l)≤4294967296 by omega)]
  have hins:l.take (plc bLt x l) ++ [x]++l.drop (plc bLt x l)=putW bLt l x:=by simp [putW,zK5]
  rw [hins]
  unfold putS
  by_cases hlt:plc bLt x l<l.length
  · have hg := List.getElem?_eq_getElem hlt
    rw [lt_t hlt,zBC hlt,zAu hg,hg]
    have:(some l[plc bLt x l]==some x)=(l[plc bLt x l]==x):=rfl
    rw [this]
    cases tw <;> cases (l[plc bLt x l]==x) <;> rfl
  · have e : decide (((plc bLt x l : Nat) : Int) < (l.length : Int)) = false := decide_eq_false (by omega)
    have e2:l[plc bLt x l]? = none:=List.getElem?_eq_none (by omega)
    rw [e,e2]
    cases tw <;> rfl
theorem zNr {fu:Nat} {l:List (List UInt8)} {x:List UInt8} (hf:l.length<fu) (hl:l.length≤2147483648):zDq fu l x=some (l.any fun y=>y==x):=by
  unfold zDq
  have h:=zFB (xs:=l) (p:=fun y=>y==x) (r:=true) (L:=zC8 fu l x) (fun k i y hy=>by
    have hi:=zCm hy
    rw [zC8,lt_t hi,cond_true]
    simp only [zBC hi,zAu hy,zCz,zCF (show i≤4294967296 by omega),zB1]) (fun k=>by rw [zC8,lt_f];rfl) hf
  rw [h,zA6]
  cases l.any fun y=>y==x <;> rfl
theorem zMT {fu:Nat} {l:List (List UInt8)} (hl:l.length≤4294967296):zB5 fu l=some l:=by
  unfold zB5
  rw [List.nil_append,ck_t (zAh (by simpa using hl))]
theorem zMq {fu:Nat} {l:List (List UInt8)} (hl:l.length≤4294967296):zHm fu l=some (l.mergeSort fun x y=>!(bLt y x)):=by
  unfold zHm
  rw [ck_t (zAh hl)]
  have:(fun x y:List UInt8=>decide (x≤y))=fun x y=>!(bLt y x):=by
    funext x y
    exact zNW x y
  rw [this]
theorem zLE {α:Type} {z:α} {s:List α} {w:Nat} (h:w≤s.length):subL (s.take w++List.replicate (s.length-w) z) 0 (w:Int)=s.take w:=by
  rw [zF5,List.take_append_of_le_length (by simp;omega),List.take_take,Nat.min_self]
theorem zIH {α:Type} {z:α} {s:List α} {w:Nat} (h:w≤s.length):(s.take w++List.replicate (s.length-w) z).length=s.length:=by simp;omega
theorem zJz {fu : Nat} {s : List (List UInt8)} {i : Nat} (hl : s.length ≤ 1048576) (hi0 : 0 < i) : ∀ m j w k ys q, i + j + m = s.length → m < k → 1 ≤ j → w ≤ i + j - 1 → ys.length = s.length → ys.drop (i + j - 1) = s.drop (i + j - 1) → s[i + j - 1]? = some q → ys.take w ++ cmpA q (s.drop (i + j)) = cmpL s →
    ∃ (w':Nat) (ys':List (List UInt8)),zAK fu (i:Int) (s.length-i) k (w:Int) (j:Int) ys=some ((w':Int),ys')∧ys'.length=s.length∧w'≤s.length∧ys'.take w'=cmpL s:=by
  intro m
  induction m with
  | zero=>
    intro j w k ys q hm hk hj hw hlen hdr hq hc
    obtain ⟨k,rfl⟩:∃ q,k=q+1:=⟨k-1,by omega⟩
    refine ⟨w,ys,?_,hlen,by omega,?_⟩
    · rw [zAK, decide_eq_false (show ¬ (j : Int) < ((s.length - i : Nat) : Int) by omega)]
      rfl
    · rw [show i + j = s.length by omega, List.drop_length] at hc
      simpa [cmpA] using hc
  | succ m ih=>
    intro j w k ys q hm hk hj hw hlen hdr hq hc
    obtain ⟨k,rfl⟩:∃ q,k=q+1:=⟨k-1,by omega⟩
    have hx:=List.getElem?_eq_getElem (show i+j<s.length by omega)
    have hat:∀ n,i+j-1≤n→ys[n]? = s[n]?:=fun n hn=>by
      have:=congrArg (fun l=>l[n-(i+j-1)]?) hdr
      simp only [List.getElem?_drop] at this
      rwa [show i+j-1+(n-(i+j-1))=n by omega] at this
    have hyx:ys[i+j]? = some s[i+j]:=(hat _ (by omega)).trans hx
    have hyq:ys[i+j-1]? = some q:=(hat _ (Nat.le_refl _)).trans hq
    have e1:((i:Int)+(j:Int))=((i+j:Nat):Int):=rfl
    have e2:((i:Int)+((j:Int)-1))=((i+j-1:Nat):Int):=by omega
    rw [zAK,decide_eq_true (show (j:Int)<((s.length-i:Nat):Int) by omega),cond_true,ck_t (zLj (by omega) (by omega)),ck_t (decide_eq_true (by omega)),e1,ck_t (zBC (by omega)),ck_t (zD7 (by omega) (by omega)),ck_t (zLj (by omega) (by omega)),ck_t (decide_eq_true (by omega)),e2,ck_t (zBC (by omega)),zAu hyx,zAu hyq]
    rw [zDH hx,cmpA] at hc
    cases hb:(s[i+j]==q)
    · rw [Bool.not_false, cond_true, ck_t (zLj (by omega) (by omega)), ck_t (decide_eq_true (by omega)), ck_t (zBC (by omega)), ck_t (zBC (by omega)), ck_t (zCl (by omega)), ck_t (zCl (by omega)), zB1, zB1, zIv]
      rw [hb,cond_false] at hc
      have:=ih (j+1) (w+1) k (ys.set w s[i+j]) s[i+j] (by omega) (by omega) (by omega) (by omega) (by rw [List.length_set];exact hlen) ?_ ?_ ?_
      · exact this
      · rw [List.drop_set_of_lt (by omega)]
        have:=congrArg (fun l=>l.drop 1) hdr
        simp only [List.drop_drop] at this
        rwa [show i+(j+1)-1=i+j-1+1 by omega]
      · rw [show i + (j + 1) - 1 = i + j by omega]
        exact hx
      · rw [List.take_add_one, List.take_set_of_le (Nat.le_refl _), List.getElem?_set_self (by omega)]
        simpa [Nat.add_assoc] using hc
    · rw [Bool.not_true, cond_false, ck_t (zCl (by omega)), zB1]
      rw [hb,cond_true] at hc
      refine ih (j+1) w k ys s[i+j] (by omega) (by omega) (by omega) (by omega) hlen ?_ ?_ hc
      · have := congrArg (fun l => l.drop 1) hdr
        simp only [List.drop_drop] at this
        rwa [show i+(j+1)-1=i+j-1+1 by omega]
      · rw [show i + (j + 1) - 1 = i + j by omega]
        exact hx
theorem zKV {fu:Nat} {s:List (List UInt8)} (hf:1048577≤fu) (hl:s.length≤1048576):zAw fu s=some (cmpL s):=by
  unfold zAw
  by_cases h2:s.length<2
  · rw [decide_eq_true (by omega), cond_true]
    match s,h2 with
    | [],_=>rfl
    | [x],_=>rfl
  · rw [decide_eq_false (by omega), cond_false]
    have key : ∀ m i k q, i + m = s.length → m < k → 0 < i → s[i - 1]? = some q → s.take i ++ cmpA q (s.drop i) = cmpL s →
        zAL fu k (i:Int) s=some (Ex.ret (cmpL s))∨(zAL fu k (i:Int) s=some (Ex.go s)∧cmpL s=s):=by
      intro m
      induction m with
      | zero=>
        intro i k q hm hk hi hq hc
        obtain ⟨k,rfl⟩:∃ q,k=q+1:=⟨k-1,by omega⟩
        obtain rfl:i=s.length:=by omega
        right
        refine ⟨by rw [zAL,lt_f];rfl,?_⟩
        rw [List.drop_length,List.take_length] at hc
        simpa [cmpA] using hc.symm
      | succ m ih=>
        intro i k q hm hk hi hq hc
        obtain ⟨k,rfl⟩:∃ q,k=q+1:=⟨k-1,by omega⟩
        have hlt:i<s.length:=by omega
        have hx:=List.getElem?_eq_getElem hlt
        have e1:((i:Int)-1)=((i-1:Nat):Int):=by omega
        rw [zAL,lt_t hlt,cond_true,ck_t (zBC hlt),ck_t (zD7 (by omega) (by omega)),e1,ck_t (zBC (by omega)),zAu hx,zAu hq]
        have hc':=hc
        rw [zDH hx,cmpA] at hc
        cases hb:(s[i]==q)
        · rw [cond_false, ck_t (zCl (by omega)), zB1]
          rw [hb,cond_false] at hc
          refine ih (i+1) k s[i] (by omega) (by omega) (by omega) (by rw [Nat.add_sub_cancel];exact hx) ?_
          have ht:s.take (i+1)=s.take i ++ [s[i]]:=by rw [List.take_add_one,hx];rfl
          rw [ht,List.append_assoc]
          exact hc
        · left
          rw [hb,cond_true] at hc
          obtain ⟨w',ys',h3,h4,h5,h6⟩:=zJz (fu:=fu) hl hi (s.length-i-1) 1 i fu s s[i] (by omega) (by omega) (Nat.le_refl _) (by omega) rfl rfl (by rw [Nat.add_sub_cancel];exact hx) hc
          rw [cond_true,ck_t (zMG (Nat.le_of_lt hlt)),zCW,Int.toNat_natCast,Int.toNat_natCast,show ((1:Int))=((1:Nat):Int) from rfl,h3,zA6]
          simp only [h4,zBG.2 ⟨show (0:Int)≤(w':Int) by omega,show (w':Int)≤(s.length:Int) by omega,show (s.length:Int)≤(s.length:Int) from Int.le_refl _⟩,zCW,Int.toNat_natCast,zCz,beq_self_eq_true]
          have e3:(ys'.take w'++List.replicate (s.length-w') ([]:List UInt8))=(ys'.take w'++List.replicate (ys'.length-w') ([]:List UInt8)):=by rw [h4]
          rw [e3,ck_t (by rw [zIH (by omega)];exact zMH (by omega)),zLE (by omega),h6]
    obtain ⟨x0,t,hs⟩:∃ x t,s=x::t:=by
      cases s with
      | nil=>simp at h2
      | cons x t=>exact ⟨x,t,rfl⟩
    have hk:=key (s.length-1) 1 fu x0 (by omega) (by omega) (by omega) (by rw [hs];rfl) (by rw [hs];rfl)
    rw [show ((1:Int))=((1:Nat):Int) from rfl]
    rcases hk with h | ⟨h,e⟩
    · rw [h]
      rfl
    · rw [h, e]
      rfl
theorem zDN {fu:Nat} {l:List (List UInt8)} (hf:1048577≤fu) (hl:l.length≤1048576):zAr fu l=some (cmpL (l.mergeSort fun x y=>!(bLt y x))):=by
  unfold zAr
  rw [zMT (by omega),zA6,zMq (by omega),zA6,zKV hf (by rw [List.length_mergeSort];exact hl)]
  rfl
def setL (l:List (List UInt8)):List (List UInt8):=cmpL (l.mergeSort fun x y=>!(bLt y x))
theorem zE9 (l:List (List UInt8)):zCk bLt (setL l):=zJ8 zFT (zJ4 zFT l)
theorem zEJ {l:List (List UInt8)} {x:List UInt8}:x ∈ setL l ↔ x ∈ l:=by
  unfold setL
  rw [zLu,List.mem_mergeSort]
theorem zIw {l:List (List UInt8)}:(cmpL l).length≤l.length:=by
  cases l with
  | nil=>exact Nat.le_refl _
  | cons x xs=>
    have:=zGw (p:=x) (l:=xs)
    simp [cmpL]
    omega
theorem zE6 (l:List (List UInt8)):(setL l).length≤l.length:=by
  have:=zIw (l:=l.mergeSort fun x y=>!(bLt y x))
  rwa [List.length_mergeSort] at this
end Go.Proofs.YtldppodfhabkjaaGreatDoor
namespace Go.Proofs.YtldppodfhabkjaaGreatDoor
open Go.RowKit
set_option linter.unusedVariables false
set_option linter.unusedSimpArgs false
def wds : List UInt8 → List UInt8 → List (List UInt8)
  | cur,[]=>bif cur.isEmpty then [] else [cur]
  | cur,b::l=>bif b==32 then (bif cur.isEmpty then wds [] l else cur::wds [] l) else wds (cur ++ [b]) l
def neL (l:List (List UInt8)):List (List UInt8):=l.filter fun y=>!y.isEmpty
theorem zHw (x:List UInt8) (l:List (List UInt8)):neL (x::l)=bif x.isEmpty then neL l else x::neL l:=by
  unfold neL
  rw [List.filter_cons]
  cases x.isEmpty <;> rfl
theorem zIt : ∀ (s cur x : List UInt8) (xs : List (List UInt8)), spC 32 s = x :: xs → wds cur s = neL ((cur ++ x) :: xs)
  | [],cur,x,xs,h=>by
    rw [spC] at h
    injection h with h1 h2
    subst h1;subst h2
    rw [wds,zHw,List.append_nil]
    rfl
  | b::s,cur,x,xs,h=>by
    obtain ⟨y,ys,hy⟩:∃ y ys,spC 32 s=y::ys:=by
      cases h':spC 32 s with
      | nil=>exact absurd h' (zJM 32 s)
      | cons y ys=>exact ⟨y,ys,rfl⟩
    by_cases hb:b=32
    · subst hb
      rw [spC,if_pos rfl] at h
      injection h with h1 h2
      subst h1;subst h2
      have ih:=zIt s [] y ys hy
      rw [List.nil_append,← hy] at ih
      rw [wds,show ((32:UInt8)==32)=true from rfl,cond_true,ih,zHw,List.append_nil]
    · rw [spC, if_neg hb, hy] at h
      injection h with h1 h2
      subst h1;subst h2
      rw [wds,show (b==32)=false from beq_eq_false_iff_ne.2 hb,cond_false,zIt s (cur ++ [b]) y ys hy,List.append_assoc]
      rfl
theorem zNd (s:List UInt8):wds [] s=neL (spC 32 s):=by
  cases h:spC 32 s with
  | nil=>exact absurd h (zJM 32 s)
  | cons y ys=>rw [zIt s [] y ys h,List.nil_append]
theorem zKE (s : ByteArray) (f : Nat) (st : Option Nat) (acc : List (Nat × Nat)) (p : Nat → Bool) (hst : ∀ a, st = some a → a < s.size) :
    (Lib.closeSpans s (Lib.spansFromP p s f s.size st acc)).map (fun q=>Lib.pieceU s.data.toList q.1 q.2)=acc.map (fun q=>Lib.pieceU s.data.toList q.1 q.2)++wds (Lib.openPiece s.data.toList st s.size) (s.data.toList.drop s.size):=by
  have hd:s.data.toList.drop s.size = []:=List.drop_eq_nil_of_le (by rw [← Lib.size_eq];exact Nat.le_refl _)
  rw [hd,Lib.spansFromP_end p s _ _ _ _ (Nat.lt_irrefl _)]
  cases st with
  | none=>simp [Lib.closeSpans,Lib.openPiece,wds]
  | some a=>
    have:=Lib.pieceU_ne s.data.toList a s.size (hst a rfl) (by rw [← Lib.size_eq];exact Nat.le_refl _)
    have h2:(Lib.pieceU s.data.toList a s.size).isEmpty=false:=by
      cases hz:Lib.pieceU s.data.toList a s.size with
      | nil=>exact absurd hz this
      | cons _ _=>rfl
    simp [Lib.closeSpans,Lib.openPiece,wds,h2]
theorem zMp (s : ByteArray) (hs : ∀ b ∈ s.data.toList, b.toNat < 128) (p : Nat → Bool) (hp : ∀ b : UInt8, b.toNat < 128 → p b.toNat = (b == 32)) : ∀ (f pos : Nat) (st : Option Nat) (acc : List (Nat × Nat)), s.size ≤ pos + f → pos ≤ s.size → (∀ a, st = some a → a < pos) →
    (Lib.closeSpans s (Lib.spansFromP p s f pos st acc)).map (fun q=>Lib.pieceU s.data.toList q.1 q.2)=acc.map (fun q=>Lib.pieceU s.data.toList q.1 q.2)++wds (Lib.openPiece s.data.toList st pos) (s.data.toList.drop pos):=by
  intro f
  induction f with
  | zero=>
    intro pos st acc h hp0 hst
    obtain rfl:pos=s.size:=by omega
    exact zKE s 0 st acc p hst
  | succ f ih=>
    intro pos st acc h hp0 hst
    by_cases hlt:pos<s.size
    · have hl : pos < s.data.toList.length := by rw [← Lib.size_eq]; exact hlt
      have hb:(s[pos]'hlt)=s.data.toList[pos]'hl:=rfl
      have ha:(s[pos]'hlt).toNat<128:=by rw [hb];exact hs _ (List.getElem_mem hl)
      have hd:=decode_ascii s pos hlt ha
      have hdr:s.data.toList.drop pos=(s[pos]'hlt)::s.data.toList.drop (pos+1):=List.drop_eq_getElem_cons hl
      unfold Lib.spansFromP
      rw [if_pos hlt,hd,hdr]
      generalize (s[pos]'hlt)=b at ha hb hdr ⊢
      dsimp only
      rw [hp b ha,wds]
      have h1:s.size≤pos+1+f:=by omega
      cases hb32:b==32 with
      | true=>
        rw [if_pos rfl,cond_true]
        cases st with
        | none=>
          have ih:=ih (pos+1) none acc h1 (by omega) (fun a h=>by cases h)
          dsimp only
          rw [ih]
          rfl
        | some a=>
          have hpn:=Lib.pieceU_ne s.data.toList a pos (hst a rfl) (by omega)
          have ih:=ih (pos+1) none (acc ++ [(a,pos)]) h1 (by omega) (fun a h=>by cases h)
          dsimp only
          rw [ih]
          have:(Lib.openPiece s.data.toList (some a) pos).isEmpty=false:=by
            show (Lib.pieceU s.data.toList a pos).isEmpty=false
            cases hz:Lib.pieceU s.data.toList a pos with
            | nil=>exact absurd hz hpn
            | cons _ _=>rfl
          rw [this,cond_false,List.map_append,List.append_assoc]
          rfl
      | false=>
        rw [if_neg (by decide),cond_false]
        have ht:(s.data.toList.drop pos).take 1 = [b]:=by rw [hdr];rfl
        cases st with
        | none=>
          have ih:=ih (pos+1) (some pos) acc h1 (by omega) (fun a h=>by cases h;omega)
          dsimp only
          rw [ih]
          have:Lib.openPiece s.data.toList (some pos) (pos+1) = [] ++ [b]:=by
            show Lib.pieceU s.data.toList pos (pos+1)=_
            unfold Lib.pieceU
            rw [Nat.add_sub_cancel_left,ht]
            rfl
          rw [this]
          rfl
        | some a=>
          have ih:=ih (pos+1) (some a) acc h1 (by omega) (fun b h=>by cases h;have:=hst a rfl;omega)
          dsimp only
          rw [ih]
          have:Lib.openPiece s.data.toList (some a) (pos+1)=Lib.openPiece s.data.toList (some a) pos ++ [b]:=by
            show Lib.pieceU s.data.toList a (pos+1)=Lib.pieceU s.data.toList a pos ++ [b]
            rw [← Lib.pieceU_grow _ _ _ _ (Nat.le_of_lt (hst a rfl)),ht]
          rw [this]
    · obtain rfl : pos = s.size := by omega
      exact zKE s (f+1) st acc p hst
theorem zLT (s:ByteArray) (hs:∀ b ∈ s.data.toList,b.toNat<128) (p:Nat→Bool) (hp:∀ b:UInt8,b.toNat<128→p b.toNat=(b==32)):(Lib.goFieldsP p s).map (·.data.toList)=neL (spC 32 s.data.toList):=by
  have h:=zMp s hs p hp s.size 0 none [] (by omega) (Nat.zero_le _) (fun a h=>by cases h)
  rw [List.map_nil,List.nil_append,List.drop_zero] at h
  rw [show Lib.openPiece s.data.toList none 0 = [] from rfl,zNd] at h
  rw [← h]
  unfold Lib.goFieldsP Lib.spansOfP
  rw [List.map_map]
  apply List.map_congr_left
  intro q _
  exact Lib.extract_data s q.1 q.2
def okC (c:UInt8):Bool:=wdB c || c==32
theorem zMl {c:UInt8} (h:okC c=true):c.toNat<128:=by
  unfold okC wdB wdI smI cpI dgI at h
  by_cases h32:c=32
  · subst h32;decide
  · rw [show (c == 32) = false from beq_eq_false_iff_ne.2 h32, Bool.or_false] at h
    simp only [Bool.or_eq_true,Bool.and_eq_true,decide_eq_true_eq] at h
    omega
theorem zMo (s:List UInt8):∀ c ∈ strL s,okC c=true:=by
  intro c hc
  unfold strL at hc
  obtain ⟨b,_,rfl⟩:=List.mem_map.1 hc
  unfold mkC okC
  cases h:wdB b
  · rfl
  · rw [cond_true,h];rfl
theorem zNJ {o:List UInt8 × Bool} (h:∀ c ∈ o.1,okC c=true):∀ c ∈ coT o,okC c=true:=by
  unfold coT
  cases (!o.1.isEmpty&&o.2)
  · exact h
  · intro c hc
    rcases List.mem_append.1 hc with hc | hc
    · exact h c hc
    · rw [List.mem_singleton.1 hc];rfl
theorem zKN : ∀ (s : List UInt8) (o : List UInt8 × Bool), (∀ c ∈ s, okC c = true) → (∀ c ∈ o.1, okC c = true) → ∀ c ∈ (s.foldl coS o).1, okC c = true
  | [],o,_,ho=>ho
  | b::s,o,hs,ho=>by
    rw [List.foldl_cons]
    refine zKN s _ (fun c hc=>hs c (List.mem_cons_of_mem _ hc)) ?_
    cases h:b==32
    · rw [zJl h]
      intro c hc
      rcases List.mem_append.1 hc with hc | hc
      · exact zNJ ho c hc
      · rw [List.mem_singleton.1 hc];exact hs b List.mem_cons_self
    · rw [zJs h]
      exact ho
theorem zKj (s:List UInt8):∀ c ∈ nrmL s,okC c=true:=zKN _ _ (zMo _) (fun c h=>by cases h)
theorem zGY (l:List (List UInt8)):l.foldl (putS bLt) []=setL l:=by
  obtain ⟨h1,h2⟩:=zHJ zFT l [] List.Pairwise.nil
  refine zFi zFT h1 (zE9 l) fun x=>?_
  rw [h2,zEJ]
  simp
def tokL (s:List UInt8):List (List UInt8):=setL (neL (spC 32 (nrmL s)))
theorem zI2 (l:List (List UInt8)):(neL l).length≤l.length:=List.length_filter_le _ _
theorem zMt {fu:Nat} {s:List UInt8} (hs:s.length≤2097152) (ha:∀ c ∈ s,okC c=true):zDr fu s=some (neL (spC 32 s)):=by
  have hF:∀ n:Int,zDF fu n=some (n==32):=fun n=>rfl
  unfold zDr zGd
  rw [ck_t (zAh (by omega)),ck_t (zKB fun n _=>by rw [hF];rfl),zA6]
  have:=zLT ⟨s.toArray⟩ (by simpa using fun b hb=>zMl (ha b hb)) (fun n=>(zDF fu (n:Int)).getD false) (fun b _=>by
    rw [hF]
    show (((b.toNat:Nat):Int)==(32:Int))=_
    exact e32)
  rw [this]
theorem zGj {fu:Nat} {s:List UInt8} (hf:1048577≤fu) (hl:s.length≤262144):zCG fu s=some (tokL s):=by
  have h2:=zHt s
  have h3:=zHg 32 (nrmL s)
  have h4:=zI2 (spC 32 (nrmL s))
  unfold zCG
  rw [zJm (by omega) (by omega),zA6,zMt (by omega) (zKj s),zA6,zDN hf (by omega),zA6]
  rfl
theorem zIa {fu:Nat} {s:List UInt8} (hf:1048577≤fu) (hl:s.length≤262144):zCH fu s=some (tokL s):=by
  have h2:=zHt s
  have h3:=zHg 32 (nrmL s)
  unfold zCH tokL
  have hcut:zCu fu (nrmL s) (32:Int)=some (spC 32 (nrmL s)):=zN4 (c:=32) hf (by omega)
  rw [zKA (by omega) (by omega),zA6,hcut,zA6]
  generalize spC 32 (nrmL s)=l at h3 ⊢
  have h:=zCf (xs:=l) (g:=fun (acc:List (List UInt8)) x=>bif x.isEmpty then acc else putS bLt acc x) (Inv:=fun i acc=>acc.length≤i) (L:=zBc fu l) (fun k i acc x hx hacc=>by
    have hi:=zCm hx
    rw [zBc,lt_t hi,cond_true]
    simp only [zBC hi,zAu hx,zCz,zIZ (show acc.length<fu by omega) (show acc.length≤2147483648 by omega),zA6,zCF (show i≤4294967296 by omega),zB1,cond_false]
    cases x with
    | nil=>rfl
    | cons b x=>rfl) (fun i acc x hx hacc=>by
    show (bif x.isEmpty then acc else putS bLt acc x).length≤i+1
    cases x.isEmpty
    · rw [cond_false]
      unfold putS putW
      cases (acc[plc bLt x acc]? == some x)
      · rw [cond_false,zDu];omega
      · exact Nat.le_succ_of_le hacc
    · exact Nat.le_succ_of_le hacc) (fun k acc hacc=>by rw [zBc,lt_f];rfl) (a:=[]) (Nat.zero_le _) (show l.length<fu by omega)
  rw [h.1,zA6,← zGY]
  unfold neL
  rw [List.foldl_filter]
  congr 2
  funext acc x
  cases x.isEmpty <;> rfl
theorem zIJ (c : UInt8) : ∀ s : List UInt8, ∀ x ∈ spC c s, ∀ b ∈ x, b ∈ s ∧ b ≠ c
  | [],x,hx,b,hb=>by rw [spC] at hx;rw [List.mem_singleton.1 hx] at hb;cases hb
  | a::s,x,hx,b,hb=>by
    unfold spC at hx
    split at hx
    · rcases List.mem_cons.1 hx with rfl | hx
      · cases hb
      · exact ⟨List.mem_cons_of_mem _ (zIJ c s x hx b hb).1,(zIJ c s x hx b hb).2⟩
    · rename_i hac
      cases h:spC c s with
      | nil=>exact absurd h (zJM c s)
      | cons y ys=>
        rw [h] at hx
        rcases List.mem_cons.1 hx with rfl | hx
        · rcases List.mem_cons.1 hb with rfl | hb
          · exact ⟨List.mem_cons_self,hac⟩
          · have := zIJ c s y (by rw [h]; exact List.mem_cons_self) b hb
            exact ⟨List.mem_cons_of_mem _ this.1,this.2⟩
        · have := zIJ c s x (by rw [h]; exact List.mem_cons_of_mem _ hx) b hb
          exact ⟨List.mem_cons_of_mem _ this.1,this.2⟩
theorem zI9 {s t:List UInt8} (h:t ∈ tokL s):t ≠ []∧t.length≤2*s.length∧∀ b ∈ t,wdB b=true:=by
  unfold tokL at h
  rw [zEJ] at h
  unfold neL at h
  obtain ⟨h1,h2⟩:=List.mem_filter.1 h
  refine ⟨(by intro e;subst e;cases h2),Nat.le_trans (zHs 32 _ t h1) (zHt s),fun b hb=>?_⟩
  obtain ⟨h3,h4⟩:=zIJ 32 _ t h1 b hb
  have:=zKj s b h3
  unfold okC at this
  rw [show (b==32)=false from beq_eq_false_iff_ne.2 h4,Bool.or_false] at this
  exact this
theorem zFG (s:List UInt8):(tokL s).length≤2*s.length+1:=by
  have h2:=zHt s
  have h3:=zHg 32 (nrmL s)
  have h4:=zI2 (spC 32 (nrmL s))
  have h5:=zE6 (neL (spC 32 (nrmL s)))
  unfold tokL
  omega
end Go.Proofs.YtldppodfhabkjaaGreatDoor
namespace Go.Proofs.YtldppodfhabkjaaGreatDoor
open Go.RowKit
set_option linter.unusedVariables false
set_option linter.unusedSimpArgs false
theorem zJb {p:UInt8→Prop} (h:∀ n:Fin 256,p (UInt8.ofNat n.val)) (d:UInt8):p d:=by
  have:=h ⟨d.toNat,d.toNat_lt⟩
  rwa [UInt8.ofNat_toNat] at this
theorem zKl {α σ ρ τ : Type} {xs : List α} {bad : α → Bool} {r : ρ} {g : σ → α → σ} {f : σ → τ} {Inv : Nat → σ → Prop} {L : Nat → Int → σ → Option (Ex ρ τ)} {i0 : Nat}
    (hs:∀ k (i:Nat) a x,i0≤i→xs[i]? = some x→Inv i a→L (k+1) (i:Int) a=bif bad x then some (.ret r) else L k ((i+1:Nat):Int) (g a x)) (hI:∀ (i:Nat) a x,i0≤i→xs[i]? = some x→bad x=false→Inv i a→Inv (i+1) (g a x))
    (he:∀ k a,Inv xs.length a→L (k+1) (xs.length:Int) a=some (.go (f a))) {a:σ} (h0:Inv i0 a) (hi0:i0≤xs.length) {fu:Nat} (hf:xs.length-i0<fu) :
    L fu (i0:Int) a=some (bif (xs.drop i0).any bad then .ret r else .go (f ((xs.drop i0).foldl g a)))∧((xs.drop i0).any bad=false→Inv xs.length ((xs.drop i0).foldl g a)):=by
  have key:∀ m i k a,i+m=xs.length→m<k→i0≤i→Inv i a→L k ((i:Nat):Int) a=some (bif (xs.drop i).any bad then .ret r else .go (f ((xs.drop i).foldl g a)))∧((xs.drop i).any bad=false→Inv xs.length ((xs.drop i).foldl g a)):=by
    intro m
    induction m with
    | zero=>
      intro i k a hi hk hge ha
      obtain ⟨k,rfl⟩:∃ q,k=q+1:=⟨k-1,by omega⟩
      obtain rfl:i=xs.length:=by omega
      rw [he k a ha,List.drop_length]
      exact ⟨rfl,fun _=>ha⟩
    | succ m ih=>
      intro i k a hi hk hge ha
      obtain ⟨k,rfl⟩:∃ q,k=q+1:=⟨k-1,by omega⟩
      have hx:=List.getElem?_eq_getElem (show i<xs.length by omega)
      rw [hs k i a _ hge hx ha,zDH hx,List.foldl_cons,List.any_cons]
      cases hb:bad xs[i] with
      | true=>exact ⟨rfl,fun h=>by cases h⟩
      | false=>
        rw [cond_false,Bool.false_or]
        exact ih (i+1) k _ (by omega) (by omega) (by omega) (hI i a _ hge hx hb ha)
  exact key (xs.length-i0) i0 fu a (by omega) hf (Nat.le_refl _) h0
def sndD (d:UInt8):Int:=bif smI d.toNat then gtD sndL ((d.toNat:Int)-97) else -2
def sndC (c:UInt8):Int:=sndD (fld c)
theorem zJQ {fu:Nat} {c:UInt8} (hf:1048577≤fu):zCh fu (c.toNat:Int)=some (sndC c):=by
  unfold zCh sndC
  have e:strB ([((c.toNat:Nat):Int)]:List Int) = [c]:=zDc [c]
  rw [e,zGI (s:=[c]) (by simp;omega) (by simp),zA6]
  show _=some (sndD (fld c))
  rw [show ([c].map fld) = [fld c] from rfl]
  generalize fld c=d
  revert d
  refine zJb ?_
  decide +kernel
theorem zLi (fu:Nat) (c:UInt8):zBv fu (c.toNat:Int)=some (sndC c):=by
  unfold zBv zCL sndC
  revert c
  refine zJb ?_
  decide +kernel
theorem zIA {fu:Nat} {c:UInt8}:zBv fu (c.toNat:Int)=some (sndC c):=zLi fu c
theorem zMR (c:UInt8):-2≤sndC c∧sndC c≤6:=by
  revert c
  refine zJb ?_
  decide +kernel
theorem zNM {n:Int} (h0:0≤n) (h1:n≤6):([(IntKind.u8.wrap ((48:Int)+n))]:List Int)=bytL [UInt8.ofNat (48+n.toNat)]:=by
  obtain ⟨k,rfl⟩:∃ k:Nat,n=(k:Int):=⟨n.toNat,by omega⟩
  rw [zIn _ (by omega) (by omega),Int.toNat_natCast]
  unfold bytL
  rw [List.map_cons,List.map_nil,UInt8.toNat_ofNat']
  congr 1
  omega
def sxG (o:List UInt8 × Int) (c:UInt8):List UInt8 × Int:=bif decide (sndC c<0) then o else (bif decide (0<sndC c)&&(sndC c != o.2) then o.1 ++ [UInt8.ofNat (48+(sndC c).toNat)] else o.1,sndC c)
def sxL (s : List UInt8) : List UInt8 := match s with
  | []=>[]
  | c::t=>bif (c::t).any (fun c=>sndC c == -2) then [] else ((t.foldl sxG ([fld c],sndC c)).1 ++ [48,48,48]).take 4
theorem zGu : ∀ (t : List UInt8) (o : List UInt8 × Int), o.1.length ≤ (t.foldl sxG o).1.length ∧ (t.foldl sxG o).1.length ≤ o.1.length + t.length
  | [],o=>⟨Nat.le_refl _,Nat.le_refl _⟩
  | c::t,o=>by
    have:=zGu t (sxG o c)
    have h2:o.1.length≤(sxG o c).1.length∧(sxG o c).1.length≤o.1.length+1:=by
      unfold sxG
      cases decide (sndC c<0)
      · cases (decide (0 < sndC c) && (sndC c != o.2))
        · exact ⟨Nat.le_refl _,Nat.le_succ _⟩
        · simp
      · exact ⟨Nat.le_refl _,Nat.le_succ _⟩
    rw [List.foldl_cons,List.length_cons]
    omega
theorem sub1 {c:UInt8} {t:List UInt8}:subL (c::t) 0 (1:Int) = [c]:=by
  rw [show ((1:Int))=((1:Nat):Int) from rfl,zF5]
  rfl
theorem zLY {fu:Nat} {s:List UInt8} (hf:1048577≤fu) (hl:s.length≤1048576):zDA fu s=some (sxL s):=by
  unfold zDA
  cases s with
  | nil=>rfl
  | cons c t=>
    have hlen:(c::t).length=t.length+1:=rfl
    rw [show ((c::t)==([]:List UInt8))=false from rfl,cond_false,ck_t (zBG.2 ⟨Int.le_refl _,by omega,by rw [hlen];omega⟩),sub1,zHU (s:=[c]) (by simp;omega) (by simp),zA6,show ([c].map fld) = [fld c] from rfl,ck_t (zAh (by simp)),ck_t (zN0 (by rw [hlen];omega)),show bAt (c::t) (0:Int)=(c.toNat:Int) from rfl,zIA,zA6]
    have h1:=zKl (xs:=c::t) (bad:=fun c=>sndC c == -2) (r:=([]:List UInt8)) (g:=sxG) (f:=fun a:List UInt8 × Int=>bytL a.1) (Inv:=fun i a=>a.1.length≤i) (i0:=1) (L:=fun k i (a:List UInt8 × Int)=>zB4 fu (c::t) k a.2 i (bytL a.1)) (fun k i a x hge hx ha=>by
      have hi:=zCm hx
      have hr:=zMR x
      try dsimp only
      rw [zB4,lt_t hi,cond_true,ck_t (zBC hi),zDw hx,zIA,zA6]
      have e0:(((i:Nat):Int)==(0:Int))=false:=by rw [beq_eq_false_iff_ne];omega
      have hone:∀ (l:List Int),l.length=1→zBD ((bytL a.1).length+l.length)=true:=fun l hl=>zAh (by rw [zBk,hl];omega)
      rw [e0,Bool.false_or,zCW,zCW,hone _ rfl,zD7 (show -9223372036854775808≤(48:Int)+sndC x by omega) (show (48:Int)+sndC x≤9223372036854775807 by omega)]
      simp only [zCz,zB1,zCF (show i≤4294967296 by omega)]
      cases hb:sndC x == -2 with
      | true=>rfl
      | false=>
        rw [cond_false,cond_false]
        unfold sxG
        cases hn:decide (sndC x<0) with
        | true=>rfl
        | false=>
          have h0:0≤sndC x:=by rw [decide_eq_false_iff_not] at hn;omega
          rw [cond_false]
          cases (decide (0<sndC x)&&(sndC x != a.2)) with
          | true=>rw [cond_true,zNM h0 hr.2,zD3];rfl
          | false=>rfl) (fun i a x hge hx hb ha=>by
      have:=(zGu [x] a).2
      simp only [List.foldl_cons,List.foldl_nil,List.length_singleton] at this
      show (sxG a x).1.length≤i+1
      omega) (fun k a ha=>by (try dsimp only);rw [zB4,lt_f,cond_false]) (a:=([fld c],sndC c)) (Nat.le_refl _) (by rw [hlen];omega) (fu:=fu-1) (by rw [hlen];omega)
    have h1:=h1.1
    try dsimp only at h1
    obtain ⟨k,rfl⟩:∃ k,fu=k+1:=⟨fu-1,by omega⟩
    rw [Nat.add_sub_cancel] at h1
    rw [zB4,lt_0 (by rw [hlen];omega),cond_true,ck_t (zN0 (by rw [hlen];omega)),show bAt (c::t) (0:Int)=(c.toNat:Int) from rfl,zIA,zA6,zCW,show ((((0:Int))==(0:Int)) || decide (sndC c<(0:Int)))=true from rfl,cond_true,zNY,ck_t zMP,h1]
    have e:sxL (c::t)=bif (c::t).any (fun c=>sndC c == -2) then [] else ((t.foldl sxG ([fld c],sndC c)).1 ++ [48,48,48]).take 4:=rfl
    rw [e,List.any_cons,List.drop_one,List.tail_cons]
    cases hb:sndC c == -2 with
    | true=>rw [cond_true,zA6,Bool.true_or,cond_true];rfl
    | false=>
      rw [cond_false,zA6,Bool.false_or]
      cases hb2:t.any fun c=>sndC c == -2 with
      | true=>rw [cond_true,cond_true];rfl
      | false=>
        have hg:=zGu t ([fld c],sndC c)
        generalize (t.foldl sxG ([fld c],sndC c)).1=o at hg ⊢
        rw [cond_false,cond_false,zIo,zDc]
        have hg1:1≤o.length:=hg.1
        have hg2:o.length≤1+t.length:=hg.2
        rw [ck_t (zAh (by simp;omega)),ck_t (zBG.2 ⟨Int.le_refl _,by omega,by simp;omega⟩),show ((4:Int))=((4:Nat):Int) from rfl,zF5]
theorem zKr {o:List UInt8} {d:UInt8}:(o ++ [d]).take 4=bif decide (o.length<4) then o.take 4 ++ [d] else o.take 4:=by
  by_cases h:o.length<4
  · rw [decide_eq_true h,cond_true,List.take_of_length_le (by simp;omega),List.take_of_length_le (by omega)]
  · rw [decide_eq_false h,cond_false,List.take_append_of_le_length (by omega)]
theorem zJf {fu : Nat} : ∀ (n k : Nat) (o : List UInt8), o.length + n = 4 → n < k → zBf fu k (bytL o) = some (bytL (o ++ List.replicate n 48))
  | 0,k,o,h,hk=>by
    obtain ⟨k,rfl⟩:∃ q,k=q+1:=⟨k-1,by omega⟩
    rw [zBf,zBk,decide_eq_false (by omega),cond_false,List.replicate_zero,List.append_nil]
  | n+1,k,o,h,hk=>by
    obtain ⟨k,rfl⟩:∃ q,k=q+1:=⟨k-1,by omega⟩
    rw [zBf,zBk,decide_eq_true (by omega),cond_true,show ([(48:Int)]:List Int)=bytL [48] from rfl,ck_t (zAh (by rw [zBk];simp;omega)),zD3,zJf n k (o ++ [48]) (by simp;omega) (by omega),List.append_assoc]
    rfl
theorem zM5 {fu:Nat} {s:List UInt8} (hf:1048577≤fu) (hl:s.length≤1048576):zDC fu s=some (sxL s):=by
  unfold zDC
  cases s with
  | nil=>
    obtain ⟨k,rfl⟩:∃ k,fu=k+1:=⟨fu-1,by omega⟩
    rw [zAf]
    rfl
  | cons c t=>
    have hlen:(c::t).length=t.length+1:=rfl
    have h1:=zKl (xs:=c::t) (bad:=fun c=>sndC c == -2) (r:=([]:List UInt8)) (g:=sxG) (f:=fun a:List UInt8 × Int=>bytL (a.1.take 4)) (Inv:=fun i a=>a.1.length≤i) (i0:=1) (L:=fun k i (a:List UInt8 × Int)=>zAf fu (c::t) k a.2 i (bytL (a.1.take 4))) (fun k i a x hge hx ha=>by
      have hi:=zCm hx
      have hr:=zMR x
      try dsimp only
      rw [zAf,lt_t hi,cond_true,ck_t (zBC hi),zDw hx,zJQ hf,zA6]
      have e0:(((i:Nat):Int)==(0:Int))=false:=by rw [beq_eq_false_iff_ne];omega
      have hone:∀ (l:List Int),l.length=1→zBD ((bytL (a.1.take 4)).length+l.length)=true:=fun l hl=>zAh (by rw [zBk,hl,List.length_take];omega)
      have h4:decide (((bytL (a.1.take 4)).length:Int)<(4:Int))=decide (a.1.length<4):=by
        rw [zBk,List.length_take]
        by_cases h:a.1.length<4
        · rw [decide_eq_true h,decide_eq_true (by omega)]
        · rw [decide_eq_false h,decide_eq_false (by omega)]
      rw [e0,zCW,zCW,hone _ rfl,h4,zD7 (show -9223372036854775808≤(48:Int)+sndC x by omega) (show (48:Int)+sndC x≤9223372036854775807 by omega)]
      simp only [zCz,zB1,zCF (show i≤4294967296 by omega)]
      cases hb:sndC x == -2 with
      | true=>rfl
      | false=>
        rw [cond_false,cond_false]
        unfold sxG
        by_cases hn:sndC x<0
        · rw [decide_eq_true hn, decide_eq_false (show ¬ (0 : Int) < sndC x by omega), decide_eq_false (show ¬ (0 : Int) ≤ sndC x by omega)]
          rfl
        · have h0 : 0 ≤ sndC x := by omega
          rw [decide_eq_false hn,decide_eq_true h0,cond_true,cond_true,cond_false,cond_false]
          cases (decide (0<sndC x)&&(sndC x != a.2)) with
          | true=>
            rw [Bool.true_and,cond_true,zNM h0 hr.2,zD3]
            dsimp only
            rw [zKr]
            cases decide (a.1.length<4) <;> rfl
          | false=>rfl) (fun i a x hge hx hb ha=>by
      have:=(zGu [x] a).2
      simp only [List.foldl_cons,List.foldl_nil,List.length_singleton] at this
      show (sxG a x).1.length≤i+1
      omega) (fun k a ha=>by (try dsimp only);rw [zAf,lt_f,cond_false]) (a:=([fld c],sndC c)) (Nat.le_refl _) (by rw [hlen];omega) (fu:=fu-1) (by rw [hlen];omega)
    have h1:=h1.1
    try dsimp only at h1
    obtain ⟨k,rfl⟩:∃ k,fu=k+1:=⟨fu-1,by omega⟩
    rw [Nat.add_sub_cancel] at h1
    rw [zAf,lt_0 (by rw [hlen];omega),cond_true,ck_t (zN0 (by rw [hlen];omega)),show bAt (c::t) (0:Int)=(c.toNat:Int) from rfl,zJQ hf,zA6,show (((0:Int))==(0:Int))=true from rfl,cond_true,ck_t (zBG.2 ⟨Int.le_refl _,by omega,by rw [hlen];omega⟩),sub1,zGI (s:=[c]) (by simp;omega) (by simp),zA6,show ([c].map fld) = [fld c] from rfl,ck_t (zDQ.2 ⟨Int.le_refl _,by simp⟩),show bAt [fld c] (0:Int)=((fld c).toNat:Int) from rfl,ck_t (zAh (by simp)),zNY,ck_t zMP,show (([]:List Int) ++ [((fld c).toNat:Int)])=bytL (([fld c]:List UInt8).take 4) from rfl,h1]
    have e:sxL (c::t)=bif (c::t).any (fun c=>sndC c == -2) then [] else ((t.foldl sxG ([fld c],sndC c)).1 ++ [48,48,48]).take 4:=rfl
    rw [e,List.any_cons,List.drop_one,List.tail_cons]
    cases hb:sndC c == -2 with
    | true=>rw [cond_true,zA6,Bool.true_or,cond_true];rfl
    | false=>
      rw [cond_false,zA6,Bool.false_or]
      cases hb2:t.any fun c=>sndC c == -2 with
      | true=>rw [cond_true,cond_true];rfl
      | false=>
        have hg:=zGu t ([fld c],sndC c)
        generalize (t.foldl sxG ([fld c],sndC c)).1=o at hg ⊢
        have hg1:1≤o.length:=hg.1
        rw [cond_false,cond_false,zIo,zBk,show (((o.take 4).length:Int)==(0:Int))=false by rw [beq_eq_false_iff_ne,List.length_take];omega,cond_false,zJf (4-(o.take 4).length) _ _ (by rw [List.length_take];omega) (by omega),zA6,zDc]
        congr 1
        by_cases h4:o.length<4
        · rw [List.take_of_length_le (Nat.le_of_lt h4), List.take_append, List.take_of_length_le (Nat.le_of_lt h4)]
          congr 1
          match o.length,hg1,h4 with
          | 1,_,_=>rfl
          | 2,_,_=>rfl
          | 3,_,_=>rfl
        · rw [List.take_append_of_le_length (by omega),show 4-(o.take 4).length=0 by rw [List.length_take];omega,List.replicate_zero,List.append_nil]
theorem zN3 (s:List UInt8):(sxL s).length≤4:=by
  unfold sxL
  cases s with
  | nil=>exact Nat.zero_le _
  | cons c t=>
    dsimp only
    cases ((c::t).any fun c=>sndC c == -2)
    · rw [cond_false,List.length_take];omega
    · exact Nat.zero_le _
def skL (s:List UInt8):List (List UInt8):=setL (neL ((tokL s).map sxL))
theorem isE (x:List UInt8):(x==([]:List UInt8))=x.isEmpty:=by cases x <;> rfl
theorem zNI (l:List (List UInt8)):neL (l.map sxL)=l.foldl (fun (a:List (List UInt8)) t=>bif (sxL t).isEmpty then a else a ++ [sxL t]) []:=by
  have key:∀ (l a:List (List UInt8)),l.foldl (fun (a:List (List UInt8)) t=>bif (sxL t).isEmpty then a else a ++ [sxL t]) a=a++neL (l.map sxL):=by
    intro l
    induction l with
    | nil=>intro a;simp [neL]
    | cons t l ih=>
      intro a
      rw [List.foldl_cons,ih,List.map_cons,zHw]
      cases (sxL t).isEmpty <;> simp
  rw [key,List.nil_append]
theorem zLq {fu:Nat} {s:List UInt8} (hf:1048577≤fu) (hl:s.length≤262144):zCB fu s=some (skL s):=by
  have hle:=zFG s
  have htl:∀ t ∈ tokL s,t.length≤1048576:=fun t ht=>by have:=(zI9 ht).2.1;omega
  unfold zCB skL
  rw [zGj hf hl,zA6]
  generalize tokL s=l at hle htl ⊢
  have h:=zCf (xs:=l) (g:=fun (a:List (List UInt8)) t=>bif (sxL t).isEmpty then a else a ++ [sxL t]) (Inv:=fun i a=>a.length≤i) (L:=zB7 fu l) (fun k i a x hx ha=>by
    have hi:=zCm hx
    rw [zB7,lt_t hi,cond_true,ck_t (zBC hi),zAu hx,zLY hf (htl x (zDX hx)),zA6,isE,zB1,zCF (show i≤4294967296 by omega),List.length_singleton,zAh (show a.length+1≤4294967296 by omega)]
    cases (sxL x).isEmpty <;> rfl) (fun i a x hx ha=>by
    show (bif (sxL x).isEmpty then a else a ++ [sxL x]).length≤i+1
    cases (sxL x).isEmpty
    · rw [cond_false,List.length_append,List.length_singleton];omega
    · exact Nat.le_succ_of_le ha) (fun k a ha=>by rw [zB7,lt_f,cond_false]) (a:=[]) (Nat.zero_le _) (show l.length<fu by omega)
  rw [h.1,zA6,← zNI,zDN hf (by have:=zI2 (l.map sxL);rw [List.length_map] at this;omega),zA6]
  rfl
theorem zLW {fu:Nat} {s:List UInt8} (hf:1048577≤fu) (hl:s.length≤262144):zCA fu s=some (skL s):=by
  have hle:=zFG s
  have htl:∀ t ∈ tokL s,t.length≤1048576:=fun t ht=>by have:=(zI9 ht).2.1;omega
  unfold zCA skL
  rw [zIa hf hl,zA6]
  generalize tokL s=l at hle htl ⊢
  have h:=zCf (xs:=l) (g:=fun (a:List (List UInt8)) t=>bif (sxL t).isEmpty then a else putS bLt a (sxL t)) (Inv:=fun i a=>a.length≤i) (L:=zB9 fu l) (fun k i a x hx ha=>by
    have hi:=zCm hx
    rw [zB9,lt_t hi,cond_true,ck_t (zBC hi),zAu hx,zM5 hf (htl x (zDX hx)),zA6,isE,zB1,zCF (show i≤4294967296 by omega),zIZ (show a.length<fu by omega) (show a.length≤2147483648 by omega),zA6]
    cases (sxL x).isEmpty <;> rfl) (fun i a x hx ha=>by
    show (bif (sxL x).isEmpty then a else putS bLt a (sxL x)).length≤i+1
    cases (sxL x).isEmpty
    · rw [cond_false]
      unfold putS putW
      cases (a[plc bLt (sxL x) a]? == some (sxL x))
      · rw [cond_false,zDu];omega
      · exact Nat.le_succ_of_le ha
    · exact Nat.le_succ_of_le ha) (fun k a ha=>by rw [zB9,lt_f,cond_false]) (a:=[]) (Nat.zero_le _) (show l.length<fu by omega)
  rw [h.1,zA6]
  congr 1
  rw [← zGY]
  unfold neL
  rw [List.foldl_filter,List.foldl_map]
  congr 1
  funext acc x
  cases (sxL x).isEmpty <;> rfl
theorem zJ2 (s:List UInt8):(skL s).length≤2*s.length+1:=by
  have h1:=zFG s
  have h2:=zI2 ((tokL s).map sxL)
  have h3:=zE6 (neL ((tokL s).map sxL))
  rw [List.length_map] at h2
  unfold skL
  omega
theorem zJB {s t:List UInt8} (h:t ∈ skL s):t.length≤4:=by
  unfold skL neL at h
  rw [zEJ] at h
  obtain ⟨u,_,rfl⟩:=List.mem_map.1 (List.mem_filter.1 h).1
  exact zN3 u
end Go.Proofs.YtldppodfhabkjaaGreatDoor
namespace Go.Proofs.YtldppodfhabkjaaGreatDoor
open Go.RowKit
set_option linter.unusedVariables false
set_option linter.unusedSimpArgs false
def inI (x lo hi:Int):Bool:=decide (lo≤x)&&decide (x≤hi)
theorem zJY {fu:Nat} {x lo hi:Int}:zDO fu x lo hi=some (inI x lo hi):=rfl
end Go.Proofs.YtldppodfhabkjaaGreatDoor
