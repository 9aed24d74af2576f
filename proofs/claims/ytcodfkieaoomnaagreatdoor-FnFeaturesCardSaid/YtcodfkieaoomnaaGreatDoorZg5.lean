/- Own texts laid together. No statement of the seat is proved here. -/
import Derived.Test.YtcodfkieaoomnaaGreatDoorZg4
namespace Go.Proofs.YtcodfkieaoomnaaGreatDoor
open Go.RowKit
set_option linter.unusedVariables false
open _root_.Go.Proofs.Tryz
set_option maxRecDepth 100000
set_option maxHeartbeats 4000000
def zAj (fu:Nat) (p0:List (List UInt8)):Option (List (List UInt8)):=
 ck (zC2 (([]:List (List UInt8)).length+p0.length)) <|
 some (([]:List (List UInt8))++p0)
theorem zBu {fu : Nat} {A0 : Av} {p0 : List (List UInt8)} {r : List (List UInt8)} (c : zAj fu p0 = some r) {w : World} {v0 : Value} (d : AvOK A0 w) (h0 : Rep (eSl eStr) A0 w v0 p0) :
 Calls prog 173 #[v0] w fun e w'=>∃ v,e = .returned v∧((Res.vec w.heap.size 9 eStr r).ok (addA A0 v) v w'∧Fr w w'):=by
 unfold zAj at c
 obtain ⟨w0,hw0,j,C⟩:=pw d
 have hA00:AvOK A0 w0:=C
 rw [fh hw0]
 rw [fw hw0]
 obtain ⟨A,hAe,B,d,q⟩:=pa d
 refine zA3 [.tmp 2] func173 ntmps173 (by decide) Z Z (nb Z) ?_
 intro R hR
 have f_v0:Rep (eSl eStr) A w v0 p0:=hAe ▸ h0
 replace h0:R 0=v0:=hR 0 _ Z
 refine zQB d j (eA::[]) ?_ ?_
 exact op (fun Q U W H D=>zA2 N)<|oz
 intro R w m n p d j
 replace h0:=k1 n h0
 replace f_v0:=f_v0.fr m
 replace q:=q.fr m
 refine zQ9 ?_
 refine zQB d j (eR v0::eB (zLD v0)::[]) ?_ ?_
 exact om h0<|op (fun Q U W H D=>zLm (D.g 0 Z) (f_v0.fr W) Z underlying46)<|oz
 intro R w m n p d j
 replace h0:=k1 n h0
 have h4:=p.r 1 Z
 replace f_v0:=f_v0.fr m
 replace q:=q.fr m
 refine zQ2 (zLD v0) h4 (fun c1=>?_) (fun c1=>?_)
 obtain rfl:=zLZ f_v0 c1
 refine zQB d j (eR (.slice none 0 0)::[]) ?_ ?_
 exact op (fun Q U W H D=>zA2 Z)<|oz
 intro R w m n p d j
 obtain ⟨u2,n_u2⟩:∃ u,u=Value.slice none 0 0:=⟨_,Z⟩
 have h2:R 2=u2:=(p 0 _ _ Z Z Z).trans n_u2.symm
 replace q:=q.fr m
 replace q:=q.nilcons (u:=u2) n_u2 w0.heap.size 9 eStr
 refine HT.ret ?_
 replace c:some ([]:List (List UInt8))=some r:=c
 obtain rfl:=si c
 exact ⟨.inr Z,[R 2],⟨Z,N⟩,(zCj (q.ok 0 _ Z) B h2),j⟩
 refine zQA ?_
 obtain ⟨e3,c⟩:=zA5 c
 refine zQC [] (⟨_,true,[],some (.vec w0.heap.size 9 eStr ([]:List (List UInt8))),true,fun A=>.any⟩::rR v0::⟨_,true,[0],some (.vec w0.heap.size 9 eStr (([]:List (List UInt8))++p0)),true,fun A=>.any⟩::⟨_,true,[2],some (.vec w0.heap.size 9 eStr (([]:List (List UInt8))++p0)),true,fun A=>.any⟩::[]) (ua (ur (ua (ua (UAll.nil))))) q d ?_ ?_
 exact rc (OblR.made _ Z Z Z Z fun V Q U O D=>by exact zBW [] (E:=eStr) N underlying46 sizeOf9 zeroValue9 Z Z Z (Nat.le_trans j.size O.ch.size))<|rm h0<|rc (OblR.took 0 _ _ Z Z Z Z Z fun V Q U O D u X Y J L M=>by have a1:Q 6=v0:=D.g 1 Z;have ra1:=(f_v0.stp O.stp).eq a1;exact zAx (L _ _ Z Z Z Z).symm X Y (Nat.le_trans j.size O.ch.size) ra1 underlying46 el_9 e3)<|rc (OblR.took 2 _ _ Z Z Z Z Z fun V Q U O D u X Y J L M=>by exact zAK (L _ _ Z Z Z Z).symm X Y)<|rz
 intro done ρ σ A R w y s
 obtain ⟨u4,e_u4⟩:∃ u,ρ 3=u:=⟨_,Z⟩
 have h2:=s.ov y 3 3 e_u4
 obtain ⟨B,j,d⟩:=s.s B C j q N
 replace q:=s.left y [(3,ob u4 (.vec w0.heap.size 9 eStr (([]:List (List UInt8))++p0)))] ⟨Z,Z,e_u4,Z,Z,N⟩
 refine HT.ret ?_
 obtain rfl:=si c
 exact ⟨.inr Z,[R 2],⟨Z,N⟩,(zCj (q.ok 0 _ Z) B h2),j⟩
def zAV (fu : Nat) (y5 : Int) (x13 : Nat) : Nat → Int → Int → (List (List UInt8)) → Option (Int × (List (List UInt8)))
 | 0,_,_,_=>none
 | k+1,y18,y19,y20=>
 bif (decide (y19<(x13:Int))) then (
 ck (inR y19 x13) <|
 ck (decide (0≤y5)) <|
 ck (inR (y5+y19) y20.length) <|
 ck (i64B (y19-1)) <|
 ck (inR (y19-1) x13) <|
 ck (decide (0≤y5)) <|
 ck (inR (y5+(y19-1)) y20.length) <|
 bif (!((gtD y20 (y5+y19))==(gtD y20 (y5+(y19-1))))) then (
 ck (inR y19 x13) <|
 ck (decide (0≤y5)) <|
 ck (inR (y5+y19) y20.length) <|
 ck (inR y18 y20.length) <|
 ck (i64B (y18+1)) <|
 ck (i64B (y19+1)) <|
 zAV fu y5 x13 k (y18+1) (y19+1) (y20.set y18.toNat (gtD y20 (y5+y19)))
 ) else (
 ck (i64B (y19+1)) <|
 zAV fu y5 x13 k y18 (y19+1) y20
 )
 ) else (
 some (y18,y20)
 )
def zAW (fu : Nat) : Nat → Int → (List (List UInt8)) → Option (Ex (List (List UInt8)) (List (List UInt8)))
 | 0,_,_=>none
 | k+1,y5,y6=>
 bif (decide (y5<(y6.length:Int))) then (
 ck (inR y5 y6.length) <|
 ck (i64B (y5-1)) <|
 ck (inR (y5-1) y6.length) <|
 bif ((gtD y6 y5)==(gtD y6 (y5-1))) then (
 ck (subR y5 (y6.length:Int) y6.length) <|
 bd ((y6.length:Int).toNat-y5.toNat) fun x13=>
 cl true (zAV fu y5 x13 fu y5 1 y6) fun s17=>
 ck (subR s17.1 (s17.2.length:Int) s17.2.length) <|
 bd ((s17.2.length:Int).toNat-s17.1.toNat) fun x40=>
 ck (subR s17.1 s17.2.length s17.2.length) <|
 ck (x40==s17.2.length-s17.1.toNat) <|
 ck (subR 0 s17.1 (s17.2.take s17.1.toNat++List.replicate (s17.2.length-s17.1.toNat) ([]:List UInt8)).length) <|
 some (Ex.ret (subL (s17.2.take s17.1.toNat++List.replicate (s17.2.length-s17.1.toNat) ([]:List UInt8)) 0 s17.1))
 ) else (
 ck (i64B (y5+1)) <|
 zAW fu k (y5+1) y6
 )
 ) else (
 some (Ex.go y6)
 )
def zB7 (fu:Nat) (p0:List (List UInt8)):Option (List (List UInt8)):=
 bif (decide ((p0.length:Int)<2)) then (
 some p0
 ) else (
 cl true (zAW fu fu 1 p0) fun rl2=>
 exM rl2 (fun r=>some r) fun s4=>
 some s4
 )
theorem zEI {fu : Nat} {A0 : Av} {p0 : List (List UInt8)} {r : List (List UInt8)} (c : zB7 fu p0 = some r) {w : World} {v0 : Value} {B0 : Nat} (d : AvOK A0 w) (K : ∀ b o, A0 b o → ¬ zA9 v0 b) (h0 : (Res.vec B0 9 eStr p0).ok A0 v0 w) :
 Calls prog 175 #[v0] w fun e w'=>∃ v,e = .returned v∧Took (addA A0 v0) true v0 (.vec B0 9 eStr r) (fun _=>.any) w v w':=by
 unfold zB7 at c
 obtain ⟨w0,hw0,C⟩:=pc d
 have j:Ch (zA9 v0) w0 w:=hw0 ▸ Ch.refl _ _
 have hA00:AvOK A0 w0:=C
 rw [show Took (addA A0 v0) true v0 (.vec B0 9 eStr r) (fun _=>.any) w=Took (addA A0 v0) true v0 (.vec B0 9 eStr r) (fun _=>.any) w0 from hw0 ▸ Z]
 obtain ⟨A,hAe⟩:∃ A,A=addA A0 v0:=⟨_,Z⟩
 have B:∀ b o,A0 b o→A b o:=fun b o h=>hAe ▸ .inl h
 replace d:AvOK A w:=hAe ▸ d.one h0
 have q:IniOK [ob v0 (.vec B0 9 eStr p0)] A w:=hAe ▸ IniOK.one h0 (fun _ _ _ _ _ h=>h)
 refine zA3 [.tmp 2] func175 ntmps175 (by decide) Z Z (nb Z) ?_
 intro R hR
 replace h0:R 0=v0:=hR 0 _ Z
 refine zQ9 ?_
 refine zQD (eA::[]) ?_ ?_
 exact op (fun Q U W H D=>zA2 N)<|oz
 intro R w m n p
 replace h0:=k1 n h0
 replace q:=q.fr m
 replace d:=d.fr m.size
 replace j:=j.tr (m.ch noB) fun _ h=>False.elim h
 refine zQ9 ?_
 refine zQ9 ?_
 refine zQD (eR v0::eI (p0.length:Int)::eB (decide ((p0.length:Int)<2))::[]) ?_ ?_
 exact om h0<|op (fun Q U W H D=>zD0 (q.ok 0 _ Z).1 (D.g 0 Z) underlying46)<|op (fun Q U W H D=>zAu (D.g 0 Z) Z)<|oz
 intro R w m n p
 replace h0:=k1 n h0
 have h8:=p.r 2 Z
 replace q:=q.fr m
 replace d:=d.fr m.size
 replace j:=j.tr (m.ch noB) fun _ h=>False.elim h
 refine zQ2 (decide ((p0.length:Int)<2)) h8 (fun c1=>?_) (fun c1=>?_)
 have c:=zAO c1 c
 refine zQ9 ?_
 refine zQD (eR v0::eR v0::[]) ?_ ?_
 exact om h0<|oa<|oz
 intro R w m n p
 have h2:=p.r 1 Z
 replace q:=q.fr m
 replace d:=d.fr m.size
 replace j:=j.tr (m.ch noB) fun _ h=>False.elim h
 refine HT.ret ?_
 obtain rfl:=si c
 exact ⟨.inr Z,[R 2],⟨Z,N⟩,by show Took _ true _ _ _ w0 (R 2) w;rw [h2];exact zGF (fun k h o=>.inr h) j (q.ok 0 _ Z).1 (q.own_ge (⟨.inr (fun k h=>.inr h),N⟩) (i:=0) Z) (fun _ _ _ _ _ h=>h)⟩
 have c:=zAN c1 c
 refine zQA ?_
 refine zQ9 ?_
 refine zQ9 ?_
 refine zQD (eI 1::[]) ?_ ?_
 exact op (fun Q U W H D=>zA2 Z)<|oz
 intro R w m n p
 replace h0:=k1 n h0
 have h3:=p.r 0 Z
 replace q:=q.fr m
 replace d:=d.fr m.size
 replace j:=j.tr (m.ch noB) fun _ h=>False.elim h
 obtain ⟨rl2,q3,c⟩:=zA4 c
 replace q3:=q3 Z
 refine zQ4 (fun R w=>∃ A:Av,∃ (s4:(List (List UInt8))),rl2=Ex.go s4∧AvOK A w∧Ch (zA9 v0) w0 w∧(∀ b o,A0 b o→A b o)∧IniOK [ob v0 (.vec B0 9 eStr s4)] A w∧R 0=v0) ?_ ?_
 refine HT.block ?_
 refine zQ8 (fun k R w=>∃ A:Av,∃ (y5:Int) (y6:List (List UInt8)),zAW fu k y5 y6=some rl2∧AvOK A w∧Ch (zA9 v0) w0 w∧(∀ b o,A0 b o→A b o)∧IniOK [ob v0 (.vec B0 9 eStr y6)] A w∧R 0=v0∧R 3 = .int .i64 y5) fu ⟨_,_,_,q3,d,j,B,q,h0,h3⟩ ?_
 have hr0:=c;clear c q3
 rintro k R w ⟨A,y5,y6,c,d,j,B,q,h0,h3⟩
 rcases k with _ | k
 cases (show none=some _ from c)
 rw [zAW] at c
 refine zQ9 ?_
 refine zQ9 ?_
 refine zQD (eI y5::eR v0::eI (y6.length:Int)::eB (decide (y5<(y6.length:Int)))::[]) ?_ ?_
 exact om h3<|om h0<|op (fun Q U W H D=>zD0 (q.ok 0 _ Z).1 (D.g 0 Z) underlying46)<|op (fun Q U W H D=>zAu (D.g 0 Z) (D.g 1 Z))<|oz
 intro R w m n p
 obtain ⟨h0,h3⟩:=k2 n h0 h3
 have h13:=p.r 3 Z
 replace q:=q.fr m
 replace d:=d.fr m.size
 replace j:=j.tr (m.ch noB) fun _ h=>False.elim h
 refine zQ2 (decide (y5<(y6.length:Int))) h13 (fun c7=>?_) (fun c7=>?_)
 have c:=zAO c7 c
 refine zQA ?_
 refine zQ9 ?_
 refine HT.block ?_
 refine zQ9 ?_
 obtain ⟨e8,e9,e10,c⟩:=ck3 c
 refine zQ5 (by kernel_rfl) (l:=eR v0::eI y5::eR (vptr v0 (y5.toNat*1))::eF (.rep eStr A (gtD y6 y5))::eR v0::eI y5::eI (y5-1)::eR (vptr v0 ((y5-1).toNat*1))::eF (.rep eStr A (gtD y6 (y5-1)))::eB ((gtD y6 y5)==(gtD y6 (y5-1)))::[]) (tl:=[]) (by kernel_rfl) (by kernel_rfl) (by kernel_rfl) (by kernel_rfl) ?_ ?_
 exact om h0<|om h3<|op (fun Q U W H D=>zAL (q.ok 0 _ Z).1 (D.g 0 Z) (D.g 1 Z) underlying46 sizeOf9 e8 Z)<|op (fun Q U W H D=>(zAw ((q.fr W).ok 0 _ Z).1 (D.g 0 Z) e8 Z (Fld.id _) Z isAgg9 sizeOf9))<|om h0<|om h3<|op (fun Q U W H D=>zAb (D.g 0 Z) Z e9)<|op (fun Q U W H D=>zAL (q.ok 0 _ Z).1 (D.g 0 Z) (D.g 1 Z) underlying46 sizeOf9 e10 Z)<|op (fun Q U W H D=>(zAw ((q.fr W).ok 0 _ Z).1 (D.g 0 Z) e10 Z (Fld.id _) Z isAgg9 sizeOf9))<|op (fun Q U W H D=>zBD (D.g 0 Z) (D.g 1 Z))<|oz
 intro R w m n p
 obtain ⟨h0,h3⟩:=k2 n h0 h3
 have h25:=p.r 9 Z
 replace q:=q.fr m
 replace d:=d.fr m.size
 replace j:=j.tr (m.ch noB) fun _ h=>False.elim h
 refine zQ2 ((gtD y6 y5)==(gtD y6 (y5-1))) h25 (fun c11=>?_) (fun c11=>?_)
 have c:=zAO c11 c
 refine zQ9 ?_
 obtain ⟨e12,c⟩:=zA5 c
 obtain ⟨x13,q14,c⟩:=zAD c
 refine zQD (eR v0::eI y5::eR (vsub v0 y5.toNat x13 1)::eR (vsub v0 y5.toNat x13 1)::[]) ?_ ?_
 exact om h0<|om h3<|op (fun Q U W H D=>(q14 ▸ zKI (q.ok 0 _ Z).1 (D.g 0 Z) (D.g 1 Z) underlying46 sizeOf9 e12))<|oa<|oz
 intro R w m n p
 obtain ⟨h0,h3⟩:=k2 n h0 h3
 have h4:=p.r 3 Z
 replace q:=q.fr m
 replace d:=d.fr m.size
 replace j:=j.tr (m.ch noB) fun _ h=>False.elim h
 refine zQ9 ?_
 refine zQ9 ?_
 refine zQD (eI 1::[]) ?_ ?_
 exact op (fun Q U W H D=>zA2 Z)<|oz
 intro R w m n p
 obtain ⟨h0,h3,h4⟩:=k3 n h0 h3 h4
 have h5:=p.r 0 Z
 replace q:=q.fr m
 replace d:=d.fr m.size
 replace j:=j.tr (m.ch noB) fun _ h=>False.elim h
 obtain ⟨rl15,q16,c⟩:=zA4 c
 replace q16:=q16 Z
 refine zQ4 (fun R w=>∃ A:Av,∃ (s17:Int × (List (List UInt8))),rl15=s17∧AvOK A w∧Ch (zA9 v0) w0 w∧(∀ b o,A0 b o→A b o)∧IniOK [ob v0 (.vec B0 9 eStr s17.2)] A w∧R 0=v0∧R 3 = .int .i64 s17.1) ?_ ?_
 refine HT.block ?_
 refine zQ8 (fun k R w=>∃ A:Av,∃ (y18:Int) (y19:Int) (y20:List (List UInt8)),zAV fu y5 x13 k y18 y19 y20=some rl15∧AvOK A w∧Ch (zA9 v0) w0 w∧(∀ b o,A0 b o→A b o)∧IniOK [ob v0 (.vec B0 9 eStr y20)] A w∧R 0=v0∧R 3 = .int .i64 y18∧R 4=(vsub v0 y5.toNat x13 1)∧R 5 = .int .i64 y19) fu ⟨_,_,_,_,q16,d,j,B,q,h0,h3,h4,h5⟩ ?_
 have hr1:=c;clear c q16
 rintro k R w ⟨A,y18,y19,y20,c,d,j,B,q,h0,h3,h4,h5⟩
 rcases k with _ | k
 cases (show none=some _ from c)
 rw [zAV] at c
 refine zQ9 ?_
 refine zQ9 ?_
 refine zQD (eI y19::eR (vsub v0 y5.toNat x13 1)::eI (x13:Int)::eB (decide (y19<(x13:Int)))::[]) ?_ ?_
 exact om h5<|om h4<|op (fun Q U W H D=>zKT (q.ok 0 _ Z).1 (D.g 0 Z) underlying46)<|op (fun Q U W H D=>zAu (D.g 0 Z) (D.g 1 Z))<|oz
 intro R w m n p
 obtain ⟨h0,h3,h4,h5⟩:=k4 n h0 h3 h4 h5
 have h32:=p.r 3 Z
 replace q:=q.fr m
 replace d:=d.fr m.size
 replace j:=j.tr (m.ch noB) fun _ h=>False.elim h
 refine zQ2 (decide (y19<(x13:Int))) h32 (fun c21=>?_) (fun c21=>?_)
 have c:=zAO c21 c
 refine zQA ?_
 refine zQ9 ?_
 refine HT.block ?_
 refine zQ9 ?_
 obtain ⟨e22,e23,e24,e25,c⟩:=ck4 c
 obtain ⟨e26,e27,e28,c⟩:=ck3 c
 refine zQ5 (by kernel_rfl) (l:=eR (vsub v0 y5.toNat x13 1)::eI y19::eR (vptr v0 ((y5+y19).toNat*1))::eF (.rep eStr A (gtD y20 (y5+y19)))::eR (vsub v0 y5.toNat x13 1)::eI y19::eI (y19-1)::eR (vptr v0 ((y5+(y19-1)).toNat*1))::eF (.rep eStr A (gtD y20 (y5+(y19-1))))::eB (!((gtD y20 (y5+y19))==(gtD y20 (y5+(y19-1)))))::[]) (tl:=[]) (by kernel_rfl) (by kernel_rfl) (by kernel_rfl) (by kernel_rfl) ?_ ?_
 exact om h4<|om h5<|op (fun Q U W H D=>zEU (q.ok 0 _ Z).1 (D.g 0 Z) (D.g 1 Z) underlying46 sizeOf9 e22 e23 e24 Z)<|op (fun Q U W H D=>(zAw ((q.fr W).ok 0 _ Z).1 (D.g 0 Z) e24 Z (Fld.id _) Z isAgg9 sizeOf9))<|om h4<|om h5<|op (fun Q U W H D=>zAb (D.g 0 Z) Z e25)<|op (fun Q U W H D=>zEU (q.ok 0 _ Z).1 (D.g 0 Z) (D.g 1 Z) underlying46 sizeOf9 e26 e27 e28 Z)<|op (fun Q U W H D=>(zAw ((q.fr W).ok 0 _ Z).1 (D.g 0 Z) e28 Z (Fld.id _) Z isAgg9 sizeOf9))<|op (fun Q U W H D=>zFk (D.g 0 Z) (D.g 1 Z))<|oz
 intro R w m n p
 obtain ⟨h0,h3,h4,h5⟩:=k4 n h0 h3 h4 h5
 have h44:=p.r 9 Z
 replace q:=q.fr m
 replace d:=d.fr m.size
 replace j:=j.tr (m.ch noB) fun _ h=>False.elim h
 refine zQ2 (!((gtD y20 (y5+y19))==(gtD y20 (y5+(y19-1))))) h44 (fun c29=>?_) (fun c29=>?_)
 have c:=zAO c29 c
 obtain ⟨e30,e31,e32,e33,c⟩:=ck4 c
 refine zQC [ob v0 (.vec B0 9 eStr y20)] (rR v0::rI y18::rR (vsub v0 y5.toNat x13 1)::rI y19::rR (vptr v0 ((y5+y19).toNat*1))::(rF fun A=>.rep eStr A (gtD y20 (y5+y19)))::rR (vptr v0 (y18.toNat*1))::⟨_,true,[0],some (.vec B0 9 eStr (y20.set y18.toNat (gtD y20 (y5+y19)))),false,fun A=>.any⟩::[]) (ur (ur (ur (ur (ur (up (ur (ua (UAll.nil))))))))) q d ?_ ?_
 exact rm h0<|rm h3<|rm h4<|rm h5<|rp (fun V Q U O D=>zEU (q.ok 0 _ Z).1 (D.g 0 Z) (D.g 1 Z) underlying46 sizeOf9 e30 e31 e32 Z)<|rp (fun V Q U O D=>(zAw (O.rd 0 _ Z Z) (D.g 0 Z) e32 Z (Fld.id _) Z isAgg9 sizeOf9))<|rp (fun V Q U O D=>zAL (q.ok 0 _ Z).1 (D.g 0 Z) (D.g 1 Z) underlying46 sizeOf9 e33 Z)<|rc (OblR.took 0 _ _ Z Z Z Z Z fun V Q U O D u X Y J L M=>by have a0:Q 51=(vptr v0 (y18.toNat*1)):=D.g 0 Z;have a1:Rep eStr V U (Q 50) (gtD y20 (y5+y19)):=D.g 1 Z;obtain rfl:=J _ Z;exact zCY a1 X Y a0 e33 Z (FldS.id _) sizeOf9 Z)<|rz
 intro done ρ σ A R w y s
 obtain ⟨h0,h3,h4,h5⟩:=k4 s.rg h0 h3 h4 h5
 have z34:=s.inivR 0 Z
 have z35:=s.on y 8 7 Z Z Z Z Z z34
 replace B:=s.lowK B C K (q.geK (⟨.inr (fun k h=>.inr h),N⟩))
 replace j:Ch (zA9 v0) w0 w:=j.tr s.ch (q.geK (⟨.inr (fun k h=>.inr h),N⟩))
 replace q:=s.left y [(8,ob v0 (.vec B0 9 eStr (y20.set y18.toNat (gtD y20 (y5+y19)))))] ⟨Z,Z,z35,Z,Z,N⟩
 replace d:=s.avok
 obtain ⟨e36,c⟩:=zA5 c
 refine zQD (eI y18::eI (y18+1)::eI (y18+1)::[]) ?_ ?_
 exact om h3<|op (fun Q U W H D=>zAR (D.g 0 Z) Z e36)<|oa<|oz
 intro R w m n p
 obtain ⟨h0,h4,h5⟩:=k3 n h0 h4 h5
 have h3:=p.r 2 Z
 replace q:=q.fr m
 replace d:=d.fr m.size
 replace j:=j.tr (m.ch noB) fun _ h=>False.elim h
 obtain ⟨e37,c⟩:=zA5 c
 refine zQD (eI y19::eI (y19+1)::eI (y19+1)::[]) ?_ ?_
 exact om h5<|op (fun Q U W H D=>zAR (D.g 0 Z) Z e37)<|oa<|oz
 intro R w m n p
 obtain ⟨h0,h3,h4⟩:=k3 n h0 h3 h4
 have h5:=p.r 2 Z
 replace q:=q.fr m
 replace d:=d.fr m.size
 replace j:=j.tr (m.ch noB) fun _ h=>False.elim h
 exact ei k (And.intro (Nat.lt_succ_self k) ⟨_,_,_,_,c,d,j,B,q,h0,h3,h4,h5⟩)
 have c:=zAN c29 c
 refine zQA ?_
 obtain ⟨e38,c⟩:=zA5 c
 refine zQD (eI y19::eI (y19+1)::eI (y19+1)::[]) ?_ ?_
 exact om h5<|op (fun Q U W H D=>zAR (D.g 0 Z) Z e38)<|oa<|oz
 intro R w m n p
 obtain ⟨h0,h3,h4⟩:=k3 n h0 h3 h4
 have h5:=p.r 2 Z
 replace q:=q.fr m
 replace d:=d.fr m.size
 replace j:=j.tr (m.ch noB) fun _ h=>False.elim h
 exact ei k (And.intro (Nat.lt_succ_self k) ⟨_,_,_,_,c,d,j,B,q,h0,h3,h4,h5⟩)
 have c:=zAN c21 c
 refine zQ7 ?_
 obtain rfl:=si c
 exact ei _ ⟨_,Z,d,j,B,q,h0,h3⟩
 rintro R w ⟨A,s17,es,d,j,B,q,h0,h3⟩
 obtain rfl:=es.symm
 refine zQ9 ?_
 obtain ⟨e39,c⟩:=zA5 c
 obtain ⟨x40,q41,c⟩:=zAD c
 obtain ⟨e42,e43,c⟩:=ck2 c
 refine zQF [ob v0 (.vec B0 9 eStr s17.2)] (rR v0::rI s17.1::rR (vsub v0 s17.1.toNat x40 1)::⟨_,true,[0],some (.vec B0 9 eStr (s17.2.take s17.1.toNat++List.replicate (s17.2.length-s17.1.toNat) ([]:List UInt8))),false,fun A=>.any⟩::[]) (ur (ur (ur (ua (UAll.nil))))) q d ?_ ?_
 exact rm h0<|rm h3<|rp (fun V Q U O D=>(q41 ▸ zKI (q.ok 0 _ Z).1 (D.g 0 Z) (D.g 1 Z) underlying46 sizeOf9 e39))<|rc (OblR.took 0 _ _ Z Z Z Z Z fun V Q U O D u X Y J L M=>by have a0:Q 56=(vsub v0 s17.1.toNat x40 1):=D.g 0 Z;obtain rfl:=J _ Z;exact zLU a0 X Y underlying46 Z zeroValue9 (fun A w=>(zNF Z (by decide))) e42 e43 Z)<|rz
 intro done ρ σ A R w y s
 obtain ⟨h0,h3⟩:=k2 s.rg h0 h3
 have z44:=s.inivR 0 Z
 have z45:=s.on y 4 3 Z Z Z Z Z z44
 replace B:=s.lowK B C K (q.geK (⟨.inr (fun k h=>.inr h),N⟩))
 replace j:Ch (zA9 v0) w0 w:=j.tr s.ch (q.geK (⟨.inr (fun k h=>.inr h),N⟩))
 replace q:=s.left y [(4,ob v0 (.vec B0 9 eStr (s17.2.take s17.1.toNat++List.replicate (s17.2.length-s17.1.toNat) ([]:List UInt8))))] ⟨Z,Z,z45,Z,Z,N⟩
 replace d:=s.avok
 obtain ⟨e46,c⟩:=zA5 c
 refine zQC [ob v0 (.vec B0 9 eStr (s17.2.take s17.1.toNat++List.replicate (s17.2.length-s17.1.toNat) ([]:List UInt8)))] (rR v0::rI s17.1::⟨_,true,[0],some (.vec B0 9 eStr (subL (s17.2.take s17.1.toNat++List.replicate (s17.2.length-s17.1.toNat) ([]:List UInt8)) 0 s17.1)),true,fun A=>.any⟩::⟨_,true,[3],some (.vec B0 9 eStr (subL (s17.2.take s17.1.toNat++List.replicate (s17.2.length-s17.1.toNat) ([]:List UInt8)) 0 s17.1)),true,fun A=>.any⟩::[]) (ur (ur (ua (ua (UAll.nil))))) q d ?_ ?_
 exact rm h0<|rm h3<|rc (OblR.took 0 _ _ Z Z Z Z Z fun V Q U O D u X Y J L M=>by have a0:Q 57=v0:=D.g 0 Z;have a1:Q 58 = .int .i64 s17.1:=D.g 1 Z;exact zKl (a0.trans (J _ Z).symm) X Y a1 underlying46 sizeOf9 e46 Z)<|rc (OblR.took 3 _ _ Z Z Z Z Z fun V Q U O D u X Y J L M=>by exact zAK (L _ _ Z Z Z Z).symm X Y)<|rz
 intro done ρ σ A R w y s
 obtain ⟨u47,e_u47⟩:∃ u,ρ 4=u:=⟨_,Z⟩
 have h2:=s.ov y 4 3 e_u47
 have hK_u47:∀ k,zA9 u47 k→w0.heap.size≤k∨(zA9 v0) k:=s.geK y 4 Z Z Z e_u47 (q.geK (⟨.inr (fun k h=>.inr h),N⟩)) j.size
 replace B:=s.lowK B C K (q.geK (⟨.inr (fun k h=>.inr h),N⟩))
 replace j:Ch (zA9 v0) w0 w:=j.tr s.ch (q.geK (⟨.inr (fun k h=>.inr h),N⟩))
 replace q:=s.left y [(4,ob u47 (.vec B0 9 eStr (subL (s17.2.take s17.1.toNat++List.replicate (s17.2.length-s17.1.toNat) ([]:List UInt8)) 0 s17.1)))] ⟨Z,Z,e_u47,Z,Z,N⟩
 replace d:=s.avok
 obtain ⟨Yg47,g_Yg47⟩:∃ z,z=(subL (s17.2.take s17.1.toNat++List.replicate (s17.2.length-s17.1.toNat) ([]:List UInt8)) 0 s17.1):=⟨_,Z⟩
 rw [← g_Yg47] at q
 try rw [← g_Yg47] at c
 refine HT.ret ?_
 obtain rfl:=si c
 have c:=hr0
 replace c:some _=some _:=c
 obtain rfl:=si c
 exact ⟨.inr Z,[R 2],⟨Z,N⟩,by show Took _ true _ _ _ w0 (R 2) w;rw [h2];exact zGF (fun k h o=>.inr h) j (q.ok 0 _ Z).1 (q.own_ge (⟨.inr hK_u47,N⟩) (i:=0) Z) (fun _ _ _ _ _ h=>h)⟩
 have c:=zAN c11 c
 refine zQA ?_
 obtain ⟨e49,c⟩:=zA5 c
 refine zQD (eI y5::eI (y5+1)::eI (y5+1)::[]) ?_ ?_
 exact om h3<|op (fun Q U W H D=>zAR (D.g 0 Z) Z e49)<|oa<|oz
 intro R w m n p
 replace h0:=k1 n h0
 have h3:=p.r 2 Z
 replace q:=q.fr m
 replace d:=d.fr m.size
 replace j:=j.tr (m.ch noB) fun _ h=>False.elim h
 exact ei k (And.intro (Nat.lt_succ_self k) ⟨_,_,_,c,d,j,B,q,h0,h3⟩)
 have c:=zAN c7 c
 refine zQ7 ?_
 obtain rfl:=si c
 exact ei _ ⟨_,Z,d,j,B,q,h0⟩
 rintro R w ⟨A,s4,rfl,d,j,B,q,h0⟩
 have c:=zF6 c
 refine zQ9 ?_
 refine zQD (eR v0::eR v0::[]) ?_ ?_
 exact om h0<|oa<|oz
 intro R w m n p
 have h2:=p.r 1 Z
 replace q:=q.fr m
 replace d:=d.fr m.size
 replace j:=j.tr (m.ch noB) fun _ h=>False.elim h
 refine HT.ret ?_
 obtain rfl:=si c
 exact ⟨.inr Z,[R 2],⟨Z,N⟩,by show Took _ true _ _ _ w0 (R 2) w;rw [h2];exact zGF (fun k h o=>.inr h) j (q.ok 0 _ Z).1 (q.own_ge (⟨.inr (fun k h=>.inr h),N⟩) (i:=0) Z) (fun _ _ _ _ _ h=>h)⟩
def zCh (fu:Nat) (p0:List (List UInt8)):Option (List (List UInt8)):=
 cl true (zAj fu p0) fun x1=>
 cl true (zHd fu x1) fun x4=>
 cl true (zB7 fu x4) fun x8=>
 some x8
theorem zF3 {fu : Nat} {A0 : Av} {p0 : List (List UInt8)} {r : List (List UInt8)} (c : zCh fu p0 = some r) {w : World} {v0 : Value} (d : AvOK A0 w) (h0 : Rep (eSl eStr) A0 w v0 p0) :
 Calls prog 122 #[v0] w fun e w'=>∃ v,e = .returned v∧((Res.vec w.heap.size 9 eStr r).ok (addA A0 v) v w'∧Fr w w'):=by
 unfold zCh at c
 obtain ⟨w0,hw0,j,C⟩:=pw d
 have hA00:AvOK A0 w0:=C
 rw [fh hw0]
 rw [fw hw0]
 obtain ⟨A,hAe,B,d,q⟩:=pa d
 refine zA3 [.tmp 2] func122 ntmps122 (by decide) Z Z (nb Z) ?_
 intro R hR
 have f_v0:Rep (eSl eStr) A w v0 p0:=hAe ▸ h0
 replace h0:R 0=v0:=hR 0 _ Z
 refine zQB d j (eA::[]) ?_ ?_
 exact op (fun Q U W H D=>zA2 N)<|oz
 intro R w m n p d j
 replace h0:=k1 n h0
 replace f_v0:=f_v0.fr m
 replace q:=q.fr m
 obtain ⟨x1,q2,c⟩:=zA4 c
 refine zQC [] (rR v0::⟨_,true,[],some (.vec w0.heap.size 9 eStr x1),true,fun A=>.any⟩::⟨_,true,[1],some (.vec w0.heap.size 9 eStr x1),true,fun A=>.any⟩::[]) (ur (ua (ua (UAll.nil)))) q d ?_ ?_
 exact rm h0<|rc (OblR.made _ Z Z Z Z fun V Q U O D=>by have a0:Q 4=v0:=D.g 0 Z;have ra0:=(f_v0.stp O.stp).eq a0;exact zFa call173 (zBu (q2 Z) O.av ra0) (Nat.le_trans j.size O.ch.size))<|rc (OblR.took 1 _ _ Z Z Z Z Z fun V Q U O D u X Y J L M=>by exact zAK (L _ _ Z Z Z Z).symm X Y)<|rz
 intro done ρ σ A R w y s
 obtain ⟨u3,e_u3⟩:∃ u,ρ 2=u:=⟨_,Z⟩
 have h3:=s.ov y 2 2 e_u3
 obtain ⟨B,j,d⟩:=s.s B C j q N
 replace q:=s.left y [(2,ob u3 (.vec w0.heap.size 9 eStr x1))] ⟨Z,Z,e_u3,Z,Z,N⟩
 obtain ⟨x4,q5,c⟩:=zA4 c
 refine zQC [ob u3 (.vec w0.heap.size 9 eStr x1)] (rR u3::⟨_,true,[0],some (.vec w0.heap.size 9 eStr x4),false,fun A=>.any⟩::[]) (ur (ua (UAll.nil))) q d ?_ ?_
 exact rm h3<|rc (OblR.took 0 _ _ Z Z Z Z Z fun V Q U O D u X Y J L M=>by have a0:Q 6=u3:=D.g 0 Z;have hu0:zAG Q (.tmp 6)=u:=a0.trans (J _ Z).symm;exact zIS call174 Y (fun _ _ _ _ _ h=>h) (by simp only [List.map,hu0];exact Calls.mono (zHS (q5 Z) (O.av.sub _) (fun b o h=>h.2) (Vec.flat X (fun _ _ _ _ _ h=>h))) (fun _ _ ⟨v,h1,h2,h3,h4⟩=>⟨v,h1,N,h3,h4⟩)))<|rz
 intro done ρ σ A R w y s
 replace h3:=k1 s.rg h3
 have z6:=s.inivR 0 Z
 have z7:=s.on y 2 1 Z Z Z Z Z z6
 obtain ⟨B,j,d⟩:=s.s B C j q ⟨Z,N⟩
 replace q:=s.left y [(2,ob u3 (.vec w0.heap.size 9 eStr x4))] ⟨Z,Z,z7,Z,Z,N⟩
 obtain ⟨x8,q9,c⟩:=zA4 c
 refine zQC [ob u3 (.vec w0.heap.size 9 eStr x4)] (rR u3::⟨_,true,[0],some (.vec w0.heap.size 9 eStr x8),true,fun A=>.any⟩::⟨_,true,[2],some (.vec w0.heap.size 9 eStr x8),true,fun A=>.any⟩::[]) (ur (ua (ua (UAll.nil)))) q d ?_ ?_
 exact rm h3<|rc (OblR.took 0 _ _ Z Z Z Z Z fun V Q U O D u X Y J L M=>by have a0:Q 8=u3:=D.g 0 Z;have hu0:zAG Q (.tmp 8)=u:=a0.trans (J _ Z).symm;exact zEv call175 Y (by simp only [List.map,hu0];exact zEI (q9 Z) (O.av.sub _) (fun b o h=>h.2) (Vec.flat X (fun _ _ _ _ _ h=>h))))<|rc (OblR.took 2 _ _ Z Z Z Z Z fun V Q U O D u X Y J L M=>by exact zAK (L _ _ Z Z Z Z).symm X Y)<|rz
 intro done ρ σ A R w y s
 obtain ⟨u10,e_u10⟩:∃ u,ρ 3=u:=⟨_,Z⟩
 have h2:=s.ov y 3 2 e_u10
 obtain ⟨B,j,d⟩:=s.s B C j q ⟨Z,N⟩
 replace q:=s.left y [(3,ob u10 (.vec w0.heap.size 9 eStr x8))] ⟨Z,Z,e_u10,Z,Z,N⟩
 refine HT.ret ?_
 obtain rfl:=si c
 exact ⟨.inr Z,[R 2],⟨Z,N⟩,(zCj (q.ok 0 _ Z) B h2),j⟩
def zCl (fu:Nat) (p0:List UInt8):Option (List (List UInt8)):=
 cl true (zCH fu p0) fun x1=>
 cl true (zEc fu x1) fun x3=>
 cl true (zCh fu x3) fun x5=>
 some x5
theorem zHu {fu : Nat} {A0 : Av} {p0 : List UInt8} {r : List (List UInt8)} (c : zCl fu p0 = some r) {w : World} {v0 : Value} (d : AvOK A0 w) (hG : GTab w) (h0 : Rep eStr A0 w v0 p0) :
 Calls prog 167 #[v0] w fun e w'=>∃ v,e = .returned v∧((Res.vec w.heap.size 9 eStr r).ok (addA A0 v) v w'∧Fr w w'):=by
 unfold zCl at c
 obtain ⟨w0,hw0,j,C⟩:=pw d
 have hA00:AvOK A0 w0:=C
 rw [fh hw0]
 rw [fw hw0]
 have hG0:GTab w0:=hw0 ▸ hG
 obtain ⟨A,hAe,B,d,q⟩:=pa d
 refine zA3 [.tmp 2] func167 ntmps167 (by decide) Z Z (nb Z) ?_
 intro R hR
 have f_v0:Rep eStr A w v0 p0:=hAe ▸ h0
 replace h0:R 0=v0:=hR 0 _ Z
 refine zQB d j (eA::[]) ?_ ?_
 exact op (fun Q U W H D=>zA2 N)<|oz
 intro R w m n p d j
 replace h0:=k1 n h0
 replace f_v0:=f_v0.fr m
 replace q:=q.fr m
 obtain ⟨x1,q2,c⟩:=zA4 c
 obtain ⟨x3,q4,c⟩:=zA4 c
 obtain ⟨x5,q6,c⟩:=zA4 c
 refine zQC [] (rR v0::(rF fun A=>.rep eStr A x1)::(rF fun A=>.rep (eSl eStr) A x3)::⟨_,true,[],some (.vec w0.heap.size 9 eStr x5),true,fun A=>.any⟩::⟨_,true,[3],some (.vec w0.heap.size 9 eStr x5),true,fun A=>.any⟩::[]) (ur (up (up (ua (ua (UAll.nil)))))) q d ?_ ?_
 exact rm h0<|rp (fun V Q U O D=>zA8 call218 (zDx (q2 Z) O.av (hG0.fr (j.tr O.ch (q.ge (N)))) ((f_v0.stp O.stp).eq (D.g 0 Z))))<|rp (fun V Q U O D=>zA8 call217 (zI9 (q4 Z) O.av (D.g 0 Z)))<|rc (OblR.made _ Z Z Z Z fun V Q U O D=>by have a0:Rep (eSl eStr) V U (Q 5) x3:=D.g 0 Z;exact zFa call122 (zF3 (q6 Z) O.av a0) (Nat.le_trans j.size O.ch.size))<|rc (OblR.took 3 _ _ Z Z Z Z Z fun V Q U O D u X Y J L M=>by exact zAK (L _ _ Z Z Z Z).symm X Y)<|rz
 intro done ρ σ A R w y s
 obtain ⟨u7,e_u7⟩:∃ u,ρ 4=u:=⟨_,Z⟩
 have h2:=s.ov y 4 4 e_u7
 obtain ⟨B,j,d⟩:=s.s B C j q N
 replace q:=s.left y [(4,ob u7 (.vec w0.heap.size 9 eStr x5))] ⟨Z,Z,e_u7,Z,Z,N⟩
 refine HT.ret ?_
 obtain rfl:=si c
 exact ⟨.inr Z,[R 2],⟨Z,N⟩,(zCj (q.ok 0 _ Z) B h2),j⟩
theorem zEW {fu : Nat} {A0 : Av} {p0 : List UInt8} {r : List (List UInt8)} (c : zCl fu p0 = some r) {w : World} {v0 : Value} (d : AvOK A0 w) (hG : GTab w) (h0 : Rep eStr A0 w v0 p0) :
 Calls prog 167 #[v0] w fun e w'=>∃ v,e = .returned v∧(Rep (eSl eStr) A0 w' v r∧Fr w w'):=by
 refine Calls.mono (zHu c d hG h0) ?_
 rintro e w' ⟨v,he,hv,hf⟩
 exact ⟨v,he,zD2 hv (fun b o h=>.inl h) d,hf⟩
def zB2 (fu : Nat) (p0 : List UInt8) : Nat → Int → Option (Ex Bool Unit)
 | 0,_=>none
 | k+1,y4=>
 bif (decide (y4<(p0.length:Int))) then (
 ck (inR y4 p0.length) <|
 cl true (zC1 fu (bAt p0 y4)) fun x7=>
 ck (!(true&&((!x7)==true)) || inR y4 p0.length) <|
 cl (true&&((!x7)==true)) (zCQ fu (bAt p0 y4)) fun x10=>
 bd ((!x7)&&(!x10)) fun x12=>
 bif x12 then (
 some (Ex.ret false)
 ) else (
 ck (i64B (y4+1)) <|
 zB2 fu p0 k (y4+1)
 )
 ) else (
 some (Ex.go ())
 )
def zC6 (fu:Nat) (p0:List UInt8):Option Bool:=
 cl true (zB2 fu p0 fu 0) fun rl1=>
 exM rl1 (fun r=>some r) fun s3=>
 some true
theorem zFZ {fu : Nat} {A : Av} {p0 : List UInt8} {r : Bool} (c : zC6 fu p0 = some r) {w : World} {v0 : Value} (d : AvOK A w) (h0 : Rep eStr A w v0 p0) :
 Calls prog 320 #[v0] w fun e w'=>∃ v,e = .returned v∧(v = .bool r∧Fr w w'):=by
 unfold zC6 at c
 obtain ⟨w0,hw0,j⟩:=pf w
 rw [fw hw0]
 refine zA3 [.tmp 2] func320 ntmps320 (by decide) Z Z (nb Z) ?_
 intro R hR
 have f_v0:=h0
 replace h0:R 0=v0:=hR 0 _ Z
 refine zQB d j (eB false::[]) ?_ ?_
 exact op (fun Q U W H D=>zA2 Z)<|oz
 intro R w m n p d j
 replace h0:=k1 n h0
 replace f_v0:=f_v0.fr m
 refine zQ9 ?_
 refine zQB d j (eR v0::eI (p0.length:Int)::eI 0::[]) ?_ ?_
 exact om h0<|op (fun Q U W H D=>zAJ ((f_v0.fr W).eq (D.g 0 Z)) underlying9)<|op (fun Q U W H D=>zBk Z)<|oz
 intro R w m n p d j
 replace h0:=k1 n h0
 have h5:=p.r 1 Z
 have h6:=p.r 2 Z
 replace f_v0:=f_v0.fr m
 obtain ⟨rl1,q2,c⟩:=zA4 c
 replace q2:=q2 Z
 refine zQ4 (fun R w=>∃ (s3:Unit),rl1=Ex.go s3∧AvOK A w∧Fr w0 w) ?_ ?_
 refine HT.block ?_
 refine zQ8 (fun k R w=>∃ (y4:Int),zB2 fu p0 k y4=some rl1∧AvOK A w∧Fr w0 w∧R 0=v0∧R 5 = .int .i64 (p0.length:Int)∧R 6 = .int .i64 y4∧Rep eStr A w v0 p0) fu ⟨_,q2,d,j,h0,h5,h6,f_v0⟩ ?_
 have hr0:=c;clear c q2
 rintro k R w ⟨y4,c,d,j,h0,h5,h6,f_v0⟩
 rcases k with _ | k
 cases (show none=some _ from c)
 rw [zB2] at c
 refine zQB d j (eB (decide (y4<(p0.length:Int)))::[]) ?_ ?_
 exact op (fun Q U W H D=>zAu ((H 6 Z).trans h6) ((H 5 Z).trans h5))<|oz
 intro R w m n p d j
 obtain ⟨h0,h5,h6⟩:=k3 n h0 h5 h6
 have h7:=p.r 0 Z
 replace f_v0:=f_v0.fr m
 refine zQ9 ?_
 refine zQ2 (decide (y4<(p0.length:Int))) h7 (fun c5=>?_) (fun c5=>?_)
 have c:=zAO c5 c
 refine zQA ?_
 refine zQ9 ?_
 refine HT.block ?_
 refine zQB d j (eI y4::eI y4::[]) ?_ ?_
 exact om h6<|oa<|oz
 intro R w m n p d j
 obtain ⟨h0,h5,h6⟩:=k3 n h0 h5 h6
 have h3:=p.r 1 Z
 replace f_v0:=f_v0.fr m
 refine zQ9 ?_
 obtain ⟨e6,c⟩:=zA5 c
 obtain ⟨x7,q8,c⟩:=zA4 c
 obtain ⟨e9,c⟩:=zA5 c
 obtain ⟨x10,q11,c⟩:=zA4 c
 obtain ⟨x12,q13,c⟩:=zAD c
 refine HT.u d j (eR v0::eI y4::eU (bAt p0 y4)::eB x7::eB (!x7)::eB (!x7)::gR (true&&((!x7)==true)) v0::gI (true&&((!x7)==true)) y4::gU (true&&((!x7)==true)) (bAt p0 y4)::gB (true&&((!x7)==true)) x10::gB (true&&((!x7)==true)) (!x10)::eB x12::[]) ?_ ?_
 exact om h0<|om h3<|op (fun Q U W H D=>zAB ((f_v0.fr W).eq (D.g 0 Z)) (D.g 1 Z) underlying9 e6)<|op (fun Q U W H D=>zA8 call288 (zDY (q8 Z) (d.fr W.size) (D.g 0 Z)))<|op (fun Q U W H D=>zBq (D.g 0 Z))<|ov<|gm 5 true h0<|gm 5 true h3<|og 5 true (fun G Q U W H D=>zAB ((f_v0.fr W).eq (D.h 0 G Z)) (D.h 1 G Z) underlying9 (gd e9 G))<|og 5 true (fun G Q U W H D=>zA8 call215 (zES (q11 G) (d.fr W.size) (D.h 0 G Z)))<|og 5 true (fun G Q U W H D=>zBq (D.h 0 G Z))<|op (fun Q U W H D=>zAF (!x7) (D.g 0 Z) (fun hc=>by have a1:Q 19 = .bool (!x10):=D 1 _ _ _ Z Z Z Z (zAc Z (zAP hc));show _=Value.bool x12;rw [q13,hc];exact a1) (fun hc=>by show _=Value.bool x12;rw [q13,hc];exact Z))<|oz
 intro R w m n p d j
 obtain ⟨h0,h5,h6⟩:=k3 n h0 h5 h6
 have h20:=p.r 11 Z
 replace f_v0:=f_v0.fr m
 refine zQ2 x12 h20 (fun c14=>?_) (fun c14=>?_)
 have c:=zAO c14 c
 refine zQB d j (eB false::[]) ?_ ?_
 exact op (fun Q U W H D=>zA2 Z)<|oz
 intro R w m n p d j
 have h2:=p.r 0 Z
 refine HT.ret ?_
 obtain rfl:=si c
 have c:=hr0
 replace c:some _=some _:=c
 obtain rfl:=si c
 exact ⟨.inr Z,[R 2],⟨Z,N⟩,h2,j⟩
 have c:=zAN c14 c
 refine zQA ?_
 obtain ⟨e15,c⟩:=zA5 c
 refine HT.u d j (eI (y4+1)::eI (y4+1)::[]) ?_ ?_
 exact op (fun Q U W H D=>zAR ((H 6 Z).trans h6) Z e15)<|ov<|oz
 intro R w m n p d j
 obtain ⟨h0,h5⟩:=k2 n h0 h5
 have h6:=p.r 1 Z
 replace f_v0:=f_v0.fr m
 exact ei k (And.intro (Nat.lt_succ_self k) ⟨_,c,d,j,h0,h5,h6,f_v0⟩)
 have c:=zAN c5 c
 refine zQ7 ?_
 obtain rfl:=si c
 exact ei _ ⟨Z,d,j⟩
 rintro R w ⟨s3,rfl,d,j⟩
 have c:=zF6 c
 refine zQB d j (eB true::[]) ?_ ?_
 exact op (fun Q U W H D=>zA2 Z)<|oz
 intro R w m n p d j
 have h2:=p.r 0 Z
 refine HT.ret ?_
 obtain rfl:=si c
 exact ⟨.inr Z,[R 2],⟨Z,N⟩,h2,j⟩
def zBH (fu : Nat) (p0 : List (List UInt8)) : Nat → Int → Option (Ex Bool Unit)
 | 0,_=>none
 | k+1,y4=>
 bif (decide (y4<(p0.length:Int))) then (
 ck (inR y4 p0.length) <|
 cl (true&&(((gtD p0 y4)==([]:List UInt8))==false)) (zC6 fu (gtD p0 y4)) fun x8=>
 bd (((gtD p0 y4)==([]:List UInt8)) || (!x8)) fun x10=>
 ck (!((true&&(x10==false))&&((decide (0<y4))==true)) || i64B (y4-1)) <|
 ck (!((true&&(x10==false))&&((decide (0<y4))==true)) || inR (y4-1) p0.length) <|
 bd ((decide (0<y4))&&(!(bLt (gtD p0 (y4-1)) (gtD p0 y4)))) fun x14=>
 bd (x10 || x14) fun x16=>
 bif x16 then (
 some (Ex.ret false)
 ) else (
 ck (i64B (y4+1)) <|
 zBH fu p0 k (y4+1)
 )
 ) else (
 some (Ex.go ())
 )
def zCS (fu:Nat) (p0:List (List UInt8)):Option Bool:=
 cl true (zBH fu p0 fu 0) fun rl1=>
 exM rl1 (fun r=>some r) fun s3=>
 some true
theorem zEn {fu : Nat} {A : Av} {p0 : List (List UInt8)} {r : Bool} (c : zCS fu p0 = some r) {w : World} {v0 : Value} (d : AvOK A w) (h0 : Rep (eSl eStr) A w v0 p0) :
 Calls prog 300 #[v0] w fun e w'=>∃ v,e = .returned v∧(v = .bool r∧Fr w w'):=by
 unfold zCS at c
 obtain ⟨w0,hw0,j⟩:=pf w
 rw [fw hw0]
 refine zA3 [.tmp 2] func300 ntmps300 (by decide) Z Z (nb Z) ?_
 intro R hR
 have f_v0:=h0
 replace h0:R 0=v0:=hR 0 _ Z
 refine zQB d j (eB false::[]) ?_ ?_
 exact op (fun Q U W H D=>zA2 Z)<|oz
 intro R w m n p d j
 replace h0:=k1 n h0
 replace f_v0:=f_v0.fr m
 refine zQ9 ?_
 refine zQB d j (eR v0::eI (p0.length:Int)::eI 0::[]) ?_ ?_
 exact om h0<|op (fun Q U W H D=>zAe (aT:=#[]) ((f_v0.fr W).eq (D.g 0 Z)) underlying46)<|op (fun Q U W H D=>zBk Z)<|oz
 intro R w m n p d j
 replace h0:=k1 n h0
 have h5:=p.r 0 Z
 have h6:=p.r 1 Z
 have h7:=p.r 2 Z
 replace f_v0:=f_v0.fr m
 obtain ⟨rl1,q2,c⟩:=zA4 c
 replace q2:=q2 Z
 refine zQ4 (fun R w=>∃ (s3:Unit),rl1=Ex.go s3∧AvOK A w∧Fr w0 w) ?_ ?_
 refine HT.block ?_
 refine zQ8 (fun k R w=>∃ (y4:Int),zBH fu p0 k y4=some rl1∧AvOK A w∧Fr w0 w∧R 0=v0∧R 5=v0∧R 6 = .int .i64 (p0.length:Int)∧R 7 = .int .i64 y4∧Rep (eSl eStr) A w v0 p0) fu ⟨_,q2,d,j,h0,h5,h6,h7,f_v0⟩ ?_
 have hr0:=c;clear c q2
 rintro k R w ⟨y4,c,d,j,h0,h5,h6,h7,f_v0⟩
 rcases k with _ | k
 cases (show none=some _ from c)
 rw [zBH] at c
 refine zQB d j (eB (decide (y4<(p0.length:Int)))::[]) ?_ ?_
 exact op (fun Q U W H D=>zAu ((H 7 Z).trans h7) ((H 6 Z).trans h6))<|oz
 intro R w m n p d j
 obtain ⟨h0,h5,h6,h7⟩:=k4 n h0 h5 h6 h7
 have h8:=p.r 0 Z
 replace f_v0:=f_v0.fr m
 refine zQ9 ?_
 refine zQ2 (decide (y4<(p0.length:Int))) h8 (fun c5=>?_) (fun c5=>?_)
 have c:=zAO c5 c
 refine zQA ?_
 refine zQ9 ?_
 refine HT.block ?_
 obtain ⟨e6,c⟩:=zA5 c
 refine zQB d j (eI y4::eF (.qtr eStr A (gtD p0 y4))::eF (.rep eStr A (gtD p0 y4))::eI y4::eF (.rep eStr A (gtD p0 y4))::[]) ?_ ?_
 exact om h7<|op (fun Q U W H D=>zA7 ((f_v0.fr W).eq ((H 5 Z).trans h5)) ((H 7 Z).trans h7) underlying46 sizeOf9 e6)<|op (fun Q U W H D=>(zAT (QRep.ptr (D.g 0 Z)) isAgg9 sizeOf9))<|oa<|op (fun Q U W H D=>zA2 (D.g 0 Z))<|oz
 intro R w m n p d j
 obtain ⟨h0,h5,h6,h7⟩:=k4 n h0 h5 h6 h7
 have h3:=p.r 3 Z
 obtain ⟨u7,h4,f_u7⟩:∃ u,R 4=u∧Rep eStr A w u (gtD p0 y4):=⟨_,Z,p 4 _ _ Z Z Z⟩
 replace f_v0:=f_v0.fr m
 refine zQ9 ?_
 obtain ⟨x8,q9,c⟩:=zA4 c
 obtain ⟨x10,q11,c⟩:=zAD c
 obtain ⟨e12,e13,c⟩:=ck2 c
 obtain ⟨x14,q15,c⟩:=zAD c
 obtain ⟨x16,q17,c⟩:=zAD c
 refine HT.u d j (eR u7::eB ((gtD p0 y4)==([]:List UInt8))::eB ((gtD p0 y4)==([]:List UInt8))::gR (true&&(((gtD p0 y4)==([]:List UInt8))==false)) u7::gB (true&&(((gtD p0 y4)==([]:List UInt8))==false)) x8::gB (true&&(((gtD p0 y4)==([]:List UInt8))==false)) (!x8)::eB x10::eB x10::gI (true&&(x10==false)) y4::gB (true&&(x10==false)) (decide (0<y4))::gB (true&&(x10==false)) (decide (0<y4))::gR ((true&&(x10==false))&&((decide (0<y4))==true)) v0::gI ((true&&(x10==false))&&((decide (0<y4))==true)) y4::gI ((true&&(x10==false))&&((decide (0<y4))==true)) (y4-1)::gF ((true&&(x10==false))&&((decide (0<y4))==true)) (.qtr eStr A (gtD p0 (y4-1)))::gF ((true&&(x10==false))&&((decide (0<y4))==true)) (.rep eStr A (gtD p0 (y4-1)))::gR ((true&&(x10==false))&&((decide (0<y4))==true)) u7::gB ((true&&(x10==false))&&((decide (0<y4))==true)) (!(bLt (gtD p0 (y4-1)) (gtD p0 y4)))::gB (true&&(x10==false)) x14::eB x16::[]) ?_ ?_
 exact om h4<|op (fun Q U W H D=>zBD ((f_u7.fr W).eq (D.g 0 Z)) ⟨_,Z,⟨_,Z,Z,by decide⟩⟩)<|ov<|gm 2 false h4<|og 2 false (fun G Q U W H D=>zA8 call320 (zFZ (q9 G) (d.fr W.size) ((f_u7.fr W).eq (D.h 0 G Z))))<|og 2 false (fun G Q U W H D=>zBq (D.h 0 G Z))<|op (fun Q U W H D=>zAF ((gtD p0 y4)==([]:List UInt8)) (D.g 0 Z) (fun hc=>by show _=Value.bool x10;rw [q11,hc];exact Z) (fun hc=>by have a2:Q 17 = .bool (!x8):=D 1 _ _ _ Z Z Z Z (zAc Z (zAP hc));show _=Value.bool x10;rw [q11,hc];exact a2))<|ov<|gm 7 false h3<|og 7 false (fun G Q U W H D=>zCM (D.h 0 G Z) Z)<|og 7 false (fun G Q U W H D=>zBk (D.h 0 G Z))<|gm 10 true h0<|gm 10 true h3<|og 10 true (fun G Q U W H D=>zAb (D.h 0 G Z) Z (gd e12 G))<|og 10 true (fun G Q U W H D=>zA7 ((f_v0.fr W).eq (D.h 0 G Z)) (D.h 1 G Z) underlying46 sizeOf9 (gd e13 G))<|og 10 true (fun G Q U W H D=>(zAT (QRep.ptr (D.h 0 G Z)) isAgg9 sizeOf9))<|gm 10 true h4<|og 10 true (fun G Q U W H D=>zMr (D.h 0 G Z) ((f_u7.fr W).eq (D.h 1 G Z)))<|og 7 false (fun G Q U W H D=>zAF (decide (0<y4)) (D.h 0 G Z) (fun hc=>by have a1:Q 29 = .bool (!(bLt (gtD p0 (y4-1)) (gtD p0 y4))):=D 1 _ _ _ Z Z Z Z (zAc G (zAP hc));show _=Value.bool x14;rw [q15,hc];exact a1) (fun hc=>by show _=Value.bool x14;rw [q15,hc];exact Z))<|op (fun Q U W H D=>zAF x10 (D.g 0 Z) (fun hc=>by show _=Value.bool x16;rw [q17,hc];exact Z) (fun hc=>by have a2:Q 30 = .bool x14:=D 1 _ _ _ Z Z Z Z (zAc Z (zAP hc));show _=Value.bool x16;rw [q17,hc];exact a2))<|oz
 intro R w m n p d j
 obtain ⟨h0,h5,h6,h7⟩:=k4 n h0 h5 h6 h7
 have h31:=p.r 19 Z
 replace f_v0:=f_v0.fr m
 refine zQ2 x16 h31 (fun c18=>?_) (fun c18=>?_)
 have c:=zAO c18 c
 refine zQB d j (eB false::[]) ?_ ?_
 exact op (fun Q U W H D=>zA2 Z)<|oz
 intro R w m n p d j
 have h2:=p.r 0 Z
 refine HT.ret ?_
 obtain rfl:=si c
 have c:=hr0
 replace c:some _=some _:=c
 obtain rfl:=si c
 exact ⟨.inr Z,[R 2],⟨Z,N⟩,h2,j⟩
 have c:=zAN c18 c
 refine zQA ?_
 obtain ⟨e19,c⟩:=zA5 c
 refine HT.u d j (eI (y4+1)::eI (y4+1)::[]) ?_ ?_
 exact op (fun Q U W H D=>zAR ((H 7 Z).trans h7) Z e19)<|ov<|oz
 intro R w m n p d j
 obtain ⟨h0,h5,h6⟩:=k3 n h0 h5 h6
 have h7:=p.r 1 Z
 replace f_v0:=f_v0.fr m
 exact ei k (And.intro (Nat.lt_succ_self k) ⟨_,c,d,j,h0,h5,h6,h7,f_v0⟩)
 have c:=zAN c5 c
 refine zQ7 ?_
 obtain rfl:=si c
 exact ei _ ⟨Z,d,j⟩
 rintro R w ⟨s3,rfl,d,j⟩
 have c:=zF6 c
 refine zQB d j (eB true::[]) ?_ ?_
 exact op (fun Q U W H D=>zA2 Z)<|oz
 intro R w m n p d j
 have h2:=p.r 0 Z
 refine HT.ret ?_
 obtain rfl:=si c
 exact ⟨.inr Z,[R 2],⟨Z,N⟩,h2,j⟩
def zD7 (fu:Nat) (p0:List (List UInt8)) (p1:List (List UInt8)):Option Bool:=
 cl true (zCS fu p0) fun x1=>
 cl (true&&(x1==true)) (zCS fu p1) fun x3=>
 bd (x1&&x3) fun x5=>
 some x5
theorem zG4 {fu : Nat} {A : Av} {p0 : List (List UInt8)} {p1 : List (List UInt8)} {r : Bool} (c : zD7 fu p0 p1 = some r) {w : World} {v0 : Value} {v1 : Value} (d : AvOK A w) (h0 : Rep (eSl eStr) A w v0 p0) (h1 : Rep (eSl eStr) A w v1 p1) :
 Calls prog 264 #[v0,v1] w fun e w'=>∃ v,e = .returned v∧(v = .bool r∧Fr w w'):=by
 unfold zD7 at c
 obtain ⟨w0,hw0,j⟩:=pf w
 rw [fw hw0]
 refine zA3 [.tmp 4] func264 ntmps264 (by decide) Z Z (nb Z) ?_
 intro R hR
 have f_v0:=h0
 replace h0:R 0=v0:=hR 0 _ Z
 have f_v1:=h1
 replace h1:R 1=v1:=hR 1 _ Z
 refine zQB d j (eB false::[]) ?_ ?_
 exact op (fun Q U W H D=>zA2 Z)<|oz
 intro R w m n p d j
 obtain ⟨h0,h1⟩:=k2 n h0 h1
 replace f_v0:=f_v0.fr m
 replace f_v1:=f_v1.fr m
 refine zQ9 ?_
 obtain ⟨x1,q2,c⟩:=zA4 c
 obtain ⟨x3,q4,c⟩:=zA4 c
 obtain ⟨x5,q6,c⟩:=zAD c
 refine HT.u d j (eR v0::eB x1::eB x1::gR (true&&(x1==true)) v1::gB (true&&(x1==true)) x3::eB x5::eB x5::[]) ?_ ?_
 exact om h0<|op (fun Q U W H D=>zA8 call300 (zEn (q2 Z) (d.fr W.size) ((f_v0.fr W).eq (D.g 0 Z))))<|ov<|gm 2 true h1<|og 2 true (fun G Q U W H D=>zA8 call300 (zEn (q4 G) (d.fr W.size) ((f_v1.fr W).eq (D.h 0 G Z))))<|op (fun Q U W H D=>zAF x1 (D.g 0 Z) (fun hc=>by have a1:Q 9 = .bool x3:=D 1 _ _ _ Z Z Z Z (zAc Z (zAP hc));show _=Value.bool x5;rw [q6,hc];exact a1) (fun hc=>by show _=Value.bool x5;rw [q6,hc];exact Z))<|oa<|oz
 intro R w m n p d j
 have h4:=p.r 6 Z
 refine HT.ret ?_
 obtain rfl:=si c
 exact ⟨.inr Z,[R 4],⟨Z,N⟩,h4,j⟩
def zAf (fu : Nat) : Nat → (List (List UInt8)) → (List (List UInt8)) → Int → Option Int
 | 0,_,_,_=>none
 | k+1,y20,y21,y22=>
 bd ((decide (0<(y20.length:Int)))&&(decide (0<(y21.length:Int)))) fun x23=>
 bif x23 then (
 ck (inR 0 y20.length) <|
 ck (inR 0 y21.length) <|
 bif (bLt (gtD y20 0) (gtD y21 0)) then (
 ck (subR 1 (y20.length:Int) y20.length) <|
 zAf fu k (subL y20 1 (y20.length:Int)) y21 y22
 ) else (
 ck (inR 0 y21.length) <|
 ck (inR 0 y20.length) <|
 bif (bLt (gtD y21 0) (gtD y20 0)) then (
 ck (subR 1 (y21.length:Int) y21.length) <|
 zAf fu k y20 (subL y21 1 (y21.length:Int)) y22
 ) else (
 ck (subR 1 (y20.length:Int) y20.length) <|
 ck (subR 1 (y21.length:Int) y21.length) <|
 ck (i64B (y22+1)) <|
 zAf fu k (subL y20 1 (y20.length:Int)) (subL y21 1 (y21.length:Int)) (y22+1)
 )
 )
 ) else (
 some y22
 )
def zDL (fu:Nat) (p0:List (List UInt8)) (p1:List (List UInt8)):Option Int:=
 cl true (zAj fu p0) fun x1=>
 cl true (zAj fu p1) fun x3=>
 cl true (zHd fu x1) fun x7=>
 cl true (zHd fu x3) fun x12=>
 cl true (zAf fu fu x7 x12 0) fun s19=>
 some s19
theorem zGP {fu : Nat} {A0 : Av} {p0 : List (List UInt8)} {p1 : List (List UInt8)} {r : Int} (c : zDL fu p0 p1 = some r) {w : World} {v0 : Value} {v1 : Value} (d : AvOK A0 w) (h0 : Rep (eSl eStr) A0 w v0 p0) (h1 : Rep (eSl eStr) A0 w v1 p1) :
 Calls prog 301 #[v0,v1] w fun e w'=>∃ v,e = .returned v∧(v = .int .i64 r∧Fr w w'):=by
 unfold zDL at c
 obtain ⟨w0,hw0,j,C⟩:=pw d
 have hA00:AvOK A0 w0:=C
 rw [fw hw0]
 obtain ⟨A,hAe,B,d,q⟩:=pa d
 refine zA3 [.tmp 4] func301 ntmps301 (by decide) Z Z (nb Z) ?_
 intro R hR
 have f_v0:Rep (eSl eStr) A w v0 p0:=hAe ▸ h0
 replace h0:R 0=v0:=hR 0 _ Z
 have f_v1:Rep (eSl eStr) A w v1 p1:=hAe ▸ h1
 replace h1:R 1=v1:=hR 1 _ Z
 refine zQB d j (eI 0::[]) ?_ ?_
 exact op (fun Q U W H D=>zA2 Z)<|oz
 intro R w m n p d j
 obtain ⟨h0,h1⟩:=k2 n h0 h1
 replace f_v0:=f_v0.fr m
 replace f_v1:=f_v1.fr m
 replace q:=q.fr m
 obtain ⟨x1,q2,c⟩:=zA4 c
 obtain ⟨x3,q4,c⟩:=zA4 c
 refine zQC [] (rR v0::⟨_,true,[],some (.vec w0.heap.size 9 eStr x1),true,fun A=>.any⟩::rR v1::⟨_,true,[],some (.vec w0.heap.size 9 eStr x3),true,fun A=>.any⟩::⟨_,true,[1],some (.vec w0.heap.size 9 eStr x1),true,fun A=>.any⟩::⟨_,true,[3],some (.vec w0.heap.size 9 eStr x3),true,fun A=>.any⟩::[]) (ur (ua (ur (ua (ua (ua (UAll.nil))))))) q d ?_ ?_
 exact rm h0<|rc (OblR.made _ Z Z Z Z fun V Q U O D=>by have a0:Q 8=v0:=D.g 0 Z;have ra0:=(f_v0.stp O.stp).eq a0;exact zFa call173 (zBu (q2 Z) O.av ra0) (Nat.le_trans j.size O.ch.size))<|rm h1<|rc (OblR.made _ Z Z Z Z fun V Q U O D=>by have a0:Q 10=v1:=D.g 0 Z;have ra0:=(f_v1.stp O.stp).eq a0;exact zFa call173 (zBu (q4 Z) O.av ra0) (Nat.le_trans j.size O.ch.size))<|rc (OblR.took 1 _ _ Z Z Z Z Z fun V Q U O D u X Y J L M=>by exact zAK (L _ _ Z Z Z Z).symm X Y)<|rc (OblR.took 3 _ _ Z Z Z Z Z fun V Q U O D u X Y J L M=>by exact zAK (L _ _ Z Z Z Z).symm X Y)<|rz
 intro done ρ σ A R w y s
 obtain ⟨u5,e_u5⟩:∃ u,ρ 4=u:=⟨_,Z⟩
 have h5:=s.ov y 4 4 e_u5
 obtain ⟨u6,e_u6⟩:∃ u,ρ 5=u:=⟨_,Z⟩
 have h6:=s.ov y 5 5 e_u6
 obtain ⟨B,j,d⟩:=s.s B C j q N
 replace q:=s.left y [(4,ob u5 (.vec w0.heap.size 9 eStr x1)),(5,ob u6 (.vec w0.heap.size 9 eStr x3))] ⟨Z,Z,e_u5,Z,Z,⟨Z,Z,e_u6,Z,Z,N⟩⟩
 obtain ⟨x7,q8,c⟩:=zA4 c
 refine zQC [ob u5 (.vec w0.heap.size 9 eStr x1),ob u6 (.vec w0.heap.size 9 eStr x3)] (rR u5::⟨_,true,[0],some (.vec w0.heap.size 9 eStr x7),false,fun A=>.any⟩::[]) (ur (ua (UAll.nil))) q d ?_ ?_
 exact rm h5<|rc (OblR.took 0 _ _ Z Z Z Z Z fun V Q U O D u X Y J L M=>by have a0:Q 12=u5:=D.g 0 Z;have hu0:zAG Q (.tmp 12)=u:=a0.trans (J _ Z).symm;exact zIS call174 Y (fun _ _ _ _ _ h=>h) (by simp only [List.map,hu0];exact Calls.mono (zHS (q8 Z) (O.av.sub _) (fun b o h=>h.2) (Vec.flat X (fun _ _ _ _ _ h=>h))) (fun _ _ ⟨v,h1,h2,h3,h4⟩=>⟨v,h1,N,h3,h4⟩)))<|rz
 intro done ρ σ A R w y s
 obtain ⟨h5,h6⟩:=k2 s.rg h5 h6
 have z9:=s.inivR 0 Z
 have z10:=s.on y 3 1 Z Z Z Z Z z9
 have z11:=s.inivR 1 Z
 obtain ⟨B,j,d⟩:=s.s B C j q ⟨Z,⟨Z,N⟩⟩
 replace q:=s.left y [(3,ob u5 (.vec w0.heap.size 9 eStr x7)),(1,ob u6 (.vec w0.heap.size 9 eStr x3))] ⟨Z,Z,z10,Z,Z,⟨Z,Z,z11,Z,Z,N⟩⟩
 obtain ⟨x12,q13,c⟩:=zA4 c
 refine zQC [ob u5 (.vec w0.heap.size 9 eStr x7),ob u6 (.vec w0.heap.size 9 eStr x3)] (rR u6::⟨_,true,[1],some (.vec w0.heap.size 9 eStr x12),false,fun A=>.any⟩::[]) (ur (ua (UAll.nil))) q d ?_ ?_
 exact rm h6<|rc (OblR.took 1 _ _ Z Z Z Z Z fun V Q U O D u X Y J L M=>by have a0:Q 14=u6:=D.g 0 Z;have hu0:zAG Q (.tmp 14)=u:=a0.trans (J _ Z).symm;exact zIS call174 Y (fun _ _ _ _ _ h=>h) (by simp only [List.map,hu0];exact Calls.mono (zHS (q13 Z) (O.av.sub _) (fun b o h=>h.2) (Vec.flat X (fun _ _ _ _ _ h=>h))) (fun _ _ ⟨v,h1,h2,h3,h4⟩=>⟨v,h1,N,h3,h4⟩)))<|rz
 intro done ρ σ A R w y s
 obtain ⟨h5,h6⟩:=k2 s.rg h5 h6
 have z14:=s.inivR 0 Z
 have z15:=s.inivR 1 Z
 have z16:=s.on y 3 1 Z Z Z Z Z z15
 obtain ⟨B,j,d⟩:=s.s B C j q ⟨Z,⟨Z,N⟩⟩
 replace q:=s.left y [(0,ob u5 (.vec w0.heap.size 9 eStr x7)),(3,ob u6 (.vec w0.heap.size 9 eStr x12))] ⟨Z,Z,z14,Z,Z,⟨Z,Z,z16,Z,Z,N⟩⟩
 refine zQB d j (eI 0::[]) ?_ ?_
 exact op (fun Q U W H D=>zA2 Z)<|oz
 intro R w m n p d j
 obtain ⟨h5,h6⟩:=k2 n h5 h6
 have h7:=p.r 0 Z
 replace q:=q.fr m
 replace q:IniOK [ob u5 (.vec w0.heap.size 9 eStr x7),ob u6 (.vec w0.heap.size 9 eStr x12)] A w:=q.sub [(0,ob u5 (.vec w0.heap.size 9 eStr x7)),(1,ob u6 (.vec w0.heap.size 9 eStr x12))] ⟨Z,Z,⟨Z,Z,N⟩⟩
 obtain ⟨A,hle,B,d,q,f_u5⟩:=q.freeze d B C
 clear hle
 replace q:IniOK [ob u6 (.vec w0.heap.size 9 eStr x12)] A w:=q.sub [(0,ob u6 (.vec w0.heap.size 9 eStr x12))] ⟨Z,Z,N⟩
 obtain ⟨A,hle,B,d,q,f_u6⟩:=q.freeze d B C
 replace f_u5:=f_u5.less hle
 clear hle
 obtain ⟨rl17,q18,c⟩:=zA4 c
 replace q18:=q18 Z
 refine zQ3 (fun R w=>∃ A:Av,∃ (s19:Int),rl17=s19∧AvOK A w∧Fr w0 w∧(∀ b o,A0 b o→A b o)∧IniOK [] A w∧R 7 = .int .i64 s19) ?_ ?_
 refine HT.block ?_
 refine zQ8 (fun k R w=>∃ A:Av,∃ (y20:List (List UInt8)) (y21:List (List UInt8)) (y22:Int) (wl_5:Value) (wl_6:Value),zAf fu k y20 y21 y22=some rl17∧AvOK A w∧Fr w0 w∧(∀ b o,A0 b o→A b o)∧IniOK [] A w∧R 5=wl_5∧R 6=wl_6∧R 7 = .int .i64 y22∧Rep (eSl eStr) A w wl_5 y20∧Rep (eSl eStr) A w wl_6 y21) fu ⟨_,_,_,_,u5,u6,q18,d,j,B,q,h5,h6,h7,f_u5,f_u6⟩ ?_
 have hr0:=c;clear c q18
 rintro k R w ⟨A,y20,y21,y22,wl_5,wl_6,c,d,j,B,q,h5,h6,h7,f_wl_5,f_wl_6⟩
 rcases k with _ | k
 cases (show none=some _ from c)
 rw [zAf] at c
 refine zQ9 ?_
 refine zQ9 ?_
 obtain ⟨x23,q24,c⟩:=zAD c
 refine HT.u d j (eR wl_5::eI (y20.length:Int)::eB (decide (0<(y20.length:Int)))::eB (decide (0<(y20.length:Int)))::gR (true&&((decide (0<(y20.length:Int)))==true)) wl_6::gI (true&&((decide (0<(y20.length:Int)))==true)) (y21.length:Int)::gB (true&&((decide (0<(y20.length:Int)))==true)) (decide (0<(y21.length:Int)))::eB x23::[]) ?_ ?_
 exact om h5<|op (fun Q U W H D=>zAe (aT:=#[]) ((f_wl_5.fr W).eq (D.g 0 Z)) underlying46)<|op (fun Q U W H D=>zCM (D.g 0 Z) Z)<|ov<|gm 3 true h6<|og 3 true (fun G Q U W H D=>zAe (aT:=#[]) ((f_wl_6.fr W).eq (D.h 0 G Z)) underlying46)<|og 3 true (fun G Q U W H D=>zCM (D.h 0 G Z) Z)<|op (fun Q U W H D=>zAF (decide (0<(y20.length:Int))) (D.g 0 Z) (fun hc=>by have a1:Q 22 = .bool (decide (0<(y21.length:Int))):=D 1 _ _ _ Z Z Z Z (zAc Z (zAP hc));show _=Value.bool x23;rw [q24,hc];exact a1) (fun hc=>by show _=Value.bool x23;rw [q24,hc];exact Z))<|oz
 intro R w m n p d j
 obtain ⟨h5,h6,h7⟩:=k3 n h5 h6 h7
 have h23:=p.r 7 Z
 replace f_wl_5:=f_wl_5.fr m
 replace f_wl_6:=f_wl_6.fr m
 replace q:=q.fr m
 refine zQ2 x23 h23 (fun c25=>?_) (fun c25=>?_)
 have c:=zAO c25 c
 refine zQA ?_
 refine HT.block ?_
 refine HT.block ?_
 refine zQ9 ?_
 obtain ⟨e26,e27,c⟩:=ck2 c
 refine zQ5 (by kernel_rfl) (l:=eR wl_5::eF (.qtr eStr A (gtD y20 0))::eF (.rep eStr A (gtD y20 0))::eR wl_6::eF (.qtr eStr A (gtD y21 0))::eF (.rep eStr A (gtD y21 0))::eB (bLt (gtD y20 0) (gtD y21 0))::eB (bLt (gtD y20 0) (gtD y21 0))::[]) (tl:=[]) (by kernel_rfl) (by kernel_rfl) (by kernel_rfl) (by kernel_rfl) ?_ ?_
 exact om h5<|op (fun Q U W H D=>zA7 ((f_wl_5.fr W).eq (D.g 0 Z)) Z underlying46 sizeOf9 e26)<|op (fun Q U W H D=>(zAT (QRep.ptr (D.g 0 Z)) isAgg9 sizeOf9))<|om h6<|op (fun Q U W H D=>zA7 ((f_wl_6.fr W).eq (D.g 0 Z)) Z underlying46 sizeOf9 e27)<|op (fun Q U W H D=>(zAT (QRep.ptr (D.g 0 Z)) isAgg9 sizeOf9))<|op (fun Q U W H D=>zKY (D.g 0 Z) (D.g 1 Z))<|oa<|oz
 intro R w m n p
 obtain ⟨h5,h6,h7⟩:=k3 n h5 h6 h7
 have h30:=p.r 7 Z
 replace f_wl_5:=f_wl_5.fr m
 replace f_wl_6:=f_wl_6.fr m
 replace q:=q.fr m
 replace d:=d.fr m.size
 replace j:=j.trans m
 refine zQ2 (bLt (gtD y20 0) (gtD y21 0)) h30 (fun c28=>?_) (fun c28=>?_)
 have c:=zAO c28 c
 obtain ⟨e29,c⟩:=zA5 c
 refine HT.u d j (eR wl_5::eF (.rep (eSl eStr) A (subL y20 1 (y20.length:Int)))::eF (.rep (eSl eStr) A (subL y20 1 (y20.length:Int)))::[]) ?_ ?_
 exact om h5<|op (fun Q U W H D=>zDh ((f_wl_5.fr W).eq (D.g 0 Z)) Z underlying46 sizeOf9 e29)<|op (fun Q U W H D=>zA2 (D.g 0 Z))<|oz
 intro R w m n p d j
 obtain ⟨h6,h7⟩:=k2 n h6 h7
 obtain ⟨u30,h5,f_u30⟩:∃ u,R 5=u∧Rep (eSl eStr) A w u (subL y20 1 (y20.length:Int)):=⟨_,Z,p 2 _ _ Z Z Z⟩
 replace f_wl_6:=f_wl_6.fr m
 replace q:=q.fr m
 exact ei k (And.intro (Nat.lt_succ_self k) ⟨_,_,_,_,u30,wl_6,c,d,j,B,q,h5,h6,h7,f_u30,f_wl_6⟩)
 have c:=zAN c28 c
 refine zQ9 ?_
 obtain ⟨e31,e32,c⟩:=ck2 c
 refine zQ5 (by kernel_rfl) (l:=eR wl_6::eF (.qtr eStr A (gtD y21 0))::eF (.rep eStr A (gtD y21 0))::eR wl_5::eF (.qtr eStr A (gtD y20 0))::eF (.rep eStr A (gtD y20 0))::eB (bLt (gtD y21 0) (gtD y20 0))::eB (bLt (gtD y21 0) (gtD y20 0))::[]) (tl:=[]) (by kernel_rfl) (by kernel_rfl) (by kernel_rfl) (by kernel_rfl) ?_ ?_
 exact om h6<|op (fun Q U W H D=>zA7 ((f_wl_6.fr W).eq (D.g 0 Z)) Z underlying46 sizeOf9 e31)<|op (fun Q U W H D=>(zAT (QRep.ptr (D.g 0 Z)) isAgg9 sizeOf9))<|om h5<|op (fun Q U W H D=>zA7 ((f_wl_5.fr W).eq (D.g 0 Z)) Z underlying46 sizeOf9 e32)<|op (fun Q U W H D=>(zAT (QRep.ptr (D.g 0 Z)) isAgg9 sizeOf9))<|op (fun Q U W H D=>zKY (D.g 0 Z) (D.g 1 Z))<|oa<|oz
 intro R w m n p
 obtain ⟨h5,h6,h7⟩:=k3 n h5 h6 h7
 have h40:=p.r 7 Z
 replace f_wl_5:=f_wl_5.fr m
 replace f_wl_6:=f_wl_6.fr m
 replace q:=q.fr m
 replace d:=d.fr m.size
 replace j:=j.trans m
 refine zQ2 (bLt (gtD y21 0) (gtD y20 0)) h40 (fun c33=>?_) (fun c33=>?_)
 have c:=zAO c33 c
 obtain ⟨e34,c⟩:=zA5 c
 refine HT.u d j (eR wl_6::eF (.rep (eSl eStr) A (subL y21 1 (y21.length:Int)))::eF (.rep (eSl eStr) A (subL y21 1 (y21.length:Int)))::[]) ?_ ?_
 exact om h6<|op (fun Q U W H D=>zDh ((f_wl_6.fr W).eq (D.g 0 Z)) Z underlying46 sizeOf9 e34)<|op (fun Q U W H D=>zA2 (D.g 0 Z))<|oz
 intro R w m n p d j
 obtain ⟨h5,h7⟩:=k2 n h5 h7
 obtain ⟨u35,h6,f_u35⟩:∃ u,R 6=u∧Rep (eSl eStr) A w u (subL y21 1 (y21.length:Int)):=⟨_,Z,p 2 _ _ Z Z Z⟩
 replace f_wl_5:=f_wl_5.fr m
 replace q:=q.fr m
 exact ei k (And.intro (Nat.lt_succ_self k) ⟨_,_,_,_,wl_5,u35,c,d,j,B,q,h5,h6,h7,f_wl_5,f_u35⟩)
 have c:=zAN c33 c
 refine zQ9 ?_
 obtain ⟨e36,e37,c⟩:=ck2 c
 refine zQ5 (by kernel_rfl) (l:=eR wl_5::eF (.rep (eSl eStr) A (subL y20 1 (y20.length:Int)))::eR wl_6::eF (.rep (eSl eStr) A (subL y21 1 (y21.length:Int)))::eF (.rep (eSl eStr) A (subL y20 1 (y20.length:Int)))::eF (.rep (eSl eStr) A (subL y21 1 (y21.length:Int)))::[]) (tl:=[]) (by kernel_rfl) (by kernel_rfl) (by kernel_rfl) (by kernel_rfl) ?_ ?_
 exact om h5<|op (fun Q U W H D=>zDh ((f_wl_5.fr W).eq (D.g 0 Z)) Z underlying46 sizeOf9 e36)<|om h6<|op (fun Q U W H D=>zDh ((f_wl_6.fr W).eq (D.g 0 Z)) Z underlying46 sizeOf9 e37)<|op (fun Q U W H D=>zA2 (D.g 0 Z))<|op (fun Q U W H D=>zA2 (D.g 0 Z))<|oz
 intro R w m n p
 replace h7:=k1 n h7
 obtain ⟨u38,h5,f_u38⟩:∃ u,R 5=u∧Rep (eSl eStr) A w u (subL y20 1 (y20.length:Int)):=⟨_,Z,p 4 _ _ Z Z Z⟩
 obtain ⟨u39,h6,f_u39⟩:∃ u,R 6=u∧Rep (eSl eStr) A w u (subL y21 1 (y21.length:Int)):=⟨_,Z,p 5 _ _ Z Z Z⟩
 replace q:=q.fr m
 replace d:=d.fr m.size
 replace j:=j.trans m
 obtain ⟨e40,c⟩:=zA5 c
 refine HT.u d j (eI y22::eI (y22+1)::eI (y22+1)::[]) ?_ ?_
 exact om h7<|op (fun Q U W H D=>zAR (D.g 0 Z) Z e40)<|oa<|oz
 intro R w m n p d j
 obtain ⟨h5,h6⟩:=k2 n h5 h6
 have h7:=p.r 2 Z
 replace f_u38:=f_u38.fr m
 replace f_u39:=f_u39.fr m
 replace q:=q.fr m
 exact ei k (And.intro (Nat.lt_succ_self k) ⟨_,_,_,_,u38,u39,c,d,j,B,q,h5,h6,h7,f_u38,f_u39⟩)
 have c:=zAN c25 c
 refine zQ7 ?_
 obtain rfl:=si c
 exact ei _ ⟨_,Z,d,j,B,q,h7⟩
 rintro R w ⟨A,s19,es,d,j,B,q,h7⟩
 obtain rfl:=es.symm
 refine zQB d j (eI s19::eI s19::[]) ?_ ?_
 exact om h7<|oa<|oz
 intro R w m n p d j
 have h4:=p.r 1 Z
 replace q:=q.fr m
 refine HT.ret ?_
 obtain rfl:=si c
 exact ⟨.inr Z,[R 4],⟨Z,N⟩,h4,j⟩
def zDi (fu:Nat) (p0:List (List UInt8)) (p1:List (List UInt8)):Option Int:=
 cl true (zDL fu p0 p1) fun x1=>
 some x1
theorem zHb {fu : Nat} {A : Av} {p0 : List (List UInt8)} {p1 : List (List UInt8)} {r : Int} (c : zDi fu p0 p1 = some r) {w : World} {v0 : Value} {v1 : Value} (d : AvOK A w) (h0 : Rep (eSl eStr) A w v0 p0) (h1 : Rep (eSl eStr) A w v1 p1) :
 Calls prog 265 #[v0,v1] w fun e w'=>∃ v,e = .returned v∧(v = .int .i64 r∧Fr w w'):=by
 unfold zDi at c
 obtain ⟨w0,hw0,j⟩:=pf w
 rw [fw hw0]
 refine zA3 [.tmp 4] func265 ntmps265 (by decide) Z Z (nb Z) ?_
 intro R hR
 have f_v0:=h0
 replace h0:R 0=v0:=hR 0 _ Z
 have f_v1:=h1
 replace h1:R 1=v1:=hR 1 _ Z
 refine zQB d j (eI 0::[]) ?_ ?_
 exact op (fun Q U W H D=>zA2 Z)<|oz
 intro R w m n p d j
 obtain ⟨h0,h1⟩:=k2 n h0 h1
 replace f_v0:=f_v0.fr m
 replace f_v1:=f_v1.fr m
 obtain ⟨x1,q2,c⟩:=zA4 c
 refine zQB d j (eR v0::eR v1::eI x1::eI x1::[]) ?_ ?_
 exact om h0<|om h1<|op (fun Q U W H D=>zA8 call301 (zGP (q2 Z) (d.fr W.size) ((f_v0.fr W).eq (D.g 0 Z)) ((f_v1.fr W).eq (D.g 1 Z))))<|oa<|oz
 intro R w m n p d j
 have h4:=p.r 3 Z
 refine HT.ret ?_
 obtain rfl:=si c
 exact ⟨.inr Z,[R 4],⟨Z,N⟩,h4,j⟩
def zEH (fu:Nat) (p0:Int) (p1:Int):Option Int:=
 bif (p1==0) then (
 some 1000
 ) else (
 ck (p1 != 0) <|
 ck (i64B (p0.tdiv p1)) <|
 some (p0.tdiv p1)
 )
theorem zHC {fu : Nat} {A : Av} {p0 : Int} {p1 : Int} {r : Int} (c : zEH fu p0 p1 = some r) {w : World} {v0 : Value} {v1 : Value} (d : AvOK A w) (h0 : v0 = .int .i64 p0) (h1 : v1 = .int .i64 p1) :
 Calls prog 266 #[v0,v1] w fun e w'=>∃ v,e = .returned v∧(v = .int .i64 r∧Fr w w'):=by
 unfold zEH at c
 obtain ⟨w0,hw0,j⟩:=pf w
 rw [fw hw0]
 refine zA3 [.tmp 4] func266 ntmps266 (by decide) Z Z (nb Z) ?_
 intro R hR
 replace h0:R 0 = .int .i64 p0:=(hR 0 _ Z).trans h0
 replace h1:R 1 = .int .i64 p1:=(hR 1 _ Z).trans h1
 refine zQB d j (eI 0::[]) ?_ ?_
 exact op (fun Q U W H D=>zA2 Z)<|oz
 intro R w m n p d j
 obtain ⟨h0,h1⟩:=k2 n h0 h1
 refine zQ9 ?_
 refine zQB d j (eI p1::eB (p1==0)::[]) ?_ ?_
 exact om h1<|op (fun Q U W H D=>zAo (D.g 0 Z) Z)<|oz
 intro R w m n p d j
 obtain ⟨h0,h1⟩:=k2 n h0 h1
 have h6:=p.r 1 Z
 refine zQ2 (p1==0) h6 (fun c1=>?_) (fun c1=>?_)
 have c:=zAO c1 c
 refine zQB d j (eI 1000::[]) ?_ ?_
 exact op (fun Q U W H D=>zA2 Z)<|oz
 intro R w m n p d j
 have h4:=p.r 0 Z
 refine HT.ret ?_
 obtain rfl:=si c
 exact ⟨.inr Z,[R 4],⟨Z,N⟩,h4,j⟩
 have c:=zAN c1 c
 refine zQA ?_
 obtain ⟨e2,e3,c⟩:=ck2 c
 refine zQB d j (eI p0::eI p1::eI (p0.tdiv p1)::eI (p0.tdiv p1)::[]) ?_ ?_
 exact om h0<|om h1<|op (fun Q U W H D=>zHm (D.g 0 Z) (D.g 1 Z) e2 e3)<|oa<|oz
 intro R w m n p d j
 have h4:=p.r 3 Z
 refine HT.ret ?_
 obtain rfl:=si c
 exact ⟨.inr Z,[R 4],⟨Z,N⟩,h4,j⟩
def zDm (fu:Nat) (p0:List (List UInt8)) (p1:List (List UInt8)):Option Int:=
 cl true (zD7 fu p0 p1) fun x1=>
 bif (!x1) then (
 some 0
 ) else (
 cl true (zDi fu p0 p1) fun x4=>
 ck (i64B (1000*x4)) <|
 ck (i64B ((p0.length:Int)+(p1.length:Int))) <|
 ck (i64B (((p0.length:Int)+(p1.length:Int))-x4)) <|
 cl true (zEH fu (1000*x4) (((p0.length:Int)+(p1.length:Int))-x4)) fun x9=>
 some x9
 )
theorem zHX {fu : Nat} {A : Av} {p0 : List (List UInt8)} {p1 : List (List UInt8)} {r : Int} (c : zDm fu p0 p1 = some r) {w : World} {v0 : Value} {v1 : Value} (d : AvOK A w) (h0 : Rep (eSl eStr) A w v0 p0) (h1 : Rep (eSl eStr) A w v1 p1) :
 Calls prog 224 #[v0,v1] w fun e w'=>∃ v,e = .returned v∧(v = .int .i64 r∧Fr w w'):=by
 unfold zDm at c
 obtain ⟨w0,hw0,j⟩:=pf w
 rw [fw hw0]
 refine zA3 [.tmp 4] func224 ntmps224 (by decide) Z Z (nb Z) ?_
 intro R hR
 have f_v0:=h0
 replace h0:R 0=v0:=hR 0 _ Z
 have f_v1:=h1
 replace h1:R 1=v1:=hR 1 _ Z
 refine zQB d j (eI 0::[]) ?_ ?_
 exact op (fun Q U W H D=>zA2 Z)<|oz
 intro R w m n p d j
 obtain ⟨h0,h1⟩:=k2 n h0 h1
 replace f_v0:=f_v0.fr m
 replace f_v1:=f_v1.fr m
 refine zQ9 ?_
 obtain ⟨x1,q2,c⟩:=zA4 c
 refine zQB d j (eR v0::eR v1::eB x1::eB (!x1)::[]) ?_ ?_
 exact om h0<|om h1<|op (fun Q U W H D=>zA8 call264 (zG4 (q2 Z) (d.fr W.size) ((f_v0.fr W).eq (D.g 0 Z)) ((f_v1.fr W).eq (D.g 1 Z))))<|op (fun Q U W H D=>zBq (D.g 0 Z))<|oz
 intro R w m n p d j
 obtain ⟨h0,h1⟩:=k2 n h0 h1
 have h9:=p.r 3 Z
 replace f_v0:=f_v0.fr m
 replace f_v1:=f_v1.fr m
 refine zQ2 (!x1) h9 (fun c3=>?_) (fun c3=>?_)
 have c:=zAO c3 c
 refine zQB d j (eI 0::[]) ?_ ?_
 exact op (fun Q U W H D=>zA2 Z)<|oz
 intro R w m n p d j
 have h4:=p.r 0 Z
 refine HT.ret ?_
 obtain rfl:=si c
 exact ⟨.inr Z,[R 4],⟨Z,N⟩,h4,j⟩
 have c:=zAN c3 c
 refine zQA ?_
 obtain ⟨x4,q5,c⟩:=zA4 c
 refine zQB d j (eR v0::eR v1::eI x4::eI x4::[]) ?_ ?_
 exact om h0<|om h1<|op (fun Q U W H D=>zA8 call265 (zHb (q5 Z) (d.fr W.size) ((f_v0.fr W).eq (D.g 0 Z)) ((f_v1.fr W).eq (D.g 1 Z))))<|oa<|oz
 intro R w m n p d j
 obtain ⟨h0,h1⟩:=k2 n h0 h1
 have h5:=p.r 3 Z
 replace f_v0:=f_v0.fr m
 replace f_v1:=f_v1.fr m
 obtain ⟨e6,e7,e8,c⟩:=ck3 c
 obtain ⟨x9,q10,c⟩:=zA4 c
 refine zQB d j (eI x4::eI (1000*x4)::eR v0::eI (p0.length:Int)::eR v1::eI (p1.length:Int)::eI ((p0.length:Int)+(p1.length:Int))::eI x4::eI (((p0.length:Int)+(p1.length:Int))-x4)::eI x9::eI x9::[]) ?_ ?_
 exact om h5<|op (fun Q U W H D=>zGQ Z (D.g 0 Z) e6)<|om h0<|op (fun Q U W H D=>zAe (aT:=#[]) ((f_v0.fr W).eq (D.g 0 Z)) underlying46)<|om h1<|op (fun Q U W H D=>zAe (aT:=#[]) ((f_v1.fr W).eq (D.g 0 Z)) underlying46)<|op (fun Q U W H D=>zAR (D.g 0 Z) (D.g 1 Z) e7)<|om h5<|op (fun Q U W H D=>zAb (D.g 0 Z) (D.g 1 Z) e8)<|op (fun Q U W H D=>zA8 call266 (zHC (q10 Z) (d.fr W.size) (D.g 0 Z) (D.g 1 Z)))<|oa<|oz
 intro R w m n p d j
 have h4:=p.r 10 Z
 refine HT.ret ?_
 obtain rfl:=si c
 exact ⟨.inr Z,[R 4],⟨Z,N⟩,h4,j⟩
def zCr (fu:Nat) (p0:List (List UInt8)) (p1:List (List UInt8)):Option Int:=
 bd (((p0.length:Int)==0) || ((p1.length:Int)==0)) fun x1=>
 bif x1 then (
 some 0
 ) else (
 cl true (zDm fu p0 p1) fun x4=>
 some x4
 )
theorem zFE {fu : Nat} {A : Av} {p0 : List (List UInt8)} {p1 : List (List UInt8)} {r : Int} (c : zCr fu p0 p1 = some r) {w : World} {v0 : Value} {v1 : Value} (d : AvOK A w) (h0 : Rep (eSl eStr) A w v0 p0) (h1 : Rep (eSl eStr) A w v1 p1) :
 Calls prog 181 #[v0,v1] w fun e w'=>∃ v,e = .returned v∧(v = .int .i64 r∧Fr w w'):=by
 unfold zCr at c
 obtain ⟨w0,hw0,j⟩:=pf w
 rw [fw hw0]
 refine zA3 [.tmp 4] func181 ntmps181 (by decide) Z Z (nb Z) ?_
 intro R hR
 have f_v0:=h0
 replace h0:R 0=v0:=hR 0 _ Z
 have f_v1:=h1
 replace h1:R 1=v1:=hR 1 _ Z
 refine zQB d j (eI 0::[]) ?_ ?_
 exact op (fun Q U W H D=>zA2 Z)<|oz
 intro R w m n p d j
 obtain ⟨h0,h1⟩:=k2 n h0 h1
 replace f_v0:=f_v0.fr m
 replace f_v1:=f_v1.fr m
 refine zQ9 ?_
 refine zQ9 ?_
 obtain ⟨x1,q2,c⟩:=zAD c
 refine HT.u d j (eR v0::eI (p0.length:Int)::eB ((p0.length:Int)==0)::eB ((p0.length:Int)==0)::gR (true&&(((p0.length:Int)==0)==false)) v1::gI (true&&(((p0.length:Int)==0)==false)) (p1.length:Int)::gB (true&&(((p0.length:Int)==0)==false)) ((p1.length:Int)==0)::eB x1::[]) ?_ ?_
 exact om h0<|op (fun Q U W H D=>zAe (aT:=#[]) ((f_v0.fr W).eq (D.g 0 Z)) underlying46)<|op (fun Q U W H D=>zAo (D.g 0 Z) Z)<|ov<|gm 3 false h1<|og 3 false (fun G Q U W H D=>zAe (aT:=#[]) ((f_v1.fr W).eq (D.h 0 G Z)) underlying46)<|og 3 false (fun G Q U W H D=>zAo (D.h 0 G Z) Z)<|op (fun Q U W H D=>zAF ((p0.length:Int)==0) (D.g 0 Z) (fun hc=>by show _=Value.bool x1;rw [q2,hc];exact Z) (fun hc=>by have a2:Q 11 = .bool ((p1.length:Int)==0):=D 1 _ _ _ Z Z Z Z (zAc Z (zAP hc));show _=Value.bool x1;rw [q2,hc];exact a2))<|oz
 intro R w m n p d j
 obtain ⟨h0,h1⟩:=k2 n h0 h1
 have h12:=p.r 7 Z
 replace f_v0:=f_v0.fr m
 replace f_v1:=f_v1.fr m
 refine zQ2 x1 h12 (fun c3=>?_) (fun c3=>?_)
 have c:=zAO c3 c
 refine zQB d j (eI 0::[]) ?_ ?_
 exact op (fun Q U W H D=>zA2 Z)<|oz
 intro R w m n p d j
 have h4:=p.r 0 Z
 refine HT.ret ?_
 obtain rfl:=si c
 exact ⟨.inr Z,[R 4],⟨Z,N⟩,h4,j⟩
 have c:=zAN c3 c
 refine zQA ?_
 obtain ⟨x4,q5,c⟩:=zA4 c
 refine zQB d j (eR v0::eR v1::eI x4::eI x4::[]) ?_ ?_
 exact om h0<|om h1<|op (fun Q U W H D=>zA8 call224 (zHX (q5 Z) (d.fr W.size) ((f_v0.fr W).eq (D.g 0 Z)) ((f_v1.fr W).eq (D.g 1 Z))))<|oa<|oz
 intro R w m n p d j
 have h4:=p.r 3 Z
 refine HT.ret ?_
 obtain rfl:=si c
 exact ⟨.inr Z,[R 4],⟨Z,N⟩,h4,j⟩
def zCI (fu:Nat) (p0:Int):Option Int:=
 bd ((decide (65≤p0))&&(decide (p0≤90))) fun x1=>
 bif x1 then (
 cl true (zC1 fu (IntKind.u8.wrap (p0+32))) fun x4=>
 bif (!x4) then (
 some (-2)
 ) else (
 ck (inR (IntKind.u8.wrap ((IntKind.u8.wrap (p0+32))-97)) sndL.length) <|
 some (gtD sndL (IntKind.u8.wrap ((IntKind.u8.wrap (p0+32))-97)))
 )
 ) else (
 cl true (zC1 fu p0) fun x8=>
 bif (!x8) then (
 some (-2)
 ) else (
 ck (inR (IntKind.u8.wrap (p0-97)) sndL.length) <|
 some (gtD sndL (IntKind.u8.wrap (p0-97)))
 )
 )
theorem zF9 {fu : Nat} {A : Av} {p0 : Int} {r : Int} (c : zCI fu p0 = some r) {w : World} {v0 : Value} (d : AvOK A w) (hG : GTab w) (h0 : v0 = .int .u8 p0) :
 Calls prog 248 #[v0] w fun e w'=>∃ v,e = .returned v∧(v = .int .i64 r∧Fr w w'):=by
 unfold zCI at c
 obtain ⟨w0,hw0,j⟩:=pf w
 rw [fw hw0]
 have hG0:GTab w0:=hw0 ▸ hG
 refine zA3 [.tmp 2] func248 ntmps248 (by decide) Z Z (nb Z) ?_
 intro R hR
 replace h0:R 0 = .int .u8 p0:=(hR 0 _ Z).trans h0
 refine zQB d j (eI 0::[]) ?_ ?_
 exact op (fun Q U W H D=>zA2 Z)<|oz
 intro R w m n p d j
 replace h0:=k1 n h0
 refine zQ9 ?_
 refine zQ9 ?_
 obtain ⟨x1,q2,c⟩:=zAD c
 refine HT.u d j (eU p0::eB (decide (65≤p0))::eB (decide (65≤p0))::gU (true&&((decide (65≤p0))==true)) p0::gB (true&&((decide (65≤p0))==true)) (decide (p0≤90))::eB x1::[]) ?_ ?_
 exact om h0<|op (fun Q U W H D=>zDs (D.g 0 Z) Z)<|ov<|gm 2 true h0<|og 2 true (fun G Q U W H D=>zDp (D.h 0 G Z) Z)<|op (fun Q U W H D=>zAF (decide (65≤p0)) (D.g 0 Z) (fun hc=>by have a1:Q 7 = .bool (decide (p0≤90)):=D 1 _ _ _ Z Z Z Z (zAc Z (zAP hc));show _=Value.bool x1;rw [q2,hc];exact a1) (fun hc=>by show _=Value.bool x1;rw [q2,hc];exact Z))<|oz
 intro R w m n p d j
 replace h0:=k1 n h0
 have h8:=p.r 5 Z
 refine zQ2 x1 h8 (fun c3=>?_) (fun c3=>?_)
 have c:=zAO c3 c
 refine HT.u d j (eU p0::eU (IntKind.u8.wrap (p0+32))::eU (IntKind.u8.wrap (p0+32))::[]) ?_ ?_
 exact om h0<|op (fun Q U W H D=>zGV (D.g 0 Z) Z)<|oa<|oz
 intro R w m n p d j
 have h0:=p.r 2 Z
 refine zQ9 ?_
 obtain ⟨x4,q5,c⟩:=zA4 c
 refine zQB d j (eU (IntKind.u8.wrap (p0+32))::eB x4::eB (!x4)::[]) ?_ ?_
 exact om h0<|op (fun Q U W H D=>zA8 call288 (zDY (q5 Z) (d.fr W.size) (D.g 0 Z)))<|op (fun Q U W H D=>zBq (D.g 0 Z))<|oz
 intro R w m n p d j
 replace h0:=k1 n h0
 have h13:=p.r 2 Z
 refine zQ2 (!x4) h13 (fun c6=>?_) (fun c6=>?_)
 have c:=zAO c6 c
 refine zQB d j (eI (-2)::[]) ?_ ?_
 exact op (fun Q U W H D=>zA2 Z)<|oz
 intro R w m n p d j
 have h2:=p.r 0 Z
 refine HT.ret ?_
 obtain rfl:=si c
 exact ⟨.inr Z,[R 2],⟨Z,N⟩,h2,j⟩
 have c:=zAN c6 c
 refine zQA ?_
 obtain ⟨e7,c⟩:=zA5 c
 refine zQB d j (eU (IntKind.u8.wrap (p0+32))::eU (IntKind.u8.wrap ((IntKind.u8.wrap (p0+32))-97))::eR (.pointer (some ⟨1,(IntKind.u8.wrap ((IntKind.u8.wrap (p0+32))-97)).toNat,none⟩))::eI (gtD sndL (IntKind.u8.wrap ((IntKind.u8.wrap (p0+32))-97)))::eI (gtD sndL (IntKind.u8.wrap ((IntKind.u8.wrap (p0+32))-97)))::[]) ?_ ?_
 exact om h0<|op (fun Q U W H D=>zJ1 (D.g 0 Z) Z)<|op (fun Q U W H D=>zGo (D.g 0 Z) underlying247 sizeOf3 e7)<|op (fun Q U W H D=>OpF.int (zAT ((hG0.fr (j.trans W)).sndAt e7 ((D.g 0 Z))) isAgg3 sizeOf3))<|oa<|oz
 intro R w m n p d j
 have h2:=p.r 4 Z
 refine HT.ret ?_
 obtain rfl:=si c
 exact ⟨.inr Z,[R 2],⟨Z,N⟩,h2,j⟩
 have c:=zAN c3 c
 refine zQA ?_
 refine zQ9 ?_
 obtain ⟨x8,q9,c⟩:=zA4 c
 refine zQB d j (eU p0::eB x8::eB (!x8)::[]) ?_ ?_
 exact om h0<|op (fun Q U W H D=>zA8 call288 (zDY (q9 Z) (d.fr W.size) (D.g 0 Z)))<|op (fun Q U W H D=>zBq (D.g 0 Z))<|oz
 intro R w m n p d j
 replace h0:=k1 n h0
 have h13:=p.r 2 Z
 refine zQ2 (!x8) h13 (fun c10=>?_) (fun c10=>?_)
 have c:=zAO c10 c
 refine zQB d j (eI (-2)::[]) ?_ ?_
 exact op (fun Q U W H D=>zA2 Z)<|oz
 intro R w m n p d j
 have h2:=p.r 0 Z
 refine HT.ret ?_
 obtain rfl:=si c
 exact ⟨.inr Z,[R 2],⟨Z,N⟩,h2,j⟩
 have c:=zAN c10 c
 refine zQA ?_
 obtain ⟨e11,c⟩:=zA5 c
 refine zQB d j (eU p0::eU (IntKind.u8.wrap (p0-97))::eR (.pointer (some ⟨1,(IntKind.u8.wrap (p0-97)).toNat,none⟩))::eI (gtD sndL (IntKind.u8.wrap (p0-97)))::eI (gtD sndL (IntKind.u8.wrap (p0-97)))::[]) ?_ ?_
 exact om h0<|op (fun Q U W H D=>zJ1 (D.g 0 Z) Z)<|op (fun Q U W H D=>zGo (D.g 0 Z) underlying247 sizeOf3 e11)<|op (fun Q U W H D=>OpF.int (zAT ((hG0.fr (j.trans W)).sndAt e11 ((D.g 0 Z))) isAgg3 sizeOf3))<|oa<|oz
 intro R w m n p d j
 have h2:=p.r 4 Z
 refine HT.ret ?_
 obtain rfl:=si c
 exact ⟨.inr Z,[R 2],⟨Z,N⟩,h2,j⟩
def zBG (fu : Nat) (p0 : List UInt8) : Nat → Int → Int → (List Int) → Option (Ex (List UInt8) (List Int))
 | 0,_,_,_=>none
 | k+1,y14,y15,y16=>
 bif (decide (y15<(p0.length:Int))) then (
 ck (inR y15 p0.length) <|
 cl true (zCI fu (bAt p0 y15)) fun x19=>
 bif (x19==(-2)) then (
 some (Ex.ret ([]:List UInt8))
 ) else (
 bd ((y15==0) || (decide (x19<0))) fun x23=>
 bif x23 then (
 ck (i64B (y15+1)) <|
 zBG fu p0 k y14 (y15+1) y16
 ) else (
 bd ((decide (0<x19))&&(x19 != y14)) fun x27=>
 bif x27 then (
 ck (i64B (48+x19)) <|
 ck (zC2 (y16.length+([(IntKind.u8.wrap (48+x19))]:List Int).length)) <|
 ck (i64B (y15+1)) <|
 zBG fu p0 k x19 (y15+1) (y16++([(IntKind.u8.wrap (48+x19))]:List Int))
 ) else (
 ck (i64B (y15+1)) <|
 zBG fu p0 k x19 (y15+1) y16
 )
 )
 )
 ) else (
 some (Ex.go y16)
 )
def zDr (fu:Nat) (p0:List UInt8):Option (List UInt8):=
 bif (p0==([]:List UInt8)) then (
 some ([]:List UInt8)
 ) else (
 ck (subR 0 1 p0.length) <|
 cl true (zD3 fu (subL p0 0 1)) fun x4=>
 ck (zC2 x4.length) <|
 ck (inR 0 p0.length) <|
 cl true (zCI fu (bAt p0 0)) fun x9=>
 cl true (zBG fu p0 fu x9 0 (bytL x4)) fun rl11=>
 exM rl11 (fun r=>some r) fun s13=>
 ck (zC2 ((strB s13)++([48,48,48]:List UInt8)).length) <|
 ck (subR 0 4 ((strB s13)++([48,48,48]:List UInt8)).length) <|
 some (subL ((strB s13)++([48,48,48]:List UInt8)) 0 4)
 )
theorem zHZ {fu : Nat} {A0 : Av} {p0 : List UInt8} {r : List UInt8} (c : zDr fu p0 = some r) {w : World} {v0 : Value} (d : AvOK A0 w) (hG : GTab w) (h0 : Rep eStr A0 w v0 p0) :
 Calls prog 214 #[v0] w fun e w'=>∃ v,e = .returned v∧(Rep eStr A0 w' v r∧Fr w w'):=by
 unfold zDr at c
 obtain ⟨w0,hw0,j,C⟩:=pw d
 have hA00:AvOK A0 w0:=C
 rw [fw hw0]
 have hG0:GTab w0:=hw0 ▸ hG
 obtain ⟨A,hAe,B,d,q⟩:=pa d
 refine zA3 [.tmp 2] func214 ntmps214 (by decide) Z Z (nb Z) ?_
 intro R hR
 have f_v0:Rep eStr A w v0 p0:=hAe ▸ h0
 replace h0:R 0=v0:=hR 0 _ Z
 refine zQB d j (eF (.rep eStr A ([]:List UInt8))::[]) ?_ ?_
 exact op (fun Q U W H D=>zA2 ⟨_,Z,⟨_,Z,Z,by decide⟩⟩)<|oz
 intro R w m n p d j
 replace h0:=k1 n h0
 replace f_v0:=f_v0.fr m
 replace q:=q.fr m
 refine zQ9 ?_
 refine zQB d j (eR v0::eB (p0==([]:List UInt8))::[]) ?_ ?_
 exact om h0<|op (fun Q U W H D=>zBD ((f_v0.fr W).eq (D.g 0 Z)) ⟨_,Z,⟨_,Z,Z,by decide⟩⟩)<|oz
 intro R w m n p d j
 replace h0:=k1 n h0
 have h8:=p.r 1 Z
 replace f_v0:=f_v0.fr m
 replace q:=q.fr m
 refine zQ2 (p0==([]:List UInt8)) h8 (fun c1=>?_) (fun c1=>?_)
 have c:=zAO c1 c
 refine zQB d j (eF (.rep eStr A ([]:List UInt8))::[]) ?_ ?_
 exact op (fun Q U W H D=>zA2 ⟨_,Z,⟨_,Z,Z,by decide⟩⟩)<|oz
 intro R w m n p d j
 obtain ⟨u2,h2,f_u2⟩:∃ u,R 2=u∧Rep eStr A w u ([]:List UInt8):=⟨_,Z,p 0 _ _ Z Z Z⟩
 replace q:=q.fr m
 refine HT.ret ?_
 obtain rfl:=si c
 exact ⟨.inr Z,[R 2],⟨Z,N⟩,(f_u2.eq h2).down B,j⟩
 have c:=zAN c1 c
 refine zQA ?_
 obtain ⟨e3,c⟩:=zA5 c
 obtain ⟨x4,q5,c⟩:=zA4 c
 obtain ⟨e6,c⟩:=zA5 c
 refine zQC [] (rR v0::(rF fun A=>.rep eStr A (subL p0 0 1))::(rF fun A=>.rep eStr A x4)::⟨_,true,[],some (.vec w0.heap.size 5 (eInt .u8) (bytL x4)),true,fun A=>.any⟩::⟨_,true,[3],some (.vec w0.heap.size 5 (eInt .u8) (bytL x4)),true,fun A=>.any⟩::[]) (ur (up (up (ua (ua (UAll.nil)))))) q d ?_ ?_
 exact rm h0<|rp (fun V Q U O D=>zEC ((f_v0.stp O.stp).eq (D.g 0 Z)) Z underlying9  e3)<|rp (fun V Q U O D=>zA8 call247 (zFF (q5 Z) O.av (D.g 0 Z)))<|rc (OblR.made _ Z Z Z Z fun V Q U O D=>by have a0:Rep eStr V U (Q 11) x4:=D.g 0 Z;exact zIp a0 underlying9 underlying22 underlying5 Z e6 (Nat.le_trans j.size O.ch.size))<|rc (OblR.took 3 _ _ Z Z Z Z Z fun V Q U O D u X Y J L M=>by exact zAK (L _ _ Z Z Z Z).symm X Y)<|rz
 intro done ρ σ A R w y s
 replace h0:=k1 s.rg h0
 obtain ⟨u7,e_u7⟩:∃ u,ρ 4=u:=⟨_,Z⟩
 have h3:=s.ov y 4 4 e_u7
 replace f_v0:=f_v0.stp s.stp
 obtain ⟨B,j,d⟩:=s.s B C j q N
 replace q:=s.left y [(4,ob u7 (.vec w0.heap.size 5 (eInt .u8) (bytL x4)))] ⟨Z,Z,e_u7,Z,Z,N⟩
 obtain ⟨e8,c⟩:=zA5 c
 obtain ⟨x9,q10,c⟩:=zA4 c
 refine zQB d j (eR v0::eU (bAt p0 0)::eI x9::eI x9::[]) ?_ ?_
 exact om h0<|op (fun Q U W H D=>zAB ((f_v0.fr W).eq (D.g 0 Z)) Z underlying9 e8)<|op (fun Q U W H D=>zA8 call248 (zF9 (q10 Z) (d.fr W.size) (hG0.fr (j.trans W)) (D.g 0 Z)))<|oa<|oz
 intro R w m n p d j
 obtain ⟨h0,h3⟩:=k2 n h0 h3
 have h4:=p.r 3 Z
 replace f_v0:=f_v0.fr m
 replace q:=q.fr m
 refine zQ9 ?_
 refine zQB d j (eR v0::eI (p0.length:Int)::eI 0::[]) ?_ ?_
 exact om h0<|op (fun Q U W H D=>zAJ ((f_v0.fr W).eq (D.g 0 Z)) underlying9)<|op (fun Q U W H D=>zBk Z)<|oz
 intro R w m n p d j
 obtain ⟨h0,h3,h4⟩:=k3 n h0 h3 h4
 have h17:=p.r 1 Z
 have h18:=p.r 2 Z
 replace f_v0:=f_v0.fr m
 replace q:=q.fr m
 obtain ⟨rl11,q12,c⟩:=zA4 c
 replace q12:=q12 Z
 refine zQ4 (fun R w=>∃ A:Av,∃ (s13:(List Int)) (uo_u7:Value),rl11=Ex.go s13∧AvOK A w∧Fr w0 w∧(∀ b o,A0 b o→A b o)∧IniOK [ob uo_u7 (.vec w0.heap.size 5 (eInt .u8) s13)] A w∧R 3=uo_u7) ?_ ?_
 refine HT.block ?_
 refine zQ8 (fun k R w=>∃ A:Av,∃ (y14:Int) (y15:Int) (y16:List Int) (ul_u7:Value),zBG fu p0 k y14 y15 y16=some rl11∧AvOK A w∧Fr w0 w∧(∀ b o,A0 b o→A b o)∧IniOK [ob ul_u7 (.vec w0.heap.size 5 (eInt .u8) y16)] A w∧R 0=v0∧R 3=ul_u7∧R 4 = .int .i64 y14∧R 17 = .int .i64 (p0.length:Int)∧R 18 = .int .i64 y15∧Rep eStr A w v0 p0) fu ⟨_,_,_,_,u7,q12,d,j,B,q,h0,h3,h4,h17,h18,f_v0⟩ ?_
 have hr0:=c;clear c q12
 rintro k R w ⟨A,y14,y15,y16,ul_u7,c,d,j,B,q,h0,h3,h4,h17,h18,f_v0⟩
 rcases k with _ | k
 cases (show none=some _ from c)
 rw [zBG] at c
 refine zQB d j (eB (decide (y15<(p0.length:Int)))::[]) ?_ ?_
 exact op (fun Q U W H D=>zAu ((H 18 Z).trans h18) ((H 17 Z).trans h17))<|oz
 intro R w m n p d j
 obtain ⟨h0,h3,h4,h17,h18⟩:=k5 n h0 h3 h4 h17 h18
 have h19:=p.r 0 Z
 replace f_v0:=f_v0.fr m
 replace q:=q.fr m
 refine zQ9 ?_
 refine zQ2 (decide (y15<(p0.length:Int))) h19 (fun c17=>?_) (fun c17=>?_)
 have c:=zAO c17 c
 refine zQA ?_
 refine zQ9 ?_
 refine HT.block ?_
 refine zQB d j (eI y15::eI y15::[]) ?_ ?_
 exact om h18<|oa<|oz
 intro R w m n p d j
 obtain ⟨h0,h3,h4,h17,h18⟩:=k5 n h0 h3 h4 h17 h18
 have h5:=p.r 1 Z
 replace f_v0:=f_v0.fr m
 replace q:=q.fr m
 obtain ⟨e18,c⟩:=zA5 c
 obtain ⟨x19,q20,c⟩:=zA4 c
 refine zQB d j (eR v0::eI y15::eU (bAt p0 y15)::eI x19::eI x19::[]) ?_ ?_
 exact om h0<|om h5<|op (fun Q U W H D=>zAB ((f_v0.fr W).eq (D.g 0 Z)) (D.g 1 Z) underlying9 e18)<|op (fun Q U W H D=>zA8 call248 (zF9 (q20 Z) (d.fr W.size) (hG0.fr (j.trans W)) (D.g 0 Z)))<|oa<|oz
 intro R w m n p d j
 obtain ⟨h0,h3,h4,h5,h17,h18⟩:=k6 n h0 h3 h4 h5 h17 h18
 have h6:=p.r 4 Z
 replace f_v0:=f_v0.fr m
 replace q:=q.fr m
 refine zQ9 ?_
 refine zQB d j (eI x19::eB (x19==(-2))::[]) ?_ ?_
 exact om h6<|op (fun Q U W H D=>zAo (D.g 0 Z) Z)<|oz
 intro R w m n p d j
 obtain ⟨h0,h3,h4,h5,h6,h17⟩:=k6 n h0 h3 h4 h5 h6 h17
 replace h18:=k1 n h18
 have h26:=p.r 1 Z
 replace f_v0:=f_v0.fr m
 replace q:=q.fr m
 refine zQ2 (x19==(-2)) h26 (fun c21=>?_) (fun c21=>?_)
 have c:=zAO c21 c
 refine zQB d j (eF (.rep eStr A ([]:List UInt8))::[]) ?_ ?_
 exact op (fun Q U W H D=>zA2 ⟨_,Z,⟨_,Z,Z,by decide⟩⟩)<|oz
 intro R w m n p d j
 obtain ⟨u22,h2,f_u22⟩:∃ u,R 2=u∧Rep eStr A w u ([]:List UInt8):=⟨_,Z,p 0 _ _ Z Z Z⟩
 replace q:=q.fr m
 replace q:IniOK [] A w:=q.sub [] N
 refine HT.ret ?_
 obtain rfl:=si c
 have c:=hr0
 replace c:some _=some _:=c
 obtain rfl:=si c
 exact ⟨.inr Z,[R 2],⟨Z,N⟩,(f_u22.eq h2).down B,j⟩
 have c:=zAN c21 c
 refine zQA ?_
 refine zQ9 ?_
 refine zQ9 ?_
 obtain ⟨x23,q24,c⟩:=zAD c
 refine HT.u d j (eI y15::eB (y15==0)::eB (y15==0)::gI (true&&((y15==0)==false)) x19::gB (true&&((y15==0)==false)) (decide (x19<0))::eB x23::[]) ?_ ?_
 exact om h5<|op (fun Q U W H D=>zAo (D.g 0 Z) Z)<|ov<|gm 2 false h6<|og 2 false (fun G Q U W H D=>zAu (D.h 0 G Z) Z)<|op (fun Q U W H D=>zAF (y15==0) (D.g 0 Z) (fun hc=>by show _=Value.bool x23;rw [q24,hc];exact Z) (fun hc=>by have a2:Q 31 = .bool (decide (x19<0)):=D 1 _ _ _ Z Z Z Z (zAc Z (zAP hc));show _=Value.bool x23;rw [q24,hc];exact a2))<|oz
 intro R w m n p d j
 obtain ⟨h0,h3,h4,h6,h17,h18⟩:=k6 n h0 h3 h4 h6 h17 h18
 have h32:=p.r 5 Z
 replace f_v0:=f_v0.fr m
 replace q:=q.fr m
 refine zQ2 x23 h32 (fun c25=>?_) (fun c25=>?_)
 have c:=zAO c25 c
 refine zQ7 ?_
 obtain ⟨e26,c⟩:=zA5 c
 refine HT.u d j (eI (y15+1)::eI (y15+1)::[]) ?_ ?_
 exact op (fun Q U W H D=>zAR ((H 18 Z).trans h18) Z e26)<|ov<|oz
 intro R w m n p d j
 obtain ⟨h0,h3,h4,h17⟩:=k4 n h0 h3 h4 h17
 have h18:=p.r 1 Z
 replace f_v0:=f_v0.fr m
 replace q:=q.fr m
 exact ei k (And.intro (Nat.lt_succ_self k) ⟨_,_,_,_,ul_u7,c,d,j,B,q,h0,h3,h4,h17,h18,f_v0⟩)
 have c:=zAN c25 c
 refine zQA ?_
 refine zQ9 ?_
 refine zQ9 ?_
 obtain ⟨x27,q28,c⟩:=zAD c
 refine HT.u d j (eI x19::eB (decide (0<x19))::eB (decide (0<x19))::gI (true&&((decide (0<x19))==true)) x19::gI (true&&((decide (0<x19))==true)) y14::gB (true&&((decide (0<x19))==true)) (x19 != y14)::eB x27::[]) ?_ ?_
 exact om h6<|op (fun Q U W H D=>zCM (D.g 0 Z) Z)<|ov<|gm 2 true h6<|gm 2 true h4<|og 2 true (fun G Q U W H D=>zFq (D.h 0 G Z) (D.h 1 G Z))<|op (fun Q U W H D=>zAF (decide (0<x19)) (D.g 0 Z) (fun hc=>by have a1:Q 38 = .bool (x19 != y14):=D 1 _ _ _ Z Z Z Z (zAc Z (zAP hc));show _=Value.bool x27;rw [q28,hc];exact a1) (fun hc=>by show _=Value.bool x27;rw [q28,hc];exact Z))<|oz
 intro R w m n p d j
 obtain ⟨h0,h3,h6,h17,h18⟩:=k5 n h0 h3 h6 h17 h18
 have h39:=p.r 6 Z
 replace f_v0:=f_v0.fr m
 replace q:=q.fr m
 refine zQ2 x27 h39 (fun c29=>?_) (fun c29=>?_)
 have c:=zAO c29 c
 obtain ⟨e30,e31,c⟩:=ck2 c
 refine zQF [ob ul_u7 (.vec w0.heap.size 5 (eInt .u8) y16)] (rR ul_u7::rI x19::rI (48+x19)::rU (IntKind.u8.wrap (48+x19))::(rF fun A=>.rep (eSl (eInt .u8)) A ([(IntKind.u8.wrap (48+x19))]:List Int))::⟨_,true,[0],some (.vec w0.heap.size 5 (eInt .u8) (y16++([(IntKind.u8.wrap (48+x19))]:List Int))),true,fun A=>.any⟩::⟨_,true,[6],some (.vec w0.heap.size 5 (eInt .u8) (y16++([(IntKind.u8.wrap (48+x19))]:List Int))),true,fun A=>.any⟩::[]) (ur (ur (ur (ur (up (ua (ua (UAll.nil)))))))) q d ?_ ?_
 exact rm h3<|rm h6<|rp (fun V Q U O D=>zAR Z (D.g 0 Z) e30)<|rp (fun V Q U O D=>zDN (D.g 0 Z) underlying3 underlying5)<|rp (fun V Q U O D=>zB6 [_] (E:=eInt .u8) ⟨(zAa.eq (D.g 0 Z)),N⟩ underlying22 sizeOf5 zeroValue5 Z Z Z O.av)<|rc (OblR.took 0 _ _ Z Z Z Z Z fun V Q U O D u X Y J L M=>by have a0:Q 40=ul_u7:=D.g 0 Z;have a1:Rep (eSl (eInt .u8)) V U (Q 44) ([(IntKind.u8.wrap (48+x19))]:List Int):=D.g 1 Z;exact zAx (a0.trans (J _ Z).symm) X Y (Nat.le_trans j.size O.ch.size) a1 underlying22 el_5 e31)<|rc (OblR.took 6 _ _ Z Z Z Z Z fun V Q U O D u X Y J L M=>by exact zAK (L _ _ Z Z Z Z).symm X Y)<|rz
 intro done ρ σ A R w y s
 obtain ⟨h0,h6,h17,h18⟩:=k4 s.rg h0 h6 h17 h18
 obtain ⟨u32,e_u32⟩:∃ u,ρ 7=u:=⟨_,Z⟩
 have h3:=s.ov y 7 6 e_u32
 replace f_v0:=f_v0.stp s.stp
 obtain ⟨B,j,d⟩:=s.s B C j q ⟨Z,N⟩
 replace q:=s.left y [(7,ob u32 (.vec w0.heap.size 5 (eInt .u8) (y16++([(IntKind.u8.wrap (48+x19))]:List Int))))] ⟨Z,Z,e_u32,Z,Z,N⟩
 refine HT.u d j (eI x19::eI x19::[]) ?_ ?_
 exact om h6<|oa<|oz
 intro R w m n p d j
 obtain ⟨h0,h3,h17,h18⟩:=k4 n h0 h3 h17 h18
 have h4:=p.r 1 Z
 replace f_v0:=f_v0.fr m
 replace q:=q.fr m
 obtain ⟨e33,c⟩:=zA5 c
 refine HT.u d j (eI (y15+1)::eI (y15+1)::[]) ?_ ?_
 exact op (fun Q U W H D=>zAR ((H 18 Z).trans h18) Z e33)<|ov<|oz
 intro R w m n p d j
 obtain ⟨h0,h3,h4,h17⟩:=k4 n h0 h3 h4 h17
 have h18:=p.r 1 Z
 replace f_v0:=f_v0.fr m
 replace q:=q.fr m
 exact ei k (And.intro (Nat.lt_succ_self k) ⟨_,_,_,_,u32,c,d,j,B,q,h0,h3,h4,h17,h18,f_v0⟩)
 have c:=zAN c29 c
 refine zQA ?_
 refine HT.u d j (eI x19::eI x19::[]) ?_ ?_
 exact om h6<|oa<|oz
 intro R w m n p d j
 obtain ⟨h0,h3,h17,h18⟩:=k4 n h0 h3 h17 h18
 have h4:=p.r 1 Z
 replace f_v0:=f_v0.fr m
 replace q:=q.fr m
 obtain ⟨e34,c⟩:=zA5 c
 refine HT.u d j (eI (y15+1)::eI (y15+1)::[]) ?_ ?_
 exact op (fun Q U W H D=>zAR ((H 18 Z).trans h18) Z e34)<|ov<|oz
 intro R w m n p d j
 obtain ⟨h0,h3,h4,h17⟩:=k4 n h0 h3 h4 h17
 have h18:=p.r 1 Z
 replace f_v0:=f_v0.fr m
 replace q:=q.fr m
 exact ei k (And.intro (Nat.lt_succ_self k) ⟨_,_,_,_,ul_u7,c,d,j,B,q,h0,h3,h4,h17,h18,f_v0⟩)
 have c:=zAN c17 c
 refine zQ7 ?_
 obtain rfl:=si c
 exact ei _ ⟨_,ul_u7,Z,d,j,B,q,h3⟩
 rintro R w ⟨A,s13,uo_u7,rfl,d,j,B,q,h3⟩
 have c:=zF6 c
 obtain ⟨e35,e36,c⟩:=ck2 c
 refine zQB d j (eR uo_u7::eF (.rep eStr A (strB s13))::eF (.rep eStr A ((strB s13)++([48,48,48]:List UInt8)))::eF (.rep eStr A (subL ((strB s13)++([48,48,48]:List UInt8)) 0 4))::eF (.rep eStr A (subL ((strB s13)++([48,48,48]:List UInt8)) 0 4))::[]) ?_ ?_
 exact om h3<|op (fun Q U W H D=>zBa ((zD2 ((q.fr W).ok 0 _ Z).1 B C).eq (D.g 0 Z)) underlying22 underlying5 underlying9)<|op (fun Q U W H D=>zFy (D.g 0 Z) ⟨_,Z,⟨_,Z,Z,by decide⟩⟩ e35)<|op (fun Q U W H D=>zEC (D.g 0 Z) Z underlying9  e36)<|op (fun Q U W H D=>zA2 (D.g 0 Z))<|oz
 intro R w m n p d j
 obtain ⟨u37,h2,f_u37⟩:∃ u,R 2=u∧Rep eStr A w u (subL ((strB s13)++([48,48,48]:List UInt8)) 0 4):=⟨_,Z,p 4 _ _ Z Z Z⟩
 replace q:=q.fr m
 replace q:IniOK [] A w:=q.sub [] N
 refine HT.ret ?_
 obtain rfl:=si c
 exact ⟨.inr Z,[R 2],⟨Z,N⟩,(f_u37.eq h2).down B,j⟩
def zBP (fu : Nat) (x2 : List (List UInt8)) : Nat → Int → (List (List UInt8)) → Option (List (List UInt8))
 | 0,_,_=>none
 | k+1,y8,y9=>
 bif (decide (y8<(x2.length:Int))) then (
 ck (inR y8 x2.length) <|
 cl true (zDr fu (gtD x2 y8)) fun x13=>
 bif (!(x13==([]:List UInt8))) then (
 ck (zC2 (y9.length+([x13]:List (List UInt8)).length)) <|
 ck (i64B (y8+1)) <|
 zBP fu x2 k (y8+1) (y9++([x13]:List (List UInt8)))
 ) else (
 ck (i64B (y8+1)) <|
 zBP fu x2 k (y8+1) y9
 )
 ) else (
 some y9
 )
def zCC (fu:Nat) (p0:List UInt8):Option (List (List UInt8)):=
 cl true (zCl fu p0) fun x2=>
 cl true (zBP fu x2 fu 0 ([]:List (List UInt8))) fun s7=>
 cl true (zCh fu s7) fun x21=>
 some x21
theorem zH4 {fu : Nat} {A0 : Av} {p0 : List UInt8} {r : List (List UInt8)} (c : zCC fu p0 = some r) {w : World} {v0 : Value} (d : AvOK A0 w) (hG : GTab w) (h0 : Rep eStr A0 w v0 p0) :
 Calls prog 164 #[v0] w fun e w'=>∃ v,e = .returned v∧((Res.vec w.heap.size 9 eStr r).ok (addA A0 v) v w'∧Fr w w'):=by
 unfold zCC at c
 obtain ⟨w0,hw0,j,C⟩:=pw d
 have hA00:AvOK A0 w0:=C
 rw [fh hw0]
 rw [fw hw0]
 have hG0:GTab w0:=hw0 ▸ hG
 obtain ⟨A,hAe,B,d,q⟩:=pa d
 refine zA3 [.tmp 2] func164 ntmps164 (by decide) Z Z (nb Z) ?_
 intro R hR
 have f_v0:Rep eStr A w v0 p0:=hAe ▸ h0
 replace h0:R 0=v0:=hR 0 _ Z
 refine zQB d j (eA::[]) ?_ ?_
 exact op (fun Q U W H D=>zA2 N)<|oz
 intro R w m n p d j
 replace h0:=k1 n h0
 replace f_v0:=f_v0.fr m
 replace q:=q.fr m
 refine zQB d j (eR (.slice none 0 0)::[]) ?_ ?_
 exact op (fun Q U W H D=>zA2 Z)<|oz
 intro R w m n p d j
 replace h0:=k1 n h0
 obtain ⟨u1,n_u1⟩:∃ u,u=Value.slice none 0 0:=⟨_,Z⟩
 have h3:R 3=u1:=(p 0 _ _ Z Z Z).trans n_u1.symm
 replace f_v0:=f_v0.fr m
 replace q:=q.fr m
 replace q:=q.nilcons (u:=u1) n_u1 w0.heap.size 9 eStr
 refine zQ9 ?_
 obtain ⟨x2,q3,c⟩:=zA4 c
 refine zQB d j (eR v0::eF (.rep (eSl eStr) A x2)::eI (x2.length:Int)::eI 0::[]) ?_ ?_
 exact om h0<|op (fun Q U W H D=>zA8 call167 (zEW (q3 Z) (d.fr W.size) (hG0.fr (j.trans W)) ((f_v0.fr W).eq (D.g 0 Z))))<|op (fun Q U W H D=>zAe (aT:=#[]) (D.g 0 Z) underlying46)<|op (fun Q U W H D=>zBk Z)<|oz
 intro R w m n p d j
 replace h3:=k1 n h3
 obtain ⟨u4,h8,f_u4⟩:∃ u,R 8=u∧Rep (eSl eStr) A w u x2:=⟨_,Z,p 1 _ _ Z Z Z⟩
 have h9:=p.r 2 Z
 have h10:=p.r 3 Z
 replace q:=q.fr m
 obtain ⟨rl5,q6,c⟩:=zA4 c
 replace q6:=q6 Z
 refine zQ4 (fun R w=>∃ A:Av,∃ (s7:(List (List UInt8))) (uo_u1:Value),rl5=s7∧AvOK A w∧Fr w0 w∧(∀ b o,A0 b o→A b o)∧IniOK [ob uo_u1 (.vec w0.heap.size 9 eStr s7)] A w∧R 3=uo_u1) ?_ ?_
 refine HT.block ?_
 refine zQ8 (fun k R w=>∃ A:Av,∃ (y8:Int) (y9:List (List UInt8)) (ul_u1:Value),zBP fu x2 k y8 y9=some rl5∧AvOK A w∧Fr w0 w∧(∀ b o,A0 b o→A b o)∧IniOK [ob ul_u1 (.vec w0.heap.size 9 eStr y9)] A w∧R 3=ul_u1∧R 8=u4∧R 9 = .int .i64 (x2.length:Int)∧R 10 = .int .i64 y8∧Rep (eSl eStr) A w u4 x2) fu ⟨_,_,_,u1,q6,d,j,B,q,h3,h8,h9,h10,f_u4⟩ ?_
 have hr0:=c;clear c q6
 rintro k R w ⟨A,y8,y9,ul_u1,c,d,j,B,q,h3,h8,h9,h10,f_u4⟩
 rcases k with _ | k
 cases (show none=some _ from c)
 rw [zBP] at c
 refine zQB d j (eB (decide (y8<(x2.length:Int)))::[]) ?_ ?_
 exact op (fun Q U W H D=>zAu ((H 10 Z).trans h10) ((H 9 Z).trans h9))<|oz
 intro R w m n p d j
 obtain ⟨h3,h8,h9,h10⟩:=k4 n h3 h8 h9 h10
 have h11:=p.r 0 Z
 replace f_u4:=f_u4.fr m
 replace q:=q.fr m
 refine zQ9 ?_
 refine zQ2 (decide (y8<(x2.length:Int))) h11 (fun c10=>?_) (fun c10=>?_)
 have c:=zAO c10 c
 refine zQA ?_
 refine zQ9 ?_
 refine HT.block ?_
 obtain ⟨e11,c⟩:=zA5 c
 refine zQB d j (eF (.qtr eStr A (gtD x2 y8))::eF (.rep eStr A (gtD x2 y8))::eF (.rep eStr A (gtD x2 y8))::[]) ?_ ?_
 exact op (fun Q U W H D=>zA7 ((f_u4.fr W).eq ((H 8 Z).trans h8)) ((H 10 Z).trans h10) underlying46 sizeOf9 e11)<|op (fun Q U W H D=>(zAT (QRep.ptr (D.g 0 Z)) isAgg9 sizeOf9))<|op (fun Q U W H D=>zA2 (D.g 0 Z))<|oz
 intro R w m n p d j
 obtain ⟨h3,h8,h9,h10⟩:=k4 n h3 h8 h9 h10
 obtain ⟨u12,h5,f_u12⟩:∃ u,R 5=u∧Rep eStr A w u (gtD x2 y8):=⟨_,Z,p 2 _ _ Z Z Z⟩
 replace f_u4:=f_u4.fr m
 replace q:=q.fr m
 obtain ⟨x13,q14,c⟩:=zA4 c
 refine zQB d j (eR u12::eF (.rep eStr A x13)::eF (.rep eStr A x13)::[]) ?_ ?_
 exact om h5<|op (fun Q U W H D=>zA8 call214 (zHZ (q14 Z) (d.fr W.size) (hG0.fr (j.trans W)) ((f_u12.fr W).eq (D.g 0 Z))))<|op (fun Q U W H D=>zA2 (D.g 0 Z))<|oz
 intro R w m n p d j
 obtain ⟨h3,h8,h9,h10⟩:=k4 n h3 h8 h9 h10
 obtain ⟨u15,h6,f_u15⟩:∃ u,R 6=u∧Rep eStr A w u x13:=⟨_,Z,p 2 _ _ Z Z Z⟩
 replace f_u4:=f_u4.fr m
 replace q:=q.fr m
 refine zQB d j (eR u15::eB (!(x13==([]:List UInt8)))::[]) ?_ ?_
 exact om h6<|op (fun Q U W H D=>zFk ((f_u15.fr W).eq (D.g 0 Z)) ⟨_,Z,⟨_,Z,Z,by decide⟩⟩)<|oz
 intro R w m n p d j
 obtain ⟨h3,h6,h8,h9,h10⟩:=k5 n h3 h6 h8 h9 h10
 have h17:=p.r 1 Z
 replace f_u15:=f_u15.fr m
 replace f_u4:=f_u4.fr m
 replace q:=q.fr m
 refine zQ2 (!(x13==([]:List UInt8))) h17 (fun c16=>?_) (fun c16=>?_)
 have c:=zAO c16 c
 obtain ⟨e17,c⟩:=zA5 c
 refine zQF [ob ul_u1 (.vec w0.heap.size 9 eStr y9)] (rR ul_u1::rR u15::(rF fun A=>.rep (eSl eStr) A ([x13]:List (List UInt8)))::⟨_,true,[0],some (.vec w0.heap.size 9 eStr (y9++([x13]:List (List UInt8)))),true,fun A=>.any⟩::⟨_,true,[4],some (.vec w0.heap.size 9 eStr (y9++([x13]:List (List UInt8)))),true,fun A=>.any⟩::[]) (ur (ur (up (ua (ua (UAll.nil)))))) q d ?_ ?_
 exact rm h3<|rm h6<|rp (fun V Q U O D=>zB6 [_] (E:=eStr) ⟨((f_u15.stp O.stp).eq (D.g 0 Z)),N⟩ underlying46 sizeOf9 zeroValue9 Z Z Z O.av)<|rc (OblR.took 0 _ _ Z Z Z Z Z fun V Q U O D u X Y J L M=>by have a0:Q 18=ul_u1:=D.g 0 Z;have a1:Rep (eSl eStr) V U (Q 20) ([x13]:List (List UInt8)):=D.g 1 Z;exact zAx (a0.trans (J _ Z).symm) X Y (Nat.le_trans j.size O.ch.size) a1 underlying46 el_9 e17)<|rc (OblR.took 4 _ _ Z Z Z Z Z fun V Q U O D u X Y J L M=>by exact zAK (L _ _ Z Z Z Z).symm X Y)<|rz
 intro done ρ σ A R w y s
 obtain ⟨h8,h9,h10⟩:=k3 s.rg h8 h9 h10
 obtain ⟨u18,e_u18⟩:∃ u,ρ 5=u:=⟨_,Z⟩
 have h3:=s.ov y 5 4 e_u18
 replace f_u4:=f_u4.stp s.stp
 obtain ⟨B,j,d⟩:=s.s B C j q ⟨Z,N⟩
 replace q:=s.left y [(5,ob u18 (.vec w0.heap.size 9 eStr (y9++([x13]:List (List UInt8)))))] ⟨Z,Z,e_u18,Z,Z,N⟩
 obtain ⟨e19,c⟩:=zA5 c
 refine HT.u d j (eI (y8+1)::eI (y8+1)::[]) ?_ ?_
 exact op (fun Q U W H D=>zAR ((H 10 Z).trans h10) Z e19)<|ov<|oz
 intro R w m n p d j
 obtain ⟨h3,h8,h9⟩:=k3 n h3 h8 h9
 have h10:=p.r 1 Z
 replace f_u4:=f_u4.fr m
 replace q:=q.fr m
 exact ei k (And.intro (Nat.lt_succ_self k) ⟨_,_,_,u18,c,d,j,B,q,h3,h8,h9,h10,f_u4⟩)
 have c:=zAN c16 c
 refine zQA ?_
 obtain ⟨e20,c⟩:=zA5 c
 refine HT.u d j (eI (y8+1)::eI (y8+1)::[]) ?_ ?_
 exact op (fun Q U W H D=>zAR ((H 10 Z).trans h10) Z e20)<|ov<|oz
 intro R w m n p d j
 obtain ⟨h3,h8,h9⟩:=k3 n h3 h8 h9
 have h10:=p.r 1 Z
 replace f_u4:=f_u4.fr m
 replace q:=q.fr m
 exact ei k (And.intro (Nat.lt_succ_self k) ⟨_,_,_,ul_u1,c,d,j,B,q,h3,h8,h9,h10,f_u4⟩)
 have c:=zAN c10 c
 refine zQ7 ?_
 obtain rfl:=si c
 exact ei _ ⟨_,ul_u1,Z,d,j,B,q,h3⟩
 rintro R w ⟨A,s7,uo_u1,es,d,j,B,q,h3⟩
 obtain rfl:=es.symm
 obtain ⟨x21,q22,c⟩:=zA4 c
 refine zQC [ob uo_u1 (.vec w0.heap.size 9 eStr s7)] (rR uo_u1::⟨_,true,[],some (.vec w0.heap.size 9 eStr x21),true,fun A=>.any⟩::⟨_,true,[2],some (.vec w0.heap.size 9 eStr x21),true,fun A=>.any⟩::[]) (ur (ua (ua (UAll.nil)))) q d ?_ ?_
 exact rm h3<|rc (OblR.made _ Z Z Z Z fun V Q U O D=>by have a0:Q 23=uo_u1:=D.g 0 Z;have ra0:=(zD2 (O.rd 0 _ Z Z) (O.low' B C (q.ge (⟨Z,N⟩))) C).eq a0;exact zLf call122 (zF3 (q22 Z) (hA00.fr ((Nat.le_trans j.size O.ch.size))) ra0) (Nat.le_trans j.size O.ch.size) (O.low' B C (q.ge (⟨Z,N⟩))) (fun _ _ _ _ _ h=>h))<|rc (OblR.took 2 _ _ Z Z Z Z Z fun V Q U O D u X Y J L M=>by exact zAK (L _ _ Z Z Z Z).symm X Y)<|rz
 intro done ρ σ A R w y s
 have z23:=s.inivR 0 Z
 obtain ⟨u24,e_u24⟩:∃ u,ρ 3=u:=⟨_,Z⟩
 have h2:=s.ov y 3 2 e_u24
 obtain ⟨B,j,d⟩:=s.s B C j q ⟨Z,N⟩
 replace q:=s.left y [(3,ob u24 (.vec w0.heap.size 9 eStr x21))] ⟨Z,Z,e_u24,Z,Z,N⟩
 refine HT.ret ?_
 obtain rfl:=si c
 exact ⟨.inr Z,[R 2],⟨Z,N⟩,(zCj (q.ok 0 _ Z) B h2),j⟩
theorem zEo {fu : Nat} {A0 : Av} {p0 : List UInt8} {r : List (List UInt8)} (c : zCC fu p0 = some r) {w : World} {v0 : Value} (d : AvOK A0 w) (hG : GTab w) (h0 : Rep eStr A0 w v0 p0) :
 Calls prog 164 #[v0] w fun e w'=>∃ v,e = .returned v∧(Rep (eSl eStr) A0 w' v r∧Fr w w'):=by
 refine Calls.mono (zH4 c d hG h0) ?_
 rintro e w' ⟨v,he,hv,hf⟩
 exact ⟨v,he,zD2 hv (fun b o h=>.inl h) d,hf⟩
def zCg (fu:Nat) (p0:Int):Option (List UInt8):=
 cl true (zMj fu p0) fun x1=>
 some x1
theorem zGx {fu : Nat} {A : Av} {p0 : Int} {r : List UInt8} (c : zCg fu p0 = some r) {w : World} {v0 : Value} (d : AvOK A w) (hG : GTab w) (h0 : v0 = .int .i64 p0) :
 Calls prog 86 #[v0] w fun e w'=>∃ v,e = .returned v∧(Rep eStr A w' v r∧Fr w w'):=by
 unfold zCg at c
 obtain ⟨w0,hw0,j⟩:=pf w
 rw [fw hw0]
 have hG0:GTab w0:=hw0 ▸ hG
 refine zA3 [.tmp 2] func86 ntmps86 (by decide) Z Z (nb Z) ?_
 intro R hR
 replace h0:R 0 = .int .i64 p0:=(hR 0 _ Z).trans h0
 refine zQB d j (eF (.rep eStr A ([]:List UInt8))::[]) ?_ ?_
 exact op (fun Q U W H D=>zA2 ⟨_,Z,⟨_,Z,Z,by decide⟩⟩)<|oz
 intro R w m n p d j
 replace h0:=k1 n h0
 obtain ⟨x1,q2,c⟩:=zA4 c
 refine zQB d j (eI p0::eF (.rep eStr A x1)::eF (.rep eStr A x1)::[]) ?_ ?_
 exact om h0<|op (fun Q U W H D=>zA8 call155 (zMe (q2 Z) (d.fr W.size) (hG0.fr (j.trans W)) (D.g 0 Z)))<|op (fun Q U W H D=>zA2 (D.g 0 Z))<|oz
 intro R w m n p d j
 obtain ⟨u3,h2,f_u3⟩:∃ u,R 2=u∧Rep eStr A w u x1:=⟨_,Z,p 2 _ _ Z Z Z⟩
 refine HT.ret ?_
 obtain rfl:=si c
 exact ⟨.inr Z,[R 2],⟨Z,N⟩,(f_u3.eq h2),j⟩
def zDM (fu:Nat) (p0:List UInt8):Option (Int × Bool):=
 cl true (zMO fu p0) fun x1=>
 cl (true&&(x1.2==false)) (zCg fu x1.1) fun x4=>
 bd (x1.2 || (!(x4==p0))) fun x6=>
 cl (true&&(x6==false)) (zBB fu x1.1 (-999999999) 999999999) fun x8=>
 bd (x6 || (!x8)) fun x10=>
 bif x10 then (
 some (0,false)
 ) else (
 some (x1.1,true)
 )
theorem zHM {fu : Nat} {A : Av} {p0 : List UInt8} {r : Int × Bool} (c : zDM fu p0 = some r) {w : World} {v0 : Value} (d : AvOK A w) (hG : GTab w) (h0 : Rep eStr A w v0 p0) :
 Calls prog 216 #[v0] w fun e w'=>∃ v,e = .returned v∧((∃ a b,v = .tuple #[a,b]∧a = .int .i64 r.1∧b = .bool r.2)∧Fr w w'):=by
 unfold zDM at c
 obtain ⟨w0,hw0,j⟩:=pf w
 rw [fw hw0]
 have hG0:GTab w0:=hw0 ▸ hG
 refine zA3 [.tmp 2,.tmp 3] func216 ntmps216 (by decide) Z Z (nb Z) ?_
 intro R hR
 have f_v0:=h0
 replace h0:R 0=v0:=hR 0 _ Z
 refine zQB d j (eI 0::eB false::[]) ?_ ?_
 exact op (fun Q U W H D=>zA2 Z)<|op (fun Q U W H D=>zA2 Z)<|oz
 intro R w m n p d j
 replace h0:=k1 n h0
 replace f_v0:=f_v0.fr m
 obtain ⟨x1,q2,c⟩:=zA4 c
 refine zQB d j (eR v0::eF (.tup2 (.raw (.int .i64 x1.1)) (.rep eErr A x1.2))::eF (.tup2 (.raw (.int .i64 x1.1)) (.rep eErr A x1.2))::eI x1.1::eF (.rep eErr A x1.2)::eI x1.1::eF (.rep eErr A x1.2)::[]) ?_ ?_
 exact om h0<|op (fun Q U W H D=>zA8 call249 (zLx (q2 Z) (d.fr W.size) (hG0.fr (j.trans W)) ((f_v0.fr W).eq (D.g 0 Z))))<|op (fun Q U W H D=>zBk (D.g 0 Z))<|op (fun Q U W H D=>zEG (D.g 0 Z))<|op (fun Q U W H D=>zEF (D.g 0 Z))<|oa<|op (fun Q U W H D=>zA2 (D.g 0 Z))<|oz
 intro R w m n p d j
 replace h0:=k1 n h0
 have h4:=p.r 5 Z
 obtain ⟨u3,h5,f_u3⟩:∃ u,R 5=u∧Rep eErr A w u x1.2:=⟨_,Z,p 6 _ _ Z Z Z⟩
 replace f_v0:=f_v0.fr m
 refine zQ9 ?_
 refine zQ9 ?_
 obtain ⟨x4,q5,c⟩:=zA4 c
 obtain ⟨x6,q7,c⟩:=zAD c
 obtain ⟨x8,q9,c⟩:=zA4 c
 obtain ⟨x10,q11,c⟩:=zAD c
 refine HT.u d j (eR u3::eB x1.2::eB x1.2::gI (true&&(x1.2==false)) x1.1::gF (true&&(x1.2==false)) (.rep eStr A x4)::gR (true&&(x1.2==false)) v0::gB (true&&(x1.2==false)) (!(x4==p0))::eB x6::eB x6::gI (true&&(x6==false)) x1.1::gB (true&&(x6==false)) x8::gB (true&&(x6==false)) (!x8)::eB x10::[]) ?_ ?_
 exact om h5<|op (fun Q U W H D=>zLk ((f_u3.fr W).eq (D.g 0 Z)) (by kernel_rfl))<|ov<|gm 2 false h4<|og 2 false (fun G Q U W H D=>zA8 call86 (zGx (q5 G) (d.fr W.size) (hG0.fr (j.trans W)) (D.h 0 G Z)))<|gm 2 false h0<|og 2 false (fun G Q U W H D=>zFk (D.h 0 G Z) ((f_v0.fr W).eq (D.h 1 G Z)))<|op (fun Q U W H D=>zAF x1.2 (D.g 0 Z) (fun hc=>by show _=Value.bool x6;rw [q7,hc];exact Z) (fun hc=>by have a2:Q 17 = .bool (!(x4==p0)):=D 1 _ _ _ Z Z Z Z (zAc Z (zAP hc));show _=Value.bool x6;rw [q7,hc];exact a2))<|ov<|gm 8 false h4<|og 8 false (fun G Q U W H D=>zA8 call94 (zBQ (q9 G) (d.fr W.size) (D.h 0 G Z) Z Z))<|og 8 false (fun G Q U W H D=>zBq (D.h 0 G Z))<|op (fun Q U W H D=>zAF x6 (D.g 0 Z) (fun hc=>by show _=Value.bool x10;rw [q11,hc];exact Z) (fun hc=>by have a2:Q 22 = .bool (!x8):=D 1 _ _ _ Z Z Z Z (zAc Z (zAP hc));show _=Value.bool x10;rw [q11,hc];exact a2))<|oz
 intro R w m n p d j
 replace h4:=k1 n h4
 have h23:=p.r 12 Z
 refine zQ2 x10 h23 (fun c12=>?_) (fun c12=>?_)
 have c:=zAO c12 c
 refine zQB d j (eI 0::eB false::[]) ?_ ?_
 exact op (fun Q U W H D=>zA2 Z)<|op (fun Q U W H D=>zA2 Z)<|oz
 intro R w m n p d j
 have h2:=p.r 0 Z
 have h3:=p.r 1 Z
 refine HT.ret ?_
 obtain rfl:=si c
 exact ⟨.inr Z,[R 2,R 3],⟨Z,⟨Z,N⟩⟩,⟨_,_,Z,h2,h3⟩,j⟩
 have c:=zAN c12 c
 refine zQA ?_
 refine zQB d j (eI x1.1::eI x1.1::eB true::[]) ?_ ?_
 exact om h4<|oa<|op (fun Q U W H D=>zA2 Z)<|oz
 intro R w m n p d j
 have h2:=p.r 1 Z
 have h3:=p.r 2 Z
 refine HT.ret ?_
 obtain rfl:=si c
 exact ⟨.inr Z,[R 2,R 3],⟨Z,⟨Z,N⟩⟩,⟨_,_,Z,h2,h3⟩,j⟩
def zBZ (fu:Nat) (p0:List UInt8):Option Int:=
 cl true (zDM fu p0) fun x1=>
 cl (true&&(x1.2==true)) (zBB fu x1.1 1000 9999) fun x3=>
 bd (x1.2&&x3) fun x5=>
 bif x5 then (
 some x1.1
 ) else (
 some 0
 )
theorem zEx {fu : Nat} {A : Av} {p0 : List UInt8} {r : Int} (c : zBZ fu p0 = some r) {w : World} {v0 : Value} (d : AvOK A w) (hG : GTab w) (h0 : Rep eStr A w v0 p0) :
 Calls prog 166 #[v0] w fun e w'=>∃ v,e = .returned v∧(v = .int .i64 r∧Fr w w'):=by
 unfold zBZ at c
 obtain ⟨w0,hw0,j⟩:=pf w
 rw [fw hw0]
 have hG0:GTab w0:=hw0 ▸ hG
 refine zA3 [.tmp 2] func166 ntmps166 (by decide) Z Z (nb Z) ?_
 intro R hR
 have f_v0:=h0
 replace h0:R 0=v0:=hR 0 _ Z
 refine zQB d j (eI 0::[]) ?_ ?_
 exact op (fun Q U W H D=>zA2 Z)<|oz
 intro R w m n p d j
 replace h0:=k1 n h0
 replace f_v0:=f_v0.fr m
 refine zQ9 ?_
 obtain ⟨x1,q2,c⟩:=zA4 c
 refine zQB d j (eR v0::eF (.tup2 (.raw (.int .i64 x1.1)) (.raw (.bool x1.2)))::eF (.tup2 (.raw (.int .i64 x1.1)) (.raw (.bool x1.2)))::eI x1.1::eB x1.2::eI x1.1::eB x1.2::[]) ?_ ?_
 exact om h0<|op (fun Q U W H D=>zA8 call216 (zHM (q2 Z) (d.fr W.size) (hG0.fr (j.trans W)) ((f_v0.fr W).eq (D.g 0 Z))))<|op (fun Q U W H D=>zBk (D.g 0 Z))<|op (fun Q U W H D=>zEG (D.g 0 Z))<|op (fun Q U W H D=>zEF (D.g 0 Z))<|oa<|oa<|oz
 intro R w m n p d j
 have h3:=p.r 5 Z
 have h4:=p.r 6 Z
 refine zQ9 ?_
 obtain ⟨x3,q4,c⟩:=zA4 c
 obtain ⟨x5,q6,c⟩:=zAD c
 refine HT.u d j (eB x1.2::eB x1.2::gI (true&&(x1.2==true)) x1.1::gB (true&&(x1.2==true)) x3::eB x5::[]) ?_ ?_
 exact om h4<|ov<|gm 1 true h3<|og 1 true (fun G Q U W H D=>zA8 call94 (zBQ (q4 G) (d.fr W.size) (D.h 0 G Z) Z Z))<|op (fun Q U W H D=>zAF x1.2 (D.g 0 Z) (fun hc=>by have a1:Q 13 = .bool x3:=D 1 _ _ _ Z Z Z Z (zAc Z (zAP hc));show _=Value.bool x5;rw [q6,hc];exact a1) (fun hc=>by show _=Value.bool x5;rw [q6,hc];exact Z))<|oz
 intro R w m n p d j
 replace h3:=k1 n h3
 have h14:=p.r 4 Z
 refine zQ2 x5 h14 (fun c7=>?_) (fun c7=>?_)
 have c:=zAO c7 c
 refine zQB d j (eI x1.1::eI x1.1::[]) ?_ ?_
 exact om h3<|oa<|oz
 intro R w m n p d j
 have h2:=p.r 1 Z
 refine HT.ret ?_
 obtain rfl:=si c
 exact ⟨.inr Z,[R 2],⟨Z,N⟩,h2,j⟩
 have c:=zAN c7 c
 refine zQA ?_
 refine zQB d j (eI 0::[]) ?_ ?_
 exact op (fun Q U W H D=>zA2 Z)<|oz
 intro R w m n p d j
 have h2:=p.r 0 Z
 refine HT.ret ?_
 obtain rfl:=si c
 exact ⟨.inr Z,[R 2],⟨Z,N⟩,h2,j⟩
def zCm (fu:Nat) (p0:Int) (p1:Int) (p2:Int):Option Int:=
 cl true (zBB fu p0 0 9999) fun x1=>
 cl (true&&((!x1)==false)) (zBB fu p1 0 9999) fun x3=>
 bd ((!x1) || (!x3)) fun x5=>
 cl (true&&(x5==false)) (zBB fu p2 1 9999) fun x7=>
 bd (x5 || (!x7)) fun x9=>
 bif x9 then (
 some 0
 ) else (
 ck (i64B (p0-p1)) <|
 ck (i64B (p1-p0)) <|
 ck (i64B (p2-(max (p0-p1) (p1-p0)))) <|
 ck (i64B (1000*(max (p2-(max (p0-p1) (p1-p0))) 0))) <|
 ck (p2 != 0) <|
 ck (i64B ((1000*(max (p2-(max (p0-p1) (p1-p0))) 0)).tdiv p2)) <|
 some ((1000*(max (p2-(max (p0-p1) (p1-p0))) 0)).tdiv p2)
 )
theorem zGR {fu : Nat} {A : Av} {p0 : Int} {p1 : Int} {p2 : Int} {r : Int} (c : zCm fu p0 p1 p2 = some r) {w : World} {v0 : Value} {v1 : Value} {v2 : Value} (d : AvOK A w) (h0 : v0 = .int .i64 p0) (h1 : v1 = .int .i64 p1) (h2 : v2 = .int .i64 p2) :
 Calls prog 225 #[v0,v1,v2] w fun e w'=>∃ v,e = .returned v∧(v = .int .i64 r∧Fr w w'):=by
 unfold zCm at c
 obtain ⟨w0,hw0,j⟩:=pf w
 rw [fw hw0]
 refine zA3 [.tmp 6] func225 ntmps225 (by decide) Z Z (nb Z) ?_
 intro R hR
 replace h0:R 0 = .int .i64 p0:=(hR 0 _ Z).trans h0
 replace h1:R 1 = .int .i64 p1:=(hR 1 _ Z).trans h1
 replace h2:R 2 = .int .i64 p2:=(hR 2 _ Z).trans h2
 refine zQB d j (eI 0::[]) ?_ ?_
 exact op (fun Q U W H D=>zA2 Z)<|oz
 intro R w m n p d j
 obtain ⟨h0,h1,h2⟩:=k3 n h0 h1 h2
 refine zQ9 ?_
 refine zQ9 ?_
 obtain ⟨x1,q2,c⟩:=zA4 c
 obtain ⟨x3,q4,c⟩:=zA4 c
 obtain ⟨x5,q6,c⟩:=zAD c
 obtain ⟨x7,q8,c⟩:=zA4 c
 obtain ⟨x9,q10,c⟩:=zAD c
 refine HT.u d j (eI p0::eB x1::eB (!x1)::eB (!x1)::gI (true&&((!x1)==false)) p1::gB (true&&((!x1)==false)) x3::gB (true&&((!x1)==false)) (!x3)::eB x5::eB x5::gI (true&&(x5==false)) p2::gB (true&&(x5==false)) x7::gB (true&&(x5==false)) (!x7)::eB x9::[]) ?_ ?_
 exact om h0<|op (fun Q U W H D=>zA8 call94 (zBQ (q2 Z) (d.fr W.size) (D.g 0 Z) Z Z))<|op (fun Q U W H D=>zBq (D.g 0 Z))<|ov<|gm 3 false h1<|og 3 false (fun G Q U W H D=>zA8 call94 (zBQ (q4 G) (d.fr W.size) (D.h 0 G Z) Z Z))<|og 3 false (fun G Q U W H D=>zBq (D.h 0 G Z))<|op (fun Q U W H D=>zAF (!x1) (D.g 0 Z) (fun hc=>by show _=Value.bool x5;rw [q6,hc];exact Z) (fun hc=>by have a2:Q 14 = .bool (!x3):=D 1 _ _ _ Z Z Z Z (zAc Z (zAP hc));show _=Value.bool x5;rw [q6,hc];exact a2))<|ov<|gm 8 false h2<|og 8 false (fun G Q U W H D=>zA8 call94 (zBQ (q8 G) (d.fr W.size) (D.h 0 G Z) Z Z))<|og 8 false (fun G Q U W H D=>zBq (D.h 0 G Z))<|op (fun Q U W H D=>zAF x5 (D.g 0 Z) (fun hc=>by show _=Value.bool x9;rw [q10,hc];exact Z) (fun hc=>by have a2:Q 19 = .bool (!x7):=D 1 _ _ _ Z Z Z Z (zAc Z (zAP hc));show _=Value.bool x9;rw [q10,hc];exact a2))<|oz
 intro R w m n p d j
 obtain ⟨h0,h1,h2⟩:=k3 n h0 h1 h2
 have h20:=p.r 12 Z
 refine zQ2 x9 h20 (fun c11=>?_) (fun c11=>?_)
 have c:=zAO c11 c
 refine zQB d j (eI 0::[]) ?_ ?_
 exact op (fun Q U W H D=>zA2 Z)<|oz
 intro R w m n p d j
 have h6:=p.r 0 Z
 refine HT.ret ?_
 obtain rfl:=si c
 exact ⟨.inr Z,[R 6],⟨Z,N⟩,h6,j⟩
 have c:=zAN c11 c
 refine zQA ?_
 obtain ⟨e12,e13,c⟩:=ck2 c
 refine zQB d j (eI p0::eI p1::eI (p0-p1)::eI p1::eI p0::eI (p1-p0)::eI (max (p0-p1) (p1-p0))::eI (max (p0-p1) (p1-p0))::[]) ?_ ?_
 exact om h0<|om h1<|op (fun Q U W H D=>zAb (D.g 0 Z) (D.g 1 Z) e12)<|om h1<|om h0<|op (fun Q U W H D=>zAb (D.g 0 Z) (D.g 1 Z) e13)<|op (fun Q U W H D=>zIg (D.g 0 Z) (D.g 1 Z))<|oa<|oz
 intro R w m n p d j
 replace h2:=k1 n h2
 have h7:=p.r 7 Z
 obtain ⟨e14,e15,e16,e17,c⟩:=ck4 c
 refine zQB d j (eI p2::eI (max (p0-p1) (p1-p0))::eI (p2-(max (p0-p1) (p1-p0)))::eI (max (p2-(max (p0-p1) (p1-p0))) 0)::eI (1000*(max (p2-(max (p0-p1) (p1-p0))) 0))::eI p2::eI ((1000*(max (p2-(max (p0-p1) (p1-p0))) 0)).tdiv p2)::eI ((1000*(max (p2-(max (p0-p1) (p1-p0))) 0)).tdiv p2)::[]) ?_ ?_
 exact om h2<|om h7<|op (fun Q U W H D=>zAb (D.g 0 Z) (D.g 1 Z) e14)<|op (fun Q U W H D=>zIg (D.g 0 Z) Z)<|op (fun Q U W H D=>zGQ Z (D.g 0 Z) e15)<|om h2<|op (fun Q U W H D=>zHm (D.g 0 Z) (D.g 1 Z) e16 e17)<|oa<|oz
 intro R w m n p d j
 have h6:=p.r 7 Z
 refine HT.ret ?_
 obtain rfl:=si c
 exact ⟨.inr Z,[R 6],⟨Z,N⟩,h6,j⟩
def zDB (fu:Nat) (p0:List UInt8) (p1:List UInt8):Option Int:=
 cl true (zBZ fu p0) fun x1=>
 cl true (zBZ fu p1) fun x3=>
 bd ((x1==0) || (x3==0)) fun x5=>
 bif x5 then (
 some 0
 ) else (
 cl true (zCm fu x1 x3 10) fun x8=>
 some x8
 )
theorem zGq {fu : Nat} {A : Av} {p0 : List UInt8} {p1 : List UInt8} {r : Int} (c : zDB fu p0 p1 = some r) {w : World} {v0 : Value} {v1 : Value} (d : AvOK A w) (hG : GTab w) (h0 : Rep eStr A w v0 p0) (h1 : Rep eStr A w v1 p1) :
 Calls prog 182 #[v0,v1] w fun e w'=>∃ v,e = .returned v∧(v = .int .i64 r∧Fr w w'):=by
 unfold zDB at c
 obtain ⟨w0,hw0,j⟩:=pf w
 rw [fw hw0]
 have hG0:GTab w0:=hw0 ▸ hG
 refine zA3 [.tmp 4] func182 ntmps182 (by decide) Z Z (nb Z) ?_
 intro R hR
 have f_v0:=h0
 replace h0:R 0=v0:=hR 0 _ Z
 have f_v1:=h1
 replace h1:R 1=v1:=hR 1 _ Z
 refine zQB d j (eI 0::[]) ?_ ?_
 exact op (fun Q U W H D=>zA2 Z)<|oz
 intro R w m n p d j
 obtain ⟨h0,h1⟩:=k2 n h0 h1
 replace f_v0:=f_v0.fr m
 replace f_v1:=f_v1.fr m
 obtain ⟨x1,q2,c⟩:=zA4 c
 obtain ⟨x3,q4,c⟩:=zA4 c
 refine zQB d j (eR v0::eI x1::eR v1::eI x3::eI x1::eI x3::[]) ?_ ?_
 exact om h0<|op (fun Q U W H D=>zA8 call166 (zEx (q2 Z) (d.fr W.size) (hG0.fr (j.trans W)) ((f_v0.fr W).eq (D.g 0 Z))))<|om h1<|op (fun Q U W H D=>zA8 call166 (zEx (q4 Z) (d.fr W.size) (hG0.fr (j.trans W)) ((f_v1.fr W).eq (D.g 0 Z))))<|oa<|oa<|oz
 intro R w m n p d j
 have h5:=p.r 4 Z
 have h6:=p.r 5 Z
 refine zQ9 ?_
 refine zQ9 ?_
 obtain ⟨x5,q6,c⟩:=zAD c
 refine HT.u d j (eI x1::eB (x1==0)::eB (x1==0)::gI (true&&((x1==0)==false)) x3::gB (true&&((x1==0)==false)) (x3==0)::eB x5::[]) ?_ ?_
 exact om h5<|op (fun Q U W H D=>zAo (D.g 0 Z) Z)<|ov<|gm 2 false h6<|og 2 false (fun G Q U W H D=>zAo (D.h 0 G Z) Z)<|op (fun Q U W H D=>zAF (x1==0) (D.g 0 Z) (fun hc=>by show _=Value.bool x5;rw [q6,hc];exact Z) (fun hc=>by have a2:Q 15 = .bool (x3==0):=D 1 _ _ _ Z Z Z Z (zAc Z (zAP hc));show _=Value.bool x5;rw [q6,hc];exact a2))<|oz
 intro R w m n p d j
 obtain ⟨h5,h6⟩:=k2 n h5 h6
 have h16:=p.r 5 Z
 refine zQ2 x5 h16 (fun c7=>?_) (fun c7=>?_)
 have c:=zAO c7 c
 refine zQB d j (eI 0::[]) ?_ ?_
 exact op (fun Q U W H D=>zA2 Z)<|oz
 intro R w m n p d j
 have h4:=p.r 0 Z
 refine HT.ret ?_
 obtain rfl:=si c
 exact ⟨.inr Z,[R 4],⟨Z,N⟩,h4,j⟩
 have c:=zAN c7 c
 refine zQA ?_
 obtain ⟨x8,q9,c⟩:=zA4 c
 refine zQB d j (eI x1::eI x3::eI x8::eI x8::[]) ?_ ?_
 exact om h5<|om h6<|op (fun Q U W H D=>zA8 call225 (zGR (q9 Z) (d.fr W.size) (D.g 0 Z) (D.g 1 Z) Z))<|oa<|oz
 intro R w m n p d j
 have h4:=p.r 3 Z
 refine HT.ret ?_
 obtain rfl:=si c
 exact ⟨.inr Z,[R 4],⟨Z,N⟩,h4,j⟩
def zB4 (fu : Nat) (p0 : List UInt8) : Nat → Int → (List Int) → Option (List Int)
 | 0,_,_=>none
 | k+1,y5,y6=>
 bif (decide (y5<(p0.length:Int))) then (
 ck (inR y5 p0.length) <|
 cl true (zCQ fu (bAt p0 y5)) fun x9=>
 bif x9 then (
 ck (inR y5 p0.length) <|
 ck (zC2 (y6.length+([(bAt p0 y5)]:List Int).length)) <|
 ck (i64B (y5+1)) <|
 zB4 fu p0 k (y5+1) (y6++([(bAt p0 y5)]:List Int))
 ) else (
 ck (i64B (y5+1)) <|
 zB4 fu p0 k (y5+1) y6
 )
 ) else (
 some y6
 )
def zCt (fu:Nat) (p0:List UInt8):Option (List UInt8):=
 cl true (zB4 fu p0 fu 0 ([]:List Int)) fun s4=>
 some (strB s4)
theorem zFJ {fu : Nat} {A0 : Av} {p0 : List UInt8} {r : List UInt8} (c : zCt fu p0 = some r) {w : World} {v0 : Value} (d : AvOK A0 w) (h0 : Rep eStr A0 w v0 p0) :
 Calls prog 165 #[v0] w fun e w'=>∃ v,e = .returned v∧(Rep eStr A0 w' v r∧Fr w w'):=by
 unfold zCt at c
 obtain ⟨w0,hw0,j,C⟩:=pw d
 have hA00:AvOK A0 w0:=C
 rw [fw hw0]
 obtain ⟨A,hAe,B,d,q⟩:=pa d
 refine zA3 [.tmp 2] func165 ntmps165 (by decide) Z Z (nb Z) ?_
 intro R hR
 have f_v0:Rep eStr A w v0 p0:=hAe ▸ h0
 replace h0:R 0=v0:=hR 0 _ Z
 refine zQB d j (eF (.rep eStr A ([]:List UInt8))::[]) ?_ ?_
 exact op (fun Q U W H D=>zA2 ⟨_,Z,⟨_,Z,Z,by decide⟩⟩)<|oz
 intro R w m n p d j
 replace h0:=k1 n h0
 replace f_v0:=f_v0.fr m
 replace q:=q.fr m
 refine zQB d j (eR (.slice none 0 0)::[]) ?_ ?_
 exact op (fun Q U W H D=>zA2 Z)<|oz
 intro R w m n p d j
 replace h0:=k1 n h0
 obtain ⟨u1,n_u1⟩:∃ u,u=Value.slice none 0 0:=⟨_,Z⟩
 have h3:R 3=u1:=(p 0 _ _ Z Z Z).trans n_u1.symm
 replace f_v0:=f_v0.fr m
 replace q:=q.fr m
 replace q:=q.nilcons (u:=u1) n_u1 w0.heap.size 5 (eInt .u8)
 refine zQ9 ?_
 refine zQB d j (eR v0::eI (p0.length:Int)::eI 0::[]) ?_ ?_
 exact om h0<|op (fun Q U W H D=>zAJ ((f_v0.fr W).eq (D.g 0 Z)) underlying9)<|op (fun Q U W H D=>zBk Z)<|oz
 intro R w m n p d j
 obtain ⟨h0,h3⟩:=k2 n h0 h3
 have h6:=p.r 1 Z
 have h7:=p.r 2 Z
 replace f_v0:=f_v0.fr m
 replace q:=q.fr m
 obtain ⟨rl2,q3,c⟩:=zA4 c
 replace q3:=q3 Z
 refine zQ4 (fun R w=>∃ A:Av,∃ (s4:(List Int)) (uo_u1:Value),rl2=s4∧AvOK A w∧Fr w0 w∧(∀ b o,A0 b o→A b o)∧IniOK [ob uo_u1 (.vec w0.heap.size 5 (eInt .u8) s4)] A w∧R 3=uo_u1) ?_ ?_
 refine HT.block ?_
 refine zQ8 (fun k R w=>∃ A:Av,∃ (y5:Int) (y6:List Int) (ul_u1:Value),zB4 fu p0 k y5 y6=some rl2∧AvOK A w∧Fr w0 w∧(∀ b o,A0 b o→A b o)∧IniOK [ob ul_u1 (.vec w0.heap.size 5 (eInt .u8) y6)] A w∧R 0=v0∧R 3=ul_u1∧R 6 = .int .i64 (p0.length:Int)∧R 7 = .int .i64 y5∧Rep eStr A w v0 p0) fu ⟨_,_,_,u1,q3,d,j,B,q,h0,h3,h6,h7,f_v0⟩ ?_
 have hr0:=c;clear c q3
 rintro k R w ⟨A,y5,y6,ul_u1,c,d,j,B,q,h0,h3,h6,h7,f_v0⟩
 rcases k with _ | k
 cases (show none=some _ from c)
 rw [zB4] at c
 refine zQB d j (eB (decide (y5<(p0.length:Int)))::[]) ?_ ?_
 exact op (fun Q U W H D=>zAu ((H 7 Z).trans h7) ((H 6 Z).trans h6))<|oz
 intro R w m n p d j
 obtain ⟨h0,h3,h6,h7⟩:=k4 n h0 h3 h6 h7
 have h8:=p.r 0 Z
 replace f_v0:=f_v0.fr m
 replace q:=q.fr m
 refine zQ9 ?_
 refine zQ2 (decide (y5<(p0.length:Int))) h8 (fun c7=>?_) (fun c7=>?_)
 have c:=zAO c7 c
 refine zQA ?_
 refine zQ9 ?_
 refine HT.block ?_
 refine zQB d j (eI y5::eI y5::[]) ?_ ?_
 exact om h7<|oa<|oz
 intro R w m n p d j
 obtain ⟨h0,h3,h6,h7⟩:=k4 n h0 h3 h6 h7
 have h4:=p.r 1 Z
 replace f_v0:=f_v0.fr m
 replace q:=q.fr m
 obtain ⟨e8,c⟩:=zA5 c
 obtain ⟨x9,q10,c⟩:=zA4 c
 refine zQB d j (eR v0::eI y5::eU (bAt p0 y5)::eB x9::[]) ?_ ?_
 exact om h0<|om h4<|op (fun Q U W H D=>zAB ((f_v0.fr W).eq (D.g 0 Z)) (D.g 1 Z) underlying9 e8)<|op (fun Q U W H D=>zA8 call215 (zES (q10 Z) (d.fr W.size) (D.g 0 Z)))<|oz
 intro R w m n p d j
 obtain ⟨h0,h3,h4,h6,h7⟩:=k5 n h0 h3 h4 h6 h7
 have h13:=p.r 3 Z
 replace f_v0:=f_v0.fr m
 replace q:=q.fr m
 refine zQ2 x9 h13 (fun c11=>?_) (fun c11=>?_)
 have c:=zAO c11 c
 obtain ⟨e12,e13,c⟩:=ck2 c
 refine zQF [ob ul_u1 (.vec w0.heap.size 5 (eInt .u8) y6)] (rR ul_u1::rR v0::rI y5::rU (bAt p0 y5)::(rF fun A=>.rep (eSl (eInt .u8)) A ([(bAt p0 y5)]:List Int))::⟨_,true,[0],some (.vec w0.heap.size 5 (eInt .u8) (y6++([(bAt p0 y5)]:List Int))),true,fun A=>.any⟩::⟨_,true,[6],some (.vec w0.heap.size 5 (eInt .u8) (y6++([(bAt p0 y5)]:List Int))),true,fun A=>.any⟩::[]) (ur (ur (ur (ur (up (ua (ua (UAll.nil)))))))) q d ?_ ?_
 exact rm h3<|rm h0<|rm h4<|rp (fun V Q U O D=>zAB ((f_v0.stp O.stp).eq (D.g 0 Z)) (D.g 1 Z) underlying9 e12)<|rp (fun V Q U O D=>zB6 [_] (E:=eInt .u8) ⟨(zAa.eq (D.g 0 Z)),N⟩ underlying22 sizeOf5 zeroValue5 Z Z Z O.av)<|rc (OblR.took 0 _ _ Z Z Z Z Z fun V Q U O D u X Y J L M=>by have a0:Q 14=ul_u1:=D.g 0 Z;have a1:Rep (eSl (eInt .u8)) V U (Q 18) ([(bAt p0 y5)]:List Int):=D.g 1 Z;exact zAx (a0.trans (J _ Z).symm) X Y (Nat.le_trans j.size O.ch.size) a1 underlying22 el_5 e13)<|rc (OblR.took 6 _ _ Z Z Z Z Z fun V Q U O D u X Y J L M=>by exact zAK (L _ _ Z Z Z Z).symm X Y)<|rz
 intro done ρ σ A R w y s
 obtain ⟨h0,h6,h7⟩:=k3 s.rg h0 h6 h7
 obtain ⟨u14,e_u14⟩:∃ u,ρ 7=u:=⟨_,Z⟩
 have h3:=s.ov y 7 6 e_u14
 replace f_v0:=f_v0.stp s.stp
 obtain ⟨B,j,d⟩:=s.s B C j q ⟨Z,N⟩
 replace q:=s.left y [(7,ob u14 (.vec w0.heap.size 5 (eInt .u8) (y6++([(bAt p0 y5)]:List Int))))] ⟨Z,Z,e_u14,Z,Z,N⟩
 obtain ⟨e15,c⟩:=zA5 c
 refine HT.u d j (eI (y5+1)::eI (y5+1)::[]) ?_ ?_
 exact op (fun Q U W H D=>zAR ((H 7 Z).trans h7) Z e15)<|ov<|oz
 intro R w m n p d j
 obtain ⟨h0,h3,h6⟩:=k3 n h0 h3 h6
 have h7:=p.r 1 Z
 replace f_v0:=f_v0.fr m
 replace q:=q.fr m
 exact ei k (And.intro (Nat.lt_succ_self k) ⟨_,_,_,u14,c,d,j,B,q,h0,h3,h6,h7,f_v0⟩)
 have c:=zAN c11 c
 refine zQA ?_
 obtain ⟨e16,c⟩:=zA5 c
 refine HT.u d j (eI (y5+1)::eI (y5+1)::[]) ?_ ?_
 exact op (fun Q U W H D=>zAR ((H 7 Z).trans h7) Z e16)<|ov<|oz
 intro R w m n p d j
 obtain ⟨h0,h3,h6⟩:=k3 n h0 h3 h6
 have h7:=p.r 1 Z
 replace f_v0:=f_v0.fr m
 replace q:=q.fr m
 exact ei k (And.intro (Nat.lt_succ_self k) ⟨_,_,_,ul_u1,c,d,j,B,q,h0,h3,h6,h7,f_v0⟩)
 have c:=zAN c7 c
 refine zQ7 ?_
 obtain rfl:=si c
 exact ei _ ⟨_,ul_u1,Z,d,j,B,q,h3⟩
 rintro R w ⟨A,s4,uo_u1,es,d,j,B,q,h3⟩
 obtain rfl:=es.symm
 refine zQB d j (eR uo_u1::eF (.rep eStr A (strB s4))::eF (.rep eStr A (strB s4))::[]) ?_ ?_
 exact om h3<|op (fun Q U W H D=>zBa ((zD2 ((q.fr W).ok 0 _ Z).1 B C).eq (D.g 0 Z)) underlying22 underlying5 underlying9)<|op (fun Q U W H D=>zA2 (D.g 0 Z))<|oz
 intro R w m n p d j
 obtain ⟨u17,h2,f_u17⟩:∃ u,R 2=u∧Rep eStr A w u (strB s4):=⟨_,Z,p 2 _ _ Z Z Z⟩
 replace q:=q.fr m
 replace q:IniOK [] A w:=q.sub [] N
 refine HT.ret ?_
 obtain rfl:=si c
 exact ⟨.inr Z,[R 2],⟨Z,N⟩,(f_u17.eq h2).down B,j⟩
def zBr (fu:Nat) (p0:List UInt8) (p1:List UInt8):Option Bool:=
 cl true (zAd fu p0 p1) fun x1=>
 some x1
theorem zEQ {fu : Nat} {A : Av} {p0 : List UInt8} {p1 : List UInt8} {r : Bool} (c : zBr fu p0 p1 = some r) {w : World} {v0 : Value} {v1 : Value} (d : AvOK A w) (h0 : Rep eStr A w v0 p0) (h1 : Rep eStr A w v1 p1) :
 Calls prog 226 #[v0,v1] w fun e w'=>∃ v,e = .returned v∧(v = .bool r∧Fr w w'):=by
 unfold zBr at c
 obtain ⟨w0,hw0,j⟩:=pf w
 rw [fw hw0]
 refine zA3 [.tmp 4] func226 ntmps226 (by decide) Z Z (nb Z) ?_
 intro R hR
 have f_v0:=h0
 replace h0:R 0=v0:=hR 0 _ Z
 have f_v1:=h1
 replace h1:R 1=v1:=hR 1 _ Z
 refine zQB d j (eB false::[]) ?_ ?_
 exact op (fun Q U W H D=>zA2 Z)<|oz
 intro R w m n p d j
 obtain ⟨h0,h1⟩:=k2 n h0 h1
 replace f_v0:=f_v0.fr m
 replace f_v1:=f_v1.fr m
 obtain ⟨x1,q2,c⟩:=zA4 c
 refine zQB d j (eR v0::eR v1::eB x1::eB x1::[]) ?_ ?_
 exact om h0<|om h1<|op (fun Q U W H D=>zA8 call267 (zCW (q2 Z) (d.fr W.size) ((f_v0.fr W).eq (D.g 0 Z)) ((f_v1.fr W).eq (D.g 1 Z))))<|oa<|oz
 intro R w m n p d j
 have h4:=p.r 3 Z
 refine HT.ret ?_
 obtain rfl:=si c
 exact ⟨.inr Z,[R 4],⟨Z,N⟩,h4,j⟩
def zBT (fu : Nat) (x1 : List UInt8) (x3 : List UInt8) : Nat → Int → Option Int
 | 0,_=>none
 | k+1,y10=>
 bd ((decide (y10<(x1.length:Int)))&&(decide (y10<(x3.length:Int)))) fun x11=>
 ck (!(true&&(x11==true)) || i64B ((x1.length:Int)-1)) <|
 ck (!(true&&(x11==true)) || i64B (((x1.length:Int)-1)-y10)) <|
 ck (!(true&&(x11==true)) || inR (((x1.length:Int)-1)-y10) x1.length) <|
 ck (!(true&&(x11==true)) || i64B ((x3.length:Int)-1)) <|
 ck (!(true&&(x11==true)) || i64B (((x3.length:Int)-1)-y10)) <|
 ck (!(true&&(x11==true)) || inR (((x3.length:Int)-1)-y10) x3.length) <|
 bd (x11&&((bAt x1 (((x1.length:Int)-1)-y10))==(bAt x3 (((x3.length:Int)-1)-y10)))) fun x19=>
 bif x19 then (
 ck (i64B (y10+1)) <|
 zBT fu x1 x3 k (y10+1)
 ) else (
 some y10
 )
def zCs (fu:Nat) (p0:List UInt8) (p1:List UInt8):Option Int:=
 cl true (zCt fu p0) fun x1=>
 cl true (zCt fu p1) fun x3=>
 cl true (zBT fu x1 x3 fu 0) fun s9=>
 bd ((decide ((x1.length:Int)<4)) || (decide ((x3.length:Int)<4))) fun x23=>
 bd (x23 || (decide (s9<4))) fun x25=>
 bif x25 then (
 some 0
 ) else (
 bif (x1==x3) then (
 some 1000
 ) else (
 cl (true&&((decide (7≤s9))==false)) (zBr fu x1 x3) fun x29=>
 bd ((decide (7≤s9)) || x29) fun x31=>
 cl (true&&(x31==false)) (zBr fu x3 x1) fun x33=>
 bd (x31 || x33) fun x35=>
 bif x35 then (
 some 800
 ) else (
 some 400
 )
 )
 )
theorem zGi {fu : Nat} {A : Av} {p0 : List UInt8} {p1 : List UInt8} {r : Int} (c : zCs fu p0 p1 = some r) {w : World} {v0 : Value} {v1 : Value} (d : AvOK A w) (h0 : Rep eStr A w v0 p0) (h1 : Rep eStr A w v1 p1) :
 Calls prog 183 #[v0,v1] w fun e w'=>∃ v,e = .returned v∧(v = .int .i64 r∧Fr w w'):=by
 unfold zCs at c
 obtain ⟨w0,hw0,j⟩:=pf w
 rw [fw hw0]
 refine zA3 [.tmp 4] func183 ntmps183 (by decide) Z Z (nb Z) ?_
 intro R hR
 have f_v0:=h0
 replace h0:R 0=v0:=hR 0 _ Z
 have f_v1:=h1
 replace h1:R 1=v1:=hR 1 _ Z
 refine zQB d j (eI 0::[]) ?_ ?_
 exact op (fun Q U W H D=>zA2 Z)<|oz
 intro R w m n p d j
 obtain ⟨h0,h1⟩:=k2 n h0 h1
 replace f_v0:=f_v0.fr m
 replace f_v1:=f_v1.fr m
 obtain ⟨x1,q2,c⟩:=zA4 c
 obtain ⟨x3,q4,c⟩:=zA4 c
 refine zQB d j (eR v0::eF (.rep eStr A x1)::eR v1::eF (.rep eStr A x3)::eF (.rep eStr A x1)::eF (.rep eStr A x3)::[]) ?_ ?_
 exact om h0<|op (fun Q U W H D=>zA8 call165 (zFJ (q2 Z) (d.fr W.size) ((f_v0.fr W).eq (D.g 0 Z))))<|om h1<|op (fun Q U W H D=>zA8 call165 (zFJ (q4 Z) (d.fr W.size) ((f_v1.fr W).eq (D.g 0 Z))))<|op (fun Q U W H D=>zA2 (D.g 0 Z))<|op (fun Q U W H D=>zA2 (D.g 0 Z))<|oz
 intro R w m n p d j
 obtain ⟨u5,h5,f_u5⟩:∃ u,R 5=u∧Rep eStr A w u x1:=⟨_,Z,p 4 _ _ Z Z Z⟩
 obtain ⟨u6,h6,f_u6⟩:∃ u,R 6=u∧Rep eStr A w u x3:=⟨_,Z,p 5 _ _ Z Z Z⟩
 refine zQB d j (eI 0::[]) ?_ ?_
 exact op (fun Q U W H D=>zA2 Z)<|oz
 intro R w m n p d j
 obtain ⟨h5,h6⟩:=k2 n h5 h6
 have h7:=p.r 0 Z
 replace f_u5:=f_u5.fr m
 replace f_u6:=f_u6.fr m
 obtain ⟨rl7,q8,c⟩:=zA4 c
 replace q8:=q8 Z
 refine zQ3 (fun R w=>∃ (s9:Int),rl7=s9∧AvOK A w∧Fr w0 w∧R 5=u5∧R 6=u6∧R 7 = .int .i64 s9∧Rep eStr A w u5 x1∧Rep eStr A w u6 x3) ?_ ?_
 refine HT.block ?_
 refine zQ8 (fun k R w=>∃ (y10:Int),zBT fu x1 x3 k y10=some rl7∧AvOK A w∧Fr w0 w∧R 5=u5∧R 6=u6∧R 7 = .int .i64 y10∧Rep eStr A w u5 x1∧Rep eStr A w u6 x3) fu ⟨_,q8,d,j,h5,h6,h7,f_u5,f_u6⟩ ?_
 have hr0:=c;clear c q8
 rintro k R w ⟨y10,c,d,j,h5,h6,h7,f_u5,f_u6⟩
 rcases k with _ | k
 cases (show none=some _ from c)
 rw [zBT] at c
 refine zQ9 ?_
 refine zQ9 ?_
 obtain ⟨x11,q12,c⟩:=zAD c
 obtain ⟨e13,e14,e15,e16,c⟩:=ck4 c
 obtain ⟨e17,e18,c⟩:=ck2 c
 obtain ⟨x19,q20,c⟩:=zAD c
 refine zQ5 (by kernel_rfl) (l:=eI y10::eR u5::eI (x1.length:Int)::eB (decide (y10<(x1.length:Int)))::eB (decide (y10<(x1.length:Int)))::gI (true&&((decide (y10<(x1.length:Int)))==true)) y10::gR (true&&((decide (y10<(x1.length:Int)))==true)) u6::gI (true&&((decide (y10<(x1.length:Int)))==true)) (x3.length:Int)::gB (true&&((decide (y10<(x1.length:Int)))==true)) (decide (y10<(x3.length:Int)))::eB x11::eB x11::gR (true&&(x11==true)) u5::gR (true&&(x11==true)) u5::gI (true&&(x11==true)) (x1.length:Int)::gI (true&&(x11==true)) ((x1.length:Int)-1)::gI (true&&(x11==true)) y10::gI (true&&(x11==true)) (((x1.length:Int)-1)-y10)::gU (true&&(x11==true)) (bAt x1 (((x1.length:Int)-1)-y10))::gR (true&&(x11==true)) u6::gR (true&&(x11==true)) u6::gI (true&&(x11==true)) (x3.length:Int)::gI (true&&(x11==true)) ((x3.length:Int)-1)::gI (true&&(x11==true)) y10::gI (true&&(x11==true)) (((x3.length:Int)-1)-y10)::gU (true&&(x11==true)) (bAt x3 (((x3.length:Int)-1)-y10))::gB (true&&(x11==true)) ((bAt x1 (((x1.length:Int)-1)-y10))==(bAt x3 (((x3.length:Int)-1)-y10)))::eB x19::[]) (tl:=[]) (by kernel_rfl) (by kernel_rfl) (by kernel_rfl) (by kernel_rfl) ?_ ?_
 exact om h7<|om h5<|op (fun Q U W H D=>zAJ ((f_u5.fr W).eq (D.g 0 Z)) underlying9)<|op (fun Q U W H D=>zAu (D.g 0 Z) (D.g 1 Z))<|ov<|gm 4 true h7<|gm 4 true h6<|og 4 true (fun G Q U W H D=>zAJ ((f_u6.fr W).eq (D.h 0 G Z)) underlying9)<|og 4 true (fun G Q U W H D=>zAu (D.h 0 G Z) (D.h 1 G Z))<|op (fun Q U W H D=>zAF (decide (y10<(x1.length:Int))) (D.g 0 Z) (fun hc=>by have a1:Q 20 = .bool (decide (y10<(x3.length:Int))):=D 1 _ _ _ Z Z Z Z (zAc Z (zAP hc));show _=Value.bool x11;rw [q12,hc];exact a1) (fun hc=>by show _=Value.bool x11;rw [q12,hc];exact Z))<|ov<|gm 10 true h5<|gm 10 true h5<|og 10 true (fun G Q U W H D=>zAJ ((f_u5.fr W).eq (D.h 0 G Z)) underlying9)<|og 10 true (fun G Q U W H D=>zAb (D.h 0 G Z) Z (gd e13 G))<|gm 10 true h7<|og 10 true (fun G Q U W H D=>zAb (D.h 0 G Z) (D.h 1 G Z) (gd e14 G))<|og 10 true (fun G Q U W H D=>zAB ((f_u5.fr W).eq (D.h 0 G Z)) (D.h 1 G Z) underlying9 (gd e15 G))<|gm 10 true h6<|gm 10 true h6<|og 10 true (fun G Q U W H D=>zAJ ((f_u6.fr W).eq (D.h 0 G Z)) underlying9)<|og 10 true (fun G Q U W H D=>zAb (D.h 0 G Z) Z (gd e16 G))<|gm 10 true h7<|og 10 true (fun G Q U W H D=>zAb (D.h 0 G Z) (D.h 1 G Z) (gd e17 G))<|og 10 true (fun G Q U W H D=>zAB ((f_u6.fr W).eq (D.h 0 G Z)) (D.h 1 G Z) underlying9 (gd e18 G))<|og 10 true (fun G Q U W H D=>zAo (D.h 0 G Z) (D.h 1 G Z))<|op (fun Q U W H D=>zAF x11 (D.g 0 Z) (fun hc=>by have a1:Q 37 = .bool ((bAt x1 (((x1.length:Int)-1)-y10))==(bAt x3 (((x3.length:Int)-1)-y10))):=D 1 _ _ _ Z Z Z Z (zAc Z (zAP hc));show _=Value.bool x19;rw [q20,hc];exact a1) (fun hc=>by show _=Value.bool x19;rw [q20,hc];exact Z))<|oz
 intro R w m n p
 obtain ⟨h5,h6,h7⟩:=k3 n h5 h6 h7
 have h38:=p.r 26 Z
 replace f_u5:=f_u5.fr m
 replace f_u6:=f_u6.fr m
 replace d:=d.fr m.size
 replace j:=j.trans m
 refine zQ2 x19 h38 (fun c21=>?_) (fun c21=>?_)
 have c:=zAO c21 c
 refine zQA ?_
 refine HT.block ?_
 obtain ⟨e22,c⟩:=zA5 c
 refine HT.u d j (eI y10::eI (y10+1)::eI (y10+1)::[]) ?_ ?_
 exact om h7<|op (fun Q U W H D=>zAR (D.g 0 Z) Z e22)<|oa<|oz
 intro R w m n p d j
 obtain ⟨h5,h6⟩:=k2 n h5 h6
 have h7:=p.r 2 Z
 replace f_u5:=f_u5.fr m
 replace f_u6:=f_u6.fr m
 exact ei k (And.intro (Nat.lt_succ_self k) ⟨_,c,d,j,h5,h6,h7,f_u5,f_u6⟩)
 have c:=zAN c21 c
 refine zQ7 ?_
 obtain rfl:=si c
 exact ei _ ⟨Z,d,j,h5,h6,h7,f_u5,f_u6⟩
 rintro R w ⟨s9,es,d,j,h5,h6,h7,f_u5,f_u6⟩
 obtain rfl:=es.symm
 refine zQ9 ?_
 refine HT.block ?_
 refine zQ9 ?_
 obtain ⟨x23,q24,c⟩:=zAD c
 obtain ⟨x25,q26,c⟩:=zAD c
 refine HT.u d j (eR u5::eI (x1.length:Int)::eB (decide ((x1.length:Int)<4))::eB (decide ((x1.length:Int)<4))::gR (true&&((decide ((x1.length:Int)<4))==false)) u6::gI (true&&((decide ((x1.length:Int)<4))==false)) (x3.length:Int)::gB (true&&((decide ((x1.length:Int)<4))==false)) (decide ((x3.length:Int)<4))::eB x23::eB x23::gI (true&&(x23==false)) s9::gB (true&&(x23==false)) (decide (s9<4))::eB x25::eB x25::[]) ?_ ?_
 exact om h5<|op (fun Q U W H D=>zAJ ((f_u5.fr W).eq (D.g 0 Z)) underlying9)<|op (fun Q U W H D=>zAu (D.g 0 Z) Z)<|ov<|gm 3 false h6<|og 3 false (fun G Q U W H D=>zAJ ((f_u6.fr W).eq (D.h 0 G Z)) underlying9)<|og 3 false (fun G Q U W H D=>zAu (D.h 0 G Z) Z)<|op (fun Q U W H D=>zAF (decide ((x1.length:Int)<4)) (D.g 0 Z) (fun hc=>by show _=Value.bool x23;rw [q24,hc];exact Z) (fun hc=>by have a2:Q 48 = .bool (decide ((x3.length:Int)<4)):=D 1 _ _ _ Z Z Z Z (zAc Z (zAP hc));show _=Value.bool x23;rw [q24,hc];exact a2))<|ov<|gm 8 false h7<|og 8 false (fun G Q U W H D=>zAu (D.h 0 G Z) Z)<|op (fun Q U W H D=>zAF x23 (D.g 0 Z) (fun hc=>by show _=Value.bool x25;rw [q26,hc];exact Z) (fun hc=>by have a2:Q 52 = .bool (decide (s9<4)):=D 1 _ _ _ Z Z Z Z (zAc Z (zAP hc));show _=Value.bool x25;rw [q26,hc];exact a2))<|oa<|oz
 intro R w m n p d j
 obtain ⟨h5,h6,h7⟩:=k3 n h5 h6 h7
 have h41:=p.r 12 Z
 replace f_u5:=f_u5.fr m
 replace f_u6:=f_u6.fr m
 refine zQ2 x25 h41 (fun c27=>?_) (fun c27=>?_)
 have c:=zAO c27 c
 refine zQB d j (eI 0::[]) ?_ ?_
 exact op (fun Q U W H D=>zA2 Z)<|oz
 intro R w m n p d j
 have h4:=p.r 0 Z
 refine HT.ret ?_
 obtain rfl:=si c
 exact ⟨.inr Z,[R 4],⟨Z,N⟩,h4,j⟩
 have c:=zAN c27 c
 refine zQB d j (eR u5::eR u6::eB (x1==x3)::eB (x1==x3)::[]) ?_ ?_
 exact om h5<|om h6<|op (fun Q U W H D=>zBD ((f_u5.fr W).eq (D.g 0 Z)) ((f_u6.fr W).eq (D.g 1 Z)))<|oa<|oz
 intro R w m n p d j
 obtain ⟨h5,h6,h7⟩:=k3 n h5 h6 h7
 have h54:=p.r 3 Z
 replace f_u5:=f_u5.fr m
 replace f_u6:=f_u6.fr m
 refine zQ2 (x1==x3) h54 (fun c28=>?_) (fun c28=>?_)
 have c:=zAO c28 c
 refine zQB d j (eI 1000::[]) ?_ ?_
 exact op (fun Q U W H D=>zA2 Z)<|oz
 intro R w m n p d j
 have h4:=p.r 0 Z
 refine HT.ret ?_
 obtain rfl:=si c
 exact ⟨.inr Z,[R 4],⟨Z,N⟩,h4,j⟩
 have c:=zAN c28 c
 refine zQ9 ?_
 obtain ⟨x29,q30,c⟩:=zA4 c
 obtain ⟨x31,q32,c⟩:=zAD c
 obtain ⟨x33,q34,c⟩:=zA4 c
 obtain ⟨x35,q36,c⟩:=zAD c
 refine HT.u d j (eI s9::eB (decide (7≤s9))::eB (decide (7≤s9))::gR (true&&((decide (7≤s9))==false)) u5::gR (true&&((decide (7≤s9))==false)) u6::gB (true&&((decide (7≤s9))==false)) x29::eB x31::eB x31::gR (true&&(x31==false)) u6::gR (true&&(x31==false)) u5::gB (true&&(x31==false)) x33::eB x35::eB x35::[]) ?_ ?_
 exact om h7<|op (fun Q U W H D=>zDs (D.g 0 Z) Z)<|ov<|gm 2 false h5<|gm 2 false h6<|og 2 false (fun G Q U W H D=>zA8 call226 (zEQ (q30 G) (d.fr W.size) ((f_u5.fr W).eq (D.h 0 G Z)) ((f_u6.fr W).eq (D.h 1 G Z))))<|op (fun Q U W H D=>zAF (decide (7≤s9)) (D.g 0 Z) (fun hc=>by show _=Value.bool x31;rw [q32,hc];exact Z) (fun hc=>by have a2:Q 64 = .bool x29:=D 1 _ _ _ Z Z Z Z (zAc Z (zAP hc));show _=Value.bool x31;rw [q32,hc];exact a2))<|ov<|gm 7 false h6<|gm 7 false h5<|og 7 false (fun G Q U W H D=>zA8 call226 (zEQ (q34 G) (d.fr W.size) ((f_u6.fr W).eq (D.h 0 G Z)) ((f_u5.fr W).eq (D.h 1 G Z))))<|op (fun Q U W H D=>zAF x31 (D.g 0 Z) (fun hc=>by show _=Value.bool x35;rw [q36,hc];exact Z) (fun hc=>by have a2:Q 69 = .bool x33:=D 1 _ _ _ Z Z Z Z (zAc Z (zAP hc));show _=Value.bool x35;rw [q36,hc];exact a2))<|oa<|oz
 intro R w m n p d j
 have h58:=p.r 12 Z
 refine zQ2 x35 h58 (fun c37=>?_) (fun c37=>?_)
 have c:=zAO c37 c
 refine zQB d j (eI 800::[]) ?_ ?_
 exact op (fun Q U W H D=>zA2 Z)<|oz
 intro R w m n p d j
 have h4:=p.r 0 Z
 refine HT.ret ?_
 obtain rfl:=si c
 exact ⟨.inr Z,[R 4],⟨Z,N⟩,h4,j⟩
 have c:=zAN c37 c
 refine zQA ?_
 refine zQB d j (eI 400::[]) ?_ ?_
 exact op (fun Q U W H D=>zA2 Z)<|oz
 intro R w m n p d j
 have h4:=p.r 0 Z
 refine HT.ret ?_
 obtain rfl:=si c
 exact ⟨.inr Z,[R 4],⟨Z,N⟩,h4,j⟩
def zEM (fu:Nat) (p0:zAI) (p1:zAI):Option (List Int):=
 ck (inR 0 p0.2.2.2.length) <|
 ck (inR 0 p1.2.2.2.length) <|
 cl true (zCi fu (gtD p0.2.2.2 0) (gtD p1.2.2.2 0)) fun x5=>
 ck (inR 0 p0.2.2.2.length) <|
 cl true (zCl fu (gtD p0.2.2.2 0)) fun x8=>
 ck (inR 0 p1.2.2.2.length) <|
 cl true (zCl fu (gtD p1.2.2.2 0)) fun x11=>
 cl true (zCr fu x8 x11) fun x13=>
 ck (inR 0 p0.2.2.2.length) <|
 cl true (zCC fu (gtD p0.2.2.2 0)) fun x16=>
 ck (inR 0 p1.2.2.2.length) <|
 cl true (zCC fu (gtD p1.2.2.2 0)) fun x19=>
 cl true (zCr fu x16 x19) fun x21=>
 ck (inR 1 p0.2.2.2.length) <|
 ck (inR 1 p1.2.2.2.length) <|
 cl true (zCi fu (gtD p0.2.2.2 1) (gtD p1.2.2.2 1)) fun x25=>
 ck (inR 2 p0.2.2.2.length) <|
 ck (inR 2 p1.2.2.2.length) <|
 cl true (zDB fu (gtD p0.2.2.2 2) (gtD p1.2.2.2 2)) fun x29=>
 ck (inR 3 p0.2.2.2.length) <|
 ck (inR 3 p1.2.2.2.length) <|
 cl true (zCs fu (gtD p0.2.2.2 3) (gtD p1.2.2.2 3)) fun x33=>
 some ([x5,x13,x21,x25,x29,x33]:List Int)
theorem zH8 {fu : Nat} {A0 : Av} {p0 : zAI} {p1 : zAI} {r : List Int} (c : zEM fu p0 p1 = some r) {w : World} {v0 : Value} {v1 : Value} (d : AvOK A0 w) (hG : GTab w) (h0 : Rep zA0 A0 w v0 p0) (h1 : Rep zA0 A0 w v1 p1) :
 Calls prog 125 #[v0,v1] w fun e w'=>∃ v,e = .returned v∧((Res.vec w.heap.size 3 (eInt .i64) r).ok (addA A0 v) v w'∧Fr w w'):=by
 unfold zEM at c
 obtain ⟨w0,hw0,j,C⟩:=pw d
 have hA00:AvOK A0 w0:=C
 rw [fh hw0]
 rw [fw hw0]
 have hG0:GTab w0:=hw0 ▸ hG
 obtain ⟨A,hAe,B,d,q⟩:=pa d
 refine zA3 [.tmp 4] func125 ntmps125 (by decide) Z Z (nb Z) ?_
 intro R hR
 have f_v0:Rep zA0 A w v0 p0:=hAe ▸ h0
 replace h0:R 0=v0:=hR 0 _ Z
 have f_v1:Rep zA0 A w v1 p1:=hAe ▸ h1
 replace h1:R 1=v1:=hR 1 _ Z
 refine zQC [] (⟨_,true,[],some (.box w0.heap.size 51 zA0 p0),true,fun A=>.any⟩::⟨_,true,[],some (.box w0.heap.size 51 zA0 p1),true,fun A=>.any⟩::rA::[]) (ua (ua (ua (UAll.nil)))) q d ?_ ?_
 exact rc (OblR.made _ Z Z Z Z fun V Q U O D=>by have a0:Q 0=v0:=(O.old 0 Z).trans h0;have ra0:=(f_v0.stp O.stp).eq a0;exact zEa ra0 (Nat.le_trans j.size O.ch.size))<|rc (OblR.made _ Z Z Z Z fun V Q U O D=>by have a0:Q 1=v1:=(O.old 1 Z).trans h1;have ra0:=(f_v1.stp O.stp).eq a0;exact zEa ra0 (Nat.le_trans j.size O.ch.size))<|rp (fun V Q U O D=>zA2 N)<|rz
 intro done ρ σ A R w y s
 obtain ⟨b2_0,e_b2_0⟩:=s.boxv y 0 Z Z
 have h2:=s.ov y 0 0 e_b2_0
 obtain ⟨b3_1,e_b3_1⟩:=s.boxv y 1 Z Z
 have h3:=s.ov y 1 1 e_b3_1
 obtain ⟨B,j,d⟩:=s.s B C j q N
 replace q:=s.left y [(0,ob (.pointer (some ⟨b2_0,0,none⟩)) (.box w0.heap.size 51 zA0 p0)),(1,ob (.pointer (some ⟨b3_1,0,none⟩)) (.box w0.heap.size 51 zA0 p1))] ⟨Z,Z,e_b2_0,Z,Z,⟨Z,Z,e_b3_1,Z,Z,N⟩⟩
 refine zQ9 ?_
 obtain ⟨e3,e4,c⟩:=ck2 c
 obtain ⟨x5,q6,c⟩:=zA4 c
 obtain ⟨e7,c⟩:=zA5 c
 obtain ⟨x8,q9,c⟩:=zA4 c
 obtain ⟨e10,c⟩:=zA5 c
 obtain ⟨x11,q12,c⟩:=zA4 c
 obtain ⟨x13,q14,c⟩:=zA4 c
 obtain ⟨e15,c⟩:=zA5 c
 obtain ⟨x16,q17,c⟩:=zA4 c
 obtain ⟨e18,c⟩:=zA5 c
 obtain ⟨x19,q20,c⟩:=zA4 c
 obtain ⟨x21,q22,c⟩:=zA4 c
 obtain ⟨e23,e24,c⟩:=ck2 c
 obtain ⟨x25,q26,c⟩:=zA4 c
 obtain ⟨e27,e28,c⟩:=ck2 c
 obtain ⟨x29,q30,c⟩:=zA4 c
 obtain ⟨e31,e32,c⟩:=ck2 c
 obtain ⟨x33,q34,c⟩:=zA4 c
 refine zQ6 [ob (.pointer (some ⟨b2_0,0,none⟩)) (.box w0.heap.size 51 zA0 p0),ob (.pointer (some ⟨b3_1,0,none⟩)) (.box w0.heap.size 51 zA0 p1)] (rR (.pointer (some ⟨b2_0,3,none⟩))::(rF fun A=>.rep (eSl eStr) A p0.2.2.2)::(rF fun A=>.qtr eStr A (gtD p0.2.2.2 0))::(rF fun A=>.rep eStr A (gtD p0.2.2.2 0))::rR (.pointer (some ⟨b3_1,3,none⟩))::(rF fun A=>.rep (eSl eStr) A p1.2.2.2)::(rF fun A=>.qtr eStr A (gtD p1.2.2.2 0))::(rF fun A=>.rep eStr A (gtD p1.2.2.2 0))::rI x5::rR (.pointer (some ⟨b2_0,3,none⟩))::(rF fun A=>.rep (eSl eStr) A p0.2.2.2)::(rF fun A=>.qtr eStr A (gtD p0.2.2.2 0))::(rF fun A=>.rep eStr A (gtD p0.2.2.2 0))::(rF fun A=>.rep (eSl eStr) A x8)::rR (.pointer (some ⟨b3_1,3,none⟩))::(rF fun A=>.rep (eSl eStr) A p1.2.2.2)::(rF fun A=>.qtr eStr A (gtD p1.2.2.2 0))::(rF fun A=>.rep eStr A (gtD p1.2.2.2 0))::(rF fun A=>.rep (eSl eStr) A x11)::rI x13::rR (.pointer (some ⟨b2_0,3,none⟩))::(rF fun A=>.rep (eSl eStr) A p0.2.2.2)::(rF fun A=>.qtr eStr A (gtD p0.2.2.2 0))::(rF fun A=>.rep eStr A (gtD p0.2.2.2 0))::(rF fun A=>.rep (eSl eStr) A x16)::rR (.pointer (some ⟨b3_1,3,none⟩))::(rF fun A=>.rep (eSl eStr) A p1.2.2.2)::(rF fun A=>.qtr eStr A (gtD p1.2.2.2 0))::(rF fun A=>.rep eStr A (gtD p1.2.2.2 0))::(rF fun A=>.rep (eSl eStr) A x19)::rI x21::rR (.pointer (some ⟨b2_0,3,none⟩))::(rF fun A=>.rep (eSl eStr) A p0.2.2.2)::(rF fun A=>.qtr eStr A (gtD p0.2.2.2 1))::(rF fun A=>.rep eStr A (gtD p0.2.2.2 1))::rR (.pointer (some ⟨b3_1,3,none⟩))::(rF fun A=>.rep (eSl eStr) A p1.2.2.2)::(rF fun A=>.qtr eStr A (gtD p1.2.2.2 1))::(rF fun A=>.rep eStr A (gtD p1.2.2.2 1))::rI x25::rR (.pointer (some ⟨b2_0,3,none⟩))::(rF fun A=>.rep (eSl eStr) A p0.2.2.2)::(rF fun A=>.qtr eStr A (gtD p0.2.2.2 2))::(rF fun A=>.rep eStr A (gtD p0.2.2.2 2))::rR (.pointer (some ⟨b3_1,3,none⟩))::(rF fun A=>.rep (eSl eStr) A p1.2.2.2)::(rF fun A=>.qtr eStr A (gtD p1.2.2.2 2))::(rF fun A=>.rep eStr A (gtD p1.2.2.2 2))::rI x29::rR (.pointer (some ⟨b2_0,3,none⟩))::(rF fun A=>.rep (eSl eStr) A p0.2.2.2)::(rF fun A=>.qtr eStr A (gtD p0.2.2.2 3))::(rF fun A=>.rep eStr A (gtD p0.2.2.2 3))::rR (.pointer (some ⟨b3_1,3,none⟩))::(rF fun A=>.rep (eSl eStr) A p1.2.2.2)::(rF fun A=>.qtr eStr A (gtD p1.2.2.2 3))::(rF fun A=>.rep eStr A (gtD p1.2.2.2 3))::rI x33::⟨_,true,[],some (.vec w0.heap.size 3 (eInt .i64) ([x5,x13,x21,x25,x29,x33]:List Int)),true,fun A=>.any⟩::⟨_,true,[60],some (.vec w0.heap.size 3 (eInt .i64) ([x5,x13,x21,x25,x29,x33]:List Int)),true,fun A=>.any⟩::[]) (by kernel_rfl) (by kernel_rfl) (by kernel_rfl) (Wf.mk' (by kernel_rfl) (ur (up (UAll.cons zBL (up (ur (up (UAll.cons zBL (up (ur (ur (up (UAll.cons zBL (up (up (ur (up (UAll.cons zBL (up (up (ur (ur (up (UAll.cons zBL (up (up (ur (up (UAll.cons zBL (up (up (ur (ur (up (UAll.cons zBL (up (ur (up (UAll.cons zBL (up (ur (ur (up (UAll.cons zBL (up (ur (up (UAll.cons zBL (up (ur (ur (up (UAll.cons zBL (up (ur (up (UAll.cons zBL (up (ur (ua (ua (UAll.nil))))))))))))))))))))))))))))))))))))))))))))))))))))))))))))) (by kernel_rfl) (by kernel_rfl)) q d ?_ ?_
 exact rp (fun V Q U O D=>zAA ((O.old 2 Z).trans h2) zBs sizeOf46 (by decide) Z)<|rp (fun V Q U O D=>(zAC (O.rd 0 _ Z Z) (D.g 0 Z) zAS Z isAgg46 sizeOf46))<|rp (fun V Q U O D=>zA7 (D.g 0 Z) Z underlying46 sizeOf9 e3)<|rp (fun V Q U O D=>(zAT (QRep.ptr (D.g 0 Z)) isAgg9 sizeOf9))<|rp (fun V Q U O D=>zAA ((O.old 3 Z).trans h3) zBs sizeOf46 (by decide) Z)<|rp (fun V Q U O D=>(zAC (O.rd 1 _ Z Z) (D.g 0 Z) zAS Z isAgg46 sizeOf46))<|rp (fun V Q U O D=>zA7 (D.g 0 Z) Z underlying46 sizeOf9 e4)<|rp (fun V Q U O D=>(zAT (QRep.ptr (D.g 0 Z)) isAgg9 sizeOf9))<|rp (fun V Q U O D=>zA8 call180 (zF2 (q6 Z) O.av (hG0.fr (j.tr O.ch (q.ge (⟨Z,⟨Z,N⟩⟩)))) (D.g 0 Z) (D.g 1 Z)))<|rp (fun V Q U O D=>zAA ((O.old 2 Z).trans h2) zBs sizeOf46 (by decide) Z)<|rp (fun V Q U O D=>(zAC (O.rd 0 _ Z Z) (D.g 0 Z) zAS Z isAgg46 sizeOf46))<|rp (fun V Q U O D=>zA7 (D.g 0 Z) Z underlying46 sizeOf9 e7)<|rp (fun V Q U O D=>(zAT (QRep.ptr (D.g 0 Z)) isAgg9 sizeOf9))<|rp (fun V Q U O D=>zA8 call167 (zEW (q9 Z) O.av (hG0.fr (j.tr O.ch (q.ge (⟨Z,⟨Z,N⟩⟩)))) (D.g 0 Z)))<|rp (fun V Q U O D=>zAA ((O.old 3 Z).trans h3) zBs sizeOf46 (by decide) Z)<|rp (fun V Q U O D=>(zAC (O.rd 1 _ Z Z) (D.g 0 Z) zAS Z isAgg46 sizeOf46))<|rp (fun V Q U O D=>zA7 (D.g 0 Z) Z underlying46 sizeOf9 e10)<|rp (fun V Q U O D=>(zAT (QRep.ptr (D.g 0 Z)) isAgg9 sizeOf9))<|rp (fun V Q U O D=>zA8 call167 (zEW (q12 Z) O.av (hG0.fr (j.tr O.ch (q.ge (⟨Z,⟨Z,N⟩⟩)))) (D.g 0 Z)))<|rp (fun V Q U O D=>zA8 call181 (zFE (q14 Z) O.av (D.g 0 Z) (D.g 1 Z)))<|rp (fun V Q U O D=>zAA ((O.old 2 Z).trans h2) zBs sizeOf46 (by decide) Z)<|rp (fun V Q U O D=>(zAC (O.rd 0 _ Z Z) (D.g 0 Z) zAS Z isAgg46 sizeOf46))<|rp (fun V Q U O D=>zA7 (D.g 0 Z) Z underlying46 sizeOf9 e15)<|rp (fun V Q U O D=>(zAT (QRep.ptr (D.g 0 Z)) isAgg9 sizeOf9))<|rp (fun V Q U O D=>zA8 call164 (zEo (q17 Z) O.av (hG0.fr (j.tr O.ch (q.ge (⟨Z,⟨Z,N⟩⟩)))) (D.g 0 Z)))<|rp (fun V Q U O D=>zAA ((O.old 3 Z).trans h3) zBs sizeOf46 (by decide) Z)<|rp (fun V Q U O D=>(zAC (O.rd 1 _ Z Z) (D.g 0 Z) zAS Z isAgg46 sizeOf46))<|rp (fun V Q U O D=>zA7 (D.g 0 Z) Z underlying46 sizeOf9 e18)<|rp (fun V Q U O D=>(zAT (QRep.ptr (D.g 0 Z)) isAgg9 sizeOf9))<|rp (fun V Q U O D=>zA8 call164 (zEo (q20 Z) O.av (hG0.fr (j.tr O.ch (q.ge (⟨Z,⟨Z,N⟩⟩)))) (D.g 0 Z)))<|rp (fun V Q U O D=>zA8 call181 (zFE (q22 Z) O.av (D.g 0 Z) (D.g 1 Z)))<|rp (fun V Q U O D=>zAA ((O.old 2 Z).trans h2) zBs sizeOf46 (by decide) Z)<|rp (fun V Q U O D=>(zAC (O.rd 0 _ Z Z) (D.g 0 Z) zAS Z isAgg46 sizeOf46))<|rp (fun V Q U O D=>zA7 (D.g 0 Z) Z underlying46 sizeOf9 e23)<|rp (fun V Q U O D=>(zAT (QRep.ptr (D.g 0 Z)) isAgg9 sizeOf9))<|rp (fun V Q U O D=>zAA ((O.old 3 Z).trans h3) zBs sizeOf46 (by decide) Z)<|rp (fun V Q U O D=>(zAC (O.rd 1 _ Z Z) (D.g 0 Z) zAS Z isAgg46 sizeOf46))<|rp (fun V Q U O D=>zA7 (D.g 0 Z) Z underlying46 sizeOf9 e24)<|rp (fun V Q U O D=>(zAT (QRep.ptr (D.g 0 Z)) isAgg9 sizeOf9))<|rp (fun V Q U O D=>zA8 call180 (zF2 (q26 Z) O.av (hG0.fr (j.tr O.ch (q.ge (⟨Z,⟨Z,N⟩⟩)))) (D.g 0 Z) (D.g 1 Z)))<|rp (fun V Q U O D=>zAA ((O.old 2 Z).trans h2) zBs sizeOf46 (by decide) Z)<|rp (fun V Q U O D=>(zAC (O.rd 0 _ Z Z) (D.g 0 Z) zAS Z isAgg46 sizeOf46))<|rp (fun V Q U O D=>zA7 (D.g 0 Z) Z underlying46 sizeOf9 e27)<|rp (fun V Q U O D=>(zAT (QRep.ptr (D.g 0 Z)) isAgg9 sizeOf9))<|rp (fun V Q U O D=>zAA ((O.old 3 Z).trans h3) zBs sizeOf46 (by decide) Z)<|rp (fun V Q U O D=>(zAC (O.rd 1 _ Z Z) (D.g 0 Z) zAS Z isAgg46 sizeOf46))<|rp (fun V Q U O D=>zA7 (D.g 0 Z) Z underlying46 sizeOf9 e28)<|rp (fun V Q U O D=>(zAT (QRep.ptr (D.g 0 Z)) isAgg9 sizeOf9))<|rp (fun V Q U O D=>zA8 call182 (zGq (q30 Z) O.av (hG0.fr (j.tr O.ch (q.ge (⟨Z,⟨Z,N⟩⟩)))) (D.g 0 Z) (D.g 1 Z)))<|rp (fun V Q U O D=>zAA ((O.old 2 Z).trans h2) zBs sizeOf46 (by decide) Z)<|rp (fun V Q U O D=>(zAC (O.rd 0 _ Z Z) (D.g 0 Z) zAS Z isAgg46 sizeOf46))<|rp (fun V Q U O D=>zA7 (D.g 0 Z) Z underlying46 sizeOf9 e31)<|rp (fun V Q U O D=>(zAT (QRep.ptr (D.g 0 Z)) isAgg9 sizeOf9))<|rp (fun V Q U O D=>zAA ((O.old 3 Z).trans h3) zBs sizeOf46 (by decide) Z)<|rp (fun V Q U O D=>(zAC (O.rd 1 _ Z Z) (D.g 0 Z) zAS Z isAgg46 sizeOf46))<|rp (fun V Q U O D=>zA7 (D.g 0 Z) Z underlying46 sizeOf9 e32)<|rp (fun V Q U O D=>(zAT (QRep.ptr (D.g 0 Z)) isAgg9 sizeOf9))<|rp (fun V Q U O D=>zA8 call183 (zGi (q34 Z) O.av (D.g 0 Z) (D.g 1 Z)))<|rc (OblR.made _ Z Z Z Z fun V Q U O D=>by have a0:Q 13 = .int .i64 x5:=D.g 0 Z;have a1:Q 24 = .int .i64 x13:=D.g 1 Z;have a2:Q 35 = .int .i64 x21:=D.g 2 Z;have a3:Q 44 = .int .i64 x25:=D.g 3 Z;have a4:Q 53 = .int .i64 x29:=D.g 4 Z;have a5:Q 62 = .int .i64 x33:=D.g 5 Z;exact zBW [_,_,_,_,_,_] (E:=eInt .i64) ⟨(zAa.eq a0),⟨(zAa.eq a1),⟨(zAa.eq a2),⟨(zAa.eq a3),⟨(zAa.eq a4),⟨(zAa.eq a5),N⟩⟩⟩⟩⟩⟩ underlying27 sizeOf3 zeroValue3 Z Z Z (Nat.le_trans j.size O.ch.size))<|rc (OblR.took 60 _ _ Z Z Z Z Z fun V Q U O D u X Y J L M=>by exact zAK (L _ _ Z Z Z Z).symm X Y)<|rz
 intro done ρ σ A R w y s
 have z35:=s.inivR 0 Z
 have z36:=s.inivR 1 Z
 obtain ⟨u37,e_u37⟩:∃ u,ρ 61=u:=⟨_,Z⟩
 have h4:=s.ov y 61 59 e_u37
 obtain ⟨B,j,d⟩:=s.s B C j q ⟨Z,⟨Z,N⟩⟩
 replace q:=s.left y [(61,ob u37 (.vec w0.heap.size 3 (eInt .i64) ([x5,x13,x21,x25,x29,x33]:List Int)))] ⟨Z,Z,e_u37,Z,Z,N⟩
 refine HT.ret ?_
 obtain rfl:=si c
 exact ⟨.inr Z,[R 4],⟨Z,N⟩,(zCj (q.ok 0 _ Z) B h4),j⟩
def zAv (fu:Nat) (p0:zAI) (p1:zAI):Option (List Int):=
 cl true (zBl fu p0) fun x3=>
 cl (true&&((!x3)==false)) (zBl fu p1) fun x5=>
 bd ((!x3) || (!x5)) fun x7=>
 bif x7 then (
 some ([]:List Int)
 ) else (
 cl true (zEM fu p0 p1) fun x11=>
 some x11
 )
theorem zG5 {fu : Nat} {A0 : Av} {p0 : zAI} {p1 : zAI} {r : List Int} (c : zAv fu p0 p1 = some r) {w : World} {v0 : Value} {v1 : Value} (d : AvOK A0 w) (hG : GTab w) (h0 : Rep zA0 A0 w v0 p0) (h1 : Rep zA0 A0 w v1 p1) :
 Calls prog 56 #[v0,v1] w fun e w'=>∃ v,e = .returned v∧((Res.vec w.heap.size 3 (eInt .i64) r).ok (addA A0 v) v w'∧Fr w w'):=by
 unfold zAv at c
 obtain ⟨w0,hw0,j,C⟩:=pw d
 have hA00:AvOK A0 w0:=C
 rw [fh hw0]
 rw [fw hw0]
 have hG0:GTab w0:=hw0 ▸ hG
 obtain ⟨A,hAe,B,d,q⟩:=pa d
 refine zA3 [.tmp 4] func56 ntmps56 (by decide) Z Z (nb Z) ?_
 intro R hR
 have f_v0:Rep zA0 A w v0 p0:=hAe ▸ h0
 replace h0:R 0=v0:=hR 0 _ Z
 have f_v1:Rep zA0 A w v1 p1:=hAe ▸ h1
 replace h1:R 1=v1:=hR 1 _ Z
 refine zQC [] (⟨_,true,[],some (.box w0.heap.size 51 zA0 p0),true,fun A=>.any⟩::⟨_,true,[],some (.box w0.heap.size 51 zA0 p1),true,fun A=>.any⟩::rA::[]) (ua (ua (ua (UAll.nil)))) q d ?_ ?_
 exact rc (OblR.made _ Z Z Z Z fun V Q U O D=>by have a0:Q 0=v0:=(O.old 0 Z).trans h0;have ra0:=(f_v0.stp O.stp).eq a0;exact zEa ra0 (Nat.le_trans j.size O.ch.size))<|rc (OblR.made _ Z Z Z Z fun V Q U O D=>by have a0:Q 1=v1:=(O.old 1 Z).trans h1;have ra0:=(f_v1.stp O.stp).eq a0;exact zEa ra0 (Nat.le_trans j.size O.ch.size))<|rp (fun V Q U O D=>zA2 N)<|rz
 intro done ρ σ A R w y s
 obtain ⟨b2_0,e_b2_0⟩:=s.boxv y 0 Z Z
 have h2:=s.ov y 0 0 e_b2_0
 obtain ⟨b3_1,e_b3_1⟩:=s.boxv y 1 Z Z
 have h3:=s.ov y 1 1 e_b3_1
 obtain ⟨B,j,d⟩:=s.s B C j q N
 replace q:=s.left y [(0,ob (.pointer (some ⟨b2_0,0,none⟩)) (.box w0.heap.size 51 zA0 p0)),(1,ob (.pointer (some ⟨b3_1,0,none⟩)) (.box w0.heap.size 51 zA0 p1))] ⟨Z,Z,e_b2_0,Z,Z,⟨Z,Z,e_b3_1,Z,Z,N⟩⟩
 refine zQ9 ?_
 refine zQ9 ?_
 obtain ⟨x3,q4,c⟩:=zA4 c
 obtain ⟨x5,q6,c⟩:=zA4 c
 obtain ⟨x7,q8,c⟩:=zAD c
 refine HT.u d j (eF (.rep zA0 A p0)::eB x3::eB (!x3)::eB (!x3)::gF (true&&((!x3)==false)) (.rep zA0 A p1)::gB (true&&((!x3)==false)) x5::gB (true&&((!x3)==false)) (!x5)::eB x7::[]) ?_ ?_
 exact op (fun Q U W H D=>(zAC ((q.fr W).ok 0 _ Z).1 ((H 2 Z).trans h2) (Fld.id _) Z isAgg51 sizeOf51))<|op (fun Q U W H D=>zA8 call113 (zEL (q4 Z) (d.fr W.size) (D.g 0 Z)))<|op (fun Q U W H D=>zBq (D.g 0 Z))<|ov<|og 3 false (fun G Q U W H D=>(zAC ((q.fr W).ok 1 _ Z).1 ((H 3 Z).trans h3) (Fld.id _) Z isAgg51 sizeOf51))<|og 3 false (fun G Q U W H D=>zA8 call113 (zEL (q6 G) (d.fr W.size) (D.h 0 G Z)))<|og 3 false (fun G Q U W H D=>zBq (D.h 0 G Z))<|op (fun Q U W H D=>zAF (!x3) (D.g 0 Z) (fun hc=>by show _=Value.bool x7;rw [q8,hc];exact Z) (fun hc=>by have a2:Q 11 = .bool (!x5):=D 1 _ _ _ Z Z Z Z (zAc Z (zAP hc));show _=Value.bool x7;rw [q8,hc];exact a2))<|oz
 intro R w m n p d j
 obtain ⟨h2,h3⟩:=k2 n h2 h3
 have h12:=p.r 7 Z
 replace q:=q.fr m
 refine zQ2 x7 h12 (fun c9=>?_) (fun c9=>?_)
 have c:=zAO c9 c
 refine zQB d j (eR (.slice none 0 0)::[]) ?_ ?_
 exact op (fun Q U W H D=>zA2 Z)<|oz
 intro R w m n p d j
 obtain ⟨u10,n_u10⟩:∃ u,u=Value.slice none 0 0:=⟨_,Z⟩
 have h4:R 4=u10:=(p 0 _ _ Z Z Z).trans n_u10.symm
 replace q:=q.fr m
 replace q:IniOK [] A w:=q.sub [] N
 replace q:=q.nilcons (u:=u10) n_u10 w0.heap.size 3 (eInt .i64)
 refine HT.ret ?_
 obtain rfl:=si c
 exact ⟨.inr Z,[R 4],⟨Z,N⟩,(zCj (q.ok 0 _ Z) B h4),j⟩
 have c:=zAN c9 c
 refine zQA ?_
 obtain ⟨x11,q12,c⟩:=zA4 c
 refine zQC [ob (.pointer (some ⟨b2_0,0,none⟩)) (.box w0.heap.size 51 zA0 p0),ob (.pointer (some ⟨b3_1,0,none⟩)) (.box w0.heap.size 51 zA0 p1)] ((rF fun A=>.rep zA0 A p0)::(rF fun A=>.rep zA0 A p1)::⟨_,true,[],some (.vec w0.heap.size 3 (eInt .i64) x11),true,fun A=>.any⟩::⟨_,true,[4],some (.vec w0.heap.size 3 (eInt .i64) x11),true,fun A=>.any⟩::[]) (up (up (ua (ua (UAll.nil))))) q d ?_ ?_
 exact rp (fun V Q U O D=>(zAC (O.rd 0 _ Z Z) ((O.old 2 Z).trans h2) (Fld.id _) Z isAgg51 sizeOf51))<|rp (fun V Q U O D=>(zAC (O.rd 1 _ Z Z) ((O.old 3 Z).trans h3) (Fld.id _) Z isAgg51 sizeOf51))<|rc (OblR.made _ Z Z Z Z fun V Q U O D=>by have a0:Rep zA0 V U (Q 13) p0:=D.g 0 Z;have a1:Rep zA0 V U (Q 14) p1:=D.g 1 Z;exact zFa call125 (zH8 (q12 Z) O.av (hG0.fr (j.tr O.ch (q.ge (⟨Z,⟨Z,N⟩⟩)))) a0 a1) (Nat.le_trans j.size O.ch.size))<|rc (OblR.took 4 _ _ Z Z Z Z Z fun V Q U O D u X Y J L M=>by exact zAK (L _ _ Z Z Z Z).symm X Y)<|rz
 intro done ρ σ A R w y s
 have z13:=s.inivR 0 Z
 have z14:=s.inivR 1 Z
 obtain ⟨u15,e_u15⟩:∃ u,ρ 5=u:=⟨_,Z⟩
 have h4:=s.ov y 5 3 e_u15
 obtain ⟨B,j,d⟩:=s.s B C j q ⟨Z,⟨Z,N⟩⟩
 replace q:=s.left y [(5,ob u15 (.vec w0.heap.size 3 (eInt .i64) x11))] ⟨Z,Z,e_u15,Z,Z,N⟩
 refine HT.ret ?_
 obtain rfl:=si c
 exact ⟨.inr Z,[R 4],⟨Z,N⟩,(zCj (q.ok 0 _ Z) B h4),j⟩
theorem zD5 {fu : Nat} {A0 : Av} {p0 : zAI} {p1 : zAI} {r : List Int} (c : zAv fu p0 p1 = some r) {w : World} {v0 : Value} {v1 : Value} (d : AvOK A0 w) (hG : GTab w) (h0 : Rep zA0 A0 w v0 p0) (h1 : Rep zA0 A0 w v1 p1) :
 Calls prog 56 #[v0,v1] w fun e w'=>∃ v,e = .returned v∧(Rep (eSl (eInt .i64)) A0 w' v r∧Fr w w'):=by
 refine Calls.mono (zG5 c d hG h0 h1) ?_
 rintro e w' ⟨v,he,hv,hf⟩
 exact ⟨v,he,zD2 hv (fun b o h=>.inl h) d,hf⟩
def zCE (fu : Nat) (p0 : List UInt8) : Nat → Int → Option (Ex Bool Unit)
 | 0,_=>none
 | k+1,y4=>
 bif (decide (y4<(p0.length:Int))) then (
 ck (inR y4 p0.length) <|
 ck (!(true&&((decide ((bAt p0 y4)<32))==false)) || inR y4 p0.length) <|
 bd ((decide ((bAt p0 y4)<32)) || (decide (126<(bAt p0 y4)))) fun x8=>
 bif x8 then (
 some (Ex.ret false)
 ) else (
 ck (i64B (y4+1)) <|
 zCE fu p0 k (y4+1)
 )
 ) else (
 some (Ex.go ())
 )
def zE9 (fu:Nat) (p0:List UInt8):Option Bool:=
 cl true (zCE fu p0 fu 0) fun rl1=>
 exM rl1 (fun r=>some r) fun s3=>
 some (decide ((p0.length:Int)≤40))
theorem zHq {fu : Nat} {A : Av} {p0 : List UInt8} {r : Bool} (c : zE9 fu p0 = some r) {w : World} {v0 : Value} (d : AvOK A w) (h0 : Rep eStr A w v0 p0) :
 Calls prog 187 #[v0] w fun e w'=>∃ v,e = .returned v∧(v = .bool r∧Fr w w'):=by
 unfold zE9 at c
 obtain ⟨w0,hw0,j⟩:=pf w
 rw [fw hw0]
 refine zA3 [.tmp 2] func187 ntmps187 (by decide) Z Z (nb Z) ?_
 intro R hR
 have f_v0:=h0
 replace h0:R 0=v0:=hR 0 _ Z
 refine zQB d j (eB false::[]) ?_ ?_
 exact op (fun Q U W H D=>zA2 Z)<|oz
 intro R w m n p d j
 replace h0:=k1 n h0
 replace f_v0:=f_v0.fr m
 refine zQ9 ?_
 refine zQB d j (eI 0::[]) ?_ ?_
 exact op (fun Q U W H D=>zA2 Z)<|oz
 intro R w m n p d j
 replace h0:=k1 n h0
 have h3:=p.r 0 Z
 replace f_v0:=f_v0.fr m
 obtain ⟨rl1,q2,c⟩:=zA4 c
 replace q2:=q2 Z
 refine zQ4 (fun R w=>∃ (s3:Unit),rl1=Ex.go s3∧AvOK A w∧Fr w0 w∧R 0=v0∧Rep eStr A w v0 p0) ?_ ?_
 refine HT.block ?_
 refine zQ8 (fun k R w=>∃ (y4:Int),zCE fu p0 k y4=some rl1∧AvOK A w∧Fr w0 w∧R 0=v0∧R 3 = .int .i64 y4∧Rep eStr A w v0 p0) fu ⟨_,q2,d,j,h0,h3,f_v0⟩ ?_
 have hr0:=c;clear c q2
 rintro k R w ⟨y4,c,d,j,h0,h3,f_v0⟩
 rcases k with _ | k
 cases (show none=some _ from c)
 rw [zCE] at c
 refine zQ9 ?_
 refine zQB d j (eI y4::eR v0::eI (p0.length:Int)::eB (decide (y4<(p0.length:Int)))::[]) ?_ ?_
 exact om h3<|om h0<|op (fun Q U W H D=>zAJ ((f_v0.fr W).eq (D.g 0 Z)) underlying9)<|op (fun Q U W H D=>zAu (D.g 0 Z) (D.g 1 Z))<|oz
 intro R w m n p d j
 obtain ⟨h0,h3⟩:=k2 n h0 h3
 have h7:=p.r 3 Z
 replace f_v0:=f_v0.fr m
 refine zQ2 (decide (y4<(p0.length:Int))) h7 (fun c5=>?_) (fun c5=>?_)
 have c:=zAO c5 c
 refine zQA ?_
 refine zQ9 ?_
 refine HT.block ?_
 refine zQ9 ?_
 obtain ⟨e6,e7,c⟩:=ck2 c
 obtain ⟨x8,q9,c⟩:=zAD c
 refine HT.u d j (eR v0::eI y4::eU (bAt p0 y4)::eB (decide ((bAt p0 y4)<32))::eB (decide ((bAt p0 y4)<32))::gR (true&&((decide ((bAt p0 y4)<32))==false)) v0::gI (true&&((decide ((bAt p0 y4)<32))==false)) y4::gU (true&&((decide ((bAt p0 y4)<32))==false)) (bAt p0 y4)::gB (true&&((decide ((bAt p0 y4)<32))==false)) (decide (126<(bAt p0 y4)))::eB x8::[]) ?_ ?_
 exact om h0<|om h3<|op (fun Q U W H D=>zAB ((f_v0.fr W).eq (D.g 0 Z)) (D.g 1 Z) underlying9 e6)<|op (fun Q U W H D=>zAu (D.g 0 Z) Z)<|ov<|gm 4 false h0<|gm 4 false h3<|og 4 false (fun G Q U W H D=>zAB ((f_v0.fr W).eq (D.h 0 G Z)) (D.h 1 G Z) underlying9 (gd e7 G))<|og 4 false (fun G Q U W H D=>zCM (D.h 0 G Z) Z)<|op (fun Q U W H D=>zAF (decide ((bAt p0 y4)<32)) (D.g 0 Z) (fun hc=>by show _=Value.bool x8;rw [q9,hc];exact Z) (fun hc=>by have a2:Q 18 = .bool (decide (126<(bAt p0 y4))):=D 1 _ _ _ Z Z Z Z (zAc Z (zAP hc));show _=Value.bool x8;rw [q9,hc];exact a2))<|oz
 intro R w m n p d j
 obtain ⟨h0,h3⟩:=k2 n h0 h3
 have h19:=p.r 9 Z
 replace f_v0:=f_v0.fr m
 refine zQ2 x8 h19 (fun c10=>?_) (fun c10=>?_)
 have c:=zAO c10 c
 refine zQB d j (eB false::[]) ?_ ?_
 exact op (fun Q U W H D=>zA2 Z)<|oz
 intro R w m n p d j
 have h2:=p.r 0 Z
 refine HT.ret ?_
 obtain rfl:=si c
 have c:=hr0
 replace c:some _=some _:=c
 obtain rfl:=si c
 exact ⟨.inr Z,[R 2],⟨Z,N⟩,h2,j⟩
 have c:=zAN c10 c
 refine zQA ?_
 obtain ⟨e11,c⟩:=zA5 c
 refine HT.u d j (eI y4::eI (y4+1)::eI (y4+1)::[]) ?_ ?_
 exact om h3<|op (fun Q U W H D=>zAR (D.g 0 Z) Z e11)<|oa<|oz
 intro R w m n p d j
 replace h0:=k1 n h0
 have h3:=p.r 2 Z
 replace f_v0:=f_v0.fr m
 exact ei k (And.intro (Nat.lt_succ_self k) ⟨_,c,d,j,h0,h3,f_v0⟩)
 have c:=zAN c5 c
 refine zQ7 ?_
 obtain rfl:=si c
 exact ei _ ⟨Z,d,j,h0,f_v0⟩
 rintro R w ⟨s3,rfl,d,j,h0,f_v0⟩
 have c:=zF6 c
 refine zQB d j (eR v0::eI (p0.length:Int)::eB (decide ((p0.length:Int)≤40))::eB (decide ((p0.length:Int)≤40))::[]) ?_ ?_
 exact om h0<|op (fun Q U W H D=>zAJ ((f_v0.fr W).eq (D.g 0 Z)) underlying9)<|op (fun Q U W H D=>zDp (D.g 0 Z) Z)<|oa<|oz
 intro R w m n p d j
 have h2:=p.r 3 Z
 refine HT.ret ?_
 obtain rfl:=si c
 exact ⟨.inr Z,[R 2],⟨Z,N⟩,h2,j⟩
def zBt (fu : Nat) (p0 : List UInt8) : Nat → Int → Option (Ex Bool Unit)
 | 0,_=>none
 | k+1,y4=>
 bif (decide (y4<(p0.length:Int))) then (
 ck (inR y4 p0.length) <|
 ck (!(true&&(((bAt p0 y4)==124)==false)) || inR y4 p0.length) <|
 bd (((bAt p0 y4)==124) || ((bAt p0 y4)==59)) fun x8=>
 bif x8 then (
 some (Ex.ret false)
 ) else (
 ck (i64B (y4+1)) <|
 zBt fu p0 k (y4+1)
 )
 ) else (
 some (Ex.go ())
 )
def zDg (fu:Nat) (p0:List UInt8):Option Bool:=
 cl true (zBt fu p0 fu 0) fun rl1=>
 exM rl1 (fun r=>some r) fun s3=>
 cl true (zE9 fu p0) fun x12=>
 some x12
theorem zHQ {fu : Nat} {A : Av} {p0 : List UInt8} {r : Bool} (c : zDg fu p0 = some r) {w : World} {v0 : Value} (d : AvOK A w) (h0 : Rep eStr A w v0 p0) :
 Calls prog 130 #[v0] w fun e w'=>∃ v,e = .returned v∧(v = .bool r∧Fr w w'):=by
 unfold zDg at c
 obtain ⟨w0,hw0,j⟩:=pf w
 rw [fw hw0]
 refine zA3 [.tmp 2] func130 ntmps130 (by decide) Z Z (nb Z) ?_
 intro R hR
 have f_v0:=h0
 replace h0:R 0=v0:=hR 0 _ Z
 refine zQB d j (eB false::[]) ?_ ?_
 exact op (fun Q U W H D=>zA2 Z)<|oz
 intro R w m n p d j
 replace h0:=k1 n h0
 replace f_v0:=f_v0.fr m
 refine zQ9 ?_
 refine zQB d j (eI 0::[]) ?_ ?_
 exact op (fun Q U W H D=>zA2 Z)<|oz
 intro R w m n p d j
 replace h0:=k1 n h0
 have h3:=p.r 0 Z
 replace f_v0:=f_v0.fr m
 obtain ⟨rl1,q2,c⟩:=zA4 c
 replace q2:=q2 Z
 refine zQ4 (fun R w=>∃ (s3:Unit),rl1=Ex.go s3∧AvOK A w∧Fr w0 w∧R 0=v0∧Rep eStr A w v0 p0) ?_ ?_
 refine HT.block ?_
 refine zQ8 (fun k R w=>∃ (y4:Int),zBt fu p0 k y4=some rl1∧AvOK A w∧Fr w0 w∧R 0=v0∧R 3 = .int .i64 y4∧Rep eStr A w v0 p0) fu ⟨_,q2,d,j,h0,h3,f_v0⟩ ?_
 have hr0:=c;clear c q2
 rintro k R w ⟨y4,c,d,j,h0,h3,f_v0⟩
 rcases k with _ | k
 cases (show none=some _ from c)
 rw [zBt] at c
 refine zQ9 ?_
 refine zQB d j (eI y4::eR v0::eI (p0.length:Int)::eB (decide (y4<(p0.length:Int)))::[]) ?_ ?_
 exact om h3<|om h0<|op (fun Q U W H D=>zAJ ((f_v0.fr W).eq (D.g 0 Z)) underlying9)<|op (fun Q U W H D=>zAu (D.g 0 Z) (D.g 1 Z))<|oz
 intro R w m n p d j
 obtain ⟨h0,h3⟩:=k2 n h0 h3
 have h7:=p.r 3 Z
 replace f_v0:=f_v0.fr m
 refine zQ2 (decide (y4<(p0.length:Int))) h7 (fun c5=>?_) (fun c5=>?_)
 have c:=zAO c5 c
 refine zQA ?_
 refine zQ9 ?_
 refine HT.block ?_
 refine zQ9 ?_
 obtain ⟨e6,e7,c⟩:=ck2 c
 obtain ⟨x8,q9,c⟩:=zAD c
 refine HT.u d j (eR v0::eI y4::eU (bAt p0 y4)::eB ((bAt p0 y4)==124)::eB ((bAt p0 y4)==124)::gR (true&&(((bAt p0 y4)==124)==false)) v0::gI (true&&(((bAt p0 y4)==124)==false)) y4::gU (true&&(((bAt p0 y4)==124)==false)) (bAt p0 y4)::gB (true&&(((bAt p0 y4)==124)==false)) ((bAt p0 y4)==59)::eB x8::[]) ?_ ?_
 exact om h0<|om h3<|op (fun Q U W H D=>zAB ((f_v0.fr W).eq (D.g 0 Z)) (D.g 1 Z) underlying9 e6)<|op (fun Q U W H D=>zAo (D.g 0 Z) Z)<|ov<|gm 4 false h0<|gm 4 false h3<|og 4 false (fun G Q U W H D=>zAB ((f_v0.fr W).eq (D.h 0 G Z)) (D.h 1 G Z) underlying9 (gd e7 G))<|og 4 false (fun G Q U W H D=>zAo (D.h 0 G Z) Z)<|op (fun Q U W H D=>zAF ((bAt p0 y4)==124) (D.g 0 Z) (fun hc=>by show _=Value.bool x8;rw [q9,hc];exact Z) (fun hc=>by have a2:Q 18 = .bool ((bAt p0 y4)==59):=D 1 _ _ _ Z Z Z Z (zAc Z (zAP hc));show _=Value.bool x8;rw [q9,hc];exact a2))<|oz
 intro R w m n p d j
 obtain ⟨h0,h3⟩:=k2 n h0 h3
 have h19:=p.r 9 Z
 replace f_v0:=f_v0.fr m
 refine zQ2 x8 h19 (fun c10=>?_) (fun c10=>?_)
 have c:=zAO c10 c
 refine zQB d j (eB false::[]) ?_ ?_
 exact op (fun Q U W H D=>zA2 Z)<|oz
 intro R w m n p d j
 have h2:=p.r 0 Z
 refine HT.ret ?_
 obtain rfl:=si c
 have c:=hr0
 replace c:some _=some _:=c
 obtain rfl:=si c
 exact ⟨.inr Z,[R 2],⟨Z,N⟩,h2,j⟩
 have c:=zAN c10 c
 refine zQA ?_
 obtain ⟨e11,c⟩:=zA5 c
 refine HT.u d j (eI y4::eI (y4+1)::eI (y4+1)::[]) ?_ ?_
 exact om h3<|op (fun Q U W H D=>zAR (D.g 0 Z) Z e11)<|oa<|oz
 intro R w m n p d j
 replace h0:=k1 n h0
 have h3:=p.r 2 Z
 replace f_v0:=f_v0.fr m
 exact ei k (And.intro (Nat.lt_succ_self k) ⟨_,c,d,j,h0,h3,f_v0⟩)
 have c:=zAN c5 c
 refine zQ7 ?_
 obtain rfl:=si c
 exact ei _ ⟨Z,d,j,h0,f_v0⟩
 rintro R w ⟨s3,rfl,d,j,h0,f_v0⟩
 have c:=zF6 c
 obtain ⟨x12,q13,c⟩:=zA4 c
 refine zQB d j (eR v0::eB x12::eB x12::[]) ?_ ?_
 exact om h0<|op (fun Q U W H D=>zA8 call187 (zHq (q13 Z) (d.fr W.size) ((f_v0.fr W).eq (D.g 0 Z))))<|oa<|oz
 intro R w m n p d j
 have h2:=p.r 2 Z
 refine HT.ret ?_
 obtain rfl:=si c
 exact ⟨.inr Z,[R 2],⟨Z,N⟩,h2,j⟩
def zD4 (fu:Nat) (p0:Int) (p1:Int) (p2:Int):Option Bool:=
 bd ((decide (p1≤p0))&&(decide (p0≤p2))) fun x1=>
 some x1
theorem zDG {fu : Nat} {A : Av} {p0 : Int} {p1 : Int} {p2 : Int} {r : Bool} (c : zD4 fu p0 p1 p2 = some r) {w : World} {v0 : Value} {v1 : Value} {v2 : Value} (d : AvOK A w) (h0 : v0 = .int .i64 p0) (h1 : v1 = .int .i64 p1) (h2 : v2 = .int .i64 p2) :
 Calls prog 99 #[v0,v1,v2] w fun e w'=>∃ v,e = .returned v∧(v = .bool r∧Fr w w'):=by
 unfold zD4 at c
 obtain ⟨w0,hw0,j⟩:=pf w
 rw [fw hw0]
 refine zA3 [.tmp 6] func99 ntmps99 (by decide) Z Z (nb Z) ?_
 intro R hR
 replace h0:R 0 = .int .i64 p0:=(hR 0 _ Z).trans h0
 replace h1:R 1 = .int .i64 p1:=(hR 1 _ Z).trans h1
 replace h2:R 2 = .int .i64 p2:=(hR 2 _ Z).trans h2
 refine zQB d j (eB false::[]) ?_ ?_
 exact op (fun Q U W H D=>zA2 Z)<|oz
 intro R w m n p d j
 obtain ⟨h0,h1,h2⟩:=k3 n h0 h1 h2
 refine zQ9 ?_
 obtain ⟨x1,q2,c⟩:=zAD c
 refine HT.u d j (eI p0::eI p1::eB (decide (p1≤p0))::eB (decide (p1≤p0))::gI (true&&((decide (p1≤p0))==true)) p0::gI (true&&((decide (p1≤p0))==true)) p2::gB (true&&((decide (p1≤p0))==true)) (decide (p0≤p2))::eB x1::eB x1::[]) ?_ ?_
 exact om h0<|om h1<|op (fun Q U W H D=>zDs (D.g 0 Z) (D.g 1 Z))<|ov<|gm 3 true h0<|gm 3 true h2<|og 3 true (fun G Q U W H D=>zDp (D.h 0 G Z) (D.h 1 G Z))<|op (fun Q U W H D=>zAF (decide (p1≤p0)) (D.g 0 Z) (fun hc=>by have a1:Q 13 = .bool (decide (p0≤p2)):=D 1 _ _ _ Z Z Z Z (zAc Z (zAP hc));show _=Value.bool x1;rw [q2,hc];exact a1) (fun hc=>by show _=Value.bool x1;rw [q2,hc];exact Z))<|oa<|oz
 intro R w m n p d j
 have h6:=p.r 8 Z
 refine HT.ret ?_
 obtain rfl:=si c
 exact ⟨.inr Z,[R 6],⟨Z,N⟩,h6,j⟩
def zB9 (fu : Nat) (p0 : zAI) : Nat → Int → Option (Ex Bool Unit)
 | 0,_=>none
 | k+1,y5=>
 bif (decide (y5<(p0.2.2.2.length:Int))) then (
 ck (inR y5 p0.2.2.2.length) <|
 cl true (zDg fu (gtD p0.2.2.2 y5)) fun x8=>
 bif (!x8) then (
 some (Ex.ret false)
 ) else (
 ck (i64B (y5+1)) <|
 zB9 fu p0 k (y5+1)
 )
 ) else (
 some (Ex.go ())
 )
def zBI (fu:Nat) (p0:zAI):Option Bool:=
 cl true (zB9 fu p0 fu 0) fun rl2=>
 exM rl2 (fun r=>some r) fun s4=>
 cl true (zD4 fu p0.1 0 3) fun x12=>
 cl (true&&(x12==true)) (zD4 fu p0.2.1 1 99) fun x14=>
 bd (x12&&x14) fun x16=>
 cl (true&&(x16==true)) (zD4 fu p0.2.2.1 1 999) fun x18=>
 bd (x16&&x18) fun x20=>
 bd (x20&&((p0.2.2.2.length:Int)==4)) fun x22=>
 some x22
theorem zCN {fu : Nat} {A0 : Av} {p0 : zAI} {r : Bool} (c : zBI fu p0 = some r) {w : World} {v0 : Value} (d : AvOK A0 w) (h0 : Rep zA0 A0 w v0 p0) :
 Calls prog 59 #[v0] w fun e w'=>∃ v,e = .returned v∧(v = .bool r∧Fr w w'):=by
 unfold zBI at c
 obtain ⟨w0,hw0,j,C⟩:=pw d
 have hA00:AvOK A0 w0:=C
 rw [fw hw0]
 obtain ⟨A,hAe,B,d,q⟩:=pa d
 refine zA3 [.tmp 2] func59 ntmps59 (by decide) Z Z (nb Z) ?_
 intro R hR
 have f_v0:Rep zA0 A w v0 p0:=hAe ▸ h0
 replace h0:R 0=v0:=hR 0 _ Z
 refine zQC [] (⟨_,true,[],some (.box w0.heap.size 51 zA0 p0),true,fun A=>.any⟩::rB false::[]) (ua (ur (UAll.nil))) q d ?_ ?_
 exact rc (OblR.made _ Z Z Z Z fun V Q U O D=>by have a0:Q 0=v0:=(O.old 0 Z).trans h0;have ra0:=(f_v0.stp O.stp).eq a0;exact zEa ra0 (Nat.le_trans j.size O.ch.size))<|rp (fun V Q U O D=>zA2 Z)<|rz
 intro done ρ σ A R w y s
 obtain ⟨b1_0,e_b1_0⟩:=s.boxv y 0 Z Z
 have h1:=s.ov y 0 0 e_b1_0
 obtain ⟨B,j,d⟩:=s.s B C j q N
 replace q:=s.left y [(0,ob (.pointer (some ⟨b1_0,0,none⟩)) (.box w0.heap.size 51 zA0 p0))] ⟨Z,Z,e_b1_0,Z,Z,N⟩
 refine zQ9 ?_
 refine zQB d j (eI 0::[]) ?_ ?_
 exact op (fun Q U W H D=>zA2 Z)<|oz
 intro R w m n p d j
 replace h1:=k1 n h1
 have h3:=p.r 0 Z
 replace q:=q.fr m
 obtain ⟨rl2,q3,c⟩:=zA4 c
 replace q3:=q3 Z
 refine zQ4 (fun R w=>∃ A:Av,∃ (s4:Unit),rl2=Ex.go s4∧AvOK A w∧Fr w0 w∧(∀ b o,A0 b o→A b o)∧IniOK [ob (.pointer (some ⟨b1_0,0,none⟩)) (.box w0.heap.size 51 zA0 p0)] A w∧R 1=(.pointer (some ⟨b1_0,0,none⟩))) ?_ ?_
 refine HT.block ?_
 refine zQ8 (fun k R w=>∃ A:Av,∃ (y5:Int),zB9 fu p0 k y5=some rl2∧AvOK A w∧Fr w0 w∧(∀ b o,A0 b o→A b o)∧IniOK [ob (.pointer (some ⟨b1_0,0,none⟩)) (.box w0.heap.size 51 zA0 p0)] A w∧R 1=(.pointer (some ⟨b1_0,0,none⟩))∧R 3 = .int .i64 y5) fu ⟨_,_,q3,d,j,B,q,h1,h3⟩ ?_
 have hr0:=c;clear c q3
 rintro k R w ⟨A,y5,c,d,j,B,q,h1,h3⟩
 rcases k with _ | k
 cases (show none=some _ from c)
 rw [zB9] at c
 refine zQ9 ?_
 refine zQB d j (eI y5::eR (.pointer (some ⟨b1_0,3,none⟩))::eF (.rep (eSl eStr) A p0.2.2.2)::eI (p0.2.2.2.length:Int)::eB (decide (y5<(p0.2.2.2.length:Int)))::[]) ?_ ?_
 exact om h3<|op (fun Q U W H D=>zAA ((H 1 Z).trans h1) zBs sizeOf46 (by decide) Z)<|op (fun Q U W H D=>(zAC ((q.fr W).ok 0 _ Z).1 (D.g 0 Z) zAS Z isAgg46 sizeOf46))<|op (fun Q U W H D=>zAe (aT:=#[]) (D.g 0 Z) underlying46)<|op (fun Q U W H D=>zAu (D.g 0 Z) (D.g 1 Z))<|oz
 intro R w m n p d j
 obtain ⟨h1,h3⟩:=k2 n h1 h3
 have h8:=p.r 4 Z
 replace q:=q.fr m
 refine zQ2 (decide (y5<(p0.2.2.2.length:Int))) h8 (fun c6=>?_) (fun c6=>?_)
 have c:=zAO c6 c
 refine zQA ?_
 refine zQ9 ?_
 refine HT.block ?_
 obtain ⟨e7,c⟩:=zA5 c
 obtain ⟨x8,q9,c⟩:=zA4 c
 refine zQB d j (eR (.pointer (some ⟨b1_0,3,none⟩))::eF (.rep (eSl eStr) A p0.2.2.2)::eI y5::eF (.qtr eStr A (gtD p0.2.2.2 y5))::eF (.rep eStr A (gtD p0.2.2.2 y5))::eB x8::eB (!x8)::[]) ?_ ?_
 exact op (fun Q U W H D=>zAA ((H 1 Z).trans h1) zBs sizeOf46 (by decide) Z)<|op (fun Q U W H D=>(zAC ((q.fr W).ok 0 _ Z).1 (D.g 0 Z) zAS Z isAgg46 sizeOf46))<|om h3<|op (fun Q U W H D=>zA7 (D.g 0 Z) (D.g 1 Z) underlying46 sizeOf9 e7)<|op (fun Q U W H D=>(zAT (QRep.ptr (D.g 0 Z)) isAgg9 sizeOf9))<|op (fun Q U W H D=>zA8 call130 (zHQ (q9 Z) (d.fr W.size) (D.g 0 Z)))<|op (fun Q U W H D=>zBq (D.g 0 Z))<|oz
 intro R w m n p d j
 obtain ⟨h1,h3⟩:=k2 n h1 h3
 have h17:=p.r 6 Z
 replace q:=q.fr m
 refine zQ2 (!x8) h17 (fun c10=>?_) (fun c10=>?_)
 have c:=zAO c10 c
 refine zQB d j (eB false::[]) ?_ ?_
 exact op (fun Q U W H D=>zA2 Z)<|oz
 intro R w m n p d j
 have h2:=p.r 0 Z
 replace q:=q.fr m
 replace q:IniOK [] A w:=q.sub [] N
 refine HT.ret ?_
 obtain rfl:=si c
 have c:=hr0
 replace c:some _=some _:=c
 obtain rfl:=si c
 exact ⟨.inr Z,[R 2],⟨Z,N⟩,h2,j⟩
 have c:=zAN c10 c
 refine zQA ?_
 obtain ⟨e11,c⟩:=zA5 c
 refine HT.u d j (eI y5::eI (y5+1)::eI (y5+1)::[]) ?_ ?_
 exact om h3<|op (fun Q U W H D=>zAR (D.g 0 Z) Z e11)<|oa<|oz
 intro R w m n p d j
 replace h1:=k1 n h1
 have h3:=p.r 2 Z
 replace q:=q.fr m
 exact ei k (And.intro (Nat.lt_succ_self k) ⟨_,_,c,d,j,B,q,h1,h3⟩)
 have c:=zAN c6 c
 refine zQ7 ?_
 obtain rfl:=si c
 exact ei _ ⟨_,Z,d,j,B,q,h1⟩
 rintro R w ⟨A,s4,rfl,d,j,B,q,h1⟩
 have c:=zF6 c
 refine zQ9 ?_
 obtain ⟨x12,q13,c⟩:=zA4 c
 obtain ⟨x14,q15,c⟩:=zA4 c
 obtain ⟨x16,q17,c⟩:=zAD c
 obtain ⟨x18,q19,c⟩:=zA4 c
 obtain ⟨x20,q21,c⟩:=zAD c
 obtain ⟨x22,q23,c⟩:=zAD c
 refine HT.u d j (eR (.pointer (some ⟨b1_0,0,none⟩))::eI p0.1::eB x12::eB x12::gR (true&&(x12==true)) (.pointer (some ⟨b1_0,1,none⟩))::gI (true&&(x12==true)) p0.2.1::gB (true&&(x12==true)) x14::eB x16::eB x16::gR (true&&(x16==true)) (.pointer (some ⟨b1_0,2,none⟩))::gI (true&&(x16==true)) p0.2.2.1::gB (true&&(x16==true)) x18::eB x20::eB x20::gR (true&&(x20==true)) (.pointer (some ⟨b1_0,3,none⟩))::gF (true&&(x20==true)) (.rep (eSl eStr) A p0.2.2.2)::gI (true&&(x20==true)) (p0.2.2.2.length:Int)::gB (true&&(x20==true)) ((p0.2.2.2.length:Int)==4)::eB x22::eB x22::[]) ?_ ?_
 exact op (fun Q U W H D=>zAA ((H 1 Z).trans h1) zJK sizeOf3 (by decide) Z)<|op (fun Q U W H D=>OpF.int (zAC ((q.fr W).ok 0 _ Z).1 (D.g 0 Z) zEl Z isAgg3 sizeOf3))<|op (fun Q U W H D=>zA8 call99 (zDG (q13 Z) (d.fr W.size) (D.g 0 Z) Z Z))<|ov<|og 3 true (fun G Q U W H D=>zAA ((H 1 Z).trans h1) zJT sizeOf3 (by decide) Z)<|og 3 true (fun G Q U W H D=>OpF.int (zAC ((q.fr W).ok 0 _ Z).1 (D.h 0 G Z) zEj Z isAgg3 sizeOf3))<|og 3 true (fun G Q U W H D=>zA8 call99 (zDG (q15 G) (d.fr W.size) (D.h 0 G Z) Z Z))<|op (fun Q U W H D=>zAF x12 (D.g 0 Z) (fun hc=>by have a1:Q 24 = .bool x14:=D 1 _ _ _ Z Z Z Z (zAc Z (zAP hc));show _=Value.bool x16;rw [q17,hc];exact a1) (fun hc=>by show _=Value.bool x16;rw [q17,hc];exact Z))<|ov<|og 8 true (fun G Q U W H D=>zAA ((H 1 Z).trans h1) zJD sizeOf3 (by decide) Z)<|og 8 true (fun G Q U W H D=>OpF.int (zAC ((q.fr W).ok 0 _ Z).1 (D.h 0 G Z) zEk Z isAgg3 sizeOf3))<|og 8 true (fun G Q U W H D=>zA8 call99 (zDG (q19 G) (d.fr W.size) (D.h 0 G Z) Z Z))<|op (fun Q U W H D=>zAF x16 (D.g 0 Z) (fun hc=>by have a1:Q 29 = .bool x18:=D 1 _ _ _ Z Z Z Z (zAc Z (zAP hc));show _=Value.bool x20;rw [q21,hc];exact a1) (fun hc=>by show _=Value.bool x20;rw [q21,hc];exact Z))<|ov<|og 13 true (fun G Q U W H D=>zAA ((H 1 Z).trans h1) zBs sizeOf46 (by decide) Z)<|og 13 true (fun G Q U W H D=>(zAC ((q.fr W).ok 0 _ Z).1 (D.h 0 G Z) zAS Z isAgg46 sizeOf46))<|og 13 true (fun G Q U W H D=>zAe (aT:=#[]) (D.h 0 G Z) underlying46)<|og 13 true (fun G Q U W H D=>zAo (D.h 0 G Z) Z)<|op (fun Q U W H D=>zAF x20 (D.g 0 Z) (fun hc=>by have a1:Q 35 = .bool ((p0.2.2.2.length:Int)==4):=D 1 _ _ _ Z Z Z Z (zAc Z (zAP hc));show _=Value.bool x22;rw [q23,hc];exact a1) (fun hc=>by show _=Value.bool x22;rw [q23,hc];exact Z))<|oa<|oz
 intro R w m n p d j
 have h2:=p.r 19 Z
 replace q:=q.fr m
 replace q:IniOK [] A w:=q.sub [] N
 refine HT.ret ?_
 obtain rfl:=si c
 exact ⟨.inr Z,[R 2],⟨Z,N⟩,h2,j⟩
def zBV (fu : Nat) (p0 : List UInt8) : Nat → Int → (List Int) → Option (List Int)
 | 0,_,_=>none
 | k+1,y5,y6=>
 bif (decide (y5<(p0.length:Int))) then (
 ck (inR y5 p0.length) <|
 bd ((decide (65≤(bAt p0 y5)))&&(decide ((bAt p0 y5)≤90))) fun x9=>
 bif x9 then (
 ck (zC2 (y6.length+([(IntKind.u8.wrap ((bAt p0 y5)+32))]:List Int).length)) <|
 ck (i64B (y5+1)) <|
 zBV fu p0 k (y5+1) (y6++([(IntKind.u8.wrap ((bAt p0 y5)+32))]:List Int))
 ) else (
 ck (zC2 (y6.length+([(bAt p0 y5)]:List Int).length)) <|
 ck (i64B (y5+1)) <|
 zBV fu p0 k (y5+1) (y6++([(bAt p0 y5)]:List Int))
 )
 ) else (
 some y6
 )
def zBh (fu:Nat) (p0:List UInt8):Option (List UInt8):=
 cl true (zBV fu p0 fu 0 ([]:List Int)) fun s4=>
 some (strB s4)
theorem zDI {fu : Nat} {A0 : Av} {p0 : List UInt8} {r : List UInt8} (c : zBh fu p0 = some r) {w : World} {v0 : Value} (d : AvOK A0 w) (h0 : Rep eStr A0 w v0 p0) :
 Calls prog 133 #[v0] w fun e w'=>∃ v,e = .returned v∧(Rep eStr A0 w' v r∧Fr w w'):=by
 unfold zBh at c
 obtain ⟨w0,hw0,j,C⟩:=pw d
 have hA00:AvOK A0 w0:=C
 rw [fw hw0]
 obtain ⟨A,hAe,B,d,q⟩:=pa d
 refine zA3 [.tmp 2] func133 ntmps133 (by decide) Z Z (nb Z) ?_
 intro R hR
 have f_v0:Rep eStr A w v0 p0:=hAe ▸ h0
 replace h0:R 0=v0:=hR 0 _ Z
 refine zQB d j (eF (.rep eStr A ([]:List UInt8))::[]) ?_ ?_
 exact op (fun Q U W H D=>zA2 ⟨_,Z,⟨_,Z,Z,by decide⟩⟩)<|oz
 intro R w m n p d j
 replace h0:=k1 n h0
 replace f_v0:=f_v0.fr m
 replace q:=q.fr m
 refine zQC [] (⟨_,true,[],some (.vec w0.heap.size 5 (eInt .u8) ([]:List Int)),true,fun A=>.any⟩::⟨_,true,[0],some (.vec w0.heap.size 5 (eInt .u8) ([]:List Int)),true,fun A=>.any⟩::[]) (ua (ua (UAll.nil))) q d ?_ ?_
 exact rc (OblR.made _ Z Z Z Z fun V Q U O D=>by exact zBW [] (E:=eInt .u8) N underlying22 sizeOf5 zeroValue5 Z Z Z (Nat.le_trans j.size O.ch.size))<|rc (OblR.took 0 _ _ Z Z Z Z Z fun V Q U O D u X Y J L M=>by exact zAK (L _ _ Z Z Z Z).symm X Y)<|rz
 intro done ρ σ A R w y s
 replace h0:=k1 s.rg h0
 obtain ⟨u1,e_u1⟩:∃ u,ρ 1=u:=⟨_,Z⟩
 have h3:=s.ov y 1 1 e_u1
 replace f_v0:=f_v0.stp s.stp
 obtain ⟨B,j,d⟩:=s.s B C j q N
 replace q:=s.left y [(1,ob u1 (.vec w0.heap.size 5 (eInt .u8) ([]:List Int)))] ⟨Z,Z,e_u1,Z,Z,N⟩
 refine zQ9 ?_
 refine zQB d j (eI 0::[]) ?_ ?_
 exact op (fun Q U W H D=>zA2 Z)<|oz
 intro R w m n p d j
 obtain ⟨h0,h3⟩:=k2 n h0 h3
 have h4:=p.r 0 Z
 replace f_v0:=f_v0.fr m
 replace q:=q.fr m
 obtain ⟨rl2,q3,c⟩:=zA4 c
 replace q3:=q3 Z
 refine zQ4 (fun R w=>∃ A:Av,∃ (s4:(List Int)) (uo_u1:Value),rl2=s4∧AvOK A w∧Fr w0 w∧(∀ b o,A0 b o→A b o)∧IniOK [ob uo_u1 (.vec w0.heap.size 5 (eInt .u8) s4)] A w∧R 3=uo_u1) ?_ ?_
 refine HT.block ?_
 refine zQ8 (fun k R w=>∃ A:Av,∃ (y5:Int) (y6:List Int) (ul_u1:Value),zBV fu p0 k y5 y6=some rl2∧AvOK A w∧Fr w0 w∧(∀ b o,A0 b o→A b o)∧IniOK [ob ul_u1 (.vec w0.heap.size 5 (eInt .u8) y6)] A w∧R 0=v0∧R 3=ul_u1∧R 4 = .int .i64 y5∧Rep eStr A w v0 p0) fu ⟨_,_,_,u1,q3,d,j,B,q,h0,h3,h4,f_v0⟩ ?_
 have hr0:=c;clear c q3
 rintro k R w ⟨A,y5,y6,ul_u1,c,d,j,B,q,h0,h3,h4,f_v0⟩
 rcases k with _ | k
 cases (show none=some _ from c)
 rw [zBV] at c
 refine zQ9 ?_
 refine zQB d j (eI y5::eR v0::eI (p0.length:Int)::eB (decide (y5<(p0.length:Int)))::[]) ?_ ?_
 exact om h4<|om h0<|op (fun Q U W H D=>zAJ ((f_v0.fr W).eq (D.g 0 Z)) underlying9)<|op (fun Q U W H D=>zAu (D.g 0 Z) (D.g 1 Z))<|oz
 intro R w m n p d j
 obtain ⟨h0,h3,h4⟩:=k3 n h0 h3 h4
 have h10:=p.r 3 Z
 replace f_v0:=f_v0.fr m
 replace q:=q.fr m
 refine zQ2 (decide (y5<(p0.length:Int))) h10 (fun c7=>?_) (fun c7=>?_)
 have c:=zAO c7 c
 refine zQA ?_
 refine zQ9 ?_
 refine HT.block ?_
 obtain ⟨e8,c⟩:=zA5 c
 refine zQB d j (eR v0::eI y5::eU (bAt p0 y5)::eU (bAt p0 y5)::[]) ?_ ?_
 exact om h0<|om h4<|op (fun Q U W H D=>zAB ((f_v0.fr W).eq (D.g 0 Z)) (D.g 1 Z) underlying9 e8)<|oa<|oz
 intro R w m n p d j
 obtain ⟨h0,h3,h4⟩:=k3 n h0 h3 h4
 have h5:=p.r 3 Z
 replace f_v0:=f_v0.fr m
 replace q:=q.fr m
 refine zQ9 ?_
 refine zQ9 ?_
 obtain ⟨x9,q10,c⟩:=zAD c
 refine HT.u d j (eU (bAt p0 y5)::eB (decide (65≤(bAt p0 y5)))::eB (decide (65≤(bAt p0 y5)))::gU (true&&((decide (65≤(bAt p0 y5)))==true)) (bAt p0 y5)::gB (true&&((decide (65≤(bAt p0 y5)))==true)) (decide ((bAt p0 y5)≤90))::eB x9::[]) ?_ ?_
 exact om h5<|op (fun Q U W H D=>zDs (D.g 0 Z) Z)<|ov<|gm 2 true h5<|og 2 true (fun G Q U W H D=>zDp (D.h 0 G Z) Z)<|op (fun Q U W H D=>zAF (decide (65≤(bAt p0 y5))) (D.g 0 Z) (fun hc=>by have a1:Q 20 = .bool (decide ((bAt p0 y5)≤90)):=D 1 _ _ _ Z Z Z Z (zAc Z (zAP hc));show _=Value.bool x9;rw [q10,hc];exact a1) (fun hc=>by show _=Value.bool x9;rw [q10,hc];exact Z))<|oz
 intro R w m n p d j
 obtain ⟨h0,h3,h4,h5⟩:=k4 n h0 h3 h4 h5
 have h21:=p.r 5 Z
 replace f_v0:=f_v0.fr m
 replace q:=q.fr m
 refine zQ2 x9 h21 (fun c11=>?_) (fun c11=>?_)
 have c:=zAO c11 c
 refine HT.u d j (eU (bAt p0 y5)::eU (IntKind.u8.wrap ((bAt p0 y5)+32))::eU (IntKind.u8.wrap ((bAt p0 y5)+32))::[]) ?_ ?_
 exact om h5<|op (fun Q U W H D=>zGV (D.g 0 Z) Z)<|oa<|oz
 intro R w m n p d j
 obtain ⟨h0,h3,h4⟩:=k3 n h0 h3 h4
 have h5:=p.r 2 Z
 replace f_v0:=f_v0.fr m
 replace q:=q.fr m
 obtain ⟨e12,c⟩:=zA5 c
 refine zQF [ob ul_u1 (.vec w0.heap.size 5 (eInt .u8) y6)] (rR ul_u1::rU (IntKind.u8.wrap ((bAt p0 y5)+32))::(rF fun A=>.rep (eSl (eInt .u8)) A ([(IntKind.u8.wrap ((bAt p0 y5)+32))]:List Int))::⟨_,true,[0],some (.vec w0.heap.size 5 (eInt .u8) (y6++([(IntKind.u8.wrap ((bAt p0 y5)+32))]:List Int))),true,fun A=>.any⟩::⟨_,true,[4],some (.vec w0.heap.size 5 (eInt .u8) (y6++([(IntKind.u8.wrap ((bAt p0 y5)+32))]:List Int))),true,fun A=>.any⟩::[]) (ur (ur (up (ua (ua (UAll.nil)))))) q d ?_ ?_
 exact rm h3<|rm h5<|rp (fun V Q U O D=>zB6 [_] (E:=eInt .u8) ⟨(zAa.eq (D.g 0 Z)),N⟩ underlying22 sizeOf5 zeroValue5 Z Z Z O.av)<|rc (OblR.took 0 _ _ Z Z Z Z Z fun V Q U O D u X Y J L M=>by have a0:Q 24=ul_u1:=D.g 0 Z;have a1:Rep (eSl (eInt .u8)) V U (Q 26) ([(IntKind.u8.wrap ((bAt p0 y5)+32))]:List Int):=D.g 1 Z;exact zAx (a0.trans (J _ Z).symm) X Y (Nat.le_trans j.size O.ch.size) a1 underlying22 el_5 e12)<|rc (OblR.took 4 _ _ Z Z Z Z Z fun V Q U O D u X Y J L M=>by exact zAK (L _ _ Z Z Z Z).symm X Y)<|rz
 intro done ρ σ A R w y s
 obtain ⟨h0,h4⟩:=k2 s.rg h0 h4
 obtain ⟨u13,e_u13⟩:∃ u,ρ 5=u:=⟨_,Z⟩
 have h3:=s.ov y 5 4 e_u13
 replace f_v0:=f_v0.stp s.stp
 obtain ⟨B,j,d⟩:=s.s B C j q ⟨Z,N⟩
 replace q:=s.left y [(5,ob u13 (.vec w0.heap.size 5 (eInt .u8) (y6++([(IntKind.u8.wrap ((bAt p0 y5)+32))]:List Int))))] ⟨Z,Z,e_u13,Z,Z,N⟩
 obtain ⟨e14,c⟩:=zA5 c
 refine HT.u d j (eI y5::eI (y5+1)::eI (y5+1)::[]) ?_ ?_
 exact om h4<|op (fun Q U W H D=>zAR (D.g 0 Z) Z e14)<|oa<|oz
 intro R w m n p d j
 obtain ⟨h0,h3⟩:=k2 n h0 h3
 have h4:=p.r 2 Z
 replace f_v0:=f_v0.fr m
 replace q:=q.fr m
 exact ei k (And.intro (Nat.lt_succ_self k) ⟨_,_,_,u13,c,d,j,B,q,h0,h3,h4,f_v0⟩)
 have c:=zAN c11 c
 refine zQA ?_
 obtain ⟨e15,c⟩:=zA5 c
 refine zQF [ob ul_u1 (.vec w0.heap.size 5 (eInt .u8) y6)] (rR ul_u1::rU (bAt p0 y5)::(rF fun A=>.rep (eSl (eInt .u8)) A ([(bAt p0 y5)]:List Int))::⟨_,true,[0],some (.vec w0.heap.size 5 (eInt .u8) (y6++([(bAt p0 y5)]:List Int))),true,fun A=>.any⟩::⟨_,true,[4],some (.vec w0.heap.size 5 (eInt .u8) (y6++([(bAt p0 y5)]:List Int))),true,fun A=>.any⟩::[]) (ur (ur (up (ua (ua (UAll.nil)))))) q d ?_ ?_
 exact rm h3<|rm h5<|rp (fun V Q U O D=>zB6 [_] (E:=eInt .u8) ⟨(zAa.eq (D.g 0 Z)),N⟩ underlying22 sizeOf5 zeroValue5 Z Z Z O.av)<|rc (OblR.took 0 _ _ Z Z Z Z Z fun V Q U O D u X Y J L M=>by have a0:Q 24=ul_u1:=D.g 0 Z;have a1:Rep (eSl (eInt .u8)) V U (Q 26) ([(bAt p0 y5)]:List Int):=D.g 1 Z;exact zAx (a0.trans (J _ Z).symm) X Y (Nat.le_trans j.size O.ch.size) a1 underlying22 el_5 e15)<|rc (OblR.took 4 _ _ Z Z Z Z Z fun V Q U O D u X Y J L M=>by exact zAK (L _ _ Z Z Z Z).symm X Y)<|rz
 intro done ρ σ A R w y s
 obtain ⟨h0,h4⟩:=k2 s.rg h0 h4
 obtain ⟨u16,e_u16⟩:∃ u,ρ 5=u:=⟨_,Z⟩
 have h3:=s.ov y 5 4 e_u16
 replace f_v0:=f_v0.stp s.stp
 obtain ⟨B,j,d⟩:=s.s B C j q ⟨Z,N⟩
 replace q:=s.left y [(5,ob u16 (.vec w0.heap.size 5 (eInt .u8) (y6++([(bAt p0 y5)]:List Int))))] ⟨Z,Z,e_u16,Z,Z,N⟩
 obtain ⟨e17,c⟩:=zA5 c
 refine HT.u d j (eI y5::eI (y5+1)::eI (y5+1)::[]) ?_ ?_
 exact om h4<|op (fun Q U W H D=>zAR (D.g 0 Z) Z e17)<|oa<|oz
 intro R w m n p d j
 obtain ⟨h0,h3⟩:=k2 n h0 h3
 have h4:=p.r 2 Z
 replace f_v0:=f_v0.fr m
 replace q:=q.fr m
 exact ei k (And.intro (Nat.lt_succ_self k) ⟨_,_,_,u16,c,d,j,B,q,h0,h3,h4,f_v0⟩)
 have c:=zAN c7 c
 refine zQ7 ?_
 obtain rfl:=si c
 exact ei _ ⟨_,ul_u1,Z,d,j,B,q,h3⟩
 rintro R w ⟨A,s4,uo_u1,es,d,j,B,q,h3⟩
 obtain rfl:=es.symm
 refine zQB d j (eR uo_u1::eF (.rep eStr A (strB s4))::eF (.rep eStr A (strB s4))::[]) ?_ ?_
 exact om h3<|op (fun Q U W H D=>zBa ((zD2 ((q.fr W).ok 0 _ Z).1 B C).eq (D.g 0 Z)) underlying22 underlying5 underlying9)<|op (fun Q U W H D=>zA2 (D.g 0 Z))<|oz
 intro R w m n p d j
 obtain ⟨u18,h2,f_u18⟩:∃ u,R 2=u∧Rep eStr A w u (strB s4):=⟨_,Z,p 2 _ _ Z Z Z⟩
 replace q:=q.fr m
 replace q:IniOK [] A w:=q.sub [] N
 refine HT.ret ?_
 obtain rfl:=si c
 exact ⟨.inr Z,[R 2],⟨Z,N⟩,(f_u18.eq h2).down B,j⟩
def zD9 (fu:Nat) (p0:Int):Option Bool:=
 bd ((decide (97≤p0))&&(decide (p0≤122))) fun x1=>
 bd ((decide (65≤p0))&&(decide (p0≤90))) fun x3=>
 bd (x1 || x3) fun x5=>
 bd ((decide (48≤p0))&&(decide (p0≤57))) fun x7=>
 bd (x5 || x7) fun x9=>
 some x9
theorem zFv {fu : Nat} {A : Av} {p0 : Int} {r : Bool} (c : zD9 fu p0 = some r) {w : World} {v0 : Value} (d : AvOK A w) (h0 : v0 = .int .u8 p0) :
 Calls prog 188 #[v0] w fun e w'=>∃ v,e = .returned v∧(v = .bool r∧Fr w w'):=by
 unfold zD9 at c
 obtain ⟨w0,hw0,j⟩:=pf w
 rw [fw hw0]
 refine zA3 [.tmp 2] func188 ntmps188 (by decide) Z Z (nb Z) ?_
 intro R hR
 replace h0:R 0 = .int .u8 p0:=(hR 0 _ Z).trans h0
 refine zQB d j (eB false::[]) ?_ ?_
 exact op (fun Q U W H D=>zA2 Z)<|oz
 intro R w m n p d j
 replace h0:=k1 n h0
 refine zQ9 ?_
 obtain ⟨x1,q2,c⟩:=zAD c
 obtain ⟨x3,q4,c⟩:=zAD c
 obtain ⟨x5,q6,c⟩:=zAD c
 obtain ⟨x7,q8,c⟩:=zAD c
 obtain ⟨x9,q10,c⟩:=zAD c
 refine HT.u d j (eU p0::eB (decide (97≤p0))::eB (decide (97≤p0))::gU (true&&((decide (97≤p0))==true)) p0::gB (true&&((decide (97≤p0))==true)) (decide (p0≤122))::eB x1::eB x1::gU (true&&(x1==false)) p0::gB (true&&(x1==false)) (decide (65≤p0))::gB (true&&(x1==false)) (decide (65≤p0))::gU ((true&&(x1==false))&&((decide (65≤p0))==true)) p0::gB ((true&&(x1==false))&&((decide (65≤p0))==true)) (decide (p0≤90))::gB (true&&(x1==false)) x3::eB x5::eB x5::gU (true&&(x5==false)) p0::gB (true&&(x5==false)) (decide (48≤p0))::gB (true&&(x5==false)) (decide (48≤p0))::gU ((true&&(x5==false))&&((decide (48≤p0))==true)) p0::gB ((true&&(x5==false))&&((decide (48≤p0))==true)) (decide (p0≤57))::gB (true&&(x5==false)) x7::eB x9::eB x9::[]) ?_ ?_
 exact om h0<|op (fun Q U W H D=>zDs (D.g 0 Z) Z)<|ov<|gm 2 true h0<|og 2 true (fun G Q U W H D=>zDp (D.h 0 G Z) Z)<|op (fun Q U W H D=>zAF (decide (97≤p0)) (D.g 0 Z) (fun hc=>by have a1:Q 7 = .bool (decide (p0≤122)):=D 1 _ _ _ Z Z Z Z (zAc Z (zAP hc));show _=Value.bool x1;rw [q2,hc];exact a1) (fun hc=>by show _=Value.bool x1;rw [q2,hc];exact Z))<|ov<|gm 6 false h0<|og 6 false (fun G Q U W H D=>zDs (D.h 0 G Z) Z)<|og 6 false (fun G Q U W H D=>zBk (D.h 0 G Z))<|gm 9 true h0<|og 9 true (fun G Q U W H D=>zDp (D.h 0 G Z) Z)<|og 6 false (fun G Q U W H D=>zAF (decide (65≤p0)) (D.h 0 G Z) (fun hc=>by have a1:Q 14 = .bool (decide (p0≤90)):=D 1 _ _ _ Z Z Z Z (zAc G (zAP hc));show _=Value.bool x3;rw [q4,hc];exact a1) (fun hc=>by show _=Value.bool x3;rw [q4,hc];exact Z))<|op (fun Q U W H D=>zAF x1 (D.g 0 Z) (fun hc=>by show _=Value.bool x5;rw [q6,hc];exact Z) (fun hc=>by have a2:Q 15 = .bool x3:=D 1 _ _ _ Z Z Z Z (zAc Z (zAP hc));show _=Value.bool x5;rw [q6,hc];exact a2))<|ov<|gm 14 false h0<|og 14 false (fun G Q U W H D=>zDs (D.h 0 G Z) Z)<|og 14 false (fun G Q U W H D=>zBk (D.h 0 G Z))<|gm 17 true h0<|og 17 true (fun G Q U W H D=>zDp (D.h 0 G Z) Z)<|og 14 false (fun G Q U W H D=>zAF (decide (48≤p0)) (D.h 0 G Z) (fun hc=>by have a1:Q 22 = .bool (decide (p0≤57)):=D 1 _ _ _ Z Z Z Z (zAc G (zAP hc));show _=Value.bool x7;rw [q8,hc];exact a1) (fun hc=>by show _=Value.bool x7;rw [q8,hc];exact Z))<|op (fun Q U W H D=>zAF x5 (D.g 0 Z) (fun hc=>by show _=Value.bool x9;rw [q10,hc];exact Z) (fun hc=>by have a2:Q 23 = .bool x7:=D 1 _ _ _ Z Z Z Z (zAc Z (zAP hc));show _=Value.bool x9;rw [q10,hc];exact a2))<|oa<|oz
 intro R w m n p d j
 have h2:=p.r 22 Z
 refine HT.ret ?_
 obtain rfl:=si c
 exact ⟨.inr Z,[R 2],⟨Z,N⟩,h2,j⟩
end Go.Proofs.YtcodfkieaoomnaaGreatDoor
