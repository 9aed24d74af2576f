/- Own texts laid together. No statement of the seat is proved here. -/
import Derived.Test.YtcodfkieaoomnaaGreatDoorZg2
namespace Go.Proofs.YtcodfkieaoomnaaGreatDoor
open Go.RowKit
set_option linter.unusedVariables false
theorem pf (w:World):∃ w0,w0=w∧Fr w0 w:=⟨w,rfl,Fr.refl _⟩
theorem fw {w0 w:World} (h:w0=w):Fr w=Fr w0:=h ▸ rfl
theorem fh {w0 w:World} (h:w0=w):w.heap.size=w0.heap.size:=h ▸ rfl
open _root_.Go.Proofs.Tryz
set_option maxRecDepth 100000
set_option maxHeartbeats 4000000
def zGW (fu:Nat) (p0:List Int):Option Bool:=
 some (decide (1048576<(p0.length:Int)))
theorem zJ8 {fu : Nat} {A : Av} {p0 : List Int} {r : Bool} (c : zGW fu p0 = some r) {w : World} {v0 : Value} (d : AvOK A w) (h0 : Rep (eSl (eInt .u8)) A w v0 p0) :
 Calls prog 13 #[v0] w fun e w'=>∃ v,e = .returned v∧(v = .bool r∧Fr w w'):=by
 unfold zGW at c
 obtain ⟨w0,hw0,j⟩:=pf w
 rw [fw hw0]
 refine zA3 [.tmp 2] func13 ntmps13 (by decide) Z Z (nb Z) ?_
 intro R hR
 have f_v0:=h0
 replace h0:R 0=v0:=hR 0 _ Z
 refine zQB d j (eB false::[]) ?_ ?_
 exact op (fun Q U W H D=>zA2 Z)<|oz
 intro R w m n p d j
 replace h0:=k1 n h0
 replace f_v0:=f_v0.fr m
 refine zQB d j (eR v0::eI (p0.length:Int)::eB (decide (1048576<(p0.length:Int)))::eB (decide (1048576<(p0.length:Int)))::[]) ?_ ?_
 exact om h0<|op (fun Q U W H D=>zAe (aT:=#[]) ((f_v0.fr W).eq (D.g 0 Z)) underlying22)<|op (fun Q U W H D=>zCM (D.g 0 Z) Z)<|oa<|oz
 intro R w m n p d j
 have h2:=p.r 3 Z
 refine HT.ret ?_
 obtain rfl:=si c
 exact ⟨.inr Z,[R 2],⟨Z,N⟩,h2,j⟩
def zCX (fu : Nat) (p0 : List Int) : Nat → Int → Int → Option Int
 | 0,_,_=>none
 | k+1,y5,y6=>
 bd ((decide (y6<(p0.length:Int)))&&(decide (y6<4000))) fun x7=>
 bif x7 then (
 ck (i64B (y5*131)) <|
 ck (inR y6 p0.length) <|
 ck (i64B ((y5*131)+(IntKind.i64.wrap (gtD p0 y6)))) <|
 ck (i64B (((y5*131)+(IntKind.i64.wrap (gtD p0 y6)))+7)) <|
 ck (i64B (y6+1)) <|
 zCX fu p0 k (bitI (fun u v=>u &&& v) .i64 (((y5*131)+(IntKind.i64.wrap (gtD p0 y6)))+7) 1073741823) (y6+1)
 ) else (
 some y5
 )
def zEg (fu:Nat) (p0:List Int):Option zAE:=
 ck (i64B (10101+(p0.length:Int))) <|
 cl true (zCX fu p0 fu (10101+(p0.length:Int)) 0) fun s4=>
 some (p0,0,s4)
set_option linter.unusedSimpArgs false in
theorem zIV {fu : Nat} {A0 : Av} {p0 : List Int} {r : zAE} (c : zEg fu p0 = some r) {w : World} {v0 : Value} (d : AvOK A0 w) (h0 : Rep (eSl (eInt .u8)) A0 w v0 p0) :
 Calls prog 73 #[v0] w fun e w'=>∃ v,e = .returned v∧(∃ (c0:Nat) (A1:Av),GPost A0 (fun _=>False) w [ob (.pointer (some ⟨c0,0,none⟩)) (.box w.heap.size 154 zA1 r)] A1 w'∧(Fact.raw (.pointer (some ⟨c0,0,none⟩))).ok v w'):=by
 unfold zEg at c
 obtain ⟨w0,hw0,j,C⟩:=pw d
 have hA00:AvOK A0 w0:=C
 rw [show GPost A0 (fun _=>False) w=GPost A0 (fun _=>False) w0 from by rw [hw0]]
 rw [show w.heap.size=w0.heap.size from by rw [hw0]]
 obtain ⟨A,hAe,B,d,q⟩:=pa d
 refine zA3 [.tmp 2] func73 ntmps73 (by decide) Z Z (nb Z) ?_
 intro R hR
 have f_v0:Rep (eSl (eInt .u8)) A w v0 p0:=hAe ▸ h0
 replace h0:R 0=v0:=hR 0 _ Z
 refine zQB d j (eA::[]) ?_ ?_
 exact op (fun Q U W H D=>zA2 N)<|oz
 intro R w m n p d j
 replace h0:=k1 n h0
 replace f_v0:=f_v0.fr m
 replace q:=q.fr m
 obtain ⟨e1,c⟩:=zA5 c
 refine zQB d j (eR v0::eI (p0.length:Int)::eI (10101+(p0.length:Int))::eI (10101+(p0.length:Int))::[]) ?_ ?_
 exact om h0<|op (fun Q U W H D=>zAe (aT:=#[]) ((f_v0.fr W).eq (D.g 0 Z)) underlying22)<|op (fun Q U W H D=>zAR Z (D.g 0 Z) e1)<|oa<|oz
 intro R w m n p d j
 replace h0:=k1 n h0
 have h3:=p.r 3 Z
 replace f_v0:=f_v0.fr m
 replace q:=q.fr m
 refine zQ9 ?_
 refine zQB d j (eI 0::[]) ?_ ?_
 exact op (fun Q U W H D=>zA2 Z)<|oz
 intro R w m n p d j
 obtain ⟨h0,h3⟩:=k2 n h0 h3
 have h4:=p.r 0 Z
 replace f_v0:=f_v0.fr m
 replace q:=q.fr m
 obtain ⟨rl2,q3,c⟩:=zA4 c
 replace q3:=q3 Z
 refine zQ4 (fun R w=>∃ A:Av,∃ (s4:Int),rl2=s4∧AvOK A w∧Fr w0 w∧(∀ b o,A0 b o→A b o)∧IniOK [] A w∧R 0=v0∧R 3 = .int .i64 s4∧Rep (eSl (eInt .u8)) A w v0 p0) ?_ ?_
 refine HT.block ?_
 refine zQ8 (fun k R w=>∃ A:Av,∃ (y5:Int) (y6:Int),zCX fu p0 k y5 y6=some rl2∧AvOK A w∧Fr w0 w∧(∀ b o,A0 b o→A b o)∧IniOK [] A w∧R 0=v0∧R 3 = .int .i64 y5∧R 4 = .int .i64 y6∧Rep (eSl (eInt .u8)) A w v0 p0) fu ⟨_,_,_,q3,d,j,B,q,h0,h3,h4,f_v0⟩ ?_
 have hr0:=c;clear c q3
 rintro k R w ⟨A,y5,y6,c,d,j,B,q,h0,h3,h4,f_v0⟩
 rcases k with _ | k
 cases (show none=some _ from c)
 rw [zCX] at c
 refine zQ9 ?_
 refine zQ9 ?_
 obtain ⟨x7,q8,c⟩:=zAD c
 refine HT.u d j (eI y6::eR v0::eI (p0.length:Int)::eB (decide (y6<(p0.length:Int)))::eB (decide (y6<(p0.length:Int)))::gI (true&&((decide (y6<(p0.length:Int)))==true)) y6::gB (true&&((decide (y6<(p0.length:Int)))==true)) (decide (y6<4000))::eB x7::[]) ?_ ?_
 exact om h4<|om h0<|op (fun Q U W H D=>zAe (aT:=#[]) ((f_v0.fr W).eq (D.g 0 Z)) underlying22)<|op (fun Q U W H D=>zAu (D.g 0 Z) (D.g 1 Z))<|ov<|gm 4 true h4<|og 4 true (fun G Q U W H D=>zAu (D.h 0 G Z) Z)<|op (fun Q U W H D=>zAF (decide (y6<(p0.length:Int))) (D.g 0 Z) (fun hc=>by have a1:Q 14 = .bool (decide (y6<4000)):=D 1 _ _ _ Z Z Z Z (zAc Z (zAP hc));show _=Value.bool x7;rw [q8,hc];exact a1) (fun hc=>by show _=Value.bool x7;rw [q8,hc];exact Z))<|oz
 intro R w m n p d j
 obtain ⟨h0,h3,h4⟩:=k3 n h0 h3 h4
 have h15:=p.r 7 Z
 replace f_v0:=f_v0.fr m
 replace q:=q.fr m
 refine zQ2 x7 h15 (fun c9=>?_) (fun c9=>?_)
 have c:=zAO c9 c
 refine zQA ?_
 refine zQ9 ?_
 refine HT.block ?_
 obtain ⟨e10,e11,e12,e13,c⟩:=ck4 c
 refine HT.u d j (eI y5::eI (y5*131)::eR v0::eI y6::eF (.qtr (eInt .u8) A (gtD p0 y6))::eU (gtD p0 y6)::eI (IntKind.i64.wrap (gtD p0 y6))::eI ((y5*131)+(IntKind.i64.wrap (gtD p0 y6)))::eI (((y5*131)+(IntKind.i64.wrap (gtD p0 y6)))+7)::eI (bitI (fun u v=>u &&& v) .i64 (((y5*131)+(IntKind.i64.wrap (gtD p0 y6)))+7) 1073741823)::eI (bitI (fun u v=>u &&& v) .i64 (((y5*131)+(IntKind.i64.wrap (gtD p0 y6)))+7) 1073741823)::[]) ?_ ?_
 exact om h3<|op (fun Q U W H D=>zGQ (D.g 0 Z) Z e10)<|om h0<|om h4<|op (fun Q U W H D=>zA7 ((f_v0.fr W).eq (D.g 0 Z)) (D.g 1 Z) underlying22 sizeOf5 e11)<|op (fun Q U W H D=>OpF.int (zAT (QRep.ptr (D.g 0 Z)) isAgg5 sizeOf5))<|op (fun Q U W H D=>zDN (D.g 0 Z) underlying5 underlying3)<|op (fun Q U W H D=>zAR (D.g 0 Z) (D.g 1 Z) e12)<|op (fun Q U W H D=>zAR (D.g 0 Z) Z e13)<|op (fun Q U W H D=>zMg (D.g 0 Z) Z)<|oa<|oz
 intro R w m n p d j
 obtain ⟨h0,h4⟩:=k2 n h0 h4
 have h3:=p.r 10 Z
 replace f_v0:=f_v0.fr m
 replace q:=q.fr m
 obtain ⟨e14,c⟩:=zA5 c
 refine HT.u d j (eI y6::eI (y6+1)::eI (y6+1)::[]) ?_ ?_
 exact om h4<|op (fun Q U W H D=>zAR (D.g 0 Z) Z e14)<|oa<|oz
 intro R w m n p d j
 obtain ⟨h0,h3⟩:=k2 n h0 h3
 have h4:=p.r 2 Z
 replace f_v0:=f_v0.fr m
 replace q:=q.fr m
 exact ei k (And.intro (Nat.lt_succ_self k) ⟨_,_,_,c,d,j,B,q,h0,h3,h4,f_v0⟩)
 have c:=zAN c9 c
 refine zQ7 ?_
 obtain rfl:=si c
 exact ei _ ⟨_,Z,d,j,B,q,h0,h3,f_v0⟩
 rintro R w ⟨A,s4,es,d,j,B,q,h0,h3,f_v0⟩
 obtain rfl:=es.symm
 refine zQ9 ?_
 refine SG.of ?_
 refine SG.textR [] (rR v0::rI s4::(rF fun A=>.rep zA1 A (p0,0,s4))::⟨_,true,[],some (.box w0.heap.size 154 zA1 (p0,0,s4)),true,fun A=>.any⟩::[]) 4 Z Z Z (by kernel_rfl) (by kernel_rfl) (Wf.mk' (by kernel_rfl) (ur (ur (up (ua (UAll.nil))))) (by kernel_rfl) (by kernel_rfl)) q d (N) ?_ ?_
 exact rm h0<|rm h3<|rp (fun V Q U O D=>by have a1:Q 29 = .int .i64 s4:=D.g 1 Z;obtain ⟨c15a,c15n,c15c,c15,c15r⟩:=zLc ((f_v0.stp O.stp).eq (D.g 0 Z));exact zJg (v:=.agg #[.slice c15a c15n c15c,.int .i64 0,.int .i64 s4]) (by simp [execOp,Instr.build,zAG,c15,a1,underlying,underlying154,zeroValue154,sizeOf22,sizeOf3,go_sem,Instr.fill]) ⟨_,Z,zCP c15r (zCP zAY zAY)⟩)<|rc (OblR.made _ Z Z Z Z fun V Q U O D=>by have a0:Rep zA1 V U (Q 30) (p0,0,s4):=D.g 0 Z;exact zEa a0 (Nat.le_trans j.size O.ch.size))<|rz
 intro done ρ σ A R w y s
 obtain ⟨b31_15,e_b31_15⟩:=s.boxv y 3 Z Z
 have h31:=s.ov y 3 3 e_b31_15
 obtain ⟨B,j,d⟩:=s.s B C j q N
 replace q:=s.left y [(3,ob (.pointer (some ⟨b31_15,0,none⟩)) (.box w0.heap.size 154 zA1 (p0,0,s4)))] ⟨Z,Z,e_b31_15,Z,Z,N⟩
 refine SG.textR [ob (.pointer (some ⟨b31_15,0,none⟩)) (.box w0.heap.size 154 zA1 (p0,0,s4))] (rA::rA::rA::rR (.pointer (some ⟨b31_15,0,none⟩))::rR (.pointer (some ⟨b31_15,0,none⟩))::[]) 5 Z Z Z (by kernel_rfl) (by kernel_rfl) (Wf.mk' (by kernel_rfl) (ua (ua (ua (ur (ur (UAll.nil)))))) (by kernel_rfl) (by kernel_rfl)) q d (⟨⟨Z,Z,Z,N⟩,⟨⟨Z,Z,Z,N⟩,⟨⟨Z,Z,Z,N⟩,⟨⟨Z,Z,Z,h31⟩,N⟩⟩⟩⟩) ?_ ?_
 exact ra<|rz
 intro done ρ σ A R w y s
 have z17:=s.inivR 0 Z
 have h2:=s.r y 4 Z
 obtain ⟨B,j,d⟩:=s.s B C j q ⟨Z,N⟩
 replace q:=s.left y [(0,ob (.pointer (some ⟨b31_15,0,none⟩)) (.box w0.heap.size 154 zA1 (p0,0,s4)))] ⟨Z,Z,z17,Z,Z,N⟩
 refine zQJ Z ?_
 refine HT.ret ?_
 obtain rfl:=si c
 obtain ⟨A1,hA1,hG1⟩:=GPost.of q d B (fun k hk=>.inl (q.ge (⟨Z,N⟩) k hk)) (j.ch (fun _=>False))
 exact ⟨.inr Z,[R 2],⟨Z,N⟩,b31_15,A1,hG1,h2⟩
def zCO (fu:Nat) (p0:zAE):Option (Int × zAE):=
 ck (decide (0≤33)) <|
 ck (decide (0≤45)) <|
 bif (decide ((p0.1,p0.2.1,(IntKind.i64.wrap ((IntKind.i64.wrap (p0.2.2*6364136223846793005))+1442695040888963407))).2.1<((p0.1,p0.2.1,(IntKind.i64.wrap ((IntKind.i64.wrap (p0.2.2*6364136223846793005))+1442695040888963407))).1.length:Int))) then (
 ck (inR (p0.1,p0.2.1,(IntKind.i64.wrap ((IntKind.i64.wrap (p0.2.2*6364136223846793005))+1442695040888963407))).2.1 (p0.1,p0.2.1,(IntKind.i64.wrap ((IntKind.i64.wrap (p0.2.2*6364136223846793005))+1442695040888963407))).1.length) <|
 some ((bitI (fun u v=>u &&& v) .i64 (IntKind.i64.wrap ((bitI (fun u v=>u &&& v) .i64 (bitI (fun u v=>u ^^^ v) .i64 ((p0.1,p0.2.1,(IntKind.i64.wrap ((IntKind.i64.wrap (p0.2.2*6364136223846793005))+1442695040888963407))).2.2 / 2 ^ min (33:Int).toNat 64) ((p0.1,p0.2.1,(IntKind.i64.wrap ((IntKind.i64.wrap (p0.2.2*6364136223846793005))+1442695040888963407))).2.2 / 2 ^ min (45:Int).toNat 64)) 255)+(IntKind.i64.wrap (gtD (p0.1,p0.2.1,(IntKind.i64.wrap ((IntKind.i64.wrap (p0.2.2*6364136223846793005))+1442695040888963407))).1 (p0.1,p0.2.1,(IntKind.i64.wrap ((IntKind.i64.wrap (p0.2.2*6364136223846793005))+1442695040888963407))).2.1)))) 255),((p0.1,p0.2.1,(IntKind.i64.wrap ((IntKind.i64.wrap (p0.2.2*6364136223846793005))+1442695040888963407))).1,(IntKind.i64.wrap ((p0.1,p0.2.1,(IntKind.i64.wrap ((IntKind.i64.wrap (p0.2.2*6364136223846793005))+1442695040888963407))).2.1+1)),(p0.1,p0.2.1,(IntKind.i64.wrap ((IntKind.i64.wrap (p0.2.2*6364136223846793005))+1442695040888963407))).2.2))
 ) else (
 some ((bitI (fun u v=>u &&& v) .i64 (bitI (fun u v=>u ^^^ v) .i64 ((p0.1,p0.2.1,(IntKind.i64.wrap ((IntKind.i64.wrap (p0.2.2*6364136223846793005))+1442695040888963407))).2.2 / 2 ^ min (33:Int).toNat 64) ((p0.1,p0.2.1,(IntKind.i64.wrap ((IntKind.i64.wrap (p0.2.2*6364136223846793005))+1442695040888963407))).2.2 / 2 ^ min (45:Int).toNat 64)) 255),(p0.1,p0.2.1,(IntKind.i64.wrap ((IntKind.i64.wrap (p0.2.2*6364136223846793005))+1442695040888963407))))
 )
theorem zDD {fu : Nat} {Aq : Av} {p0 : zAE} {r : Int × zAE} (c : zCO fu p0 = some r) {w : World} {v0 : Value} {b0 B0 : Nat} (d : AvOK Aq w) (h0 : v0 = .pointer (some ⟨b0, 0, none⟩)) (hO0 : IniOK [ob (.pointer (some ⟨b0, 0, none⟩)) (.box B0 154 zA1 p0)] Aq w) :
 Calls prog 193 #[v0] w fun e w'=>∃ v,e = .returned v∧(∃ (A1:Av),GPost (subS Aq (zA9 (.pointer (some ⟨b0,0,none⟩)))) (zA9 (.pointer (some ⟨b0,0,none⟩))) w [ob (.pointer (some ⟨b0,0,none⟩)) (.box B0 154 zA1 r.2)] A1 w'∧(Fact.raw (.int .i64 r.1)).ok v w'):=by
 unfold zCO at c
 obtain ⟨w0,hw0⟩:∃ w0,w0=w:=⟨_,Z⟩
 have j:Ch (zA9 (.pointer (some ⟨b0,0,none⟩))) w0 w:=hw0 ▸ Ch.refl _ _
 obtain ⟨A0,hA0e⟩:∃ A0,A0=subS Aq (zA9 (.pointer (some ⟨b0,0,none⟩))):=⟨_,Z⟩
 have C:∀ b o,A0 b o→b<w0.heap.size:=fun b o h=>hw0 ▸ d b o (hA0e ▸ h:subS Aq _ b o).1
 have K:∀ b o,A0 b o→¬ (zA9 (.pointer (some ⟨b0,0,none⟩))) b:=fun b o h=>(hA0e ▸ h:subS Aq _ b o).2
 have hA00:AvOK A0 w0:=C
 rw [show GPost (subS Aq (zA9 (.pointer (some ⟨b0,0,none⟩)))) (zA9 (.pointer (some ⟨b0,0,none⟩))) w=GPost A0 (zA9 (.pointer (some ⟨b0,0,none⟩))) w0 from by rw [hA0e,hw0]]
 obtain ⟨A,hAe⟩:∃ A,A=Aq:=⟨_,Z⟩
 have B:∀ b o,A0 b o→A b o:=fun b o h=>hAe ▸ (hA0e ▸ h:subS Aq _ b o).1
 replace d:AvOK A w:=hAe ▸ d
 have q:IniOK [ob (.pointer (some ⟨b0,0,none⟩)) (.box B0 154 zA1 p0)] A w:=hAe ▸ hO0
 clear hA0e hO0
 refine zA3 [.tmp 2] func193 ntmps193 (by decide) Z Z (nb Z) ?_
 intro R hR
 replace h0:R 0 = .pointer (some ⟨b0,0,none⟩):=(hR 0 _ Z).trans h0
 refine zQ9 ?_
 refine zQD (eI 0::[]) ?_ ?_
 exact op (fun Q U W H D=>zA2 Z)<|oz
 intro R w m n p
 replace h0:=k1 n h0
 replace q:=q.fr m
 replace d:=d.fr m.size
 replace j:=j.tr (m.ch noB) fun _ h=>False.elim h
 refine zQC [ob (.pointer (some ⟨b0,0,none⟩)) (.box B0 154 zA1 p0)] (rR (.pointer (some ⟨b0,0,none⟩))::rR (.pointer (some ⟨b0,0,none⟩))::rR (.pointer (some ⟨b0,0,none⟩))::rR (.pointer (some ⟨b0,2,none⟩))::rI p0.2.2::rI (IntKind.i64.wrap (p0.2.2*6364136223846793005))::rI (IntKind.i64.wrap ((IntKind.i64.wrap (p0.2.2*6364136223846793005))+1442695040888963407))::rR (.pointer (some ⟨b0,0,none⟩))::rR (.pointer (some ⟨b0,2,none⟩))::⟨_,true,[0],some (.box B0 154 zA1 (p0.1,p0.2.1,(IntKind.i64.wrap ((IntKind.i64.wrap (p0.2.2*6364136223846793005))+1442695040888963407)))),false,fun A=>.any⟩::[]) (ur (ur (ur (ur (ur (ur (ur (ur (ur (ua (UAll.nil))))))))))) q d ?_ ?_
 exact rm h0<|rm h0<|rp (fun V Q U O D=>zCq (D.g 0 Z))<|rp (fun V Q U O D=>zAA (D.g 0 Z) zI5 sizeOf3 (by decide) Z)<|rp (fun V Q U O D=>OpF.int (zAC (O.rd 0 _ Z Z) (D.g 0 Z) zF7 Z isAgg3 sizeOf3))<|rp (fun V Q U O D=>zNR (D.g 0 Z) Z)<|rp (fun V Q U O D=>zGV (D.g 0 Z) Z)<|rp (fun V Q U O D=>zCq (D.g 0 Z))<|rp (fun V Q U O D=>zAA (D.g 0 Z) zI5 sizeOf3 (by decide) Z)<|rc (OblR.took 0 _ _ Z Z Z Z Z fun V Q U O D u X Y J L M=>by have a0:Q 12=(.pointer (some ⟨b0,2,none⟩)):=D.g 0 Z;have a1:Q 10 = .int .i64 (IntKind.i64.wrap ((IntKind.i64.wrap (p0.2.2*6364136223846793005))+1442695040888963407)):=D.g 1 Z;exact zB8 (zAa.eq a1) a0 (J _ Z) X Y zI8 sizeOf3 Z)<|rz
 intro done ρ σ A R w y s
 replace h0:=k1 s.rg h0
 have z1:=s.inivR 0 Z
 have z2:=s.on y 10 9 Z Z Z Z Z z1
 replace B:=s.lowK B C K (q.geK (⟨.inr (fun k h=>.inr h),N⟩))
 replace j:Ch (zA9 (.pointer (some ⟨b0,0,none⟩))) w0 w:=j.tr s.ch (q.geK (⟨.inr (fun k h=>.inr h),N⟩))
 replace q:=s.left y [(10,ob (.pointer (some ⟨b0,0,none⟩)) (.box B0 154 zA1 (p0.1,p0.2.1,(IntKind.i64.wrap ((IntKind.i64.wrap (p0.2.2*6364136223846793005))+1442695040888963407)))))] ⟨Z,Z,z2,Z,Z,N⟩
 replace d:=s.avok
 obtain ⟨Yg2,g_Yg2⟩:∃ z,z=(p0.1,p0.2.1,(IntKind.i64.wrap ((IntKind.i64.wrap (p0.2.2*6364136223846793005))+1442695040888963407))):=⟨_,Z⟩
 rw [← g_Yg2] at q
 try rw [← g_Yg2] at c
 refine zQ9 ?_
 obtain ⟨e4,e5,c⟩:=ck2 c
 refine zQ5 (by kernel_rfl) (l:=eR (.pointer (some ⟨b0,0,none⟩))::eR (.pointer (some ⟨b0,0,none⟩))::eR (.pointer (some ⟨b0,2,none⟩))::eI Yg2.2.2::eI (Yg2.2.2 / 2 ^ min (33:Int).toNat 64)::eR (.pointer (some ⟨b0,0,none⟩))::eR (.pointer (some ⟨b0,0,none⟩))::eR (.pointer (some ⟨b0,2,none⟩))::eI Yg2.2.2::eI (Yg2.2.2 / 2 ^ min (45:Int).toNat 64)::eI (bitI (fun u v=>u ^^^ v) .i64 (Yg2.2.2 / 2 ^ min (33:Int).toNat 64) (Yg2.2.2 / 2 ^ min (45:Int).toNat 64))::eI (bitI (fun u v=>u &&& v) .i64 (bitI (fun u v=>u ^^^ v) .i64 (Yg2.2.2 / 2 ^ min (33:Int).toNat 64) (Yg2.2.2 / 2 ^ min (45:Int).toNat 64)) 255)::eI (bitI (fun u v=>u &&& v) .i64 (bitI (fun u v=>u ^^^ v) .i64 (Yg2.2.2 / 2 ^ min (33:Int).toNat 64) (Yg2.2.2 / 2 ^ min (45:Int).toNat 64)) 255)::[]) (tl:=[]) (by kernel_rfl) (by kernel_rfl) (by kernel_rfl) (by kernel_rfl) ?_ ?_
 exact om h0<|op (fun Q U W H D=>zCq (D.g 0 Z))<|op (fun Q U W H D=>zAA (D.g 0 Z) zI5 sizeOf3 (by decide) Z)<|op (fun Q U W H D=>OpF.int (zAC ((q.fr W).ok 0 _ Z).1 (D.g 0 Z) zF7 Z isAgg3 sizeOf3))<|op (fun Q U W H D=>zOL (D.g 0 Z) Z e4)<|om h0<|op (fun Q U W H D=>zCq (D.g 0 Z))<|op (fun Q U W H D=>zAA (D.g 0 Z) zI5 sizeOf3 (by decide) Z)<|op (fun Q U W H D=>OpF.int (zAC ((q.fr W).ok 0 _ Z).1 (D.g 0 Z) zF7 Z isAgg3 sizeOf3))<|op (fun Q U W H D=>zOL (D.g 0 Z) Z e5)<|op (fun Q U W H D=>zPM (D.g 0 Z) (D.g 1 Z))<|op (fun Q U W H D=>zMg (D.g 0 Z) Z)<|oa<|oz
 intro R w m n p
 replace h0:=k1 n h0
 have h3:=p.r 12 Z
 replace q:=q.fr m
 replace d:=d.fr m.size
 replace j:=j.tr (m.ch noB) fun _ h=>False.elim h
 refine zQ9 ?_
 refine zQ9 ?_
 refine zQ5 (by kernel_rfl) (l:=eR (.pointer (some ⟨b0,0,none⟩))::eR (.pointer (some ⟨b0,0,none⟩))::eR (.pointer (some ⟨b0,1,none⟩))::eI Yg2.2.1::eR (.pointer (some ⟨b0,0,none⟩))::eR (.pointer (some ⟨b0,0,none⟩))::eR (.pointer (some ⟨b0,0,none⟩))::eF (.rep (eSl (eInt .u8)) A Yg2.1)::eI (Yg2.1.length:Int)::eB (decide (Yg2.2.1<(Yg2.1.length:Int)))::[]) (tl:=[]) (by kernel_rfl) (by kernel_rfl) (by kernel_rfl) (by kernel_rfl) ?_ ?_
 exact om h0<|op (fun Q U W H D=>zCq (D.g 0 Z))<|op (fun Q U W H D=>zAA (D.g 0 Z) zI4 sizeOf3 (by decide) Z)<|op (fun Q U W H D=>OpF.int (zAC ((q.fr W).ok 0 _ Z).1 (D.g 0 Z) zF4 Z isAgg3 sizeOf3))<|om h0<|op (fun Q U W H D=>zCq (D.g 0 Z))<|op (fun Q U W H D=>zAA (D.g 0 Z) zL3 sizeOf22 (by decide) Z)<|op (fun Q U W H D=>(zAC ((q.fr W).ok 0 _ Z).1 (D.g 0 Z) zGH Z isAgg22 sizeOf22))<|op (fun Q U W H D=>zAe (aT:=#[]) (D.g 0 Z) underlying22)<|op (fun Q U W H D=>zAu (D.g 0 Z) (D.g 1 Z))<|oz
 intro R w m n p
 obtain ⟨h0,h3⟩:=k2 n h0 h3
 have h34:=p.r 9 Z
 replace q:=q.fr m
 replace d:=d.fr m.size
 replace j:=j.tr (m.ch noB) fun _ h=>False.elim h
 refine zQ2 (decide (Yg2.2.1<(Yg2.1.length:Int))) h34 (fun c6=>?_) (fun c6=>?_)
 have c:=zAO c6 c
 refine zQ9 ?_
 obtain ⟨e7,c⟩:=zA5 c
 refine zQ5 (by kernel_rfl) (l:=eI (bitI (fun u v=>u &&& v) .i64 (bitI (fun u v=>u ^^^ v) .i64 (Yg2.2.2 / 2 ^ min (33:Int).toNat 64) (Yg2.2.2 / 2 ^ min (45:Int).toNat 64)) 255)::eR (.pointer (some ⟨b0,0,none⟩))::eR (.pointer (some ⟨b0,0,none⟩))::eR (.pointer (some ⟨b0,0,none⟩))::eF (.rep (eSl (eInt .u8)) A Yg2.1)::eR (.pointer (some ⟨b0,0,none⟩))::eR (.pointer (some ⟨b0,0,none⟩))::eR (.pointer (some ⟨b0,1,none⟩))::eI Yg2.2.1::eF (.qtr (eInt .u8) A (gtD Yg2.1 Yg2.2.1))::eU (gtD Yg2.1 Yg2.2.1)::eI (IntKind.i64.wrap (gtD Yg2.1 Yg2.2.1))::eI (IntKind.i64.wrap ((bitI (fun u v=>u &&& v) .i64 (bitI (fun u v=>u ^^^ v) .i64 (Yg2.2.2 / 2 ^ min (33:Int).toNat 64) (Yg2.2.2 / 2 ^ min (45:Int).toNat 64)) 255)+(IntKind.i64.wrap (gtD Yg2.1 Yg2.2.1))))::eI (bitI (fun u v=>u &&& v) .i64 (IntKind.i64.wrap ((bitI (fun u v=>u &&& v) .i64 (bitI (fun u v=>u ^^^ v) .i64 (Yg2.2.2 / 2 ^ min (33:Int).toNat 64) (Yg2.2.2 / 2 ^ min (45:Int).toNat 64)) 255)+(IntKind.i64.wrap (gtD Yg2.1 Yg2.2.1)))) 255)::eI (bitI (fun u v=>u &&& v) .i64 (IntKind.i64.wrap ((bitI (fun u v=>u &&& v) .i64 (bitI (fun u v=>u ^^^ v) .i64 (Yg2.2.2 / 2 ^ min (33:Int).toNat 64) (Yg2.2.2 / 2 ^ min (45:Int).toNat 64)) 255)+(IntKind.i64.wrap (gtD Yg2.1 Yg2.2.1)))) 255)::[]) (tl:=[]) (by kernel_rfl) (by kernel_rfl) (by kernel_rfl) (by kernel_rfl) ?_ ?_
 exact om h3<|om h0<|op (fun Q U W H D=>zCq (D.g 0 Z))<|op (fun Q U W H D=>zAA (D.g 0 Z) zL3 sizeOf22 (by decide) Z)<|op (fun Q U W H D=>(zAC ((q.fr W).ok 0 _ Z).1 (D.g 0 Z) zGH Z isAgg22 sizeOf22))<|om h0<|op (fun Q U W H D=>zCq (D.g 0 Z))<|op (fun Q U W H D=>zAA (D.g 0 Z) zI4 sizeOf3 (by decide) Z)<|op (fun Q U W H D=>OpF.int (zAC ((q.fr W).ok 0 _ Z).1 (D.g 0 Z) zF4 Z isAgg3 sizeOf3))<|op (fun Q U W H D=>zA7 (D.g 0 Z) (D.g 1 Z) underlying22 sizeOf5 e7)<|op (fun Q U W H D=>OpF.int (zAT (QRep.ptr (D.g 0 Z)) isAgg5 sizeOf5))<|op (fun Q U W H D=>zDN (D.g 0 Z) underlying5 underlying3)<|op (fun Q U W H D=>zGV (D.g 0 Z) (D.g 1 Z))<|op (fun Q U W H D=>zMg (D.g 0 Z) Z)<|oa<|oz
 intro R w m n p
 replace h0:=k1 n h0
 have h3:=p.r 14 Z
 replace q:=q.fr m
 replace d:=d.fr m.size
 replace j:=j.tr (m.ch noB) fun _ h=>False.elim h
 refine zQF [ob (.pointer (some ⟨b0,0,none⟩)) (.box B0 154 zA1 Yg2)] (rR (.pointer (some ⟨b0,0,none⟩))::rR (.pointer (some ⟨b0,0,none⟩))::rR (.pointer (some ⟨b0,0,none⟩))::rR (.pointer (some ⟨b0,1,none⟩))::rI Yg2.2.1::rI (IntKind.i64.wrap (Yg2.2.1+1))::rR (.pointer (some ⟨b0,0,none⟩))::rR (.pointer (some ⟨b0,1,none⟩))::⟨_,true,[0],some (.box B0 154 zA1 (Yg2.1,(IntKind.i64.wrap (Yg2.2.1+1)),Yg2.2.2)),false,fun A=>.any⟩::[]) (ur (ur (ur (ur (ur (ur (ur (ur (ua (UAll.nil)))))))))) q d ?_ ?_
 exact rm h0<|rm h0<|rp (fun V Q U O D=>zCq (D.g 0 Z))<|rp (fun V Q U O D=>zAA (D.g 0 Z) zI4 sizeOf3 (by decide) Z)<|rp (fun V Q U O D=>OpF.int (zAC (O.rd 0 _ Z Z) (D.g 0 Z) zF4 Z isAgg3 sizeOf3))<|rp (fun V Q U O D=>zGV (D.g 0 Z) Z)<|rp (fun V Q U O D=>zCq (D.g 0 Z))<|rp (fun V Q U O D=>zAA (D.g 0 Z) zI4 sizeOf3 (by decide) Z)<|rc (OblR.took 0 _ _ Z Z Z Z Z fun V Q U O D u X Y J L M=>by have a0:Q 56=(.pointer (some ⟨b0,1,none⟩)):=D.g 0 Z;have a1:Q 54 = .int .i64 (IntKind.i64.wrap (Yg2.2.1+1)):=D.g 1 Z;exact zB8 (zAa.eq a1) a0 (J _ Z) X Y zII sizeOf3 Z)<|rz
 intro done ρ σ A R w y s
 replace h3:=k1 s.rg h3
 have z8:=s.inivR 0 Z
 have z9:=s.on y 9 8 Z Z Z Z Z z8
 replace B:=s.lowK B C K (q.geK (⟨.inr (fun k h=>.inr h),N⟩))
 replace j:Ch (zA9 (.pointer (some ⟨b0,0,none⟩))) w0 w:=j.tr s.ch (q.geK (⟨.inr (fun k h=>.inr h),N⟩))
 replace q:=s.left y [(9,ob (.pointer (some ⟨b0,0,none⟩)) (.box B0 154 zA1 (Yg2.1,(IntKind.i64.wrap (Yg2.2.1+1)),Yg2.2.2)))] ⟨Z,Z,z9,Z,Z,N⟩
 replace d:=s.avok
 refine zQ9 ?_
 refine zQD (eI (bitI (fun u v=>u &&& v) .i64 (IntKind.i64.wrap ((bitI (fun u v=>u &&& v) .i64 (bitI (fun u v=>u ^^^ v) .i64 (Yg2.2.2 / 2 ^ min (33:Int).toNat 64) (Yg2.2.2 / 2 ^ min (45:Int).toNat 64)) 255)+(IntKind.i64.wrap (gtD Yg2.1 Yg2.2.1)))) 255)::eI (bitI (fun u v=>u &&& v) .i64 (IntKind.i64.wrap ((bitI (fun u v=>u &&& v) .i64 (bitI (fun u v=>u ^^^ v) .i64 (Yg2.2.2 / 2 ^ min (33:Int).toNat 64) (Yg2.2.2 / 2 ^ min (45:Int).toNat 64)) 255)+(IntKind.i64.wrap (gtD Yg2.1 Yg2.2.1)))) 255)::[]) ?_ ?_
 exact om h3<|oa<|oz
 intro R w m n p
 have h2:=p.r 1 Z
 replace q:=q.fr m
 replace d:=d.fr m.size
 replace j:=j.tr (m.ch noB) fun _ h=>False.elim h
 refine HT.ret ?_
 obtain rfl:=si c
 obtain ⟨A1,hA1,hG1⟩:=GPost.of q d B (q.geK (⟨.inr (fun k h=>.inr h),N⟩)) j
 exact ⟨.inr Z,[R 2],⟨Z,N⟩,A1,hG1,h2⟩
 have c:=zAN c6 c
 refine zQA ?_
 refine zQ9 ?_
 refine zQD (eI (bitI (fun u v=>u &&& v) .i64 (bitI (fun u v=>u ^^^ v) .i64 (Yg2.2.2 / 2 ^ min (33:Int).toNat 64) (Yg2.2.2 / 2 ^ min (45:Int).toNat 64)) 255)::eI (bitI (fun u v=>u &&& v) .i64 (bitI (fun u v=>u ^^^ v) .i64 (Yg2.2.2 / 2 ^ min (33:Int).toNat 64) (Yg2.2.2 / 2 ^ min (45:Int).toNat 64)) 255)::[]) ?_ ?_
 exact om h3<|oa<|oz
 intro R w m n p
 have h2:=p.r 1 Z
 replace q:=q.fr m
 replace d:=d.fr m.size
 replace j:=j.tr (m.ch noB) fun _ h=>False.elim h
 refine HT.ret ?_
 obtain rfl:=si c
 obtain ⟨A1,hA1,hG1⟩:=GPost.of q d B (q.geK (⟨.inr (fun k h=>.inr h),N⟩)) j
 exact ⟨.inr Z,[R 2],⟨Z,N⟩,A1,hG1,h2⟩
def zBR (fu:Nat) (p0:zAE) (p1:Int):Option (Int × zAE):=
 bif (decide (p1≤0)) then (
 some (0,p0)
 ) else (
 bif (decide (p1≤256)) then (
 cl true (zCO fu p0) fun x4=>
 ck (p1 != 0) <|
 some ((x4.1.tmod p1),x4.2)
 ) else (
 cl true (zCO fu p0) fun x9=>
 cl true (zCO fu x9.2) fun x13=>
 cl true (zCO fu x13.2) fun x17=>
 cl true (zCO fu x17.2) fun x21=>
 ck (i64B (x9.1*16777216)) <|
 ck (i64B (x13.1*65536)) <|
 ck (i64B ((x9.1*16777216)+(x13.1*65536))) <|
 ck (i64B (x17.1*256)) <|
 ck (i64B (((x9.1*16777216)+(x13.1*65536))+(x17.1*256))) <|
 ck (i64B ((((x9.1*16777216)+(x13.1*65536))+(x17.1*256))+x21.1)) <|
 ck (p1 != 0) <|
 some ((((((x9.1*16777216)+(x13.1*65536))+(x17.1*256))+x21.1).tmod p1),x21.2)
 )
 )
theorem zBd {fu : Nat} {Aq : Av} {p0 : zAE} {p1 : Int} {r : Int × zAE} (c : zBR fu p0 p1 = some r) {w : World} {v0 : Value} {v1 : Value} {b0 B0 : Nat} (d : AvOK Aq w) (h0 : v0 = .pointer (some ⟨b0, 0, none⟩)) (hO0 : IniOK [ob (.pointer (some ⟨b0, 0, none⟩)) (.box B0 154 zA1 p0)] Aq w) (h1 : v1 = .int .i64 p1) :
 Calls prog 145 #[v0,v1] w fun e w'=>∃ v,e = .returned v∧(∃ (A1:Av),GPost (subS Aq (zA9 (.pointer (some ⟨b0,0,none⟩)))) (zA9 (.pointer (some ⟨b0,0,none⟩))) w [ob (.pointer (some ⟨b0,0,none⟩)) (.box B0 154 zA1 r.2)] A1 w'∧(Fact.raw (.int .i64 r.1)).ok v w'):=by
 unfold zBR at c
 obtain ⟨w0,hw0⟩:∃ w0,w0=w:=⟨_,Z⟩
 have j:Ch (zA9 (.pointer (some ⟨b0,0,none⟩))) w0 w:=hw0 ▸ Ch.refl _ _
 obtain ⟨A0,hA0e⟩:∃ A0,A0=subS Aq (zA9 (.pointer (some ⟨b0,0,none⟩))):=⟨_,Z⟩
 have C:∀ b o,A0 b o→b<w0.heap.size:=fun b o h=>hw0 ▸ d b o (hA0e ▸ h:subS Aq _ b o).1
 have K:∀ b o,A0 b o→¬ (zA9 (.pointer (some ⟨b0,0,none⟩))) b:=fun b o h=>(hA0e ▸ h:subS Aq _ b o).2
 have hA00:AvOK A0 w0:=C
 rw [show GPost (subS Aq (zA9 (.pointer (some ⟨b0,0,none⟩)))) (zA9 (.pointer (some ⟨b0,0,none⟩))) w=GPost A0 (zA9 (.pointer (some ⟨b0,0,none⟩))) w0 from by rw [hA0e,hw0]]
 obtain ⟨A,hAe⟩:∃ A,A=Aq:=⟨_,Z⟩
 have B:∀ b o,A0 b o→A b o:=fun b o h=>hAe ▸ (hA0e ▸ h:subS Aq _ b o).1
 replace d:AvOK A w:=hAe ▸ d
 have q:IniOK [ob (.pointer (some ⟨b0,0,none⟩)) (.box B0 154 zA1 p0)] A w:=hAe ▸ hO0
 clear hA0e hO0
 refine zA3 [.tmp 4] func145 ntmps145 (by decide) Z Z (nb Z) ?_
 intro R hR
 replace h0:R 0 = .pointer (some ⟨b0,0,none⟩):=(hR 0 _ Z).trans h0
 replace h1:R 1 = .int .i64 p1:=(hR 1 _ Z).trans h1
 refine zQ9 ?_
 refine zQD (eI 0::[]) ?_ ?_
 exact op (fun Q U W H D=>zA2 Z)<|oz
 intro R w m n p
 obtain ⟨h0,h1⟩:=k2 n h0 h1
 replace q:=q.fr m
 replace d:=d.fr m.size
 replace j:=j.tr (m.ch noB) fun _ h=>False.elim h
 refine zQ9 ?_
 refine zQ9 ?_
 refine zQD (eI p1::eB (decide (p1≤0))::[]) ?_ ?_
 exact om h1<|op (fun Q U W H D=>zDp (D.g 0 Z) Z)<|oz
 intro R w m n p
 obtain ⟨h0,h1⟩:=k2 n h0 h1
 have h10:=p.r 1 Z
 replace q:=q.fr m
 replace d:=d.fr m.size
 replace j:=j.tr (m.ch noB) fun _ h=>False.elim h
 refine zQ2 (decide (p1≤0)) h10 (fun c1=>?_) (fun c1=>?_)
 have c:=zAO c1 c
 refine zQ9 ?_
 refine zQD (eI 0::[]) ?_ ?_
 exact op (fun Q U W H D=>zA2 Z)<|oz
 intro R w m n p
 have h4:=p.r 0 Z
 replace q:=q.fr m
 replace d:=d.fr m.size
 replace j:=j.tr (m.ch noB) fun _ h=>False.elim h
 refine HT.ret ?_
 obtain rfl:=si c
 obtain ⟨A1,hA1,hG1⟩:=GPost.of q d B (q.geK (⟨.inr (fun k h=>.inr h),N⟩)) j
 exact ⟨.inr Z,[R 4],⟨Z,N⟩,A1,hG1,h4⟩
 have c:=zAN c1 c
 refine zQA ?_
 refine zQ9 ?_
 refine zQ9 ?_
 refine zQD (eI p1::eB (decide (p1≤256))::[]) ?_ ?_
 exact om h1<|op (fun Q U W H D=>zDp (D.g 0 Z) Z)<|oz
 intro R w m n p
 obtain ⟨h0,h1⟩:=k2 n h0 h1
 have h12:=p.r 1 Z
 replace q:=q.fr m
 replace d:=d.fr m.size
 replace j:=j.tr (m.ch noB) fun _ h=>False.elim h
 refine zQ2 (decide (p1≤256)) h12 (fun c2=>?_) (fun c2=>?_)
 have c:=zAO c2 c
 refine zQ9 ?_
 refine SG.of ?_
 refine SG.textR [ob (.pointer (some ⟨b0,0,none⟩)) (.box B0 154 zA1 p0)] (rR (.pointer (some ⟨b0,0,none⟩))::[]) 1 Z Z Z (by kernel_rfl) (by kernel_rfl) (Wf.mk' (by kernel_rfl) (ur (UAll.nil)) (by kernel_rfl) (by kernel_rfl)) q d (N) ?_ ?_
 exact rm h0<|rz
 intro done ρ σ A R w y s
 replace h1:=k1 s.rg h1
 have z3:=s.inivR 0 Z
 have h13:=s.r y 0 Z
 replace B:=s.lowK B C K (q.geK (⟨.inr (fun k h=>.inr h),N⟩))
 replace j:Ch (zA9 (.pointer (some ⟨b0,0,none⟩))) w0 w:=j.tr s.ch (q.geK (⟨.inr (fun k h=>.inr h),N⟩))
 replace q:=s.left y [(0,ob (.pointer (some ⟨b0,0,none⟩)) (.box B0 154 zA1 p0))] ⟨Z,Z,z3,Z,Z,N⟩
 replace d:=s.avok
 obtain ⟨x4,q5,c⟩:=zA4 c
 have hFz:w0.heap.size≤w.heap.size:=j.size
 refine zQK 14 Z Z Z Z (zB1 call193 (zDD (q5 Z) d h13 (q.sub [(0,ob (.pointer (some ⟨b0,0,none⟩)) (.box B0 154 zA1 p0))] ⟨Z,Z,N⟩))) ?_
 rintro v_ w ⟨A,hG1,hv⟩ R n hd
 have hst:=zAy d hG1 (q.ok 0 _ Z).2
 replace B:∀ b o,A0 b o→A b o:=zAs B C K (q.geK (⟨.inr (fun k h=>.inr h),N⟩)) 0 Z hG1
 replace j:Ch (zA9 (.pointer (some ⟨b0,0,none⟩))) w0 w:=j.tr hG1.ch (fun k hk=>(q.geK (⟨.inr (fun k h=>.inr h),N⟩)) k ⟨0,_,Z,hk⟩)
 replace q:=zQ1 q d 0 Z hG1
 replace d:=hG1.avok
 replace q:IniOK [ob (.pointer (some ⟨b0,0,none⟩)) (.box B0 154 zA1 x4.2)] A w:=q
 replace h1:=(n 1 Z).trans h1
 replace h13:=(n 13 Z).trans h13
 have h14:R 14 = .int .i64 x4.1:=hd.trans hv
 clear hFz hG1 hv n hd
 obtain ⟨e6,c⟩:=zA5 c
 refine SG.textR [ob (.pointer (some ⟨b0,0,none⟩)) (.box B0 154 zA1 x4.2)] (rR (.pointer (some ⟨b0,0,none⟩))::rI x4.1::rI p1::rI (x4.1.tmod p1)::rI (x4.1.tmod p1)::[]) 5 Z Z Z (by kernel_rfl) (by kernel_rfl) (Wf.mk' (by kernel_rfl) (ur (ur (ur (ur (ur (UAll.nil)))))) (by kernel_rfl) (by kernel_rfl)) q d (⟨⟨Z,Z,Z,h13⟩,⟨⟨Z,Z,Z,h14⟩,N⟩⟩) ?_ ?_
 exact rm h1<|rp (fun V Q U O D=>zMY (D.g 0 Z) (D.g 1 Z) e6)<|ra<|rz
 intro done ρ σ A R w y s
 have z7:=s.inivR 0 Z
 have h4:=s.r y 4 Z
 replace B:=s.lowK B C K (q.geK (⟨.inr (fun k h=>.inr h),N⟩))
 replace j:Ch (zA9 (.pointer (some ⟨b0,0,none⟩))) w0 w:=j.tr s.ch (q.geK (⟨.inr (fun k h=>.inr h),N⟩))
 replace q:=s.left y [(0,ob (.pointer (some ⟨b0,0,none⟩)) (.box B0 154 zA1 x4.2))] ⟨Z,Z,z7,Z,Z,N⟩
 replace d:=s.avok
 refine zQJ Z ?_
 refine HT.ret ?_
 obtain rfl:=si c
 obtain ⟨A1,hA1,hG1⟩:=GPost.of q d B (q.geK (⟨.inr (fun k h=>.inr h),N⟩)) j
 exact ⟨.inr Z,[R 4],⟨Z,N⟩,A1,hG1,h4⟩
 have c:=zAN c2 c
 refine zQA ?_
 refine zQ9 ?_
 refine SG.of ?_
 refine SG.textR [ob (.pointer (some ⟨b0,0,none⟩)) (.box B0 154 zA1 p0)] (rR (.pointer (some ⟨b0,0,none⟩))::[]) 1 Z Z Z (by kernel_rfl) (by kernel_rfl) (Wf.mk' (by kernel_rfl) (ur (UAll.nil)) (by kernel_rfl) (by kernel_rfl)) q d (N) ?_ ?_
 exact rm h0<|rz
 intro done ρ σ A R w y s
 obtain ⟨h0,h1⟩:=k2 s.rg h0 h1
 have z8:=s.inivR 0 Z
 have h17:=s.r y 0 Z
 replace B:=s.lowK B C K (q.geK (⟨.inr (fun k h=>.inr h),N⟩))
 replace j:Ch (zA9 (.pointer (some ⟨b0,0,none⟩))) w0 w:=j.tr s.ch (q.geK (⟨.inr (fun k h=>.inr h),N⟩))
 replace q:=s.left y [(0,ob (.pointer (some ⟨b0,0,none⟩)) (.box B0 154 zA1 p0))] ⟨Z,Z,z8,Z,Z,N⟩
 replace d:=s.avok
 obtain ⟨x9,q10,c⟩:=zA4 c
 have hFz:w0.heap.size≤w.heap.size:=j.size
 refine zQK 18 Z Z Z Z (zB1 call193 (zDD (q10 Z) d h17 (q.sub [(0,ob (.pointer (some ⟨b0,0,none⟩)) (.box B0 154 zA1 p0))] ⟨Z,Z,N⟩))) ?_
 rintro v_ w ⟨A,hG1,hv⟩ R n hd
 have hst:=zAy d hG1 (q.ok 0 _ Z).2
 replace B:∀ b o,A0 b o→A b o:=zAs B C K (q.geK (⟨.inr (fun k h=>.inr h),N⟩)) 0 Z hG1
 replace j:Ch (zA9 (.pointer (some ⟨b0,0,none⟩))) w0 w:=j.tr hG1.ch (fun k hk=>(q.geK (⟨.inr (fun k h=>.inr h),N⟩)) k ⟨0,_,Z,hk⟩)
 replace q:=zQ1 q d 0 Z hG1
 replace d:=hG1.avok
 replace q:IniOK [ob (.pointer (some ⟨b0,0,none⟩)) (.box B0 154 zA1 x9.2)] A w:=q
 replace h0:=(n 0 Z).trans h0
 replace h1:=(n 1 Z).trans h1
 replace h17:=(n 17 Z).trans h17
 have h18:R 18 = .int .i64 x9.1:=hd.trans hv
 clear hFz hG1 hv n hd
 refine SG.textR [ob (.pointer (some ⟨b0,0,none⟩)) (.box B0 154 zA1 x9.2)] (rR (.pointer (some ⟨b0,0,none⟩))::rI x9.1::rI x9.1::[]) 3 Z Z Z (by kernel_rfl) (by kernel_rfl) (Wf.mk' (by kernel_rfl) (ur (ur (ur (UAll.nil)))) (by kernel_rfl) (by kernel_rfl)) q d (⟨⟨Z,Z,Z,h17⟩,⟨⟨Z,Z,Z,h18⟩,N⟩⟩) ?_ ?_
 exact ra<|rz
 intro done ρ σ A R w y s
 obtain ⟨h0,h1⟩:=k2 s.rg h0 h1
 have z11:=s.inivR 0 Z
 have h5:=s.r y 2 Z
 replace B:=s.lowK B C K (q.geK (⟨.inr (fun k h=>.inr h),N⟩))
 replace j:Ch (zA9 (.pointer (some ⟨b0,0,none⟩))) w0 w:=j.tr s.ch (q.geK (⟨.inr (fun k h=>.inr h),N⟩))
 replace q:=s.left y [(0,ob (.pointer (some ⟨b0,0,none⟩)) (.box B0 154 zA1 x9.2))] ⟨Z,Z,z11,Z,Z,N⟩
 replace d:=s.avok
 refine zQJ Z ?_
 refine zQ9 ?_
 refine SG.of ?_
 refine SG.textR [ob (.pointer (some ⟨b0,0,none⟩)) (.box B0 154 zA1 x9.2)] (rR (.pointer (some ⟨b0,0,none⟩))::[]) 1 Z Z Z (by kernel_rfl) (by kernel_rfl) (Wf.mk' (by kernel_rfl) (ur (UAll.nil)) (by kernel_rfl) (by kernel_rfl)) q d (N) ?_ ?_
 exact rm h0<|rz
 intro done ρ σ A R w y s
 obtain ⟨h0,h1,h5⟩:=k3 s.rg h0 h1 h5
 have z12:=s.inivR 0 Z
 have h19:=s.r y 0 Z
 replace B:=s.lowK B C K (q.geK (⟨.inr (fun k h=>.inr h),N⟩))
 replace j:Ch (zA9 (.pointer (some ⟨b0,0,none⟩))) w0 w:=j.tr s.ch (q.geK (⟨.inr (fun k h=>.inr h),N⟩))
 replace q:=s.left y [(0,ob (.pointer (some ⟨b0,0,none⟩)) (.box B0 154 zA1 x9.2))] ⟨Z,Z,z12,Z,Z,N⟩
 replace d:=s.avok
 obtain ⟨x13,q14,c⟩:=zA4 c
 have hFz:w0.heap.size≤w.heap.size:=j.size
 refine zQK 20 Z Z Z Z (zB1 call193 (zDD (q14 Z) d h19 (q.sub [(0,ob (.pointer (some ⟨b0,0,none⟩)) (.box B0 154 zA1 x9.2))] ⟨Z,Z,N⟩))) ?_
 rintro v_ w ⟨A,hG1,hv⟩ R n hd
 have hst:=zAy d hG1 (q.ok 0 _ Z).2
 replace B:∀ b o,A0 b o→A b o:=zAs B C K (q.geK (⟨.inr (fun k h=>.inr h),N⟩)) 0 Z hG1
 replace j:Ch (zA9 (.pointer (some ⟨b0,0,none⟩))) w0 w:=j.tr hG1.ch (fun k hk=>(q.geK (⟨.inr (fun k h=>.inr h),N⟩)) k ⟨0,_,Z,hk⟩)
 replace q:=zQ1 q d 0 Z hG1
 replace d:=hG1.avok
 replace q:IniOK [ob (.pointer (some ⟨b0,0,none⟩)) (.box B0 154 zA1 x13.2)] A w:=q
 replace h0:=(n 0 Z).trans h0
 replace h1:=(n 1 Z).trans h1
 replace h5:=(n 5 Z).trans h5
 replace h19:=(n 19 Z).trans h19
 have h20:R 20 = .int .i64 x13.1:=hd.trans hv
 clear hFz hG1 hv n hd
 refine SG.textR [ob (.pointer (some ⟨b0,0,none⟩)) (.box B0 154 zA1 x13.2)] (rR (.pointer (some ⟨b0,0,none⟩))::rI x13.1::rI x13.1::[]) 3 Z Z Z (by kernel_rfl) (by kernel_rfl) (Wf.mk' (by kernel_rfl) (ur (ur (ur (UAll.nil)))) (by kernel_rfl) (by kernel_rfl)) q d (⟨⟨Z,Z,Z,h19⟩,⟨⟨Z,Z,Z,h20⟩,N⟩⟩) ?_ ?_
 exact ra<|rz
 intro done ρ σ A R w y s
 obtain ⟨h0,h1,h5⟩:=k3 s.rg h0 h1 h5
 have z15:=s.inivR 0 Z
 have h6:=s.r y 2 Z
 replace B:=s.lowK B C K (q.geK (⟨.inr (fun k h=>.inr h),N⟩))
 replace j:Ch (zA9 (.pointer (some ⟨b0,0,none⟩))) w0 w:=j.tr s.ch (q.geK (⟨.inr (fun k h=>.inr h),N⟩))
 replace q:=s.left y [(0,ob (.pointer (some ⟨b0,0,none⟩)) (.box B0 154 zA1 x13.2))] ⟨Z,Z,z15,Z,Z,N⟩
 replace d:=s.avok
 refine zQJ Z ?_
 refine zQ9 ?_
 refine SG.of ?_
 refine SG.textR [ob (.pointer (some ⟨b0,0,none⟩)) (.box B0 154 zA1 x13.2)] (rR (.pointer (some ⟨b0,0,none⟩))::[]) 1 Z Z Z (by kernel_rfl) (by kernel_rfl) (Wf.mk' (by kernel_rfl) (ur (UAll.nil)) (by kernel_rfl) (by kernel_rfl)) q d (N) ?_ ?_
 exact rm h0<|rz
 intro done ρ σ A R w y s
 obtain ⟨h0,h1,h5,h6⟩:=k4 s.rg h0 h1 h5 h6
 have z16:=s.inivR 0 Z
 have h21:=s.r y 0 Z
 replace B:=s.lowK B C K (q.geK (⟨.inr (fun k h=>.inr h),N⟩))
 replace j:Ch (zA9 (.pointer (some ⟨b0,0,none⟩))) w0 w:=j.tr s.ch (q.geK (⟨.inr (fun k h=>.inr h),N⟩))
 replace q:=s.left y [(0,ob (.pointer (some ⟨b0,0,none⟩)) (.box B0 154 zA1 x13.2))] ⟨Z,Z,z16,Z,Z,N⟩
 replace d:=s.avok
 obtain ⟨x17,q18,c⟩:=zA4 c
 have hFz:w0.heap.size≤w.heap.size:=j.size
 refine zQK 22 Z Z Z Z (zB1 call193 (zDD (q18 Z) d h21 (q.sub [(0,ob (.pointer (some ⟨b0,0,none⟩)) (.box B0 154 zA1 x13.2))] ⟨Z,Z,N⟩))) ?_
 rintro v_ w ⟨A,hG1,hv⟩ R n hd
 have hst:=zAy d hG1 (q.ok 0 _ Z).2
 replace B:∀ b o,A0 b o→A b o:=zAs B C K (q.geK (⟨.inr (fun k h=>.inr h),N⟩)) 0 Z hG1
 replace j:Ch (zA9 (.pointer (some ⟨b0,0,none⟩))) w0 w:=j.tr hG1.ch (fun k hk=>(q.geK (⟨.inr (fun k h=>.inr h),N⟩)) k ⟨0,_,Z,hk⟩)
 replace q:=zQ1 q d 0 Z hG1
 replace d:=hG1.avok
 replace q:IniOK [ob (.pointer (some ⟨b0,0,none⟩)) (.box B0 154 zA1 x17.2)] A w:=q
 replace h0:=(n 0 Z).trans h0
 replace h1:=(n 1 Z).trans h1
 replace h5:=(n 5 Z).trans h5
 replace h6:=(n 6 Z).trans h6
 replace h21:=(n 21 Z).trans h21
 have h22:R 22 = .int .i64 x17.1:=hd.trans hv
 clear hFz hG1 hv n hd
 refine SG.textR [ob (.pointer (some ⟨b0,0,none⟩)) (.box B0 154 zA1 x17.2)] (rR (.pointer (some ⟨b0,0,none⟩))::rI x17.1::rI x17.1::[]) 3 Z Z Z (by kernel_rfl) (by kernel_rfl) (Wf.mk' (by kernel_rfl) (ur (ur (ur (UAll.nil)))) (by kernel_rfl) (by kernel_rfl)) q d (⟨⟨Z,Z,Z,h21⟩,⟨⟨Z,Z,Z,h22⟩,N⟩⟩) ?_ ?_
 exact ra<|rz
 intro done ρ σ A R w y s
 obtain ⟨h0,h1,h5,h6⟩:=k4 s.rg h0 h1 h5 h6
 have z19:=s.inivR 0 Z
 have h7:=s.r y 2 Z
 replace B:=s.lowK B C K (q.geK (⟨.inr (fun k h=>.inr h),N⟩))
 replace j:Ch (zA9 (.pointer (some ⟨b0,0,none⟩))) w0 w:=j.tr s.ch (q.geK (⟨.inr (fun k h=>.inr h),N⟩))
 replace q:=s.left y [(0,ob (.pointer (some ⟨b0,0,none⟩)) (.box B0 154 zA1 x17.2))] ⟨Z,Z,z19,Z,Z,N⟩
 replace d:=s.avok
 refine zQJ Z ?_
 refine zQ9 ?_
 refine SG.of ?_
 refine SG.textR [ob (.pointer (some ⟨b0,0,none⟩)) (.box B0 154 zA1 x17.2)] (rR (.pointer (some ⟨b0,0,none⟩))::[]) 1 Z Z Z (by kernel_rfl) (by kernel_rfl) (Wf.mk' (by kernel_rfl) (ur (UAll.nil)) (by kernel_rfl) (by kernel_rfl)) q d (N) ?_ ?_
 exact rm h0<|rz
 intro done ρ σ A R w y s
 obtain ⟨h1,h5,h6,h7⟩:=k4 s.rg h1 h5 h6 h7
 have z20:=s.inivR 0 Z
 have h23:=s.r y 0 Z
 replace B:=s.lowK B C K (q.geK (⟨.inr (fun k h=>.inr h),N⟩))
 replace j:Ch (zA9 (.pointer (some ⟨b0,0,none⟩))) w0 w:=j.tr s.ch (q.geK (⟨.inr (fun k h=>.inr h),N⟩))
 replace q:=s.left y [(0,ob (.pointer (some ⟨b0,0,none⟩)) (.box B0 154 zA1 x17.2))] ⟨Z,Z,z20,Z,Z,N⟩
 replace d:=s.avok
 obtain ⟨x21,q22,c⟩:=zA4 c
 have hFz:w0.heap.size≤w.heap.size:=j.size
 refine zQK 24 Z Z Z Z (zB1 call193 (zDD (q22 Z) d h23 (q.sub [(0,ob (.pointer (some ⟨b0,0,none⟩)) (.box B0 154 zA1 x17.2))] ⟨Z,Z,N⟩))) ?_
 rintro v_ w ⟨A,hG1,hv⟩ R n hd
 have hst:=zAy d hG1 (q.ok 0 _ Z).2
 replace B:∀ b o,A0 b o→A b o:=zAs B C K (q.geK (⟨.inr (fun k h=>.inr h),N⟩)) 0 Z hG1
 replace j:Ch (zA9 (.pointer (some ⟨b0,0,none⟩))) w0 w:=j.tr hG1.ch (fun k hk=>(q.geK (⟨.inr (fun k h=>.inr h),N⟩)) k ⟨0,_,Z,hk⟩)
 replace q:=zQ1 q d 0 Z hG1
 replace d:=hG1.avok
 replace q:IniOK [ob (.pointer (some ⟨b0,0,none⟩)) (.box B0 154 zA1 x21.2)] A w:=q
 replace h1:=(n 1 Z).trans h1
 replace h5:=(n 5 Z).trans h5
 replace h6:=(n 6 Z).trans h6
 replace h7:=(n 7 Z).trans h7
 replace h23:=(n 23 Z).trans h23
 have h24:R 24 = .int .i64 x21.1:=hd.trans hv
 clear hFz hG1 hv n hd
 refine SG.textR [ob (.pointer (some ⟨b0,0,none⟩)) (.box B0 154 zA1 x21.2)] (rR (.pointer (some ⟨b0,0,none⟩))::rI x21.1::rI x21.1::[]) 3 Z Z Z (by kernel_rfl) (by kernel_rfl) (Wf.mk' (by kernel_rfl) (ur (ur (ur (UAll.nil)))) (by kernel_rfl) (by kernel_rfl)) q d (⟨⟨Z,Z,Z,h23⟩,⟨⟨Z,Z,Z,h24⟩,N⟩⟩) ?_ ?_
 exact ra<|rz
 intro done ρ σ A R w y s
 obtain ⟨h1,h5,h6,h7⟩:=k4 s.rg h1 h5 h6 h7
 have z23:=s.inivR 0 Z
 have h8:=s.r y 2 Z
 replace B:=s.lowK B C K (q.geK (⟨.inr (fun k h=>.inr h),N⟩))
 replace j:Ch (zA9 (.pointer (some ⟨b0,0,none⟩))) w0 w:=j.tr s.ch (q.geK (⟨.inr (fun k h=>.inr h),N⟩))
 replace q:=s.left y [(0,ob (.pointer (some ⟨b0,0,none⟩)) (.box B0 154 zA1 x21.2))] ⟨Z,Z,z23,Z,Z,N⟩
 replace d:=s.avok
 refine zQJ Z ?_
 refine zQ9 ?_
 obtain ⟨e24,e25,e26,e27,c⟩:=ck4 c
 obtain ⟨e28,e29,e30,c⟩:=ck3 c
 refine zQD (eI x9.1::eI (x9.1*16777216)::eI x13.1::eI (x13.1*65536)::eI ((x9.1*16777216)+(x13.1*65536))::eI x17.1::eI (x17.1*256)::eI (((x9.1*16777216)+(x13.1*65536))+(x17.1*256))::eI x21.1::eI ((((x9.1*16777216)+(x13.1*65536))+(x17.1*256))+x21.1)::eI p1::eI (((((x9.1*16777216)+(x13.1*65536))+(x17.1*256))+x21.1).tmod p1)::eI (((((x9.1*16777216)+(x13.1*65536))+(x17.1*256))+x21.1).tmod p1)::[]) ?_ ?_
 exact om h5<|op (fun Q U W H D=>zGQ (D.g 0 Z) Z e24)<|om h6<|op (fun Q U W H D=>zGQ (D.g 0 Z) Z e25)<|op (fun Q U W H D=>zAR (D.g 0 Z) (D.g 1 Z) e26)<|om h7<|op (fun Q U W H D=>zGQ (D.g 0 Z) Z e27)<|op (fun Q U W H D=>zAR (D.g 0 Z) (D.g 1 Z) e28)<|om h8<|op (fun Q U W H D=>zAR (D.g 0 Z) (D.g 1 Z) e29)<|om h1<|op (fun Q U W H D=>zMY (D.g 0 Z) (D.g 1 Z) e30)<|oa<|oz
 intro R w m n p
 have h4:=p.r 12 Z
 replace q:=q.fr m
 replace d:=d.fr m.size
 replace j:=j.tr (m.ch noB) fun _ h=>False.elim h
 refine HT.ret ?_
 obtain rfl:=si c
 obtain ⟨A1,hA1,hG1⟩:=GPost.of q d B (q.geK (⟨.inr (fun k h=>.inr h),N⟩)) j
 exact ⟨.inr Z,[R 4],⟨Z,N⟩,A1,hG1,h4⟩
def zBX (fu:Nat) (p0:zAE) (p1:List (List UInt8)):Option ((List UInt8) × zAE):=
 cl true (zBR fu p0 (p1.length:Int)) fun x2=>
 ck (inR x2.1 p1.length) <|
 some ((gtD p1 x2.1),x2.2)
theorem zCF {fu : Nat} {Aq : Av} {p0 : zAE} {p1 : List (List UInt8)} {r : (List UInt8) × zAE} (c : zBX fu p0 p1 = some r) {w : World} {v0 : Value} {v1 : Value} {b0 B0 : Nat} (d : AvOK Aq w) (h0 : v0 = .pointer (some ⟨b0, 0, none⟩)) (hO0 : IniOK [ob (.pointer (some ⟨b0, 0, none⟩)) (.box B0 154 zA1 p0)] Aq w) (h1 : Rep (eSl eStr) Aq w v1 p1) :
 Calls prog 222 #[v0,v1] w fun e w'=>∃ v,e = .returned v∧(∃ (A1:Av),GPost (subS Aq (zA9 (.pointer (some ⟨b0,0,none⟩)))) (zA9 (.pointer (some ⟨b0,0,none⟩))) w [ob (.pointer (some ⟨b0,0,none⟩)) (.box B0 154 zA1 r.2)] A1 w'∧(Fact.rep eStr A1 r.1).ok v w'):=by
 unfold zBX at c
 obtain ⟨w0,hw0⟩:∃ w0,w0=w:=⟨_,Z⟩
 have j:Ch (zA9 (.pointer (some ⟨b0,0,none⟩))) w0 w:=hw0 ▸ Ch.refl _ _
 obtain ⟨A0,hA0e⟩:∃ A0,A0=subS Aq (zA9 (.pointer (some ⟨b0,0,none⟩))):=⟨_,Z⟩
 have C:∀ b o,A0 b o→b<w0.heap.size:=fun b o h=>hw0 ▸ d b o (hA0e ▸ h:subS Aq _ b o).1
 have K:∀ b o,A0 b o→¬ (zA9 (.pointer (some ⟨b0,0,none⟩))) b:=fun b o h=>(hA0e ▸ h:subS Aq _ b o).2
 have hA00:AvOK A0 w0:=C
 rw [show GPost (subS Aq (zA9 (.pointer (some ⟨b0,0,none⟩)))) (zA9 (.pointer (some ⟨b0,0,none⟩))) w=GPost A0 (zA9 (.pointer (some ⟨b0,0,none⟩))) w0 from by rw [hA0e,hw0]]
 obtain ⟨A,hAe⟩:∃ A,A=Aq:=⟨_,Z⟩
 have B:∀ b o,A0 b o→A b o:=fun b o h=>hAe ▸ (hA0e ▸ h:subS Aq _ b o).1
 replace d:AvOK A w:=hAe ▸ d
 have q:IniOK [ob (.pointer (some ⟨b0,0,none⟩)) (.box B0 154 zA1 p0)] A w:=hAe ▸ hO0
 clear hA0e hO0
 refine zA3 [.tmp 4] func222 ntmps222 (by decide) Z Z (nb Z) ?_
 intro R hR
 replace h0:R 0 = .pointer (some ⟨b0,0,none⟩):=(hR 0 _ Z).trans h0
 have f_v1:Rep (eSl eStr) A w v1 p1:=hAe ▸ h1
 replace h1:R 1=v1:=hR 1 _ Z
 refine zQ9 ?_
 refine zQD (eF (.rep eStr A ([]:List UInt8))::[]) ?_ ?_
 exact op (fun Q U W H D=>zA2 ⟨_,Z,⟨_,Z,Z,by decide⟩⟩)<|oz
 intro R w m n p
 obtain ⟨h0,h1⟩:=k2 n h0 h1
 replace f_v1:=f_v1.fr m
 replace q:=q.fr m
 replace d:=d.fr m.size
 replace j:=j.tr (m.ch noB) fun _ h=>False.elim h
 refine zQ9 ?_
 refine SG.of ?_
 refine SG.textR [ob (.pointer (some ⟨b0,0,none⟩)) (.box B0 154 zA1 p0)] (rR v1::rR (.pointer (some ⟨b0,0,none⟩))::rR v1::rI (p1.length:Int)::[]) 4 Z Z Z (by kernel_rfl) (by kernel_rfl) (Wf.mk' (by kernel_rfl) (ur (ur (ur (ur (UAll.nil))))) (by kernel_rfl) (by kernel_rfl)) q d (N) ?_ ?_
 exact rm h1<|rm h0<|rm h1<|rp (fun V Q U O D=>zAe (aT:=#[]) ((f_v1.stp O.stp).eq (D.g 0 Z)) underlying46)<|rz
 intro done ρ σ A R w y s
 have z1:=s.inivR 0 Z
 have h5:=s.r y 0 Z
 have h6:=s.r y 1 Z
 have h8:=s.r y 3 Z
 replace f_v1:=f_v1.stp s.stp
 replace B:=s.lowK B C K (q.geK (⟨.inr (fun k h=>.inr h),N⟩))
 replace j:Ch (zA9 (.pointer (some ⟨b0,0,none⟩))) w0 w:=j.tr s.ch (q.geK (⟨.inr (fun k h=>.inr h),N⟩))
 replace q:=s.left y [(0,ob (.pointer (some ⟨b0,0,none⟩)) (.box B0 154 zA1 p0))] ⟨Z,Z,z1,Z,Z,N⟩
 replace d:=s.avok
 obtain ⟨x2,q3,c⟩:=zA4 c
 have hFz:w0.heap.size≤w.heap.size:=j.size
 refine zQK 9 Z Z Z Z (zB1 call145 (zBd (q3 Z) d h6 (q.sub [(0,ob (.pointer (some ⟨b0,0,none⟩)) (.box B0 154 zA1 p0))] ⟨Z,Z,N⟩) h8)) ?_
 rintro v_ w ⟨A,hG1,hv⟩ R n hd
 have hst:=zAy d hG1 (q.ok 0 _ Z).2
 replace B:∀ b o,A0 b o→A b o:=zAs B C K (q.geK (⟨.inr (fun k h=>.inr h),N⟩)) 0 Z hG1
 replace j:Ch (zA9 (.pointer (some ⟨b0,0,none⟩))) w0 w:=j.tr hG1.ch (fun k hk=>(q.geK (⟨.inr (fun k h=>.inr h),N⟩)) k ⟨0,_,Z,hk⟩)
 replace q:=zQ1 q d 0 Z hG1
 replace d:=hG1.avok
 replace q:IniOK [ob (.pointer (some ⟨b0,0,none⟩)) (.box B0 154 zA1 x2.2)] A w:=q
 replace h5:=(n 5 Z).trans h5
 replace h6:=(n 6 Z).trans h6
 replace h8:=(n 8 Z).trans h8
 replace f_v1:=f_v1.stp hst
 have h9:R 9 = .int .i64 x2.1:=hd.trans hv
 clear hFz hG1 hv n hd
 obtain ⟨e4,c⟩:=zA5 c
 refine SG.textR [ob (.pointer (some ⟨b0,0,none⟩)) (.box B0 154 zA1 x2.2)] (rR v1::rR (.pointer (some ⟨b0,0,none⟩))::rA::rI (p1.length:Int)::rI x2.1::(rF fun A=>.qtr eStr A (gtD p1 x2.1))::(rF fun A=>.rep eStr A (gtD p1 x2.1))::(rF fun A=>.rep eStr A (gtD p1 x2.1))::[]) 8 Z Z Z (by kernel_rfl) (by kernel_rfl) (Wf.mk' (by kernel_rfl) (ur (ur (ua (ur (ur (UAll.cons zBL (up (up (UAll.nil))))))))) (by kernel_rfl) (by kernel_rfl)) q d (⟨⟨Z,Z,Z,h5⟩,⟨⟨Z,Z,Z,h6⟩,⟨⟨Z,Z,Z,N⟩,⟨⟨Z,Z,Z,h8⟩,⟨⟨Z,Z,Z,h9⟩,N⟩⟩⟩⟩⟩) ?_ ?_
 exact rp (fun V Q U O D=>zA7 ((f_v1.stp O.stp).eq (D.g 0 Z)) (D.g 1 Z) underlying46 sizeOf9 e4)<|rp (fun V Q U O D=>(zAT (QRep.ptr (D.g 0 Z)) isAgg9 sizeOf9))<|rp (fun V Q U O D=>zA2 (D.g 0 Z))<|rz
 intro done ρ σ A R w y s
 have z5:=s.inivR 0 Z
 obtain ⟨u6,h4,f_u6⟩:∃ u,R 4=u∧Rep eStr A w u (gtD p1 x2.1):=⟨_,Z,s.fact y (i:=7) Z Z Z⟩
 replace B:=s.lowK B C K (q.geK (⟨.inr (fun k h=>.inr h),N⟩))
 replace j:Ch (zA9 (.pointer (some ⟨b0,0,none⟩))) w0 w:=j.tr s.ch (q.geK (⟨.inr (fun k h=>.inr h),N⟩))
 replace q:=s.left y [(0,ob (.pointer (some ⟨b0,0,none⟩)) (.box B0 154 zA1 x2.2))] ⟨Z,Z,z5,Z,Z,N⟩
 replace d:=s.avok
 refine zQJ Z ?_
 refine HT.ret ?_
 obtain rfl:=si c
 obtain ⟨A1,hA1,hG1⟩:=GPost.of q d B (q.geK (⟨.inr (fun k h=>.inr h),N⟩)) j
 exact ⟨.inr Z,[R 4],⟨Z,N⟩,A1,hG1,(f_u6.eq h4).down hA1⟩
def zDc (fu:Nat) (p0:zAE):Option ((List UInt8) × zAE):=
 cl true (zBX fu p0 ([([97,110,110,97]:List UInt8),([65,110,110,97]:List UInt8),([97,110,110]:List UInt8),([106,111,104,110]:List UInt8),([74,111,110]:List UInt8),([109,97,114,105,97]:List UInt8),([77,97,114,121]:List UInt8),([112,101,116,101,114]:List UInt8),([79,39,78,101,105,108]:List UInt8),([108,105]:List UInt8)]:List (List UInt8))) fun x3=>
 cl true (zBX fu x3.2 ([([115,109,105,116,104]:List UInt8),([83,109,121,116,104]:List UInt8),([115,99,104,109,105,100,116]:List UInt8),([106,111,110,101,115]:List UInt8),([74,111,110,97,115]:List UInt8),([108,101,101]:List UInt8),([100,101,32,108,97,32,67,114,117,122]:List UInt8),([109,105,108,108,101,114]:List UInt8),([77,117,108,108,101,114]:List UInt8)]:List (List UInt8))) fun x9=>
 cl true (zBR fu x9.2 6) fun x14=>
 bif (x14.1==0) then (
 ck (zC2 (x9.1++([44,32]:List UInt8)).length) <|
 ck (zC2 ((x9.1++([44,32]:List UInt8))++x3.1).length) <|
 some (((x9.1++([44,32]:List UInt8))++x3.1),x14.2)
 ) else (
 bif (x14.1==1) then (
 ck (zC2 (x3.1++([32]:List UInt8)).length) <|
 cl true (zBX fu x14.2 ([([97,46]:List UInt8),([66]:List UInt8),([106]:List UInt8)]:List (List UInt8))) fun x25=>
 ck (zC2 ((x3.1++([32]:List UInt8))++x25.1).length) <|
 ck (zC2 (((x3.1++([32]:List UInt8))++x25.1)++([32]:List UInt8)).length) <|
 ck (zC2 ((((x3.1++([32]:List UInt8))++x25.1)++([32]:List UInt8))++x9.1).length) <|
 some (((((x3.1++([32]:List UInt8))++x25.1)++([32]:List UInt8))++x9.1),x25.2)
 ) else (
 bif (x14.1==2) then (
 some (x3.1,x14.2)
 ) else (
 ck (zC2 (x3.1++([32]:List UInt8)).length) <|
 ck (zC2 ((x3.1++([32]:List UInt8))++x9.1).length) <|
 some (((x3.1++([32]:List UInt8))++x9.1),x14.2)
 )
 )
 )
theorem zFt {fu : Nat} {Aq : Av} {p0 : zAE} {r : (List UInt8) × zAE} (c : zDc fu p0 = some r) {w : World} {v0 : Value} {b0 B0 : Nat} (d : AvOK Aq w) (h0 : v0 = .pointer (some ⟨b0, 0, none⟩)) (hO0 : IniOK [ob (.pointer (some ⟨b0, 0, none⟩)) (.box B0 154 zA1 p0)] Aq w) :
 Calls prog 179 #[v0] w fun e w'=>∃ v,e = .returned v∧(∃ (A1:Av),GPost (subS Aq (zA9 (.pointer (some ⟨b0,0,none⟩)))) (zA9 (.pointer (some ⟨b0,0,none⟩))) w [ob (.pointer (some ⟨b0,0,none⟩)) (.box B0 154 zA1 r.2)] A1 w'∧(Fact.rep eStr A1 r.1).ok v w'):=by
 unfold zDc at c
 obtain ⟨w0,hw0⟩:∃ w0,w0=w:=⟨_,Z⟩
 have j:Ch (zA9 (.pointer (some ⟨b0,0,none⟩))) w0 w:=hw0 ▸ Ch.refl _ _
 obtain ⟨A0,hA0e⟩:∃ A0,A0=subS Aq (zA9 (.pointer (some ⟨b0,0,none⟩))):=⟨_,Z⟩
 have C:∀ b o,A0 b o→b<w0.heap.size:=fun b o h=>hw0 ▸ d b o (hA0e ▸ h:subS Aq _ b o).1
 have K:∀ b o,A0 b o→¬ (zA9 (.pointer (some ⟨b0,0,none⟩))) b:=fun b o h=>(hA0e ▸ h:subS Aq _ b o).2
 have hA00:AvOK A0 w0:=C
 rw [show GPost (subS Aq (zA9 (.pointer (some ⟨b0,0,none⟩)))) (zA9 (.pointer (some ⟨b0,0,none⟩))) w=GPost A0 (zA9 (.pointer (some ⟨b0,0,none⟩))) w0 from by rw [hA0e,hw0]]
 obtain ⟨A,hAe⟩:∃ A,A=Aq:=⟨_,Z⟩
 have B:∀ b o,A0 b o→A b o:=fun b o h=>hAe ▸ (hA0e ▸ h:subS Aq _ b o).1
 replace d:AvOK A w:=hAe ▸ d
 have q:IniOK [ob (.pointer (some ⟨b0,0,none⟩)) (.box B0 154 zA1 p0)] A w:=hAe ▸ hO0
 clear hA0e hO0
 refine zA3 [.tmp 2] func179 ntmps179 (by decide) Z Z (nb Z) ?_
 intro R hR
 replace h0:R 0 = .pointer (some ⟨b0,0,none⟩):=(hR 0 _ Z).trans h0
 refine zQ9 ?_
 refine zQD (eF (.rep eStr A ([]:List UInt8))::[]) ?_ ?_
 exact op (fun Q U W H D=>zA2 ⟨_,Z,⟨_,Z,Z,by decide⟩⟩)<|oz
 intro R w m n p
 replace h0:=k1 n h0
 replace q:=q.fr m
 replace d:=d.fr m.size
 replace j:=j.tr (m.ch noB) fun _ h=>False.elim h
 refine zQ9 ?_
 refine SG.of ?_
 refine SG.textR [ob (.pointer (some ⟨b0,0,none⟩)) (.box B0 154 zA1 p0)] (rR (.pointer (some ⟨b0,0,none⟩))::(rF fun A=>.rep (eSl eStr) A ([([97,110,110,97]:List UInt8),([65,110,110,97]:List UInt8),([97,110,110]:List UInt8),([106,111,104,110]:List UInt8),([74,111,110]:List UInt8),([109,97,114,105,97]:List UInt8),([77,97,114,121]:List UInt8),([112,101,116,101,114]:List UInt8),([79,39,78,101,105,108]:List UInt8),([108,105]:List UInt8)]:List (List UInt8)))::[]) 2 Z Z Z (by kernel_rfl) (by kernel_rfl) (Wf.mk' (by kernel_rfl) (ur (up (UAll.nil))) (by kernel_rfl) (by kernel_rfl)) q d (N) ?_ ?_
 exact rm h0<|rp (fun V Q U O D=>zB6 [_,_,_,_,_,_,_,_,_,_] (E:=eStr) ⟨⟨_,Z,⟨_,Z,Z,by decide⟩⟩,⟨⟨_,Z,⟨_,Z,Z,by decide⟩⟩,⟨⟨_,Z,⟨_,Z,Z,by decide⟩⟩,⟨⟨_,Z,⟨_,Z,Z,by decide⟩⟩,⟨⟨_,Z,⟨_,Z,Z,by decide⟩⟩,⟨⟨_,Z,⟨_,Z,Z,by decide⟩⟩,⟨⟨_,Z,⟨_,Z,Z,by decide⟩⟩,⟨⟨_,Z,⟨_,Z,Z,by decide⟩⟩,⟨⟨_,Z,⟨_,Z,Z,by decide⟩⟩,⟨⟨_,Z,⟨_,Z,Z,by decide⟩⟩,N⟩⟩⟩⟩⟩⟩⟩⟩⟩⟩ underlying46 sizeOf9 zeroValue9 Z Z Z O.av)<|rz
 intro done ρ σ A R w y s
 replace h0:=k1 s.rg h0
 have z1:=s.inivR 0 Z
 have h5:=s.r y 0 Z
 obtain ⟨u2,h6,f_u2⟩:∃ u,R 6=u∧Rep (eSl eStr) A w u ([([97,110,110,97]:List UInt8),([65,110,110,97]:List UInt8),([97,110,110]:List UInt8),([106,111,104,110]:List UInt8),([74,111,110]:List UInt8),([109,97,114,105,97]:List UInt8),([77,97,114,121]:List UInt8),([112,101,116,101,114]:List UInt8),([79,39,78,101,105,108]:List UInt8),([108,105]:List UInt8)]:List (List UInt8)):=⟨_,Z,s.fact y (i:=1) Z Z Z⟩
 replace B:=s.lowK B C K (q.geK (⟨.inr (fun k h=>.inr h),N⟩))
 replace j:Ch (zA9 (.pointer (some ⟨b0,0,none⟩))) w0 w:=j.tr s.ch (q.geK (⟨.inr (fun k h=>.inr h),N⟩))
 replace q:=s.left y [(0,ob (.pointer (some ⟨b0,0,none⟩)) (.box B0 154 zA1 p0))] ⟨Z,Z,z1,Z,Z,N⟩
 replace d:=s.avok
 obtain ⟨x3,q4,c⟩:=zA4 c
 have hFz:w0.heap.size≤w.heap.size:=j.size
 refine zQK 7 Z Z Z Z (zB1 call222 (zCF (q4 Z) d h5 (q.sub [(0,ob (.pointer (some ⟨b0,0,none⟩)) (.box B0 154 zA1 p0))] ⟨Z,Z,N⟩) (f_u2.eq h6))) ?_
 rintro v_ w ⟨A,hG1,hv⟩ R n hd
 have hst:=zAy d hG1 (q.ok 0 _ Z).2
 replace B:∀ b o,A0 b o→A b o:=zAs B C K (q.geK (⟨.inr (fun k h=>.inr h),N⟩)) 0 Z hG1
 replace j:Ch (zA9 (.pointer (some ⟨b0,0,none⟩))) w0 w:=j.tr hG1.ch (fun k hk=>(q.geK (⟨.inr (fun k h=>.inr h),N⟩)) k ⟨0,_,Z,hk⟩)
 replace q:=zQ1 q d 0 Z hG1
 replace d:=hG1.avok
 replace q:IniOK [ob (.pointer (some ⟨b0,0,none⟩)) (.box B0 154 zA1 x3.2)] A w:=q
 replace h0:=(n 0 Z).trans h0
 replace h5:=(n 5 Z).trans h5
 replace h6:=(n 6 Z).trans h6
 replace f_u2:=f_u2.stp hst
 obtain ⟨u5,h7,f_u5⟩:∃ u,R 7=u∧Rep eStr A w u x3.1:=⟨_,Z,hd ▸ hv⟩
 clear hFz hG1 hv n hd
 refine SG.textR [ob (.pointer (some ⟨b0,0,none⟩)) (.box B0 154 zA1 x3.2)] (rR (.pointer (some ⟨b0,0,none⟩))::rR u2::rR u5::rR u5::[]) 4 Z Z Z (by kernel_rfl) (by kernel_rfl) (Wf.mk' (by kernel_rfl) (ur (ur (ur (ur (UAll.nil))))) (by kernel_rfl) (by kernel_rfl)) q d (⟨⟨Z,Z,Z,h5⟩,⟨⟨Z,Z,Z,h6⟩,⟨⟨Z,Z,Z,h7⟩,N⟩⟩⟩) ?_ ?_
 exact ra<|rz
 intro done ρ σ A R w y s
 replace h0:=k1 s.rg h0
 have z6:=s.inivR 0 Z
 have h3:=s.r y 3 Z
 replace f_u5:=f_u5.stp s.stp
 replace B:=s.lowK B C K (q.geK (⟨.inr (fun k h=>.inr h),N⟩))
 replace j:Ch (zA9 (.pointer (some ⟨b0,0,none⟩))) w0 w:=j.tr s.ch (q.geK (⟨.inr (fun k h=>.inr h),N⟩))
 replace q:=s.left y [(0,ob (.pointer (some ⟨b0,0,none⟩)) (.box B0 154 zA1 x3.2))] ⟨Z,Z,z6,Z,Z,N⟩
 replace d:=s.avok
 refine zQJ Z ?_
 refine zQ9 ?_
 refine SG.of ?_
 refine SG.textR [ob (.pointer (some ⟨b0,0,none⟩)) (.box B0 154 zA1 x3.2)] (rR (.pointer (some ⟨b0,0,none⟩))::(rF fun A=>.rep (eSl eStr) A ([([115,109,105,116,104]:List UInt8),([83,109,121,116,104]:List UInt8),([115,99,104,109,105,100,116]:List UInt8),([106,111,110,101,115]:List UInt8),([74,111,110,97,115]:List UInt8),([108,101,101]:List UInt8),([100,101,32,108,97,32,67,114,117,122]:List UInt8),([109,105,108,108,101,114]:List UInt8),([77,117,108,108,101,114]:List UInt8)]:List (List UInt8)))::[]) 2 Z Z Z (by kernel_rfl) (by kernel_rfl) (Wf.mk' (by kernel_rfl) (ur (up (UAll.nil))) (by kernel_rfl) (by kernel_rfl)) q d (N) ?_ ?_
 exact rm h0<|rp (fun V Q U O D=>zB6 [_,_,_,_,_,_,_,_,_] (E:=eStr) ⟨⟨_,Z,⟨_,Z,Z,by decide⟩⟩,⟨⟨_,Z,⟨_,Z,Z,by decide⟩⟩,⟨⟨_,Z,⟨_,Z,Z,by decide⟩⟩,⟨⟨_,Z,⟨_,Z,Z,by decide⟩⟩,⟨⟨_,Z,⟨_,Z,Z,by decide⟩⟩,⟨⟨_,Z,⟨_,Z,Z,by decide⟩⟩,⟨⟨_,Z,⟨_,Z,Z,by decide⟩⟩,⟨⟨_,Z,⟨_,Z,Z,by decide⟩⟩,⟨⟨_,Z,⟨_,Z,Z,by decide⟩⟩,N⟩⟩⟩⟩⟩⟩⟩⟩⟩ underlying46 sizeOf9 zeroValue9 Z Z Z O.av)<|rz
 intro done ρ σ A R w y s
 obtain ⟨h0,h3⟩:=k2 s.rg h0 h3
 have z7:=s.inivR 0 Z
 have h8:=s.r y 0 Z
 obtain ⟨u8,h9,f_u8⟩:∃ u,R 9=u∧Rep (eSl eStr) A w u ([([115,109,105,116,104]:List UInt8),([83,109,121,116,104]:List UInt8),([115,99,104,109,105,100,116]:List UInt8),([106,111,110,101,115]:List UInt8),([74,111,110,97,115]:List UInt8),([108,101,101]:List UInt8),([100,101,32,108,97,32,67,114,117,122]:List UInt8),([109,105,108,108,101,114]:List UInt8),([77,117,108,108,101,114]:List UInt8)]:List (List UInt8)):=⟨_,Z,s.fact y (i:=1) Z Z Z⟩
 replace f_u5:=f_u5.stp s.stp
 replace B:=s.lowK B C K (q.geK (⟨.inr (fun k h=>.inr h),N⟩))
 replace j:Ch (zA9 (.pointer (some ⟨b0,0,none⟩))) w0 w:=j.tr s.ch (q.geK (⟨.inr (fun k h=>.inr h),N⟩))
 replace q:=s.left y [(0,ob (.pointer (some ⟨b0,0,none⟩)) (.box B0 154 zA1 x3.2))] ⟨Z,Z,z7,Z,Z,N⟩
 replace d:=s.avok
 obtain ⟨x9,q10,c⟩:=zA4 c
 have hFz:w0.heap.size≤w.heap.size:=j.size
 refine zQK 10 Z Z Z Z (zB1 call222 (zCF (q10 Z) d h8 (q.sub [(0,ob (.pointer (some ⟨b0,0,none⟩)) (.box B0 154 zA1 x3.2))] ⟨Z,Z,N⟩) (f_u8.eq h9))) ?_
 rintro v_ w ⟨A,hG1,hv⟩ R n hd
 have hst:=zAy d hG1 (q.ok 0 _ Z).2
 replace B:∀ b o,A0 b o→A b o:=zAs B C K (q.geK (⟨.inr (fun k h=>.inr h),N⟩)) 0 Z hG1
 replace j:Ch (zA9 (.pointer (some ⟨b0,0,none⟩))) w0 w:=j.tr hG1.ch (fun k hk=>(q.geK (⟨.inr (fun k h=>.inr h),N⟩)) k ⟨0,_,Z,hk⟩)
 replace q:=zQ1 q d 0 Z hG1
 replace d:=hG1.avok
 replace q:IniOK [ob (.pointer (some ⟨b0,0,none⟩)) (.box B0 154 zA1 x9.2)] A w:=q
 replace h0:=(n 0 Z).trans h0
 replace h3:=(n 3 Z).trans h3
 replace h8:=(n 8 Z).trans h8
 replace h9:=(n 9 Z).trans h9
 replace f_u5:=f_u5.stp hst
 replace f_u8:=f_u8.stp hst
 obtain ⟨u11,h10,f_u11⟩:∃ u,R 10=u∧Rep eStr A w u x9.1:=⟨_,Z,hd ▸ hv⟩
 clear hFz hG1 hv n hd
 refine SG.textR [ob (.pointer (some ⟨b0,0,none⟩)) (.box B0 154 zA1 x9.2)] (rR (.pointer (some ⟨b0,0,none⟩))::rR u8::rR u11::rR u11::[]) 4 Z Z Z (by kernel_rfl) (by kernel_rfl) (Wf.mk' (by kernel_rfl) (ur (ur (ur (ur (UAll.nil))))) (by kernel_rfl) (by kernel_rfl)) q d (⟨⟨Z,Z,Z,h8⟩,⟨⟨Z,Z,Z,h9⟩,⟨⟨Z,Z,Z,h10⟩,N⟩⟩⟩) ?_ ?_
 exact ra<|rz
 intro done ρ σ A R w y s
 obtain ⟨h0,h3⟩:=k2 s.rg h0 h3
 have z12:=s.inivR 0 Z
 have h4:=s.r y 3 Z
 replace f_u11:=f_u11.stp s.stp
 replace f_u5:=f_u5.stp s.stp
 replace B:=s.lowK B C K (q.geK (⟨.inr (fun k h=>.inr h),N⟩))
 replace j:Ch (zA9 (.pointer (some ⟨b0,0,none⟩))) w0 w:=j.tr s.ch (q.geK (⟨.inr (fun k h=>.inr h),N⟩))
 replace q:=s.left y [(0,ob (.pointer (some ⟨b0,0,none⟩)) (.box B0 154 zA1 x9.2))] ⟨Z,Z,z12,Z,Z,N⟩
 replace d:=s.avok
 refine zQJ Z ?_
 refine zQ9 ?_
 refine zQ9 ?_
 refine SG.of ?_
 refine SG.textR [ob (.pointer (some ⟨b0,0,none⟩)) (.box B0 154 zA1 x9.2)] (rR (.pointer (some ⟨b0,0,none⟩))::[]) 1 Z Z Z (by kernel_rfl) (by kernel_rfl) (Wf.mk' (by kernel_rfl) (ur (UAll.nil)) (by kernel_rfl) (by kernel_rfl)) q d (N) ?_ ?_
 exact rm h0<|rz
 intro done ρ σ A R w y s
 obtain ⟨h0,h3,h4⟩:=k3 s.rg h0 h3 h4
 have z13:=s.inivR 0 Z
 have h11:=s.r y 0 Z
 replace f_u11:=f_u11.stp s.stp
 replace f_u5:=f_u5.stp s.stp
 replace B:=s.lowK B C K (q.geK (⟨.inr (fun k h=>.inr h),N⟩))
 replace j:Ch (zA9 (.pointer (some ⟨b0,0,none⟩))) w0 w:=j.tr s.ch (q.geK (⟨.inr (fun k h=>.inr h),N⟩))
 replace q:=s.left y [(0,ob (.pointer (some ⟨b0,0,none⟩)) (.box B0 154 zA1 x9.2))] ⟨Z,Z,z13,Z,Z,N⟩
 replace d:=s.avok
 obtain ⟨x14,q15,c⟩:=zA4 c
 have hFz:w0.heap.size≤w.heap.size:=j.size
 refine zQK 12 Z Z Z Z (zB1 call145 (zBd (q15 Z) d h11 (q.sub [(0,ob (.pointer (some ⟨b0,0,none⟩)) (.box B0 154 zA1 x9.2))] ⟨Z,Z,N⟩) Z)) ?_
 rintro v_ w ⟨A,hG1,hv⟩ R n hd
 have hst:=zAy d hG1 (q.ok 0 _ Z).2
 replace B:∀ b o,A0 b o→A b o:=zAs B C K (q.geK (⟨.inr (fun k h=>.inr h),N⟩)) 0 Z hG1
 replace j:Ch (zA9 (.pointer (some ⟨b0,0,none⟩))) w0 w:=j.tr hG1.ch (fun k hk=>(q.geK (⟨.inr (fun k h=>.inr h),N⟩)) k ⟨0,_,Z,hk⟩)
 replace q:=zQ1 q d 0 Z hG1
 replace d:=hG1.avok
 replace q:IniOK [ob (.pointer (some ⟨b0,0,none⟩)) (.box B0 154 zA1 x14.2)] A w:=q
 replace h0:=(n 0 Z).trans h0
 replace h3:=(n 3 Z).trans h3
 replace h4:=(n 4 Z).trans h4
 replace h11:=(n 11 Z).trans h11
 replace f_u11:=f_u11.stp hst
 replace f_u5:=f_u5.stp hst
 have h12:R 12 = .int .i64 x14.1:=hd.trans hv
 clear hFz hG1 hv n hd
 refine zQJ Z ?_
 refine HT.block ?_
 refine zQ9 ?_
 refine zQD (eB (x14.1==0)::eB (x14.1==0)::[]) ?_ ?_
 exact op (fun Q U W H D=>zAo ((H 12 Z).trans h12) Z)<|oa<|oz
 intro R w m n p
 obtain ⟨h0,h3,h4,h12⟩:=k4 n h0 h3 h4 h12
 have h13:=p.r 1 Z
 replace f_u11:=f_u11.fr m
 replace f_u5:=f_u5.fr m
 replace q:=q.fr m
 replace d:=d.fr m.size
 replace j:=j.tr (m.ch noB) fun _ h=>False.elim h
 refine zQ2 (x14.1==0) h13 (fun c16=>?_) (fun c16=>?_)
 have c:=zAO c16 c
 refine zQ9 ?_
 obtain ⟨e17,e18,c⟩:=ck2 c
 refine zQD (eR u11::eF (.rep eStr A (x9.1++([44,32]:List UInt8)))::eR u5::eF (.rep eStr A ((x9.1++([44,32]:List UInt8))++x3.1))::eF (.rep eStr A ((x9.1++([44,32]:List UInt8))++x3.1))::[]) ?_ ?_
 exact om h4<|op (fun Q U W H D=>zFy ((f_u11.fr W).eq (D.g 0 Z)) ⟨_,Z,⟨_,Z,Z,by decide⟩⟩ e17)<|om h3<|op (fun Q U W H D=>zFy (D.g 0 Z) ((f_u5.fr W).eq (D.g 1 Z)) e18)<|op (fun Q U W H D=>zA2 (D.g 0 Z))<|oz
 intro R w m n p
 obtain ⟨u19,h2,f_u19⟩:∃ u,R 2=u∧Rep eStr A w u ((x9.1++([44,32]:List UInt8))++x3.1):=⟨_,Z,p 4 _ _ Z Z Z⟩
 replace q:=q.fr m
 replace d:=d.fr m.size
 replace j:=j.tr (m.ch noB) fun _ h=>False.elim h
 refine HT.ret ?_
 obtain rfl:=si c
 obtain ⟨A1,hA1,hG1⟩:=GPost.of q d B (q.geK (⟨.inr (fun k h=>.inr h),N⟩)) j
 exact ⟨.inr Z,[R 2],⟨Z,N⟩,A1,hG1,(f_u19.eq h2).down hA1⟩
 have c:=zAN c16 c
 refine zQ9 ?_
 refine zQD (eB (x14.1==1)::eB (x14.1==1)::[]) ?_ ?_
 exact op (fun Q U W H D=>zAo ((H 12 Z).trans h12) Z)<|oa<|oz
 intro R w m n p
 obtain ⟨h0,h3,h4,h12⟩:=k4 n h0 h3 h4 h12
 have h19:=p.r 1 Z
 replace f_u11:=f_u11.fr m
 replace f_u5:=f_u5.fr m
 replace q:=q.fr m
 replace d:=d.fr m.size
 replace j:=j.tr (m.ch noB) fun _ h=>False.elim h
 refine zQ2 (x14.1==1) h19 (fun c20=>?_) (fun c20=>?_)
 have c:=zAO c20 c
 refine zQ9 ?_
 refine SG.of ?_
 obtain ⟨e21,c⟩:=zA5 c
 refine SG.textR [ob (.pointer (some ⟨b0,0,none⟩)) (.box B0 154 zA1 x14.2)] (rR u5::(rF fun A=>.rep eStr A (x3.1++([32]:List UInt8)))::rR (.pointer (some ⟨b0,0,none⟩))::(rF fun A=>.rep (eSl eStr) A ([([97,46]:List UInt8),([66]:List UInt8),([106]:List UInt8)]:List (List UInt8)))::[]) 4 Z Z Z (by kernel_rfl) (by kernel_rfl) (Wf.mk' (by kernel_rfl) (ur (up (ur (up (UAll.nil))))) (by kernel_rfl) (by kernel_rfl)) q d (N) ?_ ?_
 exact rm h3<|rp (fun V Q U O D=>zFy ((f_u5.stp O.stp).eq (D.g 0 Z)) ⟨_,Z,⟨_,Z,Z,by decide⟩⟩ e21)<|rm h0<|rp (fun V Q U O D=>zB6 [_,_,_] (E:=eStr) ⟨⟨_,Z,⟨_,Z,Z,by decide⟩⟩,⟨⟨_,Z,⟨_,Z,Z,by decide⟩⟩,⟨⟨_,Z,⟨_,Z,Z,by decide⟩⟩,N⟩⟩⟩ underlying46 sizeOf9 zeroValue9 Z Z Z O.av)<|rz
 intro done ρ σ A R w y s
 replace h4:=k1 s.rg h4
 have z22:=s.inivR 0 Z
 obtain ⟨u23,h22,f_u23⟩:∃ u,R 22=u∧Rep eStr A w u (x3.1++([32]:List UInt8)):=⟨_,Z,s.fact y (i:=1) Z Z Z⟩
 have h23:=s.r y 2 Z
 obtain ⟨u24,h24,f_u24⟩:∃ u,R 24=u∧Rep (eSl eStr) A w u ([([97,46]:List UInt8),([66]:List UInt8),([106]:List UInt8)]:List (List UInt8)):=⟨_,Z,s.fact y (i:=3) Z Z Z⟩
 replace f_u11:=f_u11.stp s.stp
 replace B:=s.lowK B C K (q.geK (⟨.inr (fun k h=>.inr h),N⟩))
 replace j:Ch (zA9 (.pointer (some ⟨b0,0,none⟩))) w0 w:=j.tr s.ch (q.geK (⟨.inr (fun k h=>.inr h),N⟩))
 replace q:=s.left y [(0,ob (.pointer (some ⟨b0,0,none⟩)) (.box B0 154 zA1 x14.2))] ⟨Z,Z,z22,Z,Z,N⟩
 replace d:=s.avok
 obtain ⟨x25,q26,c⟩:=zA4 c
 have hFz:w0.heap.size≤w.heap.size:=j.size
 refine zQK 25 Z Z Z Z (zB1 call222 (zCF (q26 Z) d h23 (q.sub [(0,ob (.pointer (some ⟨b0,0,none⟩)) (.box B0 154 zA1 x14.2))] ⟨Z,Z,N⟩) (f_u24.eq h24))) ?_
 rintro v_ w ⟨A,hG1,hv⟩ R n hd
 have hst:=zAy d hG1 (q.ok 0 _ Z).2
 replace B:∀ b o,A0 b o→A b o:=zAs B C K (q.geK (⟨.inr (fun k h=>.inr h),N⟩)) 0 Z hG1
 replace j:Ch (zA9 (.pointer (some ⟨b0,0,none⟩))) w0 w:=j.tr hG1.ch (fun k hk=>(q.geK (⟨.inr (fun k h=>.inr h),N⟩)) k ⟨0,_,Z,hk⟩)
 replace q:=zQ1 q d 0 Z hG1
 replace d:=hG1.avok
 replace q:IniOK [ob (.pointer (some ⟨b0,0,none⟩)) (.box B0 154 zA1 x25.2)] A w:=q
 replace h4:=(n 4 Z).trans h4
 replace h22:=(n 22 Z).trans h22
 replace h23:=(n 23 Z).trans h23
 replace h24:=(n 24 Z).trans h24
 replace f_u11:=f_u11.stp hst
 replace f_u23:=f_u23.stp hst
 replace f_u24:=f_u24.stp hst
 obtain ⟨u27,h25,f_u27⟩:∃ u,R 25=u∧Rep eStr A w u x25.1:=⟨_,Z,hd ▸ hv⟩
 clear hFz hG1 hv n hd
 obtain ⟨e28,e29,e30,c⟩:=ck3 c
 refine SG.textR [ob (.pointer (some ⟨b0,0,none⟩)) (.box B0 154 zA1 x25.2)] (rA::rR u23::rR (.pointer (some ⟨b0,0,none⟩))::rR u24::rR u27::(rF fun A=>.rep eStr A ((x3.1++([32]:List UInt8))++x25.1))::(rF fun A=>.rep eStr A (((x3.1++([32]:List UInt8))++x25.1)++([32]:List UInt8)))::rR u11::(rF fun A=>.rep eStr A ((((x3.1++([32]:List UInt8))++x25.1)++([32]:List UInt8))++x9.1))::(rF fun A=>.rep eStr A ((((x3.1++([32]:List UInt8))++x25.1)++([32]:List UInt8))++x9.1))::[]) 10 Z Z Z (by kernel_rfl) (by kernel_rfl) (Wf.mk' (by kernel_rfl) (ua (ur (ur (ur (ur (up (up (ur (up (up (UAll.nil))))))))))) (by kernel_rfl) (by kernel_rfl)) q d (⟨⟨Z,Z,Z,N⟩,⟨⟨Z,Z,Z,h22⟩,⟨⟨Z,Z,Z,h23⟩,⟨⟨Z,Z,Z,h24⟩,⟨⟨Z,Z,Z,h25⟩,N⟩⟩⟩⟩⟩) ?_ ?_
 exact rp (fun V Q U O D=>zFy ((f_u23.stp O.stp).eq (D.g 0 Z)) ((f_u27.stp O.stp).eq (D.g 1 Z)) e28)<|rp (fun V Q U O D=>zFy (D.g 0 Z) ⟨_,Z,⟨_,Z,Z,by decide⟩⟩ e29)<|rm h4<|rp (fun V Q U O D=>zFy (D.g 0 Z) ((f_u11.stp O.stp).eq (D.g 1 Z)) e30)<|rp (fun V Q U O D=>zA2 (D.g 0 Z))<|rz
 intro done ρ σ A R w y s
 have z31:=s.inivR 0 Z
 obtain ⟨u32,h2,f_u32⟩:∃ u,R 2=u∧Rep eStr A w u ((((x3.1++([32]:List UInt8))++x25.1)++([32]:List UInt8))++x9.1):=⟨_,Z,s.fact y (i:=9) Z Z Z⟩
 replace B:=s.lowK B C K (q.geK (⟨.inr (fun k h=>.inr h),N⟩))
 replace j:Ch (zA9 (.pointer (some ⟨b0,0,none⟩))) w0 w:=j.tr s.ch (q.geK (⟨.inr (fun k h=>.inr h),N⟩))
 replace q:=s.left y [(0,ob (.pointer (some ⟨b0,0,none⟩)) (.box B0 154 zA1 x25.2))] ⟨Z,Z,z31,Z,Z,N⟩
 replace d:=s.avok
 refine zQJ Z ?_
 refine HT.ret ?_
 obtain rfl:=si c
 obtain ⟨A1,hA1,hG1⟩:=GPost.of q d B (q.geK (⟨.inr (fun k h=>.inr h),N⟩)) j
 exact ⟨.inr Z,[R 2],⟨Z,N⟩,A1,hG1,(f_u32.eq h2).down hA1⟩
 have c:=zAN c20 c
 refine zQ9 ?_
 refine zQD (eB (x14.1==2)::eB (x14.1==2)::[]) ?_ ?_
 exact op (fun Q U W H D=>zAo ((H 12 Z).trans h12) Z)<|oa<|oz
 intro R w m n p
 obtain ⟨h3,h4⟩:=k2 n h3 h4
 have h30:=p.r 1 Z
 replace f_u11:=f_u11.fr m
 replace f_u5:=f_u5.fr m
 replace q:=q.fr m
 replace d:=d.fr m.size
 replace j:=j.tr (m.ch noB) fun _ h=>False.elim h
 refine zQ2 (x14.1==2) h30 (fun c33=>?_) (fun c33=>?_)
 have c:=zAO c33 c
 refine zQ9 ?_
 refine zQD (eR u5::eR u5::[]) ?_ ?_
 exact om h3<|oa<|oz
 intro R w m n p
 have h2:=p.r 1 Z
 replace f_u5:=f_u5.fr m
 replace q:=q.fr m
 replace d:=d.fr m.size
 replace j:=j.tr (m.ch noB) fun _ h=>False.elim h
 refine HT.ret ?_
 obtain rfl:=si c
 obtain ⟨A1,hA1,hG1⟩:=GPost.of q d B (q.geK (⟨.inr (fun k h=>.inr h),N⟩)) j
 exact ⟨.inr Z,[R 2],⟨Z,N⟩,A1,hG1,(f_u5.eq h2).down hA1⟩
 have c:=zAN c33 c
 refine zQA ?_
 refine zQ9 ?_
 obtain ⟨e34,e35,c⟩:=ck2 c
 refine zQD (eR u5::eF (.rep eStr A (x3.1++([32]:List UInt8)))::eR u11::eF (.rep eStr A ((x3.1++([32]:List UInt8))++x9.1))::eF (.rep eStr A ((x3.1++([32]:List UInt8))++x9.1))::[]) ?_ ?_
 exact om h3<|op (fun Q U W H D=>zFy ((f_u5.fr W).eq (D.g 0 Z)) ⟨_,Z,⟨_,Z,Z,by decide⟩⟩ e34)<|om h4<|op (fun Q U W H D=>zFy (D.g 0 Z) ((f_u11.fr W).eq (D.g 1 Z)) e35)<|op (fun Q U W H D=>zA2 (D.g 0 Z))<|oz
 intro R w m n p
 obtain ⟨u36,h2,f_u36⟩:∃ u,R 2=u∧Rep eStr A w u ((x3.1++([32]:List UInt8))++x9.1):=⟨_,Z,p 4 _ _ Z Z Z⟩
 replace q:=q.fr m
 replace d:=d.fr m.size
 replace j:=j.tr (m.ch noB) fun _ h=>False.elim h
 refine HT.ret ?_
 obtain rfl:=si c
 obtain ⟨A1,hA1,hG1⟩:=GPost.of q d B (q.geK (⟨.inr (fun k h=>.inr h),N⟩)) j
 exact ⟨.inr Z,[R 2],⟨Z,N⟩,A1,hG1,(f_u36.eq h2).down hA1⟩
def zDj (fu:Nat) (p0:zAE):Option ((List UInt8) × zAE):=
 cl true (zBX fu p0 ([([53,53,53,32,49,50,51,52]:List UInt8),([43,49,32,53,53,53,45,49,50,51,52]:List UInt8),([49,53,53,53,49,50,51,52]:List UInt8),([53,53,53,49,50,51,52]:List UInt8),([49,50,51,52]:List UInt8),([50,51,52]:List UInt8),([]:List UInt8),([53,53,53,45,57,57,57,57]:List UInt8),([48,48,52,52,32,50,48,32,55,57,52,54,32,48,48,49,56]:List UInt8),([55,57,52,54,32,48,48,49,56]:List UInt8),([120]:List UInt8)]:List (List UInt8))) fun x3=>
 some (x3.1,x3.2)
theorem zHf {fu : Nat} {Aq : Av} {p0 : zAE} {r : (List UInt8) × zAE} (c : zDj fu p0 = some r) {w : World} {v0 : Value} {b0 B0 : Nat} (d : AvOK Aq w) (h0 : v0 = .pointer (some ⟨b0, 0, none⟩)) (hO0 : IniOK [ob (.pointer (some ⟨b0, 0, none⟩)) (.box B0 154 zA1 p0)] Aq w) :
 Calls prog 274 #[v0] w fun e w'=>∃ v,e = .returned v∧(∃ (A1:Av),GPost (subS Aq (zA9 (.pointer (some ⟨b0,0,none⟩)))) (zA9 (.pointer (some ⟨b0,0,none⟩))) w [ob (.pointer (some ⟨b0,0,none⟩)) (.box B0 154 zA1 r.2)] A1 w'∧(Fact.rep eStr A1 r.1).ok v w'):=by
 unfold zDj at c
 obtain ⟨w0,hw0⟩:∃ w0,w0=w:=⟨_,Z⟩
 have j:Ch (zA9 (.pointer (some ⟨b0,0,none⟩))) w0 w:=hw0 ▸ Ch.refl _ _
 obtain ⟨A0,hA0e⟩:∃ A0,A0=subS Aq (zA9 (.pointer (some ⟨b0,0,none⟩))):=⟨_,Z⟩
 have C:∀ b o,A0 b o→b<w0.heap.size:=fun b o h=>hw0 ▸ d b o (hA0e ▸ h:subS Aq _ b o).1
 have K:∀ b o,A0 b o→¬ (zA9 (.pointer (some ⟨b0,0,none⟩))) b:=fun b o h=>(hA0e ▸ h:subS Aq _ b o).2
 have hA00:AvOK A0 w0:=C
 rw [show GPost (subS Aq (zA9 (.pointer (some ⟨b0,0,none⟩)))) (zA9 (.pointer (some ⟨b0,0,none⟩))) w=GPost A0 (zA9 (.pointer (some ⟨b0,0,none⟩))) w0 from by rw [hA0e,hw0]]
 obtain ⟨A,hAe⟩:∃ A,A=Aq:=⟨_,Z⟩
 have B:∀ b o,A0 b o→A b o:=fun b o h=>hAe ▸ (hA0e ▸ h:subS Aq _ b o).1
 replace d:AvOK A w:=hAe ▸ d
 have q:IniOK [ob (.pointer (some ⟨b0,0,none⟩)) (.box B0 154 zA1 p0)] A w:=hAe ▸ hO0
 clear hA0e hO0
 refine zA3 [.tmp 2] func274 ntmps274 (by decide) Z Z (nb Z) ?_
 intro R hR
 replace h0:R 0 = .pointer (some ⟨b0,0,none⟩):=(hR 0 _ Z).trans h0
 refine zQ9 ?_
 refine zQD (eF (.rep eStr A ([]:List UInt8))::[]) ?_ ?_
 exact op (fun Q U W H D=>zA2 ⟨_,Z,⟨_,Z,Z,by decide⟩⟩)<|oz
 intro R w m n p
 replace h0:=k1 n h0
 replace q:=q.fr m
 replace d:=d.fr m.size
 replace j:=j.tr (m.ch noB) fun _ h=>False.elim h
 refine zQ9 ?_
 refine SG.of ?_
 refine SG.textR [ob (.pointer (some ⟨b0,0,none⟩)) (.box B0 154 zA1 p0)] (rR (.pointer (some ⟨b0,0,none⟩))::(rF fun A=>.rep (eSl eStr) A ([([53,53,53,32,49,50,51,52]:List UInt8),([43,49,32,53,53,53,45,49,50,51,52]:List UInt8),([49,53,53,53,49,50,51,52]:List UInt8),([53,53,53,49,50,51,52]:List UInt8),([49,50,51,52]:List UInt8),([50,51,52]:List UInt8),([]:List UInt8),([53,53,53,45,57,57,57,57]:List UInt8),([48,48,52,52,32,50,48,32,55,57,52,54,32,48,48,49,56]:List UInt8),([55,57,52,54,32,48,48,49,56]:List UInt8),([120]:List UInt8)]:List (List UInt8)))::[]) 2 Z Z Z (by kernel_rfl) (by kernel_rfl) (Wf.mk' (by kernel_rfl) (ur (up (UAll.nil))) (by kernel_rfl) (by kernel_rfl)) q d (N) ?_ ?_
 exact rm h0<|rp (fun V Q U O D=>zB6 [_,_,_,_,_,_,_,_,_,_,_] (E:=eStr) ⟨⟨_,Z,⟨_,Z,Z,by decide⟩⟩,⟨⟨_,Z,⟨_,Z,Z,by decide⟩⟩,⟨⟨_,Z,⟨_,Z,Z,by decide⟩⟩,⟨⟨_,Z,⟨_,Z,Z,by decide⟩⟩,⟨⟨_,Z,⟨_,Z,Z,by decide⟩⟩,⟨⟨_,Z,⟨_,Z,Z,by decide⟩⟩,⟨⟨_,Z,⟨_,Z,Z,by decide⟩⟩,⟨⟨_,Z,⟨_,Z,Z,by decide⟩⟩,⟨⟨_,Z,⟨_,Z,Z,by decide⟩⟩,⟨⟨_,Z,⟨_,Z,Z,by decide⟩⟩,⟨⟨_,Z,⟨_,Z,Z,by decide⟩⟩,N⟩⟩⟩⟩⟩⟩⟩⟩⟩⟩⟩ underlying46 sizeOf9 zeroValue9 Z Z Z O.av)<|rz
 intro done ρ σ A R w y s
 have z1:=s.inivR 0 Z
 have h3:=s.r y 0 Z
 obtain ⟨u2,h4,f_u2⟩:∃ u,R 4=u∧Rep (eSl eStr) A w u ([([53,53,53,32,49,50,51,52]:List UInt8),([43,49,32,53,53,53,45,49,50,51,52]:List UInt8),([49,53,53,53,49,50,51,52]:List UInt8),([53,53,53,49,50,51,52]:List UInt8),([49,50,51,52]:List UInt8),([50,51,52]:List UInt8),([]:List UInt8),([53,53,53,45,57,57,57,57]:List UInt8),([48,48,52,52,32,50,48,32,55,57,52,54,32,48,48,49,56]:List UInt8),([55,57,52,54,32,48,48,49,56]:List UInt8),([120]:List UInt8)]:List (List UInt8)):=⟨_,Z,s.fact y (i:=1) Z Z Z⟩
 replace B:=s.lowK B C K (q.geK (⟨.inr (fun k h=>.inr h),N⟩))
 replace j:Ch (zA9 (.pointer (some ⟨b0,0,none⟩))) w0 w:=j.tr s.ch (q.geK (⟨.inr (fun k h=>.inr h),N⟩))
 replace q:=s.left y [(0,ob (.pointer (some ⟨b0,0,none⟩)) (.box B0 154 zA1 p0))] ⟨Z,Z,z1,Z,Z,N⟩
 replace d:=s.avok
 obtain ⟨x3,q4,c⟩:=zA4 c
 have hFz:w0.heap.size≤w.heap.size:=j.size
 refine zQK 5 Z Z Z Z (zB1 call222 (zCF (q4 Z) d h3 (q.sub [(0,ob (.pointer (some ⟨b0,0,none⟩)) (.box B0 154 zA1 p0))] ⟨Z,Z,N⟩) (f_u2.eq h4))) ?_
 rintro v_ w ⟨A,hG1,hv⟩ R n hd
 have hst:=zAy d hG1 (q.ok 0 _ Z).2
 replace B:∀ b o,A0 b o→A b o:=zAs B C K (q.geK (⟨.inr (fun k h=>.inr h),N⟩)) 0 Z hG1
 replace j:Ch (zA9 (.pointer (some ⟨b0,0,none⟩))) w0 w:=j.tr hG1.ch (fun k hk=>(q.geK (⟨.inr (fun k h=>.inr h),N⟩)) k ⟨0,_,Z,hk⟩)
 replace q:=zQ1 q d 0 Z hG1
 replace d:=hG1.avok
 replace q:IniOK [ob (.pointer (some ⟨b0,0,none⟩)) (.box B0 154 zA1 x3.2)] A w:=q
 replace h3:=(n 3 Z).trans h3
 replace h4:=(n 4 Z).trans h4
 replace f_u2:=f_u2.stp hst
 obtain ⟨u5,h5,f_u5⟩:∃ u,R 5=u∧Rep eStr A w u x3.1:=⟨_,Z,hd ▸ hv⟩
 clear hFz hG1 hv n hd
 refine SG.textR [ob (.pointer (some ⟨b0,0,none⟩)) (.box B0 154 zA1 x3.2)] (rR (.pointer (some ⟨b0,0,none⟩))::rR u2::rR u5::rR u5::[]) 4 Z Z Z (by kernel_rfl) (by kernel_rfl) (Wf.mk' (by kernel_rfl) (ur (ur (ur (ur (UAll.nil))))) (by kernel_rfl) (by kernel_rfl)) q d (⟨⟨Z,Z,Z,h3⟩,⟨⟨Z,Z,Z,h4⟩,⟨⟨Z,Z,Z,h5⟩,N⟩⟩⟩) ?_ ?_
 exact ra<|rz
 intro done ρ σ A R w y s
 have z6:=s.inivR 0 Z
 have h2:=s.r y 3 Z
 replace f_u5:=f_u5.stp s.stp
 replace B:=s.lowK B C K (q.geK (⟨.inr (fun k h=>.inr h),N⟩))
 replace j:Ch (zA9 (.pointer (some ⟨b0,0,none⟩))) w0 w:=j.tr s.ch (q.geK (⟨.inr (fun k h=>.inr h),N⟩))
 replace q:=s.left y [(0,ob (.pointer (some ⟨b0,0,none⟩)) (.box B0 154 zA1 x3.2))] ⟨Z,Z,z6,Z,Z,N⟩
 replace d:=s.avok
 refine zQJ Z ?_
 refine HT.ret ?_
 obtain rfl:=si c
 obtain ⟨A1,hA1,hG1⟩:=GPost.of q d B (q.geK (⟨.inr (fun k h=>.inr h),N⟩)) j
 exact ⟨.inr Z,[R 2],⟨Z,N⟩,A1,hG1,(f_u5.eq h2).down hA1⟩
def zDR (fu:Nat) (p0:zAE):Option ((List (List UInt8)) × zAE):=
 cl true (zDc fu p0) fun x2=>
 cl true (zBX fu x2.2 ([([80,97,114,105,115]:List UInt8),([112,97,114,105,115]:List UInt8),([76,111,110,100,111,110]:List UInt8),([78,101,119,32,89,111,114,107]:List UInt8),([110,101,119,45,121,111,114,107]:List UInt8),([]:List UInt8),([82,111,109,101]:List UInt8)]:List (List UInt8))) fun x7=>
 cl true (zBX fu x7.2 ([([49,57,56,48]:List UInt8),([49,57,56,49]:List UInt8),([49,57,56,53]:List UInt8),([]:List UInt8),([49,57,57,48]:List UInt8),([120]:List UInt8)]:List (List UInt8))) fun x12=>
 cl true (zDj fu x12.2) fun x16=>
 some (([x2.1,x7.1,x12.1,x16.1]:List (List UInt8)),x16.2)
theorem zHN {fu : Nat} {Aq : Av} {p0 : zAE} {r : (List (List UInt8)) × zAE} (c : zDR fu p0 = some r) {w : World} {v0 : Value} {b0 B0 : Nat} (d : AvOK Aq w) (h0 : v0 = .pointer (some ⟨b0, 0, none⟩)) (hO0 : IniOK [ob (.pointer (some ⟨b0, 0, none⟩)) (.box B0 154 zA1 p0)] Aq w) :
 Calls prog 238 #[v0] w fun e w'=>∃ v,e = .returned v∧(∃ (u0:Value) (A1:Av),GPost (subS Aq (zA9 (.pointer (some ⟨b0,0,none⟩)))) (zA9 (.pointer (some ⟨b0,0,none⟩))) w [ob (.pointer (some ⟨b0,0,none⟩)) (.box B0 154 zA1 r.2),ob u0 (.vec w.heap.size 9 eStr r.1)] A1 w'∧(Fact.raw u0).ok v w'):=by
 unfold zDR at c
 obtain ⟨w0,hw0⟩:∃ w0,w0=w:=⟨_,Z⟩
 have j:Ch (zA9 (.pointer (some ⟨b0,0,none⟩))) w0 w:=hw0 ▸ Ch.refl _ _
 obtain ⟨A0,hA0e⟩:∃ A0,A0=subS Aq (zA9 (.pointer (some ⟨b0,0,none⟩))):=⟨_,Z⟩
 have C:∀ b o,A0 b o→b<w0.heap.size:=fun b o h=>hw0 ▸ d b o (hA0e ▸ h:subS Aq _ b o).1
 have K:∀ b o,A0 b o→¬ (zA9 (.pointer (some ⟨b0,0,none⟩))) b:=fun b o h=>(hA0e ▸ h:subS Aq _ b o).2
 have hA00:AvOK A0 w0:=C
 rw [show GPost (subS Aq (zA9 (.pointer (some ⟨b0,0,none⟩)))) (zA9 (.pointer (some ⟨b0,0,none⟩))) w=GPost A0 (zA9 (.pointer (some ⟨b0,0,none⟩))) w0 from by rw [hA0e,hw0]]
 rw [show w.heap.size=w0.heap.size from by rw [hw0]]
 obtain ⟨A,hAe⟩:∃ A,A=Aq:=⟨_,Z⟩
 have B:∀ b o,A0 b o→A b o:=fun b o h=>hAe ▸ (hA0e ▸ h:subS Aq _ b o).1
 replace d:AvOK A w:=hAe ▸ d
 have q:IniOK [ob (.pointer (some ⟨b0,0,none⟩)) (.box B0 154 zA1 p0)] A w:=hAe ▸ hO0
 clear hA0e hO0
 refine zA3 [.tmp 2] func238 ntmps238 (by decide) Z Z (nb Z) ?_
 intro R hR
 replace h0:R 0 = .pointer (some ⟨b0,0,none⟩):=(hR 0 _ Z).trans h0
 refine zQ9 ?_
 refine zQD (eA::[]) ?_ ?_
 exact op (fun Q U W H D=>zA2 N)<|oz
 intro R w m n p
 replace h0:=k1 n h0
 replace q:=q.fr m
 replace d:=d.fr m.size
 replace j:=j.tr (m.ch noB) fun _ h=>False.elim h
 refine zQ9 ?_
 refine SG.of ?_
 refine SG.textR [ob (.pointer (some ⟨b0,0,none⟩)) (.box B0 154 zA1 p0)] (rR (.pointer (some ⟨b0,0,none⟩))::[]) 1 Z Z Z (by kernel_rfl) (by kernel_rfl) (Wf.mk' (by kernel_rfl) (ur (UAll.nil)) (by kernel_rfl) (by kernel_rfl)) q d (N) ?_ ?_
 exact rm h0<|rz
 intro done ρ σ A R w y s
 replace h0:=k1 s.rg h0
 have z1:=s.inivR 0 Z
 have h3:=s.r y 0 Z
 replace B:=s.lowK B C K (q.geK (⟨.inr (fun k h=>.inr h),N⟩))
 replace j:Ch (zA9 (.pointer (some ⟨b0,0,none⟩))) w0 w:=j.tr s.ch (q.geK (⟨.inr (fun k h=>.inr h),N⟩))
 replace q:=s.left y [(0,ob (.pointer (some ⟨b0,0,none⟩)) (.box B0 154 zA1 p0))] ⟨Z,Z,z1,Z,Z,N⟩
 replace d:=s.avok
 obtain ⟨x2,q3,c⟩:=zA4 c
 have hFz:w0.heap.size≤w.heap.size:=j.size
 refine zQK 4 Z Z Z Z (zB1 call179 (zFt (q3 Z) d h3 (q.sub [(0,ob (.pointer (some ⟨b0,0,none⟩)) (.box B0 154 zA1 p0))] ⟨Z,Z,N⟩))) ?_
 rintro v_ w ⟨A,hG1,hv⟩ R n hd
 have hst:=zAy d hG1 (q.ok 0 _ Z).2
 replace B:∀ b o,A0 b o→A b o:=zAs B C K (q.geK (⟨.inr (fun k h=>.inr h),N⟩)) 0 Z hG1
 replace j:Ch (zA9 (.pointer (some ⟨b0,0,none⟩))) w0 w:=j.tr hG1.ch (fun k hk=>(q.geK (⟨.inr (fun k h=>.inr h),N⟩)) k ⟨0,_,Z,hk⟩)
 replace q:=zQ1 q d 0 Z hG1
 replace d:=hG1.avok
 replace q:IniOK [ob (.pointer (some ⟨b0,0,none⟩)) (.box B0 154 zA1 x2.2)] A w:=q
 replace h0:=(n 0 Z).trans h0
 replace h3:=(n 3 Z).trans h3
 obtain ⟨u4,h4,f_u4⟩:∃ u,R 4=u∧Rep eStr A w u x2.1:=⟨_,Z,hd ▸ hv⟩
 clear hFz hG1 hv n hd
 refine SG.textR [ob (.pointer (some ⟨b0,0,none⟩)) (.box B0 154 zA1 x2.2)] (rR (.pointer (some ⟨b0,0,none⟩))::rR u4::rR (.pointer (some ⟨b0,0,none⟩))::(rF fun A=>.rep (eSl eStr) A ([([80,97,114,105,115]:List UInt8),([112,97,114,105,115]:List UInt8),([76,111,110,100,111,110]:List UInt8),([78,101,119,32,89,111,114,107]:List UInt8),([110,101,119,45,121,111,114,107]:List UInt8),([]:List UInt8),([82,111,109,101]:List UInt8)]:List (List UInt8)))::[]) 4 Z Z Z (by kernel_rfl) (by kernel_rfl) (Wf.mk' (by kernel_rfl) (ur (ur (ur (up (UAll.nil))))) (by kernel_rfl) (by kernel_rfl)) q d (⟨⟨Z,Z,Z,h3⟩,⟨⟨Z,Z,Z,h4⟩,N⟩⟩) ?_ ?_
 exact rm h0<|rp (fun V Q U O D=>zB6 [_,_,_,_,_,_,_] (E:=eStr) ⟨⟨_,Z,⟨_,Z,Z,by decide⟩⟩,⟨⟨_,Z,⟨_,Z,Z,by decide⟩⟩,⟨⟨_,Z,⟨_,Z,Z,by decide⟩⟩,⟨⟨_,Z,⟨_,Z,Z,by decide⟩⟩,⟨⟨_,Z,⟨_,Z,Z,by decide⟩⟩,⟨⟨_,Z,⟨_,Z,Z,by decide⟩⟩,⟨⟨_,Z,⟨_,Z,Z,by decide⟩⟩,N⟩⟩⟩⟩⟩⟩⟩ underlying46 sizeOf9 zeroValue9 Z Z Z O.av)<|rz
 intro done ρ σ A R w y s
 replace h0:=k1 s.rg h0
 have z5:=s.inivR 0 Z
 have h4:=s.r y 1 Z
 have h5:=s.r y 2 Z
 obtain ⟨u6,h6,f_u6⟩:∃ u,R 6=u∧Rep (eSl eStr) A w u ([([80,97,114,105,115]:List UInt8),([112,97,114,105,115]:List UInt8),([76,111,110,100,111,110]:List UInt8),([78,101,119,32,89,111,114,107]:List UInt8),([110,101,119,45,121,111,114,107]:List UInt8),([]:List UInt8),([82,111,109,101]:List UInt8)]:List (List UInt8)):=⟨_,Z,s.fact y (i:=3) Z Z Z⟩
 replace f_u4:=f_u4.stp s.stp
 replace B:=s.lowK B C K (q.geK (⟨.inr (fun k h=>.inr h),N⟩))
 replace j:Ch (zA9 (.pointer (some ⟨b0,0,none⟩))) w0 w:=j.tr s.ch (q.geK (⟨.inr (fun k h=>.inr h),N⟩))
 replace q:=s.left y [(0,ob (.pointer (some ⟨b0,0,none⟩)) (.box B0 154 zA1 x2.2))] ⟨Z,Z,z5,Z,Z,N⟩
 replace d:=s.avok
 obtain ⟨x7,q8,c⟩:=zA4 c
 have hFz:w0.heap.size≤w.heap.size:=j.size
 refine zQK 7 Z Z Z Z (zB1 call222 (zCF (q8 Z) d h5 (q.sub [(0,ob (.pointer (some ⟨b0,0,none⟩)) (.box B0 154 zA1 x2.2))] ⟨Z,Z,N⟩) (f_u6.eq h6))) ?_
 rintro v_ w ⟨A,hG1,hv⟩ R n hd
 have hst:=zAy d hG1 (q.ok 0 _ Z).2
 replace B:∀ b o,A0 b o→A b o:=zAs B C K (q.geK (⟨.inr (fun k h=>.inr h),N⟩)) 0 Z hG1
 replace j:Ch (zA9 (.pointer (some ⟨b0,0,none⟩))) w0 w:=j.tr hG1.ch (fun k hk=>(q.geK (⟨.inr (fun k h=>.inr h),N⟩)) k ⟨0,_,Z,hk⟩)
 replace q:=zQ1 q d 0 Z hG1
 replace d:=hG1.avok
 replace q:IniOK [ob (.pointer (some ⟨b0,0,none⟩)) (.box B0 154 zA1 x7.2)] A w:=q
 replace h0:=(n 0 Z).trans h0
 replace h4:=(n 4 Z).trans h4
 replace h5:=(n 5 Z).trans h5
 replace h6:=(n 6 Z).trans h6
 replace f_u4:=f_u4.stp hst
 replace f_u6:=f_u6.stp hst
 obtain ⟨u9,h7,f_u9⟩:∃ u,R 7=u∧Rep eStr A w u x7.1:=⟨_,Z,hd ▸ hv⟩
 clear hFz hG1 hv n hd
 refine SG.textR [ob (.pointer (some ⟨b0,0,none⟩)) (.box B0 154 zA1 x7.2)] (rA::rR u4::rR (.pointer (some ⟨b0,0,none⟩))::rR u6::rR u9::rR (.pointer (some ⟨b0,0,none⟩))::(rF fun A=>.rep (eSl eStr) A ([([49,57,56,48]:List UInt8),([49,57,56,49]:List UInt8),([49,57,56,53]:List UInt8),([]:List UInt8),([49,57,57,48]:List UInt8),([120]:List UInt8)]:List (List UInt8)))::[]) 7 Z Z Z (by kernel_rfl) (by kernel_rfl) (Wf.mk' (by kernel_rfl) (ua (ur (ur (ur (ur (ur (up (UAll.nil)))))))) (by kernel_rfl) (by kernel_rfl)) q d (⟨⟨Z,Z,Z,N⟩,⟨⟨Z,Z,Z,h4⟩,⟨⟨Z,Z,Z,h5⟩,⟨⟨Z,Z,Z,h6⟩,⟨⟨Z,Z,Z,h7⟩,N⟩⟩⟩⟩⟩) ?_ ?_
 exact rm h0<|rp (fun V Q U O D=>zB6 [_,_,_,_,_,_] (E:=eStr) ⟨⟨_,Z,⟨_,Z,Z,by decide⟩⟩,⟨⟨_,Z,⟨_,Z,Z,by decide⟩⟩,⟨⟨_,Z,⟨_,Z,Z,by decide⟩⟩,⟨⟨_,Z,⟨_,Z,Z,by decide⟩⟩,⟨⟨_,Z,⟨_,Z,Z,by decide⟩⟩,⟨⟨_,Z,⟨_,Z,Z,by decide⟩⟩,N⟩⟩⟩⟩⟩⟩ underlying46 sizeOf9 zeroValue9 Z Z Z O.av)<|rz
 intro done ρ σ A R w y s
 replace h0:=k1 s.rg h0
 have z10:=s.inivR 0 Z
 have h4:=s.r y 1 Z
 have h7:=s.r y 4 Z
 have h8:=s.r y 5 Z
 obtain ⟨u11,h9,f_u11⟩:∃ u,R 9=u∧Rep (eSl eStr) A w u ([([49,57,56,48]:List UInt8),([49,57,56,49]:List UInt8),([49,57,56,53]:List UInt8),([]:List UInt8),([49,57,57,48]:List UInt8),([120]:List UInt8)]:List (List UInt8)):=⟨_,Z,s.fact y (i:=6) Z Z Z⟩
 replace f_u4:=f_u4.stp s.stp
 replace f_u9:=f_u9.stp s.stp
 replace B:=s.lowK B C K (q.geK (⟨.inr (fun k h=>.inr h),N⟩))
 replace j:Ch (zA9 (.pointer (some ⟨b0,0,none⟩))) w0 w:=j.tr s.ch (q.geK (⟨.inr (fun k h=>.inr h),N⟩))
 replace q:=s.left y [(0,ob (.pointer (some ⟨b0,0,none⟩)) (.box B0 154 zA1 x7.2))] ⟨Z,Z,z10,Z,Z,N⟩
 replace d:=s.avok
 obtain ⟨x12,q13,c⟩:=zA4 c
 have hFz:w0.heap.size≤w.heap.size:=j.size
 refine zQK 10 Z Z Z Z (zB1 call222 (zCF (q13 Z) d h8 (q.sub [(0,ob (.pointer (some ⟨b0,0,none⟩)) (.box B0 154 zA1 x7.2))] ⟨Z,Z,N⟩) (f_u11.eq h9))) ?_
 rintro v_ w ⟨A,hG1,hv⟩ R n hd
 have hst:=zAy d hG1 (q.ok 0 _ Z).2
 replace B:∀ b o,A0 b o→A b o:=zAs B C K (q.geK (⟨.inr (fun k h=>.inr h),N⟩)) 0 Z hG1
 replace j:Ch (zA9 (.pointer (some ⟨b0,0,none⟩))) w0 w:=j.tr hG1.ch (fun k hk=>(q.geK (⟨.inr (fun k h=>.inr h),N⟩)) k ⟨0,_,Z,hk⟩)
 replace q:=zQ1 q d 0 Z hG1
 replace d:=hG1.avok
 replace q:IniOK [ob (.pointer (some ⟨b0,0,none⟩)) (.box B0 154 zA1 x12.2)] A w:=q
 replace h0:=(n 0 Z).trans h0
 replace h4:=(n 4 Z).trans h4
 replace h7:=(n 7 Z).trans h7
 replace h8:=(n 8 Z).trans h8
 replace h9:=(n 9 Z).trans h9
 replace f_u11:=f_u11.stp hst
 replace f_u4:=f_u4.stp hst
 replace f_u9:=f_u9.stp hst
 obtain ⟨u14,h10,f_u14⟩:∃ u,R 10=u∧Rep eStr A w u x12.1:=⟨_,Z,hd ▸ hv⟩
 clear hFz hG1 hv n hd
 refine SG.textR [ob (.pointer (some ⟨b0,0,none⟩)) (.box B0 154 zA1 x12.2)] (rA::rR u4::rA::rA::rR u9::rR (.pointer (some ⟨b0,0,none⟩))::rR u11::rR u14::rR (.pointer (some ⟨b0,0,none⟩))::[]) 9 Z Z Z (by kernel_rfl) (by kernel_rfl) (Wf.mk' (by kernel_rfl) (ua (ur (ua (ua (ur (ur (ur (ur (ur (UAll.nil)))))))))) (by kernel_rfl) (by kernel_rfl)) q d (⟨⟨Z,Z,Z,N⟩,⟨⟨Z,Z,Z,h4⟩,⟨⟨Z,Z,Z,N⟩,⟨⟨Z,Z,Z,N⟩,⟨⟨Z,Z,Z,h7⟩,⟨⟨Z,Z,Z,h8⟩,⟨⟨Z,Z,Z,h9⟩,⟨⟨Z,Z,Z,h10⟩,N⟩⟩⟩⟩⟩⟩⟩⟩) ?_ ?_
 exact rm h0<|rz
 intro done ρ σ A R w y s
 have z15:=s.inivR 0 Z
 have h4:=s.r y 1 Z
 have h7:=s.r y 4 Z
 have h10:=s.r y 7 Z
 have h11:=s.r y 8 Z
 replace f_u14:=f_u14.stp s.stp
 replace f_u4:=f_u4.stp s.stp
 replace f_u9:=f_u9.stp s.stp
 replace B:=s.lowK B C K (q.geK (⟨.inr (fun k h=>.inr h),N⟩))
 replace j:Ch (zA9 (.pointer (some ⟨b0,0,none⟩))) w0 w:=j.tr s.ch (q.geK (⟨.inr (fun k h=>.inr h),N⟩))
 replace q:=s.left y [(0,ob (.pointer (some ⟨b0,0,none⟩)) (.box B0 154 zA1 x12.2))] ⟨Z,Z,z15,Z,Z,N⟩
 replace d:=s.avok
 obtain ⟨x16,q17,c⟩:=zA4 c
 have hFz:w0.heap.size≤w.heap.size:=j.size
 refine zQK 12 Z Z Z Z (zB1 call274 (zHf (q17 Z) d h11 (q.sub [(0,ob (.pointer (some ⟨b0,0,none⟩)) (.box B0 154 zA1 x12.2))] ⟨Z,Z,N⟩))) ?_
 rintro v_ w ⟨A,hG1,hv⟩ R n hd
 have hst:=zAy d hG1 (q.ok 0 _ Z).2
 replace B:∀ b o,A0 b o→A b o:=zAs B C K (q.geK (⟨.inr (fun k h=>.inr h),N⟩)) 0 Z hG1
 replace j:Ch (zA9 (.pointer (some ⟨b0,0,none⟩))) w0 w:=j.tr hG1.ch (fun k hk=>(q.geK (⟨.inr (fun k h=>.inr h),N⟩)) k ⟨0,_,Z,hk⟩)
 replace q:=zQ1 q d 0 Z hG1
 replace d:=hG1.avok
 replace q:IniOK [ob (.pointer (some ⟨b0,0,none⟩)) (.box B0 154 zA1 x16.2)] A w:=q
 replace h4:=(n 4 Z).trans h4
 replace h7:=(n 7 Z).trans h7
 replace h10:=(n 10 Z).trans h10
 replace h11:=(n 11 Z).trans h11
 replace f_u14:=f_u14.stp hst
 replace f_u4:=f_u4.stp hst
 replace f_u9:=f_u9.stp hst
 obtain ⟨u18,h12,f_u18⟩:∃ u,R 12=u∧Rep eStr A w u x16.1:=⟨_,Z,hd ▸ hv⟩
 clear hFz hG1 hv n hd
 refine SG.textR [ob (.pointer (some ⟨b0,0,none⟩)) (.box B0 154 zA1 x16.2)] (rA::rR u4::rA::rA::rR u9::rA::rA::rR u14::rR (.pointer (some ⟨b0,0,none⟩))::rR u18::⟨_,true,[],some (.vec w0.heap.size 9 eStr ([x2.1,x7.1,x12.1,x16.1]:List (List UInt8))),true,fun A=>.any⟩::⟨_,true,[11],some (.vec w0.heap.size 9 eStr ([x2.1,x7.1,x12.1,x16.1]:List (List UInt8))),true,fun A=>.any⟩::[]) 12 Z Z Z (by kernel_rfl) (by kernel_rfl) (Wf.mk' (by kernel_rfl) (ua (ur (ua (ua (ur (ua (ua (ur (ur (ur (ua (ua (UAll.nil))))))))))))) (by kernel_rfl) (by kernel_rfl)) q d (⟨⟨Z,Z,Z,N⟩,⟨⟨Z,Z,Z,h4⟩,⟨⟨Z,Z,Z,N⟩,⟨⟨Z,Z,Z,N⟩,⟨⟨Z,Z,Z,h7⟩,⟨⟨Z,Z,Z,N⟩,⟨⟨Z,Z,Z,N⟩,⟨⟨Z,Z,Z,h10⟩,⟨⟨Z,Z,Z,h11⟩,⟨⟨Z,Z,Z,h12⟩,N⟩⟩⟩⟩⟩⟩⟩⟩⟩⟩) ?_ ?_
 exact rc (OblR.made _ Z Z Z Z fun V Q U O D=>by have a0:Q 4=u4:=D.g 0 Z;have ra0:=(f_u4.stp O.stp).eq a0;have a1:Q 7=u9:=D.g 1 Z;have ra1:=(f_u9.stp O.stp).eq a1;have a2:Q 10=u14:=D.g 2 Z;have ra2:=(f_u14.stp O.stp).eq a2;have a3:Q 12=u18:=D.g 3 Z;have ra3:=(f_u18.stp O.stp).eq a3;exact zBW [_,_,_,_] (E:=eStr) ⟨ra0,⟨ra1,⟨ra2,⟨ra3,N⟩⟩⟩⟩ underlying46 sizeOf9 zeroValue9 Z Z Z (Nat.le_trans j.size O.ch.size))<|rc (OblR.took 11 _ _ Z Z Z Z Z fun V Q U O D u X Y J L M=>by exact zAK (L _ _ Z Z Z Z).symm X Y)<|rz
 intro done ρ σ A R w y s
 have z19:=s.inivR 0 Z
 obtain ⟨u20,e_u20⟩:∃ u,ρ 12=u:=⟨_,Z⟩
 have h2:=s.ov y 12 11 e_u20
 replace B:=s.lowK B C K (q.geK (⟨.inr (fun k h=>.inr h),N⟩))
 replace j:Ch (zA9 (.pointer (some ⟨b0,0,none⟩))) w0 w:=j.tr s.ch (q.geK (⟨.inr (fun k h=>.inr h),N⟩))
 replace q:=s.left y [(0,ob (.pointer (some ⟨b0,0,none⟩)) (.box B0 154 zA1 x16.2)),(12,ob u20 (.vec w0.heap.size 9 eStr ([x2.1,x7.1,x12.1,x16.1]:List (List UInt8))))] ⟨Z,Z,z19,Z,Z,⟨Z,Z,e_u20,Z,Z,N⟩⟩
 replace d:=s.avok
 refine zQJ Z ?_
 refine HT.ret ?_
 obtain rfl:=si c
 obtain ⟨A1,hA1,hG1⟩:=GPost.of q d B (q.geK (⟨.inr (fun k h=>.inr h),⟨.inl Z,N⟩⟩)) j
 exact ⟨.inr Z,[R 2],⟨Z,N⟩,u20,A1,hG1,h2⟩
def zDO (fu:Nat) (p0:zAE):Option (zAI × zAE):=
 cl true (zBR fu p0 4) fun x6=>
 cl true (zBR fu x6.2 4) fun x10=>
 ck (i64B (1+x10.1)) <|
 cl true (zBR fu x10.2 3) fun x15=>
 ck (i64B (1+x15.1)) <|
 cl true (zDR fu x15.2) fun x20=>
 some ((x6.1,(1+x10.1),(1+x15.1),x20.1),x20.2)
set_option linter.unusedSimpArgs false in
theorem zHH {fu : Nat} {Aq : Av} {p0 : zAE} {r : zAI × zAE} (c : zDO fu p0 = some r) {w : World} {v0 : Value} {b0 B0 : Nat} (d : AvOK Aq w) (h0 : v0 = .pointer (some ⟨b0, 0, none⟩)) (hO0 : IniOK [ob (.pointer (some ⟨b0, 0, none⟩)) (.box B0 154 zA1 p0)] Aq w) :
 Calls prog 191 #[v0] w fun e w'=>∃ v,e = .returned v∧(∃ (u0:Value) (S0:Nat→Prop) (A1:Av),GPost (subS Aq (zA9 (.pointer (some ⟨b0,0,none⟩)))) (zA9 (.pointer (some ⟨b0,0,none⟩))) w [ob (.pointer (some ⟨b0,0,none⟩)) (.box B0 154 zA1 r.2),⟨u0,S0,trR (geB w.heap.size) (oPr (oRd (eInt .i64)) (oPr (oRd (eInt .i64)) (oPr (oRd (eInt .i64)) (oSl 9 (oRd eStr))))) r.1 []⟩] A1 w'∧(Fact.raw u0).ok v w'):=by
 unfold zDO at c
 obtain ⟨w0,hw0⟩:∃ w0,w0=w:=⟨_,Z⟩
 have j:Ch (zA9 (.pointer (some ⟨b0,0,none⟩))) w0 w:=hw0 ▸ Ch.refl _ _
 obtain ⟨A0,hA0e⟩:∃ A0,A0=subS Aq (zA9 (.pointer (some ⟨b0,0,none⟩))):=⟨_,Z⟩
 have C:∀ b o,A0 b o→b<w0.heap.size:=fun b o h=>hw0 ▸ d b o (hA0e ▸ h:subS Aq _ b o).1
 have K:∀ b o,A0 b o→¬ (zA9 (.pointer (some ⟨b0,0,none⟩))) b:=fun b o h=>(hA0e ▸ h:subS Aq _ b o).2
 have hA00:AvOK A0 w0:=C
 rw [show GPost (subS Aq (zA9 (.pointer (some ⟨b0,0,none⟩)))) (zA9 (.pointer (some ⟨b0,0,none⟩))) w=GPost A0 (zA9 (.pointer (some ⟨b0,0,none⟩))) w0 from by rw [hA0e,hw0]]
 rw [show w.heap.size=w0.heap.size from by rw [hw0]]
 obtain ⟨A,hAe⟩:∃ A,A=Aq:=⟨_,Z⟩
 have B:∀ b o,A0 b o→A b o:=fun b o h=>hAe ▸ (hA0e ▸ h:subS Aq _ b o).1
 replace d:AvOK A w:=hAe ▸ d
 have q:IniOK [ob (.pointer (some ⟨b0,0,none⟩)) (.box B0 154 zA1 p0)] A w:=hAe ▸ hO0
 clear hA0e hO0
 refine zA3 [.cell 2 51] func191 ntmps191 (by decide) Z Z (nb Z) ?_
 intro R hR
 replace h0:R 0 = .pointer (some ⟨b0,0,none⟩):=(hR 0 _ Z).trans h0
 refine zQC [ob (.pointer (some ⟨b0,0,none⟩)) (.box B0 154 zA1 p0)] (⟨_,true,[],some (trR (geB w0.heap.size) (oPt 51 (oPr (oRd (eInt .i64)) (oPr (oRd (eInt .i64)) (oPr (oRd (eInt .i64)) (oSl 9 (oRd eStr)))))) (0,(0,(0,([]:List (List UInt8))))) []),true,fun A=>.any⟩::[]) (ua (UAll.nil)) q d ?_ ?_
 exact rc (zQG _ Z Z Z Z fun V Q U O D=>by exact zFm zeroValue51 (fun A w=>zFr (zEP zAY) (zFr (zEP zAY) (zFr (zEP zAY) zIW))) (fun k hk=>Nat.le_trans (Nat.le_trans j.size O.ch.size) hk))<|rz
 intro done ρ σ A R w y s
 replace h0:=k1 s.rg h0
 have z1:=s.inivR 0 Z
 obtain ⟨u2,e_u2⟩:∃ u,ρ 1=u:=⟨_,Z⟩
 have h2:=s.ov y 1 0 e_u2
 obtain ⟨S3,eS_u2⟩:∃ S,σ 1=S:=⟨_,Z⟩
 replace B:=s.lowK B C K (q.geK (⟨.inr (fun k h=>.inr h),N⟩))
 replace j:Ch (zA9 (.pointer (some ⟨b0,0,none⟩))) w0 w:=j.tr s.ch (q.geK (⟨.inr (fun k h=>.inr h),N⟩))
 replace q:=s.left y [(0,ob (.pointer (some ⟨b0,0,none⟩)) (.box B0 154 zA1 p0)),(1,⟨u2,S3,trR (geB w0.heap.size) (oPt 51 (oPr (oRd (eInt .i64)) (oPr (oRd (eInt .i64)) (oPr (oRd (eInt .i64)) (oSl 9 (oRd eStr)))))) (0,(0,(0,([]:List (List UInt8))))) []⟩)] ⟨Z,Z,z1,Z,Z,⟨Z,Z,e_u2,eS_u2,Z,N⟩⟩
 replace d:=s.avok
 refine zQ9 ?_
 refine SG.of ?_
 refine SG.textR [ob (.pointer (some ⟨b0,0,none⟩)) (.box B0 154 zA1 p0),⟨u2,S3,trR (geB w0.heap.size) (oPt 51 (oPr (oRd (eInt .i64)) (oPr (oRd (eInt .i64)) (oPr (oRd (eInt .i64)) (oSl 9 (oRd eStr)))))) (0,(0,(0,([]:List (List UInt8))))) []⟩] (rR (.pointer (some ⟨b0,0,none⟩))::[]) 1 Z Z Z (by kernel_rfl) (by kernel_rfl) (Wf.mk' (by kernel_rfl) (ur (UAll.nil)) (by kernel_rfl) (by kernel_rfl)) q d (N) ?_ ?_
 exact rm h0<|rz
 intro done ρ σ A R w y s
 obtain ⟨h0,h2⟩:=k2 s.rg h0 h2
 have z4:=s.inivR 0 Z
 have z5:=s.inivR 1 Z
 have eS_u2:=s.inisR 1 Z
 have h3:=s.r y 0 Z
 replace B:=s.lowK B C K (q.geK (⟨.inr (fun k h=>.inr h),⟨fun _ h=>.inl h,N⟩⟩))
 replace j:Ch (zA9 (.pointer (some ⟨b0,0,none⟩))) w0 w:=j.tr s.ch (q.geK (⟨.inr (fun k h=>.inr h),⟨fun _ h=>.inl h,N⟩⟩))
 replace q:=s.left y [(0,ob (.pointer (some ⟨b0,0,none⟩)) (.box B0 154 zA1 p0)),(1,⟨u2,S3,trR (geB w0.heap.size) (oPt 51 (oPr (oRd (eInt .i64)) (oPr (oRd (eInt .i64)) (oPr (oRd (eInt .i64)) (oSl 9 (oRd eStr)))))) (0,(0,(0,([]:List (List UInt8))))) []⟩)] ⟨Z,Z,z4,Z,Z,⟨Z,Z,z5,eS_u2,Z,N⟩⟩
 replace d:=s.avok
 obtain ⟨x6,q7,c⟩:=zA4 c
 have hFz:w0.heap.size≤w.heap.size:=j.size
 refine zQK 4 Z Z Z Z (zB1 call145 (zBd (q7 Z) d h3 (q.sub [(0,ob (.pointer (some ⟨b0,0,none⟩)) (.box B0 154 zA1 p0))] ⟨Z,Z,N⟩) Z)) ?_
 rintro v_ w ⟨A,hG1,hv⟩ R n hd
 have hst:=zAy d hG1 (q.ok 0 _ Z).2
 replace B:∀ b o,A0 b o→A b o:=zAs B C K (q.geK (⟨.inr (fun k h=>.inr h),⟨fun _ h=>.inl h,N⟩⟩)) 0 Z hG1
 replace j:Ch (zA9 (.pointer (some ⟨b0,0,none⟩))) w0 w:=j.tr hG1.ch (fun k hk=>(q.geK (⟨.inr (fun k h=>.inr h),⟨fun _ h=>.inl h,N⟩⟩)) k ⟨0,_,Z,hk⟩)
 replace q:=zQ1 q d 0 Z hG1
 replace d:=hG1.avok
 replace q:IniOK [ob (.pointer (some ⟨b0,0,none⟩)) (.box B0 154 zA1 x6.2),⟨u2,S3,trR (geB w0.heap.size) (oPt 51 (oPr (oRd (eInt .i64)) (oPr (oRd (eInt .i64)) (oPr (oRd (eInt .i64)) (oSl 9 (oRd eStr)))))) (0,(0,(0,([]:List (List UInt8))))) []⟩] A w:=q
 replace h0:=(n 0 Z).trans h0
 replace h2:=(n 2 Z).trans h2
 replace h3:=(n 3 Z).trans h3
 have h4:R 4 = .int .i64 x6.1:=hd.trans hv
 clear hFz hG1 hv n hd
 refine SG.textR [ob (.pointer (some ⟨b0,0,none⟩)) (.box B0 154 zA1 x6.2),⟨u2,S3,trR (geB w0.heap.size) (oPt 51 (oPr (oRd (eInt .i64)) (oPr (oRd (eInt .i64)) (oPr (oRd (eInt .i64)) (oSl 9 (oRd eStr)))))) (0,(0,(0,([]:List (List UInt8))))) []⟩] (rR (.pointer (some ⟨b0,0,none⟩))::rI x6.1::rR (.pointer (some ⟨b0,0,none⟩))::[]) 3 Z Z Z (by kernel_rfl) (by kernel_rfl) (Wf.mk' (by kernel_rfl) (ur (ur (ur (UAll.nil)))) (by kernel_rfl) (by kernel_rfl)) q d (⟨⟨Z,Z,Z,h3⟩,⟨⟨Z,Z,Z,h4⟩,N⟩⟩) ?_ ?_
 exact rm h0<|rz
 intro done ρ σ A R w y s
 obtain ⟨h0,h2⟩:=k2 s.rg h0 h2
 have z8:=s.inivR 0 Z
 have z9:=s.inivR 1 Z
 have eS_u2:=s.inisR 1 Z
 have h4:=s.r y 1 Z
 have h5:=s.r y 2 Z
 replace B:=s.lowK B C K (q.geK (⟨.inr (fun k h=>.inr h),⟨fun _ h=>.inl h,N⟩⟩))
 replace j:Ch (zA9 (.pointer (some ⟨b0,0,none⟩))) w0 w:=j.tr s.ch (q.geK (⟨.inr (fun k h=>.inr h),⟨fun _ h=>.inl h,N⟩⟩))
 replace q:=s.left y [(0,ob (.pointer (some ⟨b0,0,none⟩)) (.box B0 154 zA1 x6.2)),(1,⟨u2,S3,trR (geB w0.heap.size) (oPt 51 (oPr (oRd (eInt .i64)) (oPr (oRd (eInt .i64)) (oPr (oRd (eInt .i64)) (oSl 9 (oRd eStr)))))) (0,(0,(0,([]:List (List UInt8))))) []⟩)] ⟨Z,Z,z8,Z,Z,⟨Z,Z,z9,eS_u2,Z,N⟩⟩
 replace d:=s.avok
 obtain ⟨x10,q11,c⟩:=zA4 c
 have hFz:w0.heap.size≤w.heap.size:=j.size
 refine zQK 6 Z Z Z Z (zB1 call145 (zBd (q11 Z) d h5 (q.sub [(0,ob (.pointer (some ⟨b0,0,none⟩)) (.box B0 154 zA1 x6.2))] ⟨Z,Z,N⟩) Z)) ?_
 rintro v_ w ⟨A,hG1,hv⟩ R n hd
 have hst:=zAy d hG1 (q.ok 0 _ Z).2
 replace B:∀ b o,A0 b o→A b o:=zAs B C K (q.geK (⟨.inr (fun k h=>.inr h),⟨fun _ h=>.inl h,N⟩⟩)) 0 Z hG1
 replace j:Ch (zA9 (.pointer (some ⟨b0,0,none⟩))) w0 w:=j.tr hG1.ch (fun k hk=>(q.geK (⟨.inr (fun k h=>.inr h),⟨fun _ h=>.inl h,N⟩⟩)) k ⟨0,_,Z,hk⟩)
 replace q:=zQ1 q d 0 Z hG1
 replace d:=hG1.avok
 replace q:IniOK [ob (.pointer (some ⟨b0,0,none⟩)) (.box B0 154 zA1 x10.2),⟨u2,S3,trR (geB w0.heap.size) (oPt 51 (oPr (oRd (eInt .i64)) (oPr (oRd (eInt .i64)) (oPr (oRd (eInt .i64)) (oSl 9 (oRd eStr)))))) (0,(0,(0,([]:List (List UInt8))))) []⟩] A w:=q
 replace h0:=(n 0 Z).trans h0
 replace h2:=(n 2 Z).trans h2
 replace h4:=(n 4 Z).trans h4
 replace h5:=(n 5 Z).trans h5
 have h6:R 6 = .int .i64 x10.1:=hd.trans hv
 clear hFz hG1 hv n hd
 obtain ⟨e12,c⟩:=zA5 c
 refine SG.textR [ob (.pointer (some ⟨b0,0,none⟩)) (.box B0 154 zA1 x10.2),⟨u2,S3,trR (geB w0.heap.size) (oPt 51 (oPr (oRd (eInt .i64)) (oPr (oRd (eInt .i64)) (oPr (oRd (eInt .i64)) (oSl 9 (oRd eStr)))))) (0,(0,(0,([]:List (List UInt8))))) []⟩] (rA::rI x6.1::rR (.pointer (some ⟨b0,0,none⟩))::rI x10.1::rI (1+x10.1)::rR (.pointer (some ⟨b0,0,none⟩))::[]) 6 Z Z Z (by kernel_rfl) (by kernel_rfl) (Wf.mk' (by kernel_rfl) (ua (ur (ur (ur (ur (ur (UAll.nil))))))) (by kernel_rfl) (by kernel_rfl)) q d (⟨⟨Z,Z,Z,N⟩,⟨⟨Z,Z,Z,h4⟩,⟨⟨Z,Z,Z,h5⟩,⟨⟨Z,Z,Z,h6⟩,N⟩⟩⟩⟩) ?_ ?_
 exact rp (fun V Q U O D=>zAR Z (D.g 0 Z) e12)<|rm h0<|rz
 intro done ρ σ A R w y s
 obtain ⟨h0,h2⟩:=k2 s.rg h0 h2
 have z13:=s.inivR 0 Z
 have z14:=s.inivR 1 Z
 have eS_u2:=s.inisR 1 Z
 have h4:=s.r y 1 Z
 have h7:=s.r y 4 Z
 have h8:=s.r y 5 Z
 replace B:=s.lowK B C K (q.geK (⟨.inr (fun k h=>.inr h),⟨fun _ h=>.inl h,N⟩⟩))
 replace j:Ch (zA9 (.pointer (some ⟨b0,0,none⟩))) w0 w:=j.tr s.ch (q.geK (⟨.inr (fun k h=>.inr h),⟨fun _ h=>.inl h,N⟩⟩))
 replace q:=s.left y [(0,ob (.pointer (some ⟨b0,0,none⟩)) (.box B0 154 zA1 x10.2)),(1,⟨u2,S3,trR (geB w0.heap.size) (oPt 51 (oPr (oRd (eInt .i64)) (oPr (oRd (eInt .i64)) (oPr (oRd (eInt .i64)) (oSl 9 (oRd eStr)))))) (0,(0,(0,([]:List (List UInt8))))) []⟩)] ⟨Z,Z,z13,Z,Z,⟨Z,Z,z14,eS_u2,Z,N⟩⟩
 replace d:=s.avok
 obtain ⟨x15,q16,c⟩:=zA4 c
 have hFz:w0.heap.size≤w.heap.size:=j.size
 refine zQK 9 Z Z Z Z (zB1 call145 (zBd (q16 Z) d h8 (q.sub [(0,ob (.pointer (some ⟨b0,0,none⟩)) (.box B0 154 zA1 x10.2))] ⟨Z,Z,N⟩) Z)) ?_
 rintro v_ w ⟨A,hG1,hv⟩ R n hd
 have hst:=zAy d hG1 (q.ok 0 _ Z).2
 replace B:∀ b o,A0 b o→A b o:=zAs B C K (q.geK (⟨.inr (fun k h=>.inr h),⟨fun _ h=>.inl h,N⟩⟩)) 0 Z hG1
 replace j:Ch (zA9 (.pointer (some ⟨b0,0,none⟩))) w0 w:=j.tr hG1.ch (fun k hk=>(q.geK (⟨.inr (fun k h=>.inr h),⟨fun _ h=>.inl h,N⟩⟩)) k ⟨0,_,Z,hk⟩)
 replace q:=zQ1 q d 0 Z hG1
 replace d:=hG1.avok
 replace q:IniOK [ob (.pointer (some ⟨b0,0,none⟩)) (.box B0 154 zA1 x15.2),⟨u2,S3,trR (geB w0.heap.size) (oPt 51 (oPr (oRd (eInt .i64)) (oPr (oRd (eInt .i64)) (oPr (oRd (eInt .i64)) (oSl 9 (oRd eStr)))))) (0,(0,(0,([]:List (List UInt8))))) []⟩] A w:=q
 replace h0:=(n 0 Z).trans h0
 replace h2:=(n 2 Z).trans h2
 replace h4:=(n 4 Z).trans h4
 replace h7:=(n 7 Z).trans h7
 replace h8:=(n 8 Z).trans h8
 have h9:R 9 = .int .i64 x15.1:=hd.trans hv
 clear hFz hG1 hv n hd
 obtain ⟨e17,c⟩:=zA5 c
 refine SG.textR [ob (.pointer (some ⟨b0,0,none⟩)) (.box B0 154 zA1 x15.2),⟨u2,S3,trR (geB w0.heap.size) (oPt 51 (oPr (oRd (eInt .i64)) (oPr (oRd (eInt .i64)) (oPr (oRd (eInt .i64)) (oSl 9 (oRd eStr)))))) (0,(0,(0,([]:List (List UInt8))))) []⟩] (rA::rI x6.1::rA::rA::rI (1+x10.1)::rR (.pointer (some ⟨b0,0,none⟩))::rI x15.1::rI (1+x15.1)::rR (.pointer (some ⟨b0,0,none⟩))::[]) 9 Z Z Z (by kernel_rfl) (by kernel_rfl) (Wf.mk' (by kernel_rfl) (ua (ur (ua (ua (ur (ur (ur (ur (ur (UAll.nil)))))))))) (by kernel_rfl) (by kernel_rfl)) q d (⟨⟨Z,Z,Z,N⟩,⟨⟨Z,Z,Z,h4⟩,⟨⟨Z,Z,Z,N⟩,⟨⟨Z,Z,Z,N⟩,⟨⟨Z,Z,Z,h7⟩,⟨⟨Z,Z,Z,h8⟩,⟨⟨Z,Z,Z,h9⟩,N⟩⟩⟩⟩⟩⟩⟩) ?_ ?_
 exact rp (fun V Q U O D=>zAR Z (D.g 0 Z) e17)<|rm h0<|rz
 intro done ρ σ A R w y s
 replace h2:=k1 s.rg h2
 have z18:=s.inivR 0 Z
 have z19:=s.inivR 1 Z
 have eS_u2:=s.inisR 1 Z
 have h4:=s.r y 1 Z
 have h7:=s.r y 4 Z
 have h10:=s.r y 7 Z
 have h11:=s.r y 8 Z
 replace B:=s.lowK B C K (q.geK (⟨.inr (fun k h=>.inr h),⟨fun _ h=>.inl h,N⟩⟩))
 replace j:Ch (zA9 (.pointer (some ⟨b0,0,none⟩))) w0 w:=j.tr s.ch (q.geK (⟨.inr (fun k h=>.inr h),⟨fun _ h=>.inl h,N⟩⟩))
 replace q:=s.left y [(0,ob (.pointer (some ⟨b0,0,none⟩)) (.box B0 154 zA1 x15.2)),(1,⟨u2,S3,trR (geB w0.heap.size) (oPt 51 (oPr (oRd (eInt .i64)) (oPr (oRd (eInt .i64)) (oPr (oRd (eInt .i64)) (oSl 9 (oRd eStr)))))) (0,(0,(0,([]:List (List UInt8))))) []⟩)] ⟨Z,Z,z18,Z,Z,⟨Z,Z,z19,eS_u2,Z,N⟩⟩
 replace d:=s.avok
 obtain ⟨x20,q21,c⟩:=zA4 c
 have hFz:w0.heap.size≤w.heap.size:=j.size
 refine zQK 12 Z Z Z Z (zB1 call238 (zHN (q21 Z) d h11 (q.sub [(0,ob (.pointer (some ⟨b0,0,none⟩)) (.box B0 154 zA1 x15.2))] ⟨Z,Z,N⟩))) ?_
 rintro v_ w ⟨u22,A,hG1,hv⟩ R n hd
 have hst:=zAy d hG1 (q.ok 0 _ Z).2
 replace B:∀ b o,A0 b o→A b o:=zAs B C K (q.geK (⟨.inr (fun k h=>.inr h),⟨fun _ h=>.inl h,N⟩⟩)) 0 Z hG1
 replace j:Ch (zA9 (.pointer (some ⟨b0,0,none⟩))) w0 w:=j.tr hG1.ch (fun k hk=>(q.geK (⟨.inr (fun k h=>.inr h),⟨fun _ h=>.inl h,N⟩⟩)) k ⟨0,_,Z,hk⟩)
 replace q:=zQ1 q d 0 Z hG1
 replace d:=hG1.avok
 replace q:=q.reV (B':=w0.heap.size) 1 Z hFz
 replace q:IniOK [ob (.pointer (some ⟨b0,0,none⟩)) (.box B0 154 zA1 x20.2),ob u22 (.vec w0.heap.size 9 eStr x20.1),⟨u2,S3,trR (geB w0.heap.size) (oPt 51 (oPr (oRd (eInt .i64)) (oPr (oRd (eInt .i64)) (oPr (oRd (eInt .i64)) (oSl 9 (oRd eStr)))))) (0,(0,(0,([]:List (List UInt8))))) []⟩] A w:=q
 replace h2:=(n 2 Z).trans h2
 replace h4:=(n 4 Z).trans h4
 replace h7:=(n 7 Z).trans h7
 replace h10:=(n 10 Z).trans h10
 replace h11:=(n 11 Z).trans h11
 have h12:R 12=u22:=hd.trans hv
 clear hFz hG1 hv n hd
 refine SG.textR [ob (.pointer (some ⟨b0,0,none⟩)) (.box B0 154 zA1 x20.2),ob u22 (.vec w0.heap.size 9 eStr x20.1),⟨u2,S3,trR (geB w0.heap.size) (oPt 51 (oPr (oRd (eInt .i64)) (oPr (oRd (eInt .i64)) (oPr (oRd (eInt .i64)) (oSl 9 (oRd eStr)))))) (0,(0,(0,([]:List (List UInt8))))) []⟩] (rA::rI x6.1::rA::rA::rI (1+x10.1)::rA::rA::rI (1+x15.1)::rR (.pointer (some ⟨b0,0,none⟩))::rR u22::⟨_,true,[1],some (trR (geB w0.heap.size) (oPr (oRd (eInt .i64)) (oPr (oRd (eInt .i64)) (oPr (oRd (eInt .i64)) (oSl 9 (oRd eStr))))) (x6.1,(1+x10.1),(1+x15.1),x20.1) []),true,fun A=>.any⟩::⟨_,true,[2,13],some (trR (geB w0.heap.size) (oPt 51 (oPr (oRd (eInt .i64)) (oPr (oRd (eInt .i64)) (oPr (oRd (eInt .i64)) (oSl 9 (oRd eStr)))))) (x6.1,(1+x10.1),(1+x15.1),x20.1) []),false,fun A=>.any⟩::[]) 12 Z Z Z (by kernel_rfl) (by kernel_rfl) (Wf.mk' (by kernel_rfl) (ua (ur (ua (ua (ur (ua (ua (ur (ur (ur (ua (ua (UAll.nil))))))))))))) (by kernel_rfl) (by kernel_rfl)) q d (⟨⟨Z,Z,Z,N⟩,⟨⟨Z,Z,Z,h4⟩,⟨⟨Z,Z,Z,N⟩,⟨⟨Z,Z,Z,N⟩,⟨⟨Z,Z,Z,h7⟩,⟨⟨Z,Z,Z,N⟩,⟨⟨Z,Z,Z,N⟩,⟨⟨Z,Z,Z,h10⟩,⟨⟨Z,Z,Z,h11⟩,⟨⟨Z,Z,Z,h12⟩,N⟩⟩⟩⟩⟩⟩⟩⟩⟩⟩) ?_ ?_
 exact rc (zQI 1 _ _ Z Z Z Z Z fun V Q U O D u S X I Y J L M=>by have a0:Q 4 = .int .i64 x6.1:=D.g 0 Z;have a1:Q 7 = .int .i64 (1+x10.1):=D.g 1 Z;have a2:Q 10 = .int .i64 (1+x15.1):=D.g 2 Z;have a3:Q 12=u22:=D.g 3 Z;obtain ⟨gc,ge,go⟩:=zH1 X I;obtain ⟨ga,gn,gk,rfl⟩:=zIJ go;have gx:Q 12 = .slice ga gn gk:=(a3.trans (J _ Z).1.symm).trans ge;exact zJz (v:=.agg #[.int .i64 x6.1,.int .i64 (1+x10.1),.int .i64 (1+x15.1),.slice ga gn gk]) (by simp [execOp,Instr.build,zAG,a0,a1,a2,gx,underlying,underlying51,zeroValue51,sizeOf3,sizeOf46,go_sem,Instr.fill]) ⟨⟨_,Z,zHh (zEP zAY) (zHh (zEP zAY) (zHh (zEP zAY) go))⟩,fun q hq=>by cases hq⟩ Y (zMH X I))<|rc (zQH 2 [13] _ Z Z Z Z fun V Q U O D ρ σ X Y J L M hdd=>by have a0:Q 2=u2:=(O.old 2 Z).trans h2;have k1:=X 2 (.head _) _ Z;have e0:=(J 2 (.head _) _ Z).1;rw [e0] at k1 ⊢;exact zGL Z (zAM k1.2.2).ptr (X 13 (.tail _ (.head _)) _ Z).2.2.1 (L 13 (.tail _ (.head _)) _ _ Z Z Z Z).symm a0 Y hdd k1.2.1 (X 13 (.tail _ (.head _)) _ Z).2.1 sizeOf51 (fun _ _ _ h=>h))<|rz
 intro done ρ σ A R w y s
 replace h2:=k1 s.rg h2
 have z23:=s.inivR 0 Z
 have z24:=s.inivR 2 Z
 have z25:=s.on y 14 11 Z Z Z Z Z z24
 obtain ⟨S26,eS_u2⟩:∃ S,σ 14=S:=⟨_,Z⟩
 replace B:=s.lowK B C K (q.geK (⟨.inr (fun k h=>.inr h),⟨.inl Z,⟨fun _ h=>.inl h,N⟩⟩⟩))
 replace j:Ch (zA9 (.pointer (some ⟨b0,0,none⟩))) w0 w:=j.tr s.ch (q.geK (⟨.inr (fun k h=>.inr h),⟨.inl Z,⟨fun _ h=>.inl h,N⟩⟩⟩))
 replace q:=s.left y [(0,ob (.pointer (some ⟨b0,0,none⟩)) (.box B0 154 zA1 x20.2)),(14,⟨u2,S26,trR (geB w0.heap.size) (oPt 51 (oPr (oRd (eInt .i64)) (oPr (oRd (eInt .i64)) (oPr (oRd (eInt .i64)) (oSl 9 (oRd eStr)))))) (x6.1,(1+x10.1),(1+x15.1),x20.1) []⟩)] ⟨Z,Z,z23,Z,Z,⟨Z,Z,z25,eS_u2,Z,N⟩⟩
 replace d:=s.avok
 refine zQJ Z ?_
 refine HT.ret ?_
 obtain rfl:=si c
 obtain ⟨v_2,S_2,e_2,q⟩:=q.unbox 1 Z h2 isAgg51 sizeOf51
 obtain ⟨A1,hA1,hG1⟩:=GPost.of q d B (q.geK (⟨.inr (fun k h=>.inr h),⟨fun _ h=>.inl h,N⟩⟩)) j
 exact ⟨.inr Z,[v_2],⟨e_2,N⟩,v_2,S_2,A1,hG1,Z⟩
def zCB (fu:Nat) (p0:zAE) (p1:List Int):Option (Int × zAE):=
 cl true (zBR fu p0 (p1.length:Int)) fun x2=>
 ck (inR x2.1 p1.length) <|
 some ((gtD p1 x2.1),x2.2)
theorem zE4 {fu : Nat} {Aq : Av} {p0 : zAE} {p1 : List Int} {r : Int × zAE} (c : zCB fu p0 p1 = some r) {w : World} {v0 : Value} {v1 : Value} {b0 B0 : Nat} (d : AvOK Aq w) (h0 : v0 = .pointer (some ⟨b0, 0, none⟩)) (hO0 : IniOK [ob (.pointer (some ⟨b0, 0, none⟩)) (.box B0 154 zA1 p0)] Aq w) (h1 : Rep (eSl (eInt .i64)) Aq w v1 p1) :
 Calls prog 143 #[v0,v1] w fun e w'=>∃ v,e = .returned v∧(∃ (A1:Av),GPost (subS Aq (zA9 (.pointer (some ⟨b0,0,none⟩)))) (zA9 (.pointer (some ⟨b0,0,none⟩))) w [ob (.pointer (some ⟨b0,0,none⟩)) (.box B0 154 zA1 r.2)] A1 w'∧(Fact.raw (.int .i64 r.1)).ok v w'):=by
 unfold zCB at c
 obtain ⟨w0,hw0⟩:∃ w0,w0=w:=⟨_,Z⟩
 have j:Ch (zA9 (.pointer (some ⟨b0,0,none⟩))) w0 w:=hw0 ▸ Ch.refl _ _
 obtain ⟨A0,hA0e⟩:∃ A0,A0=subS Aq (zA9 (.pointer (some ⟨b0,0,none⟩))):=⟨_,Z⟩
 have C:∀ b o,A0 b o→b<w0.heap.size:=fun b o h=>hw0 ▸ d b o (hA0e ▸ h:subS Aq _ b o).1
 have K:∀ b o,A0 b o→¬ (zA9 (.pointer (some ⟨b0,0,none⟩))) b:=fun b o h=>(hA0e ▸ h:subS Aq _ b o).2
 have hA00:AvOK A0 w0:=C
 rw [show GPost (subS Aq (zA9 (.pointer (some ⟨b0,0,none⟩)))) (zA9 (.pointer (some ⟨b0,0,none⟩))) w=GPost A0 (zA9 (.pointer (some ⟨b0,0,none⟩))) w0 from by rw [hA0e,hw0]]
 obtain ⟨A,hAe⟩:∃ A,A=Aq:=⟨_,Z⟩
 have B:∀ b o,A0 b o→A b o:=fun b o h=>hAe ▸ (hA0e ▸ h:subS Aq _ b o).1
 replace d:AvOK A w:=hAe ▸ d
 have q:IniOK [ob (.pointer (some ⟨b0,0,none⟩)) (.box B0 154 zA1 p0)] A w:=hAe ▸ hO0
 clear hA0e hO0
 refine zA3 [.tmp 4] func143 ntmps143 (by decide) Z Z (nb Z) ?_
 intro R hR
 replace h0:R 0 = .pointer (some ⟨b0,0,none⟩):=(hR 0 _ Z).trans h0
 have f_v1:Rep (eSl (eInt .i64)) A w v1 p1:=hAe ▸ h1
 replace h1:R 1=v1:=hR 1 _ Z
 refine zQ9 ?_
 refine zQD (eI 0::[]) ?_ ?_
 exact op (fun Q U W H D=>zA2 Z)<|oz
 intro R w m n p
 obtain ⟨h0,h1⟩:=k2 n h0 h1
 replace f_v1:=f_v1.fr m
 replace q:=q.fr m
 replace d:=d.fr m.size
 replace j:=j.tr (m.ch noB) fun _ h=>False.elim h
 refine zQ9 ?_
 refine SG.of ?_
 refine SG.textR [ob (.pointer (some ⟨b0,0,none⟩)) (.box B0 154 zA1 p0)] (rR v1::rR (.pointer (some ⟨b0,0,none⟩))::rR v1::rI (p1.length:Int)::[]) 4 Z Z Z (by kernel_rfl) (by kernel_rfl) (Wf.mk' (by kernel_rfl) (ur (ur (ur (ur (UAll.nil))))) (by kernel_rfl) (by kernel_rfl)) q d (N) ?_ ?_
 exact rm h1<|rm h0<|rm h1<|rp (fun V Q U O D=>zAe (aT:=#[]) ((f_v1.stp O.stp).eq (D.g 0 Z)) underlying27)<|rz
 intro done ρ σ A R w y s
 have z1:=s.inivR 0 Z
 have h5:=s.r y 0 Z
 have h6:=s.r y 1 Z
 have h8:=s.r y 3 Z
 replace f_v1:=f_v1.stp s.stp
 replace B:=s.lowK B C K (q.geK (⟨.inr (fun k h=>.inr h),N⟩))
 replace j:Ch (zA9 (.pointer (some ⟨b0,0,none⟩))) w0 w:=j.tr s.ch (q.geK (⟨.inr (fun k h=>.inr h),N⟩))
 replace q:=s.left y [(0,ob (.pointer (some ⟨b0,0,none⟩)) (.box B0 154 zA1 p0))] ⟨Z,Z,z1,Z,Z,N⟩
 replace d:=s.avok
 obtain ⟨x2,q3,c⟩:=zA4 c
 have hFz:w0.heap.size≤w.heap.size:=j.size
 refine zQK 9 Z Z Z Z (zB1 call145 (zBd (q3 Z) d h6 (q.sub [(0,ob (.pointer (some ⟨b0,0,none⟩)) (.box B0 154 zA1 p0))] ⟨Z,Z,N⟩) h8)) ?_
 rintro v_ w ⟨A,hG1,hv⟩ R n hd
 have hst:=zAy d hG1 (q.ok 0 _ Z).2
 replace B:∀ b o,A0 b o→A b o:=zAs B C K (q.geK (⟨.inr (fun k h=>.inr h),N⟩)) 0 Z hG1
 replace j:Ch (zA9 (.pointer (some ⟨b0,0,none⟩))) w0 w:=j.tr hG1.ch (fun k hk=>(q.geK (⟨.inr (fun k h=>.inr h),N⟩)) k ⟨0,_,Z,hk⟩)
 replace q:=zQ1 q d 0 Z hG1
 replace d:=hG1.avok
 replace q:IniOK [ob (.pointer (some ⟨b0,0,none⟩)) (.box B0 154 zA1 x2.2)] A w:=q
 replace h5:=(n 5 Z).trans h5
 replace h6:=(n 6 Z).trans h6
 replace h8:=(n 8 Z).trans h8
 replace f_v1:=f_v1.stp hst
 have h9:R 9 = .int .i64 x2.1:=hd.trans hv
 clear hFz hG1 hv n hd
 obtain ⟨e4,c⟩:=zA5 c
 refine SG.textR [ob (.pointer (some ⟨b0,0,none⟩)) (.box B0 154 zA1 x2.2)] (rR v1::rR (.pointer (some ⟨b0,0,none⟩))::rA::rI (p1.length:Int)::rI x2.1::(rF fun A=>.qtr (eInt .i64) A (gtD p1 x2.1))::rI (gtD p1 x2.1)::rI (gtD p1 x2.1)::[]) 8 Z Z Z (by kernel_rfl) (by kernel_rfl) (Wf.mk' (by kernel_rfl) (ur (ur (ua (ur (ur (UAll.cons zBL (ur (ur (UAll.nil))))))))) (by kernel_rfl) (by kernel_rfl)) q d (⟨⟨Z,Z,Z,h5⟩,⟨⟨Z,Z,Z,h6⟩,⟨⟨Z,Z,Z,N⟩,⟨⟨Z,Z,Z,h8⟩,⟨⟨Z,Z,Z,h9⟩,N⟩⟩⟩⟩⟩) ?_ ?_
 exact rp (fun V Q U O D=>zA7 ((f_v1.stp O.stp).eq (D.g 0 Z)) (D.g 1 Z) underlying27 sizeOf3 e4)<|rp (fun V Q U O D=>OpF.int (zAT (QRep.ptr (D.g 0 Z)) isAgg3 sizeOf3))<|ra<|rz
 intro done ρ σ A R w y s
 have z5:=s.inivR 0 Z
 have h4:=s.r y 7 Z
 replace B:=s.lowK B C K (q.geK (⟨.inr (fun k h=>.inr h),N⟩))
 replace j:Ch (zA9 (.pointer (some ⟨b0,0,none⟩))) w0 w:=j.tr s.ch (q.geK (⟨.inr (fun k h=>.inr h),N⟩))
 replace q:=s.left y [(0,ob (.pointer (some ⟨b0,0,none⟩)) (.box B0 154 zA1 x2.2))] ⟨Z,Z,z5,Z,Z,N⟩
 replace d:=s.avok
 refine zQJ Z ?_
 refine HT.ret ?_
 obtain rfl:=si c
 obtain ⟨A1,hA1,hG1⟩:=GPost.of q d B (q.geK (⟨.inr (fun k h=>.inr h),N⟩)) j
 exact ⟨.inr Z,[R 4],⟨Z,N⟩,A1,hG1,h4⟩
def zE6 (fu:Nat) (p0:zAE):Option (zAI × zAE):=
 cl true (zDO fu p0) fun x5=>
 cl true (zBR fu x5.2 16) fun x17=>
 bif (x17.1==0) then (
 cl true (zCB fu x17.2 ([(-1),4]:List Int)) fun x24=>
 some ((x24.1,x5.1.2.1,x5.1.2.2.1,x5.1.2.2.2),x24.2)
 ) else (
 bif (x17.1==1) then (
 cl true (zCB fu x17.2 ([0,99,100]:List Int)) fun x39=>
 some ((x5.1.1,x39.1,x5.1.2.2.1,x5.1.2.2.2),x39.2)
 ) else (
 bif (x17.1==2) then (
 cl true (zCB fu x17.2 ([0,999,1000]:List Int)) fun x54=>
 some ((x5.1.1,x5.1.2.1,x54.1,x5.1.2.2.2),x54.2)
 ) else (
 bif (x17.1==3) then (
 ck (subR 1 (x5.1.2.2.2.length:Int) x5.1.2.2.2.length) <|
 some ((x5.1.1,x5.1.2.1,x5.1.2.2.1,(subL x5.1.2.2.2 1 (x5.1.2.2.2.length:Int))),x17.2)
 ) else (
 bif (x17.1==4) then (
 cl true (zBX fu x17.2 ([([97,124,98]:List UInt8),([97,59,98]:List UInt8),([10]:List UInt8),([]:List UInt8)]:List (List UInt8))) fun x77=>
 ck (inR 0 x5.1.2.2.2.length) <|
 some ((x5.1.1,x5.1.2.1,x5.1.2.2.1,(x5.1.2.2.2.set (0:Int).toNat x77.1)),x77.2)
 ) else (
 some (x5.1,x17.2)
 )
 )
 )
 )
 )
theorem zGM {fu : Nat} {Aq : Av} {p0 : zAE} {r : zAI × zAE} (c : zE6 fu p0 = some r) {w : World} {v0 : Value} {b0 B0 : Nat} (d : AvOK Aq w) (h0 : v0 = .pointer (some ⟨b0, 0, none⟩)) (hO0 : IniOK [ob (.pointer (some ⟨b0, 0, none⟩)) (.box B0 154 zA1 p0)] Aq w) :
 Calls prog 176 #[v0] w fun e w'=>∃ v,e = .returned v∧(∃ (A1:Av),GPost (subS Aq (zA9 (.pointer (some ⟨b0,0,none⟩)))) (zA9 (.pointer (some ⟨b0,0,none⟩))) w [ob (.pointer (some ⟨b0,0,none⟩)) (.box B0 154 zA1 r.2)] A1 w'∧(Fact.rep zA0 A1 r.1).ok v w'):=by
 unfold zE6 at c
 obtain ⟨w0,hw0⟩:∃ w0,w0=w:=⟨_,Z⟩
 have j:Ch (zA9 (.pointer (some ⟨b0,0,none⟩))) w0 w:=hw0 ▸ Ch.refl _ _
 obtain ⟨A0,hA0e⟩:∃ A0,A0=subS Aq (zA9 (.pointer (some ⟨b0,0,none⟩))):=⟨_,Z⟩
 have C:∀ b o,A0 b o→b<w0.heap.size:=fun b o h=>hw0 ▸ d b o (hA0e ▸ h:subS Aq _ b o).1
 have K:∀ b o,A0 b o→¬ (zA9 (.pointer (some ⟨b0,0,none⟩))) b:=fun b o h=>(hA0e ▸ h:subS Aq _ b o).2
 have hA00:AvOK A0 w0:=C
 rw [show GPost (subS Aq (zA9 (.pointer (some ⟨b0,0,none⟩)))) (zA9 (.pointer (some ⟨b0,0,none⟩))) w=GPost A0 (zA9 (.pointer (some ⟨b0,0,none⟩))) w0 from by rw [hA0e,hw0]]
 obtain ⟨A,hAe⟩:∃ A,A=Aq:=⟨_,Z⟩
 have B:∀ b o,A0 b o→A b o:=fun b o h=>hAe ▸ (hA0e ▸ h:subS Aq _ b o).1
 replace d:AvOK A w:=hAe ▸ d
 have q:IniOK [ob (.pointer (some ⟨b0,0,none⟩)) (.box B0 154 zA1 p0)] A w:=hAe ▸ hO0
 clear hA0e hO0
 refine zA3 [.cell 2 51] func176 ntmps176 (by decide) Z Z (nb Z) ?_
 intro R hR
 replace h0:R 0 = .pointer (some ⟨b0,0,none⟩):=(hR 0 _ Z).trans h0
 refine zQC [ob (.pointer (some ⟨b0,0,none⟩)) (.box B0 154 zA1 p0)] (⟨_,true,[],some (.box w0.heap.size 51 zA0 (0,(0,(0,([]:List (List UInt8)))))),true,fun A=>.any⟩::[]) (ua (UAll.nil)) q d ?_ ?_
 exact rc (OblR.made _ Z Z Z Z fun V Q U O D=>by exact zDH zeroValue51 (fun A w=>zCP zAY (zCP zAY (zCP zAY zDu))) (Nat.le_trans j.size O.ch.size))<|rz
 intro done ρ σ A R w y s
 replace h0:=k1 s.rg h0
 have z1:=s.inivR 0 Z
 obtain ⟨b2_1,e_b2_1⟩:=s.boxv y 1 Z Z
 have h2:=s.ov y 1 0 e_b2_1
 replace B:=s.lowK B C K (q.geK (⟨.inr (fun k h=>.inr h),N⟩))
 replace j:Ch (zA9 (.pointer (some ⟨b0,0,none⟩))) w0 w:=j.tr s.ch (q.geK (⟨.inr (fun k h=>.inr h),N⟩))
 replace q:=s.left y [(0,ob (.pointer (some ⟨b0,0,none⟩)) (.box B0 154 zA1 p0)),(1,ob (.pointer (some ⟨b2_1,0,none⟩)) (.box w0.heap.size 51 zA0 (0,(0,(0,([]:List (List UInt8)))))))] ⟨Z,Z,z1,Z,Z,⟨Z,Z,e_b2_1,Z,Z,N⟩⟩
 replace d:=s.avok
 refine zQ9 ?_
 refine SG.of ?_
 refine SG.textR [ob (.pointer (some ⟨b0,0,none⟩)) (.box B0 154 zA1 p0),ob (.pointer (some ⟨b2_1,0,none⟩)) (.box w0.heap.size 51 zA0 (0,(0,(0,([]:List (List UInt8))))))] (rR (.pointer (some ⟨b0,0,none⟩))::[]) 1 Z Z Z (by kernel_rfl) (by kernel_rfl) (Wf.mk' (by kernel_rfl) (ur (UAll.nil)) (by kernel_rfl) (by kernel_rfl)) q d (N) ?_ ?_
 exact rm h0<|rz
 intro done ρ σ A R w y s
 obtain ⟨h0,h2⟩:=k2 s.rg h0 h2
 have z3:=s.inivR 0 Z
 have z4:=s.inivR 1 Z
 have h4:=s.r y 0 Z
 replace B:=s.lowK B C K (q.geK (⟨.inr (fun k h=>.inr h),⟨.inl Z,N⟩⟩))
 replace j:Ch (zA9 (.pointer (some ⟨b0,0,none⟩))) w0 w:=j.tr s.ch (q.geK (⟨.inr (fun k h=>.inr h),⟨.inl Z,N⟩⟩))
 replace q:=s.left y [(0,ob (.pointer (some ⟨b0,0,none⟩)) (.box B0 154 zA1 p0)),(1,ob (.pointer (some ⟨b2_1,0,none⟩)) (.box w0.heap.size 51 zA0 (0,(0,(0,([]:List (List UInt8)))))))] ⟨Z,Z,z3,Z,Z,⟨Z,Z,z4,Z,Z,N⟩⟩
 replace d:=s.avok
 obtain ⟨x5,q6,c⟩:=zA4 c
 have hFz:w0.heap.size≤w.heap.size:=j.size
 refine zQK 5 Z Z Z Z (zB1 call191 (zHH (q6 Z) d h4 (q.sub [(0,ob (.pointer (some ⟨b0,0,none⟩)) (.box B0 154 zA1 p0))] ⟨Z,Z,N⟩))) ?_
 rintro v_ w ⟨u7,S8,A,hG1,hv⟩ R n hd
 have hst:=zAy d hG1 (q.ok 0 _ Z).2
 replace B:∀ b o,A0 b o→A b o:=zAs B C K (q.geK (⟨.inr (fun k h=>.inr h),⟨.inl Z,N⟩⟩)) 0 Z hG1
 replace j:Ch (zA9 (.pointer (some ⟨b0,0,none⟩))) w0 w:=j.tr hG1.ch (fun k hk=>(q.geK (⟨.inr (fun k h=>.inr h),⟨.inl Z,N⟩⟩)) k ⟨0,_,Z,hk⟩)
 replace q:=zQ1 q d 0 Z hG1
 replace d:=hG1.avok
 replace q:=q.reK (K':=geB w0.heap.size) 1 Z (fun k hk=>Nat.le_trans hFz hk)
 replace q:IniOK [ob (.pointer (some ⟨b0,0,none⟩)) (.box B0 154 zA1 x5.2),⟨u7,S8,trR (geB w0.heap.size) (oPr (oRd (eInt .i64)) (oPr (oRd (eInt .i64)) (oPr (oRd (eInt .i64)) (oSl 9 (oRd eStr))))) x5.1 []⟩,ob (.pointer (some ⟨b2_1,0,none⟩)) (.box w0.heap.size 51 zA0 (0,(0,(0,([]:List (List UInt8))))))] A w:=q
 replace h0:=(n 0 Z).trans h0
 replace h2:=(n 2 Z).trans h2
 replace h4:=(n 4 Z).trans h4
 have h5:R 5=u7:=hd.trans hv
 clear hFz hG1 hv n hd
 refine SG.textR [ob (.pointer (some ⟨b0,0,none⟩)) (.box B0 154 zA1 x5.2),⟨u7,S8,trR (geB w0.heap.size) (oPr (oRd (eInt .i64)) (oPr (oRd (eInt .i64)) (oPr (oRd (eInt .i64)) (oSl 9 (oRd eStr))))) x5.1 []⟩,ob (.pointer (some ⟨b2_1,0,none⟩)) (.box w0.heap.size 51 zA0 (0,(0,(0,([]:List (List UInt8))))))] (rR (.pointer (some ⟨b0,0,none⟩))::rR u7::⟨_,true,[],some (trR (geB w0.heap.size) (oPt 51 (oPr (oRd (eInt .i64)) (oPr (oRd (eInt .i64)) (oPr (oRd (eInt .i64)) (oSl 9 (oRd eStr)))))) (0,(0,(0,([]:List (List UInt8))))) []),true,fun A=>.any⟩::⟨_,true,[5,1],some (trR (geB w0.heap.size) (oPt 51 (oPr (oRd (eInt .i64)) (oPr (oRd (eInt .i64)) (oPr (oRd (eInt .i64)) (oSl 9 (oRd eStr)))))) x5.1 []),false,fun A=>.any⟩::[]) 4 Z Z Z (by kernel_rfl) (by kernel_rfl) (Wf.mk' (by kernel_rfl) (ur (ur (ua (ua (UAll.nil))))) (by kernel_rfl) (by kernel_rfl)) q d (⟨⟨Z,Z,Z,h4⟩,⟨⟨Z,Z,Z,h5⟩,N⟩⟩) ?_ ?_
 exact rc (zQG _ Z Z Z Z fun V Q U O D=>by exact zFm zeroValue51 (fun A w=>zFr (zEP zAY) (zFr (zEP zAY) (zFr (zEP zAY) zIW))) (fun k hk=>Nat.le_trans (Nat.le_trans j.size O.ch.size) hk))<|rc (zQH 5 [1] _ Z Z Z Z fun V Q U O D ρ σ X Y J L M hdd=>by have a1:Q 5=u7:=D.g 1 Z;have k1:=X 5 (.head _) _ Z;exact zGL Z (zAM k1.2.2).ptr (X 1 (.tail _ (.head _)) _ Z).2.2.1 (a1.trans (J 1 (.tail _ (.head _)) _ Z).1.symm) (L 5 (.head _) _ _ Z Z Z Z).symm Y hdd k1.2.1 (X 1 (.tail _ (.head _)) _ Z).2.1 sizeOf51 (fun _ _ _ h=>h))<|rz
 intro done ρ σ A R w y s
 obtain ⟨h0,h2⟩:=k2 s.rg h0 h2
 have z9:=s.inivR 0 Z
 have z10:=s.inivR 2 Z
 obtain ⟨u11,e_u11⟩:∃ u,ρ 6=u:=⟨_,Z⟩
 have z12:=(s.opnR y 6 3 Z Z Z Z Z).symm.trans e_u11
 have h3:=s.ov y 5 2 z12
 obtain ⟨S13,eS_u11⟩:∃ S,σ 6=S:=⟨_,Z⟩
 replace B:=s.lowK B C K (q.geK (⟨.inr (fun k h=>.inr h),⟨fun _ h=>.inl h,⟨.inl Z,N⟩⟩⟩))
 replace j:Ch (zA9 (.pointer (some ⟨b0,0,none⟩))) w0 w:=j.tr s.ch (q.geK (⟨.inr (fun k h=>.inr h),⟨fun _ h=>.inl h,⟨.inl Z,N⟩⟩⟩))
 replace q:=s.left y [(0,ob (.pointer (some ⟨b0,0,none⟩)) (.box B0 154 zA1 x5.2)),(2,ob (.pointer (some ⟨b2_1,0,none⟩)) (.box w0.heap.size 51 zA0 (0,(0,(0,([]:List (List UInt8))))))),(6,⟨u11,S13,trR (geB w0.heap.size) (oPt 51 (oPr (oRd (eInt .i64)) (oPr (oRd (eInt .i64)) (oPr (oRd (eInt .i64)) (oSl 9 (oRd eStr)))))) x5.1 []⟩)] ⟨Z,Z,z9,Z,Z,⟨Z,Z,z10,Z,Z,⟨Z,Z,e_u11,eS_u11,Z,N⟩⟩⟩
 replace d:=s.avok
 refine zQJ Z ?_
 refine zQ9 ?_
 refine zQ9 ?_
 refine SG.of ?_
 refine SG.textR [ob (.pointer (some ⟨b0,0,none⟩)) (.box B0 154 zA1 x5.2),ob (.pointer (some ⟨b2_1,0,none⟩)) (.box w0.heap.size 51 zA0 (0,(0,(0,([]:List (List UInt8)))))),⟨u11,S13,trR (geB w0.heap.size) (oPt 51 (oPr (oRd (eInt .i64)) (oPr (oRd (eInt .i64)) (oPr (oRd (eInt .i64)) (oSl 9 (oRd eStr)))))) x5.1 []⟩] (rR (.pointer (some ⟨b0,0,none⟩))::[]) 1 Z Z Z (by kernel_rfl) (by kernel_rfl) (Wf.mk' (by kernel_rfl) (ur (UAll.nil)) (by kernel_rfl) (by kernel_rfl)) q d (N) ?_ ?_
 exact rm h0<|rz
 intro done ρ σ A R w y s
 obtain ⟨h0,h2,h3⟩:=k3 s.rg h0 h2 h3
 have z14:=s.inivR 0 Z
 have z15:=s.inivR 1 Z
 have z16:=s.inivR 2 Z
 have eS_u11:=s.inisR 2 Z
 have h6:=s.r y 0 Z
 replace B:=s.lowK B C K (q.geK (⟨.inr (fun k h=>.inr h),⟨.inl Z,⟨fun _ h=>.inl h,N⟩⟩⟩))
 replace j:Ch (zA9 (.pointer (some ⟨b0,0,none⟩))) w0 w:=j.tr s.ch (q.geK (⟨.inr (fun k h=>.inr h),⟨.inl Z,⟨fun _ h=>.inl h,N⟩⟩⟩))
 replace q:=s.left y [(0,ob (.pointer (some ⟨b0,0,none⟩)) (.box B0 154 zA1 x5.2)),(1,ob (.pointer (some ⟨b2_1,0,none⟩)) (.box w0.heap.size 51 zA0 (0,(0,(0,([]:List (List UInt8))))))),(2,⟨u11,S13,trR (geB w0.heap.size) (oPt 51 (oPr (oRd (eInt .i64)) (oPr (oRd (eInt .i64)) (oPr (oRd (eInt .i64)) (oSl 9 (oRd eStr)))))) x5.1 []⟩)] ⟨Z,Z,z14,Z,Z,⟨Z,Z,z15,Z,Z,⟨Z,Z,z16,eS_u11,Z,N⟩⟩⟩
 replace d:=s.avok
 obtain ⟨x17,q18,c⟩:=zA4 c
 have hFz:w0.heap.size≤w.heap.size:=j.size
 refine zQK 7 Z Z Z Z (zB1 call145 (zBd (q18 Z) d h6 (q.sub [(0,ob (.pointer (some ⟨b0,0,none⟩)) (.box B0 154 zA1 x5.2))] ⟨Z,Z,N⟩) Z)) ?_
 rintro v_ w ⟨A,hG1,hv⟩ R n hd
 have hst:=zAy d hG1 (q.ok 0 _ Z).2
 replace B:∀ b o,A0 b o→A b o:=zAs B C K (q.geK (⟨.inr (fun k h=>.inr h),⟨.inl Z,⟨fun _ h=>.inl h,N⟩⟩⟩)) 0 Z hG1
 replace j:Ch (zA9 (.pointer (some ⟨b0,0,none⟩))) w0 w:=j.tr hG1.ch (fun k hk=>(q.geK (⟨.inr (fun k h=>.inr h),⟨.inl Z,⟨fun _ h=>.inl h,N⟩⟩⟩)) k ⟨0,_,Z,hk⟩)
 replace q:=zQ1 q d 0 Z hG1
 replace d:=hG1.avok
 replace q:IniOK [ob (.pointer (some ⟨b0,0,none⟩)) (.box B0 154 zA1 x17.2),ob (.pointer (some ⟨b2_1,0,none⟩)) (.box w0.heap.size 51 zA0 (0,(0,(0,([]:List (List UInt8)))))),⟨u11,S13,trR (geB w0.heap.size) (oPt 51 (oPr (oRd (eInt .i64)) (oPr (oRd (eInt .i64)) (oPr (oRd (eInt .i64)) (oSl 9 (oRd eStr)))))) x5.1 []⟩] A w:=q
 replace h0:=(n 0 Z).trans h0
 replace h2:=(n 2 Z).trans h2
 replace h3:=(n 3 Z).trans h3
 replace h6:=(n 6 Z).trans h6
 have h7:R 7 = .int .i64 x17.1:=hd.trans hv
 clear hFz hG1 hv n hd
 refine zQJ Z ?_
 refine HT.block ?_
 refine zQ9 ?_
 refine zQD (eB (x17.1==0)::eB (x17.1==0)::[]) ?_ ?_
 exact op (fun Q U W H D=>zAo ((H 7 Z).trans h7) Z)<|oa<|oz
 intro R w m n p
 obtain ⟨h0,h2,h3,h7⟩:=k4 n h0 h2 h3 h7
 have h8:=p.r 1 Z
 replace q:=q.fr m
 replace d:=d.fr m.size
 replace j:=j.tr (m.ch noB) fun _ h=>False.elim h
 refine zQ2 (x17.1==0) h8 (fun c19=>?_) (fun c19=>?_)
 have c:=zAO c19 c
 refine SG.of ?_
 refine SG.textR [ob (.pointer (some ⟨b0,0,none⟩)) (.box B0 154 zA1 x17.2),ob (.pointer (some ⟨b2_1,0,none⟩)) (.box w0.heap.size 51 zA0 (0,(0,(0,([]:List (List UInt8)))))),⟨u11,S13,trR (geB w0.heap.size) (oPt 51 (oPr (oRd (eInt .i64)) (oPr (oRd (eInt .i64)) (oPr (oRd (eInt .i64)) (oSl 9 (oRd eStr)))))) x5.1 []⟩] (rR (.pointer (some ⟨b0,0,none⟩))::(rF fun A=>.rep (eSl (eInt .i64)) A ([(-1),4]:List Int))::[]) 2 Z Z Z (by kernel_rfl) (by kernel_rfl) (Wf.mk' (by kernel_rfl) (ur (up (UAll.nil))) (by kernel_rfl) (by kernel_rfl)) q d (N) ?_ ?_
 exact rm h0<|rp (fun V Q U O D=>zB6 [_,_] (E:=eInt .i64) ⟨(zAa.eq Z),⟨(zAa.eq Z),N⟩⟩ underlying27 sizeOf3 zeroValue3 Z Z Z O.av)<|rz
 intro done ρ σ A R w y s
 obtain ⟨h2,h3⟩:=k2 s.rg h2 h3
 have z20:=s.inivR 0 Z
 have z21:=s.inivR 1 Z
 have z22:=s.inivR 2 Z
 have eS_u11:=s.inisR 2 Z
 have h10:=s.r y 0 Z
 obtain ⟨u23,h11,f_u23⟩:∃ u,R 11=u∧Rep (eSl (eInt .i64)) A w u ([(-1),4]:List Int):=⟨_,Z,s.fact y (i:=1) Z Z Z⟩
 replace B:=s.lowK B C K (q.geK (⟨.inr (fun k h=>.inr h),⟨.inl Z,⟨fun _ h=>.inl h,N⟩⟩⟩))
 replace j:Ch (zA9 (.pointer (some ⟨b0,0,none⟩))) w0 w:=j.tr s.ch (q.geK (⟨.inr (fun k h=>.inr h),⟨.inl Z,⟨fun _ h=>.inl h,N⟩⟩⟩))
 replace q:=s.left y [(0,ob (.pointer (some ⟨b0,0,none⟩)) (.box B0 154 zA1 x17.2)),(1,ob (.pointer (some ⟨b2_1,0,none⟩)) (.box w0.heap.size 51 zA0 (0,(0,(0,([]:List (List UInt8))))))),(2,⟨u11,S13,trR (geB w0.heap.size) (oPt 51 (oPr (oRd (eInt .i64)) (oPr (oRd (eInt .i64)) (oPr (oRd (eInt .i64)) (oSl 9 (oRd eStr)))))) x5.1 []⟩)] ⟨Z,Z,z20,Z,Z,⟨Z,Z,z21,Z,Z,⟨Z,Z,z22,eS_u11,Z,N⟩⟩⟩
 replace d:=s.avok
 obtain ⟨x24,q25,c⟩:=zA4 c
 have hFz:w0.heap.size≤w.heap.size:=j.size
 refine zQK 12 Z Z Z Z (zB1 call143 (zE4 (q25 Z) d h10 (q.sub [(0,ob (.pointer (some ⟨b0,0,none⟩)) (.box B0 154 zA1 x17.2))] ⟨Z,Z,N⟩) (f_u23.eq h11))) ?_
 rintro v_ w ⟨A,hG1,hv⟩ R n hd
 have hst:=zAy d hG1 (q.ok 0 _ Z).2
 replace B:∀ b o,A0 b o→A b o:=zAs B C K (q.geK (⟨.inr (fun k h=>.inr h),⟨.inl Z,⟨fun _ h=>.inl h,N⟩⟩⟩)) 0 Z hG1
 replace j:Ch (zA9 (.pointer (some ⟨b0,0,none⟩))) w0 w:=j.tr hG1.ch (fun k hk=>(q.geK (⟨.inr (fun k h=>.inr h),⟨.inl Z,⟨fun _ h=>.inl h,N⟩⟩⟩)) k ⟨0,_,Z,hk⟩)
 replace q:=zQ1 q d 0 Z hG1
 replace d:=hG1.avok
 replace q:IniOK [ob (.pointer (some ⟨b0,0,none⟩)) (.box B0 154 zA1 x24.2),ob (.pointer (some ⟨b2_1,0,none⟩)) (.box w0.heap.size 51 zA0 (0,(0,(0,([]:List (List UInt8)))))),⟨u11,S13,trR (geB w0.heap.size) (oPt 51 (oPr (oRd (eInt .i64)) (oPr (oRd (eInt .i64)) (oPr (oRd (eInt .i64)) (oSl 9 (oRd eStr)))))) x5.1 []⟩] A w:=q
 replace h2:=(n 2 Z).trans h2
 replace h3:=(n 3 Z).trans h3
 replace h10:=(n 10 Z).trans h10
 replace h11:=(n 11 Z).trans h11
 replace f_u23:=f_u23.stp hst
 have h12:R 12 = .int .i64 x24.1:=hd.trans hv
 clear hFz hG1 hv n hd
 refine SG.textR [ob (.pointer (some ⟨b0,0,none⟩)) (.box B0 154 zA1 x24.2),ob (.pointer (some ⟨b2_1,0,none⟩)) (.box w0.heap.size 51 zA0 (0,(0,(0,([]:List (List UInt8)))))),⟨u11,S13,trR (geB w0.heap.size) (oPt 51 (oPr (oRd (eInt .i64)) (oPr (oRd (eInt .i64)) (oPr (oRd (eInt .i64)) (oSl 9 (oRd eStr)))))) x5.1 []⟩] (rR (.pointer (some ⟨b0,0,none⟩))::rR u23::rI x24.1::rR u11::⟨_,true,[2],some (trR (geB w0.heap.size) (oPt 51 (oPr (oRd (eInt .i64)) (oPr (oRd (eInt .i64)) (oPr (oRd (eInt .i64)) (oSl 9 (oRd eStr)))))) (x24.1,x5.1.2.1,x5.1.2.2.1,x5.1.2.2.2) []),false,fun A=>.any⟩::[]) 5 Z Z Z (by kernel_rfl) (by kernel_rfl) (Wf.mk' (by kernel_rfl) (ur (ur (ur (ur (ua (UAll.nil)))))) (by kernel_rfl) (by kernel_rfl)) q d (⟨⟨Z,Z,Z,h10⟩,⟨⟨Z,Z,Z,h11⟩,⟨⟨Z,Z,Z,h12⟩,N⟩⟩⟩) ?_ ?_
 exact rp (fun V Q U O D=>zCy ((zAM (q.own 2 _ Z).2).ptr).ad ((O.old 3 Z).trans h3) zJK sizeOf3 (by decide) (zMX ((zAM (q.own 2 _ Z).2).ptr).ad))<|rc (zQI 2 _ _ Z Z Z Z Z fun V Q U O D u S X I Y J L M=>by have a0:Q 13=u11:=D.g 0 Z;have a1:Q 12 = .int .i64 x24.1:=D.g 1 Z;have e0:=(J _ Z).1;rw [e0] at I ⊢;exact zCV ((zAM I.2).ptr).fst (zAa.eq a1) a0 Y I.1 sizeOf3 (fun _ _ _ h=>h))<|rz
 intro done ρ σ A R w y s
 obtain ⟨h2,h3⟩:=k2 s.rg h2 h3
 have z26:=s.inivR 0 Z
 have z27:=s.inivR 1 Z
 have z28:=s.inivR 2 Z
 have z29:=s.on y 7 4 Z Z Z Z Z z28
 obtain ⟨S30,eS_u11⟩:∃ S,σ 7=S:=⟨_,Z⟩
 replace B:=s.lowK B C K (q.geK (⟨.inr (fun k h=>.inr h),⟨.inl Z,⟨fun _ h=>.inl h,N⟩⟩⟩))
 replace j:Ch (zA9 (.pointer (some ⟨b0,0,none⟩))) w0 w:=j.tr s.ch (q.geK (⟨.inr (fun k h=>.inr h),⟨.inl Z,⟨fun _ h=>.inl h,N⟩⟩⟩))
 replace q:=s.left y [(0,ob (.pointer (some ⟨b0,0,none⟩)) (.box B0 154 zA1 x24.2)),(1,ob (.pointer (some ⟨b2_1,0,none⟩)) (.box w0.heap.size 51 zA0 (0,(0,(0,([]:List (List UInt8))))))),(7,⟨u11,S30,trR (geB w0.heap.size) (oPt 51 (oPr (oRd (eInt .i64)) (oPr (oRd (eInt .i64)) (oPr (oRd (eInt .i64)) (oSl 9 (oRd eStr)))))) (x24.1,x5.1.2.1,x5.1.2.2.1,x5.1.2.2.2) []⟩)] ⟨Z,Z,z26,Z,Z,⟨Z,Z,z27,Z,Z,⟨Z,Z,z29,eS_u11,Z,N⟩⟩⟩
 replace d:=s.avok
 refine zQJ Z ?_
 refine zQC [ob (.pointer (some ⟨b0,0,none⟩)) (.box B0 154 zA1 x24.2),ob (.pointer (some ⟨b2_1,0,none⟩)) (.box w0.heap.size 51 zA0 (0,(0,(0,([]:List (List UInt8)))))),⟨u11,S30,trR (geB w0.heap.size) (oPt 51 (oPr (oRd (eInt .i64)) (oPr (oRd (eInt .i64)) (oPr (oRd (eInt .i64)) (oSl 9 (oRd eStr)))))) (x24.1,x5.1.2.1,x5.1.2.2.1,x5.1.2.2.2) []⟩] (⟨_,true,[2],some (.nul),false,fun A=>.rep zA0 A (x24.1,x5.1.2.1,x5.1.2.2.1,x5.1.2.2.2)⟩::⟨_,true,[1],some (.box w0.heap.size 51 zA0 (x24.1,x5.1.2.1,x5.1.2.2.1,x5.1.2.2.2)),false,fun A=>.any⟩::[]) (up (ua (UAll.nil))) q d ?_ ?_
 exact rc (zQI 2 .nul _ Z Z Z Z Z fun V Q U O D u S X I Y J L M=>by have a0:Q 3=u11:=(O.old 3 Z).trans h3;exact zF5 I.2 (a0.trans (J _ Z).1.symm) Y isAgg51 sizeOf51)<|rc (OblR.took 1 _ _ Z Z Z Z Z fun V Q U O D u X Y J L M=>by have a0:Q 2=(.pointer (some ⟨b2_1,0,none⟩)):=(O.old 2 Z).trans h2;have a1:Rep zA0 V U (Q 40) (x24.1,x5.1.2.1,x5.1.2.2.1,x5.1.2.2.2):=D.g 0 Z;exact zB8 a1 a0 (J _ Z) X Y (FldS.id _) sizeOf51 Z)<|rz
 intro done ρ σ A R w y s
 replace h2:=k1 s.rg h2
 have z31:=s.inivR 0 Z
 have z32:=s.inivR 1 Z
 have z33:=s.on y 4 1 Z Z Z Z Z z32
 replace B:=s.lowK B C K (q.geK (⟨.inr (fun k h=>.inr h),⟨.inl Z,⟨fun _ h=>.inl h,N⟩⟩⟩))
 replace j:Ch (zA9 (.pointer (some ⟨b0,0,none⟩))) w0 w:=j.tr s.ch (q.geK (⟨.inr (fun k h=>.inr h),⟨.inl Z,⟨fun _ h=>.inl h,N⟩⟩⟩))
 replace q:=s.left y [(0,ob (.pointer (some ⟨b0,0,none⟩)) (.box B0 154 zA1 x24.2)),(4,ob (.pointer (some ⟨b2_1,0,none⟩)) (.box w0.heap.size 51 zA0 (x24.1,x5.1.2.1,x5.1.2.2.1,x5.1.2.2.2)))] ⟨Z,Z,z31,Z,Z,⟨Z,Z,z33,Z,Z,N⟩⟩
 replace d:=s.avok
 refine HT.ret ?_
 obtain rfl:=si c
 obtain ⟨v_2,e_2,p_2⟩:=zDJ (q.ok 1 _ Z).1 h2 isAgg51 sizeOf51 (fun _ _ h=>h)
 replace q:IniOK [ob (.pointer (some ⟨b0,0,none⟩)) (.box B0 154 zA1 x24.2)] A w:=q.sub [(0,ob (.pointer (some ⟨b0,0,none⟩)) (.box B0 154 zA1 x24.2))] ⟨Z,Z,N⟩
 obtain ⟨A1,hA1,hG1⟩:=GPost.of q d B (q.geK (⟨.inr (fun k h=>.inr h),N⟩)) j
 exact ⟨.inr Z,[v_2],⟨e_2,N⟩,A1,hG1,p_2.down hA1⟩
 have c:=zAN c19 c
 refine zQ9 ?_
 refine zQD (eB (x17.1==1)::eB (x17.1==1)::[]) ?_ ?_
 exact op (fun Q U W H D=>zAo ((H 7 Z).trans h7) Z)<|oa<|oz
 intro R w m n p
 obtain ⟨h0,h2,h3,h7⟩:=k4 n h0 h2 h3 h7
 have h14:=p.r 1 Z
 replace q:=q.fr m
 replace d:=d.fr m.size
 replace j:=j.tr (m.ch noB) fun _ h=>False.elim h
 refine zQ2 (x17.1==1) h14 (fun c34=>?_) (fun c34=>?_)
 have c:=zAO c34 c
 refine SG.of ?_
 refine SG.textR [ob (.pointer (some ⟨b0,0,none⟩)) (.box B0 154 zA1 x17.2),ob (.pointer (some ⟨b2_1,0,none⟩)) (.box w0.heap.size 51 zA0 (0,(0,(0,([]:List (List UInt8)))))),⟨u11,S13,trR (geB w0.heap.size) (oPt 51 (oPr (oRd (eInt .i64)) (oPr (oRd (eInt .i64)) (oPr (oRd (eInt .i64)) (oSl 9 (oRd eStr)))))) x5.1 []⟩] (rR (.pointer (some ⟨b0,0,none⟩))::(rF fun A=>.rep (eSl (eInt .i64)) A ([0,99,100]:List Int))::[]) 2 Z Z Z (by kernel_rfl) (by kernel_rfl) (Wf.mk' (by kernel_rfl) (ur (up (UAll.nil))) (by kernel_rfl) (by kernel_rfl)) q d (N) ?_ ?_
 exact rm h0<|rp (fun V Q U O D=>zB6 [_,_,_] (E:=eInt .i64) ⟨(zAa.eq Z),⟨(zAa.eq Z),⟨(zAa.eq Z),N⟩⟩⟩ underlying27 sizeOf3 zeroValue3 Z Z Z O.av)<|rz
 intro done ρ σ A R w y s
 obtain ⟨h2,h3⟩:=k2 s.rg h2 h3
 have z35:=s.inivR 0 Z
 have z36:=s.inivR 1 Z
 have z37:=s.inivR 2 Z
 have eS_u11:=s.inisR 2 Z
 have h16:=s.r y 0 Z
 obtain ⟨u38,h17,f_u38⟩:∃ u,R 17=u∧Rep (eSl (eInt .i64)) A w u ([0,99,100]:List Int):=⟨_,Z,s.fact y (i:=1) Z Z Z⟩
 replace B:=s.lowK B C K (q.geK (⟨.inr (fun k h=>.inr h),⟨.inl Z,⟨fun _ h=>.inl h,N⟩⟩⟩))
 replace j:Ch (zA9 (.pointer (some ⟨b0,0,none⟩))) w0 w:=j.tr s.ch (q.geK (⟨.inr (fun k h=>.inr h),⟨.inl Z,⟨fun _ h=>.inl h,N⟩⟩⟩))
 replace q:=s.left y [(0,ob (.pointer (some ⟨b0,0,none⟩)) (.box B0 154 zA1 x17.2)),(1,ob (.pointer (some ⟨b2_1,0,none⟩)) (.box w0.heap.size 51 zA0 (0,(0,(0,([]:List (List UInt8))))))),(2,⟨u11,S13,trR (geB w0.heap.size) (oPt 51 (oPr (oRd (eInt .i64)) (oPr (oRd (eInt .i64)) (oPr (oRd (eInt .i64)) (oSl 9 (oRd eStr)))))) x5.1 []⟩)] ⟨Z,Z,z35,Z,Z,⟨Z,Z,z36,Z,Z,⟨Z,Z,z37,eS_u11,Z,N⟩⟩⟩
 replace d:=s.avok
 obtain ⟨x39,q40,c⟩:=zA4 c
 have hFz:w0.heap.size≤w.heap.size:=j.size
 refine zQK 18 Z Z Z Z (zB1 call143 (zE4 (q40 Z) d h16 (q.sub [(0,ob (.pointer (some ⟨b0,0,none⟩)) (.box B0 154 zA1 x17.2))] ⟨Z,Z,N⟩) (f_u38.eq h17))) ?_
 rintro v_ w ⟨A,hG1,hv⟩ R n hd
 have hst:=zAy d hG1 (q.ok 0 _ Z).2
 replace B:∀ b o,A0 b o→A b o:=zAs B C K (q.geK (⟨.inr (fun k h=>.inr h),⟨.inl Z,⟨fun _ h=>.inl h,N⟩⟩⟩)) 0 Z hG1
 replace j:Ch (zA9 (.pointer (some ⟨b0,0,none⟩))) w0 w:=j.tr hG1.ch (fun k hk=>(q.geK (⟨.inr (fun k h=>.inr h),⟨.inl Z,⟨fun _ h=>.inl h,N⟩⟩⟩)) k ⟨0,_,Z,hk⟩)
 replace q:=zQ1 q d 0 Z hG1
 replace d:=hG1.avok
 replace q:IniOK [ob (.pointer (some ⟨b0,0,none⟩)) (.box B0 154 zA1 x39.2),ob (.pointer (some ⟨b2_1,0,none⟩)) (.box w0.heap.size 51 zA0 (0,(0,(0,([]:List (List UInt8)))))),⟨u11,S13,trR (geB w0.heap.size) (oPt 51 (oPr (oRd (eInt .i64)) (oPr (oRd (eInt .i64)) (oPr (oRd (eInt .i64)) (oSl 9 (oRd eStr)))))) x5.1 []⟩] A w:=q
 replace h2:=(n 2 Z).trans h2
 replace h3:=(n 3 Z).trans h3
 replace h16:=(n 16 Z).trans h16
 replace h17:=(n 17 Z).trans h17
 replace f_u38:=f_u38.stp hst
 have h18:R 18 = .int .i64 x39.1:=hd.trans hv
 clear hFz hG1 hv n hd
 refine SG.textR [ob (.pointer (some ⟨b0,0,none⟩)) (.box B0 154 zA1 x39.2),ob (.pointer (some ⟨b2_1,0,none⟩)) (.box w0.heap.size 51 zA0 (0,(0,(0,([]:List (List UInt8)))))),⟨u11,S13,trR (geB w0.heap.size) (oPt 51 (oPr (oRd (eInt .i64)) (oPr (oRd (eInt .i64)) (oPr (oRd (eInt .i64)) (oSl 9 (oRd eStr)))))) x5.1 []⟩] (rR (.pointer (some ⟨b0,0,none⟩))::rR u38::rI x39.1::rR (padd u11 1)::⟨_,true,[2],some (trR (geB w0.heap.size) (oPt 51 (oPr (oRd (eInt .i64)) (oPr (oRd (eInt .i64)) (oPr (oRd (eInt .i64)) (oSl 9 (oRd eStr)))))) (x5.1.1,x39.1,x5.1.2.2.1,x5.1.2.2.2) []),false,fun A=>.any⟩::[]) 5 Z Z Z (by kernel_rfl) (by kernel_rfl) (Wf.mk' (by kernel_rfl) (ur (ur (ur (ur (ua (UAll.nil)))))) (by kernel_rfl) (by kernel_rfl)) q d (⟨⟨Z,Z,Z,h16⟩,⟨⟨Z,Z,Z,h17⟩,⟨⟨Z,Z,Z,h18⟩,N⟩⟩⟩) ?_ ?_
 exact rp (fun V Q U O D=>zCy ((zAM (q.own 2 _ Z).2).ptr).ad ((O.old 3 Z).trans h3) zJT sizeOf3 (by decide) Z)<|rc (zQI 2 _ _ Z Z Z Z Z fun V Q U O D u S X I Y J L M=>by have a0:Q 19=(padd u11 1):=D.g 0 Z;have a1:Q 18 = .int .i64 x39.1:=D.g 1 Z;have e0:=(J _ Z).1;rw [e0] at I ⊢;exact zCV (((zAM I.2).ptr).snd Z).fst (zAa.eq a1) a0 Y I.1 sizeOf3 (fun _ _ _ h=>h))<|rz
 intro done ρ σ A R w y s
 obtain ⟨h2,h3⟩:=k2 s.rg h2 h3
 have z41:=s.inivR 0 Z
 have z42:=s.inivR 1 Z
 have z43:=s.inivR 2 Z
 have z44:=s.on y 7 4 Z Z Z Z Z z43
 obtain ⟨S45,eS_u11⟩:∃ S,σ 7=S:=⟨_,Z⟩
 replace B:=s.lowK B C K (q.geK (⟨.inr (fun k h=>.inr h),⟨.inl Z,⟨fun _ h=>.inl h,N⟩⟩⟩))
 replace j:Ch (zA9 (.pointer (some ⟨b0,0,none⟩))) w0 w:=j.tr s.ch (q.geK (⟨.inr (fun k h=>.inr h),⟨.inl Z,⟨fun _ h=>.inl h,N⟩⟩⟩))
 replace q:=s.left y [(0,ob (.pointer (some ⟨b0,0,none⟩)) (.box B0 154 zA1 x39.2)),(1,ob (.pointer (some ⟨b2_1,0,none⟩)) (.box w0.heap.size 51 zA0 (0,(0,(0,([]:List (List UInt8))))))),(7,⟨u11,S45,trR (geB w0.heap.size) (oPt 51 (oPr (oRd (eInt .i64)) (oPr (oRd (eInt .i64)) (oPr (oRd (eInt .i64)) (oSl 9 (oRd eStr)))))) (x5.1.1,x39.1,x5.1.2.2.1,x5.1.2.2.2) []⟩)] ⟨Z,Z,z41,Z,Z,⟨Z,Z,z42,Z,Z,⟨Z,Z,z44,eS_u11,Z,N⟩⟩⟩
 replace d:=s.avok
 refine zQJ Z ?_
 refine zQC [ob (.pointer (some ⟨b0,0,none⟩)) (.box B0 154 zA1 x39.2),ob (.pointer (some ⟨b2_1,0,none⟩)) (.box w0.heap.size 51 zA0 (0,(0,(0,([]:List (List UInt8)))))),⟨u11,S45,trR (geB w0.heap.size) (oPt 51 (oPr (oRd (eInt .i64)) (oPr (oRd (eInt .i64)) (oPr (oRd (eInt .i64)) (oSl 9 (oRd eStr)))))) (x5.1.1,x39.1,x5.1.2.2.1,x5.1.2.2.2) []⟩] (⟨_,true,[2],some (.nul),false,fun A=>.rep zA0 A (x5.1.1,x39.1,x5.1.2.2.1,x5.1.2.2.2)⟩::⟨_,true,[1],some (.box w0.heap.size 51 zA0 (x5.1.1,x39.1,x5.1.2.2.1,x5.1.2.2.2)),false,fun A=>.any⟩::[]) (up (ua (UAll.nil))) q d ?_ ?_
 exact rc (zQI 2 .nul _ Z Z Z Z Z fun V Q U O D u S X I Y J L M=>by have a0:Q 3=u11:=(O.old 3 Z).trans h3;exact zF5 I.2 (a0.trans (J _ Z).1.symm) Y isAgg51 sizeOf51)<|rc (OblR.took 1 _ _ Z Z Z Z Z fun V Q U O D u X Y J L M=>by have a0:Q 2=(.pointer (some ⟨b2_1,0,none⟩)):=(O.old 2 Z).trans h2;have a1:Rep zA0 V U (Q 40) (x5.1.1,x39.1,x5.1.2.2.1,x5.1.2.2.2):=D.g 0 Z;exact zB8 a1 a0 (J _ Z) X Y (FldS.id _) sizeOf51 Z)<|rz
 intro done ρ σ A R w y s
 replace h2:=k1 s.rg h2
 have z46:=s.inivR 0 Z
 have z47:=s.inivR 1 Z
 have z48:=s.on y 4 1 Z Z Z Z Z z47
 replace B:=s.lowK B C K (q.geK (⟨.inr (fun k h=>.inr h),⟨.inl Z,⟨fun _ h=>.inl h,N⟩⟩⟩))
 replace j:Ch (zA9 (.pointer (some ⟨b0,0,none⟩))) w0 w:=j.tr s.ch (q.geK (⟨.inr (fun k h=>.inr h),⟨.inl Z,⟨fun _ h=>.inl h,N⟩⟩⟩))
 replace q:=s.left y [(0,ob (.pointer (some ⟨b0,0,none⟩)) (.box B0 154 zA1 x39.2)),(4,ob (.pointer (some ⟨b2_1,0,none⟩)) (.box w0.heap.size 51 zA0 (x5.1.1,x39.1,x5.1.2.2.1,x5.1.2.2.2)))] ⟨Z,Z,z46,Z,Z,⟨Z,Z,z48,Z,Z,N⟩⟩
 replace d:=s.avok
 refine HT.ret ?_
 obtain rfl:=si c
 obtain ⟨v_2,e_2,p_2⟩:=zDJ (q.ok 1 _ Z).1 h2 isAgg51 sizeOf51 (fun _ _ h=>h)
 replace q:IniOK [ob (.pointer (some ⟨b0,0,none⟩)) (.box B0 154 zA1 x39.2)] A w:=q.sub [(0,ob (.pointer (some ⟨b0,0,none⟩)) (.box B0 154 zA1 x39.2))] ⟨Z,Z,N⟩
 obtain ⟨A1,hA1,hG1⟩:=GPost.of q d B (q.geK (⟨.inr (fun k h=>.inr h),N⟩)) j
 exact ⟨.inr Z,[v_2],⟨e_2,N⟩,A1,hG1,p_2.down hA1⟩
 have c:=zAN c34 c
 refine zQ9 ?_
 refine zQD (eB (x17.1==2)::eB (x17.1==2)::[]) ?_ ?_
 exact op (fun Q U W H D=>zAo ((H 7 Z).trans h7) Z)<|oa<|oz
 intro R w m n p
 obtain ⟨h0,h2,h3,h7⟩:=k4 n h0 h2 h3 h7
 have h20:=p.r 1 Z
 replace q:=q.fr m
 replace d:=d.fr m.size
 replace j:=j.tr (m.ch noB) fun _ h=>False.elim h
 refine zQ2 (x17.1==2) h20 (fun c49=>?_) (fun c49=>?_)
 have c:=zAO c49 c
 refine SG.of ?_
 refine SG.textR [ob (.pointer (some ⟨b0,0,none⟩)) (.box B0 154 zA1 x17.2),ob (.pointer (some ⟨b2_1,0,none⟩)) (.box w0.heap.size 51 zA0 (0,(0,(0,([]:List (List UInt8)))))),⟨u11,S13,trR (geB w0.heap.size) (oPt 51 (oPr (oRd (eInt .i64)) (oPr (oRd (eInt .i64)) (oPr (oRd (eInt .i64)) (oSl 9 (oRd eStr)))))) x5.1 []⟩] (rR (.pointer (some ⟨b0,0,none⟩))::(rF fun A=>.rep (eSl (eInt .i64)) A ([0,999,1000]:List Int))::[]) 2 Z Z Z (by kernel_rfl) (by kernel_rfl) (Wf.mk' (by kernel_rfl) (ur (up (UAll.nil))) (by kernel_rfl) (by kernel_rfl)) q d (N) ?_ ?_
 exact rm h0<|rp (fun V Q U O D=>zB6 [_,_,_] (E:=eInt .i64) ⟨(zAa.eq Z),⟨(zAa.eq Z),⟨(zAa.eq Z),N⟩⟩⟩ underlying27 sizeOf3 zeroValue3 Z Z Z O.av)<|rz
 intro done ρ σ A R w y s
 obtain ⟨h2,h3⟩:=k2 s.rg h2 h3
 have z50:=s.inivR 0 Z
 have z51:=s.inivR 1 Z
 have z52:=s.inivR 2 Z
 have eS_u11:=s.inisR 2 Z
 have h22:=s.r y 0 Z
 obtain ⟨u53,h23,f_u53⟩:∃ u,R 23=u∧Rep (eSl (eInt .i64)) A w u ([0,999,1000]:List Int):=⟨_,Z,s.fact y (i:=1) Z Z Z⟩
 replace B:=s.lowK B C K (q.geK (⟨.inr (fun k h=>.inr h),⟨.inl Z,⟨fun _ h=>.inl h,N⟩⟩⟩))
 replace j:Ch (zA9 (.pointer (some ⟨b0,0,none⟩))) w0 w:=j.tr s.ch (q.geK (⟨.inr (fun k h=>.inr h),⟨.inl Z,⟨fun _ h=>.inl h,N⟩⟩⟩))
 replace q:=s.left y [(0,ob (.pointer (some ⟨b0,0,none⟩)) (.box B0 154 zA1 x17.2)),(1,ob (.pointer (some ⟨b2_1,0,none⟩)) (.box w0.heap.size 51 zA0 (0,(0,(0,([]:List (List UInt8))))))),(2,⟨u11,S13,trR (geB w0.heap.size) (oPt 51 (oPr (oRd (eInt .i64)) (oPr (oRd (eInt .i64)) (oPr (oRd (eInt .i64)) (oSl 9 (oRd eStr)))))) x5.1 []⟩)] ⟨Z,Z,z50,Z,Z,⟨Z,Z,z51,Z,Z,⟨Z,Z,z52,eS_u11,Z,N⟩⟩⟩
 replace d:=s.avok
 obtain ⟨x54,q55,c⟩:=zA4 c
 have hFz:w0.heap.size≤w.heap.size:=j.size
 refine zQK 24 Z Z Z Z (zB1 call143 (zE4 (q55 Z) d h22 (q.sub [(0,ob (.pointer (some ⟨b0,0,none⟩)) (.box B0 154 zA1 x17.2))] ⟨Z,Z,N⟩) (f_u53.eq h23))) ?_
 rintro v_ w ⟨A,hG1,hv⟩ R n hd
 have hst:=zAy d hG1 (q.ok 0 _ Z).2
 replace B:∀ b o,A0 b o→A b o:=zAs B C K (q.geK (⟨.inr (fun k h=>.inr h),⟨.inl Z,⟨fun _ h=>.inl h,N⟩⟩⟩)) 0 Z hG1
 replace j:Ch (zA9 (.pointer (some ⟨b0,0,none⟩))) w0 w:=j.tr hG1.ch (fun k hk=>(q.geK (⟨.inr (fun k h=>.inr h),⟨.inl Z,⟨fun _ h=>.inl h,N⟩⟩⟩)) k ⟨0,_,Z,hk⟩)
 replace q:=zQ1 q d 0 Z hG1
 replace d:=hG1.avok
 replace q:IniOK [ob (.pointer (some ⟨b0,0,none⟩)) (.box B0 154 zA1 x54.2),ob (.pointer (some ⟨b2_1,0,none⟩)) (.box w0.heap.size 51 zA0 (0,(0,(0,([]:List (List UInt8)))))),⟨u11,S13,trR (geB w0.heap.size) (oPt 51 (oPr (oRd (eInt .i64)) (oPr (oRd (eInt .i64)) (oPr (oRd (eInt .i64)) (oSl 9 (oRd eStr)))))) x5.1 []⟩] A w:=q
 replace h2:=(n 2 Z).trans h2
 replace h3:=(n 3 Z).trans h3
 replace h22:=(n 22 Z).trans h22
 replace h23:=(n 23 Z).trans h23
 replace f_u53:=f_u53.stp hst
 have h24:R 24 = .int .i64 x54.1:=hd.trans hv
 clear hFz hG1 hv n hd
 refine SG.textR [ob (.pointer (some ⟨b0,0,none⟩)) (.box B0 154 zA1 x54.2),ob (.pointer (some ⟨b2_1,0,none⟩)) (.box w0.heap.size 51 zA0 (0,(0,(0,([]:List (List UInt8)))))),⟨u11,S13,trR (geB w0.heap.size) (oPt 51 (oPr (oRd (eInt .i64)) (oPr (oRd (eInt .i64)) (oPr (oRd (eInt .i64)) (oSl 9 (oRd eStr)))))) x5.1 []⟩] (rR (.pointer (some ⟨b0,0,none⟩))::rR u53::rI x54.1::rR (padd u11 2)::⟨_,true,[2],some (trR (geB w0.heap.size) (oPt 51 (oPr (oRd (eInt .i64)) (oPr (oRd (eInt .i64)) (oPr (oRd (eInt .i64)) (oSl 9 (oRd eStr)))))) (x5.1.1,x5.1.2.1,x54.1,x5.1.2.2.2) []),false,fun A=>.any⟩::[]) 5 Z Z Z (by kernel_rfl) (by kernel_rfl) (Wf.mk' (by kernel_rfl) (ur (ur (ur (ur (ua (UAll.nil)))))) (by kernel_rfl) (by kernel_rfl)) q d (⟨⟨Z,Z,Z,h22⟩,⟨⟨Z,Z,Z,h23⟩,⟨⟨Z,Z,Z,h24⟩,N⟩⟩⟩) ?_ ?_
 exact rp (fun V Q U O D=>zCy ((zAM (q.own 2 _ Z).2).ptr).ad ((O.old 3 Z).trans h3) zJD sizeOf3 (by decide) Z)<|rc (zQI 2 _ _ Z Z Z Z Z fun V Q U O D u S X I Y J L M=>by have a0:Q 25=(padd u11 2):=D.g 0 Z;have a1:Q 24 = .int .i64 x54.1:=D.g 1 Z;have e0:=(J _ Z).1;rw [e0] at I ⊢;exact zCV ((((zAM I.2).ptr).snd Z).snd (zC7 _ _ _)).fst (zAa.eq a1) a0 Y I.1 sizeOf3 (fun _ _ _ h=>h))<|rz
 intro done ρ σ A R w y s
 obtain ⟨h2,h3⟩:=k2 s.rg h2 h3
 have z56:=s.inivR 0 Z
 have z57:=s.inivR 1 Z
 have z58:=s.inivR 2 Z
 have z59:=s.on y 7 4 Z Z Z Z Z z58
 obtain ⟨S60,eS_u11⟩:∃ S,σ 7=S:=⟨_,Z⟩
 replace B:=s.lowK B C K (q.geK (⟨.inr (fun k h=>.inr h),⟨.inl Z,⟨fun _ h=>.inl h,N⟩⟩⟩))
 replace j:Ch (zA9 (.pointer (some ⟨b0,0,none⟩))) w0 w:=j.tr s.ch (q.geK (⟨.inr (fun k h=>.inr h),⟨.inl Z,⟨fun _ h=>.inl h,N⟩⟩⟩))
 replace q:=s.left y [(0,ob (.pointer (some ⟨b0,0,none⟩)) (.box B0 154 zA1 x54.2)),(1,ob (.pointer (some ⟨b2_1,0,none⟩)) (.box w0.heap.size 51 zA0 (0,(0,(0,([]:List (List UInt8))))))),(7,⟨u11,S60,trR (geB w0.heap.size) (oPt 51 (oPr (oRd (eInt .i64)) (oPr (oRd (eInt .i64)) (oPr (oRd (eInt .i64)) (oSl 9 (oRd eStr)))))) (x5.1.1,x5.1.2.1,x54.1,x5.1.2.2.2) []⟩)] ⟨Z,Z,z56,Z,Z,⟨Z,Z,z57,Z,Z,⟨Z,Z,z59,eS_u11,Z,N⟩⟩⟩
 replace d:=s.avok
 refine zQJ Z ?_
 refine zQC [ob (.pointer (some ⟨b0,0,none⟩)) (.box B0 154 zA1 x54.2),ob (.pointer (some ⟨b2_1,0,none⟩)) (.box w0.heap.size 51 zA0 (0,(0,(0,([]:List (List UInt8)))))),⟨u11,S60,trR (geB w0.heap.size) (oPt 51 (oPr (oRd (eInt .i64)) (oPr (oRd (eInt .i64)) (oPr (oRd (eInt .i64)) (oSl 9 (oRd eStr)))))) (x5.1.1,x5.1.2.1,x54.1,x5.1.2.2.2) []⟩] (⟨_,true,[2],some (.nul),false,fun A=>.rep zA0 A (x5.1.1,x5.1.2.1,x54.1,x5.1.2.2.2)⟩::⟨_,true,[1],some (.box w0.heap.size 51 zA0 (x5.1.1,x5.1.2.1,x54.1,x5.1.2.2.2)),false,fun A=>.any⟩::[]) (up (ua (UAll.nil))) q d ?_ ?_
 exact rc (zQI 2 .nul _ Z Z Z Z Z fun V Q U O D u S X I Y J L M=>by have a0:Q 3=u11:=(O.old 3 Z).trans h3;exact zF5 I.2 (a0.trans (J _ Z).1.symm) Y isAgg51 sizeOf51)<|rc (OblR.took 1 _ _ Z Z Z Z Z fun V Q U O D u X Y J L M=>by have a0:Q 2=(.pointer (some ⟨b2_1,0,none⟩)):=(O.old 2 Z).trans h2;have a1:Rep zA0 V U (Q 40) (x5.1.1,x5.1.2.1,x54.1,x5.1.2.2.2):=D.g 0 Z;exact zB8 a1 a0 (J _ Z) X Y (FldS.id _) sizeOf51 Z)<|rz
 intro done ρ σ A R w y s
 replace h2:=k1 s.rg h2
 have z61:=s.inivR 0 Z
 have z62:=s.inivR 1 Z
 have z63:=s.on y 4 1 Z Z Z Z Z z62
 replace B:=s.lowK B C K (q.geK (⟨.inr (fun k h=>.inr h),⟨.inl Z,⟨fun _ h=>.inl h,N⟩⟩⟩))
 replace j:Ch (zA9 (.pointer (some ⟨b0,0,none⟩))) w0 w:=j.tr s.ch (q.geK (⟨.inr (fun k h=>.inr h),⟨.inl Z,⟨fun _ h=>.inl h,N⟩⟩⟩))
 replace q:=s.left y [(0,ob (.pointer (some ⟨b0,0,none⟩)) (.box B0 154 zA1 x54.2)),(4,ob (.pointer (some ⟨b2_1,0,none⟩)) (.box w0.heap.size 51 zA0 (x5.1.1,x5.1.2.1,x54.1,x5.1.2.2.2)))] ⟨Z,Z,z61,Z,Z,⟨Z,Z,z63,Z,Z,N⟩⟩
 replace d:=s.avok
 refine HT.ret ?_
 obtain rfl:=si c
 obtain ⟨v_2,e_2,p_2⟩:=zDJ (q.ok 1 _ Z).1 h2 isAgg51 sizeOf51 (fun _ _ h=>h)
 replace q:IniOK [ob (.pointer (some ⟨b0,0,none⟩)) (.box B0 154 zA1 x54.2)] A w:=q.sub [(0,ob (.pointer (some ⟨b0,0,none⟩)) (.box B0 154 zA1 x54.2))] ⟨Z,Z,N⟩
 obtain ⟨A1,hA1,hG1⟩:=GPost.of q d B (q.geK (⟨.inr (fun k h=>.inr h),N⟩)) j
 exact ⟨.inr Z,[v_2],⟨e_2,N⟩,A1,hG1,p_2.down hA1⟩
 have c:=zAN c49 c
 refine zQ9 ?_
 refine zQD (eB (x17.1==3)::eB (x17.1==3)::[]) ?_ ?_
 exact op (fun Q U W H D=>zAo ((H 7 Z).trans h7) Z)<|oa<|oz
 intro R w m n p
 obtain ⟨h0,h2,h3,h7⟩:=k4 n h0 h2 h3 h7
 have h26:=p.r 1 Z
 replace q:=q.fr m
 replace d:=d.fr m.size
 replace j:=j.tr (m.ch noB) fun _ h=>False.elim h
 refine zQ2 (x17.1==3) h26 (fun c64=>?_) (fun c64=>?_)
 have c:=zAO c64 c
 replace q:IniOK [⟨u11,S13,trR (geB w0.heap.size) (oPt 51 (oPr (oRd (eInt .i64)) (oPr (oRd (eInt .i64)) (oPr (oRd (eInt .i64)) (oSl 9 (oRd eStr)))))) x5.1 []⟩,ob (.pointer (some ⟨b0,0,none⟩)) (.box B0 154 zA1 x17.2),ob (.pointer (some ⟨b2_1,0,none⟩)) (.box w0.heap.size 51 zA0 (0,(0,(0,([]:List (List UInt8))))))] A w:=q.sub [(2,⟨u11,S13,trR (geB w0.heap.size) (oPt 51 (oPr (oRd (eInt .i64)) (oPr (oRd (eInt .i64)) (oPr (oRd (eInt .i64)) (oSl 9 (oRd eStr)))))) x5.1 []⟩),(0,ob (.pointer (some ⟨b0,0,none⟩)) (.box B0 154 zA1 x17.2)),(1,ob (.pointer (some ⟨b2_1,0,none⟩)) (.box w0.heap.size 51 zA0 (0,(0,(0,([]:List (List UInt8)))))))] ⟨Z,Z,⟨Z,Z,⟨Z,Z,N⟩⟩⟩
 obtain ⟨A,b_u11,e_b_u11,hle,B,d,q⟩:=q.freezeT d B C (fun _ h=>h)
 replace h3:=h3.trans e_b_u11
 clear hle
 replace q:IniOK [ob (.pointer (some ⟨b_u11,0,none⟩)) (.box w0.heap.size 51 zA0 x5.1),ob (.pointer (some ⟨b0,0,none⟩)) (.box B0 154 zA1 x17.2),ob (.pointer (some ⟨b2_1,0,none⟩)) (.box w0.heap.size 51 zA0 (0,(0,(0,([]:List (List UInt8))))))] A w:=q
 obtain ⟨e65,c⟩:=zA5 c
 refine zQF [ob (.pointer (some ⟨b_u11,0,none⟩)) (.box w0.heap.size 51 zA0 x5.1),ob (.pointer (some ⟨b0,0,none⟩)) (.box B0 154 zA1 x17.2),ob (.pointer (some ⟨b2_1,0,none⟩)) (.box w0.heap.size 51 zA0 (0,(0,(0,([]:List (List UInt8))))))] (rR (.pointer (some ⟨b_u11,3,none⟩))::(rF fun A=>.rep (eSl eStr) A x5.1.2.2.2)::(rF fun A=>.rep (eSl eStr) A (subL x5.1.2.2.2 1 (x5.1.2.2.2.length:Int)))::rR (.pointer (some ⟨b_u11,3,none⟩))::⟨_,true,[0],some (.box w0.heap.size 51 zA0 (x5.1.1,x5.1.2.1,x5.1.2.2.1,(subL x5.1.2.2.2 1 (x5.1.2.2.2.length:Int)))),false,fun A=>.any⟩::[]) (ur (up (up (ur (ua (UAll.nil)))))) q d ?_ ?_
 exact rp (fun V Q U O D=>zAA ((O.old 3 Z).trans h3) zBs sizeOf46 (by decide) Z)<|rp (fun V Q U O D=>(zAC (O.rd 0 _ Z Z) (D.g 0 Z) zAS Z isAgg46 sizeOf46))<|rp (fun V Q U O D=>zDh (D.g 0 Z) Z underlying46 sizeOf9 e65)<|rp (fun V Q U O D=>zAA ((O.old 3 Z).trans h3) zBs sizeOf46 (by decide) Z)<|rc (OblR.took 0 _ _ Z Z Z Z Z fun V Q U O D u X Y J L M=>by have a0:Q 31=(.pointer (some ⟨b_u11,3,none⟩)):=D.g 0 Z;have a1:Rep (eSl eStr) V U (Q 30) (subL x5.1.2.2.2 1 (x5.1.2.2.2.length:Int)):=D.g 1 Z;exact zB8 a1 a0 (J _ Z) X Y zHw sizeOf46 Z)<|rz
 intro done ρ σ A R w y s
 obtain ⟨h2,h3⟩:=k2 s.rg h2 h3
 have z66:=s.inivR 0 Z
 have z67:=s.on y 7 4 Z Z Z Z Z z66
 have z68:=s.inivR 1 Z
 have z69:=s.inivR 2 Z
 replace B:=s.lowK B C K (q.geK (⟨.inl Z,⟨.inr (fun k h=>.inr h),⟨.inl Z,N⟩⟩⟩))
 replace j:Ch (zA9 (.pointer (some ⟨b0,0,none⟩))) w0 w:=j.tr s.ch (q.geK (⟨.inl Z,⟨.inr (fun k h=>.inr h),⟨.inl Z,N⟩⟩⟩))
 replace q:=s.left y [(7,ob (.pointer (some ⟨b_u11,0,none⟩)) (.box w0.heap.size 51 zA0 (x5.1.1,x5.1.2.1,x5.1.2.2.1,(subL x5.1.2.2.2 1 (x5.1.2.2.2.length:Int))))),(1,ob (.pointer (some ⟨b0,0,none⟩)) (.box B0 154 zA1 x17.2)),(2,ob (.pointer (some ⟨b2_1,0,none⟩)) (.box w0.heap.size 51 zA0 (0,(0,(0,([]:List (List UInt8)))))))] ⟨Z,Z,z67,Z,Z,⟨Z,Z,z68,Z,Z,⟨Z,Z,z69,Z,Z,N⟩⟩⟩
 replace d:=s.avok
 refine zQC [ob (.pointer (some ⟨b_u11,0,none⟩)) (.box w0.heap.size 51 zA0 (x5.1.1,x5.1.2.1,x5.1.2.2.1,(subL x5.1.2.2.2 1 (x5.1.2.2.2.length:Int)))),ob (.pointer (some ⟨b0,0,none⟩)) (.box B0 154 zA1 x17.2),ob (.pointer (some ⟨b2_1,0,none⟩)) (.box w0.heap.size 51 zA0 (0,(0,(0,([]:List (List UInt8))))))] ((rF fun A=>.rep zA0 A (x5.1.1,x5.1.2.1,x5.1.2.2.1,(subL x5.1.2.2.2 1 (x5.1.2.2.2.length:Int))))::⟨_,true,[2],some (.box w0.heap.size 51 zA0 (x5.1.1,x5.1.2.1,x5.1.2.2.1,(subL x5.1.2.2.2 1 (x5.1.2.2.2.length:Int)))),false,fun A=>.any⟩::[]) (up (ua (UAll.nil))) q d ?_ ?_
 exact rp (fun V Q U O D=>(zAC (O.rd 0 _ Z Z) ((O.old 3 Z).trans h3) (Fld.id _) Z isAgg51 sizeOf51))<|rc (OblR.took 2 _ _ Z Z Z Z Z fun V Q U O D u X Y J L M=>by have a0:Q 2=(.pointer (some ⟨b2_1,0,none⟩)):=(O.old 2 Z).trans h2;have a1:Rep zA0 V U (Q 40) (x5.1.1,x5.1.2.1,x5.1.2.2.1,(subL x5.1.2.2.2 1 (x5.1.2.2.2.length:Int))):=D.g 0 Z;exact zB8 a1 a0 (J _ Z) X Y (FldS.id _) sizeOf51 Z)<|rz
 intro done ρ σ A R w y s
 replace h2:=k1 s.rg h2
 have z70:=s.inivR 0 Z
 have z71:=s.inivR 1 Z
 have z72:=s.inivR 2 Z
 have z73:=s.on y 4 1 Z Z Z Z Z z72
 replace B:=s.lowK B C K (q.geK (⟨.inl Z,⟨.inr (fun k h=>.inr h),⟨.inl Z,N⟩⟩⟩))
 replace j:Ch (zA9 (.pointer (some ⟨b0,0,none⟩))) w0 w:=j.tr s.ch (q.geK (⟨.inl Z,⟨.inr (fun k h=>.inr h),⟨.inl Z,N⟩⟩⟩))
 replace q:=s.left y [(1,ob (.pointer (some ⟨b0,0,none⟩)) (.box B0 154 zA1 x17.2)),(4,ob (.pointer (some ⟨b2_1,0,none⟩)) (.box w0.heap.size 51 zA0 (x5.1.1,x5.1.2.1,x5.1.2.2.1,(subL x5.1.2.2.2 1 (x5.1.2.2.2.length:Int)))))] ⟨Z,Z,z71,Z,Z,⟨Z,Z,z73,Z,Z,N⟩⟩
 replace d:=s.avok
 refine HT.ret ?_
 obtain rfl:=si c
 obtain ⟨v_2,e_2,p_2⟩:=zDJ (q.ok 1 _ Z).1 h2 isAgg51 sizeOf51 (fun _ _ h=>h)
 replace q:IniOK [ob (.pointer (some ⟨b0,0,none⟩)) (.box B0 154 zA1 x17.2)] A w:=q.sub [(0,ob (.pointer (some ⟨b0,0,none⟩)) (.box B0 154 zA1 x17.2))] ⟨Z,Z,N⟩
 obtain ⟨A1,hA1,hG1⟩:=GPost.of q d B (q.geK (⟨.inr (fun k h=>.inr h),N⟩)) j
 exact ⟨.inr Z,[v_2],⟨e_2,N⟩,A1,hG1,p_2.down hA1⟩
 have c:=zAN c64 c
 refine zQ9 ?_
 refine zQD (eB (x17.1==4)::eB (x17.1==4)::[]) ?_ ?_
 exact op (fun Q U W H D=>zAo ((H 7 Z).trans h7) Z)<|oa<|oz
 intro R w m n p
 obtain ⟨h0,h2,h3⟩:=k3 n h0 h2 h3
 have h32:=p.r 1 Z
 replace q:=q.fr m
 replace d:=d.fr m.size
 replace j:=j.tr (m.ch noB) fun _ h=>False.elim h
 refine zQ2 (x17.1==4) h32 (fun c74=>?_) (fun c74=>?_)
 have c:=zAO c74 c
 obtain ⟨h75,p_h75⟩:=((((((zAM (q.own 2 _ Z).2).ptr).snd Z).snd (zC7 _ _ _)).snd (zC7 _ _ _))).open1 Z
 replace q:IniOK [ob (.pointer (some ⟨b0,0,none⟩)) (.box B0 154 zA1 x17.2),ob (.pointer (some ⟨b2_1,0,none⟩)) (.box w0.heap.size 51 zA0 (0,(0,(0,([]:List (List UInt8)))))),⟨u11,S13,trR (geB w0.heap.size) (oPt 51 (oPr (oRd (eInt .i64)) (oPr (oRd (eInt .i64)) (oPr (oRd (eInt .i64)) (oSl 9 (oRd eStr)))))) x5.1 [((padd u11 3),[h75])]⟩] A w:=q.repin 2 Z (trP.pin p_h75)
 obtain ⟨x77,q78,c⟩:=zA4 c
 obtain ⟨e79,c⟩:=zA5 c
 refine zQ6 [ob (.pointer (some ⟨b0,0,none⟩)) (.box B0 154 zA1 x17.2),ob (.pointer (some ⟨b2_1,0,none⟩)) (.box w0.heap.size 51 zA0 (0,(0,(0,([]:List (List UInt8)))))),⟨u11,S13,trR (geB w0.heap.size) (oPt 51 (oPr (oRd (eInt .i64)) (oPr (oRd (eInt .i64)) (oPr (oRd (eInt .i64)) (oSl 9 (oRd eStr)))))) x5.1 [((padd u11 3),[h75])]⟩] (rR (padd u11 3)::rR h75::rR (.pointer (some ⟨b0,0,none⟩))::(rF fun A=>.rep (eSl eStr) A ([([97,124,98]:List UInt8),([97,59,98]:List UInt8),([10]:List UInt8),([]:List UInt8)]:List (List UInt8)))::⟨_,true,[0],some (.box B0 154 zA1 x77.2),false,fun A=>.rep eStr A x77.1⟩::rR (vptr h75 ((0:Int).toNat*1))::⟨_,true,[2],some (trR (geB w0.heap.size) (oPt 51 (oPr (oRd (eInt .i64)) (oPr (oRd (eInt .i64)) (oPr (oRd (eInt .i64)) (oSl 9 (oRd eStr)))))) (x5.1.1,x5.1.2.1,x5.1.2.2.1,(x5.1.2.2.2.set (0:Int).toNat x77.1)) []),false,fun A=>.any⟩::[]) (by kernel_rfl) (by kernel_rfl) (by kernel_rfl) (Wf.mk' (by kernel_rfl) (ur (ur (ur (up (up (ur (ua (UAll.nil)))))))) (by kernel_rfl) (by kernel_rfl)) q d ?_ ?_
 exact rp (fun V Q U O D=>zCy ((zAM (q.own 2 _ Z).2).ptr).ad ((O.old 3 Z).trans h3) zBs sizeOf46 (by decide) Z)<|rp (fun V Q U O D=>zB3 ((O.rdo 2 _ Z Z).2.2 _ (.head _)) (D.g 0 Z) isAgg46 sizeOf46)<|rm h0<|rp (fun V Q U O D=>zB6 [_,_,_,_] (E:=eStr) ⟨⟨_,Z,⟨_,Z,Z,by decide⟩⟩,⟨⟨_,Z,⟨_,Z,Z,by decide⟩⟩,⟨⟨_,Z,⟨_,Z,Z,by decide⟩⟩,⟨⟨_,Z,⟨_,Z,Z,by decide⟩⟩,N⟩⟩⟩⟩ underlying46 sizeOf9 zeroValue9 Z Z Z O.av)<|rc (OblR.took 0 _ _ Z Z Z Z Z fun V Q U O D u X Y J L M=>by have a0:Q 36=(.pointer (some ⟨b0,0,none⟩)):=D.g 0 Z;have a1:Rep (eSl eStr) V U (Q 37) ([([97,124,98]:List UInt8),([97,59,98]:List UInt8),([10]:List UInt8),([]:List UInt8)]:List (List UInt8)):=D.g 1 Z;have e0:=J _ Z;rw [e0] at X Y ⊢;exact zMJ call222 X Y O.av (fun s=>zCF (q78 Z) O.av a0 s a1))<|rp (fun V Q U O D=>zAH (((((((zAM (q.own 2 _ Z).2).ptr).snd Z).snd (zC7 _ _ _)).snd (zC7 _ _ _))).pin ((q.own 2 _ Z).2.2 _ (.head _)) Z) (D.g 0 Z) Z underlying46 sizeOf9 e79 Z)<|rc (zQI 2 _ _ Z Z Z Z Z fun V Q U O D u S X I Y J L M=>by have a0:Q 39=(vptr h75 ((0:Int).toNat*1)):=D.g 0 Z;have a1:Rep eStr V U (Q 38) x77.1:=D.g 1 Z;have e0:=(J _ Z).1;rw [e0] at I ⊢;exact zCV ((((((((zAM I.2).ptr).snd Z).snd (zC7 _ _ _)).snd (zC7 _ _ _))).pin (I.2.2 _ (.head _)) Z).elem e79 Z) a1 a0 Y I.1 sizeOf9 (fun _ _ _ h=>h))<|rz
 intro done ρ σ A R w y s
 obtain ⟨h2,h3⟩:=k2 s.rg h2 h3
 have z80:=s.inivR 0 Z
 have z81:=s.on y 7 4 Z Z Z Z Z z80
 have z82:=s.inivR 1 Z
 have z83:=s.inivR 2 Z
 have z84:=s.on y 9 6 Z Z Z Z Z z83
 obtain ⟨S85,eS_u11⟩:∃ S,σ 9=S:=⟨_,Z⟩
 replace B:=s.lowK B C K (q.geK (⟨.inr (fun k h=>.inr h),⟨.inl Z,⟨fun _ h=>.inl h,N⟩⟩⟩))
 replace j:Ch (zA9 (.pointer (some ⟨b0,0,none⟩))) w0 w:=j.tr s.ch (q.geK (⟨.inr (fun k h=>.inr h),⟨.inl Z,⟨fun _ h=>.inl h,N⟩⟩⟩))
 replace q:=s.left y [(7,ob (.pointer (some ⟨b0,0,none⟩)) (.box B0 154 zA1 x77.2)),(1,ob (.pointer (some ⟨b2_1,0,none⟩)) (.box w0.heap.size 51 zA0 (0,(0,(0,([]:List (List UInt8))))))),(9,⟨u11,S85,trR (geB w0.heap.size) (oPt 51 (oPr (oRd (eInt .i64)) (oPr (oRd (eInt .i64)) (oPr (oRd (eInt .i64)) (oSl 9 (oRd eStr)))))) (x5.1.1,x5.1.2.1,x5.1.2.2.1,(x5.1.2.2.2.set (0:Int).toNat x77.1)) []⟩)] ⟨Z,Z,z81,Z,Z,⟨Z,Z,z82,Z,Z,⟨Z,Z,z84,eS_u11,Z,N⟩⟩⟩
 replace d:=s.avok
 refine zQC [ob (.pointer (some ⟨b0,0,none⟩)) (.box B0 154 zA1 x77.2),ob (.pointer (some ⟨b2_1,0,none⟩)) (.box w0.heap.size 51 zA0 (0,(0,(0,([]:List (List UInt8)))))),⟨u11,S85,trR (geB w0.heap.size) (oPt 51 (oPr (oRd (eInt .i64)) (oPr (oRd (eInt .i64)) (oPr (oRd (eInt .i64)) (oSl 9 (oRd eStr)))))) (x5.1.1,x5.1.2.1,x5.1.2.2.1,(x5.1.2.2.2.set (0:Int).toNat x77.1)) []⟩] (⟨_,true,[2],some (.nul),false,fun A=>.rep zA0 A (x5.1.1,x5.1.2.1,x5.1.2.2.1,(x5.1.2.2.2.set (0:Int).toNat x77.1))⟩::⟨_,true,[1],some (.box w0.heap.size 51 zA0 (x5.1.1,x5.1.2.1,x5.1.2.2.1,(x5.1.2.2.2.set (0:Int).toNat x77.1))),false,fun A=>.any⟩::[]) (up (ua (UAll.nil))) q d ?_ ?_
 exact rc (zQI 2 .nul _ Z Z Z Z Z fun V Q U O D u S X I Y J L M=>by have a0:Q 3=u11:=(O.old 3 Z).trans h3;exact zF5 I.2 (a0.trans (J _ Z).1.symm) Y isAgg51 sizeOf51)<|rc (OblR.took 1 _ _ Z Z Z Z Z fun V Q U O D u X Y J L M=>by have a0:Q 2=(.pointer (some ⟨b2_1,0,none⟩)):=(O.old 2 Z).trans h2;have a1:Rep zA0 V U (Q 40) (x5.1.1,x5.1.2.1,x5.1.2.2.1,(x5.1.2.2.2.set (0:Int).toNat x77.1)):=D.g 0 Z;exact zB8 a1 a0 (J _ Z) X Y (FldS.id _) sizeOf51 Z)<|rz
 intro done ρ σ A R w y s
 replace h2:=k1 s.rg h2
 have z86:=s.inivR 0 Z
 have z87:=s.inivR 1 Z
 have z88:=s.on y 4 1 Z Z Z Z Z z87
 replace B:=s.lowK B C K (q.geK (⟨.inr (fun k h=>.inr h),⟨.inl Z,⟨fun _ h=>.inl h,N⟩⟩⟩))
 replace j:Ch (zA9 (.pointer (some ⟨b0,0,none⟩))) w0 w:=j.tr s.ch (q.geK (⟨.inr (fun k h=>.inr h),⟨.inl Z,⟨fun _ h=>.inl h,N⟩⟩⟩))
 replace q:=s.left y [(0,ob (.pointer (some ⟨b0,0,none⟩)) (.box B0 154 zA1 x77.2)),(4,ob (.pointer (some ⟨b2_1,0,none⟩)) (.box w0.heap.size 51 zA0 (x5.1.1,x5.1.2.1,x5.1.2.2.1,(x5.1.2.2.2.set (0:Int).toNat x77.1))))] ⟨Z,Z,z86,Z,Z,⟨Z,Z,z88,Z,Z,N⟩⟩
 replace d:=s.avok
 refine HT.ret ?_
 obtain rfl:=si c
 obtain ⟨v_2,e_2,p_2⟩:=zDJ (q.ok 1 _ Z).1 h2 isAgg51 sizeOf51 (fun _ _ h=>h)
 replace q:IniOK [ob (.pointer (some ⟨b0,0,none⟩)) (.box B0 154 zA1 x77.2)] A w:=q.sub [(0,ob (.pointer (some ⟨b0,0,none⟩)) (.box B0 154 zA1 x77.2))] ⟨Z,Z,N⟩
 obtain ⟨A1,hA1,hG1⟩:=GPost.of q d B (q.geK (⟨.inr (fun k h=>.inr h),N⟩)) j
 exact ⟨.inr Z,[v_2],⟨e_2,N⟩,A1,hG1,p_2.down hA1⟩
 have c:=zAN c74 c
 refine zQA ?_
 refine zQC [ob (.pointer (some ⟨b0,0,none⟩)) (.box B0 154 zA1 x17.2),ob (.pointer (some ⟨b2_1,0,none⟩)) (.box w0.heap.size 51 zA0 (0,(0,(0,([]:List (List UInt8)))))),⟨u11,S13,trR (geB w0.heap.size) (oPt 51 (oPr (oRd (eInt .i64)) (oPr (oRd (eInt .i64)) (oPr (oRd (eInt .i64)) (oSl 9 (oRd eStr)))))) x5.1 []⟩] (⟨_,true,[2],some (.nul),false,fun A=>.rep zA0 A x5.1⟩::⟨_,true,[1],some (.box w0.heap.size 51 zA0 x5.1),false,fun A=>.any⟩::[]) (up (ua (UAll.nil))) q d ?_ ?_
 exact rc (zQI 2 .nul _ Z Z Z Z Z fun V Q U O D u S X I Y J L M=>by have a0:Q 3=u11:=(O.old 3 Z).trans h3;exact zF5 I.2 (a0.trans (J _ Z).1.symm) Y isAgg51 sizeOf51)<|rc (OblR.took 1 _ _ Z Z Z Z Z fun V Q U O D u X Y J L M=>by have a0:Q 2=(.pointer (some ⟨b2_1,0,none⟩)):=(O.old 2 Z).trans h2;have a1:Rep zA0 V U (Q 40) x5.1:=D.g 0 Z;exact zB8 a1 a0 (J _ Z) X Y (FldS.id _) sizeOf51 Z)<|rz
 intro done ρ σ A R w y s
 replace h2:=k1 s.rg h2
 have z89:=s.inivR 0 Z
 have z90:=s.inivR 1 Z
 have z91:=s.on y 4 1 Z Z Z Z Z z90
 replace B:=s.lowK B C K (q.geK (⟨.inr (fun k h=>.inr h),⟨.inl Z,⟨fun _ h=>.inl h,N⟩⟩⟩))
 replace j:Ch (zA9 (.pointer (some ⟨b0,0,none⟩))) w0 w:=j.tr s.ch (q.geK (⟨.inr (fun k h=>.inr h),⟨.inl Z,⟨fun _ h=>.inl h,N⟩⟩⟩))
 replace q:=s.left y [(0,ob (.pointer (some ⟨b0,0,none⟩)) (.box B0 154 zA1 x17.2)),(4,ob (.pointer (some ⟨b2_1,0,none⟩)) (.box w0.heap.size 51 zA0 x5.1))] ⟨Z,Z,z89,Z,Z,⟨Z,Z,z91,Z,Z,N⟩⟩
 replace d:=s.avok
 refine HT.ret ?_
 obtain rfl:=si c
 obtain ⟨v_2,e_2,p_2⟩:=zDJ (q.ok 1 _ Z).1 h2 isAgg51 sizeOf51 (fun _ _ h=>h)
 replace q:IniOK [ob (.pointer (some ⟨b0,0,none⟩)) (.box B0 154 zA1 x17.2)] A w:=q.sub [(0,ob (.pointer (some ⟨b0,0,none⟩)) (.box B0 154 zA1 x17.2))] ⟨Z,Z,N⟩
 obtain ⟨A1,hA1,hG1⟩:=GPost.of q d B (q.geK (⟨.inr (fun k h=>.inr h),N⟩)) j
 exact ⟨.inr Z,[v_2],⟨e_2,N⟩,A1,hG1,p_2.down hA1⟩
def zDW (fu:Nat) (p0:zAE) (p1:Int):Option (Bool × zAE):=
 cl true (zBR fu p0 p1) fun x2=>
 some ((x2.1==0),x2.2)
theorem zFu {fu : Nat} {Aq : Av} {p0 : zAE} {p1 : Int} {r : Bool × zAE} (c : zDW fu p0 p1 = some r) {w : World} {v0 : Value} {v1 : Value} {b0 B0 : Nat} (d : AvOK Aq w) (h0 : v0 = .pointer (some ⟨b0, 0, none⟩)) (hO0 : IniOK [ob (.pointer (some ⟨b0, 0, none⟩)) (.box B0 154 zA1 p0)] Aq w) (h1 : v1 = .int .i64 p1) :
 Calls prog 177 #[v0,v1] w fun e w'=>∃ v,e = .returned v∧(∃ (A1:Av),GPost (subS Aq (zA9 (.pointer (some ⟨b0,0,none⟩)))) (zA9 (.pointer (some ⟨b0,0,none⟩))) w [ob (.pointer (some ⟨b0,0,none⟩)) (.box B0 154 zA1 r.2)] A1 w'∧(Fact.raw (.bool r.1)).ok v w'):=by
 unfold zDW at c
 obtain ⟨w0,hw0⟩:∃ w0,w0=w:=⟨_,Z⟩
 have j:Ch (zA9 (.pointer (some ⟨b0,0,none⟩))) w0 w:=hw0 ▸ Ch.refl _ _
 obtain ⟨A0,hA0e⟩:∃ A0,A0=subS Aq (zA9 (.pointer (some ⟨b0,0,none⟩))):=⟨_,Z⟩
 have C:∀ b o,A0 b o→b<w0.heap.size:=fun b o h=>hw0 ▸ d b o (hA0e ▸ h:subS Aq _ b o).1
 have K:∀ b o,A0 b o→¬ (zA9 (.pointer (some ⟨b0,0,none⟩))) b:=fun b o h=>(hA0e ▸ h:subS Aq _ b o).2
 have hA00:AvOK A0 w0:=C
 rw [show GPost (subS Aq (zA9 (.pointer (some ⟨b0,0,none⟩)))) (zA9 (.pointer (some ⟨b0,0,none⟩))) w=GPost A0 (zA9 (.pointer (some ⟨b0,0,none⟩))) w0 from by rw [hA0e,hw0]]
 obtain ⟨A,hAe⟩:∃ A,A=Aq:=⟨_,Z⟩
 have B:∀ b o,A0 b o→A b o:=fun b o h=>hAe ▸ (hA0e ▸ h:subS Aq _ b o).1
 replace d:AvOK A w:=hAe ▸ d
 have q:IniOK [ob (.pointer (some ⟨b0,0,none⟩)) (.box B0 154 zA1 p0)] A w:=hAe ▸ hO0
 clear hA0e hO0
 refine zA3 [.tmp 4] func177 ntmps177 (by decide) Z Z (nb Z) ?_
 intro R hR
 replace h0:R 0 = .pointer (some ⟨b0,0,none⟩):=(hR 0 _ Z).trans h0
 replace h1:R 1 = .int .i64 p1:=(hR 1 _ Z).trans h1
 refine zQ9 ?_
 refine zQD (eB false::[]) ?_ ?_
 exact op (fun Q U W H D=>zA2 Z)<|oz
 intro R w m n p
 obtain ⟨h0,h1⟩:=k2 n h0 h1
 replace q:=q.fr m
 replace d:=d.fr m.size
 replace j:=j.tr (m.ch noB) fun _ h=>False.elim h
 refine zQ9 ?_
 refine SG.of ?_
 refine SG.textR [ob (.pointer (some ⟨b0,0,none⟩)) (.box B0 154 zA1 p0)] (rR (.pointer (some ⟨b0,0,none⟩))::rI p1::[]) 2 Z Z Z (by kernel_rfl) (by kernel_rfl) (Wf.mk' (by kernel_rfl) (ur (ur (UAll.nil))) (by kernel_rfl) (by kernel_rfl)) q d (N) ?_ ?_
 exact rm h0<|rm h1<|rz
 intro done ρ σ A R w y s
 have z1:=s.inivR 0 Z
 have h5:=s.r y 0 Z
 have h6:=s.r y 1 Z
 replace B:=s.lowK B C K (q.geK (⟨.inr (fun k h=>.inr h),N⟩))
 replace j:Ch (zA9 (.pointer (some ⟨b0,0,none⟩))) w0 w:=j.tr s.ch (q.geK (⟨.inr (fun k h=>.inr h),N⟩))
 replace q:=s.left y [(0,ob (.pointer (some ⟨b0,0,none⟩)) (.box B0 154 zA1 p0))] ⟨Z,Z,z1,Z,Z,N⟩
 replace d:=s.avok
 obtain ⟨x2,q3,c⟩:=zA4 c
 have hFz:w0.heap.size≤w.heap.size:=j.size
 refine zQK 7 Z Z Z Z (zB1 call145 (zBd (q3 Z) d h5 (q.sub [(0,ob (.pointer (some ⟨b0,0,none⟩)) (.box B0 154 zA1 p0))] ⟨Z,Z,N⟩) h6)) ?_
 rintro v_ w ⟨A,hG1,hv⟩ R n hd
 have hst:=zAy d hG1 (q.ok 0 _ Z).2
 replace B:∀ b o,A0 b o→A b o:=zAs B C K (q.geK (⟨.inr (fun k h=>.inr h),N⟩)) 0 Z hG1
 replace j:Ch (zA9 (.pointer (some ⟨b0,0,none⟩))) w0 w:=j.tr hG1.ch (fun k hk=>(q.geK (⟨.inr (fun k h=>.inr h),N⟩)) k ⟨0,_,Z,hk⟩)
 replace q:=zQ1 q d 0 Z hG1
 replace d:=hG1.avok
 replace q:IniOK [ob (.pointer (some ⟨b0,0,none⟩)) (.box B0 154 zA1 x2.2)] A w:=q
 replace h5:=(n 5 Z).trans h5
 replace h6:=(n 6 Z).trans h6
 have h7:R 7 = .int .i64 x2.1:=hd.trans hv
 clear hFz hG1 hv n hd
 refine SG.textR [ob (.pointer (some ⟨b0,0,none⟩)) (.box B0 154 zA1 x2.2)] (rR (.pointer (some ⟨b0,0,none⟩))::rI p1::rI x2.1::rB (x2.1==0)::rB (x2.1==0)::[]) 5 Z Z Z (by kernel_rfl) (by kernel_rfl) (Wf.mk' (by kernel_rfl) (ur (ur (ur (ur (ur (UAll.nil)))))) (by kernel_rfl) (by kernel_rfl)) q d (⟨⟨Z,Z,Z,h5⟩,⟨⟨Z,Z,Z,h6⟩,⟨⟨Z,Z,Z,h7⟩,N⟩⟩⟩) ?_ ?_
 exact rp (fun V Q U O D=>zAo (D.g 0 Z) Z)<|ra<|rz
 intro done ρ σ A R w y s
 have z4:=s.inivR 0 Z
 have h4:=s.r y 4 Z
 replace B:=s.lowK B C K (q.geK (⟨.inr (fun k h=>.inr h),N⟩))
 replace j:Ch (zA9 (.pointer (some ⟨b0,0,none⟩))) w0 w:=j.tr s.ch (q.geK (⟨.inr (fun k h=>.inr h),N⟩))
 replace q:=s.left y [(0,ob (.pointer (some ⟨b0,0,none⟩)) (.box B0 154 zA1 x2.2))] ⟨Z,Z,z4,Z,Z,N⟩
 replace d:=s.avok
 refine zQJ Z ?_
 refine HT.ret ?_
 obtain rfl:=si c
 obtain ⟨A1,hA1,hG1⟩:=GPost.of q d B (q.geK (⟨.inr (fun k h=>.inr h),N⟩)) j
 exact ⟨.inr Z,[R 4],⟨Z,N⟩,A1,hG1,h4⟩
def zEJ (fu:Nat) (p0:zAI):Option zAI:=
 ck (zC2 (([]:List (List UInt8)).length+p0.2.2.2.length)) <|
 some (p0.1,p0.2.1,p0.2.2.1,(([]:List (List UInt8))++p0.2.2.2))
set_option linter.unusedSimpArgs false in
theorem zHr {fu : Nat} {A0 : Av} {p0 : zAI} {r : zAI} (c : zEJ fu p0 = some r) {w : World} {v0 : Value} (d : AvOK A0 w) (h0 : Rep zA0 A0 w v0 p0) :
 Calls prog 178 #[v0] w fun e w'=>∃ v,e = .returned v∧(zFT A0 (trR (geB w.heap.size) (oPr (oRd (eInt .i64)) (oPr (oRd (eInt .i64)) (oPr (oRd (eInt .i64)) (oSl 9 (oRd eStr))))) r []) (fun _=>.any) w v w'):=by
 unfold zEJ at c
 obtain ⟨w0,hw0,j,C⟩:=pw d
 have hA00:AvOK A0 w0:=C
 rw [show zFT A0 (trR (geB w.heap.size) (oPr (oRd (eInt .i64)) (oPr (oRd (eInt .i64)) (oPr (oRd (eInt .i64)) (oSl 9 (oRd eStr))))) r []) (fun _=>.any) w=zFT A0 (trR (geB w0.heap.size) (oPr (oRd (eInt .i64)) (oPr (oRd (eInt .i64)) (oPr (oRd (eInt .i64)) (oSl 9 (oRd eStr))))) r []) (fun _=>.any) w0 from hw0 ▸ Z]
 obtain ⟨A,hAe,B,d,q⟩:=pa d
 refine zA3 [.cell 2 51] func178 ntmps178 (by decide) Z Z (nb Z) ?_
 intro R hR
 have f_v0:Rep zA0 A w v0 p0:=hAe ▸ h0
 replace h0:R 0=v0:=hR 0 _ Z
 refine zQC [] (⟨_,true,[],some (.box w0.heap.size 51 zA0 p0),true,fun A=>.any⟩::⟨_,true,[],some (trR (geB w0.heap.size) (oPt 51 (oPr (oRd (eInt .i64)) (oPr (oRd (eInt .i64)) (oPr (oRd (eInt .i64)) (oSl 9 (oRd eStr)))))) (0,(0,(0,([]:List (List UInt8))))) []),true,fun A=>.any⟩::[]) (ua (ua (UAll.nil))) q d ?_ ?_
 exact rc (OblR.made _ Z Z Z Z fun V Q U O D=>by have a0:Q 0=v0:=(O.old 0 Z).trans h0;have ra0:=(f_v0.stp O.stp).eq a0;exact zEa ra0 (Nat.le_trans j.size O.ch.size))<|rc (zQG _ Z Z Z Z fun V Q U O D=>by exact zFm zeroValue51 (fun A w=>zFr (zEP zAY) (zFr (zEP zAY) (zFr (zEP zAY) zIW))) (fun k hk=>Nat.le_trans (Nat.le_trans j.size O.ch.size) hk))<|rz
 intro done ρ σ A R w y s
 obtain ⟨b1_0,e_b1_0⟩:=s.boxv y 0 Z Z
 have h1:=s.ov y 0 0 e_b1_0
 obtain ⟨u2,e_u2⟩:∃ u,ρ 1=u:=⟨_,Z⟩
 have h2:=s.ov y 1 1 e_u2
 obtain ⟨S3,eS_u2⟩:∃ S,σ 1=S:=⟨_,Z⟩
 obtain ⟨B,j,d⟩:=s.s B C j q N
 replace q:=s.left y [(0,ob (.pointer (some ⟨b1_0,0,none⟩)) (.box w0.heap.size 51 zA0 p0)),(1,⟨u2,S3,trR (geB w0.heap.size) (oPt 51 (oPr (oRd (eInt .i64)) (oPr (oRd (eInt .i64)) (oPr (oRd (eInt .i64)) (oSl 9 (oRd eStr)))))) (0,(0,(0,([]:List (List UInt8))))) []⟩)] ⟨Z,Z,e_b1_0,Z,Z,⟨Z,Z,e_u2,eS_u2,Z,N⟩⟩
 refine zQ9 ?_
 obtain ⟨e4,c⟩:=zA5 c
 refine zQ6 [ob (.pointer (some ⟨b1_0,0,none⟩)) (.box w0.heap.size 51 zA0 p0),⟨u2,S3,trR (geB w0.heap.size) (oPt 51 (oPr (oRd (eInt .i64)) (oPr (oRd (eInt .i64)) (oPr (oRd (eInt .i64)) (oSl 9 (oRd eStr)))))) (0,(0,(0,([]:List (List UInt8))))) []⟩] (rR (.pointer (some ⟨b1_0,0,none⟩))::rI p0.1::rR (.pointer (some ⟨b1_0,1,none⟩))::rI p0.2.1::rR (.pointer (some ⟨b1_0,2,none⟩))::rI p0.2.2.1::⟨_,true,[],some (.vec w0.heap.size 9 eStr ([]:List (List UInt8))),true,fun A=>.any⟩::rR (.pointer (some ⟨b1_0,3,none⟩))::(rF fun A=>.rep (eSl eStr) A p0.2.2.2)::⟨_,true,[8],some (.vec w0.heap.size 9 eStr (([]:List (List UInt8))++p0.2.2.2)),true,fun A=>.any⟩::⟨_,true,[11],some (trR (geB w0.heap.size) (oPr (oRd (eInt .i64)) (oPr (oRd (eInt .i64)) (oPr (oRd (eInt .i64)) (oSl 9 (oRd eStr))))) (p0.1,p0.2.1,p0.2.2.1,(([]:List (List UInt8))++p0.2.2.2)) []),true,fun A=>.any⟩::⟨_,true,[1,12],some (trR (geB w0.heap.size) (oPt 51 (oPr (oRd (eInt .i64)) (oPr (oRd (eInt .i64)) (oPr (oRd (eInt .i64)) (oSl 9 (oRd eStr)))))) (p0.1,p0.2.1,p0.2.2.1,(([]:List (List UInt8))++p0.2.2.2)) []),false,fun A=>.any⟩::[]) (by kernel_rfl) (by kernel_rfl) (by kernel_rfl) (Wf.mk' (by kernel_rfl) (ur (ur (ur (ur (ur (ur (ua (ur (up (ua (ua (ua (UAll.nil))))))))))))) (by kernel_rfl) (by kernel_rfl)) q d ?_ ?_
 exact rp (fun V Q U O D=>zAA ((O.old 1 Z).trans h1) zJK sizeOf3 (by decide) Z)<|rp (fun V Q U O D=>OpF.int (zAC (O.rd 0 _ Z Z) (D.g 0 Z) zEl Z isAgg3 sizeOf3))<|rp (fun V Q U O D=>zAA ((O.old 1 Z).trans h1) zJT sizeOf3 (by decide) Z)<|rp (fun V Q U O D=>OpF.int (zAC (O.rd 0 _ Z Z) (D.g 0 Z) zEj Z isAgg3 sizeOf3))<|rp (fun V Q U O D=>zAA ((O.old 1 Z).trans h1) zJD sizeOf3 (by decide) Z)<|rp (fun V Q U O D=>OpF.int (zAC (O.rd 0 _ Z Z) (D.g 0 Z) zEk Z isAgg3 sizeOf3))<|rc (OblR.made _ Z Z Z Z fun V Q U O D=>by exact zBW [] (E:=eStr) N underlying46 sizeOf9 zeroValue9 Z Z Z (Nat.le_trans j.size O.ch.size))<|rp (fun V Q U O D=>zAA ((O.old 1 Z).trans h1) zBs sizeOf46 (by decide) Z)<|rp (fun V Q U O D=>(zAC (O.rd 0 _ Z Z) (D.g 0 Z) zAS Z isAgg46 sizeOf46))<|rc (OblR.took 8 _ _ Z Z Z Z Z fun V Q U O D u X Y J L M=>by have a1:Rep (eSl eStr) V U (Q 11) p0.2.2.2:=D.g 1 Z;exact zAx (L _ _ Z Z Z Z).symm X Y (Nat.le_trans j.size O.ch.size) a1 underlying46 el_9 e4)<|rc (zQI 11 _ _ Z Z Z Z Z fun V Q U O D u S X I Y J L M=>by have a0:Q 4 = .int .i64 p0.1:=D.g 0 Z;have a1:Q 6 = .int .i64 p0.2.1:=D.g 1 Z;have a2:Q 8 = .int .i64 p0.2.2.1:=D.g 2 Z;obtain ⟨gc,ge,go⟩:=zH1 X I;obtain ⟨ga,gn,gk,rfl⟩:=zIJ go;have gx:Q 12 = .slice ga gn gk:=((L _ _ Z Z Z Z).symm).trans ge;exact zJz (v:=.agg #[.int .i64 p0.1,.int .i64 p0.2.1,.int .i64 p0.2.2.1,.slice ga gn gk]) (by simp [execOp,Instr.build,zAG,a0,a1,a2,gx,underlying,underlying51,zeroValue51,sizeOf3,sizeOf46,go_sem,Instr.fill]) ⟨⟨_,Z,zHh (zEP zAY) (zHh (zEP zAY) (zHh (zEP zAY) go))⟩,fun q hq=>by cases hq⟩ Y (zMH X I))<|rc (zQH 1 [12] _ Z Z Z Z fun V Q U O D ρ σ X Y J L M hdd=>by have a0:Q 2=u2:=(O.old 2 Z).trans h2;have k1:=X 1 (.head _) _ Z;have e0:=(J 1 (.head _) _ Z).1;rw [e0] at k1 ⊢;exact zGL Z (zAM k1.2.2).ptr (X 12 (.tail _ (.head _)) _ Z).2.2.1 (L 12 (.tail _ (.head _)) _ _ Z Z Z Z).symm a0 Y hdd k1.2.1 (X 12 (.tail _ (.head _)) _ Z).2.1 sizeOf51 (fun _ _ _ h=>h))<|rz
 intro done ρ σ A R w y s
 replace h2:=k1 s.rg h2
 have z5:=s.inivR 0 Z
 have z6:=s.inivR 1 Z
 have z7:=s.on y 13 11 Z Z Z Z Z z6
 obtain ⟨S8,eS_u2⟩:∃ S,σ 13=S:=⟨_,Z⟩
 obtain ⟨B,j,d⟩:=s.s B C j q ⟨Z,⟨fun _ h=>h,N⟩⟩
 replace q:=s.left y [(13,⟨u2,S8,trR (geB w0.heap.size) (oPt 51 (oPr (oRd (eInt .i64)) (oPr (oRd (eInt .i64)) (oPr (oRd (eInt .i64)) (oSl 9 (oRd eStr)))))) (p0.1,p0.2.1,p0.2.2.1,(([]:List (List UInt8))++p0.2.2.2)) []⟩)] ⟨Z,Z,z7,eS_u2,Z,N⟩
 refine HT.ret ?_
 obtain rfl:=si c
 obtain ⟨v_,e_,p_⟩:=zIi (T:=51) (f:=fun _=>.any) Z (q.own 0 _ Z) (q.ok 0 _ Z).2 B j h2 isAgg51 sizeOf51 (fun _ _=>N)
 exact ⟨.inr Z,[v_],⟨e_,N⟩,p_⟩
end Go.Proofs.YtcodfkieaoomnaaGreatDoor
