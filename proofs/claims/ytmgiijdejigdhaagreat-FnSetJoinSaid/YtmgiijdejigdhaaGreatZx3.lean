/- Own texts laid together. No statement of the seat is proved here. -/
import Derived.Test.YtmgiijdejigdhaaGreatZx2
namespace Go.Proofs.YtmgiijdejigdhaaGreat
open Go.RowKit
set_option linter.unusedVariables false
open _root_.Go.Proofs.Tryz
set_option maxRecDepth 100000
set_option maxHeartbeats 4000000
def zGk (fu:Nat) (p0:List Int):Option Bool:=
 some (decide (1048576<(p0.length:Int)))
theorem zJg {fu : Nat} {A : Av} {p0 : List Int} {r : Bool} (c : zGk fu p0 = some r) {w : World} {v0 : Value} (d : AvOK A w) (h0 : Rep (eSl (eInt .u8)) A w v0 p0) :
 Calls prog 4 #[v0] w fun e w'=>∃ v,e=.returned v/\(v=.bool r/\Fr w w'):=by
 unfold zGk at c
 obtain ⟨w0,hw0,j⟩:=pf w
 rw [fw hw0]
 refine zAB [.tmp 2] func4 ntmps4 (by decide) Z Z (nb Z) ?_
 intro R hR
 have f_v0:=h0
 replace h0:R 0=v0:=hR 0 _ Z
 refine zPR d j (eB false::[]) ?_ ?_
 exact op (fun Q U W H D=>zA6 Z)<|oz
 intro R w m n p d j
 replace h0:=k1 n h0
 replace f_v0:=f_v0.fr m
 refine zPR d j (eR v0::eI (p0.length:Int)::eB (decide (1048576<(p0.length:Int)))::eB (decide (1048576<(p0.length:Int)))::[]) ?_ ?_
 exact om h0<|op (fun Q U W H D=>zAN (aT:=#[]) ((f_v0.fr W).eq (D.g 0 Z)) underlying22)<|op (fun Q U W H D=>zEH (D.g 0 Z) Z)<|oa<|oz
 intro R w m n p d j
 have h2:=p.r 3 Z
 refine HT.ret ?_
 obtain rfl:=si c
 exact ⟨.inr Z,[R 2],⟨Z,N⟩,h2,j⟩
def zCu (fu : Nat) (p0 : List Int) : Nat -> Int -> Int -> Option Int
 | 0,_,_=>none
 | k+1,y5,y6=>
 bd ((decide (y6<(p0.length:Int)))&&(decide (y6<4000))) fun x7=>
 bif x7 then (
 ck (i64B (y5*131)) <|
 ck (inR y6 p0.length) <|
 ck (i64B ((y5*131)+(IntKind.i64.wrap (gtD p0 y6)))) <|
 ck (i64B (((y5*131)+(IntKind.i64.wrap (gtD p0 y6)))+7)) <|
 ck (i64B (y6+1)) <|
 zCu fu p0 k (bitI (fun u v=>u &&& v) .i64 (((y5*131)+(IntKind.i64.wrap (gtD p0 y6)))+7) 1073741823) (y6+1)
 ) else (
 some y5
 )
def zEG (fu:Nat) (p0:List Int):Option zAI:=
 ck (i64B (10101+(p0.length:Int))) <|
 cl true (zCu fu p0 fu (10101+(p0.length:Int)) 0) fun s4=>
 some (p0,0,s4)
set_option linter.unusedSimpArgs false in
theorem zGF {fu : Nat} {A0 : Av} {p0 : List Int} {r : zAI} (c : zEG fu p0 = some r) {w : World} {v0 : Value} (d : AvOK A0 w) (h0 : Rep (eSl (eInt .u8)) A0 w v0 p0) :
 Calls prog 19 #[v0] w fun e w'=>∃ v,e=.returned v/\(∃ (c0:Nat) (A1:Av),GPost A0 (fun _=>False) w [ob (.pointer (some ⟨c0,0,none⟩)) (.box w.heap.size 69 zA5 r)] A1 w'/\(Fact.raw (.pointer (some ⟨c0,0,none⟩))).ok v w'):=by
 unfold zEG at c
 obtain ⟨w0,hw0,j,C⟩:=pw d
 have hA00:AvOK A0 w0:=C
 rw [show GPost A0 (fun _=>False) w=GPost A0 (fun _=>False) w0 from by rw [hw0]]
 rw [show w.heap.size=w0.heap.size from by rw [hw0]]
 obtain ⟨A,hAe,B,d,q⟩:=pa d
 refine zAB [.tmp 2] func19 ntmps19 (by decide) Z Z (nb Z) ?_
 intro R hR
 have f_v0:Rep (eSl (eInt .u8)) A w v0 p0:=hAe ▸ h0
 replace h0:R 0=v0:=hR 0 _ Z
 refine zPR d j (eA::[]) ?_ ?_
 exact op (fun Q U W H D=>zA6 N)<|oz
 intro R w m n p d j
 replace h0:=k1 n h0
 replace f_v0:=f_v0.fr m
 replace q:=q.fr m
 obtain ⟨e1,c⟩:=zAG c
 refine zPR d j (eR v0::eI (p0.length:Int)::eI (10101+(p0.length:Int))::eI (10101+(p0.length:Int))::[]) ?_ ?_
 exact om h0<|op (fun Q U W H D=>zAN (aT:=#[]) ((f_v0.fr W).eq (D.g 0 Z)) underlying22)<|op (fun Q U W H D=>zAi Z (D.g 0 Z) e1)<|oa<|oz
 intro R w m n p d j
 replace h0:=k1 n h0
 have h3:=p.r 3 Z
 replace f_v0:=f_v0.fr m
 replace q:=q.fr m
 refine zPQ ?_
 refine zPR d j (eI 0::[]) ?_ ?_
 exact op (fun Q U W H D=>zA6 Z)<|oz
 intro R w m n p d j
 obtain ⟨h0,h3⟩:=k2 n h0 h3
 have h4:=p.r 0 Z
 replace f_v0:=f_v0.fr m
 replace q:=q.fr m
 obtain ⟨rl2,q3,c⟩:=zA9 c
 replace q3:=q3 Z
 refine zPL (fun R w=>∃ A:Av,∃ (s4:Int),rl2=s4/\AvOK A w/\Fr w0 w/\(∀ b o,A0 b o->A b o)/\IniOK [] A w/\R 0=v0/\R 3=.int .i64 s4/\Rep (eSl (eInt .u8)) A w v0 p0) ?_ ?_
 refine HT.block<|zPP (fun k R w=>∃ A:Av,∃ (y5:Int) (y6:Int),zCu fu p0 k y5 y6=some rl2/\AvOK A w/\Fr w0 w/\(∀ b o,A0 b o->A b o)/\IniOK [] A w/\R 0=v0/\R 3=.int .i64 y5/\R 4=.int .i64 y6/\Rep (eSl (eInt .u8)) A w v0 p0) fu ⟨_,_,_,q3,d,j,B,q,h0,h3,h4,f_v0⟩ ?_
 have hr0:=c;clear c q3
 rintro k R w ⟨A,y5,y6,c,d,j,B,q,h0,h3,h4,f_v0⟩
 rcases k with _ | k
 cases (show none=some _ from c)
 rw [zCu] at c
 refine zPQ ?_
 refine zPQ ?_
 obtain ⟨x7,q8,c⟩:=zAO c
 refine HT.u d j (eI y6::eR v0::eI (p0.length:Int)::eB (decide (y6<(p0.length:Int)))::eB (decide (y6<(p0.length:Int)))::gI (true&&((decide (y6<(p0.length:Int)))==true)) y6::gB (true&&((decide (y6<(p0.length:Int)))==true)) (decide (y6<4000))::eB x7::[]) ?_ ?_
 exact om h4<|om h0<|op (fun Q U W H D=>zAN (aT:=#[]) ((f_v0.fr W).eq (D.g 0 Z)) underlying22)<|op (fun Q U W H D=>zB8 (D.g 0 Z) (D.g 1 Z))<|ov<|gm 4 true h4<|og 4 true (fun G Q U W H D=>zB8 (D.h 0 G Z) Z)<|op (fun Q U W H D=>zAR (decide (y6<(p0.length:Int))) (D.g 0 Z) (fun hc=>by have a1:Q 14=.bool (decide (y6<4000)):=D 1 _ _ _ Z Z Z Z (zBJ Z (zAf hc));show _=Value.bool x7;rw [q8,hc];exact a1) (fun hc=>by show _=Value.bool x7;rw [q8,hc];exact Z))<|oz
 intro R w m n p d j
 obtain ⟨h0,h3,h4⟩:=k3 n h0 h3 h4
 have h15:=p.r 7 Z
 replace f_v0:=f_v0.fr m
 replace q:=q.fr m
 refine zPJ x7 h15 (fun c9=>?_) (fun c9=>?_)
 have c:=zAe c9 c
 refine HT.skip<|zPQ ?_
 refine HT.block ?_
 obtain ⟨e10,e11,e12,e13,c⟩:=ck4 c
 refine HT.u d j (eI y5::eI (y5*131)::eR v0::eI y6::eF (.qtr (eInt .u8) A (gtD p0 y6))::eU (gtD p0 y6)::eI (IntKind.i64.wrap (gtD p0 y6))::eI ((y5*131)+(IntKind.i64.wrap (gtD p0 y6)))::eI (((y5*131)+(IntKind.i64.wrap (gtD p0 y6)))+7)::eI (bitI (fun u v=>u &&& v) .i64 (((y5*131)+(IntKind.i64.wrap (gtD p0 y6)))+7) 1073741823)::eI (bitI (fun u v=>u &&& v) .i64 (((y5*131)+(IntKind.i64.wrap (gtD p0 y6)))+7) 1073741823)::[]) ?_ ?_
 exact om h3<|op (fun Q U W H D=>zFx (D.g 0 Z) Z e10)<|om h0<|om h4<|op (fun Q U W H D=>zAC ((f_v0.fr W).eq (D.g 0 Z)) (D.g 1 Z) underlying22 sizeOf5 e11)<|op (fun Q U W H D=>OpF.int (zAT (QRep.ptr (D.g 0 Z)) isAgg5 sizeOf5))<|op (fun Q U W H D=>zFh (D.g 0 Z) underlying5 underlying3)<|op (fun Q U W H D=>zAi (D.g 0 Z) (D.g 1 Z) e12)<|op (fun Q U W H D=>zAi (D.g 0 Z) Z e13)<|op (fun Q U W H D=>zND (D.g 0 Z) Z)<|oa<|oz
 intro R w m n p d j
 obtain ⟨h0,h4⟩:=k2 n h0 h4
 have h3:=p.r 10 Z
 replace f_v0:=f_v0.fr m
 replace q:=q.fr m
 obtain ⟨e14,c⟩:=zAG c
 refine HT.u d j (eI y6::eI (y6+1)::eI (y6+1)::[]) ?_ ?_
 exact om h4<|op (fun Q U W H D=>zAi (D.g 0 Z) Z e14)<|oa<|oz
 intro R w m n p d j
 obtain ⟨h0,h3⟩:=k2 n h0 h3
 have h4:=p.r 2 Z
 replace f_v0:=f_v0.fr m
 replace q:=q.fr m
 exact ei k (And.intro (Nat.lt_succ_self k) ⟨_,_,_,c,d,j,B,q,h0,h3,h4,f_v0⟩)
 have c:=zAd c9 c
 refine zPO ?_
 obtain rfl:=si c
 exact ei _ ⟨_,Z,d,j,B,q,h0,h3,f_v0⟩
 rintro R w ⟨A,s4,es,d,j,B,q,h0,h3,f_v0⟩
 obtain rfl:=es.symm
 refine zPQ ?_
 refine SG.of<|SG.textR [] (rR v0::rI s4::(rF fun A=>.rep zA5 A (p0,0,s4))::⟨_,true,[],some (.box w0.heap.size 69 zA5 (p0,0,s4)),true,fun A=>.any⟩::[]) 4 Z Z Z (by kernel_rfl) (by kernel_rfl) (Wf.mk' (by kernel_rfl) (ur (ur (up (ua (UAll.nil))))) (by kernel_rfl) (by kernel_rfl)) q d (N) ?_ ?_
 exact rm h0<|rm h3<|rp (fun V Q U O D=>by have a1:Q 29=.int .i64 s4:=D.g 1 Z;obtain ⟨c15a,c15n,c15c,c15,c15r⟩:=zF7 ((f_v0.stp O.stp).eq (D.g 0 Z));exact zDn (v:=.agg #[.slice c15a c15n c15c,.int .i64 0,.int .i64 s4]) (by simp [execOp,Instr.build,zAL,c15,a1,underlying,underlying69,zeroValue69,sizeOf22,sizeOf3,go_sem,Instr.fill]) ⟨_,Z,zCo c15r (zCo zAm zAm)⟩)<|rc (OblR.made _ Z Z Z Z fun V Q U O D=>by have a0:Rep zA5 V U (Q 30) (p0,0,s4):=D.g 0 Z;exact zD0 a0 (Nat.le_trans j.size O.ch.size))<|rz
 intro done ρ σ A R w y s
 obtain ⟨b31_15,e_b31_15⟩:=s.boxv y 3 Z Z
 have h31:=s.ov y 3 3 e_b31_15
 obtain ⟨B,j,d⟩:=s.s B C j q N
 replace q:=s.left y [(3,ob (.pointer (some ⟨b31_15,0,none⟩)) (.box w0.heap.size 69 zA5 (p0,0,s4)))] ⟨Z,Z,e_b31_15,Z,Z,N⟩
 refine SG.textR [ob (.pointer (some ⟨b31_15,0,none⟩)) (.box w0.heap.size 69 zA5 (p0,0,s4))] (rA::rA::rA::rR (.pointer (some ⟨b31_15,0,none⟩))::rR (.pointer (some ⟨b31_15,0,none⟩))::[]) 5 Z Z Z (by kernel_rfl) (by kernel_rfl) (Wf.mk' (by kernel_rfl) (ua (ua (ua (ur (ur (UAll.nil)))))) (by kernel_rfl) (by kernel_rfl)) q d (⟨⟨Z,Z,Z,N⟩,⟨⟨Z,Z,Z,N⟩,⟨⟨Z,Z,Z,N⟩,⟨⟨Z,Z,Z,h31⟩,N⟩⟩⟩⟩) ?_ ?_
 exact ra<|rz
 intro done ρ σ A R w y s
 have z17:=s.inivR 0 Z
 have h2:=s.r y 4 Z
 obtain ⟨B,j,d⟩:=s.s B C j q ⟨Z,N⟩
 replace q:=s.left y [(0,ob (.pointer (some ⟨b31_15,0,none⟩)) (.box w0.heap.size 69 zA5 (p0,0,s4)))] ⟨Z,Z,z17,Z,Z,N⟩
 refine zPa Z ?_
 refine HT.ret ?_
 obtain rfl:=si c
 obtain ⟨A1,hA1,hG1⟩:=GPost.of q d B (fun k hk=>.inl (q.ge (⟨Z,N⟩) k hk)) (j.ch (fun _=>False))
 exact ⟨.inr Z,[R 2],⟨Z,N⟩,b31_15,A1,hG1,h2⟩
def zCj (fu:Nat) (p0:zAI):Option (Int × zAI):=
 ck (decide (0<=33)) <|
 ck (decide (0<=45)) <|
 bif (decide ((p0.1,p0.2.1,(IntKind.i64.wrap ((IntKind.i64.wrap (p0.2.2*6364136223846793005))+1442695040888963407))).2.1<((p0.1,p0.2.1,(IntKind.i64.wrap ((IntKind.i64.wrap (p0.2.2*6364136223846793005))+1442695040888963407))).1.length:Int))) then (
 ck (inR (p0.1,p0.2.1,(IntKind.i64.wrap ((IntKind.i64.wrap (p0.2.2*6364136223846793005))+1442695040888963407))).2.1 (p0.1,p0.2.1,(IntKind.i64.wrap ((IntKind.i64.wrap (p0.2.2*6364136223846793005))+1442695040888963407))).1.length) <|
 some ((bitI (fun u v=>u &&& v) .i64 (IntKind.i64.wrap ((bitI (fun u v=>u &&& v) .i64 (bitI (fun u v=>u ^^^ v) .i64 ((p0.1,p0.2.1,(IntKind.i64.wrap ((IntKind.i64.wrap (p0.2.2*6364136223846793005))+1442695040888963407))).2.2 / 2 ^ min (33:Int).toNat 64) ((p0.1,p0.2.1,(IntKind.i64.wrap ((IntKind.i64.wrap (p0.2.2*6364136223846793005))+1442695040888963407))).2.2 / 2 ^ min (45:Int).toNat 64)) 255)+(IntKind.i64.wrap (gtD (p0.1,p0.2.1,(IntKind.i64.wrap ((IntKind.i64.wrap (p0.2.2*6364136223846793005))+1442695040888963407))).1 (p0.1,p0.2.1,(IntKind.i64.wrap ((IntKind.i64.wrap (p0.2.2*6364136223846793005))+1442695040888963407))).2.1)))) 255),((p0.1,p0.2.1,(IntKind.i64.wrap ((IntKind.i64.wrap (p0.2.2*6364136223846793005))+1442695040888963407))).1,(IntKind.i64.wrap ((p0.1,p0.2.1,(IntKind.i64.wrap ((IntKind.i64.wrap (p0.2.2*6364136223846793005))+1442695040888963407))).2.1+1)),(p0.1,p0.2.1,(IntKind.i64.wrap ((IntKind.i64.wrap (p0.2.2*6364136223846793005))+1442695040888963407))).2.2))
 ) else (
 some ((bitI (fun u v=>u &&& v) .i64 (bitI (fun u v=>u ^^^ v) .i64 ((p0.1,p0.2.1,(IntKind.i64.wrap ((IntKind.i64.wrap (p0.2.2*6364136223846793005))+1442695040888963407))).2.2 / 2 ^ min (33:Int).toNat 64) ((p0.1,p0.2.1,(IntKind.i64.wrap ((IntKind.i64.wrap (p0.2.2*6364136223846793005))+1442695040888963407))).2.2 / 2 ^ min (45:Int).toNat 64)) 255),(p0.1,p0.2.1,(IntKind.i64.wrap ((IntKind.i64.wrap (p0.2.2*6364136223846793005))+1442695040888963407))))
 )
theorem zDZ {fu : Nat} {Aq : Av} {p0 : zAI} {r : Int × zAI} (c : zCj fu p0 = some r) {w : World} {v0 : Value} {b0 B0 : Nat} (d : AvOK Aq w) (h0 : v0=.pointer (some ⟨b0, 0, none⟩)) (hO0 : IniOK [ob (.pointer (some ⟨b0, 0, none⟩)) (.box B0 69 zA5 p0)] Aq w) :
 Calls prog 73 #[v0] w fun e w'=>∃ v,e=.returned v/\(∃ (A1:Av),GPost (subS Aq (zAE (.pointer (some ⟨b0,0,none⟩)))) (zAE (.pointer (some ⟨b0,0,none⟩))) w [ob (.pointer (some ⟨b0,0,none⟩)) (.box B0 69 zA5 r.2)] A1 w'/\(Fact.raw (.int .i64 r.1)).ok v w'):=by
 unfold zCj at c
 obtain ⟨w0,hw0⟩:∃ w0,w0=w:=⟨_,Z⟩
 have j:Ch (zAE (.pointer (some ⟨b0,0,none⟩))) w0 w:=hw0 ▸ Ch.refl _ _
 obtain ⟨A0,hA0e⟩:∃ A0,A0=subS Aq (zAE (.pointer (some ⟨b0,0,none⟩))):=⟨_,Z⟩
 have C:∀ b o,A0 b o->b<w0.heap.size:=fun b o h=>hw0 ▸ d b o (hA0e ▸ h:subS Aq _ b o).1
 have K:∀ b o,A0 b o->¬ (zAE (.pointer (some ⟨b0,0,none⟩))) b:=fun b o h=>(hA0e ▸ h:subS Aq _ b o).2
 have hA00:AvOK A0 w0:=C
 rw [show GPost (subS Aq (zAE (.pointer (some ⟨b0,0,none⟩)))) (zAE (.pointer (some ⟨b0,0,none⟩))) w=GPost A0 (zAE (.pointer (some ⟨b0,0,none⟩))) w0 from by rw [hA0e,hw0]]
 obtain ⟨A,hAe⟩:∃ A,A=Aq:=⟨_,Z⟩
 have B:∀ b o,A0 b o->A b o:=fun b o h=>hAe ▸ (hA0e ▸ h:subS Aq _ b o).1
 replace d:AvOK A w:=hAe ▸ d
 have q:IniOK [ob (.pointer (some ⟨b0,0,none⟩)) (.box B0 69 zA5 p0)] A w:=hAe ▸ hO0
 clear hA0e hO0
 refine zAB [.tmp 2] func73 ntmps73 (by decide) Z Z (nb Z) ?_
 intro R hR
 replace h0:R 0=.pointer (some ⟨b0,0,none⟩):=(hR 0 _ Z).trans h0
 refine zPQ ?_
 refine zPT (eI 0::[]) ?_ ?_
 exact op (fun Q U W H D=>zA6 Z)<|oz
 intro R w m n p
 replace h0:=k1 n h0
 replace q:=q.fr m
 replace d:=d.fr m.size
 replace j:=j.tr (m.ch noB) fun _ h=>False.elim h
 refine zPS [ob (.pointer (some ⟨b0,0,none⟩)) (.box B0 69 zA5 p0)] (rR (.pointer (some ⟨b0,0,none⟩))::rR (.pointer (some ⟨b0,0,none⟩))::rR (.pointer (some ⟨b0,0,none⟩))::rR (.pointer (some ⟨b0,2,none⟩))::rI p0.2.2::rI (IntKind.i64.wrap (p0.2.2*6364136223846793005))::rI (IntKind.i64.wrap ((IntKind.i64.wrap (p0.2.2*6364136223846793005))+1442695040888963407))::rR (.pointer (some ⟨b0,0,none⟩))::rR (.pointer (some ⟨b0,2,none⟩))::⟨_,true,[0],some (.box B0 69 zA5 (p0.1,p0.2.1,(IntKind.i64.wrap ((IntKind.i64.wrap (p0.2.2*6364136223846793005))+1442695040888963407)))),false,fun A=>.any⟩::[]) (ur (ur (ur (ur (ur (ur (ur (ur (ur (ua (UAll.nil))))))))))) q d ?_ ?_
 exact rm h0<|rm h0<|rp (fun V Q U O D=>zDL (D.g 0 Z))<|rp (fun V Q U O D=>zA8 (D.g 0 Z) zJr sizeOf3 (by decide) Z)<|rp (fun V Q U O D=>OpF.int (zAA (O.rd 0 _ Z Z) (D.g 0 Z) zFD Z isAgg3 sizeOf3))<|rp (fun V Q U O D=>zNi (D.g 0 Z) Z)<|rp (fun V Q U O D=>zIE (D.g 0 Z) Z)<|rp (fun V Q U O D=>zDL (D.g 0 Z))<|rp (fun V Q U O D=>zA8 (D.g 0 Z) zJr sizeOf3 (by decide) Z)<|rc (OblR.took 0 _ _ Z Z Z Z Z fun V Q U O D u X Y J L M=>by have a0:Q 12=(.pointer (some ⟨b0,2,none⟩)):=D.g 0 Z;have a1:Q 10=.int .i64 (IntKind.i64.wrap ((IntKind.i64.wrap (p0.2.2*6364136223846793005))+1442695040888963407)):=D.g 1 Z;exact zBX (zBa.eq a1) a0 (J _ Z) X Y zIt sizeOf3 Z)<|rz
 intro done ρ σ A R w y s
 replace h0:=k1 s.rg h0
 have z1:=s.inivR 0 Z
 have z2:=s.on y 10 9 Z Z Z Z Z z1
 replace B:=s.lowK B C K (q.geK (⟨.inr (fun k h=>.inr h),N⟩))
 replace j:Ch (zAE (.pointer (some ⟨b0,0,none⟩))) w0 w:=j.tr s.ch (q.geK (⟨.inr (fun k h=>.inr h),N⟩))
 replace q:=s.left y [(10,ob (.pointer (some ⟨b0,0,none⟩)) (.box B0 69 zA5 (p0.1,p0.2.1,(IntKind.i64.wrap ((IntKind.i64.wrap (p0.2.2*6364136223846793005))+1442695040888963407)))))] ⟨Z,Z,z2,Z,Z,N⟩
 replace d:=s.avok
 obtain ⟨Yg2,g_Yg2⟩:∃ z:zAI,z=(p0.1,p0.2.1,(IntKind.i64.wrap ((IntKind.i64.wrap (p0.2.2*6364136223846793005))+1442695040888963407))):=⟨_,Z⟩
 rw [<- g_Yg2] at q
 try rw [<- g_Yg2] at c
 refine zPQ ?_
 obtain ⟨e4,e5,c⟩:=ck2 c
 refine zPM (by kernel_rfl) (l:=eR (.pointer (some ⟨b0,0,none⟩))::eR (.pointer (some ⟨b0,0,none⟩))::eR (.pointer (some ⟨b0,2,none⟩))::eI Yg2.2.2::eI (Yg2.2.2 / 2 ^ min (33:Int).toNat 64)::eR (.pointer (some ⟨b0,0,none⟩))::eR (.pointer (some ⟨b0,0,none⟩))::eR (.pointer (some ⟨b0,2,none⟩))::eI Yg2.2.2::eI (Yg2.2.2 / 2 ^ min (45:Int).toNat 64)::eI (bitI (fun u v=>u ^^^ v) .i64 (Yg2.2.2 / 2 ^ min (33:Int).toNat 64) (Yg2.2.2 / 2 ^ min (45:Int).toNat 64))::eI (bitI (fun u v=>u &&& v) .i64 (bitI (fun u v=>u ^^^ v) .i64 (Yg2.2.2 / 2 ^ min (33:Int).toNat 64) (Yg2.2.2 / 2 ^ min (45:Int).toNat 64)) 255)::eI (bitI (fun u v=>u &&& v) .i64 (bitI (fun u v=>u ^^^ v) .i64 (Yg2.2.2 / 2 ^ min (33:Int).toNat 64) (Yg2.2.2 / 2 ^ min (45:Int).toNat 64)) 255)::[]) (tl:=[]) (by kernel_rfl) (by kernel_rfl) (by kernel_rfl) (by kernel_rfl) ?_ ?_
 exact om h0<|op (fun Q U W H D=>zDL (D.g 0 Z))<|op (fun Q U W H D=>zA8 (D.g 0 Z) zJr sizeOf3 (by decide) Z)<|op (fun Q U W H D=>OpF.int (zAA ((q.fr W).ok 0 _ Z).1 (D.g 0 Z) zFD Z isAgg3 sizeOf3))<|op (fun Q U W H D=>zMG (D.g 0 Z) Z e4)<|om h0<|op (fun Q U W H D=>zDL (D.g 0 Z))<|op (fun Q U W H D=>zA8 (D.g 0 Z) zJr sizeOf3 (by decide) Z)<|op (fun Q U W H D=>OpF.int (zAA ((q.fr W).ok 0 _ Z).1 (D.g 0 Z) zFD Z isAgg3 sizeOf3))<|op (fun Q U W H D=>zMG (D.g 0 Z) Z e5)<|op (fun Q U W H D=>zP8 (D.g 0 Z) (D.g 1 Z))<|op (fun Q U W H D=>zND (D.g 0 Z) Z)<|oa<|oz
 intro R w m n p
 replace h0:=k1 n h0
 have h3:=p.r 12 Z
 replace q:=q.fr m
 replace d:=d.fr m.size
 replace j:=j.tr (m.ch noB) fun _ h=>False.elim h
 refine zPQ ?_
 refine zPQ ?_
 refine zPM (by kernel_rfl) (l:=eR (.pointer (some ⟨b0,0,none⟩))::eR (.pointer (some ⟨b0,0,none⟩))::eR (.pointer (some ⟨b0,1,none⟩))::eI Yg2.2.1::eR (.pointer (some ⟨b0,0,none⟩))::eR (.pointer (some ⟨b0,0,none⟩))::eR (.pointer (some ⟨b0,0,none⟩))::eF (.rep (eSl (eInt .u8)) A Yg2.1)::eI (Yg2.1.length:Int)::eB (decide (Yg2.2.1<(Yg2.1.length:Int)))::[]) (tl:=[]) (by kernel_rfl) (by kernel_rfl) (by kernel_rfl) (by kernel_rfl) ?_ ?_
 exact om h0<|op (fun Q U W H D=>zDL (D.g 0 Z))<|op (fun Q U W H D=>zA8 (D.g 0 Z) zJX sizeOf3 (by decide) Z)<|op (fun Q U W H D=>OpF.int (zAA ((q.fr W).ok 0 _ Z).1 (D.g 0 Z) zFC Z isAgg3 sizeOf3))<|om h0<|op (fun Q U W H D=>zDL (D.g 0 Z))<|op (fun Q U W H D=>zA8 (D.g 0 Z) zMX sizeOf22 (by decide) Z)<|op (fun Q U W H D=>(zAA ((q.fr W).ok 0 _ Z).1 (D.g 0 Z) zGG Z isAgg22 sizeOf22))<|op (fun Q U W H D=>zAN (aT:=#[]) (D.g 0 Z) underlying22)<|op (fun Q U W H D=>zB8 (D.g 0 Z) (D.g 1 Z))<|oz
 intro R w m n p
 obtain ⟨h0,h3⟩:=k2 n h0 h3
 have h34:=p.r 9 Z
 replace q:=q.fr m
 replace d:=d.fr m.size
 replace j:=j.tr (m.ch noB) fun _ h=>False.elim h
 refine zPJ (decide (Yg2.2.1<(Yg2.1.length:Int))) h34 (fun c6=>?_) (fun c6=>?_)
 have c:=zAe c6 c
 refine zPQ ?_
 obtain ⟨e7,c⟩:=zAG c
 refine zPM (by kernel_rfl) (l:=eI (bitI (fun u v=>u &&& v) .i64 (bitI (fun u v=>u ^^^ v) .i64 (Yg2.2.2 / 2 ^ min (33:Int).toNat 64) (Yg2.2.2 / 2 ^ min (45:Int).toNat 64)) 255)::eR (.pointer (some ⟨b0,0,none⟩))::eR (.pointer (some ⟨b0,0,none⟩))::eR (.pointer (some ⟨b0,0,none⟩))::eF (.rep (eSl (eInt .u8)) A Yg2.1)::eR (.pointer (some ⟨b0,0,none⟩))::eR (.pointer (some ⟨b0,0,none⟩))::eR (.pointer (some ⟨b0,1,none⟩))::eI Yg2.2.1::eF (.qtr (eInt .u8) A (gtD Yg2.1 Yg2.2.1))::eU (gtD Yg2.1 Yg2.2.1)::eI (IntKind.i64.wrap (gtD Yg2.1 Yg2.2.1))::eI (IntKind.i64.wrap ((bitI (fun u v=>u &&& v) .i64 (bitI (fun u v=>u ^^^ v) .i64 (Yg2.2.2 / 2 ^ min (33:Int).toNat 64) (Yg2.2.2 / 2 ^ min (45:Int).toNat 64)) 255)+(IntKind.i64.wrap (gtD Yg2.1 Yg2.2.1))))::eI (bitI (fun u v=>u &&& v) .i64 (IntKind.i64.wrap ((bitI (fun u v=>u &&& v) .i64 (bitI (fun u v=>u ^^^ v) .i64 (Yg2.2.2 / 2 ^ min (33:Int).toNat 64) (Yg2.2.2 / 2 ^ min (45:Int).toNat 64)) 255)+(IntKind.i64.wrap (gtD Yg2.1 Yg2.2.1)))) 255)::eI (bitI (fun u v=>u &&& v) .i64 (IntKind.i64.wrap ((bitI (fun u v=>u &&& v) .i64 (bitI (fun u v=>u ^^^ v) .i64 (Yg2.2.2 / 2 ^ min (33:Int).toNat 64) (Yg2.2.2 / 2 ^ min (45:Int).toNat 64)) 255)+(IntKind.i64.wrap (gtD Yg2.1 Yg2.2.1)))) 255)::[]) (tl:=[]) (by kernel_rfl) (by kernel_rfl) (by kernel_rfl) (by kernel_rfl) ?_ ?_
 exact om h3<|om h0<|op (fun Q U W H D=>zDL (D.g 0 Z))<|op (fun Q U W H D=>zA8 (D.g 0 Z) zMX sizeOf22 (by decide) Z)<|op (fun Q U W H D=>(zAA ((q.fr W).ok 0 _ Z).1 (D.g 0 Z) zGG Z isAgg22 sizeOf22))<|om h0<|op (fun Q U W H D=>zDL (D.g 0 Z))<|op (fun Q U W H D=>zA8 (D.g 0 Z) zJX sizeOf3 (by decide) Z)<|op (fun Q U W H D=>OpF.int (zAA ((q.fr W).ok 0 _ Z).1 (D.g 0 Z) zFC Z isAgg3 sizeOf3))<|op (fun Q U W H D=>zAC (D.g 0 Z) (D.g 1 Z) underlying22 sizeOf5 e7)<|op (fun Q U W H D=>OpF.int (zAT (QRep.ptr (D.g 0 Z)) isAgg5 sizeOf5))<|op (fun Q U W H D=>zFh (D.g 0 Z) underlying5 underlying3)<|op (fun Q U W H D=>zIE (D.g 0 Z) (D.g 1 Z))<|op (fun Q U W H D=>zND (D.g 0 Z) Z)<|oa<|oz
 intro R w m n p
 replace h0:=k1 n h0
 have h3:=p.r 14 Z
 replace q:=q.fr m
 replace d:=d.fr m.size
 replace j:=j.tr (m.ch noB) fun _ h=>False.elim h
 refine zPV [ob (.pointer (some ⟨b0,0,none⟩)) (.box B0 69 zA5 Yg2)] (rR (.pointer (some ⟨b0,0,none⟩))::rR (.pointer (some ⟨b0,0,none⟩))::rR (.pointer (some ⟨b0,0,none⟩))::rR (.pointer (some ⟨b0,1,none⟩))::rI Yg2.2.1::rI (IntKind.i64.wrap (Yg2.2.1+1))::rR (.pointer (some ⟨b0,0,none⟩))::rR (.pointer (some ⟨b0,1,none⟩))::⟨_,true,[0],some (.box B0 69 zA5 (Yg2.1,(IntKind.i64.wrap (Yg2.2.1+1)),Yg2.2.2)),false,fun A=>.any⟩::[]) (ur (ur (ur (ur (ur (ur (ur (ur (ua (UAll.nil)))))))))) q d ?_ ?_
 exact rm h0<|rm h0<|rp (fun V Q U O D=>zDL (D.g 0 Z))<|rp (fun V Q U O D=>zA8 (D.g 0 Z) zJX sizeOf3 (by decide) Z)<|rp (fun V Q U O D=>OpF.int (zAA (O.rd 0 _ Z Z) (D.g 0 Z) zFC Z isAgg3 sizeOf3))<|rp (fun V Q U O D=>zIE (D.g 0 Z) Z)<|rp (fun V Q U O D=>zDL (D.g 0 Z))<|rp (fun V Q U O D=>zA8 (D.g 0 Z) zJX sizeOf3 (by decide) Z)<|rc (OblR.took 0 _ _ Z Z Z Z Z fun V Q U O D u X Y J L M=>by have a0:Q 56=(.pointer (some ⟨b0,1,none⟩)):=D.g 0 Z;have a1:Q 54=.int .i64 (IntKind.i64.wrap (Yg2.2.1+1)):=D.g 1 Z;exact zBX (zBa.eq a1) a0 (J _ Z) X Y zIL sizeOf3 Z)<|rz
 intro done ρ σ A R w y s
 replace h3:=k1 s.rg h3
 have z8:=s.inivR 0 Z
 have z9:=s.on y 9 8 Z Z Z Z Z z8
 replace B:=s.lowK B C K (q.geK (⟨.inr (fun k h=>.inr h),N⟩))
 replace j:Ch (zAE (.pointer (some ⟨b0,0,none⟩))) w0 w:=j.tr s.ch (q.geK (⟨.inr (fun k h=>.inr h),N⟩))
 replace q:=s.left y [(9,ob (.pointer (some ⟨b0,0,none⟩)) (.box B0 69 zA5 (Yg2.1,(IntKind.i64.wrap (Yg2.2.1+1)),Yg2.2.2)))] ⟨Z,Z,z9,Z,Z,N⟩
 replace d:=s.avok
 refine zPQ ?_
 refine zPT (eI (bitI (fun u v=>u &&& v) .i64 (IntKind.i64.wrap ((bitI (fun u v=>u &&& v) .i64 (bitI (fun u v=>u ^^^ v) .i64 (Yg2.2.2 / 2 ^ min (33:Int).toNat 64) (Yg2.2.2 / 2 ^ min (45:Int).toNat 64)) 255)+(IntKind.i64.wrap (gtD Yg2.1 Yg2.2.1)))) 255)::eI (bitI (fun u v=>u &&& v) .i64 (IntKind.i64.wrap ((bitI (fun u v=>u &&& v) .i64 (bitI (fun u v=>u ^^^ v) .i64 (Yg2.2.2 / 2 ^ min (33:Int).toNat 64) (Yg2.2.2 / 2 ^ min (45:Int).toNat 64)) 255)+(IntKind.i64.wrap (gtD Yg2.1 Yg2.2.1)))) 255)::[]) ?_ ?_
 exact om h3<|oa<|oz
 intro R w m n p
 have h2:=p.r 1 Z
 replace q:=q.fr m
 replace d:=d.fr m.size
 replace j:=j.tr (m.ch noB) fun _ h=>False.elim h
 refine HT.ret ?_
 obtain rfl:=si c
 obtain ⟨A1,hA1,hG1⟩:=GPost.of q d B (q.geK (⟨.inr (fun k h=>.inr h),N⟩)) j
 exact ⟨.inr Z,[R 2],⟨Z,N⟩,A1,hG1,h2⟩
 have c:=zAd c6 c
 refine HT.skip<|zPQ ?_
 refine zPT (eI (bitI (fun u v=>u &&& v) .i64 (bitI (fun u v=>u ^^^ v) .i64 (Yg2.2.2 / 2 ^ min (33:Int).toNat 64) (Yg2.2.2 / 2 ^ min (45:Int).toNat 64)) 255)::eI (bitI (fun u v=>u &&& v) .i64 (bitI (fun u v=>u ^^^ v) .i64 (Yg2.2.2 / 2 ^ min (33:Int).toNat 64) (Yg2.2.2 / 2 ^ min (45:Int).toNat 64)) 255)::[]) ?_ ?_
 exact om h3<|oa<|oz
 intro R w m n p
 have h2:=p.r 1 Z
 replace q:=q.fr m
 replace d:=d.fr m.size
 replace j:=j.tr (m.ch noB) fun _ h=>False.elim h
 refine HT.ret ?_
 obtain rfl:=si c
 obtain ⟨A1,hA1,hG1⟩:=GPost.of q d B (q.geK (⟨.inr (fun k h=>.inr h),N⟩)) j
 exact ⟨.inr Z,[R 2],⟨Z,N⟩,A1,hG1,h2⟩
def zBh (fu:Nat) (p0:zAI) (p1:Int):Option (Int × zAI):=
 bif (decide (p1<=0)) then (
 some (0,p0)
 ) else (
 bif (decide (p1<=256)) then (
 cl true (zCj fu p0) fun x4=>
 ck (p1 != 0) <|
 some ((x4.1.tmod p1),x4.2)
 ) else (
 cl true (zCj fu p0) fun x9=>
 cl true (zCj fu x9.2) fun x13=>
 cl true (zCj fu x13.2) fun x17=>
 cl true (zCj fu x17.2) fun x21=>
 ck (i64B (x9.1*16777216)) <|
 ck (i64B (x13.1*65536)) <|
 ck (i64B ((x9.1*16777216)+(x13.1*65536))) <|
 ck (i64B (x17.1*256)) <|
 ck (i64B (((x9.1*16777216)+(x13.1*65536))+(x17.1*256))) <|
 ck (i64B ((((x9.1*16777216)+(x13.1*65536))+(x17.1*256))+x21.1)) <|
 ck (p1 != 0) <|
 some ((((((x9.1*16777216)+(x13.1*65536))+(x17.1*256))+x21.1).tmod p1),x21.2)
 )
 )
theorem zC2 {fu : Nat} {Aq : Av} {p0 : zAI} {p1 : Int} {r : Int × zAI} (c : zBh fu p0 p1 = some r) {w : World} {v0 : Value} {v1 : Value} {b0 B0 : Nat} (d : AvOK Aq w) (h0 : v0=.pointer (some ⟨b0, 0, none⟩)) (hO0 : IniOK [ob (.pointer (some ⟨b0, 0, none⟩)) (.box B0 69 zA5 p0)] Aq w) (h1 : v1=.int .i64 p1) :
 Calls prog 46 #[v0,v1] w fun e w'=>∃ v,e=.returned v/\(∃ (A1:Av),GPost (subS Aq (zAE (.pointer (some ⟨b0,0,none⟩)))) (zAE (.pointer (some ⟨b0,0,none⟩))) w [ob (.pointer (some ⟨b0,0,none⟩)) (.box B0 69 zA5 r.2)] A1 w'/\(Fact.raw (.int .i64 r.1)).ok v w'):=by
 unfold zBh at c
 obtain ⟨w0,hw0⟩:∃ w0,w0=w:=⟨_,Z⟩
 have j:Ch (zAE (.pointer (some ⟨b0,0,none⟩))) w0 w:=hw0 ▸ Ch.refl _ _
 obtain ⟨A0,hA0e⟩:∃ A0,A0=subS Aq (zAE (.pointer (some ⟨b0,0,none⟩))):=⟨_,Z⟩
 have C:∀ b o,A0 b o->b<w0.heap.size:=fun b o h=>hw0 ▸ d b o (hA0e ▸ h:subS Aq _ b o).1
 have K:∀ b o,A0 b o->¬ (zAE (.pointer (some ⟨b0,0,none⟩))) b:=fun b o h=>(hA0e ▸ h:subS Aq _ b o).2
 have hA00:AvOK A0 w0:=C
 rw [show GPost (subS Aq (zAE (.pointer (some ⟨b0,0,none⟩)))) (zAE (.pointer (some ⟨b0,0,none⟩))) w=GPost A0 (zAE (.pointer (some ⟨b0,0,none⟩))) w0 from by rw [hA0e,hw0]]
 obtain ⟨A,hAe⟩:∃ A,A=Aq:=⟨_,Z⟩
 have B:∀ b o,A0 b o->A b o:=fun b o h=>hAe ▸ (hA0e ▸ h:subS Aq _ b o).1
 replace d:AvOK A w:=hAe ▸ d
 have q:IniOK [ob (.pointer (some ⟨b0,0,none⟩)) (.box B0 69 zA5 p0)] A w:=hAe ▸ hO0
 clear hA0e hO0
 refine zAB [.tmp 4] func46 ntmps46 (by decide) Z Z (nb Z) ?_
 intro R hR
 replace h0:R 0=.pointer (some ⟨b0,0,none⟩):=(hR 0 _ Z).trans h0
 replace h1:R 1=.int .i64 p1:=(hR 1 _ Z).trans h1
 refine zPQ ?_
 refine zPT (eI 0::[]) ?_ ?_
 exact op (fun Q U W H D=>zA6 Z)<|oz
 intro R w m n p
 obtain ⟨h0,h1⟩:=k2 n h0 h1
 replace q:=q.fr m
 replace d:=d.fr m.size
 replace j:=j.tr (m.ch noB) fun _ h=>False.elim h
 refine zPQ ?_
 refine zPQ ?_
 refine zPT (eI p1::eB (decide (p1<=0))::[]) ?_ ?_
 exact om h1<|op (fun Q U W H D=>zGL (D.g 0 Z) Z)<|oz
 intro R w m n p
 obtain ⟨h0,h1⟩:=k2 n h0 h1
 have h10:=p.r 1 Z
 replace q:=q.fr m
 replace d:=d.fr m.size
 replace j:=j.tr (m.ch noB) fun _ h=>False.elim h
 refine zPJ (decide (p1<=0)) h10 (fun c1=>?_) (fun c1=>?_)
 have c:=zAe c1 c
 refine zPQ ?_
 refine zPT (eI 0::[]) ?_ ?_
 exact op (fun Q U W H D=>zA6 Z)<|oz
 intro R w m n p
 have h4:=p.r 0 Z
 replace q:=q.fr m
 replace d:=d.fr m.size
 replace j:=j.tr (m.ch noB) fun _ h=>False.elim h
 refine HT.ret ?_
 obtain rfl:=si c
 obtain ⟨A1,hA1,hG1⟩:=GPost.of q d B (q.geK (⟨.inr (fun k h=>.inr h),N⟩)) j
 exact ⟨.inr Z,[R 4],⟨Z,N⟩,A1,hG1,h4⟩
 have c:=zAd c1 c
 refine HT.skip<|zPQ ?_
 refine zPQ ?_
 refine zPT (eI p1::eB (decide (p1<=256))::[]) ?_ ?_
 exact om h1<|op (fun Q U W H D=>zGL (D.g 0 Z) Z)<|oz
 intro R w m n p
 obtain ⟨h0,h1⟩:=k2 n h0 h1
 have h12:=p.r 1 Z
 replace q:=q.fr m
 replace d:=d.fr m.size
 replace j:=j.tr (m.ch noB) fun _ h=>False.elim h
 refine zPJ (decide (p1<=256)) h12 (fun c2=>?_) (fun c2=>?_)
 have c:=zAe c2 c
 refine zPQ ?_
 refine SG.of<|SG.textR [ob (.pointer (some ⟨b0,0,none⟩)) (.box B0 69 zA5 p0)] (rR (.pointer (some ⟨b0,0,none⟩))::[]) 1 Z Z Z (by kernel_rfl) (by kernel_rfl) (Wf.mk' (by kernel_rfl) (ur (UAll.nil)) (by kernel_rfl) (by kernel_rfl)) q d (N) ?_ ?_
 exact rm h0<|rz
 intro done ρ σ A R w y s
 replace h1:=k1 s.rg h1
 have z3:=s.inivR 0 Z
 have h13:=s.r y 0 Z
 replace B:=s.lowK B C K (q.geK (⟨.inr (fun k h=>.inr h),N⟩))
 replace j:Ch (zAE (.pointer (some ⟨b0,0,none⟩))) w0 w:=j.tr s.ch (q.geK (⟨.inr (fun k h=>.inr h),N⟩))
 replace q:=s.left y [(0,ob (.pointer (some ⟨b0,0,none⟩)) (.box B0 69 zA5 p0))] ⟨Z,Z,z3,Z,Z,N⟩
 replace d:=s.avok
 obtain ⟨x4,q5,c⟩:=zA9 c
 have hFz:w0.heap.size<=w.heap.size:=j.size
 refine SG.op 14 Z Z Z Z (zB7 call73 (zDZ (q5 Z) d h13 (q.sub [(0,ob (.pointer (some ⟨b0,0,none⟩)) (.box B0 69 zA5 p0))] ⟨Z,Z,N⟩))) ?_
 rintro v_ w ⟨A,hG1,hv⟩ R n hd
 have hst:=zBO d hG1 (q.ok 0 _ Z).2
 replace B:∀ b o,A0 b o->A b o:=zBl B C K (q.geK (⟨.inr (fun k h=>.inr h),N⟩)) 0 Z hG1
 replace j:Ch (zAE (.pointer (some ⟨b0,0,none⟩))) w0 w:=j.tr hG1.ch (fun k hk=>(q.geK (⟨.inr (fun k h=>.inr h),N⟩)) k ⟨0,_,Z,hk⟩)
 replace q:=zPH q d 0 Z hG1
 replace d:=hG1.avok
 replace q:IniOK [ob (.pointer (some ⟨b0,0,none⟩)) (.box B0 69 zA5 x4.2)] A w:=q
 replace h1:=(n 1 Z).trans h1
 replace h13:=(n 13 Z).trans h13
 have h14:R 14=.int .i64 x4.1:=hd.trans hv
 clear hFz hG1 hv n hd
 obtain ⟨e6,c⟩:=zAG c
 refine SG.textR [ob (.pointer (some ⟨b0,0,none⟩)) (.box B0 69 zA5 x4.2)] (rR (.pointer (some ⟨b0,0,none⟩))::rI x4.1::rI p1::rI (x4.1.tmod p1)::rI (x4.1.tmod p1)::[]) 5 Z Z Z (by kernel_rfl) (by kernel_rfl) (Wf.mk' (by kernel_rfl) (ur (ur (ur (ur (ur (UAll.nil)))))) (by kernel_rfl) (by kernel_rfl)) q d (⟨⟨Z,Z,Z,h13⟩,⟨⟨Z,Z,Z,h14⟩,N⟩⟩) ?_ ?_
 exact rm h1<|rp (fun V Q U O D=>zNl (D.g 0 Z) (D.g 1 Z) e6)<|ra<|rz
 intro done ρ σ A R w y s
 have z7:=s.inivR 0 Z
 have h4:=s.r y 4 Z
 replace B:=s.lowK B C K (q.geK (⟨.inr (fun k h=>.inr h),N⟩))
 replace j:Ch (zAE (.pointer (some ⟨b0,0,none⟩))) w0 w:=j.tr s.ch (q.geK (⟨.inr (fun k h=>.inr h),N⟩))
 replace q:=s.left y [(0,ob (.pointer (some ⟨b0,0,none⟩)) (.box B0 69 zA5 x4.2))] ⟨Z,Z,z7,Z,Z,N⟩
 replace d:=s.avok
 refine zPa Z ?_
 refine HT.ret ?_
 obtain rfl:=si c
 obtain ⟨A1,hA1,hG1⟩:=GPost.of q d B (q.geK (⟨.inr (fun k h=>.inr h),N⟩)) j
 exact ⟨.inr Z,[R 4],⟨Z,N⟩,A1,hG1,h4⟩
 have c:=zAd c2 c
 refine HT.skip<|zPQ ?_
 refine SG.of<|SG.textR [ob (.pointer (some ⟨b0,0,none⟩)) (.box B0 69 zA5 p0)] (rR (.pointer (some ⟨b0,0,none⟩))::[]) 1 Z Z Z (by kernel_rfl) (by kernel_rfl) (Wf.mk' (by kernel_rfl) (ur (UAll.nil)) (by kernel_rfl) (by kernel_rfl)) q d (N) ?_ ?_
 exact rm h0<|rz
 intro done ρ σ A R w y s
 obtain ⟨h0,h1⟩:=k2 s.rg h0 h1
 have z8:=s.inivR 0 Z
 have h17:=s.r y 0 Z
 replace B:=s.lowK B C K (q.geK (⟨.inr (fun k h=>.inr h),N⟩))
 replace j:Ch (zAE (.pointer (some ⟨b0,0,none⟩))) w0 w:=j.tr s.ch (q.geK (⟨.inr (fun k h=>.inr h),N⟩))
 replace q:=s.left y [(0,ob (.pointer (some ⟨b0,0,none⟩)) (.box B0 69 zA5 p0))] ⟨Z,Z,z8,Z,Z,N⟩
 replace d:=s.avok
 obtain ⟨x9,q10,c⟩:=zA9 c
 have hFz:w0.heap.size<=w.heap.size:=j.size
 refine SG.op 18 Z Z Z Z (zB7 call73 (zDZ (q10 Z) d h17 (q.sub [(0,ob (.pointer (some ⟨b0,0,none⟩)) (.box B0 69 zA5 p0))] ⟨Z,Z,N⟩))) ?_
 rintro v_ w ⟨A,hG1,hv⟩ R n hd
 have hst:=zBO d hG1 (q.ok 0 _ Z).2
 replace B:∀ b o,A0 b o->A b o:=zBl B C K (q.geK (⟨.inr (fun k h=>.inr h),N⟩)) 0 Z hG1
 replace j:Ch (zAE (.pointer (some ⟨b0,0,none⟩))) w0 w:=j.tr hG1.ch (fun k hk=>(q.geK (⟨.inr (fun k h=>.inr h),N⟩)) k ⟨0,_,Z,hk⟩)
 replace q:=zPH q d 0 Z hG1
 replace d:=hG1.avok
 replace q:IniOK [ob (.pointer (some ⟨b0,0,none⟩)) (.box B0 69 zA5 x9.2)] A w:=q
 replace h0:=(n 0 Z).trans h0
 replace h1:=(n 1 Z).trans h1
 replace h17:=(n 17 Z).trans h17
 have h18:R 18=.int .i64 x9.1:=hd.trans hv
 clear hFz hG1 hv n hd
 refine SG.textR [ob (.pointer (some ⟨b0,0,none⟩)) (.box B0 69 zA5 x9.2)] (rR (.pointer (some ⟨b0,0,none⟩))::rI x9.1::rI x9.1::[]) 3 Z Z Z (by kernel_rfl) (by kernel_rfl) (Wf.mk' (by kernel_rfl) (ur (ur (ur (UAll.nil)))) (by kernel_rfl) (by kernel_rfl)) q d (⟨⟨Z,Z,Z,h17⟩,⟨⟨Z,Z,Z,h18⟩,N⟩⟩) ?_ ?_
 exact ra<|rz
 intro done ρ σ A R w y s
 obtain ⟨h0,h1⟩:=k2 s.rg h0 h1
 have z11:=s.inivR 0 Z
 have h5:=s.r y 2 Z
 replace B:=s.lowK B C K (q.geK (⟨.inr (fun k h=>.inr h),N⟩))
 replace j:Ch (zAE (.pointer (some ⟨b0,0,none⟩))) w0 w:=j.tr s.ch (q.geK (⟨.inr (fun k h=>.inr h),N⟩))
 replace q:=s.left y [(0,ob (.pointer (some ⟨b0,0,none⟩)) (.box B0 69 zA5 x9.2))] ⟨Z,Z,z11,Z,Z,N⟩
 replace d:=s.avok
 refine zPa Z ?_
 refine zPQ ?_
 refine SG.of<|SG.textR [ob (.pointer (some ⟨b0,0,none⟩)) (.box B0 69 zA5 x9.2)] (rR (.pointer (some ⟨b0,0,none⟩))::[]) 1 Z Z Z (by kernel_rfl) (by kernel_rfl) (Wf.mk' (by kernel_rfl) (ur (UAll.nil)) (by kernel_rfl) (by kernel_rfl)) q d (N) ?_ ?_
 exact rm h0<|rz
 intro done ρ σ A R w y s
 obtain ⟨h0,h1,h5⟩:=k3 s.rg h0 h1 h5
 have z12:=s.inivR 0 Z
 have h19:=s.r y 0 Z
 replace B:=s.lowK B C K (q.geK (⟨.inr (fun k h=>.inr h),N⟩))
 replace j:Ch (zAE (.pointer (some ⟨b0,0,none⟩))) w0 w:=j.tr s.ch (q.geK (⟨.inr (fun k h=>.inr h),N⟩))
 replace q:=s.left y [(0,ob (.pointer (some ⟨b0,0,none⟩)) (.box B0 69 zA5 x9.2))] ⟨Z,Z,z12,Z,Z,N⟩
 replace d:=s.avok
 obtain ⟨x13,q14,c⟩:=zA9 c
 have hFz:w0.heap.size<=w.heap.size:=j.size
 refine SG.op 20 Z Z Z Z (zB7 call73 (zDZ (q14 Z) d h19 (q.sub [(0,ob (.pointer (some ⟨b0,0,none⟩)) (.box B0 69 zA5 x9.2))] ⟨Z,Z,N⟩))) ?_
 rintro v_ w ⟨A,hG1,hv⟩ R n hd
 have hst:=zBO d hG1 (q.ok 0 _ Z).2
 replace B:∀ b o,A0 b o->A b o:=zBl B C K (q.geK (⟨.inr (fun k h=>.inr h),N⟩)) 0 Z hG1
 replace j:Ch (zAE (.pointer (some ⟨b0,0,none⟩))) w0 w:=j.tr hG1.ch (fun k hk=>(q.geK (⟨.inr (fun k h=>.inr h),N⟩)) k ⟨0,_,Z,hk⟩)
 replace q:=zPH q d 0 Z hG1
 replace d:=hG1.avok
 replace q:IniOK [ob (.pointer (some ⟨b0,0,none⟩)) (.box B0 69 zA5 x13.2)] A w:=q
 replace h0:=(n 0 Z).trans h0
 replace h1:=(n 1 Z).trans h1
 replace h5:=(n 5 Z).trans h5
 replace h19:=(n 19 Z).trans h19
 have h20:R 20=.int .i64 x13.1:=hd.trans hv
 clear hFz hG1 hv n hd
 refine SG.textR [ob (.pointer (some ⟨b0,0,none⟩)) (.box B0 69 zA5 x13.2)] (rR (.pointer (some ⟨b0,0,none⟩))::rI x13.1::rI x13.1::[]) 3 Z Z Z (by kernel_rfl) (by kernel_rfl) (Wf.mk' (by kernel_rfl) (ur (ur (ur (UAll.nil)))) (by kernel_rfl) (by kernel_rfl)) q d (⟨⟨Z,Z,Z,h19⟩,⟨⟨Z,Z,Z,h20⟩,N⟩⟩) ?_ ?_
 exact ra<|rz
 intro done ρ σ A R w y s
 obtain ⟨h0,h1,h5⟩:=k3 s.rg h0 h1 h5
 have z15:=s.inivR 0 Z
 have h6:=s.r y 2 Z
 replace B:=s.lowK B C K (q.geK (⟨.inr (fun k h=>.inr h),N⟩))
 replace j:Ch (zAE (.pointer (some ⟨b0,0,none⟩))) w0 w:=j.tr s.ch (q.geK (⟨.inr (fun k h=>.inr h),N⟩))
 replace q:=s.left y [(0,ob (.pointer (some ⟨b0,0,none⟩)) (.box B0 69 zA5 x13.2))] ⟨Z,Z,z15,Z,Z,N⟩
 replace d:=s.avok
 refine zPa Z ?_
 refine zPQ ?_
 refine SG.of<|SG.textR [ob (.pointer (some ⟨b0,0,none⟩)) (.box B0 69 zA5 x13.2)] (rR (.pointer (some ⟨b0,0,none⟩))::[]) 1 Z Z Z (by kernel_rfl) (by kernel_rfl) (Wf.mk' (by kernel_rfl) (ur (UAll.nil)) (by kernel_rfl) (by kernel_rfl)) q d (N) ?_ ?_
 exact rm h0<|rz
 intro done ρ σ A R w y s
 obtain ⟨h0,h1,h5,h6⟩:=k4 s.rg h0 h1 h5 h6
 have z16:=s.inivR 0 Z
 have h21:=s.r y 0 Z
 replace B:=s.lowK B C K (q.geK (⟨.inr (fun k h=>.inr h),N⟩))
 replace j:Ch (zAE (.pointer (some ⟨b0,0,none⟩))) w0 w:=j.tr s.ch (q.geK (⟨.inr (fun k h=>.inr h),N⟩))
 replace q:=s.left y [(0,ob (.pointer (some ⟨b0,0,none⟩)) (.box B0 69 zA5 x13.2))] ⟨Z,Z,z16,Z,Z,N⟩
 replace d:=s.avok
 obtain ⟨x17,q18,c⟩:=zA9 c
 have hFz:w0.heap.size<=w.heap.size:=j.size
 refine SG.op 22 Z Z Z Z (zB7 call73 (zDZ (q18 Z) d h21 (q.sub [(0,ob (.pointer (some ⟨b0,0,none⟩)) (.box B0 69 zA5 x13.2))] ⟨Z,Z,N⟩))) ?_
 rintro v_ w ⟨A,hG1,hv⟩ R n hd
 have hst:=zBO d hG1 (q.ok 0 _ Z).2
 replace B:∀ b o,A0 b o->A b o:=zBl B C K (q.geK (⟨.inr (fun k h=>.inr h),N⟩)) 0 Z hG1
 replace j:Ch (zAE (.pointer (some ⟨b0,0,none⟩))) w0 w:=j.tr hG1.ch (fun k hk=>(q.geK (⟨.inr (fun k h=>.inr h),N⟩)) k ⟨0,_,Z,hk⟩)
 replace q:=zPH q d 0 Z hG1
 replace d:=hG1.avok
 replace q:IniOK [ob (.pointer (some ⟨b0,0,none⟩)) (.box B0 69 zA5 x17.2)] A w:=q
 replace h0:=(n 0 Z).trans h0
 replace h1:=(n 1 Z).trans h1
 replace h5:=(n 5 Z).trans h5
 replace h6:=(n 6 Z).trans h6
 replace h21:=(n 21 Z).trans h21
 have h22:R 22=.int .i64 x17.1:=hd.trans hv
 clear hFz hG1 hv n hd
 refine SG.textR [ob (.pointer (some ⟨b0,0,none⟩)) (.box B0 69 zA5 x17.2)] (rR (.pointer (some ⟨b0,0,none⟩))::rI x17.1::rI x17.1::[]) 3 Z Z Z (by kernel_rfl) (by kernel_rfl) (Wf.mk' (by kernel_rfl) (ur (ur (ur (UAll.nil)))) (by kernel_rfl) (by kernel_rfl)) q d (⟨⟨Z,Z,Z,h21⟩,⟨⟨Z,Z,Z,h22⟩,N⟩⟩) ?_ ?_
 exact ra<|rz
 intro done ρ σ A R w y s
 obtain ⟨h0,h1,h5,h6⟩:=k4 s.rg h0 h1 h5 h6
 have z19:=s.inivR 0 Z
 have h7:=s.r y 2 Z
 replace B:=s.lowK B C K (q.geK (⟨.inr (fun k h=>.inr h),N⟩))
 replace j:Ch (zAE (.pointer (some ⟨b0,0,none⟩))) w0 w:=j.tr s.ch (q.geK (⟨.inr (fun k h=>.inr h),N⟩))
 replace q:=s.left y [(0,ob (.pointer (some ⟨b0,0,none⟩)) (.box B0 69 zA5 x17.2))] ⟨Z,Z,z19,Z,Z,N⟩
 replace d:=s.avok
 refine zPa Z ?_
 refine zPQ ?_
 refine SG.of<|SG.textR [ob (.pointer (some ⟨b0,0,none⟩)) (.box B0 69 zA5 x17.2)] (rR (.pointer (some ⟨b0,0,none⟩))::[]) 1 Z Z Z (by kernel_rfl) (by kernel_rfl) (Wf.mk' (by kernel_rfl) (ur (UAll.nil)) (by kernel_rfl) (by kernel_rfl)) q d (N) ?_ ?_
 exact rm h0<|rz
 intro done ρ σ A R w y s
 obtain ⟨h1,h5,h6,h7⟩:=k4 s.rg h1 h5 h6 h7
 have z20:=s.inivR 0 Z
 have h23:=s.r y 0 Z
 replace B:=s.lowK B C K (q.geK (⟨.inr (fun k h=>.inr h),N⟩))
 replace j:Ch (zAE (.pointer (some ⟨b0,0,none⟩))) w0 w:=j.tr s.ch (q.geK (⟨.inr (fun k h=>.inr h),N⟩))
 replace q:=s.left y [(0,ob (.pointer (some ⟨b0,0,none⟩)) (.box B0 69 zA5 x17.2))] ⟨Z,Z,z20,Z,Z,N⟩
 replace d:=s.avok
 obtain ⟨x21,q22,c⟩:=zA9 c
 have hFz:w0.heap.size<=w.heap.size:=j.size
 refine SG.op 24 Z Z Z Z (zB7 call73 (zDZ (q22 Z) d h23 (q.sub [(0,ob (.pointer (some ⟨b0,0,none⟩)) (.box B0 69 zA5 x17.2))] ⟨Z,Z,N⟩))) ?_
 rintro v_ w ⟨A,hG1,hv⟩ R n hd
 have hst:=zBO d hG1 (q.ok 0 _ Z).2
 replace B:∀ b o,A0 b o->A b o:=zBl B C K (q.geK (⟨.inr (fun k h=>.inr h),N⟩)) 0 Z hG1
 replace j:Ch (zAE (.pointer (some ⟨b0,0,none⟩))) w0 w:=j.tr hG1.ch (fun k hk=>(q.geK (⟨.inr (fun k h=>.inr h),N⟩)) k ⟨0,_,Z,hk⟩)
 replace q:=zPH q d 0 Z hG1
 replace d:=hG1.avok
 replace q:IniOK [ob (.pointer (some ⟨b0,0,none⟩)) (.box B0 69 zA5 x21.2)] A w:=q
 replace h1:=(n 1 Z).trans h1
 replace h5:=(n 5 Z).trans h5
 replace h6:=(n 6 Z).trans h6
 replace h7:=(n 7 Z).trans h7
 replace h23:=(n 23 Z).trans h23
 have h24:R 24=.int .i64 x21.1:=hd.trans hv
 clear hFz hG1 hv n hd
 refine SG.textR [ob (.pointer (some ⟨b0,0,none⟩)) (.box B0 69 zA5 x21.2)] (rR (.pointer (some ⟨b0,0,none⟩))::rI x21.1::rI x21.1::[]) 3 Z Z Z (by kernel_rfl) (by kernel_rfl) (Wf.mk' (by kernel_rfl) (ur (ur (ur (UAll.nil)))) (by kernel_rfl) (by kernel_rfl)) q d (⟨⟨Z,Z,Z,h23⟩,⟨⟨Z,Z,Z,h24⟩,N⟩⟩) ?_ ?_
 exact ra<|rz
 intro done ρ σ A R w y s
 obtain ⟨h1,h5,h6,h7⟩:=k4 s.rg h1 h5 h6 h7
 have z23:=s.inivR 0 Z
 have h8:=s.r y 2 Z
 replace B:=s.lowK B C K (q.geK (⟨.inr (fun k h=>.inr h),N⟩))
 replace j:Ch (zAE (.pointer (some ⟨b0,0,none⟩))) w0 w:=j.tr s.ch (q.geK (⟨.inr (fun k h=>.inr h),N⟩))
 replace q:=s.left y [(0,ob (.pointer (some ⟨b0,0,none⟩)) (.box B0 69 zA5 x21.2))] ⟨Z,Z,z23,Z,Z,N⟩
 replace d:=s.avok
 refine zPa Z ?_
 refine zPQ ?_
 obtain ⟨e24,e25,e26,e27,c⟩:=ck4 c
 obtain ⟨e28,e29,e30,c⟩:=ck3 c
 refine zPT (eI x9.1::eI (x9.1*16777216)::eI x13.1::eI (x13.1*65536)::eI ((x9.1*16777216)+(x13.1*65536))::eI x17.1::eI (x17.1*256)::eI (((x9.1*16777216)+(x13.1*65536))+(x17.1*256))::eI x21.1::eI ((((x9.1*16777216)+(x13.1*65536))+(x17.1*256))+x21.1)::eI p1::eI (((((x9.1*16777216)+(x13.1*65536))+(x17.1*256))+x21.1).tmod p1)::eI (((((x9.1*16777216)+(x13.1*65536))+(x17.1*256))+x21.1).tmod p1)::[]) ?_ ?_
 exact om h5<|op (fun Q U W H D=>zFx (D.g 0 Z) Z e24)<|om h6<|op (fun Q U W H D=>zFx (D.g 0 Z) Z e25)<|op (fun Q U W H D=>zAi (D.g 0 Z) (D.g 1 Z) e26)<|om h7<|op (fun Q U W H D=>zFx (D.g 0 Z) Z e27)<|op (fun Q U W H D=>zAi (D.g 0 Z) (D.g 1 Z) e28)<|om h8<|op (fun Q U W H D=>zAi (D.g 0 Z) (D.g 1 Z) e29)<|om h1<|op (fun Q U W H D=>zNl (D.g 0 Z) (D.g 1 Z) e30)<|oa<|oz
 intro R w m n p
 have h4:=p.r 12 Z
 replace q:=q.fr m
 replace d:=d.fr m.size
 replace j:=j.tr (m.ch noB) fun _ h=>False.elim h
 refine HT.ret ?_
 obtain rfl:=si c
 obtain ⟨A1,hA1,hG1⟩:=GPost.of q d B (q.geK (⟨.inr (fun k h=>.inr h),N⟩)) j
 exact ⟨.inr Z,[R 4],⟨Z,N⟩,A1,hG1,h4⟩
def zDW (fu:Nat) (p0:zAI) (p1:List (List UInt8)):Option ((List UInt8) × zAI):=
 cl true (zBh fu p0 (p1.length:Int)) fun x2=>
 ck (inR x2.1 p1.length) <|
 some ((gtD p1 x2.1),x2.2)
theorem zFz {fu : Nat} {Aq : Av} {p0 : zAI} {p1 : List (List UInt8)} {r : (List UInt8) × zAI} (c : zDW fu p0 p1 = some r) {w : World} {v0 : Value} {v1 : Value} {b0 B0 : Nat} (d : AvOK Aq w) (h0 : v0=.pointer (some ⟨b0, 0, none⟩)) (hO0 : IniOK [ob (.pointer (some ⟨b0, 0, none⟩)) (.box B0 69 zA5 p0)] Aq w) (h1 : Rep (eSl eStr) Aq w v1 p1) :
 Calls prog 49 #[v0,v1] w fun e w'=>∃ v,e=.returned v/\(∃ (A1:Av),GPost (subS Aq (zAE (.pointer (some ⟨b0,0,none⟩)))) (zAE (.pointer (some ⟨b0,0,none⟩))) w [ob (.pointer (some ⟨b0,0,none⟩)) (.box B0 69 zA5 r.2)] A1 w'/\(Fact.rep eStr A1 r.1).ok v w'):=by
 unfold zDW at c
 obtain ⟨w0,hw0⟩:∃ w0,w0=w:=⟨_,Z⟩
 have j:Ch (zAE (.pointer (some ⟨b0,0,none⟩))) w0 w:=hw0 ▸ Ch.refl _ _
 obtain ⟨A0,hA0e⟩:∃ A0,A0=subS Aq (zAE (.pointer (some ⟨b0,0,none⟩))):=⟨_,Z⟩
 have C:∀ b o,A0 b o->b<w0.heap.size:=fun b o h=>hw0 ▸ d b o (hA0e ▸ h:subS Aq _ b o).1
 have K:∀ b o,A0 b o->¬ (zAE (.pointer (some ⟨b0,0,none⟩))) b:=fun b o h=>(hA0e ▸ h:subS Aq _ b o).2
 have hA00:AvOK A0 w0:=C
 rw [show GPost (subS Aq (zAE (.pointer (some ⟨b0,0,none⟩)))) (zAE (.pointer (some ⟨b0,0,none⟩))) w=GPost A0 (zAE (.pointer (some ⟨b0,0,none⟩))) w0 from by rw [hA0e,hw0]]
 obtain ⟨A,hAe⟩:∃ A,A=Aq:=⟨_,Z⟩
 have B:∀ b o,A0 b o->A b o:=fun b o h=>hAe ▸ (hA0e ▸ h:subS Aq _ b o).1
 replace d:AvOK A w:=hAe ▸ d
 have q:IniOK [ob (.pointer (some ⟨b0,0,none⟩)) (.box B0 69 zA5 p0)] A w:=hAe ▸ hO0
 clear hA0e hO0
 refine zAB [.tmp 4] func49 ntmps49 (by decide) Z Z (nb Z) ?_
 intro R hR
 replace h0:R 0=.pointer (some ⟨b0,0,none⟩):=(hR 0 _ Z).trans h0
 have f_v1:Rep (eSl eStr) A w v1 p1:=hAe ▸ h1
 replace h1:R 1=v1:=hR 1 _ Z
 refine zPQ ?_
 refine zPT (eF (.rep eStr A ([]:List UInt8))::[]) ?_ ?_
 exact op (fun Q U W H D=>zA6 ⟨_,Z,⟨_,Z,Z,by decide⟩⟩)<|oz
 intro R w m n p
 obtain ⟨h0,h1⟩:=k2 n h0 h1
 replace f_v1:=f_v1.fr m
 replace q:=q.fr m
 replace d:=d.fr m.size
 replace j:=j.tr (m.ch noB) fun _ h=>False.elim h
 refine zPQ ?_
 refine SG.of<|SG.textR [ob (.pointer (some ⟨b0,0,none⟩)) (.box B0 69 zA5 p0)] (rR v1::rR (.pointer (some ⟨b0,0,none⟩))::rR v1::rI (p1.length:Int)::[]) 4 Z Z Z (by kernel_rfl) (by kernel_rfl) (Wf.mk' (by kernel_rfl) (ur (ur (ur (ur (UAll.nil))))) (by kernel_rfl) (by kernel_rfl)) q d (N) ?_ ?_
 exact rm h1<|rm h0<|rm h1<|rp (fun V Q U O D=>zAN (aT:=#[]) ((f_v1.stp O.stp).eq (D.g 0 Z)) underlying28)<|rz
 intro done ρ σ A R w y s
 have z1:=s.inivR 0 Z
 have h5:=s.r y 0 Z
 have h6:=s.r y 1 Z
 have h8:=s.r y 3 Z
 replace f_v1:=f_v1.stp s.stp
 replace B:=s.lowK B C K (q.geK (⟨.inr (fun k h=>.inr h),N⟩))
 replace j:Ch (zAE (.pointer (some ⟨b0,0,none⟩))) w0 w:=j.tr s.ch (q.geK (⟨.inr (fun k h=>.inr h),N⟩))
 replace q:=s.left y [(0,ob (.pointer (some ⟨b0,0,none⟩)) (.box B0 69 zA5 p0))] ⟨Z,Z,z1,Z,Z,N⟩
 replace d:=s.avok
 obtain ⟨x2,q3,c⟩:=zA9 c
 have hFz:w0.heap.size<=w.heap.size:=j.size
 refine SG.op 9 Z Z Z Z (zB7 call46 (zC2 (q3 Z) d h6 (q.sub [(0,ob (.pointer (some ⟨b0,0,none⟩)) (.box B0 69 zA5 p0))] ⟨Z,Z,N⟩) h8)) ?_
 rintro v_ w ⟨A,hG1,hv⟩ R n hd
 have hst:=zBO d hG1 (q.ok 0 _ Z).2
 replace B:∀ b o,A0 b o->A b o:=zBl B C K (q.geK (⟨.inr (fun k h=>.inr h),N⟩)) 0 Z hG1
 replace j:Ch (zAE (.pointer (some ⟨b0,0,none⟩))) w0 w:=j.tr hG1.ch (fun k hk=>(q.geK (⟨.inr (fun k h=>.inr h),N⟩)) k ⟨0,_,Z,hk⟩)
 replace q:=zPH q d 0 Z hG1
 replace d:=hG1.avok
 replace q:IniOK [ob (.pointer (some ⟨b0,0,none⟩)) (.box B0 69 zA5 x2.2)] A w:=q
 replace h5:=(n 5 Z).trans h5
 replace h6:=(n 6 Z).trans h6
 replace h8:=(n 8 Z).trans h8
 replace f_v1:=f_v1.stp hst
 have h9:R 9=.int .i64 x2.1:=hd.trans hv
 clear hFz hG1 hv n hd
 obtain ⟨e4,c⟩:=zAG c
 refine SG.textR [ob (.pointer (some ⟨b0,0,none⟩)) (.box B0 69 zA5 x2.2)] (rR v1::rR (.pointer (some ⟨b0,0,none⟩))::rA::rI (p1.length:Int)::rI x2.1::(rF fun A=>.qtr eStr A (gtD p1 x2.1))::(rF fun A=>.rep eStr A (gtD p1 x2.1))::(rF fun A=>.rep eStr A (gtD p1 x2.1))::[]) 8 Z Z Z (by kernel_rfl) (by kernel_rfl) (Wf.mk' (by kernel_rfl) (ur (ur (ua (ur (ur (UAll.cons zCM (up (up (UAll.nil))))))))) (by kernel_rfl) (by kernel_rfl)) q d (⟨⟨Z,Z,Z,h5⟩,⟨⟨Z,Z,Z,h6⟩,⟨⟨Z,Z,Z,N⟩,⟨⟨Z,Z,Z,h8⟩,⟨⟨Z,Z,Z,h9⟩,N⟩⟩⟩⟩⟩) ?_ ?_
 exact rp (fun V Q U O D=>zAC ((f_v1.stp O.stp).eq (D.g 0 Z)) (D.g 1 Z) underlying28 sizeOf9 e4)<|rp (fun V Q U O D=>(zAT (QRep.ptr (D.g 0 Z)) isAgg9 sizeOf9))<|rp (fun V Q U O D=>zA6 (D.g 0 Z))<|rz
 intro done ρ σ A R w y s
 have z5:=s.inivR 0 Z
 obtain ⟨u6,h4,f_u6⟩:∃ u,R 4=u/\Rep eStr A w u (gtD p1 x2.1):=⟨_,Z,s.fact y (i:=7) Z Z Z⟩
 replace B:=s.lowK B C K (q.geK (⟨.inr (fun k h=>.inr h),N⟩))
 replace j:Ch (zAE (.pointer (some ⟨b0,0,none⟩))) w0 w:=j.tr s.ch (q.geK (⟨.inr (fun k h=>.inr h),N⟩))
 replace q:=s.left y [(0,ob (.pointer (some ⟨b0,0,none⟩)) (.box B0 69 zA5 x2.2))] ⟨Z,Z,z5,Z,Z,N⟩
 replace d:=s.avok
 refine zPa Z ?_
 refine HT.ret ?_
 obtain rfl:=si c
 obtain ⟨A1,hA1,hG1⟩:=GPost.of q d B (q.geK (⟨.inr (fun k h=>.inr h),N⟩)) j
 exact ⟨.inr Z,[R 4],⟨Z,N⟩,A1,hG1,(f_u6.eq h4).down hA1⟩
def zCr (fu : Nat) (p0 : List (List UInt8)) (p1 : List UInt8) : Nat -> Int -> Option Int
 | 0,_=>none
 | k+1,y4=>
 ck (!(true&&((decide (y4<(p0.length:Int)))==true)) || inR y4 p0.length) <|
 bd ((decide (y4<(p0.length:Int)))&&(bLt (gtD p0 y4) p1)) fun x6=>
 bif x6 then (
 ck (i64B (y4+1)) <|
 zCr fu p0 p1 k (y4+1)
 ) else (
 some y4
 )
def zDA (fu:Nat) (p0:List (List UInt8)) (p1:List UInt8) (p2:Bool):Option (List (List UInt8)):=
 cl true (zCr fu p0 p1 fu 0) fun s3=>
 bd ((!p2)&&(decide (s3<(p0.length:Int)))) fun x10=>
 ck (!(true&&(x10==true)) || inR s3 p0.length) <|
 bd (x10&&((gtD p0 s3)==p1)) fun x13=>
 bif x13 then (
 some p0
 ) else (
 ck (subR 0 s3 p0.length) <|
 bd (s3.toNat-(0:Int).toNat) fun x17=>
 ck (zD4 (([]:List (List UInt8)).length+(subL p0 0 s3).length)) <|
 ck (zD4 ((([]:List (List UInt8))++(subL p0 0 s3)).length+([p1]:List (List UInt8)).length)) <|
 ck (subR s3 (p0.length:Int) p0.length) <|
 bd ((p0.length:Int).toNat-s3.toNat) fun x22=>
 ck (zD4 (((([]:List (List UInt8))++(subL p0 0 s3))++([p1]:List (List UInt8))).length+(subL p0 s3 (p0.length:Int)).length)) <|
 some (((([]:List (List UInt8))++(subL p0 0 s3))++([p1]:List (List UInt8)))++(subL p0 s3 (p0.length:Int)))
 )
theorem zDh {fu : Nat} {A0 : Av} {p0 : List (List UInt8)} {p1 : List UInt8} {p2 : Bool} {r : List (List UInt8)} (c : zDA fu p0 p1 p2 = some r) {w : World} {v0 : Value} {v1 : Value} {v2 : Value} {B0 : Nat} (d : AvOK A0 w) (K : ∀ b o, A0 b o -> ¬ zAE v0 b) (hB0 : B0 <= w.heap.size) (h0 : (Res.vec B0 9 eStr p0).ok A0 v0 w) (h1 : Rep eStr A0 w v1 p1) (h2 : v2=.bool p2) :
 Calls prog 74 #[v0,v1,v2] w fun e w'=>∃ v,e=.returned v/\Took (addA A0 v0) true v0 (.vec B0 9 eStr r) (fun _=>.any) w v w':=by
 unfold zDA at c
 obtain ⟨w0,hw0⟩:∃ w0,w0=w:=⟨_,Z⟩
 have j:Ch (zAE v0) w0 w:=hw0 ▸ Ch.refl _ _
 replace hB0:B0<=w0.heap.size:=hw0 ▸ hB0
 have C:∀ b o,A0 b o->b<w0.heap.size:=fun b o h=>hw0 ▸ d b o h
 have hA00:AvOK A0 w0:=C
 rw [show Took (addA A0 v0) true v0 (.vec B0 9 eStr r) (fun _=>.any) w=Took (addA A0 v0) true v0 (.vec B0 9 eStr r) (fun _=>.any) w0 from hw0 ▸ Z]
 obtain ⟨A,hAe⟩:∃ A,A=addA A0 v0:=⟨_,Z⟩
 have B:∀ b o,A0 b o->A b o:=fun b o h=>hAe ▸ .inl h
 replace d:AvOK A w:=hAe ▸ d.one h0
 have q:IniOK [ob v0 (.vec B0 9 eStr p0)] A w:=hAe ▸ IniOK.one h0 (fun _ _ _ _ _ h=>h)
 refine zAB [.tmp 6] func74 ntmps74 (by decide) Z Z (nb Z) ?_
 intro R hR
 replace h0:R 0=v0:=hR 0 _ Z
 have f_v1:Rep eStr A w v1 p1:=h1
 replace h1:R 1=v1:=hR 1 _ Z
 replace h2:R 2=.bool p2:=(hR 2 _ Z).trans h2
 refine zPQ ?_
 refine zPT (eA::[]) ?_ ?_
 exact op (fun Q U W H D=>zA6 N)<|oz
 intro R w m n p
 obtain ⟨h0,h1,h2⟩:=k3 n h0 h1 h2
 replace f_v1:=f_v1.fr m
 replace q:=q.fr m
 replace d:=d.fr m.size
 replace j:=j.tr (m.ch noB) fun _ h=>False.elim h
 refine zPQ ?_
 refine zPT (eI 0::[]) ?_ ?_
 exact op (fun Q U W H D=>zA6 Z)<|oz
 intro R w m n p
 obtain ⟨h0,h1,h2⟩:=k3 n h0 h1 h2
 have h7:=p.r 0 Z
 replace f_v1:=f_v1.fr m
 replace q:=q.fr m
 replace d:=d.fr m.size
 replace j:=j.tr (m.ch noB) fun _ h=>False.elim h
 obtain ⟨rl1,q2,c⟩:=zA9 c
 replace q2:=q2 Z
 refine zPK (fun R w=>∃ A:Av,∃ (s3:Int),rl1=s3/\AvOK A w/\Ch (zAE v0) w0 w/\(∀ b o,A0 b o->A b o)/\IniOK [ob v0 (.vec B0 9 eStr p0)] A w/\R 0=v0/\R 1=v1/\R 2=.bool p2/\R 7=.int .i64 s3/\Rep eStr A w v1 p1) ?_ ?_
 refine HT.block<|zPP (fun k R w=>∃ A:Av,∃ (y4:Int),zCr fu p0 p1 k y4=some rl1/\AvOK A w/\Ch (zAE v0) w0 w/\(∀ b o,A0 b o->A b o)/\IniOK [ob v0 (.vec B0 9 eStr p0)] A w/\R 0=v0/\R 1=v1/\R 2=.bool p2/\R 7=.int .i64 y4/\Rep eStr A w v1 p1) fu ⟨_,_,q2,d,j,B,q,h0,h1,h2,h7,f_v1⟩ ?_
 have hr0:=c;clear c q2
 rintro k R w ⟨A,y4,c,d,j,B,q,h0,h1,h2,h7,f_v1⟩
 rcases k with _ | k
 cases (show none=some _ from c)
 rw [zCr] at c
 refine zPQ ?_
 refine zPQ ?_
 obtain ⟨e5,c⟩:=zAG c
 obtain ⟨x6,q7,c⟩:=zAO c
 refine zPT (eI y4::eR v0::eI (p0.length:Int)::eB (decide (y4<(p0.length:Int)))::eB (decide (y4<(p0.length:Int)))::gR (true&&((decide (y4<(p0.length:Int)))==true)) v0::gI (true&&((decide (y4<(p0.length:Int)))==true)) y4::gR (true&&((decide (y4<(p0.length:Int)))==true)) (vptr v0 (y4.toNat*1))::gF (true&&((decide (y4<(p0.length:Int)))==true)) (.rep eStr A (gtD p0 y4))::gR (true&&((decide (y4<(p0.length:Int)))==true)) v1::gB (true&&((decide (y4<(p0.length:Int)))==true)) (bLt (gtD p0 y4) p1)::eB x6::[]) ?_ ?_
 exact om h7<|om h0<|op (fun Q U W H D=>zDq (q.ok 0 _ Z).1 (D.g 0 Z) underlying28)<|op (fun Q U W H D=>zB8 (D.g 0 Z) (D.g 1 Z))<|ov<|gm 4 true h0<|gm 4 true h7<|og 4 true (fun G Q U W H D=>zAr (q.ok 0 _ Z).1 (D.h 0 G Z) (D.h 1 G Z) underlying28 sizeOf9 (gd e5 G) Z)<|og 4 true (fun G Q U W H D=>(zC0 ((q.fr W).ok 0 _ Z).1 (D.h 0 G Z) (gd e5 G) Z (Fld.id _) Z isAgg9 sizeOf9))<|gm 4 true h1<|og 4 true (fun G Q U W H D=>zLS (D.h 0 G Z) ((f_v1.fr W).eq (D.h 1 G Z)))<|op (fun Q U W H D=>zAR (decide (y4<(p0.length:Int))) (D.g 0 Z) (fun hc=>by have a1:Q 18=.bool (bLt (gtD p0 y4) p1):=D 1 _ _ _ Z Z Z Z (zBJ Z (zAf hc));show _=Value.bool x6;rw [q7,hc];exact a1) (fun hc=>by show _=Value.bool x6;rw [q7,hc];exact Z))<|oz
 intro R w m n p
 obtain ⟨h0,h1,h2,h7⟩:=k4 n h0 h1 h2 h7
 have h19:=p.r 11 Z
 replace f_v1:=f_v1.fr m
 replace q:=q.fr m
 replace d:=d.fr m.size
 replace j:=j.tr (m.ch noB) fun _ h=>False.elim h
 refine zPJ x6 h19 (fun c8=>?_) (fun c8=>?_)
 have c:=zAe c8 c
 refine HT.skip<|HT.block ?_
 obtain ⟨e9,c⟩:=zAG c
 refine zPT (eI y4::eI (y4+1)::eI (y4+1)::[]) ?_ ?_
 exact om h7<|op (fun Q U W H D=>zAi (D.g 0 Z) Z e9)<|oa<|oz
 intro R w m n p
 obtain ⟨h0,h1,h2⟩:=k3 n h0 h1 h2
 have h7:=p.r 2 Z
 replace f_v1:=f_v1.fr m
 replace q:=q.fr m
 replace d:=d.fr m.size
 replace j:=j.tr (m.ch noB) fun _ h=>False.elim h
 exact ei k (And.intro (Nat.lt_succ_self k) ⟨_,_,c,d,j,B,q,h0,h1,h2,h7,f_v1⟩)
 have c:=zAd c8 c
 refine zPO ?_
 obtain rfl:=si c
 exact ei _ ⟨_,Z,d,j,B,q,h0,h1,h2,h7,f_v1⟩
 rintro R w ⟨A,s3,es,d,j,B,q,h0,h1,h2,h7,f_v1⟩
 obtain rfl:=es.symm
 refine zPQ ?_
 refine zPQ ?_
 obtain ⟨x10,q11,c⟩:=zAO c
 obtain ⟨e12,c⟩:=zAG c
 obtain ⟨x13,q14,c⟩:=zAO c
 refine zPT (eB p2::eB (!p2)::eB (!p2)::gI (true&&((!p2)==true)) s3::gR (true&&((!p2)==true)) v0::gI (true&&((!p2)==true)) (p0.length:Int)::gB (true&&((!p2)==true)) (decide (s3<(p0.length:Int)))::eB x10::eB x10::gR (true&&(x10==true)) v0::gI (true&&(x10==true)) s3::gR (true&&(x10==true)) (vptr v0 (s3.toNat*1))::gF (true&&(x10==true)) (.rep eStr A (gtD p0 s3))::gR (true&&(x10==true)) v1::gB (true&&(x10==true)) ((gtD p0 s3)==p1)::eB x13::[]) ?_ ?_
 exact om h2<|op (fun Q U W H D=>zBY (D.g 0 Z))<|ov<|gm 2 true h7<|gm 2 true h0<|og 2 true (fun G Q U W H D=>zDq (q.ok 0 _ Z).1 (D.h 0 G Z) underlying28)<|og 2 true (fun G Q U W H D=>zB8 (D.h 0 G Z) (D.h 1 G Z))<|op (fun Q U W H D=>zAR (!p2) (D.g 0 Z) (fun hc=>by have a1:Q 28=.bool (decide (s3<(p0.length:Int))):=D 1 _ _ _ Z Z Z Z (zBJ Z (zAf hc));show _=Value.bool x10;rw [q11,hc];exact a1) (fun hc=>by show _=Value.bool x10;rw [q11,hc];exact Z))<|ov<|gm 8 true h0<|gm 8 true h7<|og 8 true (fun G Q U W H D=>zAr (q.ok 0 _ Z).1 (D.h 0 G Z) (D.h 1 G Z) underlying28 sizeOf9 (gd e12 G) Z)<|og 8 true (fun G Q U W H D=>(zC0 ((q.fr W).ok 0 _ Z).1 (D.h 0 G Z) (gd e12 G) Z (Fld.id _) Z isAgg9 sizeOf9))<|gm 8 true h1<|og 8 true (fun G Q U W H D=>zFc (D.h 0 G Z) ((f_v1.fr W).eq (D.h 1 G Z)))<|op (fun Q U W H D=>zAR x10 (D.g 0 Z) (fun hc=>by have a1:Q 36=.bool ((gtD p0 s3)==p1):=D 1 _ _ _ Z Z Z Z (zBJ Z (zAf hc));show _=Value.bool x13;rw [q14,hc];exact a1) (fun hc=>by show _=Value.bool x13;rw [q14,hc];exact Z))<|oz
 intro R w m n p
 obtain ⟨h0,h1,h7⟩:=k3 n h0 h1 h7
 have h37:=p.r 15 Z
 replace f_v1:=f_v1.fr m
 replace q:=q.fr m
 replace d:=d.fr m.size
 replace j:=j.tr (m.ch noB) fun _ h=>False.elim h
 refine zPJ x13 h37 (fun c15=>?_) (fun c15=>?_)
 have c:=zAe c15 c
 refine zPQ ?_
 refine zPT (eR v0::eR v0::[]) ?_ ?_
 exact om h0<|oa<|oz
 intro R w m n p
 have h6:=p.r 1 Z
 replace q:=q.fr m
 replace d:=d.fr m.size
 replace j:=j.tr (m.ch noB) fun _ h=>False.elim h
 refine HT.ret ?_
 obtain rfl:=si c
 exact ⟨.inr Z,[R 6],⟨Z,N⟩,by show Took _ true _ _ _ w0 (R 6) w;rw [h6];exact zFF (fun k h o=>.inr h) j (q.ok 0 _ Z).1 (q.own_ge (⟨.inr (fun k h=>.inr h),N⟩) (i:=0) Z) (fun _ _ _ _ _ h=>h)⟩
 have c:=zAd c15 c
 refine HT.skip<|zPQ ?_
 obtain ⟨e16,c⟩:=zAG c
 obtain ⟨x17,q18,c⟩:=zAO c
 obtain ⟨e19,e20,e21,c⟩:=ck3 c
 obtain ⟨x22,q23,c⟩:=zAO c
 obtain ⟨e24,c⟩:=zAG c
 refine zPN [ob v0 (.vec B0 9 eStr p0)] (⟨_,true,[],some (.vec w0.heap.size 9 eStr ([]:List (List UInt8))),true,fun A=>.any⟩::rR v0::rI s3::rR (vsub v0 (0:Int).toNat x17 1)::⟨_,true,[1],some (.vec w0.heap.size 9 eStr (([]:List (List UInt8))++(subL p0 0 s3))),true,fun A=>.any⟩::rR v1::(rF fun A=>.rep (eSl eStr) A ([p1]:List (List UInt8)))::⟨_,true,[5],some (.vec w0.heap.size 9 eStr ((([]:List (List UInt8))++(subL p0 0 s3))++([p1]:List (List UInt8)))),true,fun A=>.any⟩::rR v0::rI s3::rR (vsub v0 s3.toNat x22 1)::⟨_,true,[8],some (.vec w0.heap.size 9 eStr (((([]:List (List UInt8))++(subL p0 0 s3))++([p1]:List (List UInt8)))++(subL p0 s3 (p0.length:Int)))),true,fun A=>.any⟩::⟨_,true,[12],some (.vec w0.heap.size 9 eStr (((([]:List (List UInt8))++(subL p0 0 s3))++([p1]:List (List UInt8)))++(subL p0 s3 (p0.length:Int)))),true,fun A=>.any⟩::[]) (by kernel_rfl) (by kernel_rfl) (by kernel_rfl) (Wf.mk' (by kernel_rfl) (ua (ur (ur (ur (ua (ur (up (ua (ur (ur (ur (ua (ua (UAll.nil)))))))))))))) (by kernel_rfl) (by kernel_rfl)) q d ?_ ?_
 exact rc (OblR.made _ Z Z Z Z fun V Q U O D=>by exact zBM [] (E:=eStr) N underlying28 sizeOf9 zeroValue9 Z Z Z (Nat.le_trans j.size O.ch.size))<|rm h0<|rm h7<|rp (fun V Q U O D=>(q18 ▸ zJL (q.ok 0 _ Z).1 (D.g 0 Z) (D.g 1 Z) underlying28 sizeOf9 e16))<|rc (OblR.took 1 _ _ Z Z Z Z Z fun V Q U O D u X Y J L M=>by have a1:Q 42=(vsub v0 (0:Int).toNat x17 1):=D.g 1 Z;have ra1:Rep (eSl eStr) A0 U (Q 42) _:=(zIJ (zJc (O.rd 0 _ Z Z) (O.lowK B C K (q.geK (⟨.inr (fun k h=>.inr h),N⟩))) C K (fun k h=>.inr h)) e16 q18 Z).eq a1;exact zEv (L _ _ Z Z Z Z).symm X Y (Nat.le_trans j.size O.ch.size) ra1 underlying28 el_9 e19 (fun _ _ h=>h))<|rm h1<|rp (fun V Q U O D=>zC7 [_] (E:=eStr) ⟨((f_v1.stp O.stp).eq (D.g 0 Z)),N⟩ underlying28 sizeOf9 zeroValue9 Z Z Z O.av)<|rc (OblR.took 5 _ _ Z Z Z Z Z fun V Q U O D u X Y J L M=>by have a1:Rep (eSl eStr) V U (Q 45) ([p1]:List (List UInt8)):=D.g 1 Z;exact zAs (L _ _ Z Z Z Z).symm X Y (Nat.le_trans j.size O.ch.size) a1 underlying28 el_9 e20)<|rm h0<|rm h7<|rp (fun V Q U O D=>(q23 ▸ zIe (q.ok 0 _ Z).1 (D.g 0 Z) (D.g 1 Z) underlying28 sizeOf9 e21))<|rc (OblR.took 8 _ _ Z Z Z Z Z fun V Q U O D u X Y J L M=>by have a1:Q 49=(vsub v0 s3.toNat x22 1):=D.g 1 Z;have ra1:Rep (eSl eStr) A0 U (Q 49) _:=(zIJ (zJc (O.rd 0 _ Z Z) (O.lowK B C K (q.geK (⟨.inr (fun k h=>.inr h),N⟩))) C K (fun k h=>.inr h)) e21 q23 Z).eq a1;exact zEv (L _ _ Z Z Z Z).symm X Y (Nat.le_trans j.size O.ch.size) ra1 underlying28 el_9 e24 (fun _ _ h=>h))<|rc (OblR.took 12 _ _ Z Z Z Z Z fun V Q U O D u X Y J L M=>by exact zAP (L _ _ Z Z Z Z).symm X Y)<|rz
 intro done ρ σ A R w y s
 have z25:=s.inivR 0 Z
 obtain ⟨u26,e_u26⟩:∃ u,ρ 13=u:=⟨_,Z⟩
 have h6:=s.ov y 13 12 e_u26
 replace B:=s.lowK B C K (q.geK (⟨.inr (fun k h=>.inr h),N⟩))
 replace j:Ch (zAE v0) w0 w:=j.tr s.ch (q.geK (⟨.inr (fun k h=>.inr h),N⟩))
 replace q:=s.left y [(13,ob u26 (.vec w0.heap.size 9 eStr (((([]:List (List UInt8))++(subL p0 0 s3))++([p1]:List (List UInt8)))++(subL p0 s3 (p0.length:Int)))))] ⟨Z,Z,e_u26,Z,Z,N⟩
 replace d:=s.avok
 obtain ⟨Yg26,g_Yg26⟩:∃ z:List (List UInt8),z=(((([]:List (List UInt8))++(subL p0 0 s3))++([p1]:List (List UInt8)))++(subL p0 s3 (p0.length:Int))):=⟨_,Z⟩
 rw [<- g_Yg26] at q
 try rw [<- g_Yg26] at c
 refine HT.ret ?_
 obtain rfl:=si c
 exact ⟨.inr Z,[R 6],⟨Z,N⟩,by show Took _ true _ _ _ w0 (R 6) w;rw [h6];exact zFF (fun k h o=>.inr h) j (zNa hB0 (q.ok 0 _ Z).1) (q.own_ge (⟨.inl Z,N⟩) (i:=0) Z) (fun _ _ _ _ _ h=>h)⟩
def zBt (fu : Nat) : Nat -> Int -> zAI -> (List (List UInt8)) -> Option (zAI × (List (List UInt8)))
 | 0,_,_,_=>none
 | k+1,y12,y13,y14=>
 bif (decide (0<y12)) then (
 cl true (zDW fu y13 ([([97]:List UInt8),([98]:List UInt8),([99]:List UInt8),([100]:List UInt8),([101]:List UInt8),([97,110,110]:List UInt8),([108,101,101]:List UInt8),([115,109,105,116,104]:List UInt8),([57]:List UInt8)]:List (List UInt8))) fun x19=>
 cl true (zDA fu y14 x19.1 false) fun x22=>
 ck (i64B (y12-1)) <|
 zBt fu k (y12-1) x19.2 x22
 ) else (
 some (y13,y14)
 )
def zCm (fu:Nat) (p0:zAI):Option ((List (List UInt8)) × zAI):=
 cl true (zBh fu p0 6) fun x5=>
 cl true (zBt fu fu x5.1 x5.2 ([]:List (List UInt8))) fun s11=>
 some (s11.2,s11.1)
theorem zF8 {fu : Nat} {Aq : Av} {p0 : zAI} {r : (List (List UInt8)) × zAI} (c : zCm fu p0 = some r) {w : World} {v0 : Value} {b0 B0 : Nat} (d : AvOK Aq w) (h0 : v0=.pointer (some ⟨b0, 0, none⟩)) (hO0 : IniOK [ob (.pointer (some ⟨b0, 0, none⟩)) (.box B0 69 zA5 p0)] Aq w) :
 Calls prog 47 #[v0] w fun e w'=>∃ v,e=.returned v/\(∃ (u0:Value) (A1:Av),GPost (subS Aq (zAE (.pointer (some ⟨b0,0,none⟩)))) (zAE (.pointer (some ⟨b0,0,none⟩))) w [ob (.pointer (some ⟨b0,0,none⟩)) (.box B0 69 zA5 r.2),ob u0 (.vec w.heap.size 9 eStr r.1)] A1 w'/\(Fact.raw u0).ok v w'):=by
 unfold zCm at c
 obtain ⟨w0,hw0⟩:∃ w0,w0=w:=⟨_,Z⟩
 have j:Ch (zAE (.pointer (some ⟨b0,0,none⟩))) w0 w:=hw0 ▸ Ch.refl _ _
 obtain ⟨A0,hA0e⟩:∃ A0,A0=subS Aq (zAE (.pointer (some ⟨b0,0,none⟩))):=⟨_,Z⟩
 have C:∀ b o,A0 b o->b<w0.heap.size:=fun b o h=>hw0 ▸ d b o (hA0e ▸ h:subS Aq _ b o).1
 have K:∀ b o,A0 b o->¬ (zAE (.pointer (some ⟨b0,0,none⟩))) b:=fun b o h=>(hA0e ▸ h:subS Aq _ b o).2
 have hA00:AvOK A0 w0:=C
 rw [show GPost (subS Aq (zAE (.pointer (some ⟨b0,0,none⟩)))) (zAE (.pointer (some ⟨b0,0,none⟩))) w=GPost A0 (zAE (.pointer (some ⟨b0,0,none⟩))) w0 from by rw [hA0e,hw0]]
 rw [show w.heap.size=w0.heap.size from by rw [hw0]]
 obtain ⟨A,hAe⟩:∃ A,A=Aq:=⟨_,Z⟩
 have B:∀ b o,A0 b o->A b o:=fun b o h=>hAe ▸ (hA0e ▸ h:subS Aq _ b o).1
 replace d:AvOK A w:=hAe ▸ d
 have q:IniOK [ob (.pointer (some ⟨b0,0,none⟩)) (.box B0 69 zA5 p0)] A w:=hAe ▸ hO0
 clear hA0e hO0
 refine zAB [.tmp 2] func47 ntmps47 (by decide) Z Z (nb Z) ?_
 intro R hR
 replace h0:R 0=.pointer (some ⟨b0,0,none⟩):=(hR 0 _ Z).trans h0
 refine zPQ ?_
 refine zPT (eA::[]) ?_ ?_
 exact op (fun Q U W H D=>zA6 N)<|oz
 intro R w m n p
 replace h0:=k1 n h0
 replace q:=q.fr m
 replace d:=d.fr m.size
 replace j:=j.tr (m.ch noB) fun _ h=>False.elim h
 refine zPS [ob (.pointer (some ⟨b0,0,none⟩)) (.box B0 69 zA5 p0)] (⟨_,true,[],some (.vec w0.heap.size 9 eStr ([]:List (List UInt8))),true,fun A=>.any⟩::⟨_,true,[1],some (.vec w0.heap.size 9 eStr ([]:List (List UInt8))),true,fun A=>.any⟩::[]) (ua (ua (UAll.nil))) q d ?_ ?_
 exact rc (OblR.made _ Z Z Z Z fun V Q U O D=>by exact zBM [] (E:=eStr) N underlying28 sizeOf9 zeroValue9 Z Z Z (Nat.le_trans j.size O.ch.size))<|rc (OblR.took 1 _ _ Z Z Z Z Z fun V Q U O D u X Y J L M=>by exact zAP (L _ _ Z Z Z Z).symm X Y)<|rz
 intro done ρ σ A R w y s
 replace h0:=k1 s.rg h0
 have z1:=s.inivR 0 Z
 obtain ⟨u2,e_u2⟩:∃ u,ρ 2=u:=⟨_,Z⟩
 have h3:=s.ov y 2 1 e_u2
 replace B:=s.lowK B C K (q.geK (⟨.inr (fun k h=>.inr h),N⟩))
 replace j:Ch (zAE (.pointer (some ⟨b0,0,none⟩))) w0 w:=j.tr s.ch (q.geK (⟨.inr (fun k h=>.inr h),N⟩))
 replace q:=s.left y [(0,ob (.pointer (some ⟨b0,0,none⟩)) (.box B0 69 zA5 p0)),(2,ob u2 (.vec w0.heap.size 9 eStr ([]:List (List UInt8))))] ⟨Z,Z,z1,Z,Z,⟨Z,Z,e_u2,Z,Z,N⟩⟩
 replace d:=s.avok
 refine zPQ ?_
 refine zPQ ?_
 refine SG.of<|SG.textR [ob (.pointer (some ⟨b0,0,none⟩)) (.box B0 69 zA5 p0),ob u2 (.vec w0.heap.size 9 eStr ([]:List (List UInt8)))] (rR (.pointer (some ⟨b0,0,none⟩))::[]) 1 Z Z Z (by kernel_rfl) (by kernel_rfl) (Wf.mk' (by kernel_rfl) (ur (UAll.nil)) (by kernel_rfl) (by kernel_rfl)) q d (N) ?_ ?_
 exact rm h0<|rz
 intro done ρ σ A R w y s
 obtain ⟨h0,h3⟩:=k2 s.rg h0 h3
 have z3:=s.inivR 0 Z
 have z4:=s.inivR 1 Z
 have h6:=s.r y 0 Z
 replace B:=s.lowK B C K (q.geK (⟨.inr (fun k h=>.inr h),⟨.inl Z,N⟩⟩))
 replace j:Ch (zAE (.pointer (some ⟨b0,0,none⟩))) w0 w:=j.tr s.ch (q.geK (⟨.inr (fun k h=>.inr h),⟨.inl Z,N⟩⟩))
 replace q:=s.left y [(0,ob (.pointer (some ⟨b0,0,none⟩)) (.box B0 69 zA5 p0)),(1,ob u2 (.vec w0.heap.size 9 eStr ([]:List (List UInt8))))] ⟨Z,Z,z3,Z,Z,⟨Z,Z,z4,Z,Z,N⟩⟩
 replace d:=s.avok
 obtain ⟨x5,q6,c⟩:=zA9 c
 have hFz:w0.heap.size<=w.heap.size:=j.size
 refine SG.op 7 Z Z Z Z (zB7 call46 (zC2 (q6 Z) d h6 (q.sub [(0,ob (.pointer (some ⟨b0,0,none⟩)) (.box B0 69 zA5 p0))] ⟨Z,Z,N⟩) Z)) ?_
 rintro v_ w ⟨A,hG1,hv⟩ R n hd
 have hst:=zBO d hG1 (q.ok 0 _ Z).2
 replace B:∀ b o,A0 b o->A b o:=zBl B C K (q.geK (⟨.inr (fun k h=>.inr h),⟨.inl Z,N⟩⟩)) 0 Z hG1
 replace j:Ch (zAE (.pointer (some ⟨b0,0,none⟩))) w0 w:=j.tr hG1.ch (fun k hk=>(q.geK (⟨.inr (fun k h=>.inr h),⟨.inl Z,N⟩⟩)) k ⟨0,_,Z,hk⟩)
 replace q:=zPH q d 0 Z hG1
 replace d:=hG1.avok
 replace q:IniOK [ob (.pointer (some ⟨b0,0,none⟩)) (.box B0 69 zA5 x5.2),ob u2 (.vec w0.heap.size 9 eStr ([]:List (List UInt8)))] A w:=q
 replace h0:=(n 0 Z).trans h0
 replace h3:=(n 3 Z).trans h3
 replace h6:=(n 6 Z).trans h6
 have h7:R 7=.int .i64 x5.1:=hd.trans hv
 clear hFz hG1 hv n hd
 refine SG.textR [ob (.pointer (some ⟨b0,0,none⟩)) (.box B0 69 zA5 x5.2),ob u2 (.vec w0.heap.size 9 eStr ([]:List (List UInt8)))] (rR (.pointer (some ⟨b0,0,none⟩))::rI x5.1::rI x5.1::[]) 3 Z Z Z (by kernel_rfl) (by kernel_rfl) (Wf.mk' (by kernel_rfl) (ur (ur (ur (UAll.nil)))) (by kernel_rfl) (by kernel_rfl)) q d (⟨⟨Z,Z,Z,h6⟩,⟨⟨Z,Z,Z,h7⟩,N⟩⟩) ?_ ?_
 exact ra<|rz
 intro done ρ σ A R w y s
 obtain ⟨h0,h3⟩:=k2 s.rg h0 h3
 have z7:=s.inivR 0 Z
 have z8:=s.inivR 1 Z
 have h4:=s.r y 2 Z
 replace B:=s.lowK B C K (q.geK (⟨.inr (fun k h=>.inr h),⟨.inl Z,N⟩⟩))
 replace j:Ch (zAE (.pointer (some ⟨b0,0,none⟩))) w0 w:=j.tr s.ch (q.geK (⟨.inr (fun k h=>.inr h),⟨.inl Z,N⟩⟩))
 replace q:=s.left y [(0,ob (.pointer (some ⟨b0,0,none⟩)) (.box B0 69 zA5 x5.2)),(1,ob u2 (.vec w0.heap.size 9 eStr ([]:List (List UInt8))))] ⟨Z,Z,z7,Z,Z,⟨Z,Z,z8,Z,Z,N⟩⟩
 replace d:=s.avok
 refine zPa Z ?_
 obtain ⟨rl9,q10,c⟩:=zA9 c
 replace q10:=q10 Z
 refine zPL (fun R w=>∃ A:Av,∃ (s11:zAI × (List (List UInt8))) (uo_u2:Value),rl9=s11/\AvOK A w/\Ch (zAE (.pointer (some ⟨b0,0,none⟩))) w0 w/\(∀ b o,A0 b o->A b o)/\IniOK [ob (.pointer (some ⟨b0,0,none⟩)) (.box B0 69 zA5 s11.1),ob uo_u2 (.vec w0.heap.size 9 eStr s11.2)] A w/\R 3=uo_u2) ?_ ?_
 refine HT.block<|zPP (fun k R w=>∃ A:Av,∃ (y12:Int) (y13:zAI) (y14:List (List UInt8)) (ul_u2:Value),zBt fu k y12 y13 y14=some rl9/\AvOK A w/\Ch (zAE (.pointer (some ⟨b0,0,none⟩))) w0 w/\(∀ b o,A0 b o->A b o)/\IniOK [ob (.pointer (some ⟨b0,0,none⟩)) (.box B0 69 zA5 y13),ob ul_u2 (.vec w0.heap.size 9 eStr y14)] A w/\R 0=(.pointer (some ⟨b0,0,none⟩))/\R 3=ul_u2/\R 4=.int .i64 y12) fu ⟨_,_,_,_,u2,q10,d,j,B,q,h0,h3,h4⟩ ?_
 have hr0:=c;clear c q10
 rintro k R w ⟨A,y12,y13,y14,ul_u2,c,d,j,B,q,h0,h3,h4⟩
 rcases k with _ | k
 cases (show none=some _ from c)
 rw [zBt] at c
 refine zPQ ?_
 refine zPQ ?_
 refine zPT (eI y12::eB (decide (0<y12))::[]) ?_ ?_
 exact om h4<|op (fun Q U W H D=>zEH (D.g 0 Z) Z)<|oz
 intro R w m n p
 obtain ⟨h0,h3,h4⟩:=k3 n h0 h3 h4
 have h9:=p.r 1 Z
 replace q:=q.fr m
 replace d:=d.fr m.size
 replace j:=j.tr (m.ch noB) fun _ h=>False.elim h
 refine zPJ (decide (0<y12)) h9 (fun c15=>?_) (fun c15=>?_)
 have c:=zAe c15 c
 refine HT.skip<|zPQ ?_
 refine HT.block<|SG.of<|SG.textR [ob (.pointer (some ⟨b0,0,none⟩)) (.box B0 69 zA5 y13),ob ul_u2 (.vec w0.heap.size 9 eStr y14)] (rR ul_u2::rR (.pointer (some ⟨b0,0,none⟩))::(rF fun A=>.rep (eSl eStr) A ([([97]:List UInt8),([98]:List UInt8),([99]:List UInt8),([100]:List UInt8),([101]:List UInt8),([97,110,110]:List UInt8),([108,101,101]:List UInt8),([115,109,105,116,104]:List UInt8),([57]:List UInt8)]:List (List UInt8)))::[]) 3 Z Z Z (by kernel_rfl) (by kernel_rfl) (Wf.mk' (by kernel_rfl) (ur (ur (up (UAll.nil)))) (by kernel_rfl) (by kernel_rfl)) q d (N) ?_ ?_
 exact rm h3<|rm h0<|rp (fun V Q U O D=>zC7 [_,_,_,_,_,_,_,_,_] (E:=eStr) ⟨⟨_,Z,⟨_,Z,Z,by decide⟩⟩,⟨⟨_,Z,⟨_,Z,Z,by decide⟩⟩,⟨⟨_,Z,⟨_,Z,Z,by decide⟩⟩,⟨⟨_,Z,⟨_,Z,Z,by decide⟩⟩,⟨⟨_,Z,⟨_,Z,Z,by decide⟩⟩,⟨⟨_,Z,⟨_,Z,Z,by decide⟩⟩,⟨⟨_,Z,⟨_,Z,Z,by decide⟩⟩,⟨⟨_,Z,⟨_,Z,Z,by decide⟩⟩,⟨⟨_,Z,⟨_,Z,Z,by decide⟩⟩,N⟩⟩⟩⟩⟩⟩⟩⟩⟩ underlying28 sizeOf9 zeroValue9 Z Z Z O.av)<|rz
 intro done ρ σ A R w y s
 obtain ⟨h0,h3,h4⟩:=k3 s.rg h0 h3 h4
 have z16:=s.inivR 0 Z
 have z17:=s.inivR 1 Z
 have h12:=s.r y 0 Z
 have h13:=s.r y 1 Z
 obtain ⟨u18,h14,f_u18⟩:∃ u,R 14=u/\Rep (eSl eStr) A w u ([([97]:List UInt8),([98]:List UInt8),([99]:List UInt8),([100]:List UInt8),([101]:List UInt8),([97,110,110]:List UInt8),([108,101,101]:List UInt8),([115,109,105,116,104]:List UInt8),([57]:List UInt8)]:List (List UInt8)):=⟨_,Z,s.fact y (i:=2) Z Z Z⟩
 replace B:=s.lowK B C K (q.geK (⟨.inr (fun k h=>.inr h),⟨.inl Z,N⟩⟩))
 replace j:Ch (zAE (.pointer (some ⟨b0,0,none⟩))) w0 w:=j.tr s.ch (q.geK (⟨.inr (fun k h=>.inr h),⟨.inl Z,N⟩⟩))
 replace q:=s.left y [(0,ob (.pointer (some ⟨b0,0,none⟩)) (.box B0 69 zA5 y13)),(1,ob ul_u2 (.vec w0.heap.size 9 eStr y14))] ⟨Z,Z,z16,Z,Z,⟨Z,Z,z17,Z,Z,N⟩⟩
 replace d:=s.avok
 obtain ⟨x19,q20,c⟩:=zA9 c
 have hFz:w0.heap.size<=w.heap.size:=j.size
 refine SG.op 15 Z Z Z Z (zB7 call49 (zFz (q20 Z) d h13 (q.sub [(0,ob (.pointer (some ⟨b0,0,none⟩)) (.box B0 69 zA5 y13))] ⟨Z,Z,N⟩) (f_u18.eq h14))) ?_
 rintro v_ w ⟨A,hG1,hv⟩ R n hd
 have hst:=zBO d hG1 (q.ok 0 _ Z).2
 replace B:∀ b o,A0 b o->A b o:=zBl B C K (q.geK (⟨.inr (fun k h=>.inr h),⟨.inl Z,N⟩⟩)) 0 Z hG1
 replace j:Ch (zAE (.pointer (some ⟨b0,0,none⟩))) w0 w:=j.tr hG1.ch (fun k hk=>(q.geK (⟨.inr (fun k h=>.inr h),⟨.inl Z,N⟩⟩)) k ⟨0,_,Z,hk⟩)
 replace q:=zPH q d 0 Z hG1
 replace d:=hG1.avok
 replace q:IniOK [ob (.pointer (some ⟨b0,0,none⟩)) (.box B0 69 zA5 x19.2),ob ul_u2 (.vec w0.heap.size 9 eStr y14)] A w:=q
 replace h0:=(n 0 Z).trans h0
 replace h3:=(n 3 Z).trans h3
 replace h4:=(n 4 Z).trans h4
 replace h12:=(n 12 Z).trans h12
 replace h13:=(n 13 Z).trans h13
 replace h14:=(n 14 Z).trans h14
 replace f_u18:=f_u18.stp hst
 obtain ⟨u21,h15,f_u21⟩:∃ u,R 15=u/\Rep eStr A w u x19.1:=⟨_,Z,hd ▸ hv⟩
 clear hFz hG1 hv n hd
 obtain ⟨x22,q23,c⟩:=zA9 c
 refine SG.textR [ob (.pointer (some ⟨b0,0,none⟩)) (.box B0 69 zA5 x19.2),ob ul_u2 (.vec w0.heap.size 9 eStr y14)] (rR ul_u2::rR (.pointer (some ⟨b0,0,none⟩))::rR u18::rR u21::⟨_,true,[1],some (.vec w0.heap.size 9 eStr x22),true,fun A=>.any⟩::⟨_,true,[6],some (.vec w0.heap.size 9 eStr x22),true,fun A=>.any⟩::[]) 6 Z Z Z (by kernel_rfl) (by kernel_rfl) (Wf.mk' (by kernel_rfl) (ur (ur (ur (ur (ua (ua (UAll.nil))))))) (by kernel_rfl) (by kernel_rfl)) q d (⟨⟨Z,Z,Z,h12⟩,⟨⟨Z,Z,Z,h13⟩,⟨⟨Z,Z,Z,h14⟩,⟨⟨Z,Z,Z,h15⟩,N⟩⟩⟩⟩) ?_ ?_
 exact rc (OblR.took 1 _ _ Z Z Z Z Z fun V Q U O D u X Y J L M=>by have a0:Q 12=ul_u2:=D.g 0 Z;have a1:Q 15=u21:=D.g 1 Z;have ra1:=(f_u21.stp O.stp).eq a1;have hu0:zAL Q (.tmp 12)=u:=a0.trans (J _ Z).symm;exact zEg call74 Y (by simp only [List.map,hu0];exact zDh (q23 Z) (O.av.sub _) (fun b o h=>h.2) (Nat.le_trans j.size O.ch.size) (Vec.flat X (fun _ _ _ _ _ h=>h)) (ra1.less fun b o h=>h.1) Z))<|rc (OblR.took 6 _ _ Z Z Z Z Z fun V Q U O D u X Y J L M=>by exact zAP (L _ _ Z Z Z Z).symm X Y)<|rz
 intro done ρ σ A R w y s
 obtain ⟨h0,h4⟩:=k2 s.rg h0 h4
 have z24:=s.inivR 0 Z
 obtain ⟨u25,e_u25⟩:∃ u,ρ 7=u:=⟨_,Z⟩
 have h3:=s.ov y 7 5 e_u25
 replace B:=s.lowK B C K (q.geK (⟨.inr (fun k h=>.inr h),⟨.inl Z,N⟩⟩))
 replace j:Ch (zAE (.pointer (some ⟨b0,0,none⟩))) w0 w:=j.tr s.ch (q.geK (⟨.inr (fun k h=>.inr h),⟨.inl Z,N⟩⟩))
 replace q:=s.left y [(0,ob (.pointer (some ⟨b0,0,none⟩)) (.box B0 69 zA5 x19.2)),(7,ob u25 (.vec w0.heap.size 9 eStr x22))] ⟨Z,Z,z24,Z,Z,⟨Z,Z,e_u25,Z,Z,N⟩⟩
 replace d:=s.avok
 refine zPa Z ?_
 obtain ⟨e26,c⟩:=zAG c
 refine zPT (eI y12::eI (y12-1)::eI (y12-1)::[]) ?_ ?_
 exact om h4<|op (fun Q U W H D=>zDf (D.g 0 Z) Z e26)<|oa<|oz
 intro R w m n p
 obtain ⟨h0,h3⟩:=k2 n h0 h3
 have h4:=p.r 2 Z
 replace q:=q.fr m
 replace d:=d.fr m.size
 replace j:=j.tr (m.ch noB) fun _ h=>False.elim h
 exact ei k (And.intro (Nat.lt_succ_self k) ⟨_,_,_,_,u25,c,d,j,B,q,h0,h3,h4⟩)
 have c:=zAd c15 c
 refine zPO ?_
 obtain rfl:=si c
 exact ei _ ⟨_,ul_u2,Z,d,j,B,q,h3⟩
 rintro R w ⟨A,s11,uo_u2,es,d,j,B,q,h3⟩
 obtain rfl:=es.symm
 refine zPQ ?_
 refine zPT (eR uo_u2::eR uo_u2::[]) ?_ ?_
 exact om h3<|oa<|oz
 intro R w m n p
 have h2:=p.r 1 Z
 replace q:=q.fr m
 replace d:=d.fr m.size
 replace j:=j.tr (m.ch noB) fun _ h=>False.elim h
 refine HT.ret ?_
 obtain rfl:=si c
 obtain ⟨A1,hA1,hG1⟩:=GPost.of q d B (q.geK (⟨.inr (fun k h=>.inr h),⟨.inl Z,N⟩⟩)) j
 exact ⟨.inr Z,[R 2],⟨Z,N⟩,uo_u2,A1,hG1,h2⟩
theorem zID {fu : Nat} {Aq : Av} {p0 : zAI} {r : (List (List UInt8)) × zAI} (c : zCm fu p0 = some r) {w : World} {v0 : Value} {b0 B0 : Nat} (d : AvOK Aq w) (h0 : v0=.pointer (some ⟨b0, 0, none⟩)) (hO0 : IniOK [ob (.pointer (some ⟨b0, 0, none⟩)) (.box B0 69 zA5 p0)] Aq w) :
 Calls prog 47 #[v0] w fun e w'=>∃ v,e=.returned v/\(∃ (A1:Av),GPost (subS Aq (zAE (.pointer (some ⟨b0,0,none⟩)))) (zAE (.pointer (some ⟨b0,0,none⟩))) w [ob (.pointer (some ⟨b0,0,none⟩)) (.box B0 69 zA5 r.2)] A1 w'/\(Fact.rep (eSl eStr) A1 r.1).ok v w'):=by
 refine Calls.mono (zF8 c d h0 hO0) ?_
 rintro e w' ⟨v,he,u0,A1,hG,hv⟩
 have hv:v=u0:=hv
 obtain ⟨h1,h2⟩:=zKD (d.subS _) hG (Nat.le_refl _)
 exact ⟨v,he,_,h1,hv ▸ h2⟩
def zCP (fu : Nat) : Nat -> Int -> zAI -> (List (List (List UInt8))) -> Option (zAI × (List (List (List UInt8))))
 | 0,_,_,_=>none
 | k+1,y12,y13,y14=>
 bif (decide (0<y12)) then (
 cl true (zCm fu y13) fun x18=>
 ck (zD4 (y14.length+([x18.1]:List (List (List UInt8))).length)) <|
 ck (i64B (y12-1)) <|
 zCP fu k (y12-1) x18.2 (y14++([x18.1]:List (List (List UInt8))))
 ) else (
 some (y13,y14)
 )
def zE4 (fu:Nat) (p0:zAI):Option ((List (List (List UInt8))) × zAI):=
 cl true (zBh fu p0 6) fun x5=>
 cl true (zCP fu fu x5.1 x5.2 ([]:List (List (List UInt8)))) fun s11=>
 some (s11.2,s11.1)
theorem zHu {fu : Nat} {Aq : Av} {p0 : zAI} {r : (List (List (List UInt8))) × zAI} (c : zE4 fu p0 = some r) {w : World} {v0 : Value} {b0 B0 : Nat} (d : AvOK Aq w) (h0 : v0=.pointer (some ⟨b0, 0, none⟩)) (hO0 : IniOK [ob (.pointer (some ⟨b0, 0, none⟩)) (.box B0 69 zA5 p0)] Aq w) :
 Calls prog 72 #[v0] w fun e w'=>∃ v,e=.returned v/\(∃ (u0:Value) (A1:Av),GPost (subS Aq (zAE (.pointer (some ⟨b0,0,none⟩)))) (zAE (.pointer (some ⟨b0,0,none⟩))) w [ob (.pointer (some ⟨b0,0,none⟩)) (.box B0 69 zA5 r.2),ob u0 (.vec w.heap.size 28 (eSl eStr) r.1)] A1 w'/\(Fact.raw u0).ok v w'):=by
 unfold zE4 at c
 obtain ⟨w0,hw0⟩:∃ w0,w0=w:=⟨_,Z⟩
 have j:Ch (zAE (.pointer (some ⟨b0,0,none⟩))) w0 w:=hw0 ▸ Ch.refl _ _
 obtain ⟨A0,hA0e⟩:∃ A0,A0=subS Aq (zAE (.pointer (some ⟨b0,0,none⟩))):=⟨_,Z⟩
 have C:∀ b o,A0 b o->b<w0.heap.size:=fun b o h=>hw0 ▸ d b o (hA0e ▸ h:subS Aq _ b o).1
 have K:∀ b o,A0 b o->¬ (zAE (.pointer (some ⟨b0,0,none⟩))) b:=fun b o h=>(hA0e ▸ h:subS Aq _ b o).2
 have hA00:AvOK A0 w0:=C
 rw [show GPost (subS Aq (zAE (.pointer (some ⟨b0,0,none⟩)))) (zAE (.pointer (some ⟨b0,0,none⟩))) w=GPost A0 (zAE (.pointer (some ⟨b0,0,none⟩))) w0 from by rw [hA0e,hw0]]
 rw [show w.heap.size=w0.heap.size from by rw [hw0]]
 obtain ⟨A,hAe⟩:∃ A,A=Aq:=⟨_,Z⟩
 have B:∀ b o,A0 b o->A b o:=fun b o h=>hAe ▸ (hA0e ▸ h:subS Aq _ b o).1
 replace d:AvOK A w:=hAe ▸ d
 have q:IniOK [ob (.pointer (some ⟨b0,0,none⟩)) (.box B0 69 zA5 p0)] A w:=hAe ▸ hO0
 clear hA0e hO0
 refine zAB [.tmp 2] func72 ntmps72 (by decide) Z Z (nb Z) ?_
 intro R hR
 replace h0:R 0=.pointer (some ⟨b0,0,none⟩):=(hR 0 _ Z).trans h0
 refine zPQ ?_
 refine zPT (eA::[]) ?_ ?_
 exact op (fun Q U W H D=>zA6 N)<|oz
 intro R w m n p
 replace h0:=k1 n h0
 replace q:=q.fr m
 replace d:=d.fr m.size
 replace j:=j.tr (m.ch noB) fun _ h=>False.elim h
 refine zPS [ob (.pointer (some ⟨b0,0,none⟩)) (.box B0 69 zA5 p0)] (⟨_,true,[],some (.vec w0.heap.size 28 (eSl eStr) ([]:List (List (List UInt8)))),true,fun A=>.any⟩::⟨_,true,[1],some (.vec w0.heap.size 28 (eSl eStr) ([]:List (List (List UInt8)))),true,fun A=>.any⟩::[]) (ua (ua (UAll.nil))) q d ?_ ?_
 exact rc (OblR.made _ Z Z Z Z fun V Q U O D=>by exact zBM [] (E:=eSl eStr) N underlying91 sizeOf28 zeroValue28 Z Z Z (Nat.le_trans j.size O.ch.size))<|rc (OblR.took 1 _ _ Z Z Z Z Z fun V Q U O D u X Y J L M=>by exact zAP (L _ _ Z Z Z Z).symm X Y)<|rz
 intro done ρ σ A R w y s
 replace h0:=k1 s.rg h0
 have z1:=s.inivR 0 Z
 obtain ⟨u2,e_u2⟩:∃ u,ρ 2=u:=⟨_,Z⟩
 have h3:=s.ov y 2 1 e_u2
 replace B:=s.lowK B C K (q.geK (⟨.inr (fun k h=>.inr h),N⟩))
 replace j:Ch (zAE (.pointer (some ⟨b0,0,none⟩))) w0 w:=j.tr s.ch (q.geK (⟨.inr (fun k h=>.inr h),N⟩))
 replace q:=s.left y [(0,ob (.pointer (some ⟨b0,0,none⟩)) (.box B0 69 zA5 p0)),(2,ob u2 (.vec w0.heap.size 28 (eSl eStr) ([]:List (List (List UInt8)))))] ⟨Z,Z,z1,Z,Z,⟨Z,Z,e_u2,Z,Z,N⟩⟩
 replace d:=s.avok
 refine zPQ ?_
 refine zPQ ?_
 refine SG.of<|SG.textR [ob (.pointer (some ⟨b0,0,none⟩)) (.box B0 69 zA5 p0),ob u2 (.vec w0.heap.size 28 (eSl eStr) ([]:List (List (List UInt8))))] (rR (.pointer (some ⟨b0,0,none⟩))::[]) 1 Z Z Z (by kernel_rfl) (by kernel_rfl) (Wf.mk' (by kernel_rfl) (ur (UAll.nil)) (by kernel_rfl) (by kernel_rfl)) q d (N) ?_ ?_
 exact rm h0<|rz
 intro done ρ σ A R w y s
 obtain ⟨h0,h3⟩:=k2 s.rg h0 h3
 have z3:=s.inivR 0 Z
 have z4:=s.inivR 1 Z
 have h6:=s.r y 0 Z
 replace B:=s.lowK B C K (q.geK (⟨.inr (fun k h=>.inr h),⟨.inl Z,N⟩⟩))
 replace j:Ch (zAE (.pointer (some ⟨b0,0,none⟩))) w0 w:=j.tr s.ch (q.geK (⟨.inr (fun k h=>.inr h),⟨.inl Z,N⟩⟩))
 replace q:=s.left y [(0,ob (.pointer (some ⟨b0,0,none⟩)) (.box B0 69 zA5 p0)),(1,ob u2 (.vec w0.heap.size 28 (eSl eStr) ([]:List (List (List UInt8)))))] ⟨Z,Z,z3,Z,Z,⟨Z,Z,z4,Z,Z,N⟩⟩
 replace d:=s.avok
 obtain ⟨x5,q6,c⟩:=zA9 c
 have hFz:w0.heap.size<=w.heap.size:=j.size
 refine SG.op 7 Z Z Z Z (zB7 call46 (zC2 (q6 Z) d h6 (q.sub [(0,ob (.pointer (some ⟨b0,0,none⟩)) (.box B0 69 zA5 p0))] ⟨Z,Z,N⟩) Z)) ?_
 rintro v_ w ⟨A,hG1,hv⟩ R n hd
 have hst:=zBO d hG1 (q.ok 0 _ Z).2
 replace B:∀ b o,A0 b o->A b o:=zBl B C K (q.geK (⟨.inr (fun k h=>.inr h),⟨.inl Z,N⟩⟩)) 0 Z hG1
 replace j:Ch (zAE (.pointer (some ⟨b0,0,none⟩))) w0 w:=j.tr hG1.ch (fun k hk=>(q.geK (⟨.inr (fun k h=>.inr h),⟨.inl Z,N⟩⟩)) k ⟨0,_,Z,hk⟩)
 replace q:=zPH q d 0 Z hG1
 replace d:=hG1.avok
 replace q:IniOK [ob (.pointer (some ⟨b0,0,none⟩)) (.box B0 69 zA5 x5.2),ob u2 (.vec w0.heap.size 28 (eSl eStr) ([]:List (List (List UInt8))))] A w:=q
 replace h0:=(n 0 Z).trans h0
 replace h3:=(n 3 Z).trans h3
 replace h6:=(n 6 Z).trans h6
 have h7:R 7=.int .i64 x5.1:=hd.trans hv
 clear hFz hG1 hv n hd
 refine SG.textR [ob (.pointer (some ⟨b0,0,none⟩)) (.box B0 69 zA5 x5.2),ob u2 (.vec w0.heap.size 28 (eSl eStr) ([]:List (List (List UInt8))))] (rR (.pointer (some ⟨b0,0,none⟩))::rI x5.1::rI x5.1::[]) 3 Z Z Z (by kernel_rfl) (by kernel_rfl) (Wf.mk' (by kernel_rfl) (ur (ur (ur (UAll.nil)))) (by kernel_rfl) (by kernel_rfl)) q d (⟨⟨Z,Z,Z,h6⟩,⟨⟨Z,Z,Z,h7⟩,N⟩⟩) ?_ ?_
 exact ra<|rz
 intro done ρ σ A R w y s
 obtain ⟨h0,h3⟩:=k2 s.rg h0 h3
 have z7:=s.inivR 0 Z
 have z8:=s.inivR 1 Z
 have h4:=s.r y 2 Z
 replace B:=s.lowK B C K (q.geK (⟨.inr (fun k h=>.inr h),⟨.inl Z,N⟩⟩))
 replace j:Ch (zAE (.pointer (some ⟨b0,0,none⟩))) w0 w:=j.tr s.ch (q.geK (⟨.inr (fun k h=>.inr h),⟨.inl Z,N⟩⟩))
 replace q:=s.left y [(0,ob (.pointer (some ⟨b0,0,none⟩)) (.box B0 69 zA5 x5.2)),(1,ob u2 (.vec w0.heap.size 28 (eSl eStr) ([]:List (List (List UInt8)))))] ⟨Z,Z,z7,Z,Z,⟨Z,Z,z8,Z,Z,N⟩⟩
 replace d:=s.avok
 refine zPa Z ?_
 obtain ⟨rl9,q10,c⟩:=zA9 c
 replace q10:=q10 Z
 refine zPL (fun R w=>∃ A:Av,∃ (s11:zAI × (List (List (List UInt8)))) (uo_u2:Value),rl9=s11/\AvOK A w/\Ch (zAE (.pointer (some ⟨b0,0,none⟩))) w0 w/\(∀ b o,A0 b o->A b o)/\IniOK [ob (.pointer (some ⟨b0,0,none⟩)) (.box B0 69 zA5 s11.1),ob uo_u2 (.vec w0.heap.size 28 (eSl eStr) s11.2)] A w/\R 3=uo_u2) ?_ ?_
 refine HT.block<|zPP (fun k R w=>∃ A:Av,∃ (y12:Int) (y13:zAI) (y14:List (List (List UInt8))) (ul_u2:Value),zCP fu k y12 y13 y14=some rl9/\AvOK A w/\Ch (zAE (.pointer (some ⟨b0,0,none⟩))) w0 w/\(∀ b o,A0 b o->A b o)/\IniOK [ob (.pointer (some ⟨b0,0,none⟩)) (.box B0 69 zA5 y13),ob ul_u2 (.vec w0.heap.size 28 (eSl eStr) y14)] A w/\R 0=(.pointer (some ⟨b0,0,none⟩))/\R 3=ul_u2/\R 4=.int .i64 y12) fu ⟨_,_,_,_,u2,q10,d,j,B,q,h0,h3,h4⟩ ?_
 have hr0:=c;clear c q10
 rintro k R w ⟨A,y12,y13,y14,ul_u2,c,d,j,B,q,h0,h3,h4⟩
 rcases k with _ | k
 cases (show none=some _ from c)
 rw [zCP] at c
 refine zPQ ?_
 refine zPQ ?_
 refine zPT (eI y12::eB (decide (0<y12))::[]) ?_ ?_
 exact om h4<|op (fun Q U W H D=>zEH (D.g 0 Z) Z)<|oz
 intro R w m n p
 obtain ⟨h0,h3,h4⟩:=k3 n h0 h3 h4
 have h9:=p.r 1 Z
 replace q:=q.fr m
 replace d:=d.fr m.size
 replace j:=j.tr (m.ch noB) fun _ h=>False.elim h
 refine zPJ (decide (0<y12)) h9 (fun c15=>?_) (fun c15=>?_)
 have c:=zAe c15 c
 refine HT.skip<|zPQ ?_
 refine HT.block<|SG.of<|SG.textR [ob (.pointer (some ⟨b0,0,none⟩)) (.box B0 69 zA5 y13),ob ul_u2 (.vec w0.heap.size 28 (eSl eStr) y14)] (rR ul_u2::rR (.pointer (some ⟨b0,0,none⟩))::[]) 2 Z Z Z (by kernel_rfl) (by kernel_rfl) (Wf.mk' (by kernel_rfl) (ur (ur (UAll.nil))) (by kernel_rfl) (by kernel_rfl)) q d (N) ?_ ?_
 exact rm h3<|rm h0<|rz
 intro done ρ σ A R w y s
 obtain ⟨h0,h3,h4⟩:=k3 s.rg h0 h3 h4
 have z16:=s.inivR 0 Z
 have z17:=s.inivR 1 Z
 have h12:=s.r y 0 Z
 have h13:=s.r y 1 Z
 replace B:=s.lowK B C K (q.geK (⟨.inr (fun k h=>.inr h),⟨.inl Z,N⟩⟩))
 replace j:Ch (zAE (.pointer (some ⟨b0,0,none⟩))) w0 w:=j.tr s.ch (q.geK (⟨.inr (fun k h=>.inr h),⟨.inl Z,N⟩⟩))
 replace q:=s.left y [(0,ob (.pointer (some ⟨b0,0,none⟩)) (.box B0 69 zA5 y13)),(1,ob ul_u2 (.vec w0.heap.size 28 (eSl eStr) y14))] ⟨Z,Z,z16,Z,Z,⟨Z,Z,z17,Z,Z,N⟩⟩
 replace d:=s.avok
 obtain ⟨x18,q19,c⟩:=zA9 c
 have hFz:w0.heap.size<=w.heap.size:=j.size
 refine SG.op 14 Z Z Z Z (zB7 call47 (zF8 (q19 Z) d h13 (q.sub [(0,ob (.pointer (some ⟨b0,0,none⟩)) (.box B0 69 zA5 y13))] ⟨Z,Z,N⟩))) ?_
 rintro v_ w ⟨u20,A,hG1,hv⟩ R n hd
 have hst:=zBO d hG1 (q.ok 0 _ Z).2
 replace B:∀ b o,A0 b o->A b o:=zBl B C K (q.geK (⟨.inr (fun k h=>.inr h),⟨.inl Z,N⟩⟩)) 0 Z hG1
 replace j:Ch (zAE (.pointer (some ⟨b0,0,none⟩))) w0 w:=j.tr hG1.ch (fun k hk=>(q.geK (⟨.inr (fun k h=>.inr h),⟨.inl Z,N⟩⟩)) k ⟨0,_,Z,hk⟩)
 replace q:=zPH q d 0 Z hG1
 replace d:=hG1.avok
 replace q:=q.reV (B':=w0.heap.size) 1 Z hFz
 replace q:IniOK [ob (.pointer (some ⟨b0,0,none⟩)) (.box B0 69 zA5 x18.2),ob u20 (.vec w0.heap.size 9 eStr x18.1),ob ul_u2 (.vec w0.heap.size 28 (eSl eStr) y14)] A w:=q
 replace h0:=(n 0 Z).trans h0
 replace h3:=(n 3 Z).trans h3
 replace h4:=(n 4 Z).trans h4
 replace h12:=(n 12 Z).trans h12
 replace h13:=(n 13 Z).trans h13
 have h14:R 14=u20:=hd.trans hv
 clear hFz hG1 hv n hd
 replace q:IniOK [ob u20 (.vec w0.heap.size 9 eStr x18.1),ob (.pointer (some ⟨b0,0,none⟩)) (.box B0 69 zA5 x18.2),ob ul_u2 (.vec w0.heap.size 28 (eSl eStr) y14)] A w:=q.sub [(1,ob u20 (.vec w0.heap.size 9 eStr x18.1)),(0,ob (.pointer (some ⟨b0,0,none⟩)) (.box B0 69 zA5 x18.2)),(2,ob ul_u2 (.vec w0.heap.size 28 (eSl eStr) y14))] ⟨Z,Z,⟨Z,Z,⟨Z,Z,N⟩⟩⟩
 obtain ⟨A,hle,B,d,q,f_u20⟩:=q.freeze d B C
 clear hle
 obtain ⟨e21,c⟩:=zAG c
 refine SG.textR [ob (.pointer (some ⟨b0,0,none⟩)) (.box B0 69 zA5 x18.2),ob ul_u2 (.vec w0.heap.size 28 (eSl eStr) y14)] (rR ul_u2::rR (.pointer (some ⟨b0,0,none⟩))::rR u20::(rF fun A=>.rep (eSl (eSl eStr)) A ([x18.1]:List (List (List UInt8))))::⟨_,true,[1],some (.vec w0.heap.size 28 (eSl eStr) (y14++([x18.1]:List (List (List UInt8))))),true,fun A=>.any⟩::⟨_,true,[6],some (.vec w0.heap.size 28 (eSl eStr) (y14++([x18.1]:List (List (List UInt8))))),true,fun A=>.any⟩::[]) 6 Z Z Z (by kernel_rfl) (by kernel_rfl) (Wf.mk' (by kernel_rfl) (ur (ur (ur (up (ua (ua (UAll.nil))))))) (by kernel_rfl) (by kernel_rfl)) q d (⟨⟨Z,Z,Z,h12⟩,⟨⟨Z,Z,Z,h13⟩,⟨⟨Z,Z,Z,h14⟩,N⟩⟩⟩) ?_ ?_
 exact rp (fun V Q U O D=>zC7 [_] (E:=eSl eStr) ⟨((f_u20.stp O.stp).eq (D.g 0 Z)),N⟩ underlying91 sizeOf28 zeroValue28 Z Z Z O.av)<|rc (OblR.took 1 _ _ Z Z Z Z Z fun V Q U O D u X Y J L M=>by have a0:Q 12=ul_u2:=D.g 0 Z;have a1:Rep (eSl (eSl eStr)) V U (Q 15) ([x18.1]:List (List (List UInt8))):=D.g 1 Z;exact zAs (a0.trans (J _ Z).symm) X Y (Nat.le_trans j.size O.ch.size) a1 underlying91 zPC e21)<|rc (OblR.took 6 _ _ Z Z Z Z Z fun V Q U O D u X Y J L M=>by exact zAP (L _ _ Z Z Z Z).symm X Y)<|rz
 intro done ρ σ A R w y s
 obtain ⟨h0,h4⟩:=k2 s.rg h0 h4
 have z22:=s.inivR 0 Z
 obtain ⟨u23,e_u23⟩:∃ u,ρ 7=u:=⟨_,Z⟩
 have h3:=s.ov y 7 5 e_u23
 replace B:=s.lowK B C K (q.geK (⟨.inr (fun k h=>.inr h),⟨.inl Z,N⟩⟩))
 replace j:Ch (zAE (.pointer (some ⟨b0,0,none⟩))) w0 w:=j.tr s.ch (q.geK (⟨.inr (fun k h=>.inr h),⟨.inl Z,N⟩⟩))
 replace q:=s.left y [(0,ob (.pointer (some ⟨b0,0,none⟩)) (.box B0 69 zA5 x18.2)),(7,ob u23 (.vec w0.heap.size 28 (eSl eStr) (y14++([x18.1]:List (List (List UInt8))))))] ⟨Z,Z,z22,Z,Z,⟨Z,Z,e_u23,Z,Z,N⟩⟩
 replace d:=s.avok
 refine zPa Z ?_
 obtain ⟨e24,c⟩:=zAG c
 refine zPT (eI y12::eI (y12-1)::eI (y12-1)::[]) ?_ ?_
 exact om h4<|op (fun Q U W H D=>zDf (D.g 0 Z) Z e24)<|oa<|oz
 intro R w m n p
 obtain ⟨h0,h3⟩:=k2 n h0 h3
 have h4:=p.r 2 Z
 replace q:=q.fr m
 replace d:=d.fr m.size
 replace j:=j.tr (m.ch noB) fun _ h=>False.elim h
 exact ei k (And.intro (Nat.lt_succ_self k) ⟨_,_,_,_,u23,c,d,j,B,q,h0,h3,h4⟩)
 have c:=zAd c15 c
 refine zPO ?_
 obtain rfl:=si c
 exact ei _ ⟨_,ul_u2,Z,d,j,B,q,h3⟩
 rintro R w ⟨A,s11,uo_u2,es,d,j,B,q,h3⟩
 obtain rfl:=es.symm
 refine zPQ ?_
 refine zPT (eR uo_u2::eR uo_u2::[]) ?_ ?_
 exact om h3<|oa<|oz
 intro R w m n p
 have h2:=p.r 1 Z
 replace q:=q.fr m
 replace d:=d.fr m.size
 replace j:=j.tr (m.ch noB) fun _ h=>False.elim h
 refine HT.ret ?_
 obtain rfl:=si c
 obtain ⟨A1,hA1,hG1⟩:=GPost.of q d B (q.geK (⟨.inr (fun k h=>.inr h),⟨.inl Z,N⟩⟩)) j
 exact ⟨.inr Z,[R 2],⟨Z,N⟩,uo_u2,A1,hG1,h2⟩
def zCx (fu : Nat) (p0 : List (List UInt8)) (p1 : List UInt8) : Nat -> Int -> Option (Ex Bool Unit)
 | 0,_=>none
 | k+1,y4=>
 bif (decide (y4<(p0.length:Int))) then (
 ck (inR y4 p0.length) <|
 bif ((gtD p0 y4)==p1) then (
 some (Ex.ret true)
 ) else (
 ck (i64B (y4+1)) <|
 zCx fu p0 p1 k (y4+1)
 )
 ) else (
 some (Ex.go ())
 )
def zEE (fu:Nat) (p0:List (List UInt8)) (p1:List UInt8):Option Bool:=
 cl true (zCx fu p0 p1 fu 0) fun rl1=>
 exM rl1 (fun r=>some r) fun s3=>
 some false
theorem zGR {fu : Nat} {A : Av} {p0 : List (List UInt8)} {p1 : List UInt8} {r : Bool} (c : zEE fu p0 p1 = some r) {w : World} {v0 : Value} {v1 : Value} (d : AvOK A w) (h0 : Rep (eSl eStr) A w v0 p0) (h1 : Rep eStr A w v1 p1) :
 Calls prog 84 #[v0,v1] w fun e w'=>∃ v,e=.returned v/\(v=.bool r/\Fr w w'):=by
 unfold zEE at c
 obtain ⟨w0,hw0,j⟩:=pf w
 rw [fw hw0]
 refine zAB [.tmp 4] func84 ntmps84 (by decide) Z Z (nb Z) ?_
 intro R hR
 have f_v0:=h0
 replace h0:R 0=v0:=hR 0 _ Z
 have f_v1:=h1
 replace h1:R 1=v1:=hR 1 _ Z
 refine zPR d j (eB false::[]) ?_ ?_
 exact op (fun Q U W H D=>zA6 Z)<|oz
 intro R w m n p d j
 obtain ⟨h0,h1⟩:=k2 n h0 h1
 replace f_v0:=f_v0.fr m
 replace f_v1:=f_v1.fr m
 refine zPQ ?_
 refine zPR d j (eI 0::[]) ?_ ?_
 exact op (fun Q U W H D=>zA6 Z)<|oz
 intro R w m n p d j
 obtain ⟨h0,h1⟩:=k2 n h0 h1
 have h5:=p.r 0 Z
 replace f_v0:=f_v0.fr m
 replace f_v1:=f_v1.fr m
 obtain ⟨rl1,q2,c⟩:=zA9 c
 replace q2:=q2 Z
 refine zPL (fun R w=>∃ (s3:Unit),rl1=Ex.go s3/\AvOK A w/\Fr w0 w) ?_ ?_
 refine HT.block<|zPP (fun k R w=>∃ (y4:Int),zCx fu p0 p1 k y4=some rl1/\AvOK A w/\Fr w0 w/\R 0=v0/\R 1=v1/\R 5=.int .i64 y4/\Rep (eSl eStr) A w v0 p0/\Rep eStr A w v1 p1) fu ⟨_,q2,d,j,h0,h1,h5,f_v0,f_v1⟩ ?_
 have hr0:=c;clear c q2
 rintro k R w ⟨y4,c,d,j,h0,h1,h5,f_v0,f_v1⟩
 rcases k with _ | k
 cases (show none=some _ from c)
 rw [zCx] at c
 refine zPQ ?_
 refine zPR d j (eI y4::eR v0::eI (p0.length:Int)::eB (decide (y4<(p0.length:Int)))::[]) ?_ ?_
 exact om h5<|om h0<|op (fun Q U W H D=>zAN (aT:=#[]) ((f_v0.fr W).eq (D.g 0 Z)) underlying28)<|op (fun Q U W H D=>zB8 (D.g 0 Z) (D.g 1 Z))<|oz
 intro R w m n p d j
 obtain ⟨h0,h1,h5⟩:=k3 n h0 h1 h5
 have h9:=p.r 3 Z
 replace f_v0:=f_v0.fr m
 replace f_v1:=f_v1.fr m
 refine zPJ (decide (y4<(p0.length:Int))) h9 (fun c5=>?_) (fun c5=>?_)
 have c:=zAe c5 c
 refine HT.skip<|zPQ ?_
 refine HT.block ?_
 obtain ⟨e6,c⟩:=zAG c
 refine zPR d j (eR v0::eI y4::eF (.qtr eStr A (gtD p0 y4))::eF (.rep eStr A (gtD p0 y4))::eR v1::eB ((gtD p0 y4)==p1)::[]) ?_ ?_
 exact om h0<|om h5<|op (fun Q U W H D=>zAC ((f_v0.fr W).eq (D.g 0 Z)) (D.g 1 Z) underlying28 sizeOf9 e6)<|op (fun Q U W H D=>(zAT (QRep.ptr (D.g 0 Z)) isAgg9 sizeOf9))<|om h1<|op (fun Q U W H D=>zFc (D.g 0 Z) ((f_v1.fr W).eq (D.g 1 Z)))<|oz
 intro R w m n p d j
 obtain ⟨h0,h1,h5⟩:=k3 n h0 h1 h5
 have h17:=p.r 5 Z
 replace f_v0:=f_v0.fr m
 replace f_v1:=f_v1.fr m
 refine zPJ ((gtD p0 y4)==p1) h17 (fun c7=>?_) (fun c7=>?_)
 have c:=zAe c7 c
 refine zPR d j (eB true::[]) ?_ ?_
 exact op (fun Q U W H D=>zA6 Z)<|oz
 intro R w m n p d j
 have h4:=p.r 0 Z
 refine HT.ret ?_
 obtain rfl:=si c
 have c:=hr0
 replace c:some _=some _:=c
 obtain rfl:=si c
 exact ⟨.inr Z,[R 4],⟨Z,N⟩,h4,j⟩
 have c:=zAd c7 c
 refine HT.skip ?_
 obtain ⟨e8,c⟩:=zAG c
 refine HT.u d j (eI y4::eI (y4+1)::eI (y4+1)::[]) ?_ ?_
 exact om h5<|op (fun Q U W H D=>zAi (D.g 0 Z) Z e8)<|oa<|oz
 intro R w m n p d j
 obtain ⟨h0,h1⟩:=k2 n h0 h1
 have h5:=p.r 2 Z
 replace f_v0:=f_v0.fr m
 replace f_v1:=f_v1.fr m
 exact ei k (And.intro (Nat.lt_succ_self k) ⟨_,c,d,j,h0,h1,h5,f_v0,f_v1⟩)
 have c:=zAd c5 c
 refine zPO ?_
 obtain rfl:=si c
 exact ei _ ⟨Z,d,j⟩
 rintro R w ⟨s3,rfl,d,j⟩
 have c:=zEK c
 refine zPR d j (eB false::[]) ?_ ?_
 exact op (fun Q U W H D=>zA6 Z)<|oz
 intro R w m n p d j
 have h4:=p.r 0 Z
 refine HT.ret ?_
 obtain rfl:=si c
 exact ⟨.inr Z,[R 4],⟨Z,N⟩,h4,j⟩
def zB2 (fu : Nat) (p0 : List (List (List UInt8))) (y5 : Int) : Nat -> Int -> (List (List UInt8)) -> Option (List (List UInt8))
 | 0,_,_=>none
 | k+1,y11,y12=>
 ck (inR y5 p0.length) <|
 bif (decide (y11<((gtD p0 y5).length:Int))) then (
 ck (inR y5 p0.length) <|
 ck (subR 0 y11 (gtD p0 y5).length) <|
 ck (inR y5 p0.length) <|
 ck (inR y11 (gtD p0 y5).length) <|
 cl true (zEE fu (subL (gtD p0 y5) 0 y11) (gtD (gtD p0 y5) y11)) fun x19=>
 bif (!x19) then (
 ck (inR y5 p0.length) <|
 ck (inR y11 (gtD p0 y5).length) <|
 cl true (zDA fu y12 (gtD (gtD p0 y5) y11) true) fun x24=>
 ck (i64B (y11+1)) <|
 zB2 fu p0 y5 k (y11+1) x24
 ) else (
 ck (i64B (y11+1)) <|
 zB2 fu p0 y5 k (y11+1) y12
 )
 ) else (
 some y12
 )
def zBL (fu : Nat) (p0 : List (List (List UInt8))) : Nat -> Int -> (List (List UInt8)) -> Option (List (List UInt8))
 | 0,_,_=>none
 | k+1,y5,y6=>
 bif (decide (y5<(p0.length:Int))) then (
 cl true (zB2 fu p0 y5 fu 0 y6) fun s10=>
 ck (i64B (y5+1)) <|
 zBL fu p0 k (y5+1) s10
 ) else (
 some y6
 )
def zAc (fu : Nat) (s4 : (List (List UInt8))) : Nat -> Int -> (List zA3) -> Option (List zA3)
 | 0,_,_=>none
 | k+1,y35,y36=>
 bif (decide (y35<(s4.length:Int))) then (
 ck (!(true&&((decide (0<y35))==true)) || i64B (y35-1)) <|
 ck (!(true&&((decide (0<y35))==true)) || inR (y35-1) s4.length) <|
 ck (!(true&&((decide (0<y35))==true)) || inR y35 s4.length) <|
 bd ((decide (0<y35))&&((gtD s4 (y35-1))==(gtD s4 y35))) fun x41=>
 bif x41 then (
 ck (i64B ((y36.length:Int)-1)) <|
 ck (i64B ((y36.length:Int)-1)) <|
 ck (inR ((y36.length:Int)-1) y36.length) <|
 ck (i64B (((gtD y36 ((y36.length:Int)-1)).2)+1)) <|
 ck (inR ((y36.length:Int)-1) y36.length) <|
 ck (i64B (y35+1)) <|
 zAc fu s4 k (y35+1) (y36.set ((y36.length:Int)-1).toNat ((gtD y36 ((y36.length:Int)-1)).1,(((gtD y36 ((y36.length:Int)-1)).2)+1)))
 ) else (
 ck (inR y35 s4.length) <|
 ck (zD4 (y36.length+([((gtD s4 y35),1)]:List zA3).length)) <|
 ck (i64B (y35+1)) <|
 zAc fu s4 k (y35+1) (y36++([((gtD s4 y35),1)]:List zA3))
 )
 ) else (
 some y36
 )
def zC9 (fu:Nat) (p0:List (List (List UInt8))):Option (List zA3):=
 cl true (zBL fu p0 fu 0 ([]:List (List UInt8))) fun s4=>
 cl true (zAc fu s4 fu 0 ([]:List zA3)) fun s34=>
 some s34
set_option linter.unusedSimpArgs false in
theorem zGQ {fu : Nat} {A0 : Av} {p0 : List (List (List UInt8))} {r : List zA3} (c : zC9 fu p0 = some r) {w : World} {v0 : Value} (d : AvOK A0 w) (h0 : Rep (eSl (eSl eStr)) A0 w v0 p0) :
 Calls prog 71 #[v0] w fun e w'=>∃ v,e=.returned v/\((Res.vec w.heap.size 83 zA0 r).ok (addA A0 v) v w'/\Fr w w'):=by
 unfold zC9 at c
 obtain ⟨w0,hw0,j,C⟩:=pw d
 have hA00:AvOK A0 w0:=C
 rw [fh hw0]
 rw [fw hw0]
 obtain ⟨A,hAe,B,d,q⟩:=pa d
 refine zAB [.tmp 2] func71 ntmps71 (by decide) Z Z (nb Z) ?_
 intro R hR
 have f_v0:Rep (eSl (eSl eStr)) A w v0 p0:=hAe ▸ h0
 replace h0:R 0=v0:=hR 0 _ Z
 refine zPR d j (eA::[]) ?_ ?_
 exact op (fun Q U W H D=>zA6 N)<|oz
 intro R w m n p d j
 replace h0:=k1 n h0
 replace f_v0:=f_v0.fr m
 replace q:=q.fr m
 refine zPS [] (⟨_,true,[],some (.vec w0.heap.size 9 eStr ([]:List (List UInt8))),true,fun A=>.any⟩::⟨_,true,[0],some (.vec w0.heap.size 9 eStr ([]:List (List UInt8))),true,fun A=>.any⟩::[]) (ua (ua (UAll.nil))) q d ?_ ?_
 exact rc (OblR.made _ Z Z Z Z fun V Q U O D=>by exact zBM [] (E:=eStr) N underlying28 sizeOf9 zeroValue9 Z Z Z (Nat.le_trans j.size O.ch.size))<|rc (OblR.took 0 _ _ Z Z Z Z Z fun V Q U O D u X Y J L M=>by exact zAP (L _ _ Z Z Z Z).symm X Y)<|rz
 intro done ρ σ A R w y s
 replace h0:=k1 s.rg h0
 obtain ⟨u1,e_u1⟩:∃ u,ρ 1=u:=⟨_,Z⟩
 have h3:=s.ov y 1 1 e_u1
 replace f_v0:=f_v0.stp s.stp
 obtain ⟨B,j,d⟩:=s.s B C j q N
 replace q:=s.left y [(1,ob u1 (.vec w0.heap.size 9 eStr ([]:List (List UInt8))))] ⟨Z,Z,e_u1,Z,Z,N⟩
 refine zPQ ?_
 refine zPR d j (eI 0::[]) ?_ ?_
 exact op (fun Q U W H D=>zA6 Z)<|oz
 intro R w m n p d j
 obtain ⟨h0,h3⟩:=k2 n h0 h3
 have h4:=p.r 0 Z
 replace f_v0:=f_v0.fr m
 replace q:=q.fr m
 obtain ⟨rl2,q3,c⟩:=zA9 c
 replace q3:=q3 Z
 refine zPL (fun R w=>∃ A:Av,∃ (s4:(List (List UInt8))) (uo_u1:Value),rl2=s4/\AvOK A w/\Fr w0 w/\(∀ b o,A0 b o->A b o)/\IniOK [ob uo_u1 (.vec w0.heap.size 9 eStr s4)] A w/\R 3=uo_u1) ?_ ?_
 refine HT.block<|zPP (fun k R w=>∃ A:Av,∃ (y5:Int) (y6:List (List UInt8)) (ul_u1:Value),zBL fu p0 k y5 y6=some rl2/\AvOK A w/\Fr w0 w/\(∀ b o,A0 b o->A b o)/\IniOK [ob ul_u1 (.vec w0.heap.size 9 eStr y6)] A w/\R 0=v0/\R 3=ul_u1/\R 4=.int .i64 y5/\Rep (eSl (eSl eStr)) A w v0 p0) fu ⟨_,_,_,u1,q3,d,j,B,q,h0,h3,h4,f_v0⟩ ?_
 have hr0:=c;clear c q3
 rintro k R w ⟨A,y5,y6,ul_u1,c,d,j,B,q,h0,h3,h4,f_v0⟩
 rcases k with _ | k
 cases (show none=some _ from c)
 rw [zBL] at c
 refine zPQ ?_
 refine zPR d j (eI y5::eR v0::eI (p0.length:Int)::eB (decide (y5<(p0.length:Int)))::[]) ?_ ?_
 exact om h4<|om h0<|op (fun Q U W H D=>zAN (aT:=#[]) ((f_v0.fr W).eq (D.g 0 Z)) underlying91)<|op (fun Q U W H D=>zB8 (D.g 0 Z) (D.g 1 Z))<|oz
 intro R w m n p d j
 obtain ⟨h0,h3,h4⟩:=k3 n h0 h3 h4
 have h12:=p.r 3 Z
 replace f_v0:=f_v0.fr m
 replace q:=q.fr m
 refine zPJ (decide (y5<(p0.length:Int))) h12 (fun c7=>?_) (fun c7=>?_)
 have c:=zAe c7 c
 refine HT.skip<|zPQ ?_
 refine HT.block<|zPR d j (eI 0::[]) ?_ ?_
 exact op (fun Q U W H D=>zA6 Z)<|oz
 intro R w m n p d j
 obtain ⟨h0,h3,h4⟩:=k3 n h0 h3 h4
 have h5:=p.r 0 Z
 replace f_v0:=f_v0.fr m
 replace q:=q.fr m
 obtain ⟨rl8,q9,c⟩:=zA9 c
 replace q9:=q9 Z
 refine zPL (fun R w=>∃ A:Av,∃ (s10:(List (List UInt8))) (uo_ul_u1:Value),rl8=s10/\AvOK A w/\Fr w0 w/\(∀ b o,A0 b o->A b o)/\IniOK [ob uo_ul_u1 (.vec w0.heap.size 9 eStr s10)] A w/\R 0=v0/\R 3=uo_ul_u1/\R 4=.int .i64 y5/\Rep (eSl (eSl eStr)) A w v0 p0) ?_ ?_
 refine HT.block<|zPP (fun k R w=>∃ A:Av,∃ (y11:Int) (y12:List (List UInt8)) (ul_ul_u1:Value),zB2 fu p0 y5 k y11 y12=some rl8/\AvOK A w/\Fr w0 w/\(∀ b o,A0 b o->A b o)/\IniOK [ob ul_ul_u1 (.vec w0.heap.size 9 eStr y12)] A w/\R 0=v0/\R 3=ul_ul_u1/\R 4=.int .i64 y5/\R 5=.int .i64 y11/\Rep (eSl (eSl eStr)) A w v0 p0) fu ⟨_,_,_,ul_u1,q9,d,j,B,q,h0,h3,h4,h5,f_v0⟩ ?_
 have hr0:=c;clear c q9
 rintro k R w ⟨A,y11,y12,ul_ul_u1,c,d,j,B,q,h0,h3,h4,h5,f_v0⟩
 rcases k with _ | k
 cases (show none=some _ from c)
 rw [zB2] at c
 refine zPQ ?_
 obtain ⟨e13,c⟩:=zAG c
 refine zPR d j (eI y11::eR v0::eI y5::eF (.qtr (eSl eStr) A (gtD p0 y5))::eF (.rep (eSl eStr) A (gtD p0 y5))::eI ((gtD p0 y5).length:Int)::eB (decide (y11<((gtD p0 y5).length:Int)))::[]) ?_ ?_
 exact om h5<|om h0<|om h4<|op (fun Q U W H D=>zAC ((f_v0.fr W).eq (D.g 0 Z)) (D.g 1 Z) underlying91 sizeOf28 e13)<|op (fun Q U W H D=>(zAT (QRep.ptr (D.g 0 Z)) isAgg28 sizeOf28))<|op (fun Q U W H D=>zAN (aT:=#[]) (D.g 0 Z) underlying28)<|op (fun Q U W H D=>zB8 (D.g 0 Z) (D.g 1 Z))<|oz
 intro R w m n p d j
 obtain ⟨h0,h3,h4,h5⟩:=k4 n h0 h3 h4 h5
 have h21:=p.r 6 Z
 replace f_v0:=f_v0.fr m
 replace q:=q.fr m
 refine zPJ (decide (y11<((gtD p0 y5).length:Int))) h21 (fun c14=>?_) (fun c14=>?_)
 have c:=zAe c14 c
 refine HT.skip<|zPQ ?_
 refine HT.block<|zPQ ?_
 obtain ⟨e15,e16,e17,e18,c⟩:=ck4 c
 obtain ⟨x19,q20,c⟩:=zA9 c
 refine zPM (by kernel_rfl) (l:=eR v0::eI y5::eF (.qtr (eSl eStr) A (gtD p0 y5))::eF (.rep (eSl eStr) A (gtD p0 y5))::eI y11::eF (.rep (eSl eStr) A (subL (gtD p0 y5) 0 y11))::eR v0::eI y5::eF (.qtr (eSl eStr) A (gtD p0 y5))::eF (.rep (eSl eStr) A (gtD p0 y5))::eI y11::eF (.qtr eStr A (gtD (gtD p0 y5) y11))::eF (.rep eStr A (gtD (gtD p0 y5) y11))::eB x19::eB (!x19)::[]) (tl:=[]) (by kernel_rfl) (by kernel_rfl) (by kernel_rfl) (by kernel_rfl) ?_ ?_
 exact om h0<|om h4<|op (fun Q U W H D=>zAC ((f_v0.fr W).eq (D.g 0 Z)) (D.g 1 Z) underlying91 sizeOf28 e15)<|op (fun Q U W H D=>(zAT (QRep.ptr (D.g 0 Z)) isAgg28 sizeOf28))<|om h5<|op (fun Q U W H D=>zFO (D.g 0 Z) (D.g 1 Z) underlying28 sizeOf9 e16)<|om h0<|om h4<|op (fun Q U W H D=>zAC ((f_v0.fr W).eq (D.g 0 Z)) (D.g 1 Z) underlying91 sizeOf28 e17)<|op (fun Q U W H D=>(zAT (QRep.ptr (D.g 0 Z)) isAgg28 sizeOf28))<|om h5<|op (fun Q U W H D=>zAC (D.g 0 Z) (D.g 1 Z) underlying28 sizeOf9 e18)<|op (fun Q U W H D=>(zAT (QRep.ptr (D.g 0 Z)) isAgg9 sizeOf9))<|op (fun Q U W H D=>zAM call84 (zGR (q20 Z) (d.fr W.size) (D.g 0 Z) (D.g 1 Z)))<|op (fun Q U W H D=>zBY (D.g 0 Z))<|oz
 intro R w m n p
 obtain ⟨h0,h3,h4,h5⟩:=k4 n h0 h3 h4 h5
 have h38:=p.r 14 Z
 replace f_v0:=f_v0.fr m
 replace q:=q.fr m
 replace d:=d.fr m.size
 replace j:=j.trans m
 refine zPJ (!x19) h38 (fun c21=>?_) (fun c21=>?_)
 have c:=zAe c21 c
 obtain ⟨e22,e23,c⟩:=ck2 c
 obtain ⟨x24,q25,c⟩:=zA9 c
 refine zPV [ob ul_ul_u1 (.vec w0.heap.size 9 eStr y12)] (rR ul_ul_u1::rR v0::rI y5::(rF fun A=>.qtr (eSl eStr) A (gtD p0 y5))::(rF fun A=>.rep (eSl eStr) A (gtD p0 y5))::rI y11::(rF fun A=>.qtr eStr A (gtD (gtD p0 y5) y11))::(rF fun A=>.rep eStr A (gtD (gtD p0 y5) y11))::⟨_,true,[0],some (.vec w0.heap.size 9 eStr x24),true,fun A=>.any⟩::⟨_,true,[9],some (.vec w0.heap.size 9 eStr x24),true,fun A=>.any⟩::[]) (ur (ur (ur (UAll.cons zCM (up (ur (UAll.cons zCM (up (ua (ua (UAll.nil))))))))))) q d ?_ ?_
 exact rm h3<|rm h0<|rm h4<|rp (fun V Q U O D=>zAC ((f_v0.stp O.stp).eq (D.g 0 Z)) (D.g 1 Z) underlying91 sizeOf28 e22)<|rp (fun V Q U O D=>(zAT (QRep.ptr (D.g 0 Z)) isAgg28 sizeOf28))<|rm h5<|rp (fun V Q U O D=>zAC (D.g 0 Z) (D.g 1 Z) underlying28 sizeOf9 e23)<|rp (fun V Q U O D=>(zAT (QRep.ptr (D.g 0 Z)) isAgg9 sizeOf9))<|rc (OblR.took 0 _ _ Z Z Z Z Z fun V Q U O D u X Y J L M=>by have a0:Q 39=ul_ul_u1:=D.g 0 Z;have a1:Rep eStr V U (Q 46) (gtD (gtD p0 y5) y11):=D.g 1 Z;have hu0:zAL Q (.tmp 39)=u:=a0.trans (J _ Z).symm;exact zEg call74 Y (by simp only [List.map,hu0];exact zDh (q25 Z) (O.av.sub _) (fun b o h=>h.2) (Nat.le_trans j.size O.ch.size) (Vec.flat X (fun _ _ _ _ _ h=>h)) (a1.less fun b o h=>h.1) Z))<|rc (OblR.took 9 _ _ Z Z Z Z Z fun V Q U O D u X Y J L M=>by exact zAP (L _ _ Z Z Z Z).symm X Y)<|rz
 intro done ρ σ A R w y s
 obtain ⟨h0,h4,h5⟩:=k3 s.rg h0 h4 h5
 obtain ⟨u26,e_u26⟩:∃ u,ρ 10=u:=⟨_,Z⟩
 have h3:=s.ov y 10 9 e_u26
 replace f_v0:=f_v0.stp s.stp
 obtain ⟨B,j,d⟩:=s.s B C j q ⟨Z,N⟩
 replace q:=s.left y [(10,ob u26 (.vec w0.heap.size 9 eStr x24))] ⟨Z,Z,e_u26,Z,Z,N⟩
 obtain ⟨e27,c⟩:=zAG c
 refine HT.u d j (eI y11::eI (y11+1)::eI (y11+1)::[]) ?_ ?_
 exact om h5<|op (fun Q U W H D=>zAi (D.g 0 Z) Z e27)<|oa<|oz
 intro R w m n p d j
 obtain ⟨h0,h3,h4⟩:=k3 n h0 h3 h4
 have h5:=p.r 2 Z
 replace f_v0:=f_v0.fr m
 replace q:=q.fr m
 exact ei k (And.intro (Nat.lt_succ_self k) ⟨_,_,_,u26,c,d,j,B,q,h0,h3,h4,h5,f_v0⟩)
 have c:=zAd c21 c
 refine HT.skip ?_
 obtain ⟨e28,c⟩:=zAG c
 refine HT.u d j (eI y11::eI (y11+1)::eI (y11+1)::[]) ?_ ?_
 exact om h5<|op (fun Q U W H D=>zAi (D.g 0 Z) Z e28)<|oa<|oz
 intro R w m n p d j
 obtain ⟨h0,h3,h4⟩:=k3 n h0 h3 h4
 have h5:=p.r 2 Z
 replace f_v0:=f_v0.fr m
 replace q:=q.fr m
 exact ei k (And.intro (Nat.lt_succ_self k) ⟨_,_,_,ul_ul_u1,c,d,j,B,q,h0,h3,h4,h5,f_v0⟩)
 have c:=zAd c14 c
 refine zPO ?_
 obtain rfl:=si c
 exact ei _ ⟨_,ul_ul_u1,Z,d,j,B,q,h0,h3,h4,f_v0⟩
 rintro R w ⟨A,s10,uo_ul_u1,es,d,j,B,q,h0,h3,h4,f_v0⟩
 obtain rfl:=es.symm
 obtain ⟨e29,c⟩:=zAG c
 refine HT.u d j (eI y5::eI (y5+1)::eI (y5+1)::[]) ?_ ?_
 exact om h4<|op (fun Q U W H D=>zAi (D.g 0 Z) Z e29)<|oa<|oz
 intro R w m n p d j
 obtain ⟨h0,h3⟩:=k2 n h0 h3
 have h4:=p.r 2 Z
 replace f_v0:=f_v0.fr m
 replace q:=q.fr m
 exact ei k (And.intro (Nat.lt_succ_self k) ⟨_,_,_,uo_ul_u1,c,d,j,B,q,h0,h3,h4,f_v0⟩)
 have c:=zAd c7 c
 refine zPO ?_
 obtain rfl:=si c
 exact ei _ ⟨_,ul_u1,Z,d,j,B,q,h3⟩
 rintro R w ⟨A,s4,uo_u1,es,d,j,B,q,h3⟩
 obtain rfl:=es.symm
 refine zPS [ob uo_u1 (.vec w0.heap.size 9 eStr s4)] (⟨_,true,[],some (.vec w0.heap.size 83 zA0 ([]:List zA3)),true,fun A=>.any⟩::⟨_,true,[1],some (.vec w0.heap.size 83 zA0 ([]:List zA3)),true,fun A=>.any⟩::[]) (ua (ua (UAll.nil))) q d ?_ ?_
 exact rc (OblR.made _ Z Z Z Z fun V Q U O D=>by exact zBM [] (E:=zA0) N underlying24 sizeOf83 zeroValue83 Z Z Z (Nat.le_trans j.size O.ch.size))<|rc (OblR.took 1 _ _ Z Z Z Z Z fun V Q U O D u X Y J L M=>by exact zAP (L _ _ Z Z Z Z).symm X Y)<|rz
 intro done ρ σ A R w y s
 replace h3:=k1 s.rg h3
 have z30:=s.inivR 0 Z
 obtain ⟨u31,e_u31⟩:∃ u,ρ 2=u:=⟨_,Z⟩
 have h6:=s.ov y 2 1 e_u31
 obtain ⟨B,j,d⟩:=s.s B C j q ⟨Z,N⟩
 replace q:=s.left y [(0,ob uo_u1 (.vec w0.heap.size 9 eStr s4)),(2,ob u31 (.vec w0.heap.size 83 zA0 ([]:List zA3)))] ⟨Z,Z,z30,Z,Z,⟨Z,Z,e_u31,Z,Z,N⟩⟩
 refine zPQ ?_
 refine zPR d j (eI 0::[]) ?_ ?_
 exact op (fun Q U W H D=>zA6 Z)<|oz
 intro R w m n p d j
 obtain ⟨h3,h6⟩:=k2 n h3 h6
 have h7:=p.r 0 Z
 replace q:=q.fr m
 obtain ⟨rl32,q33,c⟩:=zA9 c
 replace q33:=q33 Z
 refine zPL (fun R w=>∃ A:Av,∃ (s34:(List zA3)) (uo_u31:Value),rl32=s34/\AvOK A w/\Fr w0 w/\(∀ b o,A0 b o->A b o)/\IniOK [ob uo_u31 (.vec w0.heap.size 83 zA0 s34)] A w/\R 6=uo_u31) ?_ ?_
 refine HT.block<|zPP (fun k R w=>∃ A:Av,∃ (y35:Int) (y36:List zA3) (ul_u31:Value),zAc fu s4 k y35 y36=some rl32/\AvOK A w/\Fr w0 w/\(∀ b o,A0 b o->A b o)/\IniOK [ob uo_u1 (.vec w0.heap.size 9 eStr s4),ob ul_u31 (.vec w0.heap.size 83 zA0 y36)] A w/\R 3=uo_u1/\R 6=ul_u31/\R 7=.int .i64 y35) fu ⟨_,_,_,u31,q33,d,j,B,q,h3,h6,h7⟩ ?_
 have hr0:=c;clear c q33
 rintro k R w ⟨A,y35,y36,ul_u31,c,d,j,B,q,h3,h6,h7⟩
 rcases k with _ | k
 cases (show none=some _ from c)
 rw [zAc] at c
 refine zPQ ?_
 refine zPR d j (eI y35::eR uo_u1::eI (s4.length:Int)::eB (decide (y35<(s4.length:Int)))::[]) ?_ ?_
 exact om h7<|om h3<|op (fun Q U W H D=>zDq (q.ok 0 _ Z).1 (D.g 0 Z) underlying28)<|op (fun Q U W H D=>zB8 (D.g 0 Z) (D.g 1 Z))<|oz
 intro R w m n p d j
 obtain ⟨h3,h6,h7⟩:=k3 n h3 h6 h7
 have h52:=p.r 3 Z
 replace q:=q.fr m
 refine zPJ (decide (y35<(s4.length:Int))) h52 (fun c37=>?_) (fun c37=>?_)
 have c:=zAe c37 c
 refine HT.skip<|zPQ ?_
 refine HT.block<|zPQ ?_
 obtain ⟨e38,e39,e40,c⟩:=ck3 c
 obtain ⟨x41,q42,c⟩:=zAO c
 refine zPM (by kernel_rfl) (l:=eI y35::eB (decide (0<y35))::eB (decide (0<y35))::gR (true&&((decide (0<y35))==true)) uo_u1::gI (true&&((decide (0<y35))==true)) y35::gI (true&&((decide (0<y35))==true)) (y35-1)::gR (true&&((decide (0<y35))==true)) (vptr uo_u1 ((y35-1).toNat*1))::gF (true&&((decide (0<y35))==true)) (.rep eStr A (gtD s4 (y35-1)))::gR (true&&((decide (0<y35))==true)) uo_u1::gI (true&&((decide (0<y35))==true)) y35::gR (true&&((decide (0<y35))==true)) (vptr uo_u1 (y35.toNat*1))::gF (true&&((decide (0<y35))==true)) (.rep eStr A (gtD s4 y35))::gB (true&&((decide (0<y35))==true)) ((gtD s4 (y35-1))==(gtD s4 y35))::eB x41::[]) (tl:=[]) (by kernel_rfl) (by kernel_rfl) (by kernel_rfl) (by kernel_rfl) ?_ ?_
 exact om h7<|op (fun Q U W H D=>zEH (D.g 0 Z) Z)<|ov<|gm 2 true h3<|gm 2 true h7<|og 2 true (fun G Q U W H D=>zDf (D.h 0 G Z) Z (gd e38 G))<|og 2 true (fun G Q U W H D=>zAr (q.ok 0 _ Z).1 (D.h 0 G Z) (D.h 1 G Z) underlying28 sizeOf9 (gd e39 G) Z)<|og 2 true (fun G Q U W H D=>(zC0 ((q.fr W).ok 0 _ Z).1 (D.h 0 G Z) (gd e39 G) Z (Fld.id _) Z isAgg9 sizeOf9))<|gm 2 true h3<|gm 2 true h7<|og 2 true (fun G Q U W H D=>zAr (q.ok 0 _ Z).1 (D.h 0 G Z) (D.h 1 G Z) underlying28 sizeOf9 (gd e40 G) Z)<|og 2 true (fun G Q U W H D=>(zC0 ((q.fr W).ok 0 _ Z).1 (D.h 0 G Z) (gd e40 G) Z (Fld.id _) Z isAgg9 sizeOf9))<|og 2 true (fun G Q U W H D=>zFc (D.h 0 G Z) (D.h 1 G Z))<|op (fun Q U W H D=>zAR (decide (0<y35)) (D.g 0 Z) (fun hc=>by have a1:Q 67=.bool ((gtD s4 (y35-1))==(gtD s4 y35)):=D 1 _ _ _ Z Z Z Z (zBJ Z (zAf hc));show _=Value.bool x41;rw [q42,hc];exact a1) (fun hc=>by show _=Value.bool x41;rw [q42,hc];exact Z))<|oz
 intro R w m n p
 obtain ⟨h3,h6,h7⟩:=k3 n h3 h6 h7
 have h68:=p.r 13 Z
 replace q:=q.fr m
 replace d:=d.fr m.size
 replace j:=j.trans m
 refine zPJ x41 h68 (fun c43=>?_) (fun c43=>?_)
 have c:=zAe c43 c
 obtain ⟨e44,e45,e46,e47,c⟩:=ck4 c
 obtain ⟨e48,c⟩:=zAG c
 refine zPV [ob uo_u1 (.vec w0.heap.size 9 eStr s4),ob ul_u31 (.vec w0.heap.size 83 zA0 y36)] (rR ul_u31::rR ul_u31::rI (y36.length:Int)::rI ((y36.length:Int)-1)::rR ul_u31::rR ul_u31::rI (y36.length:Int)::rI ((y36.length:Int)-1)::rR (vptr ul_u31 (((y36.length:Int)-1).toNat*2))::rR (vptr ul_u31 (((y36.length:Int)-1).toNat*2+1))::rI ((gtD y36 ((y36.length:Int)-1)).2)::rI (((gtD y36 ((y36.length:Int)-1)).2)+1)::rR (vptr ul_u31 (((y36.length:Int)-1).toNat*2))::rR (vptr ul_u31 (((y36.length:Int)-1).toNat*2+1))::⟨_,true,[1],some (.vec w0.heap.size 83 zA0 (y36.set ((y36.length:Int)-1).toNat ((gtD y36 ((y36.length:Int)-1)).1,(((gtD y36 ((y36.length:Int)-1)).2)+1)))),false,fun A=>.any⟩::[]) (ur (ur (ur (ur (ur (ur (ur (ur (ur (ur (ur (ur (ur (ur (ua (UAll.nil)))))))))))))))) q d ?_ ?_
 exact rm h6<|rm h6<|rp (fun V Q U O D=>zDq (q.ok 1 _ Z).1 (D.g 0 Z) underlying24)<|rp (fun V Q U O D=>zDf (D.g 0 Z) Z e44)<|rm h6<|rm h6<|rp (fun V Q U O D=>zDq (q.ok 1 _ Z).1 (D.g 0 Z) underlying24)<|rp (fun V Q U O D=>zDf (D.g 0 Z) Z e45)<|rp (fun V Q U O D=>zAr (q.ok 1 _ Z).1 (D.g 0 Z) (D.g 1 Z) underlying24 sizeOf83 e46 Z)<|rp (fun V Q U O D=>zFt (O.rd 1 _ Z Z) (zNy e46) (D.g 0 Z) zHh sizeOf3 (by decide) Z)<|rp (fun V Q U O D=>OpF.int (zC0 (O.rd 1 _ Z Z) (D.g 0 Z) e46 Z zCi Z isAgg3 sizeOf3))<|rp (fun V Q U O D=>zAi (D.g 0 Z) Z e47)<|rp (fun V Q U O D=>zAr (q.ok 1 _ Z).1 (D.g 0 Z) (D.g 1 Z) underlying24 sizeOf83 e48 Z)<|rp (fun V Q U O D=>zFt (O.rd 1 _ Z Z) (zNy e48) (D.g 0 Z) zHh sizeOf3 (by decide) Z)<|rc (OblR.took 1 _ _ Z Z Z Z Z fun V Q U O D u X Y J L M=>by have a0:Q 82=(vptr ul_u31 (((y36.length:Int)-1).toNat*2+1)):=D.g 0 Z;have a1:Q 80=.int .i64 (((gtD y36 ((y36.length:Int)-1)).2)+1):=D.g 1 Z;obtain rfl:=J _ Z;exact zH8 (zBa.eq a1) X Y a0 e48 Z zGt sizeOf3 Z)<|rz
 intro done ρ σ A R w y s
 obtain ⟨h3,h6,h7⟩:=k3 s.rg h3 h6 h7
 have z49:=s.inivR 0 Z
 have z50:=s.inivR 1 Z
 have z51:=s.on y 16 14 Z Z Z Z Z z50
 obtain ⟨B,j,d⟩:=s.s B C j q ⟨Z,⟨Z,N⟩⟩
 replace q:=s.left y [(0,ob uo_u1 (.vec w0.heap.size 9 eStr s4)),(16,ob ul_u31 (.vec w0.heap.size 83 zA0 (y36.set ((y36.length:Int)-1).toNat ((gtD y36 ((y36.length:Int)-1)).1,(((gtD y36 ((y36.length:Int)-1)).2)+1)))))] ⟨Z,Z,z49,Z,Z,⟨Z,Z,z51,Z,Z,N⟩⟩
 obtain ⟨Yg51,g_Yg51⟩:∃ z:List zA3,z=(y36.set ((y36.length:Int)-1).toNat ((gtD y36 ((y36.length:Int)-1)).1,(((gtD y36 ((y36.length:Int)-1)).2)+1))):=⟨_,Z⟩
 rw [<- g_Yg51] at q
 try rw [<- g_Yg51] at c
 obtain ⟨e53,c⟩:=zAG c
 refine HT.u d j (eI y35::eI (y35+1)::eI (y35+1)::[]) ?_ ?_
 exact om h7<|op (fun Q U W H D=>zAi (D.g 0 Z) Z e53)<|oa<|oz
 intro R w m n p d j
 obtain ⟨h3,h6⟩:=k2 n h3 h6
 have h7:=p.r 2 Z
 replace q:=q.fr m
 exact ei k (And.intro (Nat.lt_succ_self k) ⟨_,_,_,ul_u31,c,d,j,B,q,h3,h6,h7⟩)
 have c:=zAd c43 c
 obtain ⟨e54,e56,c⟩:=ck2 c
 refine zPV [ob uo_u1 (.vec w0.heap.size 9 eStr s4),ob ul_u31 (.vec w0.heap.size 83 zA0 y36)] (rR ul_u31::rR uo_u1::rI y35::rR (vptr uo_u1 (y35.toNat*1))::(rF fun A=>.rep eStr A (gtD s4 y35))::(rF fun A=>.rep zA0 A ((gtD s4 y35),1))::(rF fun A=>.rep (eSl zA0) A ([((gtD s4 y35),1)]:List zA3))::⟨_,true,[1],some (.vec w0.heap.size 83 zA0 (y36++([((gtD s4 y35),1)]:List zA3))),true,fun A=>.any⟩::⟨_,true,[9],some (.vec w0.heap.size 83 zA0 (y36++([((gtD s4 y35),1)]:List zA3))),true,fun A=>.any⟩::[]) (ur (ur (ur (ur (up (up (up (ua (ua (UAll.nil)))))))))) q d ?_ ?_
 exact rm h6<|rm h3<|rm h7<|rp (fun V Q U O D=>zAr (q.ok 0 _ Z).1 (D.g 0 Z) (D.g 1 Z) underlying28 sizeOf9 e54 Z)<|rp (fun V Q U O D=>(zC0 (O.rd 0 _ Z Z) (D.g 0 Z) e54 Z (Fld.id _) Z isAgg9 sizeOf9))<|rp (fun V Q U O D=>by obtain ⟨c55s,c55,c55r⟩:=zL1 (D.g 0 Z);exact zDn (v:=.agg #[.string c55s,.int .i64 1]) (by simp [execOp,Instr.build,zAL,c55,underlying,underlying83,zeroValue83,sizeOf3,sizeOf9,go_sem,Instr.fill]) ⟨_,Z,zCo c55r zAm⟩)<|rp (fun V Q U O D=>zC7 [_] (E:=zA0) ⟨(D.g 0 Z),N⟩ underlying24 sizeOf83 zeroValue83 Z Z Z O.av)<|rc (OblR.took 1 _ _ Z Z Z Z Z fun V Q U O D u X Y J L M=>by have a0:Q 83=ul_u31:=D.g 0 Z;have a1:Rep (eSl zA0) V U (Q 89) ([((gtD s4 y35),1)]:List zA3):=D.g 1 Z;exact zAs (a0.trans (J _ Z).symm) X Y (Nat.le_trans j.size O.ch.size) a1 underlying24 zNL e56)<|rc (OblR.took 9 _ _ Z Z Z Z Z fun V Q U O D u X Y J L M=>by exact zAP (L _ _ Z Z Z Z).symm X Y)<|rz
 intro done ρ σ A R w y s
 obtain ⟨h3,h7⟩:=k2 s.rg h3 h7
 have z57:=s.inivR 0 Z
 obtain ⟨u58,e_u58⟩:∃ u,ρ 10=u:=⟨_,Z⟩
 have h6:=s.ov y 10 8 e_u58
 obtain ⟨B,j,d⟩:=s.s B C j q ⟨Z,⟨Z,N⟩⟩
 replace q:=s.left y [(0,ob uo_u1 (.vec w0.heap.size 9 eStr s4)),(10,ob u58 (.vec w0.heap.size 83 zA0 (y36++([((gtD s4 y35),1)]:List zA3))))] ⟨Z,Z,z57,Z,Z,⟨Z,Z,e_u58,Z,Z,N⟩⟩
 obtain ⟨e59,c⟩:=zAG c
 refine HT.u d j (eI y35::eI (y35+1)::eI (y35+1)::[]) ?_ ?_
 exact om h7<|op (fun Q U W H D=>zAi (D.g 0 Z) Z e59)<|oa<|oz
 intro R w m n p d j
 obtain ⟨h3,h6⟩:=k2 n h3 h6
 have h7:=p.r 2 Z
 replace q:=q.fr m
 exact ei k (And.intro (Nat.lt_succ_self k) ⟨_,_,_,u58,c,d,j,B,q,h3,h6,h7⟩)
 have c:=zAd c37 c
 refine zPO ?_
 obtain rfl:=si c
 replace q:IniOK [ob ul_u31 (.vec w0.heap.size 83 zA0 y36)] A w:=q.sub [(1,ob ul_u31 (.vec w0.heap.size 83 zA0 y36))] ⟨Z,Z,N⟩
 exact ei _ ⟨_,ul_u31,Z,d,j,B,q,h6⟩
 rintro R w ⟨A,s34,uo_u31,es,d,j,B,q,h6⟩
 obtain rfl:=es.symm
 refine zPR d j (eR uo_u31::eR uo_u31::[]) ?_ ?_
 exact om h6<|oa<|oz
 intro R w m n p d j
 have h2:=p.r 1 Z
 replace q:=q.fr m
 refine HT.ret ?_
 obtain rfl:=si c
 exact ⟨.inr Z,[R 2],⟨Z,N⟩,(zBk (q.ok 0 _ Z) B h2),j⟩
theorem zG2 {fu : Nat} {A0 : Av} {p0 : List (List (List UInt8))} {r : List zA3} (c : zC9 fu p0 = some r) {w : World} {v0 : Value} (d : AvOK A0 w) (h0 : Rep (eSl (eSl eStr)) A0 w v0 p0) :
 Calls prog 71 #[v0] w fun e w'=>∃ v,e=.returned v/\(Rep (eSl zA0) A0 w' v r/\Fr w w'):=by
 refine Calls.mono (zGQ c d h0) ?_
 rintro e w' ⟨v,he,hv,hf⟩
 exact ⟨v,he,zDt hv (fun b o h=>.inl h) d,hf⟩
def zBu (fu:Nat) (p0:zAI) (p1:List Int):Option (Int × zAI):=
 cl true (zBh fu p0 (p1.length:Int)) fun x2=>
 ck (inR x2.1 p1.length) <|
 some ((gtD p1 x2.1),x2.2)
theorem zCs {fu : Nat} {Aq : Av} {p0 : zAI} {p1 : List Int} {r : Int × zAI} (c : zBu fu p0 p1 = some r) {w : World} {v0 : Value} {v1 : Value} {b0 B0 : Nat} (d : AvOK Aq w) (h0 : v0=.pointer (some ⟨b0, 0, none⟩)) (hO0 : IniOK [ob (.pointer (some ⟨b0, 0, none⟩)) (.box B0 69 zA5 p0)] Aq w) (h1 : Rep (eSl (eInt .i64)) Aq w v1 p1) :
 Calls prog 34 #[v0,v1] w fun e w'=>∃ v,e=.returned v/\(∃ (A1:Av),GPost (subS Aq (zAE (.pointer (some ⟨b0,0,none⟩)))) (zAE (.pointer (some ⟨b0,0,none⟩))) w [ob (.pointer (some ⟨b0,0,none⟩)) (.box B0 69 zA5 r.2)] A1 w'/\(Fact.raw (.int .i64 r.1)).ok v w'):=by
 unfold zBu at c
 obtain ⟨w0,hw0⟩:∃ w0,w0=w:=⟨_,Z⟩
 have j:Ch (zAE (.pointer (some ⟨b0,0,none⟩))) w0 w:=hw0 ▸ Ch.refl _ _
 obtain ⟨A0,hA0e⟩:∃ A0,A0=subS Aq (zAE (.pointer (some ⟨b0,0,none⟩))):=⟨_,Z⟩
 have C:∀ b o,A0 b o->b<w0.heap.size:=fun b o h=>hw0 ▸ d b o (hA0e ▸ h:subS Aq _ b o).1
 have K:∀ b o,A0 b o->¬ (zAE (.pointer (some ⟨b0,0,none⟩))) b:=fun b o h=>(hA0e ▸ h:subS Aq _ b o).2
 have hA00:AvOK A0 w0:=C
 rw [show GPost (subS Aq (zAE (.pointer (some ⟨b0,0,none⟩)))) (zAE (.pointer (some ⟨b0,0,none⟩))) w=GPost A0 (zAE (.pointer (some ⟨b0,0,none⟩))) w0 from by rw [hA0e,hw0]]
 obtain ⟨A,hAe⟩:∃ A,A=Aq:=⟨_,Z⟩
 have B:∀ b o,A0 b o->A b o:=fun b o h=>hAe ▸ (hA0e ▸ h:subS Aq _ b o).1
 replace d:AvOK A w:=hAe ▸ d
 have q:IniOK [ob (.pointer (some ⟨b0,0,none⟩)) (.box B0 69 zA5 p0)] A w:=hAe ▸ hO0
 clear hA0e hO0
 refine zAB [.tmp 4] func34 ntmps34 (by decide) Z Z (nb Z) ?_
 intro R hR
 replace h0:R 0=.pointer (some ⟨b0,0,none⟩):=(hR 0 _ Z).trans h0
 have f_v1:Rep (eSl (eInt .i64)) A w v1 p1:=hAe ▸ h1
 replace h1:R 1=v1:=hR 1 _ Z
 refine zPQ ?_
 refine zPT (eI 0::[]) ?_ ?_
 exact op (fun Q U W H D=>zA6 Z)<|oz
 intro R w m n p
 obtain ⟨h0,h1⟩:=k2 n h0 h1
 replace f_v1:=f_v1.fr m
 replace q:=q.fr m
 replace d:=d.fr m.size
 replace j:=j.tr (m.ch noB) fun _ h=>False.elim h
 refine zPQ ?_
 refine SG.of<|SG.textR [ob (.pointer (some ⟨b0,0,none⟩)) (.box B0 69 zA5 p0)] (rR v1::rR (.pointer (some ⟨b0,0,none⟩))::rR v1::rI (p1.length:Int)::[]) 4 Z Z Z (by kernel_rfl) (by kernel_rfl) (Wf.mk' (by kernel_rfl) (ur (ur (ur (ur (UAll.nil))))) (by kernel_rfl) (by kernel_rfl)) q d (N) ?_ ?_
 exact rm h1<|rm h0<|rm h1<|rp (fun V Q U O D=>zAN (aT:=#[]) ((f_v1.stp O.stp).eq (D.g 0 Z)) underlying31)<|rz
 intro done ρ σ A R w y s
 have z1:=s.inivR 0 Z
 have h5:=s.r y 0 Z
 have h6:=s.r y 1 Z
 have h8:=s.r y 3 Z
 replace f_v1:=f_v1.stp s.stp
 replace B:=s.lowK B C K (q.geK (⟨.inr (fun k h=>.inr h),N⟩))
 replace j:Ch (zAE (.pointer (some ⟨b0,0,none⟩))) w0 w:=j.tr s.ch (q.geK (⟨.inr (fun k h=>.inr h),N⟩))
 replace q:=s.left y [(0,ob (.pointer (some ⟨b0,0,none⟩)) (.box B0 69 zA5 p0))] ⟨Z,Z,z1,Z,Z,N⟩
 replace d:=s.avok
 obtain ⟨x2,q3,c⟩:=zA9 c
 have hFz:w0.heap.size<=w.heap.size:=j.size
 refine SG.op 9 Z Z Z Z (zB7 call46 (zC2 (q3 Z) d h6 (q.sub [(0,ob (.pointer (some ⟨b0,0,none⟩)) (.box B0 69 zA5 p0))] ⟨Z,Z,N⟩) h8)) ?_
 rintro v_ w ⟨A,hG1,hv⟩ R n hd
 have hst:=zBO d hG1 (q.ok 0 _ Z).2
 replace B:∀ b o,A0 b o->A b o:=zBl B C K (q.geK (⟨.inr (fun k h=>.inr h),N⟩)) 0 Z hG1
 replace j:Ch (zAE (.pointer (some ⟨b0,0,none⟩))) w0 w:=j.tr hG1.ch (fun k hk=>(q.geK (⟨.inr (fun k h=>.inr h),N⟩)) k ⟨0,_,Z,hk⟩)
 replace q:=zPH q d 0 Z hG1
 replace d:=hG1.avok
 replace q:IniOK [ob (.pointer (some ⟨b0,0,none⟩)) (.box B0 69 zA5 x2.2)] A w:=q
 replace h5:=(n 5 Z).trans h5
 replace h6:=(n 6 Z).trans h6
 replace h8:=(n 8 Z).trans h8
 replace f_v1:=f_v1.stp hst
 have h9:R 9=.int .i64 x2.1:=hd.trans hv
 clear hFz hG1 hv n hd
 obtain ⟨e4,c⟩:=zAG c
 refine SG.textR [ob (.pointer (some ⟨b0,0,none⟩)) (.box B0 69 zA5 x2.2)] (rR v1::rR (.pointer (some ⟨b0,0,none⟩))::rA::rI (p1.length:Int)::rI x2.1::(rF fun A=>.qtr (eInt .i64) A (gtD p1 x2.1))::rI (gtD p1 x2.1)::rI (gtD p1 x2.1)::[]) 8 Z Z Z (by kernel_rfl) (by kernel_rfl) (Wf.mk' (by kernel_rfl) (ur (ur (ua (ur (ur (UAll.cons zCM (ur (ur (UAll.nil))))))))) (by kernel_rfl) (by kernel_rfl)) q d (⟨⟨Z,Z,Z,h5⟩,⟨⟨Z,Z,Z,h6⟩,⟨⟨Z,Z,Z,N⟩,⟨⟨Z,Z,Z,h8⟩,⟨⟨Z,Z,Z,h9⟩,N⟩⟩⟩⟩⟩) ?_ ?_
 exact rp (fun V Q U O D=>zAC ((f_v1.stp O.stp).eq (D.g 0 Z)) (D.g 1 Z) underlying31 sizeOf3 e4)<|rp (fun V Q U O D=>OpF.int (zAT (QRep.ptr (D.g 0 Z)) isAgg3 sizeOf3))<|ra<|rz
 intro done ρ σ A R w y s
 have z5:=s.inivR 0 Z
 have h4:=s.r y 7 Z
 replace B:=s.lowK B C K (q.geK (⟨.inr (fun k h=>.inr h),N⟩))
 replace j:Ch (zAE (.pointer (some ⟨b0,0,none⟩))) w0 w:=j.tr s.ch (q.geK (⟨.inr (fun k h=>.inr h),N⟩))
 replace q:=s.left y [(0,ob (.pointer (some ⟨b0,0,none⟩)) (.box B0 69 zA5 x2.2))] ⟨Z,Z,z5,Z,Z,N⟩
 replace d:=s.avok
 refine zPa Z ?_
 refine HT.ret ?_
 obtain rfl:=si c
 obtain ⟨A1,hA1,hG1⟩:=GPost.of q d B (q.geK (⟨.inr (fun k h=>.inr h),N⟩)) j
 exact ⟨.inr Z,[R 4],⟨Z,N⟩,A1,hG1,h4⟩
def zB9 (fu : Nat) (p0 : List zA3) : Nat -> Int -> Option (Ex Bool Unit)
 | 0,_=>none
 | k+1,y4=>
 bif (decide (y4<(p0.length:Int))) then (
 ck (inR y4 p0.length) <|
 ck (!((true&&((decide (((gtD p0 y4).2)<1))==false))&&((decide (0<y4))==true)) || i64B (y4-1)) <|
 ck (!((true&&((decide (((gtD p0 y4).2)<1))==false))&&((decide (0<y4))==true)) || inR (y4-1) p0.length) <|
 ck (!((true&&((decide (((gtD p0 y4).2)<1))==false))&&((decide (0<y4))==true)) || inR y4 p0.length) <|
 bd ((decide (0<y4))&&(!(bLt ((gtD p0 (y4-1)).1) ((gtD p0 y4).1)))) fun x10=>
 bd ((decide (((gtD p0 y4).2)<1)) || x10) fun x12=>
 bif x12 then (
 some (Ex.ret false)
 ) else (
 ck (i64B (y4+1)) <|
 zB9 fu p0 k (y4+1)
 )
 ) else (
 some (Ex.go ())
 )
def zCN (fu:Nat) (p0:List zA3):Option Bool:=
 cl true (zB9 fu p0 fu 0) fun rl1=>
 exM rl1 (fun r=>some r) fun s3=>
 some true
theorem zEc {fu : Nat} {A : Av} {p0 : List zA3} {r : Bool} (c : zCN fu p0 = some r) {w : World} {v0 : Value} (d : AvOK A w) (h0 : Rep (eSl zA0) A w v0 p0) :
 Calls prog 56 #[v0] w fun e w'=>∃ v,e=.returned v/\(v=.bool r/\Fr w w'):=by
 unfold zCN at c
 obtain ⟨w0,hw0,j⟩:=pf w
 rw [fw hw0]
 refine zAB [.tmp 2] func56 ntmps56 (by decide) Z Z (nb Z) ?_
 intro R hR
 have f_v0:=h0
 replace h0:R 0=v0:=hR 0 _ Z
 refine zPR d j (eB false::[]) ?_ ?_
 exact op (fun Q U W H D=>zA6 Z)<|oz
 intro R w m n p d j
 replace h0:=k1 n h0
 replace f_v0:=f_v0.fr m
 refine zPQ ?_
 refine zPR d j (eI 0::[]) ?_ ?_
 exact op (fun Q U W H D=>zA6 Z)<|oz
 intro R w m n p d j
 replace h0:=k1 n h0
 have h3:=p.r 0 Z
 replace f_v0:=f_v0.fr m
 obtain ⟨rl1,q2,c⟩:=zA9 c
 replace q2:=q2 Z
 refine zPL (fun R w=>∃ (s3:Unit),rl1=Ex.go s3/\AvOK A w/\Fr w0 w) ?_ ?_
 refine HT.block<|zPP (fun k R w=>∃ (y4:Int),zB9 fu p0 k y4=some rl1/\AvOK A w/\Fr w0 w/\R 0=v0/\R 3=.int .i64 y4/\Rep (eSl zA0) A w v0 p0) fu ⟨_,q2,d,j,h0,h3,f_v0⟩ ?_
 have hr0:=c;clear c q2
 rintro k R w ⟨y4,c,d,j,h0,h3,f_v0⟩
 rcases k with _ | k
 cases (show none=some _ from c)
 rw [zB9] at c
 refine zPQ ?_
 refine zPR d j (eI y4::eR v0::eI (p0.length:Int)::eB (decide (y4<(p0.length:Int)))::[]) ?_ ?_
 exact om h3<|om h0<|op (fun Q U W H D=>zAN (aT:=#[]) ((f_v0.fr W).eq (D.g 0 Z)) underlying24)<|op (fun Q U W H D=>zB8 (D.g 0 Z) (D.g 1 Z))<|oz
 intro R w m n p d j
 obtain ⟨h0,h3⟩:=k2 n h0 h3
 have h7:=p.r 3 Z
 replace f_v0:=f_v0.fr m
 refine zPJ (decide (y4<(p0.length:Int))) h7 (fun c5=>?_) (fun c5=>?_)
 have c:=zAe c5 c
 refine HT.skip<|zPQ ?_
 refine HT.block<|zPQ ?_
 obtain ⟨e6,e7,e8,e9,c⟩:=ck4 c
 obtain ⟨x10,q11,c⟩:=zAO c
 obtain ⟨x12,q13,c⟩:=zAO c
 refine zPM (by kernel_rfl) (l:=eR v0::eI y4::eF (.qtr zA0 A (gtD p0 y4))::eF (.qtr (eInt .i64) A ((gtD p0 y4).2))::eI ((gtD p0 y4).2)::eB (decide (((gtD p0 y4).2)<1))::eB (decide (((gtD p0 y4).2)<1))::gI (true&&((decide (((gtD p0 y4).2)<1))==false)) y4::gB (true&&((decide (((gtD p0 y4).2)<1))==false)) (decide (0<y4))::gB (true&&((decide (((gtD p0 y4).2)<1))==false)) (decide (0<y4))::gR ((true&&((decide (((gtD p0 y4).2)<1))==false))&&((decide (0<y4))==true)) v0::gI ((true&&((decide (((gtD p0 y4).2)<1))==false))&&((decide (0<y4))==true)) y4::gI ((true&&((decide (((gtD p0 y4).2)<1))==false))&&((decide (0<y4))==true)) (y4-1)::gF ((true&&((decide (((gtD p0 y4).2)<1))==false))&&((decide (0<y4))==true)) (.qtr zA0 A (gtD p0 (y4-1)))::gF ((true&&((decide (((gtD p0 y4).2)<1))==false))&&((decide (0<y4))==true)) (.qtr eStr A ((gtD p0 (y4-1)).1))::gF ((true&&((decide (((gtD p0 y4).2)<1))==false))&&((decide (0<y4))==true)) (.rep eStr A ((gtD p0 (y4-1)).1))::gR ((true&&((decide (((gtD p0 y4).2)<1))==false))&&((decide (0<y4))==true)) v0::gI ((true&&((decide (((gtD p0 y4).2)<1))==false))&&((decide (0<y4))==true)) y4::gF ((true&&((decide (((gtD p0 y4).2)<1))==false))&&((decide (0<y4))==true)) (.qtr zA0 A (gtD p0 y4))::gF ((true&&((decide (((gtD p0 y4).2)<1))==false))&&((decide (0<y4))==true)) (.qtr eStr A ((gtD p0 y4).1))::gF ((true&&((decide (((gtD p0 y4).2)<1))==false))&&((decide (0<y4))==true)) (.rep eStr A ((gtD p0 y4).1))::gB ((true&&((decide (((gtD p0 y4).2)<1))==false))&&((decide (0<y4))==true)) (!(bLt ((gtD p0 (y4-1)).1) ((gtD p0 y4).1)))::gB (true&&((decide (((gtD p0 y4).2)<1))==false)) x10::eB x12::[]) (tl:=[]) (by kernel_rfl) (by kernel_rfl) (by kernel_rfl) (by kernel_rfl) ?_ ?_
 exact om h0<|om h3<|op (fun Q U W H D=>zAC ((f_v0.fr W).eq (D.g 0 Z)) (D.g 1 Z) underlying24 sizeOf83 e6)<|op (fun Q U W H D=>zAX (qt (D.g 0 Z)) zHh sizeOf3 (by decide) zCi Z)<|op (fun Q U W H D=>OpF.int (zAT (QRep.ptr (D.g 0 Z)) isAgg3 sizeOf3))<|op (fun Q U W H D=>zB8 (D.g 0 Z) Z)<|ov<|gm 6 false h3<|og 6 false (fun G Q U W H D=>zEH (D.h 0 G Z) Z)<|og 6 false (fun G Q U W H D=>zBI (D.h 0 G Z))<|gm 9 true h0<|gm 9 true h3<|og 9 true (fun G Q U W H D=>zDf (D.h 0 G Z) Z (gd e7 G))<|og 9 true (fun G Q U W H D=>zAC ((f_v0.fr W).eq (D.h 0 G Z)) (D.h 1 G Z) underlying24 sizeOf83 (gd e8 G))<|og 9 true (fun G Q U W H D=>zAX (qt (D.h 0 G Z)) zHt sizeOf9 (by decide) zCE Z)<|og 9 true (fun G Q U W H D=>(zAT (QRep.ptr (D.h 0 G Z)) isAgg9 sizeOf9))<|gm 9 true h0<|gm 9 true h3<|og 9 true (fun G Q U W H D=>zAC ((f_v0.fr W).eq (D.h 0 G Z)) (D.h 1 G Z) underlying24 sizeOf83 (gd e9 G))<|og 9 true (fun G Q U W H D=>zAX (qt (D.h 0 G Z)) zHt sizeOf9 (by decide) zCE Z)<|og 9 true (fun G Q U W H D=>(zAT (QRep.ptr (D.h 0 G Z)) isAgg9 sizeOf9))<|og 9 true (fun G Q U W H D=>zJn (D.h 0 G Z) (D.h 1 G Z))<|og 6 false (fun G Q U W H D=>zAR (decide (0<y4)) (D.h 0 G Z) (fun hc=>by have a1:Q 31=.bool (!(bLt ((gtD p0 (y4-1)).1) ((gtD p0 y4).1))):=D 1 _ _ _ Z Z Z Z (zBJ G (zAf hc));show _=Value.bool x10;rw [q11,hc];exact a1) (fun hc=>by show _=Value.bool x10;rw [q11,hc];exact Z))<|op (fun Q U W H D=>zAR (decide (((gtD p0 y4).2)<1)) (D.g 0 Z) (fun hc=>by show _=Value.bool x12;rw [q13,hc];exact Z) (fun hc=>by have a2:Q 32=.bool x10:=D 1 _ _ _ Z Z Z Z (zBJ Z (zAf hc));show _=Value.bool x12;rw [q13,hc];exact a2))<|oz
 intro R w m n p
 obtain ⟨h0,h3⟩:=k2 n h0 h3
 have h33:=p.r 23 Z
 replace f_v0:=f_v0.fr m
 replace d:=d.fr m.size
 replace j:=j.trans m
 refine zPJ x12 h33 (fun c14=>?_) (fun c14=>?_)
 have c:=zAe c14 c
 refine zPR d j (eB false::[]) ?_ ?_
 exact op (fun Q U W H D=>zA6 Z)<|oz
 intro R w m n p d j
 have h2:=p.r 0 Z
 refine HT.ret ?_
 obtain rfl:=si c
 have c:=hr0
 replace c:some _=some _:=c
 obtain rfl:=si c
 exact ⟨.inr Z,[R 2],⟨Z,N⟩,h2,j⟩
 have c:=zAd c14 c
 refine HT.skip ?_
 obtain ⟨e15,c⟩:=zAG c
 refine HT.u d j (eI y4::eI (y4+1)::eI (y4+1)::[]) ?_ ?_
 exact om h3<|op (fun Q U W H D=>zAi (D.g 0 Z) Z e15)<|oa<|oz
 intro R w m n p d j
 replace h0:=k1 n h0
 have h3:=p.r 2 Z
 replace f_v0:=f_v0.fr m
 exact ei k (And.intro (Nat.lt_succ_self k) ⟨_,c,d,j,h0,h3,f_v0⟩)
 have c:=zAd c5 c
 refine zPO ?_
 obtain rfl:=si c
 exact ei _ ⟨Z,d,j⟩
 rintro R w ⟨s3,rfl,d,j⟩
 have c:=zEK c
 refine zPR d j (eB true::[]) ?_ ?_
 exact op (fun Q U W H D=>zA6 Z)<|oz
 intro R w m n p d j
 have h2:=p.r 0 Z
 refine HT.ret ?_
 obtain rfl:=si c
 exact ⟨.inr Z,[R 2],⟨Z,N⟩,h2,j⟩
def zCe (fu:Nat) (p0:Int) (p1:Int) (p2:Int):Option Bool:=
 bd ((decide (p1<=p0))&&(decide (p0<=p2))) fun x1=>
 some x1
theorem zCp {fu : Nat} {A : Av} {p0 : Int} {p1 : Int} {p2 : Int} {r : Bool} (c : zCe fu p0 p1 p2 = some r) {w : World} {v0 : Value} {v1 : Value} {v2 : Value} (d : AvOK A w) (h0 : v0=.int .i64 p0) (h1 : v1=.int .i64 p1) (h2 : v2=.int .i64 p2) :
 Calls prog 31 #[v0,v1,v2] w fun e w'=>∃ v,e=.returned v/\(v=.bool r/\Fr w w'):=by
 unfold zCe at c
 obtain ⟨w0,hw0,j⟩:=pf w
 rw [fw hw0]
 refine zAB [.tmp 6] func31 ntmps31 (by decide) Z Z (nb Z) ?_
 intro R hR
 replace h0:R 0=.int .i64 p0:=(hR 0 _ Z).trans h0
 replace h1:R 1=.int .i64 p1:=(hR 1 _ Z).trans h1
 replace h2:R 2=.int .i64 p2:=(hR 2 _ Z).trans h2
 refine zPR d j (eB false::[]) ?_ ?_
 exact op (fun Q U W H D=>zA6 Z)<|oz
 intro R w m n p d j
 obtain ⟨h0,h1,h2⟩:=k3 n h0 h1 h2
 refine zPQ ?_
 obtain ⟨x1,q2,c⟩:=zAO c
 refine HT.u d j (eI p0::eI p1::eB (decide (p1<=p0))::eB (decide (p1<=p0))::gI (true&&((decide (p1<=p0))==true)) p0::gI (true&&((decide (p1<=p0))==true)) p2::gB (true&&((decide (p1<=p0))==true)) (decide (p0<=p2))::eB x1::eB x1::[]) ?_ ?_
 exact om h0<|om h1<|op (fun Q U W H D=>zFI (D.g 0 Z) (D.g 1 Z))<|ov<|gm 3 true h0<|gm 3 true h2<|og 3 true (fun G Q U W H D=>zGL (D.h 0 G Z) (D.h 1 G Z))<|op (fun Q U W H D=>zAR (decide (p1<=p0)) (D.g 0 Z) (fun hc=>by have a1:Q 13=.bool (decide (p0<=p2)):=D 1 _ _ _ Z Z Z Z (zBJ Z (zAf hc));show _=Value.bool x1;rw [q2,hc];exact a1) (fun hc=>by show _=Value.bool x1;rw [q2,hc];exact Z))<|oa<|oz
 intro R w m n p d j
 have h6:=p.r 8 Z
 refine HT.ret ?_
 obtain rfl:=si c
 exact ⟨.inr Z,[R 6],⟨Z,N⟩,h6,j⟩
def zD9 (fu:Nat) (p0:List zA3) (p1:Int):Option (zA7 × Bool):=
 cl true (zCN fu p0) fun x3=>
 cl (true&&((!x3)==false)) (zCe fu p1 1 1000) fun x5=>
 bd ((!x3) || (!x5)) fun x7=>
 bif x7 then (
 some ((0,([]:List zA3),([]:List zA4)),false)
 ) else (
 ck (zD4 (([]:List zA3).length+p0.length)) <|
 some ((p1,(([]:List zA3)++p0),([]:List zA4)),true)
 )
set_option linter.unusedSimpArgs false in
theorem zGX {fu : Nat} {A0 : Av} {p0 : List zA3} {p1 : Int} {r : zA7 × Bool} (c : zD9 fu p0 p1 = some r) {w : World} {v0 : Value} {v1 : Value} (d : AvOK A0 w) (h0 : Rep (eSl zA0) A0 w v0 p0) (h1 : v1=.int .i64 p1) :
 Calls prog 70 #[v0,v1] w fun e w'=>∃ v,e=.returned v/\(∃ (u0:Value) (S0:Nat->Prop) (A1:Av),GPost A0 (fun _=>False) w [⟨u0,S0,trR (geB w.heap.size) (oPr (oRd (eInt .i64)) (oPr (oRd (eSl zA0)) (oSl 54 (oRd zA1)))) r.1 []⟩] A1 w'/\(Fact.tup2 (.raw u0) (.raw (.bool r.2))).ok v w'):=by
 unfold zD9 at c
 obtain ⟨w0,hw0,j,C⟩:=pw d
 have hA00:AvOK A0 w0:=C
 rw [show GPost A0 (fun _=>False) w=GPost A0 (fun _=>False) w0 from by rw [hw0]]
 rw [show w.heap.size=w0.heap.size from by rw [hw0]]
 obtain ⟨A,hAe,B,d,q⟩:=pa d
 refine zAB [.cell 4 27,.tmp 5] func70 ntmps70 (by decide) Z Z (nb Z) ?_
 intro R hR
 have f_v0:Rep (eSl zA0) A w v0 p0:=hAe ▸ h0
 replace h0:R 0=v0:=hR 0 _ Z
 replace h1:R 1=.int .i64 p1:=(hR 1 _ Z).trans h1
 refine zPS [] (⟨_,true,[],some (trR (geB w0.heap.size) (oPt 27 (oPr (oRd (eInt .i64)) (oPr (oRd (eSl zA0)) (oSl 54 (oRd zA1))))) (0,(([]:List zA3),([]:List zA4))) []),true,fun A=>.any⟩::rB false::[]) (ua (ur (UAll.nil))) q d ?_ ?_
 exact rc (zPX _ Z Z Z Z fun V Q U O D=>by exact zCg zeroValue27 (fun A w=>zD2 (zCy zAm) (zD2 (zCy zBD) zDN)) (fun k hk=>Nat.le_trans (Nat.le_trans j.size O.ch.size) hk))<|rp (fun V Q U O D=>zA6 Z)<|rz
 intro done ρ σ A R w y s
 obtain ⟨h0,h1⟩:=k2 s.rg h0 h1
 obtain ⟨u1,e_u1⟩:∃ u,ρ 0=u:=⟨_,Z⟩
 have h4:=s.ov y 0 0 e_u1
 obtain ⟨S2,eS_u1⟩:∃ S,σ 0=S:=⟨_,Z⟩
 replace f_v0:=f_v0.stp s.stp
 obtain ⟨B,j,d⟩:=s.s B C j q N
 replace q:=s.left y [(0,⟨u1,S2,trR (geB w0.heap.size) (oPt 27 (oPr (oRd (eInt .i64)) (oPr (oRd (eSl zA0)) (oSl 54 (oRd zA1))))) (0,(([]:List zA3),([]:List zA4))) []⟩)] ⟨Z,Z,e_u1,eS_u1,Z,N⟩
 refine zPQ ?_
 refine zPQ ?_
 obtain ⟨x3,q4,c⟩:=zA9 c
 obtain ⟨x5,q6,c⟩:=zA9 c
 obtain ⟨x7,q8,c⟩:=zAO c
 refine HT.u d j (eR v0::eB x3::eB (!x3)::eB (!x3)::gI (true&&((!x3)==false)) p1::gB (true&&((!x3)==false)) x5::gB (true&&((!x3)==false)) (!x5)::eB x7::[]) ?_ ?_
 exact om h0<|op (fun Q U W H D=>zAM call56 (zEc (q4 Z) (d.fr W.size) ((f_v0.fr W).eq (D.g 0 Z))))<|op (fun Q U W H D=>zBY (D.g 0 Z))<|ov<|gm 3 false h1<|og 3 false (fun G Q U W H D=>zAM call31 (zCp (q6 G) (d.fr W.size) (D.h 0 G Z) Z Z))<|og 3 false (fun G Q U W H D=>zBY (D.h 0 G Z))<|op (fun Q U W H D=>zAR (!x3) (D.g 0 Z) (fun hc=>by show _=Value.bool x7;rw [q8,hc];exact Z) (fun hc=>by have a2:Q 12=.bool (!x5):=D 1 _ _ _ Z Z Z Z (zBJ Z (zAf hc));show _=Value.bool x7;rw [q8,hc];exact a2))<|oz
 intro R w m n p d j
 obtain ⟨h0,h1,h4⟩:=k3 n h0 h1 h4
 have h13:=p.r 7 Z
 replace f_v0:=f_v0.fr m
 replace q:=q.fr m
 refine zPJ x7 h13 (fun c9=>?_) (fun c9=>?_)
 have c:=zAe c9 c
 refine zPS [⟨u1,S2,trR (geB w0.heap.size) (oPt 27 (oPr (oRd (eInt .i64)) (oPr (oRd (eSl zA0)) (oSl 54 (oRd zA1))))) (0,(([]:List zA3),([]:List zA4))) []⟩] (⟨_,true,[],some (trR (geB w0.heap.size) (oPr (oRd (eInt .i64)) (oPr (oRd (eSl zA0)) (oSl 54 (oRd zA1)))) (0,([]:List zA3),([]:List zA4)) []),true,fun A=>.any⟩::⟨_,true,[0,1],some (trR (geB w0.heap.size) (oPt 27 (oPr (oRd (eInt .i64)) (oPr (oRd (eSl zA0)) (oSl 54 (oRd zA1))))) (0,([]:List zA3),([]:List zA4)) []),false,fun A=>.any⟩::rB false::[]) (ua (ua (ur (UAll.nil)))) q d ?_ ?_
 exact rc (zPX _ Z Z Z Z fun V Q U O D=>by exact zIj (v:=.agg #[.int .i64 0,.slice none 0 0,.slice none 0 0]) (by simp [execOp,Instr.build,zAL,underlying,underlying27,zeroValue27,sizeOf24,sizeOf25,sizeOf3,go_sem,Instr.fill]) ⟨⟨_,Z,zD2 (zCy zAm) (zD2 (zCy zBD) zDN)⟩,fun q hq=>by cases hq⟩ (fun k hk=>Nat.le_trans (Nat.le_trans j.size O.ch.size) hk))<|rc (zPY 0 [1] _ Z Z Z Z fun V Q U O D ρ σ X Y J L M hdd=>by have a0:Q 4=u1:=(O.old 4 Z).trans h4;have k1:=X 0 (.head _) _ Z;have e0:=(J 0 (.head _) _ Z).1;rw [e0] at k1 ⊢;exact zCK Z (zAp k1.2.2).ptr (X 1 (.tail _ (.head _)) _ Z).2.2.1 (L 1 (.tail _ (.head _)) _ _ Z Z Z Z).symm a0 Y hdd k1.2.1 (X 1 (.tail _ (.head _)) _ Z).2.1 sizeOf27 (fun _ _ _ h=>h))<|rp (fun V Q U O D=>zA6 Z)<|rz
 intro done ρ σ A R w y s
 replace h4:=k1 s.rg h4
 have z10:=s.inivR 0 Z
 have z11:=s.on y 2 1 Z Z Z Z Z z10
 obtain ⟨S12,eS_u1⟩:∃ S,σ 2=S:=⟨_,Z⟩
 have h5:=s.r y 2 Z
 obtain ⟨B,j,d⟩:=s.s B C j q ⟨fun _ h=>h,N⟩
 replace q:=s.left y [(2,⟨u1,S12,trR (geB w0.heap.size) (oPt 27 (oPr (oRd (eInt .i64)) (oPr (oRd (eSl zA0)) (oSl 54 (oRd zA1))))) (0,([]:List zA3),([]:List zA4)) []⟩)] ⟨Z,Z,z11,eS_u1,Z,N⟩
 refine HT.ret ?_
 obtain rfl:=si c
 obtain ⟨v_4,S_4,e_4,q⟩:=q.unbox 0 Z h4 isAgg27 sizeOf27
 obtain ⟨A1,hA1,hG1⟩:=GPost.of q d B (fun k hk=>.inl (q.ge (⟨fun _ h=>h,N⟩) k hk)) (j.ch (fun _=>False))
 exact ⟨.inr Z,[v_4,R 5],⟨e_4,⟨Z,N⟩⟩,v_4,S_4,A1,hG1,⟨_,_,Z,Z,h5⟩⟩
 have c:=zAd c9 c
 refine HT.skip ?_
 obtain ⟨e13,c⟩:=zAG c
 refine zPS [⟨u1,S2,trR (geB w0.heap.size) (oPt 27 (oPr (oRd (eInt .i64)) (oPr (oRd (eSl zA0)) (oSl 54 (oRd zA1))))) (0,(([]:List zA3),([]:List zA4))) []⟩] (rI p1::⟨_,true,[],some (.vec w0.heap.size 83 zA0 ([]:List zA3)),true,fun A=>.any⟩::rR v0::⟨_,true,[2],some (.nul),false,fun A=>.rep (eSl zA0) A (([]:List zA3)++p0)⟩::⟨_,true,[],some (trR (geB w0.heap.size) (oPr (oRd (eInt .i64)) (oPr (oRd (eSl zA0)) (oSl 54 (oRd zA1)))) (p1,(([]:List zA3)++p0),([]:List zA4)) []),true,fun A=>.any⟩::⟨_,true,[0,5],some (trR (geB w0.heap.size) (oPt 27 (oPr (oRd (eInt .i64)) (oPr (oRd (eSl zA0)) (oSl 54 (oRd zA1))))) (p1,(([]:List zA3)++p0),([]:List zA4)) []),false,fun A=>.any⟩::rB true::[]) (ur (ua (ur (up (ua (ua (ur (UAll.nil)))))))) q d ?_ ?_
 exact rm h1<|rc (OblR.made _ Z Z Z Z fun V Q U O D=>by exact zBM [] (E:=zA0) N underlying24 sizeOf83 zeroValue83 Z Z Z (Nat.le_trans j.size O.ch.size))<|rm h0<|rc (zPW 2 _ Z Z Z Z Z fun V Q U O D u X Y J L M=>by have a1:Q 17=v0:=D.g 1 Z;have ra1:=(f_v0.stp O.stp).eq a1;exact OpR.thaw (zAs (L _ _ Z Z Z Z).symm X Y (Nat.le_trans j.size O.ch.size) ra1 underlying24 zNL e13) O.av Y)<|rc (zPX _ Z Z Z Z fun V Q U O D=>by have a0:Q 15=.int .i64 p1:=D.g 0 Z;have a1:Rep (eSl zA0) V U (Q 18) (([]:List zA3)++p0):=D.g 1 Z;obtain ⟨c14a,c14n,c14k,c14,c14r⟩:=zF7 a1;exact zIj (v:=.agg #[.int .i64 p1,.slice c14a c14n c14k,.slice none 0 0]) (by simp [execOp,Instr.build,zAL,a0,c14,underlying,underlying27,zeroValue27,sizeOf24,sizeOf25,sizeOf3,go_sem,Instr.fill]) ⟨⟨_,Z,zD2 (zCy zAm) (zD2 (zCy c14r) zDN)⟩,fun q hq=>by cases hq⟩ (fun k hk=>Nat.le_trans (Nat.le_trans j.size O.ch.size) hk))<|rc (zPY 0 [5] _ Z Z Z Z fun V Q U O D ρ σ X Y J L M hdd=>by have a0:Q 4=u1:=(O.old 4 Z).trans h4;have k1:=X 0 (.head _) _ Z;have e0:=(J 0 (.head _) _ Z).1;rw [e0] at k1 ⊢;exact zCK Z (zAp k1.2.2).ptr (X 5 (.tail _ (.head _)) _ Z).2.2.1 (L 5 (.tail _ (.head _)) _ _ Z Z Z Z).symm a0 Y hdd k1.2.1 (X 5 (.tail _ (.head _)) _ Z).2.1 sizeOf27 (fun _ _ _ h=>h))<|rp (fun V Q U O D=>zA6 Z)<|rz
 intro done ρ σ A R w y s
 replace h4:=k1 s.rg h4
 have z15:=s.inivR 0 Z
 have z16:=s.on y 6 5 Z Z Z Z Z z15
 obtain ⟨S17,eS_u1⟩:∃ S,σ 6=S:=⟨_,Z⟩
 have h5:=s.r y 6 Z
 obtain ⟨B,j,d⟩:=s.s B C j q ⟨fun _ h=>h,N⟩
 replace q:=s.left y [(6,⟨u1,S17,trR (geB w0.heap.size) (oPt 27 (oPr (oRd (eInt .i64)) (oPr (oRd (eSl zA0)) (oSl 54 (oRd zA1))))) (p1,(([]:List zA3)++p0),([]:List zA4)) []⟩)] ⟨Z,Z,z16,eS_u1,Z,N⟩
 refine HT.ret ?_
 obtain rfl:=si c
 obtain ⟨v_4,S_4,e_4,q⟩:=q.unbox 0 Z h4 isAgg27 sizeOf27
 obtain ⟨A1,hA1,hG1⟩:=GPost.of q d B (fun k hk=>.inl (q.ge (⟨fun _ h=>h,N⟩) k hk)) (j.ch (fun _=>False))
 exact ⟨.inr Z,[v_4,R 5],⟨e_4,⟨Z,N⟩⟩,v_4,S_4,A1,hG1,⟨_,_,Z,Z,h5⟩⟩
def zCT (fu : Nat) (p0 : zA7) : Nat -> Int -> zA7 -> Option zA7
 | 0,_,_=>none
 | k+1,y14,y15=>
 bif (decide (y14<(p0.2.2.length:Int))) then (
 ck (inR y14 p0.2.2.length) <|
 ck (inR y14 p0.2.2.length) <|
 ck (zD4 (([]:List (List UInt8)).length+((gtD p0.2.2 y14).2).length)) <|
 ck (zD4 (y15.2.2.length+([((gtD p0.2.2 y14).1,(([]:List (List UInt8))++((gtD p0.2.2 y14).2)))]:List zA4).length)) <|
 ck (i64B (y14+1)) <|
 zCT fu p0 k (y14+1) (y15.1,y15.2.1,(y15.2.2++([((gtD p0.2.2 y14).1,(([]:List (List UInt8))++((gtD p0.2.2 y14).2)))]:List zA4)))
 ) else (
 some y15
 )
def zE1 (fu:Nat) (p0:zA7):Option zA7:=
 ck (zD4 (([]:List zA3).length+p0.2.1.length)) <|
 cl true (zCT fu p0 fu 0 (p0.1,(([]:List zA3)++p0.2.1),([]:List zA4))) fun s13=>
 some s13
set_option linter.unusedSimpArgs false in
theorem zHq {fu : Nat} {A0 : Av} {p0 : zA7} {r : zA7} (c : zE1 fu p0 = some r) {w : World} {v0 : Value} (d : AvOK A0 w) (h0 : Rep zA2 A0 w v0 p0) :
 Calls prog 40 #[v0] w fun e w'=>∃ v,e=.returned v/\(zGB A0 (trR (geB w.heap.size) (oPr (oRd (eInt .i64)) (oPr (oRd (eSl zA0)) (oSl 54 (oRd zA1)))) r []) (fun _=>.any) w v w'):=by
 unfold zE1 at c
 obtain ⟨w0,hw0,j,C⟩:=pw d
 have hA00:AvOK A0 w0:=C
 rw [show zGB A0 (trR (geB w.heap.size) (oPr (oRd (eInt .i64)) (oPr (oRd (eSl zA0)) (oSl 54 (oRd zA1)))) r []) (fun _=>.any) w=zGB A0 (trR (geB w0.heap.size) (oPr (oRd (eInt .i64)) (oPr (oRd (eSl zA0)) (oSl 54 (oRd zA1)))) r []) (fun _=>.any) w0 from hw0 ▸ Z]
 obtain ⟨A,hAe,B,d,q⟩:=pa d
 refine zAB [.cell 2 27] func40 ntmps40 (by decide) Z Z (nb Z) ?_
 intro R hR
 have f_v0:Rep zA2 A w v0 p0:=hAe ▸ h0
 replace h0:R 0=v0:=hR 0 _ Z
 refine zPS [] (⟨_,true,[],some (.box w0.heap.size 27 zA2 p0),true,fun A=>.any⟩::⟨_,true,[],some (trR (geB w0.heap.size) (oPt 27 (oPr (oRd (eInt .i64)) (oPr (oRd (eSl zA0)) (oSl 54 (oRd zA1))))) (0,(([]:List zA3),([]:List zA4))) []),true,fun A=>.any⟩::[]) (ua (ua (UAll.nil))) q d ?_ ?_
 exact rc (OblR.made _ Z Z Z Z fun V Q U O D=>by have a0:Q 0=v0:=(O.old 0 Z).trans h0;have ra0:=(f_v0.stp O.stp).eq a0;exact zD0 ra0 (Nat.le_trans j.size O.ch.size))<|rc (zPX _ Z Z Z Z fun V Q U O D=>by exact zCg zeroValue27 (fun A w=>zD2 (zCy zAm) (zD2 (zCy zBD) zDN)) (fun k hk=>Nat.le_trans (Nat.le_trans j.size O.ch.size) hk))<|rz
 intro done ρ σ A R w y s
 obtain ⟨b1_0,e_b1_0⟩:=s.boxv y 0 Z Z
 have h1:=s.ov y 0 0 e_b1_0
 obtain ⟨u2,e_u2⟩:∃ u,ρ 1=u:=⟨_,Z⟩
 have h2:=s.ov y 1 1 e_u2
 obtain ⟨S3,eS_u2⟩:∃ S,σ 1=S:=⟨_,Z⟩
 obtain ⟨B,j,d⟩:=s.s B C j q N
 replace q:=s.left y [(0,ob (.pointer (some ⟨b1_0,0,none⟩)) (.box w0.heap.size 27 zA2 p0)),(1,⟨u2,S3,trR (geB w0.heap.size) (oPt 27 (oPr (oRd (eInt .i64)) (oPr (oRd (eSl zA0)) (oSl 54 (oRd zA1))))) (0,(([]:List zA3),([]:List zA4))) []⟩)] ⟨Z,Z,e_b1_0,Z,Z,⟨Z,Z,e_u2,eS_u2,Z,N⟩⟩
 refine zPQ ?_
 obtain ⟨e4,c⟩:=zAG c
 refine zPN [ob (.pointer (some ⟨b1_0,0,none⟩)) (.box w0.heap.size 27 zA2 p0),⟨u2,S3,trR (geB w0.heap.size) (oPt 27 (oPr (oRd (eInt .i64)) (oPr (oRd (eSl zA0)) (oSl 54 (oRd zA1))))) (0,(([]:List zA3),([]:List zA4))) []⟩] (rR (.pointer (some ⟨b1_0,0,none⟩))::rI p0.1::⟨_,true,[],some (.vec w0.heap.size 83 zA0 ([]:List zA3)),true,fun A=>.any⟩::rR (.pointer (some ⟨b1_0,1,none⟩))::(rF fun A=>.rep (eSl zA0) A p0.2.1)::⟨_,true,[4],some (.nul),false,fun A=>.rep (eSl zA0) A (([]:List zA3)++p0.2.1)⟩::⟨_,true,[],some (trR (geB w0.heap.size) (oPr (oRd (eInt .i64)) (oPr (oRd (eSl zA0)) (oSl 54 (oRd zA1)))) (p0.1,(([]:List zA3)++p0.2.1),([]:List zA4)) []),true,fun A=>.any⟩::⟨_,true,[],some (trR (geB w0.heap.size) (oPt 27 (oPr (oRd (eInt .i64)) (oPr (oRd (eSl zA0)) (oSl 54 (oRd zA1))))) (0,(([]:List zA3),([]:List zA4))) []),true,fun A=>.any⟩::⟨_,true,[9,8],some (trR (geB w0.heap.size) (oPt 27 (oPr (oRd (eInt .i64)) (oPr (oRd (eSl zA0)) (oSl 54 (oRd zA1))))) (p0.1,(([]:List zA3)++p0.2.1),([]:List zA4)) []),false,fun A=>.any⟩::[]) (by kernel_rfl) (by kernel_rfl) (by kernel_rfl) (Wf.mk' (by kernel_rfl) (ur (ur (ua (ur (up (up (ua (ua (ua (UAll.nil)))))))))) (by kernel_rfl) (by kernel_rfl)) q d ?_ ?_
 exact rp (fun V Q U O D=>zA8 ((O.old 1 Z).trans h1) zF0 sizeOf3 (by decide) Z)<|rp (fun V Q U O D=>OpF.int (zAA (O.rd 0 _ Z Z) (D.g 0 Z) zB4 Z isAgg3 sizeOf3))<|rc (OblR.made _ Z Z Z Z fun V Q U O D=>by exact zBM [] (E:=zA0) N underlying24 sizeOf83 zeroValue83 Z Z Z (Nat.le_trans j.size O.ch.size))<|rp (fun V Q U O D=>zA8 ((O.old 1 Z).trans h1) zIR sizeOf24 (by decide) Z)<|rp (fun V Q U O D=>(zAA (O.rd 0 _ Z Z) (D.g 0 Z) zDI Z isAgg24 sizeOf24))<|rc (zPW 4 _ Z Z Z Z Z fun V Q U O D u X Y J L M=>by have a1:Rep (eSl zA0) V U (Q 9) p0.2.1:=D.g 1 Z;exact OpR.thaw (zAs (L _ _ Z Z Z Z).symm X Y (Nat.le_trans j.size O.ch.size) a1 underlying24 zNL e4) O.av Y)<|rc (zPX _ Z Z Z Z fun V Q U O D=>by have a0:Q 6=.int .i64 p0.1:=D.g 0 Z;have a1:Rep (eSl zA0) V U (Q 10) (([]:List zA3)++p0.2.1):=D.g 1 Z;obtain ⟨c5a,c5n,c5k,c5,c5r⟩:=zF7 a1;exact zIj (v:=.agg #[.int .i64 p0.1,.slice c5a c5n c5k,.slice none 0 0]) (by simp [execOp,Instr.build,zAL,a0,c5,underlying,underlying27,zeroValue27,sizeOf24,sizeOf25,sizeOf3,go_sem,Instr.fill]) ⟨⟨_,Z,zD2 (zCy zAm) (zD2 (zCy c5r) zDN)⟩,fun q hq=>by cases hq⟩ (fun k hk=>Nat.le_trans (Nat.le_trans j.size O.ch.size) hk))<|rc (zPX _ Z Z Z Z fun V Q U O D=>by exact zCg zeroValue27 (fun A w=>zD2 (zCy zAm) (zD2 (zCy zBD) zDN)) (fun k hk=>Nat.le_trans (Nat.le_trans j.size O.ch.size) hk))<|rc (zPY 9 [8] _ Z Z Z Z fun V Q U O D ρ σ X Y J L M hdd=>by have k1:=X 9 (.head _) _ Z;exact zCK Z (zAp k1.2.2).ptr (X 8 (.tail _ (.head _)) _ Z).2.2.1 (L 8 (.tail _ (.head _)) _ _ Z Z Z Z).symm (L 9 (.head _) _ _ Z Z Z Z).symm Y hdd k1.2.1 (X 8 (.tail _ (.head _)) _ Z).2.1 sizeOf27 (fun _ _ _ h=>h))<|rz
 intro done ρ σ A R w y s
 obtain ⟨h1,h2⟩:=k2 s.rg h1 h2
 have z6:=s.inivR 0 Z
 have z7:=s.inivR 1 Z
 obtain ⟨u8,e_u8⟩:∃ u,ρ 10=u:=⟨_,Z⟩
 have z9:=(s.opnR y 10 8 Z Z Z Z Z).symm.trans e_u8
 have h3:=s.ov y 9 7 z9
 have eS_u2:=s.inisR 1 Z
 obtain ⟨S10,eS_u8⟩:∃ S,σ 10=S:=⟨_,Z⟩
 obtain ⟨B,j,d⟩:=s.s B C j q ⟨Z,⟨fun _ h=>h,N⟩⟩
 replace q:=s.left y [(0,ob (.pointer (some ⟨b1_0,0,none⟩)) (.box w0.heap.size 27 zA2 p0)),(1,⟨u2,S3,trR (geB w0.heap.size) (oPt 27 (oPr (oRd (eInt .i64)) (oPr (oRd (eSl zA0)) (oSl 54 (oRd zA1))))) (0,(([]:List zA3),([]:List zA4))) []⟩),(10,⟨u8,S10,trR (geB w0.heap.size) (oPt 27 (oPr (oRd (eInt .i64)) (oPr (oRd (eSl zA0)) (oSl 54 (oRd zA1))))) (p0.1,(([]:List zA3)++p0.2.1),([]:List zA4)) []⟩)] ⟨Z,Z,z6,Z,Z,⟨Z,Z,z7,eS_u2,Z,⟨Z,Z,e_u8,eS_u8,Z,N⟩⟩⟩
 refine zPQ ?_
 refine zPR d j (eI 0::[]) ?_ ?_
 exact op (fun Q U W H D=>zA6 Z)<|oz
 intro R w m n p d j
 obtain ⟨h1,h2,h3⟩:=k3 n h1 h2 h3
 have h4:=p.r 0 Z
 replace q:=q.fr m
 obtain ⟨rl11,q12,c⟩:=zA9 c
 replace q12:=q12 Z
 refine zPL (fun R w=>∃ A:Av,∃ (s13:zA7) (So_u8:Nat->Prop),rl11=s13/\AvOK A w/\Fr w0 w/\(∀ b o,A0 b o->A b o)/\IniOK [⟨u2,S3,trR (geB w0.heap.size) (oPt 27 (oPr (oRd (eInt .i64)) (oPr (oRd (eSl zA0)) (oSl 54 (oRd zA1))))) (0,(([]:List zA3),([]:List zA4))) []⟩,⟨u8,So_u8,trR (geB w0.heap.size) (oPt 27 (oPr (oRd (eInt .i64)) (oPr (oRd (eSl zA0)) (oSl 54 (oRd zA1))))) s13 []⟩] A w/\R 2=u2/\R 3=u8) ?_ ?_
 refine HT.block<|zPP (fun k R w=>∃ A:Av,∃ (y14:Int) (y15:zA7) (Sl_u8:Nat->Prop),zCT fu p0 k y14 y15=some rl11/\AvOK A w/\Fr w0 w/\(∀ b o,A0 b o->A b o)/\IniOK [ob (.pointer (some ⟨b1_0,0,none⟩)) (.box w0.heap.size 27 zA2 p0),⟨u2,S3,trR (geB w0.heap.size) (oPt 27 (oPr (oRd (eInt .i64)) (oPr (oRd (eSl zA0)) (oSl 54 (oRd zA1))))) (0,(([]:List zA3),([]:List zA4))) []⟩,⟨u8,Sl_u8,trR (geB w0.heap.size) (oPt 27 (oPr (oRd (eInt .i64)) (oPr (oRd (eSl zA0)) (oSl 54 (oRd zA1))))) y15 []⟩] A w/\R 1=(.pointer (some ⟨b1_0,0,none⟩))/\R 2=u2/\R 3=u8/\R 4=.int .i64 y14) fu ⟨_,_,_,S10,q12,d,j,B,q,h1,h2,h3,h4⟩ ?_
 have hr0:=c;clear c q12
 rintro k R w ⟨A,y14,y15,Sl_u8,c,d,j,B,q,h1,h2,h3,h4⟩
 rcases k with _ | k
 cases (show none=some _ from c)
 rw [zCT] at c
 refine zPQ ?_
 refine zPR d j (eI y14::eR (.pointer (some ⟨b1_0,2,none⟩))::eF (.rep (eSl zA1) A p0.2.2)::eI (p0.2.2.length:Int)::eB (decide (y14<(p0.2.2.length:Int)))::[]) ?_ ?_
 exact om h4<|op (fun Q U W H D=>zA8 ((H 1 Z).trans h1) zAv sizeOf25 (by decide) Z)<|op (fun Q U W H D=>(zAA ((q.fr W).ok 0 _ Z).1 (D.g 0 Z) zAJ Z isAgg25 sizeOf25))<|op (fun Q U W H D=>zAN (aT:=#[]) (D.g 0 Z) underlying25)<|op (fun Q U W H D=>zB8 (D.g 0 Z) (D.g 1 Z))<|oz
 intro R w m n p d j
 obtain ⟨h1,h2,h3,h4⟩:=k4 n h1 h2 h3 h4
 have h16:=p.r 4 Z
 replace q:=q.fr m
 refine zPJ (decide (y14<(p0.2.2.length:Int))) h16 (fun c16=>?_) (fun c16=>?_)
 have c:=zAe c16 c
 refine HT.skip<|zPQ ?_
 refine HT.block ?_
 obtain ⟨h17,p_h17⟩:=(((((zAp (q.own 2 _ Z).2).ptr).snd Z).snd (zCZ _ _ _))).open1 Z
 replace q:IniOK [ob (.pointer (some ⟨b1_0,0,none⟩)) (.box w0.heap.size 27 zA2 p0),⟨u2,S3,trR (geB w0.heap.size) (oPt 27 (oPr (oRd (eInt .i64)) (oPr (oRd (eSl zA0)) (oSl 54 (oRd zA1))))) (0,(([]:List zA3),([]:List zA4))) []⟩,⟨u8,Sl_u8,trR (geB w0.heap.size) (oPt 27 (oPr (oRd (eInt .i64)) (oPr (oRd (eSl zA0)) (oSl 54 (oRd zA1))))) y15 [((padd u8 2),[h17])]⟩] A w:=q.repin 2 Z (trP.pin p_h17)
 obtain ⟨e19,e20,e21,e23,c⟩:=ck4 c
 refine zPN [ob (.pointer (some ⟨b1_0,0,none⟩)) (.box w0.heap.size 27 zA2 p0),⟨u2,S3,trR (geB w0.heap.size) (oPt 27 (oPr (oRd (eInt .i64)) (oPr (oRd (eSl zA0)) (oSl 54 (oRd zA1))))) (0,(([]:List zA3),([]:List zA4))) []⟩,⟨u8,Sl_u8,trR (geB w0.heap.size) (oPt 27 (oPr (oRd (eInt .i64)) (oPr (oRd (eSl zA0)) (oSl 54 (oRd zA1))))) y15 [((padd u8 2),[h17])]⟩] (rR (padd u8 2)::rR h17::rR (.pointer (some ⟨b1_0,2,none⟩))::(rF fun A=>.rep (eSl zA1) A p0.2.2)::rI y14::(rF fun A=>.qtr zA1 A (gtD p0.2.2 y14))::(rF fun A=>.qtr (eInt .i64) A ((gtD p0.2.2 y14).1))::rI ((gtD p0.2.2 y14).1)::⟨_,true,[],some (.vec w0.heap.size 9 eStr ([]:List (List UInt8))),true,fun A=>.any⟩::rR (.pointer (some ⟨b1_0,2,none⟩))::(rF fun A=>.rep (eSl zA1) A p0.2.2)::rI y14::(rF fun A=>.qtr zA1 A (gtD p0.2.2 y14))::(rF fun A=>.qtr (eSl eStr) A ((gtD p0.2.2 y14).2))::(rF fun A=>.rep (eSl eStr) A ((gtD p0.2.2 y14).2))::⟨_,true,[11],some (.nul),false,fun A=>.rep (eSl eStr) A (([]:List (List UInt8))++((gtD p0.2.2 y14).2))⟩::(rF fun A=>.rep zA1 A ((gtD p0.2.2 y14).1,(([]:List (List UInt8))++((gtD p0.2.2 y14).2))))::(rF fun A=>.rep (eSl zA1) A ([((gtD p0.2.2 y14).1,(([]:List (List UInt8))++((gtD p0.2.2 y14).2)))]:List zA4))::⟨_,true,[2],some (.gen (geB w0.heap.size) (pdP (oSl 54 (oRd zA1)) (padd u8 2) (fun z A w S=>(trP (oPt 27 (oPr (oRd (eInt .i64)) (oPr (oRd (eSl zA0)) (oSl 54 (oRd zA1))))) (y15.1,y15.2.1,z) []).P A w S u8) (y15.2.2++([((gtD p0.2.2 y14).1,(([]:List (List UInt8))++((gtD p0.2.2 y14).2)))]:List zA4)))),true,fun A=>.any⟩::rR (padd u8 2)::⟨_,true,[21],some (.gen (geB w0.heap.size) (fixP u8 (trP (oPt 27 (oPr (oRd (eInt .i64)) (oPr (oRd (eSl zA0)) (oSl 54 (oRd zA1))))) (y15.1,y15.2.1,(y15.2.2++([((gtD p0.2.2 y14).1,(([]:List (List UInt8))++((gtD p0.2.2 y14).2)))]:List zA4))) []))),false,fun A=>.any⟩::[]) (by kernel_rfl) (by kernel_rfl) (by kernel_rfl) (Wf.mk' (by kernel_rfl) (ur (ur (ur (up (ur (UAll.cons zCM (UAll.cons zCM (ur (ua (ur (up (ur (UAll.cons zCM (UAll.cons zCM (up (up (up (up (ua (ur (ua (UAll.nil)))))))))))))))))))))) (by kernel_rfl) (by kernel_rfl)) q d ?_ ?_
 exact rp (fun V Q U O D=>zAx ((zAp (q.own 2 _ Z).2).ptr).ad ((O.old 3 Z).trans h3) zAv sizeOf25 (by decide) Z)<|rp (fun V Q U O D=>zEn ((O.rdo 2 _ Z Z).2.2 _ (.head _)) (D.g 0 Z) isAgg25 sizeOf25)<|rp (fun V Q U O D=>zA8 ((O.old 1 Z).trans h1) zAv sizeOf25 (by decide) Z)<|rp (fun V Q U O D=>(zAA (O.rd 0 _ Z Z) (D.g 0 Z) zAJ Z isAgg25 sizeOf25))<|rm h4<|rp (fun V Q U O D=>zAC (D.g 0 Z) (D.g 1 Z) underlying25 sizeOf54 e19)<|rp (fun V Q U O D=>zAX (qt (D.g 0 Z)) zDc sizeOf3 (by decide) zAU Z)<|rp (fun V Q U O D=>OpF.int (zAT (QRep.ptr (D.g 0 Z)) isAgg3 sizeOf3))<|rc (OblR.made _ Z Z Z Z fun V Q U O D=>by exact zBM [] (E:=eStr) N underlying28 sizeOf9 zeroValue9 Z Z Z (Nat.le_trans j.size O.ch.size))<|rp (fun V Q U O D=>zA8 ((O.old 1 Z).trans h1) zAv sizeOf25 (by decide) Z)<|rp (fun V Q U O D=>(zAA (O.rd 0 _ Z Z) (D.g 0 Z) zAJ Z isAgg25 sizeOf25))<|rm h4<|rp (fun V Q U O D=>zAC (D.g 0 Z) (D.g 1 Z) underlying25 sizeOf54 e20)<|rp (fun V Q U O D=>zAX (qt (D.g 0 Z)) zEi sizeOf28 (by decide) zAg Z)<|rp (fun V Q U O D=>(zAT (QRep.ptr (D.g 0 Z)) isAgg28 sizeOf28))<|rc (zPW 11 _ Z Z Z Z Z fun V Q U O D u X Y J L M=>by have a1:Rep (eSl eStr) V U (Q 33) ((gtD p0.2.2 y14).2):=D.g 1 Z;exact OpR.thaw (zAs (L _ _ Z Z Z Z).symm X Y (Nat.le_trans j.size O.ch.size) a1 underlying28 el_9 e21) O.av Y)<|rp (fun V Q U O D=>by have a0:Q 26=.int .i64 ((gtD p0.2.2 y14).1):=D.g 0 Z;obtain ⟨c22a,c22n,c22c,c22,c22r⟩:=zF7 (D.g 1 Z);exact zDn (v:=.agg #[.int .i64 ((gtD p0.2.2 y14).1),.slice c22a c22n c22c]) (by simp [execOp,Instr.build,zAL,a0,c22,underlying,underlying54,zeroValue54,sizeOf28,sizeOf3,go_sem,Instr.fill]) ⟨_,Z,zCo zAm c22r⟩)<|rp (fun V Q U O D=>zC7 [_] (E:=zA1) ⟨(D.g 0 Z),N⟩ underlying25 sizeOf54 zeroValue54 Z Z Z O.av)<|rc (zPZ 2 _ _ Z Z Z Z Z fun V Q U O D u S X I Y J L M=>by have a0:Q 20=h17:=D.g 0 Z;have a1:Rep (eSl zA1) V U (Q 36) ([((gtD p0.2.2 y14).1,(([]:List (List UInt8))++((gtD p0.2.2 y14).2)))]:List zA4):=D.g 1 Z;have e0:=(J _ Z).1;rw [e0] at I ⊢;exact zHv ((((zAp I.2).ptr).snd Z).snd (zCZ _ _ _)) (I.2.2 _ (.head _)) a0 Y I.1 (fun k hk=>Nat.le_trans (Nat.le_trans j.size O.ch.size) hk) (fun k hk=>SP.lt _ I.2 hk) a1 underlying25 zLr e23)<|rp (fun V Q U O D=>zAx ((zAp (q.own 2 _ Z).2).ptr).ad ((O.old 3 Z).trans h3) zAv sizeOf25 (by decide) Z)<|rc (zPZ 21 _ _ Z Z Z Z Z fun V Q U O D u S X I Y J L M=>by have a0:Q 38=(padd u8 2):=D.g 0 Z;exact zHL I.2 (L _ _ Z Z Z Z).symm a0 Y I.1 sizeOf25 (fun _ _ _ h=>h))<|rz
 intro done ρ σ A R w y s
 obtain ⟨h1,h2,h3,h4⟩:=k4 s.rg h1 h2 h3 h4
 have z24:=s.inivR 0 Z
 have z25:=s.inivR 1 Z
 obtain ⟨u26,e_u26⟩:∃ u,ρ 23=u:=⟨_,Z⟩
 have eS_u2:=s.inisR 1 Z
 obtain ⟨S27,eS_u8⟩:∃ S,σ 23=S:=⟨_,Z⟩
 obtain ⟨B,j,d⟩:=s.s B C j q ⟨Z,⟨fun _ h=>h,⟨fun _ h=>h,N⟩⟩⟩
 replace q:=s.left y [(0,ob (.pointer (some ⟨b1_0,0,none⟩)) (.box w0.heap.size 27 zA2 p0)),(1,⟨u2,S3,trR (geB w0.heap.size) (oPt 27 (oPr (oRd (eInt .i64)) (oPr (oRd (eSl zA0)) (oSl 54 (oRd zA1))))) (0,(([]:List zA3),([]:List zA4))) []⟩),(23,⟨u26,S27,.gen (geB w0.heap.size) (fixP u8 (trP (oPt 27 (oPr (oRd (eInt .i64)) (oPr (oRd (eSl zA0)) (oSl 54 (oRd zA1))))) (y15.1,y15.2.1,(y15.2.2++([((gtD p0.2.2 y14).1,(([]:List (List UInt8))++((gtD p0.2.2 y14).2)))]:List zA4))) []))⟩)] ⟨Z,Z,z24,Z,Z,⟨Z,Z,z25,eS_u2,Z,⟨Z,Z,e_u26,eS_u8,Z,N⟩⟩⟩
 replace q:IniOK [ob (.pointer (some ⟨b1_0,0,none⟩)) (.box w0.heap.size 27 zA2 p0),⟨u2,S3,trR (geB w0.heap.size) (oPt 27 (oPr (oRd (eInt .i64)) (oPr (oRd (eSl zA0)) (oSl 54 (oRd zA1))))) (0,(([]:List zA3),([]:List zA4))) []⟩,⟨u8,S27,trR (geB w0.heap.size) (oPt 27 (oPr (oRd (eInt .i64)) (oPr (oRd (eSl zA0)) (oSl 54 (oRd zA1))))) (y15.1,y15.2.1,(y15.2.2++([((gtD p0.2.2 y14).1,(([]:List (List UInt8))++((gtD p0.2.2 y14).2)))]:List zA4))) []⟩] A w:=q.refix 2 Z
 obtain ⟨Yg27,g_Yg27⟩:∃ z:zA7,z=(y15.1,y15.2.1,(y15.2.2++([((gtD p0.2.2 y14).1,(([]:List (List UInt8))++((gtD p0.2.2 y14).2)))]:List zA4))):=⟨_,Z⟩
 rw [<- g_Yg27] at q
 try rw [<- g_Yg27] at c
 obtain ⟨e29,c⟩:=zAG c
 refine HT.u d j (eI y14::eI (y14+1)::eI (y14+1)::[]) ?_ ?_
 exact om h4<|op (fun Q U W H D=>zAi (D.g 0 Z) Z e29)<|oa<|oz
 intro R w m n p d j
 obtain ⟨h1,h2,h3⟩:=k3 n h1 h2 h3
 have h4:=p.r 2 Z
 replace q:=q.fr m
 exact ei k (And.intro (Nat.lt_succ_self k) ⟨_,_,_,S27,c,d,j,B,q,h1,h2,h3,h4⟩)
 have c:=zAd c16 c
 refine zPO ?_
 obtain rfl:=si c
 replace q:IniOK [⟨u2,S3,trR (geB w0.heap.size) (oPt 27 (oPr (oRd (eInt .i64)) (oPr (oRd (eSl zA0)) (oSl 54 (oRd zA1))))) (0,(([]:List zA3),([]:List zA4))) []⟩,⟨u8,Sl_u8,trR (geB w0.heap.size) (oPt 27 (oPr (oRd (eInt .i64)) (oPr (oRd (eSl zA0)) (oSl 54 (oRd zA1))))) y15 []⟩] A w:=q.sub [(1,⟨u2,S3,trR (geB w0.heap.size) (oPt 27 (oPr (oRd (eInt .i64)) (oPr (oRd (eSl zA0)) (oSl 54 (oRd zA1))))) (0,(([]:List zA3),([]:List zA4))) []⟩),(2,⟨u8,Sl_u8,trR (geB w0.heap.size) (oPt 27 (oPr (oRd (eInt .i64)) (oPr (oRd (eSl zA0)) (oSl 54 (oRd zA1))))) y15 []⟩)] ⟨Z,Z,⟨Z,Z,N⟩⟩
 exact ei _ ⟨_,Sl_u8,Z,d,j,B,q,h2,h3⟩
 rintro R w ⟨A,s13,So_u8,es,d,j,B,q,h2,h3⟩
 obtain rfl:=es.symm
 refine zPS [⟨u2,S3,trR (geB w0.heap.size) (oPt 27 (oPr (oRd (eInt .i64)) (oPr (oRd (eSl zA0)) (oSl 54 (oRd zA1))))) (0,(([]:List zA3),([]:List zA4))) []⟩,⟨u8,So_u8,trR (geB w0.heap.size) (oPt 27 (oPr (oRd (eInt .i64)) (oPr (oRd (eSl zA0)) (oSl 54 (oRd zA1))))) s13 []⟩] (⟨_,true,[1],some (trR (geB w0.heap.size) (oPr (oRd (eInt .i64)) (oPr (oRd (eSl zA0)) (oSl 54 (oRd zA1)))) s13 []),true,fun A=>.any⟩::⟨_,true,[0,2],some (trR (geB w0.heap.size) (oPt 27 (oPr (oRd (eInt .i64)) (oPr (oRd (eSl zA0)) (oSl 54 (oRd zA1))))) s13 []),false,fun A=>.any⟩::[]) (ua (ua (UAll.nil))) q d ?_ ?_
 exact rc (zPZ 1 _ _ Z Z Z Z Z fun V Q U O D u S X I Y J L M=>by have a0:Q 3=u8:=(O.old 3 Z).trans h3;exact zDa I.2 (a0.trans (J _ Z).1.symm) Y I.1 isAgg27 sizeOf27)<|rc (zPY 0 [2] _ Z Z Z Z fun V Q U O D ρ σ X Y J L M hdd=>by have a0:Q 2=u2:=(O.old 2 Z).trans h2;have k1:=X 0 (.head _) _ Z;have e0:=(J 0 (.head _) _ Z).1;rw [e0] at k1 ⊢;exact zCK Z (zAp k1.2.2).ptr (X 2 (.tail _ (.head _)) _ Z).2.2.1 (L 2 (.tail _ (.head _)) _ _ Z Z Z Z).symm a0 Y hdd k1.2.1 (X 2 (.tail _ (.head _)) _ Z).2.1 sizeOf27 (fun _ _ _ h=>h))<|rz
 intro done ρ σ A R w y s
 replace h2:=k1 s.rg h2
 have z30:=s.inivR 0 Z
 have z31:=s.on y 3 1 Z Z Z Z Z z30
 obtain ⟨S32,eS_u2⟩:∃ S,σ 3=S:=⟨_,Z⟩
 obtain ⟨B,j,d⟩:=s.s B C j q ⟨fun _ h=>h,⟨fun _ h=>h,N⟩⟩
 replace q:=s.left y [(3,⟨u2,S32,trR (geB w0.heap.size) (oPt 27 (oPr (oRd (eInt .i64)) (oPr (oRd (eSl zA0)) (oSl 54 (oRd zA1))))) s13 []⟩)] ⟨Z,Z,z31,eS_u2,Z,N⟩
 refine HT.ret ?_
 obtain rfl:=si c
 obtain ⟨v_,e_,p_⟩:=zJ1 (T:=27) (f:=fun _=>.any) Z (q.own 0 _ Z) (q.ok 0 _ Z).2 B j h2 isAgg27 sizeOf27 (fun _ _=>N)
 exact ⟨.inr Z,[v_],⟨e_,N⟩,p_⟩
def zF2 (fu:Nat) (p0:Int):Option Bool:=
 bd ((decide (97<=p0))&&(decide (p0<=122))) fun x1=>
 bd ((decide (65<=p0))&&(decide (p0<=90))) fun x3=>
 bd (x1 || x3) fun x5=>
 bd ((decide (48<=p0))&&(decide (p0<=57))) fun x7=>
 bd (x5 || x7) fun x9=>
 some x9
theorem zI7 {fu : Nat} {A : Av} {p0 : Int} {r : Bool} (c : zF2 fu p0 = some r) {w : World} {v0 : Value} (d : AvOK A w) (h0 : v0=.int .u8 p0) :
 Calls prog 57 #[v0] w fun e w'=>∃ v,e=.returned v/\(v=.bool r/\Fr w w'):=by
 unfold zF2 at c
 obtain ⟨w0,hw0,j⟩:=pf w
 rw [fw hw0]
 refine zAB [.tmp 2] func57 ntmps57 (by decide) Z Z (nb Z) ?_
 intro R hR
 replace h0:R 0=.int .u8 p0:=(hR 0 _ Z).trans h0
 refine zPR d j (eB false::[]) ?_ ?_
 exact op (fun Q U W H D=>zA6 Z)<|oz
 intro R w m n p d j
 replace h0:=k1 n h0
 refine zPQ ?_
 obtain ⟨x1,q2,c⟩:=zAO c
 obtain ⟨x3,q4,c⟩:=zAO c
 obtain ⟨x5,q6,c⟩:=zAO c
 obtain ⟨x7,q8,c⟩:=zAO c
 obtain ⟨x9,q10,c⟩:=zAO c
 refine HT.u d j (eU p0::eB (decide (97<=p0))::eB (decide (97<=p0))::gU (true&&((decide (97<=p0))==true)) p0::gB (true&&((decide (97<=p0))==true)) (decide (p0<=122))::eB x1::eB x1::gU (true&&(x1==false)) p0::gB (true&&(x1==false)) (decide (65<=p0))::gB (true&&(x1==false)) (decide (65<=p0))::gU ((true&&(x1==false))&&((decide (65<=p0))==true)) p0::gB ((true&&(x1==false))&&((decide (65<=p0))==true)) (decide (p0<=90))::gB (true&&(x1==false)) x3::eB x5::eB x5::gU (true&&(x5==false)) p0::gB (true&&(x5==false)) (decide (48<=p0))::gB (true&&(x5==false)) (decide (48<=p0))::gU ((true&&(x5==false))&&((decide (48<=p0))==true)) p0::gB ((true&&(x5==false))&&((decide (48<=p0))==true)) (decide (p0<=57))::gB (true&&(x5==false)) x7::eB x9::eB x9::[]) ?_ ?_
 exact om h0<|op (fun Q U W H D=>zFI (D.g 0 Z) Z)<|ov<|gm 2 true h0<|og 2 true (fun G Q U W H D=>zGL (D.h 0 G Z) Z)<|op (fun Q U W H D=>zAR (decide (97<=p0)) (D.g 0 Z) (fun hc=>by have a1:Q 7=.bool (decide (p0<=122)):=D 1 _ _ _ Z Z Z Z (zBJ Z (zAf hc));show _=Value.bool x1;rw [q2,hc];exact a1) (fun hc=>by show _=Value.bool x1;rw [q2,hc];exact Z))<|ov<|gm 6 false h0<|og 6 false (fun G Q U W H D=>zFI (D.h 0 G Z) Z)<|og 6 false (fun G Q U W H D=>zBI (D.h 0 G Z))<|gm 9 true h0<|og 9 true (fun G Q U W H D=>zGL (D.h 0 G Z) Z)<|og 6 false (fun G Q U W H D=>zAR (decide (65<=p0)) (D.h 0 G Z) (fun hc=>by have a1:Q 14=.bool (decide (p0<=90)):=D 1 _ _ _ Z Z Z Z (zBJ G (zAf hc));show _=Value.bool x3;rw [q4,hc];exact a1) (fun hc=>by show _=Value.bool x3;rw [q4,hc];exact Z))<|op (fun Q U W H D=>zAR x1 (D.g 0 Z) (fun hc=>by show _=Value.bool x5;rw [q6,hc];exact Z) (fun hc=>by have a2:Q 15=.bool x3:=D 1 _ _ _ Z Z Z Z (zBJ Z (zAf hc));show _=Value.bool x5;rw [q6,hc];exact a2))<|ov<|gm 14 false h0<|og 14 false (fun G Q U W H D=>zFI (D.h 0 G Z) Z)<|og 14 false (fun G Q U W H D=>zBI (D.h 0 G Z))<|gm 17 true h0<|og 17 true (fun G Q U W H D=>zGL (D.h 0 G Z) Z)<|og 14 false (fun G Q U W H D=>zAR (decide (48<=p0)) (D.h 0 G Z) (fun hc=>by have a1:Q 22=.bool (decide (p0<=57)):=D 1 _ _ _ Z Z Z Z (zBJ G (zAf hc));show _=Value.bool x7;rw [q8,hc];exact a1) (fun hc=>by show _=Value.bool x7;rw [q8,hc];exact Z))<|op (fun Q U W H D=>zAR x5 (D.g 0 Z) (fun hc=>by show _=Value.bool x9;rw [q10,hc];exact Z) (fun hc=>by have a2:Q 23=.bool x7:=D 1 _ _ _ Z Z Z Z (zBJ Z (zAf hc));show _=Value.bool x9;rw [q10,hc];exact a2))<|oa<|oz
 intro R w m n p d j
 have h2:=p.r 22 Z
 refine HT.ret ?_
 obtain rfl:=si c
 exact ⟨.inr Z,[R 2],⟨Z,N⟩,h2,j⟩
def zBq (fu : Nat) (p0 : List UInt8) : Nat -> Int -> (List Int) -> Option (List Int)
 | 0,_,_=>none
 | k+1,y5,y6=>
 bif (decide (y5<(p0.length:Int))) then (
 ck (inR y5 p0.length) <|
 bd ((decide (65<=(bAt p0 y5)))&&(decide ((bAt p0 y5)<=90))) fun x9=>
 bif x9 then (
 ck (zD4 (y6.length+([(IntKind.u8.wrap ((bAt p0 y5)+32))]:List Int).length)) <|
 ck (i64B (y5+1)) <|
 zBq fu p0 k (y5+1) (y6++([(IntKind.u8.wrap ((bAt p0 y5)+32))]:List Int))
 ) else (
 ck (zD4 (y6.length+([(bAt p0 y5)]:List Int).length)) <|
 ck (i64B (y5+1)) <|
 zBq fu p0 k (y5+1) (y6++([(bAt p0 y5)]:List Int))
 )
 ) else (
 some y6
 )
def zDk (fu:Nat) (p0:List UInt8):Option (List UInt8):=
 cl true (zBq fu p0 fu 0 ([]:List Int)) fun s4=>
 some (strB s4)
theorem zHK {fu : Nat} {A0 : Av} {p0 : List UInt8} {r : List UInt8} (c : zDk fu p0 = some r) {w : World} {v0 : Value} (d : AvOK A0 w) (h0 : Rep eStr A0 w v0 p0) :
 Calls prog 58 #[v0] w fun e w'=>∃ v,e=.returned v/\(Rep eStr A0 w' v r/\Fr w w'):=by
 unfold zDk at c
 obtain ⟨w0,hw0,j,C⟩:=pw d
 have hA00:AvOK A0 w0:=C
 rw [fw hw0]
 obtain ⟨A,hAe,B,d,q⟩:=pa d
 refine zAB [.tmp 2] func58 ntmps58 (by decide) Z Z (nb Z) ?_
 intro R hR
 have f_v0:Rep eStr A w v0 p0:=hAe ▸ h0
 replace h0:R 0=v0:=hR 0 _ Z
 refine zPR d j (eF (.rep eStr A ([]:List UInt8))::[]) ?_ ?_
 exact op (fun Q U W H D=>zA6 ⟨_,Z,⟨_,Z,Z,by decide⟩⟩)<|oz
 intro R w m n p d j
 replace h0:=k1 n h0
 replace f_v0:=f_v0.fr m
 replace q:=q.fr m
 refine zPS [] (⟨_,true,[],some (.vec w0.heap.size 5 (eInt .u8) ([]:List Int)),true,fun A=>.any⟩::⟨_,true,[0],some (.vec w0.heap.size 5 (eInt .u8) ([]:List Int)),true,fun A=>.any⟩::[]) (ua (ua (UAll.nil))) q d ?_ ?_
 exact rc (OblR.made _ Z Z Z Z fun V Q U O D=>by exact zBM [] (E:=eInt .u8) N underlying22 sizeOf5 zeroValue5 Z Z Z (Nat.le_trans j.size O.ch.size))<|rc (OblR.took 0 _ _ Z Z Z Z Z fun V Q U O D u X Y J L M=>by exact zAP (L _ _ Z Z Z Z).symm X Y)<|rz
 intro done ρ σ A R w y s
 replace h0:=k1 s.rg h0
 obtain ⟨u1,e_u1⟩:∃ u,ρ 1=u:=⟨_,Z⟩
 have h3:=s.ov y 1 1 e_u1
 replace f_v0:=f_v0.stp s.stp
 obtain ⟨B,j,d⟩:=s.s B C j q N
 replace q:=s.left y [(1,ob u1 (.vec w0.heap.size 5 (eInt .u8) ([]:List Int)))] ⟨Z,Z,e_u1,Z,Z,N⟩
 refine zPQ ?_
 refine zPR d j (eI 0::[]) ?_ ?_
 exact op (fun Q U W H D=>zA6 Z)<|oz
 intro R w m n p d j
 obtain ⟨h0,h3⟩:=k2 n h0 h3
 have h4:=p.r 0 Z
 replace f_v0:=f_v0.fr m
 replace q:=q.fr m
 obtain ⟨rl2,q3,c⟩:=zA9 c
 replace q3:=q3 Z
 refine zPL (fun R w=>∃ A:Av,∃ (s4:(List Int)) (uo_u1:Value),rl2=s4/\AvOK A w/\Fr w0 w/\(∀ b o,A0 b o->A b o)/\IniOK [ob uo_u1 (.vec w0.heap.size 5 (eInt .u8) s4)] A w/\R 3=uo_u1) ?_ ?_
 refine HT.block<|zPP (fun k R w=>∃ A:Av,∃ (y5:Int) (y6:List Int) (ul_u1:Value),zBq fu p0 k y5 y6=some rl2/\AvOK A w/\Fr w0 w/\(∀ b o,A0 b o->A b o)/\IniOK [ob ul_u1 (.vec w0.heap.size 5 (eInt .u8) y6)] A w/\R 0=v0/\R 3=ul_u1/\R 4=.int .i64 y5/\Rep eStr A w v0 p0) fu ⟨_,_,_,u1,q3,d,j,B,q,h0,h3,h4,f_v0⟩ ?_
 have hr0:=c;clear c q3
 rintro k R w ⟨A,y5,y6,ul_u1,c,d,j,B,q,h0,h3,h4,f_v0⟩
 rcases k with _ | k
 cases (show none=some _ from c)
 rw [zBq] at c
 refine zPQ ?_
 refine zPR d j (eI y5::eR v0::eI (p0.length:Int)::eB (decide (y5<(p0.length:Int)))::[]) ?_ ?_
 exact om h4<|om h0<|op (fun Q U W H D=>zHi ((f_v0.fr W).eq (D.g 0 Z)) underlying9)<|op (fun Q U W H D=>zB8 (D.g 0 Z) (D.g 1 Z))<|oz
 intro R w m n p d j
 obtain ⟨h0,h3,h4⟩:=k3 n h0 h3 h4
 have h10:=p.r 3 Z
 replace f_v0:=f_v0.fr m
 replace q:=q.fr m
 refine zPJ (decide (y5<(p0.length:Int))) h10 (fun c7=>?_) (fun c7=>?_)
 have c:=zAe c7 c
 refine HT.skip<|zPQ ?_
 refine HT.block ?_
 obtain ⟨e8,c⟩:=zAG c
 refine zPR d j (eR v0::eI y5::eU (bAt p0 y5)::eU (bAt p0 y5)::[]) ?_ ?_
 exact om h0<|om h4<|op (fun Q U W H D=>zFg ((f_v0.fr W).eq (D.g 0 Z)) (D.g 1 Z) underlying9 e8)<|oa<|oz
 intro R w m n p d j
 obtain ⟨h0,h3,h4⟩:=k3 n h0 h3 h4
 have h5:=p.r 3 Z
 replace f_v0:=f_v0.fr m
 replace q:=q.fr m
 refine zPQ ?_
 refine zPQ ?_
 obtain ⟨x9,q10,c⟩:=zAO c
 refine HT.u d j (eU (bAt p0 y5)::eB (decide (65<=(bAt p0 y5)))::eB (decide (65<=(bAt p0 y5)))::gU (true&&((decide (65<=(bAt p0 y5)))==true)) (bAt p0 y5)::gB (true&&((decide (65<=(bAt p0 y5)))==true)) (decide ((bAt p0 y5)<=90))::eB x9::[]) ?_ ?_
 exact om h5<|op (fun Q U W H D=>zFI (D.g 0 Z) Z)<|ov<|gm 2 true h5<|og 2 true (fun G Q U W H D=>zGL (D.h 0 G Z) Z)<|op (fun Q U W H D=>zAR (decide (65<=(bAt p0 y5))) (D.g 0 Z) (fun hc=>by have a1:Q 20=.bool (decide ((bAt p0 y5)<=90)):=D 1 _ _ _ Z Z Z Z (zBJ Z (zAf hc));show _=Value.bool x9;rw [q10,hc];exact a1) (fun hc=>by show _=Value.bool x9;rw [q10,hc];exact Z))<|oz
 intro R w m n p d j
 obtain ⟨h0,h3,h4,h5⟩:=k4 n h0 h3 h4 h5
 have h21:=p.r 5 Z
 replace f_v0:=f_v0.fr m
 replace q:=q.fr m
 refine zPJ x9 h21 (fun c11=>?_) (fun c11=>?_)
 have c:=zAe c11 c
 refine HT.u d j (eU (bAt p0 y5)::eU (IntKind.u8.wrap ((bAt p0 y5)+32))::eU (IntKind.u8.wrap ((bAt p0 y5)+32))::[]) ?_ ?_
 exact om h5<|op (fun Q U W H D=>zIE (D.g 0 Z) Z)<|oa<|oz
 intro R w m n p d j
 obtain ⟨h0,h3,h4⟩:=k3 n h0 h3 h4
 have h5:=p.r 2 Z
 replace f_v0:=f_v0.fr m
 replace q:=q.fr m
 obtain ⟨e12,c⟩:=zAG c
 refine zPV [ob ul_u1 (.vec w0.heap.size 5 (eInt .u8) y6)] (rR ul_u1::rU (IntKind.u8.wrap ((bAt p0 y5)+32))::(rF fun A=>.rep (eSl (eInt .u8)) A ([(IntKind.u8.wrap ((bAt p0 y5)+32))]:List Int))::⟨_,true,[0],some (.vec w0.heap.size 5 (eInt .u8) (y6++([(IntKind.u8.wrap ((bAt p0 y5)+32))]:List Int))),true,fun A=>.any⟩::⟨_,true,[4],some (.vec w0.heap.size 5 (eInt .u8) (y6++([(IntKind.u8.wrap ((bAt p0 y5)+32))]:List Int))),true,fun A=>.any⟩::[]) (ur (ur (up (ua (ua (UAll.nil)))))) q d ?_ ?_
 exact rm h3<|rm h5<|rp (fun V Q U O D=>zC7 [_] (E:=eInt .u8) ⟨(zBa.eq (D.g 0 Z)),N⟩ underlying22 sizeOf5 zeroValue5 Z Z Z O.av)<|rc (OblR.took 0 _ _ Z Z Z Z Z fun V Q U O D u X Y J L M=>by have a0:Q 24=ul_u1:=D.g 0 Z;have a1:Rep (eSl (eInt .u8)) V U (Q 26) ([(IntKind.u8.wrap ((bAt p0 y5)+32))]:List Int):=D.g 1 Z;exact zAs (a0.trans (J _ Z).symm) X Y (Nat.le_trans j.size O.ch.size) a1 underlying22 el_5 e12)<|rc (OblR.took 4 _ _ Z Z Z Z Z fun V Q U O D u X Y J L M=>by exact zAP (L _ _ Z Z Z Z).symm X Y)<|rz
 intro done ρ σ A R w y s
 obtain ⟨h0,h4⟩:=k2 s.rg h0 h4
 obtain ⟨u13,e_u13⟩:∃ u,ρ 5=u:=⟨_,Z⟩
 have h3:=s.ov y 5 4 e_u13
 replace f_v0:=f_v0.stp s.stp
 obtain ⟨B,j,d⟩:=s.s B C j q ⟨Z,N⟩
 replace q:=s.left y [(5,ob u13 (.vec w0.heap.size 5 (eInt .u8) (y6++([(IntKind.u8.wrap ((bAt p0 y5)+32))]:List Int))))] ⟨Z,Z,e_u13,Z,Z,N⟩
 obtain ⟨e14,c⟩:=zAG c
 refine HT.u d j (eI y5::eI (y5+1)::eI (y5+1)::[]) ?_ ?_
 exact om h4<|op (fun Q U W H D=>zAi (D.g 0 Z) Z e14)<|oa<|oz
 intro R w m n p d j
 obtain ⟨h0,h3⟩:=k2 n h0 h3
 have h4:=p.r 2 Z
 replace f_v0:=f_v0.fr m
 replace q:=q.fr m
 exact ei k (And.intro (Nat.lt_succ_self k) ⟨_,_,_,u13,c,d,j,B,q,h0,h3,h4,f_v0⟩)
 have c:=zAd c11 c
 refine HT.skip ?_
 obtain ⟨e15,c⟩:=zAG c
 refine zPV [ob ul_u1 (.vec w0.heap.size 5 (eInt .u8) y6)] (rR ul_u1::rU (bAt p0 y5)::(rF fun A=>.rep (eSl (eInt .u8)) A ([(bAt p0 y5)]:List Int))::⟨_,true,[0],some (.vec w0.heap.size 5 (eInt .u8) (y6++([(bAt p0 y5)]:List Int))),true,fun A=>.any⟩::⟨_,true,[4],some (.vec w0.heap.size 5 (eInt .u8) (y6++([(bAt p0 y5)]:List Int))),true,fun A=>.any⟩::[]) (ur (ur (up (ua (ua (UAll.nil)))))) q d ?_ ?_
 exact rm h3<|rm h5<|rp (fun V Q U O D=>zC7 [_] (E:=eInt .u8) ⟨(zBa.eq (D.g 0 Z)),N⟩ underlying22 sizeOf5 zeroValue5 Z Z Z O.av)<|rc (OblR.took 0 _ _ Z Z Z Z Z fun V Q U O D u X Y J L M=>by have a0:Q 24=ul_u1:=D.g 0 Z;have a1:Rep (eSl (eInt .u8)) V U (Q 26) ([(bAt p0 y5)]:List Int):=D.g 1 Z;exact zAs (a0.trans (J _ Z).symm) X Y (Nat.le_trans j.size O.ch.size) a1 underlying22 el_5 e15)<|rc (OblR.took 4 _ _ Z Z Z Z Z fun V Q U O D u X Y J L M=>by exact zAP (L _ _ Z Z Z Z).symm X Y)<|rz
 intro done ρ σ A R w y s
 obtain ⟨h0,h4⟩:=k2 s.rg h0 h4
 obtain ⟨u16,e_u16⟩:∃ u,ρ 5=u:=⟨_,Z⟩
 have h3:=s.ov y 5 4 e_u16
 replace f_v0:=f_v0.stp s.stp
 obtain ⟨B,j,d⟩:=s.s B C j q ⟨Z,N⟩
 replace q:=s.left y [(5,ob u16 (.vec w0.heap.size 5 (eInt .u8) (y6++([(bAt p0 y5)]:List Int))))] ⟨Z,Z,e_u16,Z,Z,N⟩
 obtain ⟨e17,c⟩:=zAG c
 refine HT.u d j (eI y5::eI (y5+1)::eI (y5+1)::[]) ?_ ?_
 exact om h4<|op (fun Q U W H D=>zAi (D.g 0 Z) Z e17)<|oa<|oz
 intro R w m n p d j
 obtain ⟨h0,h3⟩:=k2 n h0 h3
 have h4:=p.r 2 Z
 replace f_v0:=f_v0.fr m
 replace q:=q.fr m
 exact ei k (And.intro (Nat.lt_succ_self k) ⟨_,_,_,u16,c,d,j,B,q,h0,h3,h4,f_v0⟩)
 have c:=zAd c7 c
 refine zPO ?_
 obtain rfl:=si c
 exact ei _ ⟨_,ul_u1,Z,d,j,B,q,h3⟩
 rintro R w ⟨A,s4,uo_u1,es,d,j,B,q,h3⟩
 obtain rfl:=es.symm
 refine zPR d j (eR uo_u1::eF (.rep eStr A (strB s4))::eF (.rep eStr A (strB s4))::[]) ?_ ?_
 exact om h3<|op (fun Q U W H D=>zJp ((zDt ((q.fr W).ok 0 _ Z).1 B C).eq (D.g 0 Z)) underlying22 underlying5 underlying9)<|op (fun Q U W H D=>zA6 (D.g 0 Z))<|oz
 intro R w m n p d j
 obtain ⟨u18,h2,f_u18⟩:∃ u,R 2=u/\Rep eStr A w u (strB s4):=⟨_,Z,p 2 _ _ Z Z Z⟩
 replace q:=q.fr m
 replace q:IniOK [] A w:=q.sub [] N
 refine HT.ret ?_
 obtain rfl:=si c
 exact ⟨.inr Z,[R 2],⟨Z,N⟩,(f_u18.eq h2).down B,j⟩
def zBC (fu : Nat) (p0 : List (List UInt8)) (y4 : Int) : Nat -> Int -> Option (Ex Bool Unit)
 | 0,_=>none
 | k+1,y18=>
 ck (inR y4 p0.length) <|
 bif (decide (y18<((gtD p0 y4).length:Int))) then (
 ck (inR y4 p0.length) <|
 ck (inR y18 (gtD p0 y4).length) <|
 cl true (zF2 fu (bAt (gtD p0 y4) y18)) fun x23=>
 ck (!(true&&((!x23)==false)) || inR y4 p0.length) <|
 cl (true&&((!x23)==false)) (zDk fu (gtD p0 y4)) fun x26=>
 ck (!(true&&((!x23)==false)) || inR y4 p0.length) <|
 bd ((!x23) || (!(x26==(gtD p0 y4)))) fun x29=>
 bif x29 then (
 some (Ex.ret false)
 ) else (
 ck (i64B (y18+1)) <|
 zBC fu p0 y4 k (y18+1)
 )
 ) else (
 some (Ex.go ())
 )
def zBS (fu : Nat) (p0 : List (List UInt8)) : Nat -> Int -> Option (Ex Bool Unit)
 | 0,_=>none
 | k+1,y4=>
 bif (decide (y4<(p0.length:Int))) then (
 ck (inR y4 p0.length) <|
 ck (!((true&&(((gtD p0 y4)==([]:List UInt8))==false))&&((decide (0<y4))==true)) || i64B (y4-1)) <|
 ck (!((true&&(((gtD p0 y4)==([]:List UInt8))==false))&&((decide (0<y4))==true)) || inR (y4-1) p0.length) <|
 ck (!((true&&(((gtD p0 y4)==([]:List UInt8))==false))&&((decide (0<y4))==true)) || inR y4 p0.length) <|
 bd ((decide (0<y4))&&(!(bLt (gtD p0 (y4-1)) (gtD p0 y4)))) fun x10=>
 bd (((gtD p0 y4)==([]:List UInt8)) || x10) fun x12=>
 bif x12 then (
 some (Ex.ret false)
 ) else (
 cl true (zBC fu p0 y4 fu 0) fun rl15=>
 exM rl15 (fun r=>some (Ex.ret r)) fun s17=>
 ck (i64B (y4+1)) <|
 zBS fu p0 k (y4+1)
 )
 ) else (
 some (Ex.go ())
 )
def zBQ (fu:Nat) (p0:List (List UInt8)):Option Bool:=
 cl true (zBS fu p0 fu 0) fun rl1=>
 exM rl1 (fun r=>some r) fun s3=>
 some true
theorem zCC {fu : Nat} {A : Av} {p0 : List (List UInt8)} {r : Bool} (c : zBQ fu p0 = some r) {w : World} {v0 : Value} (d : AvOK A w) (h0 : Rep (eSl eStr) A w v0 p0) :
 Calls prog 29 #[v0] w fun e w'=>∃ v,e=.returned v/\(v=.bool r/\Fr w w'):=by
 unfold zBQ at c
 obtain ⟨w0,hw0,j⟩:=pf w
 rw [fw hw0]
 refine zAB [.tmp 2] func29 ntmps29 (by decide) Z Z (nb Z) ?_
 intro R hR
 have f_v0:=h0
 replace h0:R 0=v0:=hR 0 _ Z
 refine zPR d j (eB false::[]) ?_ ?_
 exact op (fun Q U W H D=>zA6 Z)<|oz
 intro R w m n p d j
 replace h0:=k1 n h0
 replace f_v0:=f_v0.fr m
 refine zPQ ?_
 refine zPR d j (eI 0::[]) ?_ ?_
 exact op (fun Q U W H D=>zA6 Z)<|oz
 intro R w m n p d j
 replace h0:=k1 n h0
 have h3:=p.r 0 Z
 replace f_v0:=f_v0.fr m
 obtain ⟨rl1,q2,c⟩:=zA9 c
 replace q2:=q2 Z
 refine zPL (fun R w=>∃ (s3:Unit),rl1=Ex.go s3/\AvOK A w/\Fr w0 w) ?_ ?_
 refine HT.block<|zPP (fun k R w=>∃ (y4:Int),zBS fu p0 k y4=some rl1/\AvOK A w/\Fr w0 w/\R 0=v0/\R 3=.int .i64 y4/\Rep (eSl eStr) A w v0 p0) fu ⟨_,q2,d,j,h0,h3,f_v0⟩ ?_
 have hr0:=c;clear c q2
 rintro k R w ⟨y4,c,d,j,h0,h3,f_v0⟩
 rcases k with _ | k
 cases (show none=some _ from c)
 rw [zBS] at c
 refine zPQ ?_
 refine zPR d j (eI y4::eR v0::eI (p0.length:Int)::eB (decide (y4<(p0.length:Int)))::[]) ?_ ?_
 exact om h3<|om h0<|op (fun Q U W H D=>zAN (aT:=#[]) ((f_v0.fr W).eq (D.g 0 Z)) underlying28)<|op (fun Q U W H D=>zB8 (D.g 0 Z) (D.g 1 Z))<|oz
 intro R w m n p d j
 obtain ⟨h0,h3⟩:=k2 n h0 h3
 have h8:=p.r 3 Z
 replace f_v0:=f_v0.fr m
 refine zPJ (decide (y4<(p0.length:Int))) h8 (fun c5=>?_) (fun c5=>?_)
 have c:=zAe c5 c
 refine HT.skip<|zPQ ?_
 refine HT.block<|zPQ ?_
 refine zPQ ?_
 obtain ⟨e6,e7,e8,e9,c⟩:=ck4 c
 obtain ⟨x10,q11,c⟩:=zAO c
 obtain ⟨x12,q13,c⟩:=zAO c
 refine zPM (by kernel_rfl) (l:=eR v0::eI y4::eF (.qtr eStr A (gtD p0 y4))::eF (.rep eStr A (gtD p0 y4))::eB ((gtD p0 y4)==([]:List UInt8))::eB ((gtD p0 y4)==([]:List UInt8))::gI (true&&(((gtD p0 y4)==([]:List UInt8))==false)) y4::gB (true&&(((gtD p0 y4)==([]:List UInt8))==false)) (decide (0<y4))::gB (true&&(((gtD p0 y4)==([]:List UInt8))==false)) (decide (0<y4))::gR ((true&&(((gtD p0 y4)==([]:List UInt8))==false))&&((decide (0<y4))==true)) v0::gI ((true&&(((gtD p0 y4)==([]:List UInt8))==false))&&((decide (0<y4))==true)) y4::gI ((true&&(((gtD p0 y4)==([]:List UInt8))==false))&&((decide (0<y4))==true)) (y4-1)::gF ((true&&(((gtD p0 y4)==([]:List UInt8))==false))&&((decide (0<y4))==true)) (.qtr eStr A (gtD p0 (y4-1)))::gF ((true&&(((gtD p0 y4)==([]:List UInt8))==false))&&((decide (0<y4))==true)) (.rep eStr A (gtD p0 (y4-1)))::gR ((true&&(((gtD p0 y4)==([]:List UInt8))==false))&&((decide (0<y4))==true)) v0::gI ((true&&(((gtD p0 y4)==([]:List UInt8))==false))&&((decide (0<y4))==true)) y4::gF ((true&&(((gtD p0 y4)==([]:List UInt8))==false))&&((decide (0<y4))==true)) (.qtr eStr A (gtD p0 y4))::gF ((true&&(((gtD p0 y4)==([]:List UInt8))==false))&&((decide (0<y4))==true)) (.rep eStr A (gtD p0 y4))::gB ((true&&(((gtD p0 y4)==([]:List UInt8))==false))&&((decide (0<y4))==true)) (!(bLt (gtD p0 (y4-1)) (gtD p0 y4)))::gB (true&&(((gtD p0 y4)==([]:List UInt8))==false)) x10::eB x12::[]) (tl:=[]) (by kernel_rfl) (by kernel_rfl) (by kernel_rfl) (by kernel_rfl) ?_ ?_
 exact om h0<|om h3<|op (fun Q U W H D=>zAC ((f_v0.fr W).eq (D.g 0 Z)) (D.g 1 Z) underlying28 sizeOf9 e6)<|op (fun Q U W H D=>(zAT (QRep.ptr (D.g 0 Z)) isAgg9 sizeOf9))<|op (fun Q U W H D=>zFc (D.g 0 Z) ⟨_,Z,⟨_,Z,Z,by decide⟩⟩)<|ov<|gm 5 false h3<|og 5 false (fun G Q U W H D=>zEH (D.h 0 G Z) Z)<|og 5 false (fun G Q U W H D=>zBI (D.h 0 G Z))<|gm 8 true h0<|gm 8 true h3<|og 8 true (fun G Q U W H D=>zDf (D.h 0 G Z) Z (gd e7 G))<|og 8 true (fun G Q U W H D=>zAC ((f_v0.fr W).eq (D.h 0 G Z)) (D.h 1 G Z) underlying28 sizeOf9 (gd e8 G))<|og 8 true (fun G Q U W H D=>(zAT (QRep.ptr (D.h 0 G Z)) isAgg9 sizeOf9))<|gm 8 true h0<|gm 8 true h3<|og 8 true (fun G Q U W H D=>zAC ((f_v0.fr W).eq (D.h 0 G Z)) (D.h 1 G Z) underlying28 sizeOf9 (gd e9 G))<|og 8 true (fun G Q U W H D=>(zAT (QRep.ptr (D.h 0 G Z)) isAgg9 sizeOf9))<|og 8 true (fun G Q U W H D=>zJn (D.h 0 G Z) (D.h 1 G Z))<|og 5 false (fun G Q U W H D=>zAR (decide (0<y4)) (D.h 0 G Z) (fun hc=>by have a1:Q 29=.bool (!(bLt (gtD p0 (y4-1)) (gtD p0 y4))):=D 1 _ _ _ Z Z Z Z (zBJ G (zAf hc));show _=Value.bool x10;rw [q11,hc];exact a1) (fun hc=>by show _=Value.bool x10;rw [q11,hc];exact Z))<|op (fun Q U W H D=>zAR ((gtD p0 y4)==([]:List UInt8)) (D.g 0 Z) (fun hc=>by show _=Value.bool x12;rw [q13,hc];exact Z) (fun hc=>by have a2:Q 30=.bool x10:=D 1 _ _ _ Z Z Z Z (zBJ Z (zAf hc));show _=Value.bool x12;rw [q13,hc];exact a2))<|oz
 intro R w m n p
 obtain ⟨h0,h3⟩:=k2 n h0 h3
 have h31:=p.r 20 Z
 replace f_v0:=f_v0.fr m
 replace d:=d.fr m.size
 replace j:=j.trans m
 refine zPJ x12 h31 (fun c14=>?_) (fun c14=>?_)
 have c:=zAe c14 c
 refine zPR d j (eB false::[]) ?_ ?_
 exact op (fun Q U W H D=>zA6 Z)<|oz
 intro R w m n p d j
 have h2:=p.r 0 Z
 refine HT.ret ?_
 obtain rfl:=si c
 have c:=hr0
 replace c:some _=some _:=c
 obtain rfl:=si c
 exact ⟨.inr Z,[R 2],⟨Z,N⟩,h2,j⟩
 have c:=zAd c14 c
 refine HT.skip<|zPR d j (eI 0::[]) ?_ ?_
 exact op (fun Q U W H D=>zA6 Z)<|oz
 intro R w m n p d j
 obtain ⟨h0,h3⟩:=k2 n h0 h3
 have h4:=p.r 0 Z
 replace f_v0:=f_v0.fr m
 obtain ⟨rl15,q16,c⟩:=zA9 c
 replace q16:=q16 Z
 refine zPL (fun R w=>∃ (s17:Unit),rl15=Ex.go s17/\AvOK A w/\Fr w0 w/\R 0=v0/\R 3=.int .i64 y4/\Rep (eSl eStr) A w v0 p0) ?_ ?_
 refine HT.block<|zPP (fun k R w=>∃ (y18:Int),zBC fu p0 y4 k y18=some rl15/\AvOK A w/\Fr w0 w/\R 0=v0/\R 3=.int .i64 y4/\R 4=.int .i64 y18/\Rep (eSl eStr) A w v0 p0) fu ⟨_,q16,d,j,h0,h3,h4,f_v0⟩ ?_
 have hr1:=c;clear c q16
 rintro k R w ⟨y18,c,d,j,h0,h3,h4,f_v0⟩
 rcases k with _ | k
 cases (show none=some _ from c)
 rw [zBC] at c
 refine zPQ ?_
 obtain ⟨e19,c⟩:=zAG c
 refine zPR d j (eI y18::eR v0::eI y4::eF (.qtr eStr A (gtD p0 y4))::eF (.rep eStr A (gtD p0 y4))::eI ((gtD p0 y4).length:Int)::eB (decide (y18<((gtD p0 y4).length:Int)))::[]) ?_ ?_
 exact om h4<|om h0<|om h3<|op (fun Q U W H D=>zAC ((f_v0.fr W).eq (D.g 0 Z)) (D.g 1 Z) underlying28 sizeOf9 e19)<|op (fun Q U W H D=>(zAT (QRep.ptr (D.g 0 Z)) isAgg9 sizeOf9))<|op (fun Q U W H D=>zHi (D.g 0 Z) underlying9)<|op (fun Q U W H D=>zB8 (D.g 0 Z) (D.g 1 Z))<|oz
 intro R w m n p d j
 obtain ⟨h0,h3,h4⟩:=k3 n h0 h3 h4
 have h38:=p.r 6 Z
 replace f_v0:=f_v0.fr m
 refine zPJ (decide (y18<((gtD p0 y4).length:Int))) h38 (fun c20=>?_) (fun c20=>?_)
 have c:=zAe c20 c
 refine HT.skip<|zPQ ?_
 refine HT.block<|zPQ ?_
 obtain ⟨e21,e22,c⟩:=ck2 c
 obtain ⟨x23,q24,c⟩:=zA9 c
 obtain ⟨e25,c⟩:=zAG c
 obtain ⟨x26,q27,c⟩:=zA9 c
 obtain ⟨e28,c⟩:=zAG c
 obtain ⟨x29,q30,c⟩:=zAO c
 refine zPM (by kernel_rfl) (l:=eR v0::eI y4::eF (.qtr eStr A (gtD p0 y4))::eF (.rep eStr A (gtD p0 y4))::eI y18::eU (bAt (gtD p0 y4) y18)::eB x23::eB (!x23)::eB (!x23)::gR (true&&((!x23)==false)) v0::gI (true&&((!x23)==false)) y4::gF (true&&((!x23)==false)) (.qtr eStr A (gtD p0 y4))::gF (true&&((!x23)==false)) (.rep eStr A (gtD p0 y4))::gF (true&&((!x23)==false)) (.rep eStr A x26)::gR (true&&((!x23)==false)) v0::gI (true&&((!x23)==false)) y4::gF (true&&((!x23)==false)) (.qtr eStr A (gtD p0 y4))::gF (true&&((!x23)==false)) (.rep eStr A (gtD p0 y4))::gB (true&&((!x23)==false)) (!(x26==(gtD p0 y4)))::eB x29::[]) (tl:=[]) (by kernel_rfl) (by kernel_rfl) (by kernel_rfl) (by kernel_rfl) ?_ ?_
 exact om h0<|om h3<|op (fun Q U W H D=>zAC ((f_v0.fr W).eq (D.g 0 Z)) (D.g 1 Z) underlying28 sizeOf9 e21)<|op (fun Q U W H D=>(zAT (QRep.ptr (D.g 0 Z)) isAgg9 sizeOf9))<|om h4<|op (fun Q U W H D=>zFg (D.g 0 Z) (D.g 1 Z) underlying9 e22)<|op (fun Q U W H D=>zAM call57 (zI7 (q24 Z) (d.fr W.size) (D.g 0 Z)))<|op (fun Q U W H D=>zBY (D.g 0 Z))<|ov<|gm 8 false h0<|gm 8 false h3<|og 8 false (fun G Q U W H D=>zAC ((f_v0.fr W).eq (D.h 0 G Z)) (D.h 1 G Z) underlying28 sizeOf9 (gd e25 G))<|og 8 false (fun G Q U W H D=>(zAT (QRep.ptr (D.h 0 G Z)) isAgg9 sizeOf9))<|og 8 false (fun G Q U W H D=>zAM call58 (zHK (q27 G) (d.fr W.size) (D.h 0 G Z)))<|gm 8 false h0<|gm 8 false h3<|og 8 false (fun G Q U W H D=>zAC ((f_v0.fr W).eq (D.h 0 G Z)) (D.h 1 G Z) underlying28 sizeOf9 (gd e28 G))<|og 8 false (fun G Q U W H D=>(zAT (QRep.ptr (D.h 0 G Z)) isAgg9 sizeOf9))<|og 8 false (fun G Q U W H D=>zMm (D.h 0 G Z) (D.h 1 G Z))<|op (fun Q U W H D=>zAR (!x23) (D.g 0 Z) (fun hc=>by show _=Value.bool x29;rw [q30,hc];exact Z) (fun hc=>by have a2:Q 59=.bool (!(x26==(gtD p0 y4))):=D 1 _ _ _ Z Z Z Z (zBJ Z (zAf hc));show _=Value.bool x29;rw [q30,hc];exact a2))<|oz
 intro R w m n p
 obtain ⟨h0,h3,h4⟩:=k3 n h0 h3 h4
 have h60:=p.r 19 Z
 replace f_v0:=f_v0.fr m
 replace d:=d.fr m.size
 replace j:=j.trans m
 refine zPJ x29 h60 (fun c31=>?_) (fun c31=>?_)
 have c:=zAe c31 c
 refine zPR d j (eB false::[]) ?_ ?_
 exact op (fun Q U W H D=>zA6 Z)<|oz
 intro R w m n p d j
 have h2:=p.r 0 Z
 refine HT.ret ?_
 obtain rfl:=si c
 have c:=hr1
 replace c:some _=some _:=c
 obtain rfl:=si c
 have c:=hr0
 replace c:some _=some _:=c
 obtain rfl:=si c
 exact ⟨.inr Z,[R 2],⟨Z,N⟩,h2,j⟩
 have c:=zAd c31 c
 refine HT.skip ?_
 obtain ⟨e32,c⟩:=zAG c
 refine HT.u d j (eI y18::eI (y18+1)::eI (y18+1)::[]) ?_ ?_
 exact om h4<|op (fun Q U W H D=>zAi (D.g 0 Z) Z e32)<|oa<|oz
 intro R w m n p d j
 obtain ⟨h0,h3⟩:=k2 n h0 h3
 have h4:=p.r 2 Z
 replace f_v0:=f_v0.fr m
 exact ei k (And.intro (Nat.lt_succ_self k) ⟨_,c,d,j,h0,h3,h4,f_v0⟩)
 have c:=zAd c20 c
 refine zPO ?_
 obtain rfl:=si c
 exact ei _ ⟨Z,d,j,h0,h3,f_v0⟩
 rintro R w ⟨s17,rfl,d,j,h0,h3,f_v0⟩
 have c:=zEK c
 obtain ⟨e33,c⟩:=zAG c
 refine HT.u d j (eI y4::eI (y4+1)::eI (y4+1)::[]) ?_ ?_
 exact om h3<|op (fun Q U W H D=>zAi (D.g 0 Z) Z e33)<|oa<|oz
 intro R w m n p d j
 replace h0:=k1 n h0
 have h3:=p.r 2 Z
 replace f_v0:=f_v0.fr m
 exact ei k (And.intro (Nat.lt_succ_self k) ⟨_,c,d,j,h0,h3,f_v0⟩)
 have c:=zAd c5 c
 refine zPO ?_
 obtain rfl:=si c
 exact ei _ ⟨Z,d,j⟩
 rintro R w ⟨s3,rfl,d,j⟩
 have c:=zEK c
 refine zPR d j (eB true::[]) ?_ ?_
 exact op (fun Q U W H D=>zA6 Z)<|oz
 intro R w m n p d j
 have h2:=p.r 0 Z
 refine HT.ret ?_
 obtain rfl:=si c
 exact ⟨.inr Z,[R 2],⟨Z,N⟩,h2,j⟩
end Go.Proofs.YtmgiijdejigdhaaGreat
