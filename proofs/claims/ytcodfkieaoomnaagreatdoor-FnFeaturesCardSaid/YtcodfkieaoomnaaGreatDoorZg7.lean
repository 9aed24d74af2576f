/- Own texts laid together. No statement of the seat is proved here. -/
import Derived.Test.YtcodfkieaoomnaaGreatDoorZg6
import Derived.Sort.Walk0
import Derived.Lib.Bytealg
import Derived.Lib.SplitLaws
import Derived.Lib.Replace
namespace Go.Proofs.YtcodfkieaoomnaaGreatDoor
open Go.RowKit
set_option linter.unusedVariables false
open _root_.Go.Proofs.Tryz
set_option maxRecDepth 100000
set_option maxHeartbeats 4000000
def zDC (fu:Nat) (p0:Int):Option Int:=
 cl true (zBh fu (strB ([p0]:List Int))) fun x1=>
 bif (x1==([98]:List UInt8)) then (
 some 1
 ) else (
 bif (x1==([102]:List UInt8)) then (
 some 1
 ) else (
 bif (x1==([112]:List UInt8)) then (
 some 1
 ) else (
 bif (x1==([118]:List UInt8)) then (
 some 1
 ) else (
 bif (x1==([99]:List UInt8)) then (
 some 2
 ) else (
 bif (x1==([103]:List UInt8)) then (
 some 2
 ) else (
 bif (x1==([106]:List UInt8)) then (
 some 2
 ) else (
 bif (x1==([107]:List UInt8)) then (
 some 2
 ) else (
 bif (x1==([113]:List UInt8)) then (
 some 2
 ) else (
 bif (x1==([115]:List UInt8)) then (
 some 2
 ) else (
 bif (x1==([120]:List UInt8)) then (
 some 2
 ) else (
 bif (x1==([122]:List UInt8)) then (
 some 2
 ) else (
 bif (x1==([100]:List UInt8)) then (
 some 3
 ) else (
 bif (x1==([116]:List UInt8)) then (
 some 3
 ) else (
 bif (x1==([108]:List UInt8)) then (
 some 4
 ) else (
 bif (x1==([109]:List UInt8)) then (
 some 5
 ) else (
 bif (x1==([110]:List UInt8)) then (
 some 5
 ) else (
 bif (x1==([114]:List UInt8)) then (
 some 6
 ) else (
 bif (x1==([97]:List UInt8)) then (
 some 0
 ) else (
 bif (x1==([101]:List UInt8)) then (
 some 0
 ) else (
 bif (x1==([105]:List UInt8)) then (
 some 0
 ) else (
 bif (x1==([111]:List UInt8)) then (
 some 0
 ) else (
 bif (x1==([117]:List UInt8)) then (
 some 0
 ) else (
 bif (x1==([121]:List UInt8)) then (
 some 0
 ) else (
 bif (x1==([104]:List UInt8)) then (
 some (-1)
 ) else (
 bif (x1==([119]:List UInt8)) then (
 some (-1)
 ) else (
 some (-2)
 )
 )
 )
 )
 )
 )
 )
 )
 )
 )
 )
 )
 )
 )
 )
 )
 )
 )
 )
 )
 )
 )
 )
 )
 )
 )
theorem zH3 {fu : Nat} {A : Av} {p0 : Int} {r : Int} (c : zDC fu p0 = some r) {w : World} {v0 : Value} (d : AvOK A w) (h0 : v0 = .int .u8 p0) :
 Calls prog 210 #[v0] w fun e w'=>∃ v,e = .returned v∧(v = .int .i64 r∧Fr w w'):=by
 unfold zDC at c
 obtain ⟨w0,hw0,j⟩:=pf w
 rw [fw hw0]
 refine zA3 [.tmp 2] func210 ntmps210 (by decide) Z Z (nb Z) ?_
 intro R hR
 replace h0:R 0 = .int .u8 p0:=(hR 0 _ Z).trans h0
 refine zQB d j (eI 0::[]) ?_ ?_
 exact op (fun Q U W H D=>zA2 Z)<|oz
 intro R w m n p d j
 replace h0:=k1 n h0
 refine zQ9 ?_
 obtain ⟨x1,q2,c⟩:=zA4 c
 refine zQB d j (eU p0::eF (.rep (eSl (eInt .u8)) A ([p0]:List Int))::eF (.rep eStr A (strB ([p0]:List Int)))::eF (.rep eStr A x1)::[]) ?_ ?_
 exact om h0<|op (fun Q U W H D=>zB6 [_] (E:=eInt .u8) ⟨(zAa.eq (D.g 0 Z)),N⟩ underlying22 sizeOf5 zeroValue5 Z Z Z (d.fr W.size))<|op (fun Q U W H D=>zBa (D.g 0 Z) underlying22 underlying5 underlying9)<|op (fun Q U W H D=>zA8 call133 (zDI (q2 Z) (d.fr W.size) (D.g 0 Z)))<|oz
 intro R w m n p d j
 obtain ⟨u3,h6,f_u3⟩:∃ u,R 6=u∧Rep eStr A w u x1:=⟨_,Z,p 3 _ _ Z Z Z⟩
 refine HT.block ?_
 refine zQ9 ?_
 refine zQB d j (eB (x1==([98]:List UInt8))::eB (x1==([98]:List UInt8))::[]) ?_ ?_
 exact op (fun Q U W H D=>zBD ((f_u3.fr W).eq ((H 6 Z).trans h6)) ⟨_,Z,⟨_,Z,Z,by decide⟩⟩)<|oa<|oz
 intro R w m n p d j
 replace h6:=k1 n h6
 have h7:=p.r 1 Z
 replace f_u3:=f_u3.fr m
 refine zQ2 (x1==([98]:List UInt8)) h7 (fun c4=>?_) (fun c4=>?_)
 have c:=zAO c4 c
 refine zQA ?_
 refine zQ2 (x1==([98]:List UInt8)) h7 (fun c5=>?_) (fun c5=>absurd (c4.symm.trans c5) (by decide))
 refine zQB d j (eI 1::[]) ?_ ?_
 exact op (fun Q U W H D=>zA2 Z)<|oz
 intro R w m n p d j
 have h2:=p.r 0 Z
 refine HT.ret ?_
 obtain rfl:=si c
 exact ⟨.inr Z,[R 2],⟨Z,N⟩,h2,j⟩
 have c:=zAN c4 c
 refine zQB d j (eB (x1==([102]:List UInt8))::eB (x1==([102]:List UInt8))::[]) ?_ ?_
 exact op (fun Q U W H D=>zBD ((f_u3.fr W).eq ((H 6 Z).trans h6)) ⟨_,Z,⟨_,Z,Z,by decide⟩⟩)<|oa<|oz
 intro R w m n p d j
 replace h6:=k1 n h6
 have h7:=p.r 1 Z
 replace f_u3:=f_u3.fr m
 refine zQ2 (x1==([102]:List UInt8)) h7 (fun c6=>?_) (fun c6=>?_)
 have c:=zAO c6 c
 refine zQA ?_
 refine zQ2 (x1==([102]:List UInt8)) h7 (fun c7=>?_) (fun c7=>absurd (c6.symm.trans c7) (by decide))
 refine zQB d j (eI 1::[]) ?_ ?_
 exact op (fun Q U W H D=>zA2 Z)<|oz
 intro R w m n p d j
 have h2:=p.r 0 Z
 refine HT.ret ?_
 obtain rfl:=si c
 exact ⟨.inr Z,[R 2],⟨Z,N⟩,h2,j⟩
 have c:=zAN c6 c
 refine zQB d j (eB (x1==([112]:List UInt8))::eB (x1==([112]:List UInt8))::[]) ?_ ?_
 exact op (fun Q U W H D=>zBD ((f_u3.fr W).eq ((H 6 Z).trans h6)) ⟨_,Z,⟨_,Z,Z,by decide⟩⟩)<|oa<|oz
 intro R w m n p d j
 replace h6:=k1 n h6
 have h7:=p.r 1 Z
 replace f_u3:=f_u3.fr m
 refine zQ2 (x1==([112]:List UInt8)) h7 (fun c8=>?_) (fun c8=>?_)
 have c:=zAO c8 c
 refine zQA ?_
 refine zQ2 (x1==([112]:List UInt8)) h7 (fun c9=>?_) (fun c9=>absurd (c8.symm.trans c9) (by decide))
 refine zQB d j (eI 1::[]) ?_ ?_
 exact op (fun Q U W H D=>zA2 Z)<|oz
 intro R w m n p d j
 have h2:=p.r 0 Z
 refine HT.ret ?_
 obtain rfl:=si c
 exact ⟨.inr Z,[R 2],⟨Z,N⟩,h2,j⟩
 have c:=zAN c8 c
 refine HT.u d j (eB (x1==([118]:List UInt8))::eB (x1==([118]:List UInt8))::[]) ?_ ?_
 exact op (fun Q U W H D=>zBD ((f_u3.fr W).eq ((H 6 Z).trans h6)) ⟨_,Z,⟨_,Z,Z,by decide⟩⟩)<|oa<|oz
 intro R w m n p d j
 replace h6:=k1 n h6
 have h7:=p.r 1 Z
 replace f_u3:=f_u3.fr m
 refine zQ2 (x1==([118]:List UInt8)) h7 (fun c10=>?_) (fun c10=>?_)
 have c:=zAO c10 c
 refine zQB d j (eI 1::[]) ?_ ?_
 exact op (fun Q U W H D=>zA2 Z)<|oz
 intro R w m n p d j
 have h2:=p.r 0 Z
 refine HT.ret ?_
 obtain rfl:=si c
 exact ⟨.inr Z,[R 2],⟨Z,N⟩,h2,j⟩
 have c:=zAN c10 c
 refine zQ9 ?_
 refine zQB d j (eB (x1==([99]:List UInt8))::eB (x1==([99]:List UInt8))::[]) ?_ ?_
 exact op (fun Q U W H D=>zBD ((f_u3.fr W).eq ((H 6 Z).trans h6)) ⟨_,Z,⟨_,Z,Z,by decide⟩⟩)<|oa<|oz
 intro R w m n p d j
 replace h6:=k1 n h6
 have h12:=p.r 1 Z
 replace f_u3:=f_u3.fr m
 refine zQ2 (x1==([99]:List UInt8)) h12 (fun c11=>?_) (fun c11=>?_)
 have c:=zAO c11 c
 refine zQA ?_
 refine zQ2 (x1==([99]:List UInt8)) h12 (fun c12=>?_) (fun c12=>absurd (c11.symm.trans c12) (by decide))
 refine zQB d j (eI 2::[]) ?_ ?_
 exact op (fun Q U W H D=>zA2 Z)<|oz
 intro R w m n p d j
 have h2:=p.r 0 Z
 refine HT.ret ?_
 obtain rfl:=si c
 exact ⟨.inr Z,[R 2],⟨Z,N⟩,h2,j⟩
 have c:=zAN c11 c
 refine zQB d j (eB (x1==([103]:List UInt8))::eB (x1==([103]:List UInt8))::[]) ?_ ?_
 exact op (fun Q U W H D=>zBD ((f_u3.fr W).eq ((H 6 Z).trans h6)) ⟨_,Z,⟨_,Z,Z,by decide⟩⟩)<|oa<|oz
 intro R w m n p d j
 replace h6:=k1 n h6
 have h12:=p.r 1 Z
 replace f_u3:=f_u3.fr m
 refine zQ2 (x1==([103]:List UInt8)) h12 (fun c13=>?_) (fun c13=>?_)
 have c:=zAO c13 c
 refine zQA ?_
 refine zQ2 (x1==([103]:List UInt8)) h12 (fun c14=>?_) (fun c14=>absurd (c13.symm.trans c14) (by decide))
 refine zQB d j (eI 2::[]) ?_ ?_
 exact op (fun Q U W H D=>zA2 Z)<|oz
 intro R w m n p d j
 have h2:=p.r 0 Z
 refine HT.ret ?_
 obtain rfl:=si c
 exact ⟨.inr Z,[R 2],⟨Z,N⟩,h2,j⟩
 have c:=zAN c13 c
 refine zQB d j (eB (x1==([106]:List UInt8))::eB (x1==([106]:List UInt8))::[]) ?_ ?_
 exact op (fun Q U W H D=>zBD ((f_u3.fr W).eq ((H 6 Z).trans h6)) ⟨_,Z,⟨_,Z,Z,by decide⟩⟩)<|oa<|oz
 intro R w m n p d j
 replace h6:=k1 n h6
 have h12:=p.r 1 Z
 replace f_u3:=f_u3.fr m
 refine zQ2 (x1==([106]:List UInt8)) h12 (fun c15=>?_) (fun c15=>?_)
 have c:=zAO c15 c
 refine zQA ?_
 refine zQ2 (x1==([106]:List UInt8)) h12 (fun c16=>?_) (fun c16=>absurd (c15.symm.trans c16) (by decide))
 refine zQB d j (eI 2::[]) ?_ ?_
 exact op (fun Q U W H D=>zA2 Z)<|oz
 intro R w m n p d j
 have h2:=p.r 0 Z
 refine HT.ret ?_
 obtain rfl:=si c
 exact ⟨.inr Z,[R 2],⟨Z,N⟩,h2,j⟩
 have c:=zAN c15 c
 refine zQB d j (eB (x1==([107]:List UInt8))::eB (x1==([107]:List UInt8))::[]) ?_ ?_
 exact op (fun Q U W H D=>zBD ((f_u3.fr W).eq ((H 6 Z).trans h6)) ⟨_,Z,⟨_,Z,Z,by decide⟩⟩)<|oa<|oz
 intro R w m n p d j
 replace h6:=k1 n h6
 have h12:=p.r 1 Z
 replace f_u3:=f_u3.fr m
 refine zQ2 (x1==([107]:List UInt8)) h12 (fun c17=>?_) (fun c17=>?_)
 have c:=zAO c17 c
 refine zQA ?_
 refine zQ2 (x1==([107]:List UInt8)) h12 (fun c18=>?_) (fun c18=>absurd (c17.symm.trans c18) (by decide))
 refine zQB d j (eI 2::[]) ?_ ?_
 exact op (fun Q U W H D=>zA2 Z)<|oz
 intro R w m n p d j
 have h2:=p.r 0 Z
 refine HT.ret ?_
 obtain rfl:=si c
 exact ⟨.inr Z,[R 2],⟨Z,N⟩,h2,j⟩
 have c:=zAN c17 c
 refine zQB d j (eB (x1==([113]:List UInt8))::eB (x1==([113]:List UInt8))::[]) ?_ ?_
 exact op (fun Q U W H D=>zBD ((f_u3.fr W).eq ((H 6 Z).trans h6)) ⟨_,Z,⟨_,Z,Z,by decide⟩⟩)<|oa<|oz
 intro R w m n p d j
 replace h6:=k1 n h6
 have h12:=p.r 1 Z
 replace f_u3:=f_u3.fr m
 refine zQ2 (x1==([113]:List UInt8)) h12 (fun c19=>?_) (fun c19=>?_)
 have c:=zAO c19 c
 refine zQA ?_
 refine zQ2 (x1==([113]:List UInt8)) h12 (fun c20=>?_) (fun c20=>absurd (c19.symm.trans c20) (by decide))
 refine zQB d j (eI 2::[]) ?_ ?_
 exact op (fun Q U W H D=>zA2 Z)<|oz
 intro R w m n p d j
 have h2:=p.r 0 Z
 refine HT.ret ?_
 obtain rfl:=si c
 exact ⟨.inr Z,[R 2],⟨Z,N⟩,h2,j⟩
 have c:=zAN c19 c
 refine zQB d j (eB (x1==([115]:List UInt8))::eB (x1==([115]:List UInt8))::[]) ?_ ?_
 exact op (fun Q U W H D=>zBD ((f_u3.fr W).eq ((H 6 Z).trans h6)) ⟨_,Z,⟨_,Z,Z,by decide⟩⟩)<|oa<|oz
 intro R w m n p d j
 replace h6:=k1 n h6
 have h12:=p.r 1 Z
 replace f_u3:=f_u3.fr m
 refine zQ2 (x1==([115]:List UInt8)) h12 (fun c21=>?_) (fun c21=>?_)
 have c:=zAO c21 c
 refine zQA ?_
 refine zQ2 (x1==([115]:List UInt8)) h12 (fun c22=>?_) (fun c22=>absurd (c21.symm.trans c22) (by decide))
 refine zQB d j (eI 2::[]) ?_ ?_
 exact op (fun Q U W H D=>zA2 Z)<|oz
 intro R w m n p d j
 have h2:=p.r 0 Z
 refine HT.ret ?_
 obtain rfl:=si c
 exact ⟨.inr Z,[R 2],⟨Z,N⟩,h2,j⟩
 have c:=zAN c21 c
 refine zQB d j (eB (x1==([120]:List UInt8))::eB (x1==([120]:List UInt8))::[]) ?_ ?_
 exact op (fun Q U W H D=>zBD ((f_u3.fr W).eq ((H 6 Z).trans h6)) ⟨_,Z,⟨_,Z,Z,by decide⟩⟩)<|oa<|oz
 intro R w m n p d j
 replace h6:=k1 n h6
 have h12:=p.r 1 Z
 replace f_u3:=f_u3.fr m
 refine zQ2 (x1==([120]:List UInt8)) h12 (fun c23=>?_) (fun c23=>?_)
 have c:=zAO c23 c
 refine zQA ?_
 refine zQ2 (x1==([120]:List UInt8)) h12 (fun c24=>?_) (fun c24=>absurd (c23.symm.trans c24) (by decide))
 refine zQB d j (eI 2::[]) ?_ ?_
 exact op (fun Q U W H D=>zA2 Z)<|oz
 intro R w m n p d j
 have h2:=p.r 0 Z
 refine HT.ret ?_
 obtain rfl:=si c
 exact ⟨.inr Z,[R 2],⟨Z,N⟩,h2,j⟩
 have c:=zAN c23 c
 refine HT.u d j (eB (x1==([122]:List UInt8))::eB (x1==([122]:List UInt8))::[]) ?_ ?_
 exact op (fun Q U W H D=>zBD ((f_u3.fr W).eq ((H 6 Z).trans h6)) ⟨_,Z,⟨_,Z,Z,by decide⟩⟩)<|oa<|oz
 intro R w m n p d j
 replace h6:=k1 n h6
 have h12:=p.r 1 Z
 replace f_u3:=f_u3.fr m
 refine zQ2 (x1==([122]:List UInt8)) h12 (fun c25=>?_) (fun c25=>?_)
 have c:=zAO c25 c
 refine zQB d j (eI 2::[]) ?_ ?_
 exact op (fun Q U W H D=>zA2 Z)<|oz
 intro R w m n p d j
 have h2:=p.r 0 Z
 refine HT.ret ?_
 obtain rfl:=si c
 exact ⟨.inr Z,[R 2],⟨Z,N⟩,h2,j⟩
 have c:=zAN c25 c
 refine zQ9 ?_
 refine zQB d j (eB (x1==([100]:List UInt8))::eB (x1==([100]:List UInt8))::[]) ?_ ?_
 exact op (fun Q U W H D=>zBD ((f_u3.fr W).eq ((H 6 Z).trans h6)) ⟨_,Z,⟨_,Z,Z,by decide⟩⟩)<|oa<|oz
 intro R w m n p d j
 replace h6:=k1 n h6
 have h21:=p.r 1 Z
 replace f_u3:=f_u3.fr m
 refine zQ2 (x1==([100]:List UInt8)) h21 (fun c26=>?_) (fun c26=>?_)
 have c:=zAO c26 c
 refine zQA ?_
 refine zQ2 (x1==([100]:List UInt8)) h21 (fun c27=>?_) (fun c27=>absurd (c26.symm.trans c27) (by decide))
 refine zQB d j (eI 3::[]) ?_ ?_
 exact op (fun Q U W H D=>zA2 Z)<|oz
 intro R w m n p d j
 have h2:=p.r 0 Z
 refine HT.ret ?_
 obtain rfl:=si c
 exact ⟨.inr Z,[R 2],⟨Z,N⟩,h2,j⟩
 have c:=zAN c26 c
 refine HT.u d j (eB (x1==([116]:List UInt8))::eB (x1==([116]:List UInt8))::[]) ?_ ?_
 exact op (fun Q U W H D=>zBD ((f_u3.fr W).eq ((H 6 Z).trans h6)) ⟨_,Z,⟨_,Z,Z,by decide⟩⟩)<|oa<|oz
 intro R w m n p d j
 replace h6:=k1 n h6
 have h21:=p.r 1 Z
 replace f_u3:=f_u3.fr m
 refine zQ2 (x1==([116]:List UInt8)) h21 (fun c28=>?_) (fun c28=>?_)
 have c:=zAO c28 c
 refine zQB d j (eI 3::[]) ?_ ?_
 exact op (fun Q U W H D=>zA2 Z)<|oz
 intro R w m n p d j
 have h2:=p.r 0 Z
 refine HT.ret ?_
 obtain rfl:=si c
 exact ⟨.inr Z,[R 2],⟨Z,N⟩,h2,j⟩
 have c:=zAN c28 c
 refine zQB d j (eB (x1==([108]:List UInt8))::eB (x1==([108]:List UInt8))::[]) ?_ ?_
 exact op (fun Q U W H D=>zBD ((f_u3.fr W).eq ((H 6 Z).trans h6)) ⟨_,Z,⟨_,Z,Z,by decide⟩⟩)<|oa<|oz
 intro R w m n p d j
 replace h6:=k1 n h6
 have h24:=p.r 1 Z
 replace f_u3:=f_u3.fr m
 refine zQ2 (x1==([108]:List UInt8)) h24 (fun c29=>?_) (fun c29=>?_)
 have c:=zAO c29 c
 refine zQB d j (eI 4::[]) ?_ ?_
 exact op (fun Q U W H D=>zA2 Z)<|oz
 intro R w m n p d j
 have h2:=p.r 0 Z
 refine HT.ret ?_
 obtain rfl:=si c
 exact ⟨.inr Z,[R 2],⟨Z,N⟩,h2,j⟩
 have c:=zAN c29 c
 refine zQ9 ?_
 refine zQB d j (eB (x1==([109]:List UInt8))::eB (x1==([109]:List UInt8))::[]) ?_ ?_
 exact op (fun Q U W H D=>zBD ((f_u3.fr W).eq ((H 6 Z).trans h6)) ⟨_,Z,⟨_,Z,Z,by decide⟩⟩)<|oa<|oz
 intro R w m n p d j
 replace h6:=k1 n h6
 have h26:=p.r 1 Z
 replace f_u3:=f_u3.fr m
 refine zQ2 (x1==([109]:List UInt8)) h26 (fun c30=>?_) (fun c30=>?_)
 have c:=zAO c30 c
 refine zQA ?_
 refine zQ2 (x1==([109]:List UInt8)) h26 (fun c31=>?_) (fun c31=>absurd (c30.symm.trans c31) (by decide))
 refine zQB d j (eI 5::[]) ?_ ?_
 exact op (fun Q U W H D=>zA2 Z)<|oz
 intro R w m n p d j
 have h2:=p.r 0 Z
 refine HT.ret ?_
 obtain rfl:=si c
 exact ⟨.inr Z,[R 2],⟨Z,N⟩,h2,j⟩
 have c:=zAN c30 c
 refine HT.u d j (eB (x1==([110]:List UInt8))::eB (x1==([110]:List UInt8))::[]) ?_ ?_
 exact op (fun Q U W H D=>zBD ((f_u3.fr W).eq ((H 6 Z).trans h6)) ⟨_,Z,⟨_,Z,Z,by decide⟩⟩)<|oa<|oz
 intro R w m n p d j
 replace h6:=k1 n h6
 have h26:=p.r 1 Z
 replace f_u3:=f_u3.fr m
 refine zQ2 (x1==([110]:List UInt8)) h26 (fun c32=>?_) (fun c32=>?_)
 have c:=zAO c32 c
 refine zQB d j (eI 5::[]) ?_ ?_
 exact op (fun Q U W H D=>zA2 Z)<|oz
 intro R w m n p d j
 have h2:=p.r 0 Z
 refine HT.ret ?_
 obtain rfl:=si c
 exact ⟨.inr Z,[R 2],⟨Z,N⟩,h2,j⟩
 have c:=zAN c32 c
 refine zQB d j (eB (x1==([114]:List UInt8))::eB (x1==([114]:List UInt8))::[]) ?_ ?_
 exact op (fun Q U W H D=>zBD ((f_u3.fr W).eq ((H 6 Z).trans h6)) ⟨_,Z,⟨_,Z,Z,by decide⟩⟩)<|oa<|oz
 intro R w m n p d j
 replace h6:=k1 n h6
 have h29:=p.r 1 Z
 replace f_u3:=f_u3.fr m
 refine zQ2 (x1==([114]:List UInt8)) h29 (fun c33=>?_) (fun c33=>?_)
 have c:=zAO c33 c
 refine zQB d j (eI 6::[]) ?_ ?_
 exact op (fun Q U W H D=>zA2 Z)<|oz
 intro R w m n p d j
 have h2:=p.r 0 Z
 refine HT.ret ?_
 obtain rfl:=si c
 exact ⟨.inr Z,[R 2],⟨Z,N⟩,h2,j⟩
 have c:=zAN c33 c
 refine zQ9 ?_
 refine zQB d j (eB (x1==([97]:List UInt8))::eB (x1==([97]:List UInt8))::[]) ?_ ?_
 exact op (fun Q U W H D=>zBD ((f_u3.fr W).eq ((H 6 Z).trans h6)) ⟨_,Z,⟨_,Z,Z,by decide⟩⟩)<|oa<|oz
 intro R w m n p d j
 replace h6:=k1 n h6
 have h31:=p.r 1 Z
 replace f_u3:=f_u3.fr m
 refine zQ2 (x1==([97]:List UInt8)) h31 (fun c34=>?_) (fun c34=>?_)
 have c:=zAO c34 c
 refine zQA ?_
 refine zQ2 (x1==([97]:List UInt8)) h31 (fun c35=>?_) (fun c35=>absurd (c34.symm.trans c35) (by decide))
 refine zQB d j (eI 0::[]) ?_ ?_
 exact op (fun Q U W H D=>zA2 Z)<|oz
 intro R w m n p d j
 have h2:=p.r 0 Z
 refine HT.ret ?_
 obtain rfl:=si c
 exact ⟨.inr Z,[R 2],⟨Z,N⟩,h2,j⟩
 have c:=zAN c34 c
 refine zQB d j (eB (x1==([101]:List UInt8))::eB (x1==([101]:List UInt8))::[]) ?_ ?_
 exact op (fun Q U W H D=>zBD ((f_u3.fr W).eq ((H 6 Z).trans h6)) ⟨_,Z,⟨_,Z,Z,by decide⟩⟩)<|oa<|oz
 intro R w m n p d j
 replace h6:=k1 n h6
 have h31:=p.r 1 Z
 replace f_u3:=f_u3.fr m
 refine zQ2 (x1==([101]:List UInt8)) h31 (fun c36=>?_) (fun c36=>?_)
 have c:=zAO c36 c
 refine zQA ?_
 refine zQ2 (x1==([101]:List UInt8)) h31 (fun c37=>?_) (fun c37=>absurd (c36.symm.trans c37) (by decide))
 refine zQB d j (eI 0::[]) ?_ ?_
 exact op (fun Q U W H D=>zA2 Z)<|oz
 intro R w m n p d j
 have h2:=p.r 0 Z
 refine HT.ret ?_
 obtain rfl:=si c
 exact ⟨.inr Z,[R 2],⟨Z,N⟩,h2,j⟩
 have c:=zAN c36 c
 refine zQB d j (eB (x1==([105]:List UInt8))::eB (x1==([105]:List UInt8))::[]) ?_ ?_
 exact op (fun Q U W H D=>zBD ((f_u3.fr W).eq ((H 6 Z).trans h6)) ⟨_,Z,⟨_,Z,Z,by decide⟩⟩)<|oa<|oz
 intro R w m n p d j
 replace h6:=k1 n h6
 have h31:=p.r 1 Z
 replace f_u3:=f_u3.fr m
 refine zQ2 (x1==([105]:List UInt8)) h31 (fun c38=>?_) (fun c38=>?_)
 have c:=zAO c38 c
 refine zQA ?_
 refine zQ2 (x1==([105]:List UInt8)) h31 (fun c39=>?_) (fun c39=>absurd (c38.symm.trans c39) (by decide))
 refine zQB d j (eI 0::[]) ?_ ?_
 exact op (fun Q U W H D=>zA2 Z)<|oz
 intro R w m n p d j
 have h2:=p.r 0 Z
 refine HT.ret ?_
 obtain rfl:=si c
 exact ⟨.inr Z,[R 2],⟨Z,N⟩,h2,j⟩
 have c:=zAN c38 c
 refine zQB d j (eB (x1==([111]:List UInt8))::eB (x1==([111]:List UInt8))::[]) ?_ ?_
 exact op (fun Q U W H D=>zBD ((f_u3.fr W).eq ((H 6 Z).trans h6)) ⟨_,Z,⟨_,Z,Z,by decide⟩⟩)<|oa<|oz
 intro R w m n p d j
 replace h6:=k1 n h6
 have h31:=p.r 1 Z
 replace f_u3:=f_u3.fr m
 refine zQ2 (x1==([111]:List UInt8)) h31 (fun c40=>?_) (fun c40=>?_)
 have c:=zAO c40 c
 refine zQA ?_
 refine zQ2 (x1==([111]:List UInt8)) h31 (fun c41=>?_) (fun c41=>absurd (c40.symm.trans c41) (by decide))
 refine zQB d j (eI 0::[]) ?_ ?_
 exact op (fun Q U W H D=>zA2 Z)<|oz
 intro R w m n p d j
 have h2:=p.r 0 Z
 refine HT.ret ?_
 obtain rfl:=si c
 exact ⟨.inr Z,[R 2],⟨Z,N⟩,h2,j⟩
 have c:=zAN c40 c
 refine zQB d j (eB (x1==([117]:List UInt8))::eB (x1==([117]:List UInt8))::[]) ?_ ?_
 exact op (fun Q U W H D=>zBD ((f_u3.fr W).eq ((H 6 Z).trans h6)) ⟨_,Z,⟨_,Z,Z,by decide⟩⟩)<|oa<|oz
 intro R w m n p d j
 replace h6:=k1 n h6
 have h31:=p.r 1 Z
 replace f_u3:=f_u3.fr m
 refine zQ2 (x1==([117]:List UInt8)) h31 (fun c42=>?_) (fun c42=>?_)
 have c:=zAO c42 c
 refine zQA ?_
 refine zQ2 (x1==([117]:List UInt8)) h31 (fun c43=>?_) (fun c43=>absurd (c42.symm.trans c43) (by decide))
 refine zQB d j (eI 0::[]) ?_ ?_
 exact op (fun Q U W H D=>zA2 Z)<|oz
 intro R w m n p d j
 have h2:=p.r 0 Z
 refine HT.ret ?_
 obtain rfl:=si c
 exact ⟨.inr Z,[R 2],⟨Z,N⟩,h2,j⟩
 have c:=zAN c42 c
 refine HT.u d j (eB (x1==([121]:List UInt8))::eB (x1==([121]:List UInt8))::[]) ?_ ?_
 exact op (fun Q U W H D=>zBD ((f_u3.fr W).eq ((H 6 Z).trans h6)) ⟨_,Z,⟨_,Z,Z,by decide⟩⟩)<|oa<|oz
 intro R w m n p d j
 replace h6:=k1 n h6
 have h31:=p.r 1 Z
 replace f_u3:=f_u3.fr m
 refine zQ2 (x1==([121]:List UInt8)) h31 (fun c44=>?_) (fun c44=>?_)
 have c:=zAO c44 c
 refine zQB d j (eI 0::[]) ?_ ?_
 exact op (fun Q U W H D=>zA2 Z)<|oz
 intro R w m n p d j
 have h2:=p.r 0 Z
 refine HT.ret ?_
 obtain rfl:=si c
 exact ⟨.inr Z,[R 2],⟨Z,N⟩,h2,j⟩
 have c:=zAN c44 c
 refine zQ9 ?_
 refine zQB d j (eB (x1==([104]:List UInt8))::eB (x1==([104]:List UInt8))::[]) ?_ ?_
 exact op (fun Q U W H D=>zBD ((f_u3.fr W).eq ((H 6 Z).trans h6)) ⟨_,Z,⟨_,Z,Z,by decide⟩⟩)<|oa<|oz
 intro R w m n p d j
 replace h6:=k1 n h6
 have h38:=p.r 1 Z
 replace f_u3:=f_u3.fr m
 refine zQ2 (x1==([104]:List UInt8)) h38 (fun c45=>?_) (fun c45=>?_)
 have c:=zAO c45 c
 refine zQA ?_
 refine zQ2 (x1==([104]:List UInt8)) h38 (fun c46=>?_) (fun c46=>absurd (c45.symm.trans c46) (by decide))
 refine zQB d j (eI (-1)::[]) ?_ ?_
 exact op (fun Q U W H D=>zA2 Z)<|oz
 intro R w m n p d j
 have h2:=p.r 0 Z
 refine HT.ret ?_
 obtain rfl:=si c
 exact ⟨.inr Z,[R 2],⟨Z,N⟩,h2,j⟩
 have c:=zAN c45 c
 refine HT.u d j (eB (x1==([119]:List UInt8))::eB (x1==([119]:List UInt8))::[]) ?_ ?_
 exact op (fun Q U W H D=>zBD ((f_u3.fr W).eq ((H 6 Z).trans h6)) ⟨_,Z,⟨_,Z,Z,by decide⟩⟩)<|oa<|oz
 intro R w m n p d j
 have h38:=p.r 1 Z
 refine zQ2 (x1==([119]:List UInt8)) h38 (fun c47=>?_) (fun c47=>?_)
 have c:=zAO c47 c
 refine zQB d j (eI (-1)::[]) ?_ ?_
 exact op (fun Q U W H D=>zA2 Z)<|oz
 intro R w m n p d j
 have h2:=p.r 0 Z
 refine HT.ret ?_
 obtain rfl:=si c
 exact ⟨.inr Z,[R 2],⟨Z,N⟩,h2,j⟩
 have c:=zAN c47 c
 refine zQA ?_
 refine zQB d j (eI (-2)::[]) ?_ ?_
 exact op (fun Q U W H D=>zA2 Z)<|oz
 intro R w m n p d j
 have h2:=p.r 0 Z
 refine HT.ret ?_
 obtain rfl:=si c
 exact ⟨.inr Z,[R 2],⟨Z,N⟩,h2,j⟩
def zAk (fu : Nat) (p0 : List UInt8) : Nat → Int → Int → (List Int) → Option (Ex (List UInt8) (List Int))
 | 0,_,_,_=>none
 | k+1,y5,y6,y7=>
 bif (decide (y6<(p0.length:Int))) then (
 ck (inR y6 p0.length) <|
 cl true (zDC fu (bAt p0 y6)) fun x10=>
 bif (x10==(-2)) then (
 some (Ex.ret ([]:List UInt8))
 ) else (
 bif (y6==0) then (
 ck (subR 0 1 p0.length) <|
 cl true (zBh fu (subL p0 0 1)) fun x16=>
 ck (inR 0 x16.length) <|
 ck (zC2 (y7.length+([(bAt x16 0)]:List Int).length)) <|
 ck (i64B (y6+1)) <|
 zAk fu p0 k x10 (y6+1) (y7++([(bAt x16 0)]:List Int))
 ) else (
 bd ((decide (0<x10))&&(x10 != y5)) fun x22=>
 bd (x22&&(decide ((y7.length:Int)<4))) fun x24=>
 bif x24 then (
 ck (i64B (48+x10)) <|
 ck (zC2 (y7.length+([(IntKind.u8.wrap (48+x10))]:List Int).length)) <|
 bif (decide (0≤x10)) then (
 ck (i64B (y6+1)) <|
 zAk fu p0 k x10 (y6+1) (y7++([(IntKind.u8.wrap (48+x10))]:List Int))
 ) else (
 ck (i64B (y6+1)) <|
 zAk fu p0 k y5 (y6+1) (y7++([(IntKind.u8.wrap (48+x10))]:List Int))
 )
 ) else (
 bif (decide (0≤x10)) then (
 ck (i64B (y6+1)) <|
 zAk fu p0 k x10 (y6+1) y7
 ) else (
 ck (i64B (y6+1)) <|
 zAk fu p0 k y5 (y6+1) y7
 )
 )
 )
 )
 ) else (
 some (Ex.go y7)
 )
def zBv (fu : Nat) : Nat → (List Int) → Option (List Int)
 | 0,_=>none
 | k+1,y41=>
 bif (decide ((y41.length:Int)<4)) then (
 ck (zC2 (y41.length+([48]:List Int).length)) <|
 zBv fu k (y41++([48]:List Int))
 ) else (
 some y41
 )
def zDt (fu:Nat) (p0:List UInt8):Option (List UInt8):=
 cl true (zAk fu p0 fu 0 0 ([]:List Int)) fun rl2=>
 exM rl2 (fun r=>some r) fun s4=>
 bif ((s4.length:Int)==0) then (
 some ([]:List UInt8)
 ) else (
 cl true (zBv fu fu s4) fun s40=>
 some (strB s40)
 )
theorem zHT {fu : Nat} {A0 : Av} {p0 : List UInt8} {r : List UInt8} (c : zDt fu p0 = some r) {w : World} {v0 : Value} (d : AvOK A0 w) (h0 : Rep eStr A0 w v0 p0) :
 Calls prog 159 #[v0] w fun e w'=>∃ v,e = .returned v∧(Rep eStr A0 w' v r∧Fr w w'):=by
 unfold zDt at c
 obtain ⟨w0,hw0,j,C⟩:=pw d
 have hA00:AvOK A0 w0:=C
 rw [fw hw0]
 obtain ⟨A,hAe,B,d,q⟩:=pa d
 refine zA3 [.tmp 2] func159 ntmps159 (by decide) Z Z (nb Z) ?_
 intro R hR
 have f_v0:Rep eStr A w v0 p0:=hAe ▸ h0
 replace h0:R 0=v0:=hR 0 _ Z
 refine zQB d j (eF (.rep eStr A ([]:List UInt8))::[]) ?_ ?_
 exact op (fun Q U W H D=>zA2 ⟨_,Z,⟨_,Z,Z,by decide⟩⟩)<|oz
 intro R w m n p d j
 replace h0:=k1 n h0
 replace f_v0:=f_v0.fr m
 replace q:=q.fr m
 refine zQC [] (⟨_,true,[],some (.vec w0.heap.size 5 (eInt .u8) ([]:List Int)),true,fun A=>.any⟩::⟨_,true,[0],some (.vec w0.heap.size 5 (eInt .u8) ([]:List Int)),true,fun A=>.any⟩::[]) (ua (ua (UAll.nil))) q d ?_ ?_
 exact rc (OblR.made _ Z Z Z Z fun V Q U O D=>by exact zBW [] (E:=eInt .u8) N underlying22 sizeOf5 zeroValue5 Z Z Z (Nat.le_trans j.size O.ch.size))<|rc (OblR.took 0 _ _ Z Z Z Z Z fun V Q U O D u X Y J L M=>by exact zAK (L _ _ Z Z Z Z).symm X Y)<|rz
 intro done ρ σ A R w y s
 replace h0:=k1 s.rg h0
 obtain ⟨u1,e_u1⟩:∃ u,ρ 1=u:=⟨_,Z⟩
 have h3:=s.ov y 1 1 e_u1
 replace f_v0:=f_v0.stp s.stp
 obtain ⟨B,j,d⟩:=s.s B C j q N
 replace q:=s.left y [(1,ob u1 (.vec w0.heap.size 5 (eInt .u8) ([]:List Int)))] ⟨Z,Z,e_u1,Z,Z,N⟩
 refine zQB d j (eI 0::[]) ?_ ?_
 exact op (fun Q U W H D=>zA2 Z)<|oz
 intro R w m n p d j
 obtain ⟨h0,h3⟩:=k2 n h0 h3
 have h4:=p.r 0 Z
 replace f_v0:=f_v0.fr m
 replace q:=q.fr m
 refine zQ9 ?_
 refine zQB d j (eI 0::[]) ?_ ?_
 exact op (fun Q U W H D=>zA2 Z)<|oz
 intro R w m n p d j
 obtain ⟨h0,h3,h4⟩:=k3 n h0 h3 h4
 have h5:=p.r 0 Z
 replace f_v0:=f_v0.fr m
 replace q:=q.fr m
 obtain ⟨rl2,q3,c⟩:=zA4 c
 replace q3:=q3 Z
 refine zQ4 (fun R w=>∃ A:Av,∃ (s4:(List Int)) (uo_u1:Value),rl2=Ex.go s4∧AvOK A w∧Fr w0 w∧(∀ b o,A0 b o→A b o)∧IniOK [ob uo_u1 (.vec w0.heap.size 5 (eInt .u8) s4)] A w∧R 3=uo_u1) ?_ ?_
 refine HT.block ?_
 refine zQ8 (fun k R w=>∃ A:Av,∃ (y5:Int) (y6:Int) (y7:List Int) (ul_u1:Value),zAk fu p0 k y5 y6 y7=some rl2∧AvOK A w∧Fr w0 w∧(∀ b o,A0 b o→A b o)∧IniOK [ob ul_u1 (.vec w0.heap.size 5 (eInt .u8) y7)] A w∧R 0=v0∧R 3=ul_u1∧R 4 = .int .i64 y5∧R 5 = .int .i64 y6∧Rep eStr A w v0 p0) fu ⟨_,_,_,_,u1,q3,d,j,B,q,h0,h3,h4,h5,f_v0⟩ ?_
 have hr0:=c;clear c q3
 rintro k R w ⟨A,y5,y6,y7,ul_u1,c,d,j,B,q,h0,h3,h4,h5,f_v0⟩
 rcases k with _ | k
 cases (show none=some _ from c)
 rw [zAk] at c
 refine zQ9 ?_
 refine zQB d j (eI y6::eR v0::eI (p0.length:Int)::eB (decide (y6<(p0.length:Int)))::[]) ?_ ?_
 exact om h5<|om h0<|op (fun Q U W H D=>zAJ ((f_v0.fr W).eq (D.g 0 Z)) underlying9)<|op (fun Q U W H D=>zAu (D.g 0 Z) (D.g 1 Z))<|oz
 intro R w m n p d j
 obtain ⟨h0,h3,h4,h5⟩:=k4 n h0 h3 h4 h5
 have h11:=p.r 3 Z
 replace f_v0:=f_v0.fr m
 replace q:=q.fr m
 refine zQ2 (decide (y6<(p0.length:Int))) h11 (fun c8=>?_) (fun c8=>?_)
 have c:=zAO c8 c
 refine zQA ?_
 refine zQ9 ?_
 refine HT.block ?_
 obtain ⟨e9,c⟩:=zA5 c
 obtain ⟨x10,q11,c⟩:=zA4 c
 refine zQB d j (eR v0::eI y6::eU (bAt p0 y6)::eI x10::eI x10::[]) ?_ ?_
 exact om h0<|om h5<|op (fun Q U W H D=>zAB ((f_v0.fr W).eq (D.g 0 Z)) (D.g 1 Z) underlying9 e9)<|op (fun Q U W H D=>zA8 call210 (zH3 (q11 Z) (d.fr W.size) (D.g 0 Z)))<|oa<|oz
 intro R w m n p d j
 obtain ⟨h0,h3,h4,h5⟩:=k4 n h0 h3 h4 h5
 have h6:=p.r 4 Z
 replace f_v0:=f_v0.fr m
 replace q:=q.fr m
 refine zQ9 ?_
 refine zQB d j (eI x10::eB (x10==(-2))::[]) ?_ ?_
 exact om h6<|op (fun Q U W H D=>zAo (D.g 0 Z) Z)<|oz
 intro R w m n p d j
 obtain ⟨h0,h3,h4,h5,h6⟩:=k5 n h0 h3 h4 h5 h6
 have h19:=p.r 1 Z
 replace f_v0:=f_v0.fr m
 replace q:=q.fr m
 refine zQ2 (x10==(-2)) h19 (fun c12=>?_) (fun c12=>?_)
 have c:=zAO c12 c
 refine zQB d j (eF (.rep eStr A ([]:List UInt8))::[]) ?_ ?_
 exact op (fun Q U W H D=>zA2 ⟨_,Z,⟨_,Z,Z,by decide⟩⟩)<|oz
 intro R w m n p d j
 obtain ⟨u13,h2,f_u13⟩:∃ u,R 2=u∧Rep eStr A w u ([]:List UInt8):=⟨_,Z,p 0 _ _ Z Z Z⟩
 replace q:=q.fr m
 replace q:IniOK [] A w:=q.sub [] N
 refine HT.ret ?_
 obtain rfl:=si c
 have c:=hr0
 replace c:some _=some _:=c
 obtain rfl:=si c
 exact ⟨.inr Z,[R 2],⟨Z,N⟩,(f_u13.eq h2).down B,j⟩
 have c:=zAN c12 c
 refine zQA ?_
 refine zQ9 ?_
 refine zQB d j (eI y6::eB (y6==0)::[]) ?_ ?_
 exact om h5<|op (fun Q U W H D=>zAo (D.g 0 Z) Z)<|oz
 intro R w m n p d j
 obtain ⟨h0,h3,h4,h5,h6⟩:=k5 n h0 h3 h4 h5 h6
 have h21:=p.r 1 Z
 replace f_v0:=f_v0.fr m
 replace q:=q.fr m
 refine zQ2 (y6==0) h21 (fun c14=>?_) (fun c14=>?_)
 have c:=zAO c14 c
 obtain ⟨e15,c⟩:=zA5 c
 obtain ⟨x16,q17,c⟩:=zA4 c
 obtain ⟨e18,e19,c⟩:=ck2 c
 refine zQC [ob ul_u1 (.vec w0.heap.size 5 (eInt .u8) y7)] (rR ul_u1::rR v0::(rF fun A=>.rep eStr A (subL p0 0 1))::(rF fun A=>.rep eStr A x16)::rU (bAt x16 0)::(rF fun A=>.rep (eSl (eInt .u8)) A ([(bAt x16 0)]:List Int))::⟨_,true,[0],some (.vec w0.heap.size 5 (eInt .u8) (y7++([(bAt x16 0)]:List Int))),true,fun A=>.any⟩::⟨_,true,[7],some (.vec w0.heap.size 5 (eInt .u8) (y7++([(bAt x16 0)]:List Int))),true,fun A=>.any⟩::[]) (ur (ur (up (up (ur (up (ua (ua (UAll.nil))))))))) q d ?_ ?_
 exact rm h3<|rm h0<|rp (fun V Q U O D=>zEC ((f_v0.stp O.stp).eq (D.g 0 Z)) Z underlying9  e15)<|rp (fun V Q U O D=>zA8 call133 (zDI (q17 Z) O.av (D.g 0 Z)))<|rp (fun V Q U O D=>zAB (D.g 0 Z) Z underlying9 e18)<|rp (fun V Q U O D=>zB6 [_] (E:=eInt .u8) ⟨(zAa.eq (D.g 0 Z)),N⟩ underlying22 sizeOf5 zeroValue5 Z Z Z O.av)<|rc (OblR.took 0 _ _ Z Z Z Z Z fun V Q U O D u X Y J L M=>by have a0:Q 22=ul_u1:=D.g 0 Z;have a1:Rep (eSl (eInt .u8)) V U (Q 27) ([(bAt x16 0)]:List Int):=D.g 1 Z;exact zAx (a0.trans (J _ Z).symm) X Y (Nat.le_trans j.size O.ch.size) a1 underlying22 el_5 e19)<|rc (OblR.took 7 _ _ Z Z Z Z Z fun V Q U O D u X Y J L M=>by exact zAK (L _ _ Z Z Z Z).symm X Y)<|rz
 intro done ρ σ A R w y s
 obtain ⟨h0,h5,h6⟩:=k3 s.rg h0 h5 h6
 obtain ⟨u20,e_u20⟩:∃ u,ρ 8=u:=⟨_,Z⟩
 have h3:=s.ov y 8 7 e_u20
 replace f_v0:=f_v0.stp s.stp
 obtain ⟨B,j,d⟩:=s.s B C j q ⟨Z,N⟩
 replace q:=s.left y [(8,ob u20 (.vec w0.heap.size 5 (eInt .u8) (y7++([(bAt x16 0)]:List Int))))] ⟨Z,Z,e_u20,Z,Z,N⟩
 refine zQB d j (eI x10::eI x10::[]) ?_ ?_
 exact om h6<|oa<|oz
 intro R w m n p d j
 obtain ⟨h0,h3,h5⟩:=k3 n h0 h3 h5
 have h4:=p.r 1 Z
 replace f_v0:=f_v0.fr m
 replace q:=q.fr m
 refine zQ7 ?_
 obtain ⟨e21,c⟩:=zA5 c
 refine HT.u d j (eI y6::eI (y6+1)::eI (y6+1)::[]) ?_ ?_
 exact om h5<|op (fun Q U W H D=>zAR (D.g 0 Z) Z e21)<|oa<|oz
 intro R w m n p d j
 obtain ⟨h0,h3,h4⟩:=k3 n h0 h3 h4
 have h5:=p.r 2 Z
 replace f_v0:=f_v0.fr m
 replace q:=q.fr m
 exact ei k (And.intro (Nat.lt_succ_self k) ⟨_,_,_,_,u20,c,d,j,B,q,h0,h3,h4,h5,f_v0⟩)
 have c:=zAN c14 c
 refine zQA ?_
 refine zQ9 ?_
 refine zQ9 ?_
 obtain ⟨x22,q23,c⟩:=zAD c
 obtain ⟨x24,q25,c⟩:=zAD c
 refine HT.u d j (eI x10::eB (decide (0<x10))::eB (decide (0<x10))::gI (true&&((decide (0<x10))==true)) x10::gI (true&&((decide (0<x10))==true)) y5::gB (true&&((decide (0<x10))==true)) (x10 != y5)::eB x22::eB x22::gR (true&&(x22==true)) ul_u1::gI (true&&(x22==true)) (y7.length:Int)::gB (true&&(x22==true)) (decide ((y7.length:Int)<4))::eB x24::[]) ?_ ?_
 exact om h6<|op (fun Q U W H D=>zCM (D.g 0 Z) Z)<|ov<|gm 2 true h6<|gm 2 true h4<|og 2 true (fun G Q U W H D=>zFq (D.h 0 G Z) (D.h 1 G Z))<|op (fun Q U W H D=>zAF (decide (0<x10)) (D.g 0 Z) (fun hc=>by have a1:Q 35 = .bool (x10 != y5):=D 1 _ _ _ Z Z Z Z (zAc Z (zAP hc));show _=Value.bool x22;rw [q23,hc];exact a1) (fun hc=>by show _=Value.bool x22;rw [q23,hc];exact Z))<|ov<|gm 7 true h3<|og 7 true (fun G Q U W H D=>zD0 (q.ok 0 _ Z).1 (D.h 0 G Z) underlying22)<|og 7 true (fun G Q U W H D=>zAu (D.h 0 G Z) Z)<|op (fun Q U W H D=>zAF x22 (D.g 0 Z) (fun hc=>by have a1:Q 40 = .bool (decide ((y7.length:Int)<4)):=D 1 _ _ _ Z Z Z Z (zAc Z (zAP hc));show _=Value.bool x24;rw [q25,hc];exact a1) (fun hc=>by show _=Value.bool x24;rw [q25,hc];exact Z))<|oz
 intro R w m n p d j
 obtain ⟨h0,h3,h4,h5,h6⟩:=k5 n h0 h3 h4 h5 h6
 have h41:=p.r 11 Z
 replace f_v0:=f_v0.fr m
 replace q:=q.fr m
 refine zQ2 x24 h41 (fun c26=>?_) (fun c26=>?_)
 have c:=zAO c26 c
 obtain ⟨e27,e28,c⟩:=ck2 c
 refine zQF [ob ul_u1 (.vec w0.heap.size 5 (eInt .u8) y7)] (rR ul_u1::rI x10::rI (48+x10)::rU (IntKind.u8.wrap (48+x10))::(rF fun A=>.rep (eSl (eInt .u8)) A ([(IntKind.u8.wrap (48+x10))]:List Int))::⟨_,true,[0],some (.vec w0.heap.size 5 (eInt .u8) (y7++([(IntKind.u8.wrap (48+x10))]:List Int))),true,fun A=>.any⟩::⟨_,true,[6],some (.vec w0.heap.size 5 (eInt .u8) (y7++([(IntKind.u8.wrap (48+x10))]:List Int))),true,fun A=>.any⟩::[]) (ur (ur (ur (ur (up (ua (ua (UAll.nil)))))))) q d ?_ ?_
 exact rm h3<|rm h6<|rp (fun V Q U O D=>zAR Z (D.g 0 Z) e27)<|rp (fun V Q U O D=>zDN (D.g 0 Z) underlying3 underlying5)<|rp (fun V Q U O D=>zB6 [_] (E:=eInt .u8) ⟨(zAa.eq (D.g 0 Z)),N⟩ underlying22 sizeOf5 zeroValue5 Z Z Z O.av)<|rc (OblR.took 0 _ _ Z Z Z Z Z fun V Q U O D u X Y J L M=>by have a0:Q 42=ul_u1:=D.g 0 Z;have a1:Rep (eSl (eInt .u8)) V U (Q 46) ([(IntKind.u8.wrap (48+x10))]:List Int):=D.g 1 Z;exact zAx (a0.trans (J _ Z).symm) X Y (Nat.le_trans j.size O.ch.size) a1 underlying22 el_5 e28)<|rc (OblR.took 6 _ _ Z Z Z Z Z fun V Q U O D u X Y J L M=>by exact zAK (L _ _ Z Z Z Z).symm X Y)<|rz
 intro done ρ σ A R w y s
 obtain ⟨h0,h4,h5,h6⟩:=k4 s.rg h0 h4 h5 h6
 obtain ⟨u29,e_u29⟩:∃ u,ρ 7=u:=⟨_,Z⟩
 have h3:=s.ov y 7 6 e_u29
 replace f_v0:=f_v0.stp s.stp
 obtain ⟨B,j,d⟩:=s.s B C j q ⟨Z,N⟩
 replace q:=s.left y [(7,ob u29 (.vec w0.heap.size 5 (eInt .u8) (y7++([(IntKind.u8.wrap (48+x10))]:List Int))))] ⟨Z,Z,e_u29,Z,Z,N⟩
 refine zQB d j (eI x10::eB (decide (0≤x10))::[]) ?_ ?_
 exact om h6<|op (fun Q U W H D=>zDs (D.g 0 Z) Z)<|oz
 intro R w m n p d j
 obtain ⟨h0,h3,h4,h5,h6⟩:=k5 n h0 h3 h4 h5 h6
 have h49:=p.r 1 Z
 replace f_v0:=f_v0.fr m
 replace q:=q.fr m
 refine zQ2 (decide (0≤x10)) h49 (fun c30=>?_) (fun c30=>?_)
 have c:=zAO c30 c
 refine HT.u d j (eI x10::eI x10::[]) ?_ ?_
 exact om h6<|oa<|oz
 intro R w m n p d j
 obtain ⟨h0,h3,h5⟩:=k3 n h0 h3 h5
 have h4:=p.r 1 Z
 replace f_v0:=f_v0.fr m
 replace q:=q.fr m
 obtain ⟨e31,c⟩:=zA5 c
 refine HT.u d j (eI y6::eI (y6+1)::eI (y6+1)::[]) ?_ ?_
 exact om h5<|op (fun Q U W H D=>zAR (D.g 0 Z) Z e31)<|oa<|oz
 intro R w m n p d j
 obtain ⟨h0,h3,h4⟩:=k3 n h0 h3 h4
 have h5:=p.r 2 Z
 replace f_v0:=f_v0.fr m
 replace q:=q.fr m
 exact ei k (And.intro (Nat.lt_succ_self k) ⟨_,_,_,_,u29,c,d,j,B,q,h0,h3,h4,h5,f_v0⟩)
 have c:=zAN c30 c
 refine zQA ?_
 obtain ⟨e32,c⟩:=zA5 c
 refine HT.u d j (eI y6::eI (y6+1)::eI (y6+1)::[]) ?_ ?_
 exact om h5<|op (fun Q U W H D=>zAR (D.g 0 Z) Z e32)<|oa<|oz
 intro R w m n p d j
 obtain ⟨h0,h3,h4⟩:=k3 n h0 h3 h4
 have h5:=p.r 2 Z
 replace f_v0:=f_v0.fr m
 replace q:=q.fr m
 exact ei k (And.intro (Nat.lt_succ_self k) ⟨_,_,_,_,u29,c,d,j,B,q,h0,h3,h4,h5,f_v0⟩)
 have c:=zAN c26 c
 refine zQA ?_
 refine zQB d j (eI x10::eB (decide (0≤x10))::[]) ?_ ?_
 exact om h6<|op (fun Q U W H D=>zDs (D.g 0 Z) Z)<|oz
 intro R w m n p d j
 obtain ⟨h0,h3,h4,h5,h6⟩:=k5 n h0 h3 h4 h5 h6
 have h49:=p.r 1 Z
 replace f_v0:=f_v0.fr m
 replace q:=q.fr m
 refine zQ2 (decide (0≤x10)) h49 (fun c33=>?_) (fun c33=>?_)
 have c:=zAO c33 c
 refine HT.u d j (eI x10::eI x10::[]) ?_ ?_
 exact om h6<|oa<|oz
 intro R w m n p d j
 obtain ⟨h0,h3,h5⟩:=k3 n h0 h3 h5
 have h4:=p.r 1 Z
 replace f_v0:=f_v0.fr m
 replace q:=q.fr m
 obtain ⟨e34,c⟩:=zA5 c
 refine HT.u d j (eI y6::eI (y6+1)::eI (y6+1)::[]) ?_ ?_
 exact om h5<|op (fun Q U W H D=>zAR (D.g 0 Z) Z e34)<|oa<|oz
 intro R w m n p d j
 obtain ⟨h0,h3,h4⟩:=k3 n h0 h3 h4
 have h5:=p.r 2 Z
 replace f_v0:=f_v0.fr m
 replace q:=q.fr m
 exact ei k (And.intro (Nat.lt_succ_self k) ⟨_,_,_,_,ul_u1,c,d,j,B,q,h0,h3,h4,h5,f_v0⟩)
 have c:=zAN c33 c
 refine zQA ?_
 obtain ⟨e35,c⟩:=zA5 c
 refine HT.u d j (eI y6::eI (y6+1)::eI (y6+1)::[]) ?_ ?_
 exact om h5<|op (fun Q U W H D=>zAR (D.g 0 Z) Z e35)<|oa<|oz
 intro R w m n p d j
 obtain ⟨h0,h3,h4⟩:=k3 n h0 h3 h4
 have h5:=p.r 2 Z
 replace f_v0:=f_v0.fr m
 replace q:=q.fr m
 exact ei k (And.intro (Nat.lt_succ_self k) ⟨_,_,_,_,ul_u1,c,d,j,B,q,h0,h3,h4,h5,f_v0⟩)
 have c:=zAN c8 c
 refine zQ7 ?_
 obtain rfl:=si c
 exact ei _ ⟨_,ul_u1,Z,d,j,B,q,h3⟩
 rintro R w ⟨A,s4,uo_u1,rfl,d,j,B,q,h3⟩
 have c:=zF6 c
 refine zQ9 ?_
 refine zQB d j (eR uo_u1::eI (s4.length:Int)::eB ((s4.length:Int)==0)::[]) ?_ ?_
 exact om h3<|op (fun Q U W H D=>zD0 (q.ok 0 _ Z).1 (D.g 0 Z) underlying22)<|op (fun Q U W H D=>zAo (D.g 0 Z) Z)<|oz
 intro R w m n p d j
 replace h3:=k1 n h3
 have h53:=p.r 2 Z
 replace q:=q.fr m
 refine zQ2 ((s4.length:Int)==0) h53 (fun c36=>?_) (fun c36=>?_)
 have c:=zAO c36 c
 refine zQB d j (eF (.rep eStr A ([]:List UInt8))::[]) ?_ ?_
 exact op (fun Q U W H D=>zA2 ⟨_,Z,⟨_,Z,Z,by decide⟩⟩)<|oz
 intro R w m n p d j
 obtain ⟨u37,h2,f_u37⟩:∃ u,R 2=u∧Rep eStr A w u ([]:List UInt8):=⟨_,Z,p 0 _ _ Z Z Z⟩
 replace q:=q.fr m
 replace q:IniOK [] A w:=q.sub [] N
 refine HT.ret ?_
 obtain rfl:=si c
 exact ⟨.inr Z,[R 2],⟨Z,N⟩,(f_u37.eq h2).down B,j⟩
 have c:=zAN c36 c
 refine zQA ?_
 obtain ⟨rl38,q39,c⟩:=zA4 c
 replace q39:=q39 Z
 refine zQ3 (fun R w=>∃ A:Av,∃ (s40:(List Int)) (uo_uo_u1:Value),rl38=s40∧AvOK A w∧Fr w0 w∧(∀ b o,A0 b o→A b o)∧IniOK [ob uo_uo_u1 (.vec w0.heap.size 5 (eInt .u8) s40)] A w∧R 3=uo_uo_u1) ?_ ?_
 refine HT.block ?_
 refine zQ8 (fun k R w=>∃ A:Av,∃ (y41:List Int) (ul_uo_u1:Value),zBv fu k y41=some rl38∧AvOK A w∧Fr w0 w∧(∀ b o,A0 b o→A b o)∧IniOK [ob ul_uo_u1 (.vec w0.heap.size 5 (eInt .u8) y41)] A w∧R 3=ul_uo_u1) fu ⟨_,_,uo_u1,q39,d,j,B,q,h3⟩ ?_
 have hr0:=c;clear c q39
 rintro k R w ⟨A,y41,ul_uo_u1,c,d,j,B,q,h3⟩
 rcases k with _ | k
 cases (show none=some _ from c)
 rw [zBv] at c
 refine zQ9 ?_
 refine zQB d j (eR ul_uo_u1::eI (y41.length:Int)::eB (decide ((y41.length:Int)<4))::[]) ?_ ?_
 exact om h3<|op (fun Q U W H D=>zD0 (q.ok 0 _ Z).1 (D.g 0 Z) underlying22)<|op (fun Q U W H D=>zAu (D.g 0 Z) Z)<|oz
 intro R w m n p d j
 replace h3:=k1 n h3
 have h56:=p.r 2 Z
 replace q:=q.fr m
 refine zQ2 (decide ((y41.length:Int)<4)) h56 (fun c42=>?_) (fun c42=>?_)
 have c:=zAO c42 c
 refine zQA ?_
 refine HT.block ?_
 obtain ⟨e43,c⟩:=zA5 c
 refine zQF [ob ul_uo_u1 (.vec w0.heap.size 5 (eInt .u8) y41)] (rR ul_uo_u1::(rF fun A=>.rep (eSl (eInt .u8)) A ([48]:List Int))::⟨_,true,[0],some (.vec w0.heap.size 5 (eInt .u8) (y41++([48]:List Int))),true,fun A=>.any⟩::⟨_,true,[3],some (.vec w0.heap.size 5 (eInt .u8) (y41++([48]:List Int))),true,fun A=>.any⟩::[]) (ur (up (ua (ua (UAll.nil))))) q d ?_ ?_
 exact rm h3<|rp (fun V Q U O D=>zB6 [_] (E:=eInt .u8) ⟨(zAa.eq Z),N⟩ underlying22 sizeOf5 zeroValue5 Z Z Z O.av)<|rc (OblR.took 0 _ _ Z Z Z Z Z fun V Q U O D u X Y J L M=>by have a0:Q 57=ul_uo_u1:=D.g 0 Z;have a1:Rep (eSl (eInt .u8)) V U (Q 58) ([48]:List Int):=D.g 1 Z;exact zAx (a0.trans (J _ Z).symm) X Y (Nat.le_trans j.size O.ch.size) a1 underlying22 el_5 e43)<|rc (OblR.took 3 _ _ Z Z Z Z Z fun V Q U O D u X Y J L M=>by exact zAK (L _ _ Z Z Z Z).symm X Y)<|rz
 intro done ρ σ A R w y s
 obtain ⟨u44,e_u44⟩:∃ u,ρ 4=u:=⟨_,Z⟩
 have h3:=s.ov y 4 3 e_u44
 obtain ⟨B,j,d⟩:=s.s B C j q ⟨Z,N⟩
 replace q:=s.left y [(4,ob u44 (.vec w0.heap.size 5 (eInt .u8) (y41++([48]:List Int))))] ⟨Z,Z,e_u44,Z,Z,N⟩
 exact ei k (And.intro (Nat.lt_succ_self k) ⟨_,_,u44,c,d,j,B,q,h3⟩)
 have c:=zAN c42 c
 refine zQ7 ?_
 obtain rfl:=si c
 exact ei _ ⟨_,ul_uo_u1,Z,d,j,B,q,h3⟩
 rintro R w ⟨A,s40,uo_uo_u1,es,d,j,B,q,h3⟩
 obtain rfl:=es.symm
 refine zQB d j (eR uo_uo_u1::eF (.rep eStr A (strB s40))::eF (.rep eStr A (strB s40))::[]) ?_ ?_
 exact om h3<|op (fun Q U W H D=>zBa ((zD2 ((q.fr W).ok 0 _ Z).1 B C).eq (D.g 0 Z)) underlying22 underlying5 underlying9)<|op (fun Q U W H D=>zA2 (D.g 0 Z))<|oz
 intro R w m n p d j
 obtain ⟨u45,h2,f_u45⟩:∃ u,R 2=u∧Rep eStr A w u (strB s40):=⟨_,Z,p 2 _ _ Z Z Z⟩
 replace q:=q.fr m
 replace q:IniOK [] A w:=q.sub [] N
 refine HT.ret ?_
 obtain rfl:=si c
 exact ⟨.inr Z,[R 2],⟨Z,N⟩,(f_u45.eq h2).down B,j⟩
def zBO (fu : Nat) (x2 : List (List UInt8)) : Nat → Int → (List (List UInt8)) → Option (List (List UInt8))
 | 0,_,_=>none
 | k+1,y8,y9=>
 bif (decide (y8<(x2.length:Int))) then (
 ck (inR y8 x2.length) <|
 cl true (zDt fu (gtD x2 y8)) fun x12=>
 bif (!(x12==([]:List UInt8))) then (
 cl true (zCp fu y9 x12 false) fun x16=>
 ck (i64B (y8+1)) <|
 zBO fu x2 k (y8+1) x16
 ) else (
 ck (i64B (y8+1)) <|
 zBO fu x2 k (y8+1) y9
 )
 ) else (
 some y9
 )
def zCD (fu:Nat) (p0:List UInt8):Option (List (List UInt8)):=
 cl true (zCo fu p0) fun x2=>
 cl true (zBO fu x2 fu 0 ([]:List (List UInt8))) fun s7=>
 some s7
theorem zGv {fu : Nat} {A0 : Av} {p0 : List UInt8} {r : List (List UInt8)} (c : zCD fu p0 = some r) {w : World} {v0 : Value} (d : AvOK A0 w) (h0 : Rep eStr A0 w v0 p0) :
 Calls prog 108 #[v0] w fun e w'=>∃ v,e = .returned v∧((Res.vec w.heap.size 9 eStr r).ok (addA A0 v) v w'∧Fr w w'):=by
 unfold zCD at c
 obtain ⟨w0,hw0,j,C⟩:=pw d
 have hA00:AvOK A0 w0:=C
 rw [fh hw0]
 rw [fw hw0]
 obtain ⟨A,hAe,B,d,q⟩:=pa d
 refine zA3 [.tmp 2] func108 ntmps108 (by decide) Z Z (nb Z) ?_
 intro R hR
 have f_v0:Rep eStr A w v0 p0:=hAe ▸ h0
 replace h0:R 0=v0:=hR 0 _ Z
 refine zQB d j (eA::[]) ?_ ?_
 exact op (fun Q U W H D=>zA2 N)<|oz
 intro R w m n p d j
 replace h0:=k1 n h0
 replace f_v0:=f_v0.fr m
 replace q:=q.fr m
 refine zQC [] (⟨_,true,[],some (.vec w0.heap.size 9 eStr ([]:List (List UInt8))),true,fun A=>.any⟩::⟨_,true,[0],some (.vec w0.heap.size 9 eStr ([]:List (List UInt8))),true,fun A=>.any⟩::[]) (ua (ua (UAll.nil))) q d ?_ ?_
 exact rc (OblR.made _ Z Z Z Z fun V Q U O D=>by exact zBW [] (E:=eStr) N underlying46 sizeOf9 zeroValue9 Z Z Z (Nat.le_trans j.size O.ch.size))<|rc (OblR.took 0 _ _ Z Z Z Z Z fun V Q U O D u X Y J L M=>by exact zAK (L _ _ Z Z Z Z).symm X Y)<|rz
 intro done ρ σ A R w y s
 replace h0:=k1 s.rg h0
 obtain ⟨u1,e_u1⟩:∃ u,ρ 1=u:=⟨_,Z⟩
 have h3:=s.ov y 1 1 e_u1
 replace f_v0:=f_v0.stp s.stp
 obtain ⟨B,j,d⟩:=s.s B C j q N
 replace q:=s.left y [(1,ob u1 (.vec w0.heap.size 9 eStr ([]:List (List UInt8))))] ⟨Z,Z,e_u1,Z,Z,N⟩
 obtain ⟨x2,q3,c⟩:=zA4 c
 refine zQB d j (eR v0::eF (.rep (eSl eStr) A x2)::eF (.rep (eSl eStr) A x2)::[]) ?_ ?_
 exact om h0<|op (fun Q U W H D=>zA8 call111 (zET (q3 Z) (d.fr W.size) ((f_v0.fr W).eq (D.g 0 Z))))<|op (fun Q U W H D=>zA2 (D.g 0 Z))<|oz
 intro R w m n p d j
 replace h3:=k1 n h3
 obtain ⟨u4,h4,f_u4⟩:∃ u,R 4=u∧Rep (eSl eStr) A w u x2:=⟨_,Z,p 2 _ _ Z Z Z⟩
 replace q:=q.fr m
 refine zQ9 ?_
 refine zQB d j (eI 0::[]) ?_ ?_
 exact op (fun Q U W H D=>zA2 Z)<|oz
 intro R w m n p d j
 obtain ⟨h3,h4⟩:=k2 n h3 h4
 have h5:=p.r 0 Z
 replace f_u4:=f_u4.fr m
 replace q:=q.fr m
 obtain ⟨rl5,q6,c⟩:=zA4 c
 replace q6:=q6 Z
 refine zQ4 (fun R w=>∃ A:Av,∃ (s7:(List (List UInt8))) (uo_u1:Value),rl5=s7∧AvOK A w∧Fr w0 w∧(∀ b o,A0 b o→A b o)∧IniOK [ob uo_u1 (.vec w0.heap.size 9 eStr s7)] A w∧R 3=uo_u1) ?_ ?_
 refine HT.block ?_
 refine zQ8 (fun k R w=>∃ A:Av,∃ (y8:Int) (y9:List (List UInt8)) (ul_u1:Value),zBO fu x2 k y8 y9=some rl5∧AvOK A w∧Fr w0 w∧(∀ b o,A0 b o→A b o)∧IniOK [ob ul_u1 (.vec w0.heap.size 9 eStr y9)] A w∧R 3=ul_u1∧R 4=u4∧R 5 = .int .i64 y8∧Rep (eSl eStr) A w u4 x2) fu ⟨_,_,_,u1,q6,d,j,B,q,h3,h4,h5,f_u4⟩ ?_
 have hr0:=c;clear c q6
 rintro k R w ⟨A,y8,y9,ul_u1,c,d,j,B,q,h3,h4,h5,f_u4⟩
 rcases k with _ | k
 cases (show none=some _ from c)
 rw [zBO] at c
 refine zQ9 ?_
 refine zQB d j (eI y8::eR u4::eI (x2.length:Int)::eB (decide (y8<(x2.length:Int)))::[]) ?_ ?_
 exact om h5<|om h4<|op (fun Q U W H D=>zAe (aT:=#[]) ((f_u4.fr W).eq (D.g 0 Z)) underlying46)<|op (fun Q U W H D=>zAu (D.g 0 Z) (D.g 1 Z))<|oz
 intro R w m n p d j
 obtain ⟨h3,h4,h5⟩:=k3 n h3 h4 h5
 have h13:=p.r 3 Z
 replace f_u4:=f_u4.fr m
 replace q:=q.fr m
 refine zQ2 (decide (y8<(x2.length:Int))) h13 (fun c10=>?_) (fun c10=>?_)
 have c:=zAO c10 c
 refine zQA ?_
 refine zQ9 ?_
 refine HT.block ?_
 obtain ⟨e11,c⟩:=zA5 c
 obtain ⟨x12,q13,c⟩:=zA4 c
 refine zQB d j (eR u4::eI y8::eF (.qtr eStr A (gtD x2 y8))::eF (.rep eStr A (gtD x2 y8))::eF (.rep eStr A x12)::eF (.rep eStr A x12)::[]) ?_ ?_
 exact om h4<|om h5<|op (fun Q U W H D=>zA7 ((f_u4.fr W).eq (D.g 0 Z)) (D.g 1 Z) underlying46 sizeOf9 e11)<|op (fun Q U W H D=>(zAT (QRep.ptr (D.g 0 Z)) isAgg9 sizeOf9))<|op (fun Q U W H D=>zA8 call159 (zHT (q13 Z) (d.fr W.size) (D.g 0 Z)))<|op (fun Q U W H D=>zA2 (D.g 0 Z))<|oz
 intro R w m n p d j
 obtain ⟨h3,h4,h5⟩:=k3 n h3 h4 h5
 obtain ⟨u14,h6,f_u14⟩:∃ u,R 6=u∧Rep eStr A w u x12:=⟨_,Z,p 5 _ _ Z Z Z⟩
 replace f_u4:=f_u4.fr m
 replace q:=q.fr m
 refine zQB d j (eR u14::eB (!(x12==([]:List UInt8)))::[]) ?_ ?_
 exact om h6<|op (fun Q U W H D=>zFk ((f_u14.fr W).eq (D.g 0 Z)) ⟨_,Z,⟨_,Z,Z,by decide⟩⟩)<|oz
 intro R w m n p d j
 obtain ⟨h3,h4,h5,h6⟩:=k4 n h3 h4 h5 h6
 have h22:=p.r 1 Z
 replace f_u14:=f_u14.fr m
 replace f_u4:=f_u4.fr m
 replace q:=q.fr m
 refine zQ2 (!(x12==([]:List UInt8))) h22 (fun c15=>?_) (fun c15=>?_)
 have c:=zAO c15 c
 obtain ⟨x16,q17,c⟩:=zA4 c
 refine zQF [ob ul_u1 (.vec w0.heap.size 9 eStr y9)] (rR ul_u1::rR u14::⟨_,true,[0],some (.vec w0.heap.size 9 eStr x16),true,fun A=>.any⟩::⟨_,true,[3],some (.vec w0.heap.size 9 eStr x16),true,fun A=>.any⟩::[]) (ur (ur (ua (ua (UAll.nil))))) q d ?_ ?_
 exact rm h3<|rm h6<|rc (OblR.took 0 _ _ Z Z Z Z Z fun V Q U O D u X Y J L M=>by have a0:Q 23=ul_u1:=D.g 0 Z;have a1:Q 24=u14:=D.g 1 Z;have ra1:=(f_u14.stp O.stp).eq a1;have hu0:zAG Q (.tmp 23)=u:=a0.trans (J _ Z).symm;exact zEv call109 Y (by simp only [List.map,hu0];exact zDP (q17 Z) (O.av.sub _) (fun b o h=>h.2) (Nat.le_trans j.size O.ch.size) (Vec.flat X (fun _ _ _ _ _ h=>h)) (ra1.less fun b o h=>h.1) Z))<|rc (OblR.took 3 _ _ Z Z Z Z Z fun V Q U O D u X Y J L M=>by exact zAK (L _ _ Z Z Z Z).symm X Y)<|rz
 intro done ρ σ A R w y s
 obtain ⟨h4,h5⟩:=k2 s.rg h4 h5
 obtain ⟨u18,e_u18⟩:∃ u,ρ 4=u:=⟨_,Z⟩
 have h3:=s.ov y 4 3 e_u18
 replace f_u4:=f_u4.stp s.stp
 obtain ⟨B,j,d⟩:=s.s B C j q ⟨Z,N⟩
 replace q:=s.left y [(4,ob u18 (.vec w0.heap.size 9 eStr x16))] ⟨Z,Z,e_u18,Z,Z,N⟩
 obtain ⟨e19,c⟩:=zA5 c
 refine HT.u d j (eI y8::eI (y8+1)::eI (y8+1)::[]) ?_ ?_
 exact om h5<|op (fun Q U W H D=>zAR (D.g 0 Z) Z e19)<|oa<|oz
 intro R w m n p d j
 obtain ⟨h3,h4⟩:=k2 n h3 h4
 have h5:=p.r 2 Z
 replace f_u4:=f_u4.fr m
 replace q:=q.fr m
 exact ei k (And.intro (Nat.lt_succ_self k) ⟨_,_,_,u18,c,d,j,B,q,h3,h4,h5,f_u4⟩)
 have c:=zAN c15 c
 refine zQA ?_
 obtain ⟨e20,c⟩:=zA5 c
 refine HT.u d j (eI y8::eI (y8+1)::eI (y8+1)::[]) ?_ ?_
 exact om h5<|op (fun Q U W H D=>zAR (D.g 0 Z) Z e20)<|oa<|oz
 intro R w m n p d j
 obtain ⟨h3,h4⟩:=k2 n h3 h4
 have h5:=p.r 2 Z
 replace f_u4:=f_u4.fr m
 replace q:=q.fr m
 exact ei k (And.intro (Nat.lt_succ_self k) ⟨_,_,_,ul_u1,c,d,j,B,q,h3,h4,h5,f_u4⟩)
 have c:=zAN c10 c
 refine zQ7 ?_
 obtain rfl:=si c
 exact ei _ ⟨_,ul_u1,Z,d,j,B,q,h3⟩
 rintro R w ⟨A,s7,uo_u1,es,d,j,B,q,h3⟩
 obtain rfl:=es.symm
 refine zQB d j (eR uo_u1::eR uo_u1::[]) ?_ ?_
 exact om h3<|oa<|oz
 intro R w m n p d j
 have h2:=p.r 1 Z
 replace q:=q.fr m
 refine HT.ret ?_
 obtain rfl:=si c
 exact ⟨.inr Z,[R 2],⟨Z,N⟩,(zCj (q.ok 0 _ Z) B h2),j⟩
theorem zEp {fu : Nat} {A0 : Av} {p0 : List UInt8} {r : List (List UInt8)} (c : zCD fu p0 = some r) {w : World} {v0 : Value} (d : AvOK A0 w) (h0 : Rep eStr A0 w v0 p0) :
 Calls prog 108 #[v0] w fun e w'=>∃ v,e = .returned v∧(Rep (eSl eStr) A0 w' v r∧Fr w w'):=by
 refine Calls.mono (zGv c d h0) ?_
 rintro e w' ⟨v,he,hv,hf⟩
 exact ⟨v,he,zD2 hv (fun b o h=>.inl h) d,hf⟩
def zB5 (fu : Nat) (p0 : List UInt8) : Nat → Int → (List Int) → Option (List Int)
 | 0,_,_=>none
 | k+1,y5,y6=>
 bif (decide (y5<(p0.length:Int))) then (
 ck (inR y5 p0.length) <|
 ck (!(true&&((decide (48≤(bAt p0 y5)))==true)) || inR y5 p0.length) <|
 bd ((decide (48≤(bAt p0 y5)))&&(decide ((bAt p0 y5)≤57))) fun x10=>
 bif x10 then (
 ck (inR y5 p0.length) <|
 ck (zC2 (y6.length+([(bAt p0 y5)]:List Int).length)) <|
 ck (i64B (y5+1)) <|
 zB5 fu p0 k (y5+1) (y6++([(bAt p0 y5)]:List Int))
 ) else (
 ck (i64B (y5+1)) <|
 zB5 fu p0 k (y5+1) y6
 )
 ) else (
 some y6
 )
def zCw (fu:Nat) (p0:List UInt8):Option (List UInt8):=
 cl true (zB5 fu p0 fu 0 ([]:List Int)) fun s4=>
 some (strB s4)
theorem zFH {fu : Nat} {A0 : Av} {p0 : List UInt8} {r : List UInt8} (c : zCw fu p0 = some r) {w : World} {v0 : Value} (d : AvOK A0 w) (h0 : Rep eStr A0 w v0 p0) :
 Calls prog 110 #[v0] w fun e w'=>∃ v,e = .returned v∧(Rep eStr A0 w' v r∧Fr w w'):=by
 unfold zCw at c
 obtain ⟨w0,hw0,j,C⟩:=pw d
 have hA00:AvOK A0 w0:=C
 rw [fw hw0]
 obtain ⟨A,hAe,B,d,q⟩:=pa d
 refine zA3 [.tmp 2] func110 ntmps110 (by decide) Z Z (nb Z) ?_
 intro R hR
 have f_v0:Rep eStr A w v0 p0:=hAe ▸ h0
 replace h0:R 0=v0:=hR 0 _ Z
 refine zQB d j (eF (.rep eStr A ([]:List UInt8))::[]) ?_ ?_
 exact op (fun Q U W H D=>zA2 ⟨_,Z,⟨_,Z,Z,by decide⟩⟩)<|oz
 intro R w m n p d j
 replace h0:=k1 n h0
 replace f_v0:=f_v0.fr m
 replace q:=q.fr m
 refine zQC [] (⟨_,true,[],some (.vec w0.heap.size 5 (eInt .u8) ([]:List Int)),true,fun A=>.any⟩::⟨_,true,[0],some (.vec w0.heap.size 5 (eInt .u8) ([]:List Int)),true,fun A=>.any⟩::[]) (ua (ua (UAll.nil))) q d ?_ ?_
 exact rc (OblR.made _ Z Z Z Z fun V Q U O D=>by exact zBW [] (E:=eInt .u8) N underlying22 sizeOf5 zeroValue5 Z Z Z (Nat.le_trans j.size O.ch.size))<|rc (OblR.took 0 _ _ Z Z Z Z Z fun V Q U O D u X Y J L M=>by exact zAK (L _ _ Z Z Z Z).symm X Y)<|rz
 intro done ρ σ A R w y s
 replace h0:=k1 s.rg h0
 obtain ⟨u1,e_u1⟩:∃ u,ρ 1=u:=⟨_,Z⟩
 have h3:=s.ov y 1 1 e_u1
 replace f_v0:=f_v0.stp s.stp
 obtain ⟨B,j,d⟩:=s.s B C j q N
 replace q:=s.left y [(1,ob u1 (.vec w0.heap.size 5 (eInt .u8) ([]:List Int)))] ⟨Z,Z,e_u1,Z,Z,N⟩
 refine zQ9 ?_
 refine zQB d j (eI 0::[]) ?_ ?_
 exact op (fun Q U W H D=>zA2 Z)<|oz
 intro R w m n p d j
 obtain ⟨h0,h3⟩:=k2 n h0 h3
 have h4:=p.r 0 Z
 replace f_v0:=f_v0.fr m
 replace q:=q.fr m
 obtain ⟨rl2,q3,c⟩:=zA4 c
 replace q3:=q3 Z
 refine zQ4 (fun R w=>∃ A:Av,∃ (s4:(List Int)) (uo_u1:Value),rl2=s4∧AvOK A w∧Fr w0 w∧(∀ b o,A0 b o→A b o)∧IniOK [ob uo_u1 (.vec w0.heap.size 5 (eInt .u8) s4)] A w∧R 3=uo_u1) ?_ ?_
 refine HT.block ?_
 refine zQ8 (fun k R w=>∃ A:Av,∃ (y5:Int) (y6:List Int) (ul_u1:Value),zB5 fu p0 k y5 y6=some rl2∧AvOK A w∧Fr w0 w∧(∀ b o,A0 b o→A b o)∧IniOK [ob ul_u1 (.vec w0.heap.size 5 (eInt .u8) y6)] A w∧R 0=v0∧R 3=ul_u1∧R 4 = .int .i64 y5∧Rep eStr A w v0 p0) fu ⟨_,_,_,u1,q3,d,j,B,q,h0,h3,h4,f_v0⟩ ?_
 have hr0:=c;clear c q3
 rintro k R w ⟨A,y5,y6,ul_u1,c,d,j,B,q,h0,h3,h4,f_v0⟩
 rcases k with _ | k
 cases (show none=some _ from c)
 rw [zB5] at c
 refine zQ9 ?_
 refine zQB d j (eI y5::eR v0::eI (p0.length:Int)::eB (decide (y5<(p0.length:Int)))::[]) ?_ ?_
 exact om h4<|om h0<|op (fun Q U W H D=>zAJ ((f_v0.fr W).eq (D.g 0 Z)) underlying9)<|op (fun Q U W H D=>zAu (D.g 0 Z) (D.g 1 Z))<|oz
 intro R w m n p d j
 obtain ⟨h0,h3,h4⟩:=k3 n h0 h3 h4
 have h9:=p.r 3 Z
 replace f_v0:=f_v0.fr m
 replace q:=q.fr m
 refine zQ2 (decide (y5<(p0.length:Int))) h9 (fun c7=>?_) (fun c7=>?_)
 have c:=zAO c7 c
 refine zQA ?_
 refine zQ9 ?_
 refine HT.block ?_
 refine zQ9 ?_
 obtain ⟨e8,e9,c⟩:=ck2 c
 obtain ⟨x10,q11,c⟩:=zAD c
 refine HT.u d j (eR v0::eI y5::eU (bAt p0 y5)::eB (decide (48≤(bAt p0 y5)))::eB (decide (48≤(bAt p0 y5)))::gR (true&&((decide (48≤(bAt p0 y5)))==true)) v0::gI (true&&((decide (48≤(bAt p0 y5)))==true)) y5::gU (true&&((decide (48≤(bAt p0 y5)))==true)) (bAt p0 y5)::gB (true&&((decide (48≤(bAt p0 y5)))==true)) (decide ((bAt p0 y5)≤57))::eB x10::[]) ?_ ?_
 exact om h0<|om h4<|op (fun Q U W H D=>zAB ((f_v0.fr W).eq (D.g 0 Z)) (D.g 1 Z) underlying9 e8)<|op (fun Q U W H D=>zDs (D.g 0 Z) Z)<|ov<|gm 4 true h0<|gm 4 true h4<|og 4 true (fun G Q U W H D=>zAB ((f_v0.fr W).eq (D.h 0 G Z)) (D.h 1 G Z) underlying9 (gd e9 G))<|og 4 true (fun G Q U W H D=>zDp (D.h 0 G Z) Z)<|op (fun Q U W H D=>zAF (decide (48≤(bAt p0 y5))) (D.g 0 Z) (fun hc=>by have a1:Q 20 = .bool (decide ((bAt p0 y5)≤57)):=D 1 _ _ _ Z Z Z Z (zAc Z (zAP hc));show _=Value.bool x10;rw [q11,hc];exact a1) (fun hc=>by show _=Value.bool x10;rw [q11,hc];exact Z))<|oz
 intro R w m n p d j
 obtain ⟨h0,h3,h4⟩:=k3 n h0 h3 h4
 have h21:=p.r 9 Z
 replace f_v0:=f_v0.fr m
 replace q:=q.fr m
 refine zQ2 x10 h21 (fun c12=>?_) (fun c12=>?_)
 have c:=zAO c12 c
 obtain ⟨e13,e14,c⟩:=ck2 c
 refine zQF [ob ul_u1 (.vec w0.heap.size 5 (eInt .u8) y6)] (rR ul_u1::rR v0::rI y5::rU (bAt p0 y5)::(rF fun A=>.rep (eSl (eInt .u8)) A ([(bAt p0 y5)]:List Int))::⟨_,true,[0],some (.vec w0.heap.size 5 (eInt .u8) (y6++([(bAt p0 y5)]:List Int))),true,fun A=>.any⟩::⟨_,true,[6],some (.vec w0.heap.size 5 (eInt .u8) (y6++([(bAt p0 y5)]:List Int))),true,fun A=>.any⟩::[]) (ur (ur (ur (ur (up (ua (ua (UAll.nil)))))))) q d ?_ ?_
 exact rm h3<|rm h0<|rm h4<|rp (fun V Q U O D=>zAB ((f_v0.stp O.stp).eq (D.g 0 Z)) (D.g 1 Z) underlying9 e13)<|rp (fun V Q U O D=>zB6 [_] (E:=eInt .u8) ⟨(zAa.eq (D.g 0 Z)),N⟩ underlying22 sizeOf5 zeroValue5 Z Z Z O.av)<|rc (OblR.took 0 _ _ Z Z Z Z Z fun V Q U O D u X Y J L M=>by have a0:Q 22=ul_u1:=D.g 0 Z;have a1:Rep (eSl (eInt .u8)) V U (Q 26) ([(bAt p0 y5)]:List Int):=D.g 1 Z;exact zAx (a0.trans (J _ Z).symm) X Y (Nat.le_trans j.size O.ch.size) a1 underlying22 el_5 e14)<|rc (OblR.took 6 _ _ Z Z Z Z Z fun V Q U O D u X Y J L M=>by exact zAK (L _ _ Z Z Z Z).symm X Y)<|rz
 intro done ρ σ A R w y s
 obtain ⟨h0,h4⟩:=k2 s.rg h0 h4
 obtain ⟨u15,e_u15⟩:∃ u,ρ 7=u:=⟨_,Z⟩
 have h3:=s.ov y 7 6 e_u15
 replace f_v0:=f_v0.stp s.stp
 obtain ⟨B,j,d⟩:=s.s B C j q ⟨Z,N⟩
 replace q:=s.left y [(7,ob u15 (.vec w0.heap.size 5 (eInt .u8) (y6++([(bAt p0 y5)]:List Int))))] ⟨Z,Z,e_u15,Z,Z,N⟩
 obtain ⟨e16,c⟩:=zA5 c
 refine HT.u d j (eI y5::eI (y5+1)::eI (y5+1)::[]) ?_ ?_
 exact om h4<|op (fun Q U W H D=>zAR (D.g 0 Z) Z e16)<|oa<|oz
 intro R w m n p d j
 obtain ⟨h0,h3⟩:=k2 n h0 h3
 have h4:=p.r 2 Z
 replace f_v0:=f_v0.fr m
 replace q:=q.fr m
 exact ei k (And.intro (Nat.lt_succ_self k) ⟨_,_,_,u15,c,d,j,B,q,h0,h3,h4,f_v0⟩)
 have c:=zAN c12 c
 refine zQA ?_
 obtain ⟨e17,c⟩:=zA5 c
 refine HT.u d j (eI y5::eI (y5+1)::eI (y5+1)::[]) ?_ ?_
 exact om h4<|op (fun Q U W H D=>zAR (D.g 0 Z) Z e17)<|oa<|oz
 intro R w m n p d j
 obtain ⟨h0,h3⟩:=k2 n h0 h3
 have h4:=p.r 2 Z
 replace f_v0:=f_v0.fr m
 replace q:=q.fr m
 exact ei k (And.intro (Nat.lt_succ_self k) ⟨_,_,_,ul_u1,c,d,j,B,q,h0,h3,h4,f_v0⟩)
 have c:=zAN c7 c
 refine zQ7 ?_
 obtain rfl:=si c
 exact ei _ ⟨_,ul_u1,Z,d,j,B,q,h3⟩
 rintro R w ⟨A,s4,uo_u1,es,d,j,B,q,h3⟩
 obtain rfl:=es.symm
 refine zQB d j (eR uo_u1::eF (.rep eStr A (strB s4))::eF (.rep eStr A (strB s4))::[]) ?_ ?_
 exact om h3<|op (fun Q U W H D=>zBa ((zD2 ((q.fr W).ok 0 _ Z).1 B C).eq (D.g 0 Z)) underlying22 underlying5 underlying9)<|op (fun Q U W H D=>zA2 (D.g 0 Z))<|oz
 intro R w m n p d j
 obtain ⟨u18,h2,f_u18⟩:∃ u,R 2=u∧Rep eStr A w u (strB s4):=⟨_,Z,p 2 _ _ Z Z Z⟩
 replace q:=q.fr m
 replace q:IniOK [] A w:=q.sub [] N
 refine HT.ret ?_
 obtain rfl:=si c
 exact ⟨.inr Z,[R 2],⟨Z,N⟩,(f_u18.eq h2).down B,j⟩
def zBU (fu : Nat) (x1 : List UInt8) (x4 : List UInt8) : Nat → Int → Option Int
 | 0,_=>none
 | k+1,y10=>
 bd ((decide (y10<(x1.length:Int)))&&(decide (y10<(x4.length:Int)))) fun x11=>
 ck (!(true&&(x11==true)) || i64B ((x1.length:Int)-1)) <|
 ck (!(true&&(x11==true)) || i64B (((x1.length:Int)-1)-y10)) <|
 ck (!(true&&(x11==true)) || inR (((x1.length:Int)-1)-y10) x1.length) <|
 ck (!(true&&(x11==true)) || i64B ((x4.length:Int)-1)) <|
 ck (!(true&&(x11==true)) || i64B (((x4.length:Int)-1)-y10)) <|
 ck (!(true&&(x11==true)) || inR (((x4.length:Int)-1)-y10) x4.length) <|
 bd (x11&&((bAt x1 (((x1.length:Int)-1)-y10))==(bAt x4 (((x4.length:Int)-1)-y10)))) fun x19=>
 bif x19 then (
 ck (i64B (y10+1)) <|
 zBU fu x1 x4 k (y10+1)
 ) else (
 some y10
 )
def zD1 (fu:Nat) (p0:List UInt8) (p1:List UInt8):Option Int:=
 cl true (zCw fu p0) fun x1=>
 cl true (zCw fu p1) fun x4=>
 cl true (zBU fu x1 x4 fu 0) fun s9=>
 bd ((decide ((x1.length:Int)<4)) || (decide ((x4.length:Int)<4))) fun x23=>
 bd (x23 || (decide (s9<4))) fun x25=>
 bif x25 then (
 some 0
 ) else (
 bd ((s9==(x1.length:Int))&&(s9==(x4.length:Int))) fun x28=>
 bif x28 then (
 some 1000
 ) else (
 bd ((decide (7≤s9)) || (s9==(x1.length:Int))) fun x31=>
 bd (x31 || (s9==(x4.length:Int))) fun x33=>
 bif x33 then (
 some 800
 ) else (
 some 400
 )
 )
 )
theorem zGk {fu : Nat} {A : Av} {p0 : List UInt8} {p1 : List UInt8} {r : Int} (c : zD1 fu p0 p1 = some r) {w : World} {v0 : Value} {v1 : Value} (d : AvOK A w) (h0 : Rep eStr A w v0 p0) (h1 : Rep eStr A w v1 p1) :
 Calls prog 128 #[v0,v1] w fun e w'=>∃ v,e = .returned v∧(v = .int .i64 r∧Fr w w'):=by
 unfold zD1 at c
 obtain ⟨w0,hw0,j⟩:=pf w
 rw [fw hw0]
 refine zA3 [.tmp 4] func128 ntmps128 (by decide) Z Z (nb Z) ?_
 intro R hR
 have f_v0:=h0
 replace h0:R 0=v0:=hR 0 _ Z
 have f_v1:=h1
 replace h1:R 1=v1:=hR 1 _ Z
 refine zQB d j (eI 0::[]) ?_ ?_
 exact op (fun Q U W H D=>zA2 Z)<|oz
 intro R w m n p d j
 obtain ⟨h0,h1⟩:=k2 n h0 h1
 replace f_v0:=f_v0.fr m
 replace f_v1:=f_v1.fr m
 obtain ⟨x1,q2,c⟩:=zA4 c
 refine zQB d j (eR v0::eF (.rep eStr A x1)::eF (.rep eStr A x1)::[]) ?_ ?_
 exact om h0<|op (fun Q U W H D=>zA8 call110 (zFH (q2 Z) (d.fr W.size) ((f_v0.fr W).eq (D.g 0 Z))))<|op (fun Q U W H D=>zA2 (D.g 0 Z))<|oz
 intro R w m n p d j
 replace h1:=k1 n h1
 obtain ⟨u3,h5,f_u3⟩:∃ u,R 5=u∧Rep eStr A w u x1:=⟨_,Z,p 2 _ _ Z Z Z⟩
 replace f_v1:=f_v1.fr m
 obtain ⟨x4,q5,c⟩:=zA4 c
 refine zQB d j (eR v1::eF (.rep eStr A x4)::eF (.rep eStr A x4)::[]) ?_ ?_
 exact om h1<|op (fun Q U W H D=>zA8 call110 (zFH (q5 Z) (d.fr W.size) ((f_v1.fr W).eq (D.g 0 Z))))<|op (fun Q U W H D=>zA2 (D.g 0 Z))<|oz
 intro R w m n p d j
 replace h5:=k1 n h5
 obtain ⟨u6,h6,f_u6⟩:∃ u,R 6=u∧Rep eStr A w u x4:=⟨_,Z,p 2 _ _ Z Z Z⟩
 replace f_u3:=f_u3.fr m
 refine zQB d j (eI 0::[]) ?_ ?_
 exact op (fun Q U W H D=>zA2 Z)<|oz
 intro R w m n p d j
 obtain ⟨h5,h6⟩:=k2 n h5 h6
 have h7:=p.r 0 Z
 replace f_u3:=f_u3.fr m
 replace f_u6:=f_u6.fr m
 obtain ⟨rl7,q8,c⟩:=zA4 c
 replace q8:=q8 Z
 refine zQ3 (fun R w=>∃ (s9:Int),rl7=s9∧AvOK A w∧Fr w0 w∧R 5=u3∧R 6=u6∧R 7 = .int .i64 s9∧Rep eStr A w u3 x1∧Rep eStr A w u6 x4) ?_ ?_
 refine HT.block ?_
 refine zQ8 (fun k R w=>∃ (y10:Int),zBU fu x1 x4 k y10=some rl7∧AvOK A w∧Fr w0 w∧R 5=u3∧R 6=u6∧R 7 = .int .i64 y10∧Rep eStr A w u3 x1∧Rep eStr A w u6 x4) fu ⟨_,q8,d,j,h5,h6,h7,f_u3,f_u6⟩ ?_
 have hr0:=c;clear c q8
 rintro k R w ⟨y10,c,d,j,h5,h6,h7,f_u3,f_u6⟩
 rcases k with _ | k
 cases (show none=some _ from c)
 rw [zBU] at c
 refine zQ9 ?_
 refine zQ9 ?_
 obtain ⟨x11,q12,c⟩:=zAD c
 obtain ⟨e13,e14,e15,e16,c⟩:=ck4 c
 obtain ⟨e17,e18,c⟩:=ck2 c
 obtain ⟨x19,q20,c⟩:=zAD c
 refine zQ5 (by kernel_rfl) (l:=eI y10::eR u3::eI (x1.length:Int)::eB (decide (y10<(x1.length:Int)))::eB (decide (y10<(x1.length:Int)))::gI (true&&((decide (y10<(x1.length:Int)))==true)) y10::gR (true&&((decide (y10<(x1.length:Int)))==true)) u6::gI (true&&((decide (y10<(x1.length:Int)))==true)) (x4.length:Int)::gB (true&&((decide (y10<(x1.length:Int)))==true)) (decide (y10<(x4.length:Int)))::eB x11::eB x11::gR (true&&(x11==true)) u3::gR (true&&(x11==true)) u3::gI (true&&(x11==true)) (x1.length:Int)::gI (true&&(x11==true)) ((x1.length:Int)-1)::gI (true&&(x11==true)) y10::gI (true&&(x11==true)) (((x1.length:Int)-1)-y10)::gU (true&&(x11==true)) (bAt x1 (((x1.length:Int)-1)-y10))::gR (true&&(x11==true)) u6::gR (true&&(x11==true)) u6::gI (true&&(x11==true)) (x4.length:Int)::gI (true&&(x11==true)) ((x4.length:Int)-1)::gI (true&&(x11==true)) y10::gI (true&&(x11==true)) (((x4.length:Int)-1)-y10)::gU (true&&(x11==true)) (bAt x4 (((x4.length:Int)-1)-y10))::gB (true&&(x11==true)) ((bAt x1 (((x1.length:Int)-1)-y10))==(bAt x4 (((x4.length:Int)-1)-y10)))::eB x19::[]) (tl:=[]) (by kernel_rfl) (by kernel_rfl) (by kernel_rfl) (by kernel_rfl) ?_ ?_
 exact om h7<|om h5<|op (fun Q U W H D=>zAJ ((f_u3.fr W).eq (D.g 0 Z)) underlying9)<|op (fun Q U W H D=>zAu (D.g 0 Z) (D.g 1 Z))<|ov<|gm 4 true h7<|gm 4 true h6<|og 4 true (fun G Q U W H D=>zAJ ((f_u6.fr W).eq (D.h 0 G Z)) underlying9)<|og 4 true (fun G Q U W H D=>zAu (D.h 0 G Z) (D.h 1 G Z))<|op (fun Q U W H D=>zAF (decide (y10<(x1.length:Int))) (D.g 0 Z) (fun hc=>by have a1:Q 20 = .bool (decide (y10<(x4.length:Int))):=D 1 _ _ _ Z Z Z Z (zAc Z (zAP hc));show _=Value.bool x11;rw [q12,hc];exact a1) (fun hc=>by show _=Value.bool x11;rw [q12,hc];exact Z))<|ov<|gm 10 true h5<|gm 10 true h5<|og 10 true (fun G Q U W H D=>zAJ ((f_u3.fr W).eq (D.h 0 G Z)) underlying9)<|og 10 true (fun G Q U W H D=>zAb (D.h 0 G Z) Z (gd e13 G))<|gm 10 true h7<|og 10 true (fun G Q U W H D=>zAb (D.h 0 G Z) (D.h 1 G Z) (gd e14 G))<|og 10 true (fun G Q U W H D=>zAB ((f_u3.fr W).eq (D.h 0 G Z)) (D.h 1 G Z) underlying9 (gd e15 G))<|gm 10 true h6<|gm 10 true h6<|og 10 true (fun G Q U W H D=>zAJ ((f_u6.fr W).eq (D.h 0 G Z)) underlying9)<|og 10 true (fun G Q U W H D=>zAb (D.h 0 G Z) Z (gd e16 G))<|gm 10 true h7<|og 10 true (fun G Q U W H D=>zAb (D.h 0 G Z) (D.h 1 G Z) (gd e17 G))<|og 10 true (fun G Q U W H D=>zAB ((f_u6.fr W).eq (D.h 0 G Z)) (D.h 1 G Z) underlying9 (gd e18 G))<|og 10 true (fun G Q U W H D=>zAo (D.h 0 G Z) (D.h 1 G Z))<|op (fun Q U W H D=>zAF x11 (D.g 0 Z) (fun hc=>by have a1:Q 37 = .bool ((bAt x1 (((x1.length:Int)-1)-y10))==(bAt x4 (((x4.length:Int)-1)-y10))):=D 1 _ _ _ Z Z Z Z (zAc Z (zAP hc));show _=Value.bool x19;rw [q20,hc];exact a1) (fun hc=>by show _=Value.bool x19;rw [q20,hc];exact Z))<|oz
 intro R w m n p
 obtain ⟨h5,h6,h7⟩:=k3 n h5 h6 h7
 have h38:=p.r 26 Z
 replace f_u3:=f_u3.fr m
 replace f_u6:=f_u6.fr m
 replace d:=d.fr m.size
 replace j:=j.trans m
 refine zQ2 x19 h38 (fun c21=>?_) (fun c21=>?_)
 have c:=zAO c21 c
 refine zQA ?_
 refine HT.block ?_
 obtain ⟨e22,c⟩:=zA5 c
 refine HT.u d j (eI y10::eI (y10+1)::eI (y10+1)::[]) ?_ ?_
 exact om h7<|op (fun Q U W H D=>zAR (D.g 0 Z) Z e22)<|oa<|oz
 intro R w m n p d j
 obtain ⟨h5,h6⟩:=k2 n h5 h6
 have h7:=p.r 2 Z
 replace f_u3:=f_u3.fr m
 replace f_u6:=f_u6.fr m
 exact ei k (And.intro (Nat.lt_succ_self k) ⟨_,c,d,j,h5,h6,h7,f_u3,f_u6⟩)
 have c:=zAN c21 c
 refine zQ7 ?_
 obtain rfl:=si c
 exact ei _ ⟨Z,d,j,h5,h6,h7,f_u3,f_u6⟩
 rintro R w ⟨s9,es,d,j,h5,h6,h7,f_u3,f_u6⟩
 obtain rfl:=es.symm
 refine zQ9 ?_
 refine HT.block ?_
 refine zQ9 ?_
 obtain ⟨x23,q24,c⟩:=zAD c
 obtain ⟨x25,q26,c⟩:=zAD c
 refine HT.u d j (eR u3::eI (x1.length:Int)::eB (decide ((x1.length:Int)<4))::eB (decide ((x1.length:Int)<4))::gR (true&&((decide ((x1.length:Int)<4))==false)) u6::gI (true&&((decide ((x1.length:Int)<4))==false)) (x4.length:Int)::gB (true&&((decide ((x1.length:Int)<4))==false)) (decide ((x4.length:Int)<4))::eB x23::eB x23::gI (true&&(x23==false)) s9::gB (true&&(x23==false)) (decide (s9<4))::eB x25::eB x25::[]) ?_ ?_
 exact om h5<|op (fun Q U W H D=>zAJ ((f_u3.fr W).eq (D.g 0 Z)) underlying9)<|op (fun Q U W H D=>zAu (D.g 0 Z) Z)<|ov<|gm 3 false h6<|og 3 false (fun G Q U W H D=>zAJ ((f_u6.fr W).eq (D.h 0 G Z)) underlying9)<|og 3 false (fun G Q U W H D=>zAu (D.h 0 G Z) Z)<|op (fun Q U W H D=>zAF (decide ((x1.length:Int)<4)) (D.g 0 Z) (fun hc=>by show _=Value.bool x23;rw [q24,hc];exact Z) (fun hc=>by have a2:Q 48 = .bool (decide ((x4.length:Int)<4)):=D 1 _ _ _ Z Z Z Z (zAc Z (zAP hc));show _=Value.bool x23;rw [q24,hc];exact a2))<|ov<|gm 8 false h7<|og 8 false (fun G Q U W H D=>zAu (D.h 0 G Z) Z)<|op (fun Q U W H D=>zAF x23 (D.g 0 Z) (fun hc=>by show _=Value.bool x25;rw [q26,hc];exact Z) (fun hc=>by have a2:Q 52 = .bool (decide (s9<4)):=D 1 _ _ _ Z Z Z Z (zAc Z (zAP hc));show _=Value.bool x25;rw [q26,hc];exact a2))<|oa<|oz
 intro R w m n p d j
 obtain ⟨h5,h6,h7⟩:=k3 n h5 h6 h7
 have h41:=p.r 12 Z
 replace f_u3:=f_u3.fr m
 replace f_u6:=f_u6.fr m
 refine zQ2 x25 h41 (fun c27=>?_) (fun c27=>?_)
 have c:=zAO c27 c
 refine zQB d j (eI 0::[]) ?_ ?_
 exact op (fun Q U W H D=>zA2 Z)<|oz
 intro R w m n p d j
 have h4:=p.r 0 Z
 refine HT.ret ?_
 obtain rfl:=si c
 exact ⟨.inr Z,[R 4],⟨Z,N⟩,h4,j⟩
 have c:=zAN c27 c
 refine zQ9 ?_
 obtain ⟨x28,q29,c⟩:=zAD c
 refine HT.u d j (eI s9::eR u3::eI (x1.length:Int)::eB (s9==(x1.length:Int))::eB (s9==(x1.length:Int))::gI (true&&((s9==(x1.length:Int))==true)) s9::gR (true&&((s9==(x1.length:Int))==true)) u6::gI (true&&((s9==(x1.length:Int))==true)) (x4.length:Int)::gB (true&&((s9==(x1.length:Int))==true)) (s9==(x4.length:Int))::eB x28::eB x28::[]) ?_ ?_
 exact om h7<|om h5<|op (fun Q U W H D=>zAJ ((f_u3.fr W).eq (D.g 0 Z)) underlying9)<|op (fun Q U W H D=>zAo (D.g 0 Z) (D.g 1 Z))<|ov<|gm 4 true h7<|gm 4 true h6<|og 4 true (fun G Q U W H D=>zAJ ((f_u6.fr W).eq (D.h 0 G Z)) underlying9)<|og 4 true (fun G Q U W H D=>zAo (D.h 0 G Z) (D.h 1 G Z))<|op (fun Q U W H D=>zAF (s9==(x1.length:Int)) (D.g 0 Z) (fun hc=>by have a1:Q 63 = .bool (s9==(x4.length:Int)):=D 1 _ _ _ Z Z Z Z (zAc Z (zAP hc));show _=Value.bool x28;rw [q29,hc];exact a1) (fun hc=>by show _=Value.bool x28;rw [q29,hc];exact Z))<|oa<|oz
 intro R w m n p d j
 obtain ⟨h5,h6,h7⟩:=k3 n h5 h6 h7
 have h54:=p.r 10 Z
 replace f_u3:=f_u3.fr m
 replace f_u6:=f_u6.fr m
 refine zQ2 x28 h54 (fun c30=>?_) (fun c30=>?_)
 have c:=zAO c30 c
 refine zQB d j (eI 1000::[]) ?_ ?_
 exact op (fun Q U W H D=>zA2 Z)<|oz
 intro R w m n p d j
 have h4:=p.r 0 Z
 refine HT.ret ?_
 obtain rfl:=si c
 exact ⟨.inr Z,[R 4],⟨Z,N⟩,h4,j⟩
 have c:=zAN c30 c
 refine zQ9 ?_
 obtain ⟨x31,q32,c⟩:=zAD c
 obtain ⟨x33,q34,c⟩:=zAD c
 refine HT.u d j (eI s9::eB (decide (7≤s9))::eB (decide (7≤s9))::gI (true&&((decide (7≤s9))==false)) s9::gR (true&&((decide (7≤s9))==false)) u3::gI (true&&((decide (7≤s9))==false)) (x1.length:Int)::gB (true&&((decide (7≤s9))==false)) (s9==(x1.length:Int))::eB x31::eB x31::gI (true&&(x31==false)) s9::gR (true&&(x31==false)) u6::gI (true&&(x31==false)) (x4.length:Int)::gB (true&&(x31==false)) (s9==(x4.length:Int))::eB x33::eB x33::[]) ?_ ?_
 exact om h7<|op (fun Q U W H D=>zDs (D.g 0 Z) Z)<|ov<|gm 2 false h7<|gm 2 false h5<|og 2 false (fun G Q U W H D=>zAJ ((f_u3.fr W).eq (D.h 0 G Z)) underlying9)<|og 2 false (fun G Q U W H D=>zAo (D.h 0 G Z) (D.h 1 G Z))<|op (fun Q U W H D=>zAF (decide (7≤s9)) (D.g 0 Z) (fun hc=>by show _=Value.bool x31;rw [q32,hc];exact Z) (fun hc=>by have a2:Q 72 = .bool (s9==(x1.length:Int)):=D 1 _ _ _ Z Z Z Z (zAc Z (zAP hc));show _=Value.bool x31;rw [q32,hc];exact a2))<|ov<|gm 8 false h7<|gm 8 false h6<|og 8 false (fun G Q U W H D=>zAJ ((f_u6.fr W).eq (D.h 0 G Z)) underlying9)<|og 8 false (fun G Q U W H D=>zAo (D.h 0 G Z) (D.h 1 G Z))<|op (fun Q U W H D=>zAF x31 (D.g 0 Z) (fun hc=>by show _=Value.bool x33;rw [q34,hc];exact Z) (fun hc=>by have a2:Q 78 = .bool (s9==(x4.length:Int)):=D 1 _ _ _ Z Z Z Z (zAc Z (zAP hc));show _=Value.bool x33;rw [q34,hc];exact a2))<|oa<|oz
 intro R w m n p d j
 have h65:=p.r 14 Z
 refine zQ2 x33 h65 (fun c35=>?_) (fun c35=>?_)
 have c:=zAO c35 c
 refine zQB d j (eI 800::[]) ?_ ?_
 exact op (fun Q U W H D=>zA2 Z)<|oz
 intro R w m n p d j
 have h4:=p.r 0 Z
 refine HT.ret ?_
 obtain rfl:=si c
 exact ⟨.inr Z,[R 4],⟨Z,N⟩,h4,j⟩
 have c:=zAN c35 c
 refine zQA ?_
 refine zQB d j (eI 400::[]) ?_ ?_
 exact op (fun Q U W H D=>zA2 Z)<|oz
 intro R w m n p d j
 have h4:=p.r 0 Z
 refine HT.ret ?_
 obtain rfl:=si c
 exact ⟨.inr Z,[R 4],⟨Z,N⟩,h4,j⟩
def zBA (fu : Nat) : Nat → Int → (List UInt8) → Option (List UInt8)
 | 0,_,_=>none
 | k+1,y7,y8=>
 bif (y7 != 0) then (
 ck ((10:Int) != 0) <|
 bif (decide ((y7.tmod 10)<0)) then (
 ck (i64B (0-(y7.tmod 10))) <|
 ck (i64B (48+(0-(y7.tmod 10)))) <|
 ck (zC2 ((strB ([(IntKind.u8.wrap (48+(0-(y7.tmod 10))))]:List Int))++y8).length) <|
 ck ((10:Int) != 0) <|
 ck (i64B (y7.tdiv 10)) <|
 zBA fu k (y7.tdiv 10) ((strB ([(IntKind.u8.wrap (48+(0-(y7.tmod 10))))]:List Int))++y8)
 ) else (
 ck (i64B (48+(y7.tmod 10))) <|
 ck (zC2 ((strB ([(IntKind.u8.wrap (48+(y7.tmod 10)))]:List Int))++y8).length) <|
 ck ((10:Int) != 0) <|
 ck (i64B (y7.tdiv 10)) <|
 zBA fu k (y7.tdiv 10) ((strB ([(IntKind.u8.wrap (48+(y7.tmod 10)))]:List Int))++y8)
 )
 ) else (
 some y8
 )
def zCG (fu:Nat) (p0:Int):Option (List UInt8):=
 bif (p0==0) then (
 some ([48]:List UInt8)
 ) else (
 cl true (zBA fu fu p0 ([]:List UInt8)) fun s6=>
 bif (decide (p0<0)) then (
 ck (zC2 (([45]:List UInt8)++s6).length) <|
 some (([45]:List UInt8)++s6)
 ) else (
 some s6
 )
 )
theorem zF1 {fu : Nat} {A : Av} {p0 : Int} {r : List UInt8} (c : zCG fu p0 = some r) {w : World} {v0 : Value} (d : AvOK A w) (h0 : v0 = .int .i64 p0) :
 Calls prog 88 #[v0] w fun e w'=>∃ v,e = .returned v∧(Rep eStr A w' v r∧Fr w w'):=by
 unfold zCG at c
 obtain ⟨w0,hw0,j⟩:=pf w
 rw [fw hw0]
 refine zA3 [.tmp 2] func88 ntmps88 (by decide) Z Z (nb Z) ?_
 intro R hR
 replace h0:R 0 = .int .i64 p0:=(hR 0 _ Z).trans h0
 refine zQB d j (eF (.rep eStr A ([]:List UInt8))::[]) ?_ ?_
 exact op (fun Q U W H D=>zA2 ⟨_,Z,⟨_,Z,Z,by decide⟩⟩)<|oz
 intro R w m n p d j
 replace h0:=k1 n h0
 refine zQ9 ?_
 refine zQB d j (eI p0::eB (p0==0)::[]) ?_ ?_
 exact om h0<|op (fun Q U W H D=>zAo (D.g 0 Z) Z)<|oz
 intro R w m n p d j
 replace h0:=k1 n h0
 have h7:=p.r 1 Z
 refine zQ2 (p0==0) h7 (fun c1=>?_) (fun c1=>?_)
 have c:=zAO c1 c
 refine zQB d j (eF (.rep eStr A ([48]:List UInt8))::[]) ?_ ?_
 exact op (fun Q U W H D=>zA2 ⟨_,Z,⟨_,Z,Z,by decide⟩⟩)<|oz
 intro R w m n p d j
 obtain ⟨u2,h2,f_u2⟩:∃ u,R 2=u∧Rep eStr A w u ([48]:List UInt8):=⟨_,Z,p 0 _ _ Z Z Z⟩
 refine HT.ret ?_
 obtain rfl:=si c
 exact ⟨.inr Z,[R 2],⟨Z,N⟩,(f_u2.eq h2),j⟩
 have c:=zAN c1 c
 refine zQA ?_
 refine zQB d j (eF (.rep eStr A ([]:List UInt8))::[]) ?_ ?_
 exact op (fun Q U W H D=>zA2 ⟨_,Z,⟨_,Z,Z,by decide⟩⟩)<|oz
 intro R w m n p d j
 replace h0:=k1 n h0
 obtain ⟨u3,h3,f_u3⟩:∃ u,R 3=u∧Rep eStr A w u ([]:List UInt8):=⟨_,Z,p 0 _ _ Z Z Z⟩
 refine zQB d j (eI p0::eB (decide (p0<0))::eB (decide (p0<0))::[]) ?_ ?_
 exact om h0<|op (fun Q U W H D=>zAu (D.g 0 Z) Z)<|oa<|oz
 intro R w m n p d j
 obtain ⟨h0,h3⟩:=k2 n h0 h3
 have h4:=p.r 2 Z
 replace f_u3:=f_u3.fr m
 obtain ⟨rl4,q5,c⟩:=zA4 c
 replace q5:=q5 Z
 refine zQ3 (fun R w=>∃ (s6:(List UInt8)) (wo_3:Value),rl4=s6∧AvOK A w∧Fr w0 w∧R 3=wo_3∧R 4 = .bool (decide (p0<0))∧Rep eStr A w wo_3 s6) ?_ ?_
 refine HT.block ?_
 refine zQ8 (fun k R w=>∃ (y7:Int) (y8:List UInt8) (wl_3:Value),zBA fu k y7 y8=some rl4∧AvOK A w∧Fr w0 w∧R 0 = .int .i64 y7∧R 3=wl_3∧R 4 = .bool (decide (p0<0))∧Rep eStr A w wl_3 y8) fu ⟨_,_,u3,q5,d,j,h0,h3,h4,f_u3⟩ ?_
 have hr0:=c;clear c q5
 rintro k R w ⟨y7,y8,wl_3,c,d,j,h0,h3,h4,f_wl_3⟩
 rcases k with _ | k
 cases (show none=some _ from c)
 rw [zBA] at c
 refine zQ9 ?_
 refine zQB d j (eI y7::eB (y7 != 0)::[]) ?_ ?_
 exact om h0<|op (fun Q U W H D=>zFq (D.g 0 Z) Z)<|oz
 intro R w m n p d j
 obtain ⟨h0,h3,h4⟩:=k3 n h0 h3 h4
 have h11:=p.r 1 Z
 replace f_wl_3:=f_wl_3.fr m
 refine zQ2 (y7 != 0) h11 (fun c9=>?_) (fun c9=>?_)
 have c:=zAO c9 c
 refine zQA ?_
 refine HT.block ?_
 obtain ⟨e10,c⟩:=zA5 c
 refine zQB d j (eI y7::eI (y7.tmod 10)::eI (y7.tmod 10)::[]) ?_ ?_
 exact om h0<|op (fun Q U W H D=>zMY (D.g 0 Z) Z e10)<|oa<|oz
 intro R w m n p d j
 obtain ⟨h0,h3,h4⟩:=k3 n h0 h3 h4
 have h5:=p.r 2 Z
 replace f_wl_3:=f_wl_3.fr m
 refine zQ9 ?_
 refine zQB d j (eI (y7.tmod 10)::eB (decide ((y7.tmod 10)<0))::[]) ?_ ?_
 exact om h5<|op (fun Q U W H D=>zAu (D.g 0 Z) Z)<|oz
 intro R w m n p d j
 obtain ⟨h0,h3,h4,h5⟩:=k4 n h0 h3 h4 h5
 have h15:=p.r 1 Z
 replace f_wl_3:=f_wl_3.fr m
 refine zQ2 (decide ((y7.tmod 10)<0)) h15 (fun c11=>?_) (fun c11=>?_)
 have c:=zAO c11 c
 obtain ⟨e12,c⟩:=zA5 c
 refine HT.u d j (eI (y7.tmod 10)::eI (0-(y7.tmod 10))::eI (0-(y7.tmod 10))::[]) ?_ ?_
 exact om h5<|op (fun Q U W H D=>zOG (D.g 0 Z) e12)<|oa<|oz
 intro R w m n p d j
 obtain ⟨h0,h3,h4⟩:=k3 n h0 h3 h4
 have h5:=p.r 2 Z
 replace f_wl_3:=f_wl_3.fr m
 obtain ⟨e13,e14,c⟩:=ck2 c
 refine zQB d j (eI (0-(y7.tmod 10))::eI (48+(0-(y7.tmod 10)))::eU (IntKind.u8.wrap (48+(0-(y7.tmod 10))))::eF (.rep (eSl (eInt .u8)) A ([(IntKind.u8.wrap (48+(0-(y7.tmod 10))))]:List Int))::eF (.rep eStr A (strB ([(IntKind.u8.wrap (48+(0-(y7.tmod 10))))]:List Int)))::eR wl_3::eF (.rep eStr A ((strB ([(IntKind.u8.wrap (48+(0-(y7.tmod 10))))]:List Int))++y8))::eF (.rep eStr A ((strB ([(IntKind.u8.wrap (48+(0-(y7.tmod 10))))]:List Int))++y8))::[]) ?_ ?_
 exact om h5<|op (fun Q U W H D=>zAR Z (D.g 0 Z) e13)<|op (fun Q U W H D=>zDN (D.g 0 Z) underlying3 underlying5)<|op (fun Q U W H D=>zB6 [_] (E:=eInt .u8) ⟨(zAa.eq (D.g 0 Z)),N⟩ underlying22 sizeOf5 zeroValue5 Z Z Z (d.fr W.size))<|op (fun Q U W H D=>zBa (D.g 0 Z) underlying22 underlying5 underlying9)<|om h3<|op (fun Q U W H D=>zFy (D.g 0 Z) ((f_wl_3.fr W).eq (D.g 1 Z)) e14)<|op (fun Q U W H D=>zA2 (D.g 0 Z))<|oz
 intro R w m n p d j
 obtain ⟨h0,h4⟩:=k2 n h0 h4
 obtain ⟨u15,h3,f_u15⟩:∃ u,R 3=u∧Rep eStr A w u ((strB ([(IntKind.u8.wrap (48+(0-(y7.tmod 10))))]:List Int))++y8):=⟨_,Z,p 7 _ _ Z Z Z⟩
 obtain ⟨e16,e17,c⟩:=ck2 c
 refine HT.u d j (eI y7::eI (y7.tdiv 10)::eI (y7.tdiv 10)::[]) ?_ ?_
 exact om h0<|op (fun Q U W H D=>zHm (D.g 0 Z) Z e16 e17)<|oa<|oz
 intro R w m n p d j
 obtain ⟨h3,h4⟩:=k2 n h3 h4
 have h0:=p.r 2 Z
 replace f_u15:=f_u15.fr m
 exact ei k (And.intro (Nat.lt_succ_self k) ⟨_,_,u15,c,d,j,h0,h3,h4,f_u15⟩)
 have c:=zAN c11 c
 refine zQA ?_
 obtain ⟨e18,e19,c⟩:=ck2 c
 refine zQB d j (eI (y7.tmod 10)::eI (48+(y7.tmod 10))::eU (IntKind.u8.wrap (48+(y7.tmod 10)))::eF (.rep (eSl (eInt .u8)) A ([(IntKind.u8.wrap (48+(y7.tmod 10)))]:List Int))::eF (.rep eStr A (strB ([(IntKind.u8.wrap (48+(y7.tmod 10)))]:List Int)))::eR wl_3::eF (.rep eStr A ((strB ([(IntKind.u8.wrap (48+(y7.tmod 10)))]:List Int))++y8))::eF (.rep eStr A ((strB ([(IntKind.u8.wrap (48+(y7.tmod 10)))]:List Int))++y8))::[]) ?_ ?_
 exact om h5<|op (fun Q U W H D=>zAR Z (D.g 0 Z) e18)<|op (fun Q U W H D=>zDN (D.g 0 Z) underlying3 underlying5)<|op (fun Q U W H D=>zB6 [_] (E:=eInt .u8) ⟨(zAa.eq (D.g 0 Z)),N⟩ underlying22 sizeOf5 zeroValue5 Z Z Z (d.fr W.size))<|op (fun Q U W H D=>zBa (D.g 0 Z) underlying22 underlying5 underlying9)<|om h3<|op (fun Q U W H D=>zFy (D.g 0 Z) ((f_wl_3.fr W).eq (D.g 1 Z)) e19)<|op (fun Q U W H D=>zA2 (D.g 0 Z))<|oz
 intro R w m n p d j
 obtain ⟨h0,h4⟩:=k2 n h0 h4
 obtain ⟨u20,h3,f_u20⟩:∃ u,R 3=u∧Rep eStr A w u ((strB ([(IntKind.u8.wrap (48+(y7.tmod 10)))]:List Int))++y8):=⟨_,Z,p 7 _ _ Z Z Z⟩
 obtain ⟨e21,e22,c⟩:=ck2 c
 refine HT.u d j (eI y7::eI (y7.tdiv 10)::eI (y7.tdiv 10)::[]) ?_ ?_
 exact om h0<|op (fun Q U W H D=>zHm (D.g 0 Z) Z e21 e22)<|oa<|oz
 intro R w m n p d j
 obtain ⟨h3,h4⟩:=k2 n h3 h4
 have h0:=p.r 2 Z
 replace f_u20:=f_u20.fr m
 exact ei k (And.intro (Nat.lt_succ_self k) ⟨_,_,u20,c,d,j,h0,h3,h4,f_u20⟩)
 have c:=zAN c9 c
 refine zQ7 ?_
 obtain rfl:=si c
 exact ei _ ⟨wl_3,Z,d,j,h3,h4,f_wl_3⟩
 rintro R w ⟨s6,wo_3,es,d,j,h3,h4,f_wo_3⟩
 obtain rfl:=es.symm
 refine zQ9 ?_
 refine zQB d j (eB (decide (p0<0))::[]) ?_ ?_
 exact om h4<|oz
 intro R w m n p d j
 replace h3:=k1 n h3
 have h27:=p.r 0 Z
 replace f_wo_3:=f_wo_3.fr m
 refine zQ2 (decide (p0<0)) h27 (fun c23=>?_) (fun c23=>?_)
 have c:=zAO c23 c
 obtain ⟨e24,c⟩:=zA5 c
 refine zQB d j (eR wo_3::eF (.rep eStr A (([45]:List UInt8)++s6))::eF (.rep eStr A (([45]:List UInt8)++s6))::[]) ?_ ?_
 exact om h3<|op (fun Q U W H D=>zFy ⟨_,Z,⟨_,Z,Z,by decide⟩⟩ ((f_wo_3.fr W).eq (D.g 0 Z)) e24)<|op (fun Q U W H D=>zA2 (D.g 0 Z))<|oz
 intro R w m n p d j
 obtain ⟨u25,h2,f_u25⟩:∃ u,R 2=u∧Rep eStr A w u (([45]:List UInt8)++s6):=⟨_,Z,p 2 _ _ Z Z Z⟩
 refine HT.ret ?_
 obtain rfl:=si c
 exact ⟨.inr Z,[R 2],⟨Z,N⟩,(f_u25.eq h2),j⟩
 have c:=zAN c23 c
 refine zQA ?_
 refine zQB d j (eR wo_3::eR wo_3::[]) ?_ ?_
 exact om h3<|oa<|oz
 intro R w m n p d j
 have h2:=p.r 1 Z
 replace f_wo_3:=f_wo_3.fr m
 refine HT.ret ?_
 obtain rfl:=si c
 exact ⟨.inr Z,[R 2],⟨Z,N⟩,(f_wo_3.eq h2),j⟩
def zAq (fu : Nat) (p0 : List UInt8) : Nat → Int → Int → Int → Option (Int × Int)
 | 0,_,_,_=>none
 | k+1,y4,y5,y6=>
 bd ((decide (y6<(p0.length:Int)))&&(decide (y6<11))) fun x7=>
 bif x7 then (
 ck (inR y6 p0.length) <|
 ck (!(true&&((decide (48≤(bAt p0 y6)))==true)) || inR y6 p0.length) <|
 bd ((decide (48≤(bAt p0 y6)))&&(decide ((bAt p0 y6)≤57))) fun x12=>
 bif x12 then (
 ck (i64B (y4*10)) <|
 ck (inR y6 p0.length) <|
 ck (i64B ((y4*10)+(IntKind.i64.wrap (IntKind.u8.wrap ((bAt p0 y6)-48))))) <|
 ck (i64B (y5+1)) <|
 ck (i64B (y6+1)) <|
 zAq fu p0 k ((y4*10)+(IntKind.i64.wrap (IntKind.u8.wrap ((bAt p0 y6)-48)))) (y5+1) (y6+1)
 ) else (
 ck (i64B (y6+1)) <|
 zAq fu p0 k y4 y5 (y6+1)
 )
 ) else (
 some (y4,y5)
 )
def zDQ (fu:Nat) (p0:List UInt8):Option (Int × Bool):=
 cl true (zAq fu p0 fu 0 0 0) fun s3=>
 ck (!(true&&((decide (0<(p0.length:Int)))==true)) || inR 0 p0.length) <|
 bd ((decide (0<(p0.length:Int)))&&((bAt p0 0)==45)) fun x22=>
 bif x22 then (
 ck (i64B (0-s3.1)) <|
 bd ((decide (9<s3.2)) || (decide (10<(p0.length:Int)))) fun x26=>
 cl (true&&(x26==false)) (zCG fu (0-s3.1)) fun x28=>
 bd (x26 || (!(x28==p0))) fun x30=>
 bif x30 then (
 some (0,false)
 ) else (
 some ((0-s3.1),true)
 )
 ) else (
 bd ((decide (9<s3.2)) || (decide (10<(p0.length:Int)))) fun x33=>
 cl (true&&(x33==false)) (zCG fu s3.1) fun x35=>
 bd (x33 || (!(x35==p0))) fun x37=>
 bif x37 then (
 some (0,false)
 ) else (
 some (s3.1,true)
 )
 )
theorem zHD {fu : Nat} {A : Av} {p0 : List UInt8} {r : Int × Bool} (c : zDQ fu p0 = some r) {w : World} {v0 : Value} (d : AvOK A w) (h0 : Rep eStr A w v0 p0) :
 Calls prog 134 #[v0] w fun e w'=>∃ v,e = .returned v∧((∃ a b,v = .tuple #[a,b]∧a = .int .i64 r.1∧b = .bool r.2)∧Fr w w'):=by
 unfold zDQ at c
 obtain ⟨w0,hw0,j⟩:=pf w
 rw [fw hw0]
 refine zA3 [.tmp 2,.tmp 3] func134 ntmps134 (by decide) Z Z (nb Z) ?_
 intro R hR
 have f_v0:=h0
 replace h0:R 0=v0:=hR 0 _ Z
 refine zQB d j (eI 0::eB false::[]) ?_ ?_
 exact op (fun Q U W H D=>zA2 Z)<|op (fun Q U W H D=>zA2 Z)<|oz
 intro R w m n p d j
 replace h0:=k1 n h0
 replace f_v0:=f_v0.fr m
 refine zQB d j (eI 0::[]) ?_ ?_
 exact op (fun Q U W H D=>zA2 Z)<|oz
 intro R w m n p d j
 replace h0:=k1 n h0
 have h4:=p.r 0 Z
 replace f_v0:=f_v0.fr m
 refine zQB d j (eI 0::[]) ?_ ?_
 exact op (fun Q U W H D=>zA2 Z)<|oz
 intro R w m n p d j
 obtain ⟨h0,h4⟩:=k2 n h0 h4
 have h5:=p.r 0 Z
 replace f_v0:=f_v0.fr m
 refine zQ9 ?_
 refine zQB d j (eI 0::[]) ?_ ?_
 exact op (fun Q U W H D=>zA2 Z)<|oz
 intro R w m n p d j
 obtain ⟨h0,h4,h5⟩:=k3 n h0 h4 h5
 have h6:=p.r 0 Z
 replace f_v0:=f_v0.fr m
 obtain ⟨rl1,q2,c⟩:=zA4 c
 replace q2:=q2 Z
 refine zQ4 (fun R w=>∃ (s3:Int × Int),rl1=s3∧AvOK A w∧Fr w0 w∧R 0=v0∧R 4 = .int .i64 s3.1∧R 5 = .int .i64 s3.2∧Rep eStr A w v0 p0) ?_ ?_
 refine HT.block ?_
 refine zQ8 (fun k R w=>∃ (y4:Int) (y5:Int) (y6:Int),zAq fu p0 k y4 y5 y6=some rl1∧AvOK A w∧Fr w0 w∧R 0=v0∧R 4 = .int .i64 y4∧R 5 = .int .i64 y5∧R 6 = .int .i64 y6∧Rep eStr A w v0 p0) fu ⟨_,_,_,q2,d,j,h0,h4,h5,h6,f_v0⟩ ?_
 have hr0:=c;clear c q2
 rintro k R w ⟨y4,y5,y6,c,d,j,h0,h4,h5,h6,f_v0⟩
 rcases k with _ | k
 cases (show none=some _ from c)
 rw [zAq] at c
 refine zQ9 ?_
 refine zQ9 ?_
 obtain ⟨x7,q8,c⟩:=zAD c
 refine HT.u d j (eI y6::eR v0::eI (p0.length:Int)::eB (decide (y6<(p0.length:Int)))::eB (decide (y6<(p0.length:Int)))::gI (true&&((decide (y6<(p0.length:Int)))==true)) y6::gB (true&&((decide (y6<(p0.length:Int)))==true)) (decide (y6<11))::eB x7::[]) ?_ ?_
 exact om h6<|om h0<|op (fun Q U W H D=>zAJ ((f_v0.fr W).eq (D.g 0 Z)) underlying9)<|op (fun Q U W H D=>zAu (D.g 0 Z) (D.g 1 Z))<|ov<|gm 4 true h6<|og 4 true (fun G Q U W H D=>zAu (D.h 0 G Z) Z)<|op (fun Q U W H D=>zAF (decide (y6<(p0.length:Int))) (D.g 0 Z) (fun hc=>by have a1:Q 13 = .bool (decide (y6<11)):=D 1 _ _ _ Z Z Z Z (zAc Z (zAP hc));show _=Value.bool x7;rw [q8,hc];exact a1) (fun hc=>by show _=Value.bool x7;rw [q8,hc];exact Z))<|oz
 intro R w m n p d j
 obtain ⟨h0,h4,h5,h6⟩:=k4 n h0 h4 h5 h6
 have h14:=p.r 7 Z
 replace f_v0:=f_v0.fr m
 refine zQ2 x7 h14 (fun c9=>?_) (fun c9=>?_)
 have c:=zAO c9 c
 refine zQA ?_
 refine zQ9 ?_
 refine HT.block ?_
 refine zQ9 ?_
 obtain ⟨e10,e11,c⟩:=ck2 c
 obtain ⟨x12,q13,c⟩:=zAD c
 refine HT.u d j (eR v0::eI y6::eU (bAt p0 y6)::eB (decide (48≤(bAt p0 y6)))::eB (decide (48≤(bAt p0 y6)))::gR (true&&((decide (48≤(bAt p0 y6)))==true)) v0::gI (true&&((decide (48≤(bAt p0 y6)))==true)) y6::gU (true&&((decide (48≤(bAt p0 y6)))==true)) (bAt p0 y6)::gB (true&&((decide (48≤(bAt p0 y6)))==true)) (decide ((bAt p0 y6)≤57))::eB x12::[]) ?_ ?_
 exact om h0<|om h6<|op (fun Q U W H D=>zAB ((f_v0.fr W).eq (D.g 0 Z)) (D.g 1 Z) underlying9 e10)<|op (fun Q U W H D=>zDs (D.g 0 Z) Z)<|ov<|gm 4 true h0<|gm 4 true h6<|og 4 true (fun G Q U W H D=>zAB ((f_v0.fr W).eq (D.h 0 G Z)) (D.h 1 G Z) underlying9 (gd e11 G))<|og 4 true (fun G Q U W H D=>zDp (D.h 0 G Z) Z)<|op (fun Q U W H D=>zAF (decide (48≤(bAt p0 y6))) (D.g 0 Z) (fun hc=>by have a1:Q 25 = .bool (decide ((bAt p0 y6)≤57)):=D 1 _ _ _ Z Z Z Z (zAc Z (zAP hc));show _=Value.bool x12;rw [q13,hc];exact a1) (fun hc=>by show _=Value.bool x12;rw [q13,hc];exact Z))<|oz
 intro R w m n p d j
 obtain ⟨h0,h4,h5,h6⟩:=k4 n h0 h4 h5 h6
 have h26:=p.r 9 Z
 replace f_v0:=f_v0.fr m
 refine zQ2 x12 h26 (fun c14=>?_) (fun c14=>?_)
 have c:=zAO c14 c
 obtain ⟨e15,e16,e17,c⟩:=ck3 c
 refine zQB d j (eI y4::eI (y4*10)::eR v0::eI y6::eU (bAt p0 y6)::eU (IntKind.u8.wrap ((bAt p0 y6)-48))::eI (IntKind.i64.wrap (IntKind.u8.wrap ((bAt p0 y6)-48)))::eI ((y4*10)+(IntKind.i64.wrap (IntKind.u8.wrap ((bAt p0 y6)-48))))::eI ((y4*10)+(IntKind.i64.wrap (IntKind.u8.wrap ((bAt p0 y6)-48))))::[]) ?_ ?_
 exact om h4<|op (fun Q U W H D=>zGQ (D.g 0 Z) Z e15)<|om h0<|om h6<|op (fun Q U W H D=>zAB ((f_v0.fr W).eq (D.g 0 Z)) (D.g 1 Z) underlying9 e16)<|op (fun Q U W H D=>zJ1 (D.g 0 Z) Z)<|op (fun Q U W H D=>zDN (D.g 0 Z) underlying5 underlying3)<|op (fun Q U W H D=>zAR (D.g 0 Z) (D.g 1 Z) e17)<|oa<|oz
 intro R w m n p d j
 obtain ⟨h0,h5,h6⟩:=k3 n h0 h5 h6
 have h4:=p.r 8 Z
 replace f_v0:=f_v0.fr m
 obtain ⟨e18,c⟩:=zA5 c
 refine HT.u d j (eI y5::eI (y5+1)::eI (y5+1)::[]) ?_ ?_
 exact om h5<|op (fun Q U W H D=>zAR (D.g 0 Z) Z e18)<|oa<|oz
 intro R w m n p d j
 obtain ⟨h0,h4,h6⟩:=k3 n h0 h4 h6
 have h5:=p.r 2 Z
 replace f_v0:=f_v0.fr m
 obtain ⟨e19,c⟩:=zA5 c
 refine HT.u d j (eI y6::eI (y6+1)::eI (y6+1)::[]) ?_ ?_
 exact om h6<|op (fun Q U W H D=>zAR (D.g 0 Z) Z e19)<|oa<|oz
 intro R w m n p d j
 obtain ⟨h0,h4,h5⟩:=k3 n h0 h4 h5
 have h6:=p.r 2 Z
 replace f_v0:=f_v0.fr m
 exact ei k (And.intro (Nat.lt_succ_self k) ⟨_,_,_,c,d,j,h0,h4,h5,h6,f_v0⟩)
 have c:=zAN c14 c
 refine zQA ?_
 obtain ⟨e20,c⟩:=zA5 c
 refine HT.u d j (eI y6::eI (y6+1)::eI (y6+1)::[]) ?_ ?_
 exact om h6<|op (fun Q U W H D=>zAR (D.g 0 Z) Z e20)<|oa<|oz
 intro R w m n p d j
 obtain ⟨h0,h4,h5⟩:=k3 n h0 h4 h5
 have h6:=p.r 2 Z
 replace f_v0:=f_v0.fr m
 exact ei k (And.intro (Nat.lt_succ_self k) ⟨_,_,_,c,d,j,h0,h4,h5,h6,f_v0⟩)
 have c:=zAN c9 c
 refine zQ7 ?_
 obtain rfl:=si c
 exact ei _ ⟨Z,d,j,h0,h4,h5,f_v0⟩
 rintro R w ⟨s3,es,d,j,h0,h4,h5,f_v0⟩
 obtain rfl:=es.symm
 refine zQ9 ?_
 refine zQ9 ?_
 obtain ⟨e21,c⟩:=zA5 c
 obtain ⟨x22,q23,c⟩:=zAD c
 refine HT.u d j (eR v0::eI (p0.length:Int)::eB (decide (0<(p0.length:Int)))::eB (decide (0<(p0.length:Int)))::gR (true&&((decide (0<(p0.length:Int)))==true)) v0::gU (true&&((decide (0<(p0.length:Int)))==true)) (bAt p0 0)::gB (true&&((decide (0<(p0.length:Int)))==true)) ((bAt p0 0)==45)::eB x22::[]) ?_ ?_
 exact om h0<|op (fun Q U W H D=>zAJ ((f_v0.fr W).eq (D.g 0 Z)) underlying9)<|op (fun Q U W H D=>zCM (D.g 0 Z) Z)<|ov<|gm 3 true h0<|og 3 true (fun G Q U W H D=>zAB ((f_v0.fr W).eq (D.h 0 G Z)) Z underlying9 (gd e21 G))<|og 3 true (fun G Q U W H D=>zAo (D.h 0 G Z) Z)<|op (fun Q U W H D=>zAF (decide (0<(p0.length:Int))) (D.g 0 Z) (fun hc=>by have a1:Q 43 = .bool ((bAt p0 0)==45):=D 1 _ _ _ Z Z Z Z (zAc Z (zAP hc));show _=Value.bool x22;rw [q23,hc];exact a1) (fun hc=>by show _=Value.bool x22;rw [q23,hc];exact Z))<|oz
 intro R w m n p d j
 obtain ⟨h0,h4,h5⟩:=k3 n h0 h4 h5
 have h44:=p.r 7 Z
 replace f_v0:=f_v0.fr m
 refine zQ2 x22 h44 (fun c24=>?_) (fun c24=>?_)
 have c:=zAO c24 c
 obtain ⟨e25,c⟩:=zA5 c
 refine HT.u d j (eI s3.1::eI (0-s3.1)::eI (0-s3.1)::[]) ?_ ?_
 exact om h4<|op (fun Q U W H D=>zOG (D.g 0 Z) e25)<|oa<|oz
 intro R w m n p d j
 obtain ⟨h0,h5⟩:=k2 n h0 h5
 have h4:=p.r 2 Z
 replace f_v0:=f_v0.fr m
 refine zQ9 ?_
 refine zQ9 ?_
 obtain ⟨x26,q27,c⟩:=zAD c
 obtain ⟨x28,q29,c⟩:=zA4 c
 obtain ⟨x30,q31,c⟩:=zAD c
 refine HT.u d j (eI s3.2::eB (decide (9<s3.2))::eB (decide (9<s3.2))::gR (true&&((decide (9<s3.2))==false)) v0::gI (true&&((decide (9<s3.2))==false)) (p0.length:Int)::gB (true&&((decide (9<s3.2))==false)) (decide (10<(p0.length:Int)))::eB x26::eB x26::gI (true&&(x26==false)) (0-s3.1)::gF (true&&(x26==false)) (.rep eStr A x28)::gR (true&&(x26==false)) v0::gB (true&&(x26==false)) (!(x28==p0))::eB x30::[]) ?_ ?_
 exact om h5<|op (fun Q U W H D=>zCM (D.g 0 Z) Z)<|ov<|gm 2 false h0<|og 2 false (fun G Q U W H D=>zAJ ((f_v0.fr W).eq (D.h 0 G Z)) underlying9)<|og 2 false (fun G Q U W H D=>zCM (D.h 0 G Z) Z)<|op (fun Q U W H D=>zAF (decide (9<s3.2)) (D.g 0 Z) (fun hc=>by show _=Value.bool x26;rw [q27,hc];exact Z) (fun hc=>by have a2:Q 52 = .bool (decide (10<(p0.length:Int))):=D 1 _ _ _ Z Z Z Z (zAc Z (zAP hc));show _=Value.bool x26;rw [q27,hc];exact a2))<|ov<|gm 7 false h4<|og 7 false (fun G Q U W H D=>zA8 call88 (zF1 (q29 G) (d.fr W.size) (D.h 0 G Z)))<|gm 7 false h0<|og 7 false (fun G Q U W H D=>zFk (D.h 0 G Z) ((f_v0.fr W).eq (D.h 1 G Z)))<|op (fun Q U W H D=>zAF x26 (D.g 0 Z) (fun hc=>by show _=Value.bool x30;rw [q31,hc];exact Z) (fun hc=>by have a2:Q 58 = .bool (!(x28==p0)):=D 1 _ _ _ Z Z Z Z (zAc Z (zAP hc));show _=Value.bool x30;rw [q31,hc];exact a2))<|oz
 intro R w m n p d j
 replace h4:=k1 n h4
 have h59:=p.r 12 Z
 refine zQ2 x30 h59 (fun c32=>?_) (fun c32=>?_)
 have c:=zAO c32 c
 refine zQB d j (eI 0::eB false::[]) ?_ ?_
 exact op (fun Q U W H D=>zA2 Z)<|op (fun Q U W H D=>zA2 Z)<|oz
 intro R w m n p d j
 have h2:=p.r 0 Z
 have h3:=p.r 1 Z
 refine HT.ret ?_
 obtain rfl:=si c
 exact ⟨.inr Z,[R 2,R 3],⟨Z,⟨Z,N⟩⟩,⟨_,_,Z,h2,h3⟩,j⟩
 have c:=zAN c32 c
 refine zQA ?_
 refine zQB d j (eI (0-s3.1)::eI (0-s3.1)::eB true::[]) ?_ ?_
 exact om h4<|oa<|op (fun Q U W H D=>zA2 Z)<|oz
 intro R w m n p d j
 have h2:=p.r 1 Z
 have h3:=p.r 2 Z
 refine HT.ret ?_
 obtain rfl:=si c
 exact ⟨.inr Z,[R 2,R 3],⟨Z,⟨Z,N⟩⟩,⟨_,_,Z,h2,h3⟩,j⟩
 have c:=zAN c24 c
 refine zQA ?_
 refine zQ9 ?_
 refine zQ9 ?_
 obtain ⟨x33,q34,c⟩:=zAD c
 obtain ⟨x35,q36,c⟩:=zA4 c
 obtain ⟨x37,q38,c⟩:=zAD c
 refine HT.u d j (eI s3.2::eB (decide (9<s3.2))::eB (decide (9<s3.2))::gR (true&&((decide (9<s3.2))==false)) v0::gI (true&&((decide (9<s3.2))==false)) (p0.length:Int)::gB (true&&((decide (9<s3.2))==false)) (decide (10<(p0.length:Int)))::eB x33::eB x33::gI (true&&(x33==false)) s3.1::gF (true&&(x33==false)) (.rep eStr A x35)::gR (true&&(x33==false)) v0::gB (true&&(x33==false)) (!(x35==p0))::eB x37::[]) ?_ ?_
 exact om h5<|op (fun Q U W H D=>zCM (D.g 0 Z) Z)<|ov<|gm 2 false h0<|og 2 false (fun G Q U W H D=>zAJ ((f_v0.fr W).eq (D.h 0 G Z)) underlying9)<|og 2 false (fun G Q U W H D=>zCM (D.h 0 G Z) Z)<|op (fun Q U W H D=>zAF (decide (9<s3.2)) (D.g 0 Z) (fun hc=>by show _=Value.bool x33;rw [q34,hc];exact Z) (fun hc=>by have a2:Q 52 = .bool (decide (10<(p0.length:Int))):=D 1 _ _ _ Z Z Z Z (zAc Z (zAP hc));show _=Value.bool x33;rw [q34,hc];exact a2))<|ov<|gm 7 false h4<|og 7 false (fun G Q U W H D=>zA8 call88 (zF1 (q36 G) (d.fr W.size) (D.h 0 G Z)))<|gm 7 false h0<|og 7 false (fun G Q U W H D=>zFk (D.h 0 G Z) ((f_v0.fr W).eq (D.h 1 G Z)))<|op (fun Q U W H D=>zAF x33 (D.g 0 Z) (fun hc=>by show _=Value.bool x37;rw [q38,hc];exact Z) (fun hc=>by have a2:Q 58 = .bool (!(x35==p0)):=D 1 _ _ _ Z Z Z Z (zAc Z (zAP hc));show _=Value.bool x37;rw [q38,hc];exact a2))<|oz
 intro R w m n p d j
 replace h4:=k1 n h4
 have h59:=p.r 12 Z
 refine zQ2 x37 h59 (fun c39=>?_) (fun c39=>?_)
 have c:=zAO c39 c
 refine zQB d j (eI 0::eB false::[]) ?_ ?_
 exact op (fun Q U W H D=>zA2 Z)<|op (fun Q U W H D=>zA2 Z)<|oz
 intro R w m n p d j
 have h2:=p.r 0 Z
 have h3:=p.r 1 Z
 refine HT.ret ?_
 obtain rfl:=si c
 exact ⟨.inr Z,[R 2,R 3],⟨Z,⟨Z,N⟩⟩,⟨_,_,Z,h2,h3⟩,j⟩
 have c:=zAN c39 c
 refine zQA ?_
 refine zQB d j (eI s3.1::eI s3.1::eB true::[]) ?_ ?_
 exact om h4<|oa<|op (fun Q U W H D=>zA2 Z)<|oz
 intro R w m n p d j
 have h2:=p.r 1 Z
 have h3:=p.r 2 Z
 refine HT.ret ?_
 obtain rfl:=si c
 exact ⟨.inr Z,[R 2,R 3],⟨Z,⟨Z,N⟩⟩,⟨_,_,Z,h2,h3⟩,j⟩
def zBm (fu:Nat) (p0:List UInt8):Option Int:=
 cl true (zDQ fu p0) fun x1=>
 cl (true&&((!x1.2)==false)) (zD4 fu x1.1 1000 9999) fun x3=>
 bd ((!x1.2) || (!x3)) fun x5=>
 bif x5 then (
 some 0
 ) else (
 some x1.1
 )
theorem zE3 {fu : Nat} {A : Av} {p0 : List UInt8} {r : Int} (c : zBm fu p0 = some r) {w : World} {v0 : Value} (d : AvOK A w) (h0 : Rep eStr A w v0 p0) :
 Calls prog 61 #[v0] w fun e w'=>∃ v,e = .returned v∧(v = .int .i64 r∧Fr w w'):=by
 unfold zBm at c
 obtain ⟨w0,hw0,j⟩:=pf w
 rw [fw hw0]
 refine zA3 [.tmp 2] func61 ntmps61 (by decide) Z Z (nb Z) ?_
 intro R hR
 have f_v0:=h0
 replace h0:R 0=v0:=hR 0 _ Z
 refine zQB d j (eI 0::[]) ?_ ?_
 exact op (fun Q U W H D=>zA2 Z)<|oz
 intro R w m n p d j
 replace h0:=k1 n h0
 replace f_v0:=f_v0.fr m
 obtain ⟨x1,q2,c⟩:=zA4 c
 refine zQB d j (eR v0::eF (.tup2 (.raw (.int .i64 x1.1)) (.raw (.bool x1.2)))::eF (.tup2 (.raw (.int .i64 x1.1)) (.raw (.bool x1.2)))::eI x1.1::eB x1.2::eI x1.1::eB x1.2::[]) ?_ ?_
 exact om h0<|op (fun Q U W H D=>zA8 call134 (zHD (q2 Z) (d.fr W.size) ((f_v0.fr W).eq (D.g 0 Z))))<|op (fun Q U W H D=>zBk (D.g 0 Z))<|op (fun Q U W H D=>zEG (D.g 0 Z))<|op (fun Q U W H D=>zEF (D.g 0 Z))<|oa<|oa<|oz
 intro R w m n p d j
 have h3:=p.r 5 Z
 have h4:=p.r 6 Z
 refine zQ9 ?_
 refine zQ9 ?_
 obtain ⟨x3,q4,c⟩:=zA4 c
 obtain ⟨x5,q6,c⟩:=zAD c
 refine HT.u d j (eB x1.2::eB (!x1.2)::eB (!x1.2)::gI (true&&((!x1.2)==false)) x1.1::gB (true&&((!x1.2)==false)) x3::gB (true&&((!x1.2)==false)) (!x3)::eB x5::[]) ?_ ?_
 exact om h4<|op (fun Q U W H D=>zBq (D.g 0 Z))<|ov<|gm 2 false h3<|og 2 false (fun G Q U W H D=>zA8 call99 (zDG (q4 G) (d.fr W.size) (D.h 0 G Z) Z Z))<|og 2 false (fun G Q U W H D=>zBq (D.h 0 G Z))<|op (fun Q U W H D=>zAF (!x1.2) (D.g 0 Z) (fun hc=>by show _=Value.bool x5;rw [q6,hc];exact Z) (fun hc=>by have a2:Q 15 = .bool (!x3):=D 1 _ _ _ Z Z Z Z (zAc Z (zAP hc));show _=Value.bool x5;rw [q6,hc];exact a2))<|oz
 intro R w m n p d j
 replace h3:=k1 n h3
 have h16:=p.r 6 Z
 refine zQ2 x5 h16 (fun c7=>?_) (fun c7=>?_)
 have c:=zAO c7 c
 refine zQB d j (eI 0::[]) ?_ ?_
 exact op (fun Q U W H D=>zA2 Z)<|oz
 intro R w m n p d j
 have h2:=p.r 0 Z
 refine HT.ret ?_
 obtain rfl:=si c
 exact ⟨.inr Z,[R 2],⟨Z,N⟩,h2,j⟩
 have c:=zAN c7 c
 refine zQA ?_
 refine zQB d j (eI x1.1::eI x1.1::[]) ?_ ?_
 exact om h3<|oa<|oz
 intro R w m n p d j
 have h2:=p.r 1 Z
 refine HT.ret ?_
 obtain rfl:=si c
 exact ⟨.inr Z,[R 2],⟨Z,N⟩,h2,j⟩
def zEi (fu:Nat) (p0:Int):Option Bool:=
 cl true (zD4 fu p0 0 9999) fun x1=>
 some x1
theorem zGK {fu : Nat} {A : Av} {p0 : Int} {r : Bool} (c : zEi fu p0 = some r) {w : World} {v0 : Value} (d : AvOK A w) (h0 : v0 = .int .i64 p0) :
 Calls prog 186 #[v0] w fun e w'=>∃ v,e = .returned v∧(v = .bool r∧Fr w w'):=by
 unfold zEi at c
 obtain ⟨w0,hw0,j⟩:=pf w
 rw [fw hw0]
 refine zA3 [.tmp 2] func186 ntmps186 (by decide) Z Z (nb Z) ?_
 intro R hR
 replace h0:R 0 = .int .i64 p0:=(hR 0 _ Z).trans h0
 refine zQB d j (eB false::[]) ?_ ?_
 exact op (fun Q U W H D=>zA2 Z)<|oz
 intro R w m n p d j
 replace h0:=k1 n h0
 obtain ⟨x1,q2,c⟩:=zA4 c
 refine zQB d j (eI p0::eB x1::eB x1::[]) ?_ ?_
 exact om h0<|op (fun Q U W H D=>zA8 call99 (zDG (q2 Z) (d.fr W.size) (D.g 0 Z) Z Z))<|oa<|oz
 intro R w m n p d j
 have h2:=p.r 2 Z
 refine HT.ret ?_
 obtain rfl:=si c
 exact ⟨.inr Z,[R 2],⟨Z,N⟩,h2,j⟩
def zCk (fu:Nat) (p0:Int) (p1:Int) (p2:Int):Option Int:=
 cl true (zEi fu p0) fun x1=>
 cl (true&&((!x1)==false)) (zEi fu p1) fun x3=>
 bd ((!x1) || (!x3)) fun x5=>
 cl (true&&(x5==false)) (zD4 fu p2 1 9999) fun x7=>
 bd (x5 || (!x7)) fun x9=>
 bif x9 then (
 some 0
 ) else (
 ck (i64B ((max p0 p1)-(min p0 p1))) <|
 bif (decide (p2≤((max p0 p1)-(min p0 p1)))) then (
 some 0
 ) else (
 ck (i64B (p2-((max p0 p1)-(min p0 p1)))) <|
 ck (i64B (1000*(p2-((max p0 p1)-(min p0 p1))))) <|
 ck (p2 != 0) <|
 ck (i64B ((1000*(p2-((max p0 p1)-(min p0 p1)))).tdiv p2)) <|
 some ((1000*(p2-((max p0 p1)-(min p0 p1)))).tdiv p2)
 )
 )
theorem zGC {fu : Nat} {A : Av} {p0 : Int} {p1 : Int} {p2 : Int} {r : Int} (c : zCk fu p0 p1 p2 = some r) {w : World} {v0 : Value} {v1 : Value} {v2 : Value} (d : AvOK A w) (h0 : v0 = .int .i64 p0) (h1 : v1 = .int .i64 p1) (h2 : v2 = .int .i64 p2) :
 Calls prog 129 #[v0,v1,v2] w fun e w'=>∃ v,e = .returned v∧(v = .int .i64 r∧Fr w w'):=by
 unfold zCk at c
 obtain ⟨w0,hw0,j⟩:=pf w
 rw [fw hw0]
 refine zA3 [.tmp 6] func129 ntmps129 (by decide) Z Z (nb Z) ?_
 intro R hR
 replace h0:R 0 = .int .i64 p0:=(hR 0 _ Z).trans h0
 replace h1:R 1 = .int .i64 p1:=(hR 1 _ Z).trans h1
 replace h2:R 2 = .int .i64 p2:=(hR 2 _ Z).trans h2
 refine zQB d j (eI 0::[]) ?_ ?_
 exact op (fun Q U W H D=>zA2 Z)<|oz
 intro R w m n p d j
 obtain ⟨h0,h1,h2⟩:=k3 n h0 h1 h2
 refine zQ9 ?_
 refine zQ9 ?_
 obtain ⟨x1,q2,c⟩:=zA4 c
 obtain ⟨x3,q4,c⟩:=zA4 c
 obtain ⟨x5,q6,c⟩:=zAD c
 obtain ⟨x7,q8,c⟩:=zA4 c
 obtain ⟨x9,q10,c⟩:=zAD c
 refine HT.u d j (eI p0::eB x1::eB (!x1)::eB (!x1)::gI (true&&((!x1)==false)) p1::gB (true&&((!x1)==false)) x3::gB (true&&((!x1)==false)) (!x3)::eB x5::eB x5::gI (true&&(x5==false)) p2::gB (true&&(x5==false)) x7::gB (true&&(x5==false)) (!x7)::eB x9::[]) ?_ ?_
 exact om h0<|op (fun Q U W H D=>zA8 call186 (zGK (q2 Z) (d.fr W.size) (D.g 0 Z)))<|op (fun Q U W H D=>zBq (D.g 0 Z))<|ov<|gm 3 false h1<|og 3 false (fun G Q U W H D=>zA8 call186 (zGK (q4 G) (d.fr W.size) (D.h 0 G Z)))<|og 3 false (fun G Q U W H D=>zBq (D.h 0 G Z))<|op (fun Q U W H D=>zAF (!x1) (D.g 0 Z) (fun hc=>by show _=Value.bool x5;rw [q6,hc];exact Z) (fun hc=>by have a2:Q 14 = .bool (!x3):=D 1 _ _ _ Z Z Z Z (zAc Z (zAP hc));show _=Value.bool x5;rw [q6,hc];exact a2))<|ov<|gm 8 false h2<|og 8 false (fun G Q U W H D=>zA8 call99 (zDG (q8 G) (d.fr W.size) (D.h 0 G Z) Z Z))<|og 8 false (fun G Q U W H D=>zBq (D.h 0 G Z))<|op (fun Q U W H D=>zAF x5 (D.g 0 Z) (fun hc=>by show _=Value.bool x9;rw [q10,hc];exact Z) (fun hc=>by have a2:Q 19 = .bool (!x7):=D 1 _ _ _ Z Z Z Z (zAc Z (zAP hc));show _=Value.bool x9;rw [q10,hc];exact a2))<|oz
 intro R w m n p d j
 obtain ⟨h0,h1,h2⟩:=k3 n h0 h1 h2
 have h20:=p.r 12 Z
 refine zQ2 x9 h20 (fun c11=>?_) (fun c11=>?_)
 have c:=zAO c11 c
 refine zQB d j (eI 0::[]) ?_ ?_
 exact op (fun Q U W H D=>zA2 Z)<|oz
 intro R w m n p d j
 have h6:=p.r 0 Z
 refine HT.ret ?_
 obtain rfl:=si c
 exact ⟨.inr Z,[R 6],⟨Z,N⟩,h6,j⟩
 have c:=zAN c11 c
 refine zQA ?_
 obtain ⟨e12,c⟩:=zA5 c
 refine zQB d j (eI p0::eI p1::eI (max p0 p1)::eI p0::eI p1::eI (min p0 p1)::eI ((max p0 p1)-(min p0 p1))::eI ((max p0 p1)-(min p0 p1))::[]) ?_ ?_
 exact om h0<|om h1<|op (fun Q U W H D=>zIg (D.g 0 Z) (D.g 1 Z))<|om h0<|om h1<|op (fun Q U W H D=>zGy (D.g 0 Z) (D.g 1 Z))<|op (fun Q U W H D=>zAb (D.g 0 Z) (D.g 1 Z) e12)<|oa<|oz
 intro R w m n p d j
 replace h2:=k1 n h2
 have h7:=p.r 7 Z
 refine zQ9 ?_
 refine zQB d j (eI ((max p0 p1)-(min p0 p1))::eI p2::eB (decide (p2≤((max p0 p1)-(min p0 p1))))::[]) ?_ ?_
 exact om h7<|om h2<|op (fun Q U W H D=>zDs (D.g 0 Z) (D.g 1 Z))<|oz
 intro R w m n p d j
 obtain ⟨h2,h7⟩:=k2 n h2 h7
 have h30:=p.r 2 Z
 refine zQ2 (decide (p2≤((max p0 p1)-(min p0 p1)))) h30 (fun c13=>?_) (fun c13=>?_)
 have c:=zAO c13 c
 refine zQB d j (eI 0::[]) ?_ ?_
 exact op (fun Q U W H D=>zA2 Z)<|oz
 intro R w m n p d j
 have h6:=p.r 0 Z
 refine HT.ret ?_
 obtain rfl:=si c
 exact ⟨.inr Z,[R 6],⟨Z,N⟩,h6,j⟩
 have c:=zAN c13 c
 refine zQA ?_
 obtain ⟨e14,e15,e16,e17,c⟩:=ck4 c
 refine zQB d j (eI p2::eI ((max p0 p1)-(min p0 p1))::eI (p2-((max p0 p1)-(min p0 p1)))::eI (1000*(p2-((max p0 p1)-(min p0 p1))))::eI p2::eI ((1000*(p2-((max p0 p1)-(min p0 p1)))).tdiv p2)::eI ((1000*(p2-((max p0 p1)-(min p0 p1)))).tdiv p2)::[]) ?_ ?_
 exact om h2<|om h7<|op (fun Q U W H D=>zAb (D.g 0 Z) (D.g 1 Z) e14)<|op (fun Q U W H D=>zGQ Z (D.g 0 Z) e15)<|om h2<|op (fun Q U W H D=>zHm (D.g 0 Z) (D.g 1 Z) e16 e17)<|oa<|oz
 intro R w m n p d j
 have h6:=p.r 6 Z
 refine HT.ret ?_
 obtain rfl:=si c
 exact ⟨.inr Z,[R 6],⟨Z,N⟩,h6,j⟩
def zBM (fu:Nat) (p0:zAI) (p1:zAI):Option (List Int):=
 cl true (zBI fu p0) fun x3=>
 cl (true&&((!x3)==false)) (zBI fu p1) fun x5=>
 bd ((!x3) || (!x5)) fun x7=>
 bif x7 then (
 some ([]:List Int)
 ) else (
 ck (inR 0 p0.2.2.2.length) <|
 ck (inR 0 p1.2.2.2.length) <|
 cl true (zDX fu (gtD p0.2.2.2 0) (gtD p1.2.2.2 0)) fun x17=>
 ck (inR 0 p0.2.2.2.length) <|
 cl true (zCo fu (gtD p0.2.2.2 0)) fun x20=>
 ck (inR 0 p1.2.2.2.length) <|
 cl true (zCo fu (gtD p1.2.2.2 0)) fun x23=>
 cl true (zDZ fu x20 x23) fun x25=>
 ck (inR 0 p0.2.2.2.length) <|
 cl true (zCD fu (gtD p0.2.2.2 0)) fun x28=>
 ck (inR 0 p1.2.2.2.length) <|
 cl true (zCD fu (gtD p1.2.2.2 0)) fun x31=>
 cl true (zDZ fu x28 x31) fun x33=>
 ck (inR 1 p0.2.2.2.length) <|
 ck (inR 1 p1.2.2.2.length) <|
 cl true (zDX fu (gtD p0.2.2.2 1) (gtD p1.2.2.2 1)) fun x37=>
 ck (inR 3 p0.2.2.2.length) <|
 ck (inR 3 p1.2.2.2.length) <|
 cl true (zD1 fu (gtD p0.2.2.2 3) (gtD p1.2.2.2 3)) fun x41=>
 ck (inR 2 p0.2.2.2.length) <|
 cl true (zBm fu (gtD p0.2.2.2 2)) fun x45=>
 ck (inR 2 p1.2.2.2.length) <|
 cl true (zBm fu (gtD p1.2.2.2 2)) fun x48=>
 bd ((decide (0<x45))&&(decide (0<x48))) fun x50=>
 bif x50 then (
 cl true (zCk fu x45 x48 10) fun x53=>
 ck (inR 4 ([x17,x25,x33,x37,0,x41]:List Int).length) <|
 some (([x17,x25,x33,x37,0,x41]:List Int).set (4:Int).toNat x53)
 ) else (
 some ([x17,x25,x33,x37,0,x41]:List Int)
 )
 )
theorem zG3 {fu : Nat} {A0 : Av} {p0 : zAI} {p1 : zAI} {r : List Int} (c : zBM fu p0 p1 = some r) {w : World} {v0 : Value} {v1 : Value} (d : AvOK A0 w) (h0 : Rep zA0 A0 w v0 p0) (h1 : Rep zA0 A0 w v1 p1) :
 Calls prog 58 #[v0,v1] w fun e w'=>∃ v,e = .returned v∧((Res.vec w.heap.size 3 (eInt .i64) r).ok (addA A0 v) v w'∧Fr w w'):=by
 unfold zBM at c
 obtain ⟨w0,hw0,j,C⟩:=pw d
 have hA00:AvOK A0 w0:=C
 rw [fh hw0]
 rw [fw hw0]
 obtain ⟨A,hAe,B,d,q⟩:=pa d
 refine zA3 [.tmp 4] func58 ntmps58 (by decide) Z Z (nb Z) ?_
 intro R hR
 have f_v0:Rep zA0 A w v0 p0:=hAe ▸ h0
 replace h0:R 0=v0:=hR 0 _ Z
 have f_v1:Rep zA0 A w v1 p1:=hAe ▸ h1
 replace h1:R 1=v1:=hR 1 _ Z
 refine zQC [] (⟨_,true,[],some (.box w0.heap.size 51 zA0 p0),true,fun A=>.any⟩::⟨_,true,[],some (.box w0.heap.size 51 zA0 p1),true,fun A=>.any⟩::rA::[]) (ua (ua (ua (UAll.nil)))) q d ?_ ?_
 exact rc (OblR.made _ Z Z Z Z fun V Q U O D=>by have a0:Q 0=v0:=(O.old 0 Z).trans h0;have ra0:=(f_v0.stp O.stp).eq a0;exact zEa ra0 (Nat.le_trans j.size O.ch.size))<|rc (OblR.made _ Z Z Z Z fun V Q U O D=>by have a0:Q 1=v1:=(O.old 1 Z).trans h1;have ra0:=(f_v1.stp O.stp).eq a0;exact zEa ra0 (Nat.le_trans j.size O.ch.size))<|rp (fun V Q U O D=>zA2 N)<|rz
 intro done ρ σ A R w y s
 obtain ⟨b2_0,e_b2_0⟩:=s.boxv y 0 Z Z
 have h2:=s.ov y 0 0 e_b2_0
 obtain ⟨b3_1,e_b3_1⟩:=s.boxv y 1 Z Z
 have h3:=s.ov y 1 1 e_b3_1
 obtain ⟨B,j,d⟩:=s.s B C j q N
 replace q:=s.left y [(0,ob (.pointer (some ⟨b2_0,0,none⟩)) (.box w0.heap.size 51 zA0 p0)),(1,ob (.pointer (some ⟨b3_1,0,none⟩)) (.box w0.heap.size 51 zA0 p1))] ⟨Z,Z,e_b2_0,Z,Z,⟨Z,Z,e_b3_1,Z,Z,N⟩⟩
 refine zQ9 ?_
 refine zQ9 ?_
 obtain ⟨x3,q4,c⟩:=zA4 c
 obtain ⟨x5,q6,c⟩:=zA4 c
 obtain ⟨x7,q8,c⟩:=zAD c
 refine HT.u d j (eF (.rep zA0 A p0)::eB x3::eB (!x3)::eB (!x3)::gF (true&&((!x3)==false)) (.rep zA0 A p1)::gB (true&&((!x3)==false)) x5::gB (true&&((!x3)==false)) (!x5)::eB x7::[]) ?_ ?_
 exact op (fun Q U W H D=>(zAC ((q.fr W).ok 0 _ Z).1 ((H 2 Z).trans h2) (Fld.id _) Z isAgg51 sizeOf51))<|op (fun Q U W H D=>zA8 call59 (zCN (q4 Z) (d.fr W.size) (D.g 0 Z)))<|op (fun Q U W H D=>zBq (D.g 0 Z))<|ov<|og 3 false (fun G Q U W H D=>(zAC ((q.fr W).ok 1 _ Z).1 ((H 3 Z).trans h3) (Fld.id _) Z isAgg51 sizeOf51))<|og 3 false (fun G Q U W H D=>zA8 call59 (zCN (q6 G) (d.fr W.size) (D.h 0 G Z)))<|og 3 false (fun G Q U W H D=>zBq (D.h 0 G Z))<|op (fun Q U W H D=>zAF (!x3) (D.g 0 Z) (fun hc=>by show _=Value.bool x7;rw [q8,hc];exact Z) (fun hc=>by have a2:Q 17 = .bool (!x5):=D 1 _ _ _ Z Z Z Z (zAc Z (zAP hc));show _=Value.bool x7;rw [q8,hc];exact a2))<|oz
 intro R w m n p d j
 obtain ⟨h2,h3⟩:=k2 n h2 h3
 have h18:=p.r 7 Z
 replace q:=q.fr m
 refine zQ2 x7 h18 (fun c9=>?_) (fun c9=>?_)
 have c:=zAO c9 c
 refine zQC [ob (.pointer (some ⟨b2_0,0,none⟩)) (.box w0.heap.size 51 zA0 p0),ob (.pointer (some ⟨b3_1,0,none⟩)) (.box w0.heap.size 51 zA0 p1)] (⟨_,true,[],some (.vec w0.heap.size 3 (eInt .i64) ([]:List Int)),true,fun A=>.any⟩::⟨_,true,[2],some (.vec w0.heap.size 3 (eInt .i64) ([]:List Int)),true,fun A=>.any⟩::[]) (ua (ua (UAll.nil))) q d ?_ ?_
 exact rc (OblR.made _ Z Z Z Z fun V Q U O D=>by exact zBW [] (E:=eInt .i64) N underlying27 sizeOf3 zeroValue3 Z Z Z (Nat.le_trans j.size O.ch.size))<|rc (OblR.took 2 _ _ Z Z Z Z Z fun V Q U O D u X Y J L M=>by exact zAK (L _ _ Z Z Z Z).symm X Y)<|rz
 intro done ρ σ A R w y s
 have z10:=s.inivR 0 Z
 have z11:=s.inivR 1 Z
 obtain ⟨u12,e_u12⟩:∃ u,ρ 3=u:=⟨_,Z⟩
 have h4:=s.ov y 3 1 e_u12
 obtain ⟨B,j,d⟩:=s.s B C j q ⟨Z,⟨Z,N⟩⟩
 replace q:=s.left y [(3,ob u12 (.vec w0.heap.size 3 (eInt .i64) ([]:List Int)))] ⟨Z,Z,e_u12,Z,Z,N⟩
 refine HT.ret ?_
 obtain rfl:=si c
 exact ⟨.inr Z,[R 4],⟨Z,N⟩,(zCj (q.ok 0 _ Z) B h4),j⟩
 have c:=zAN c9 c
 refine zQA ?_
 refine zQB d j (eR (.pointer (some ⟨b2_0,3,none⟩))::eF (.rep (eSl eStr) A p0.2.2.2)::eF (.rep (eSl eStr) A p0.2.2.2)::[]) ?_ ?_
 exact op (fun Q U W H D=>zAA ((H 2 Z).trans h2) zBs sizeOf46 (by decide) Z)<|op (fun Q U W H D=>(zAC ((q.fr W).ok 0 _ Z).1 (D.g 0 Z) zAS Z isAgg46 sizeOf46))<|op (fun Q U W H D=>zA2 (D.g 0 Z))<|oz
 intro R w m n p d j
 replace h3:=k1 n h3
 obtain ⟨u13,h5,f_u13⟩:∃ u,R 5=u∧Rep (eSl eStr) A w u p0.2.2.2:=⟨_,Z,p 2 _ _ Z Z Z⟩
 replace q:=q.fr m
 replace q:IniOK [ob (.pointer (some ⟨b3_1,0,none⟩)) (.box w0.heap.size 51 zA0 p1)] A w:=q.sub [(1,ob (.pointer (some ⟨b3_1,0,none⟩)) (.box w0.heap.size 51 zA0 p1))] ⟨Z,Z,N⟩
 refine zQB d j (eR (.pointer (some ⟨b3_1,3,none⟩))::eF (.rep (eSl eStr) A p1.2.2.2)::eF (.rep (eSl eStr) A p1.2.2.2)::[]) ?_ ?_
 exact op (fun Q U W H D=>zAA ((H 3 Z).trans h3) zBs sizeOf46 (by decide) Z)<|op (fun Q U W H D=>(zAC ((q.fr W).ok 0 _ Z).1 (D.g 0 Z) zAS Z isAgg46 sizeOf46))<|op (fun Q U W H D=>zA2 (D.g 0 Z))<|oz
 intro R w m n p d j
 replace h5:=k1 n h5
 obtain ⟨u14,h6,f_u14⟩:∃ u,R 6=u∧Rep (eSl eStr) A w u p1.2.2.2:=⟨_,Z,p 2 _ _ Z Z Z⟩
 replace f_u13:=f_u13.fr m
 replace q:=q.fr m
 replace q:IniOK [] A w:=q.sub [] N
 refine zQB d j (eI 0::[]) ?_ ?_
 exact op (fun Q U W H D=>zA2 Z)<|oz
 intro R w m n p d j
 obtain ⟨h5,h6⟩:=k2 n h5 h6
 have h7:=p.r 0 Z
 replace f_u13:=f_u13.fr m
 replace f_u14:=f_u14.fr m
 replace q:=q.fr m
 refine zQ9 ?_
 obtain ⟨e15,e16,c⟩:=ck2 c
 obtain ⟨x17,q18,c⟩:=zA4 c
 obtain ⟨e19,c⟩:=zA5 c
 obtain ⟨x20,q21,c⟩:=zA4 c
 obtain ⟨e22,c⟩:=zA5 c
 obtain ⟨x23,q24,c⟩:=zA4 c
 obtain ⟨x25,q26,c⟩:=zA4 c
 obtain ⟨e27,c⟩:=zA5 c
 obtain ⟨x28,q29,c⟩:=zA4 c
 obtain ⟨e30,c⟩:=zA5 c
 obtain ⟨x31,q32,c⟩:=zA4 c
 obtain ⟨x33,q34,c⟩:=zA4 c
 obtain ⟨e35,e36,c⟩:=ck2 c
 obtain ⟨x37,q38,c⟩:=zA4 c
 obtain ⟨e39,e40,c⟩:=ck2 c
 obtain ⟨x41,q42,c⟩:=zA4 c
 refine zQ6 [] (rR u13::rI 0::(rF fun A=>.qtr eStr A (gtD p0.2.2.2 0))::(rF fun A=>.rep eStr A (gtD p0.2.2.2 0))::rR u14::rI 0::(rF fun A=>.qtr eStr A (gtD p1.2.2.2 0))::(rF fun A=>.rep eStr A (gtD p1.2.2.2 0))::rI x17::rR u13::rI 0::(rF fun A=>.qtr eStr A (gtD p0.2.2.2 0))::(rF fun A=>.rep eStr A (gtD p0.2.2.2 0))::(rF fun A=>.rep (eSl eStr) A x20)::rR u14::rI 0::(rF fun A=>.qtr eStr A (gtD p1.2.2.2 0))::(rF fun A=>.rep eStr A (gtD p1.2.2.2 0))::(rF fun A=>.rep (eSl eStr) A x23)::rI x25::rR u13::rI 0::(rF fun A=>.qtr eStr A (gtD p0.2.2.2 0))::(rF fun A=>.rep eStr A (gtD p0.2.2.2 0))::(rF fun A=>.rep (eSl eStr) A x28)::rR u14::rI 0::(rF fun A=>.qtr eStr A (gtD p1.2.2.2 0))::(rF fun A=>.rep eStr A (gtD p1.2.2.2 0))::(rF fun A=>.rep (eSl eStr) A x31)::rI x33::rR u13::(rF fun A=>.qtr eStr A (gtD p0.2.2.2 1))::(rF fun A=>.rep eStr A (gtD p0.2.2.2 1))::rR u14::(rF fun A=>.qtr eStr A (gtD p1.2.2.2 1))::(rF fun A=>.rep eStr A (gtD p1.2.2.2 1))::rI x37::rR u13::(rF fun A=>.qtr eStr A (gtD p0.2.2.2 3))::(rF fun A=>.rep eStr A (gtD p0.2.2.2 3))::rR u14::(rF fun A=>.qtr eStr A (gtD p1.2.2.2 3))::(rF fun A=>.rep eStr A (gtD p1.2.2.2 3))::rI x41::⟨_,true,[],some (.vec w0.heap.size 3 (eInt .i64) ([x17,x25,x33,x37,0,x41]:List Int)),true,fun A=>.any⟩::⟨_,true,[45],some (.vec w0.heap.size 3 (eInt .i64) ([x17,x25,x33,x37,0,x41]:List Int)),true,fun A=>.any⟩::[]) (by kernel_rfl) (by kernel_rfl) (by kernel_rfl) (Wf.mk' (by kernel_rfl) (ur (ur (UAll.cons zBL (up (ur (ur (UAll.cons zBL (up (ur (ur (ur (UAll.cons zBL (up (up (ur (ur (UAll.cons zBL (up (up (ur (ur (ur (UAll.cons zBL (up (up (ur (ur (UAll.cons zBL (up (up (ur (ur (UAll.cons zBL (up (ur (UAll.cons zBL (up (ur (ur (UAll.cons zBL (up (ur (UAll.cons zBL (up (ur (ua (ua (UAll.nil)))))))))))))))))))))))))))))))))))))))))))))))) (by kernel_rfl) (by kernel_rfl)) q d ?_ ?_
 exact rm h5<|rm h7<|rp (fun V Q U O D=>zA7 ((f_u13.stp O.stp).eq (D.g 0 Z)) (D.g 1 Z) underlying46 sizeOf9 e15)<|rp (fun V Q U O D=>(zAT (QRep.ptr (D.g 0 Z)) isAgg9 sizeOf9))<|rm h6<|rm h7<|rp (fun V Q U O D=>zA7 ((f_u14.stp O.stp).eq (D.g 0 Z)) (D.g 1 Z) underlying46 sizeOf9 e16)<|rp (fun V Q U O D=>(zAT (QRep.ptr (D.g 0 Z)) isAgg9 sizeOf9))<|rp (fun V Q U O D=>zA8 call126 (zFw (q18 Z) O.av (D.g 0 Z) (D.g 1 Z)))<|rm h5<|rm h7<|rp (fun V Q U O D=>zA7 ((f_u13.stp O.stp).eq (D.g 0 Z)) (D.g 1 Z) underlying46 sizeOf9 e19)<|rp (fun V Q U O D=>(zAT (QRep.ptr (D.g 0 Z)) isAgg9 sizeOf9))<|rp (fun V Q U O D=>zA8 call111 (zET (q21 Z) O.av (D.g 0 Z)))<|rm h6<|rm h7<|rp (fun V Q U O D=>zA7 ((f_u14.stp O.stp).eq (D.g 0 Z)) (D.g 1 Z) underlying46 sizeOf9 e22)<|rp (fun V Q U O D=>(zAT (QRep.ptr (D.g 0 Z)) isAgg9 sizeOf9))<|rp (fun V Q U O D=>zA8 call111 (zET (q24 Z) O.av (D.g 0 Z)))<|rp (fun V Q U O D=>zA8 call127 (zFx (q26 Z) O.av (D.g 0 Z) (D.g 1 Z)))<|rm h5<|rm h7<|rp (fun V Q U O D=>zA7 ((f_u13.stp O.stp).eq (D.g 0 Z)) (D.g 1 Z) underlying46 sizeOf9 e27)<|rp (fun V Q U O D=>(zAT (QRep.ptr (D.g 0 Z)) isAgg9 sizeOf9))<|rp (fun V Q U O D=>zA8 call108 (zEp (q29 Z) O.av (D.g 0 Z)))<|rm h6<|rm h7<|rp (fun V Q U O D=>zA7 ((f_u14.stp O.stp).eq (D.g 0 Z)) (D.g 1 Z) underlying46 sizeOf9 e30)<|rp (fun V Q U O D=>(zAT (QRep.ptr (D.g 0 Z)) isAgg9 sizeOf9))<|rp (fun V Q U O D=>zA8 call108 (zEp (q32 Z) O.av (D.g 0 Z)))<|rp (fun V Q U O D=>zA8 call127 (zFx (q34 Z) O.av (D.g 0 Z) (D.g 1 Z)))<|rm h5<|rp (fun V Q U O D=>zA7 ((f_u13.stp O.stp).eq (D.g 0 Z)) Z underlying46 sizeOf9 e35)<|rp (fun V Q U O D=>(zAT (QRep.ptr (D.g 0 Z)) isAgg9 sizeOf9))<|rm h6<|rp (fun V Q U O D=>zA7 ((f_u14.stp O.stp).eq (D.g 0 Z)) Z underlying46 sizeOf9 e36)<|rp (fun V Q U O D=>(zAT (QRep.ptr (D.g 0 Z)) isAgg9 sizeOf9))<|rp (fun V Q U O D=>zA8 call126 (zFw (q38 Z) O.av (D.g 0 Z) (D.g 1 Z)))<|rm h5<|rp (fun V Q U O D=>zA7 ((f_u13.stp O.stp).eq (D.g 0 Z)) Z underlying46 sizeOf9 e39)<|rp (fun V Q U O D=>(zAT (QRep.ptr (D.g 0 Z)) isAgg9 sizeOf9))<|rm h6<|rp (fun V Q U O D=>zA7 ((f_u14.stp O.stp).eq (D.g 0 Z)) Z underlying46 sizeOf9 e40)<|rp (fun V Q U O D=>(zAT (QRep.ptr (D.g 0 Z)) isAgg9 sizeOf9))<|rp (fun V Q U O D=>zA8 call128 (zGk (q42 Z) O.av (D.g 0 Z) (D.g 1 Z)))<|rc (OblR.made _ Z Z Z Z fun V Q U O D=>by have a0:Q 32 = .int .i64 x17:=D.g 0 Z;have a1:Q 43 = .int .i64 x25:=D.g 1 Z;have a2:Q 54 = .int .i64 x33:=D.g 2 Z;have a3:Q 61 = .int .i64 x37:=D.g 3 Z;have a5:Q 68 = .int .i64 x41:=D.g 4 Z;exact zBW [_,_,_,_,_,_] (E:=eInt .i64) ⟨(zAa.eq a0),⟨(zAa.eq a1),⟨(zAa.eq a2),⟨(zAa.eq a3),⟨(zAa.eq Z),⟨(zAa.eq a5),N⟩⟩⟩⟩⟩⟩ underlying27 sizeOf3 zeroValue3 Z Z Z (Nat.le_trans j.size O.ch.size))<|rc (OblR.took 45 _ _ Z Z Z Z Z fun V Q U O D u X Y J L M=>by exact zAK (L _ _ Z Z Z Z).symm X Y)<|rz
 intro done ρ σ A R w y s
 obtain ⟨h5,h6⟩:=k2 s.rg h5 h6
 obtain ⟨u43,e_u43⟩:∃ u,ρ 46=u:=⟨_,Z⟩
 have h8:=s.ov y 46 46 e_u43
 replace f_u13:=f_u13.stp s.stp
 replace f_u14:=f_u14.stp s.stp
 obtain ⟨B,j,d⟩:=s.s B C j q N
 replace q:=s.left y [(46,ob u43 (.vec w0.heap.size 3 (eInt .i64) ([x17,x25,x33,x37,0,x41]:List Int)))] ⟨Z,Z,e_u43,Z,Z,N⟩
 obtain ⟨e44,c⟩:=zA5 c
 obtain ⟨x45,q46,c⟩:=zA4 c
 refine zQB d j (eR u13::eF (.qtr eStr A (gtD p0.2.2.2 2))::eF (.rep eStr A (gtD p0.2.2.2 2))::eI x45::eI x45::[]) ?_ ?_
 exact om h5<|op (fun Q U W H D=>zA7 ((f_u13.fr W).eq (D.g 0 Z)) Z underlying46 sizeOf9 e44)<|op (fun Q U W H D=>(zAT (QRep.ptr (D.g 0 Z)) isAgg9 sizeOf9))<|op (fun Q U W H D=>zA8 call61 (zE3 (q46 Z) (d.fr W.size) (D.g 0 Z)))<|oa<|oz
 intro R w m n p d j
 obtain ⟨h6,h8⟩:=k2 n h6 h8
 have h9:=p.r 4 Z
 replace f_u14:=f_u14.fr m
 replace q:=q.fr m
 obtain ⟨e47,c⟩:=zA5 c
 obtain ⟨x48,q49,c⟩:=zA4 c
 refine zQB d j (eR u14::eF (.qtr eStr A (gtD p1.2.2.2 2))::eF (.rep eStr A (gtD p1.2.2.2 2))::eI x48::eI x48::[]) ?_ ?_
 exact om h6<|op (fun Q U W H D=>zA7 ((f_u14.fr W).eq (D.g 0 Z)) Z underlying46 sizeOf9 e47)<|op (fun Q U W H D=>(zAT (QRep.ptr (D.g 0 Z)) isAgg9 sizeOf9))<|op (fun Q U W H D=>zA8 call61 (zE3 (q49 Z) (d.fr W.size) (D.g 0 Z)))<|oa<|oz
 intro R w m n p d j
 obtain ⟨h8,h9⟩:=k2 n h8 h9
 have h10:=p.r 4 Z
 replace q:=q.fr m
 refine zQ9 ?_
 refine zQ9 ?_
 obtain ⟨x50,q51,c⟩:=zAD c
 refine HT.u d j (eI x45::eB (decide (0<x45))::eB (decide (0<x45))::gI (true&&((decide (0<x45))==true)) x48::gB (true&&((decide (0<x45))==true)) (decide (0<x48))::eB x50::[]) ?_ ?_
 exact om h9<|op (fun Q U W H D=>zCM (D.g 0 Z) Z)<|ov<|gm 2 true h10<|og 2 true (fun G Q U W H D=>zCM (D.h 0 G Z) Z)<|op (fun Q U W H D=>zAF (decide (0<x45)) (D.g 0 Z) (fun hc=>by have a1:Q 82 = .bool (decide (0<x48)):=D 1 _ _ _ Z Z Z Z (zAc Z (zAP hc));show _=Value.bool x50;rw [q51,hc];exact a1) (fun hc=>by show _=Value.bool x50;rw [q51,hc];exact Z))<|oz
 intro R w m n p d j
 obtain ⟨h8,h9,h10⟩:=k3 n h8 h9 h10
 have h83:=p.r 5 Z
 replace q:=q.fr m
 refine zQ2 x50 h83 (fun c52=>?_) (fun c52=>?_)
 have c:=zAO c52 c
 obtain ⟨x53,q54,c⟩:=zA4 c
 obtain ⟨e55,c⟩:=zA5 c
 refine zQF [ob u43 (.vec w0.heap.size 3 (eInt .i64) ([x17,x25,x33,x37,0,x41]:List Int))] (rR u43::rI x45::rI x48::rI x53::rR (vptr u43 ((4:Int).toNat*1))::⟨_,true,[0],some (.vec w0.heap.size 3 (eInt .i64) (([x17,x25,x33,x37,0,x41]:List Int).set (4:Int).toNat x53)),false,fun A=>.any⟩::[]) (ur (ur (ur (ur (ur (ua (UAll.nil))))))) q d ?_ ?_
 exact rm h8<|rm h9<|rm h10<|rp (fun V Q U O D=>zA8 call129 (zGC (q54 Z) O.av (D.g 0 Z) (D.g 1 Z) Z))<|rp (fun V Q U O D=>zAL (q.ok 0 _ Z).1 (D.g 0 Z) Z underlying27 sizeOf3 e55 Z)<|rc (OblR.took 0 _ _ Z Z Z Z Z fun V Q U O D u X Y J L M=>by have a0:Q 88=(vptr u43 ((4:Int).toNat*1)):=D.g 0 Z;have a1:Q 87 = .int .i64 x53:=D.g 1 Z;obtain rfl:=J _ Z;exact zCY (zAa.eq a1) X Y a0 e55 Z (FldS.id _) sizeOf3 Z)<|rz
 intro done ρ σ A R w y s
 replace h8:=k1 s.rg h8
 have z56:=s.inivR 0 Z
 have z57:=s.on y 6 5 Z Z Z Z Z z56
 obtain ⟨B,j,d⟩:=s.s B C j q ⟨Z,N⟩
 replace q:=s.left y [(6,ob u43 (.vec w0.heap.size 3 (eInt .i64) (([x17,x25,x33,x37,0,x41]:List Int).set (4:Int).toNat x53)))] ⟨Z,Z,z57,Z,Z,N⟩
 refine zQB d j (eR u43::eR u43::[]) ?_ ?_
 exact om h8<|oa<|oz
 intro R w m n p d j
 have h4:=p.r 1 Z
 replace q:=q.fr m
 refine HT.ret ?_
 obtain rfl:=si c
 exact ⟨.inr Z,[R 4],⟨Z,N⟩,(zCj (q.ok 0 _ Z) B h4),j⟩
 have c:=zAN c52 c
 refine zQA ?_
 refine zQB d j (eR u43::eR u43::[]) ?_ ?_
 exact om h8<|oa<|oz
 intro R w m n p d j
 have h4:=p.r 1 Z
 replace q:=q.fr m
 refine HT.ret ?_
 obtain rfl:=si c
 exact ⟨.inr Z,[R 4],⟨Z,N⟩,(zCj (q.ok 0 _ Z) B h4),j⟩
theorem zFi {fu : Nat} {A0 : Av} {p0 : zAI} {p1 : zAI} {r : List Int} (c : zBM fu p0 p1 = some r) {w : World} {v0 : Value} {v1 : Value} (d : AvOK A0 w) (h0 : Rep zA0 A0 w v0 p0) (h1 : Rep zA0 A0 w v1 p1) :
 Calls prog 58 #[v0,v1] w fun e w'=>∃ v,e = .returned v∧(Rep (eSl (eInt .i64)) A0 w' v r∧Fr w w'):=by
 refine Calls.mono (zG3 c d h0 h1) ?_
 rintro e w' ⟨v,he,hv,hf⟩
 exact ⟨v,he,zD2 hv (fun b o h=>.inl h) d,hf⟩
def zBf (fu : Nat) (p0 : List Int) (p1 : List Int) : Nat → Int → Option (Ex Bool Unit)
 | 0,_=>none
 | k+1,y5=>
 bif (decide (y5<(p0.length:Int))) then (
 ck (inR y5 p0.length) <|
 ck (inR y5 p1.length) <|
 bif ((gtD p0 y5) != (gtD p1 y5)) then (
 some (Ex.ret false)
 ) else (
 ck (i64B (y5+1)) <|
 zBf fu p0 p1 k (y5+1)
 )
 ) else (
 some (Ex.go ())
 )
def zCv (fu:Nat) (p0:List Int) (p1:List Int):Option Bool:=
 bif ((p0.length:Int) != (p1.length:Int)) then (
 some false
 ) else (
 cl true (zBf fu p0 p1 fu 0) fun rl2=>
 exM rl2 (fun r=>some r) fun s4=>
 some true
 )
theorem zFL {fu : Nat} {A : Av} {p0 : List Int} {p1 : List Int} {r : Bool} (c : zCv fu p0 p1 = some r) {w : World} {v0 : Value} {v1 : Value} (d : AvOK A w) (h0 : Rep (eSl (eInt .i64)) A w v0 p0) (h1 : Rep (eSl (eInt .i64)) A w v1 p1) :
 Calls prog 57 #[v0,v1] w fun e w'=>∃ v,e = .returned v∧(v = .bool r∧Fr w w'):=by
 unfold zCv at c
 obtain ⟨w0,hw0,j⟩:=pf w
 rw [fw hw0]
 refine zA3 [.tmp 4] func57 ntmps57 (by decide) Z Z (nb Z) ?_
 intro R hR
 have f_v0:=h0
 replace h0:R 0=v0:=hR 0 _ Z
 have f_v1:=h1
 replace h1:R 1=v1:=hR 1 _ Z
 refine zQB d j (eB false::[]) ?_ ?_
 exact op (fun Q U W H D=>zA2 Z)<|oz
 intro R w m n p d j
 obtain ⟨h0,h1⟩:=k2 n h0 h1
 replace f_v0:=f_v0.fr m
 replace f_v1:=f_v1.fr m
 refine zQ9 ?_
 refine zQB d j (eR v0::eI (p0.length:Int)::eR v1::eI (p1.length:Int)::eB ((p0.length:Int) != (p1.length:Int))::[]) ?_ ?_
 exact om h0<|op (fun Q U W H D=>zAe (aT:=#[]) ((f_v0.fr W).eq (D.g 0 Z)) underlying27)<|om h1<|op (fun Q U W H D=>zAe (aT:=#[]) ((f_v1.fr W).eq (D.g 0 Z)) underlying27)<|op (fun Q U W H D=>zFq (D.g 0 Z) (D.g 1 Z))<|oz
 intro R w m n p d j
 obtain ⟨h0,h1⟩:=k2 n h0 h1
 have h10:=p.r 4 Z
 replace f_v0:=f_v0.fr m
 replace f_v1:=f_v1.fr m
 refine zQ2 ((p0.length:Int) != (p1.length:Int)) h10 (fun c1=>?_) (fun c1=>?_)
 have c:=zAO c1 c
 refine zQB d j (eB false::[]) ?_ ?_
 exact op (fun Q U W H D=>zA2 Z)<|oz
 intro R w m n p d j
 have h4:=p.r 0 Z
 refine HT.ret ?_
 obtain rfl:=si c
 exact ⟨.inr Z,[R 4],⟨Z,N⟩,h4,j⟩
 have c:=zAN c1 c
 refine zQA ?_
 refine zQ9 ?_
 refine zQB d j (eI 0::[]) ?_ ?_
 exact op (fun Q U W H D=>zA2 Z)<|oz
 intro R w m n p d j
 obtain ⟨h0,h1⟩:=k2 n h0 h1
 have h5:=p.r 0 Z
 replace f_v0:=f_v0.fr m
 replace f_v1:=f_v1.fr m
 obtain ⟨rl2,q3,c⟩:=zA4 c
 replace q3:=q3 Z
 refine zQ4 (fun R w=>∃ (s4:Unit),rl2=Ex.go s4∧AvOK A w∧Fr w0 w) ?_ ?_
 refine HT.block ?_
 refine zQ8 (fun k R w=>∃ (y5:Int),zBf fu p0 p1 k y5=some rl2∧AvOK A w∧Fr w0 w∧R 0=v0∧R 1=v1∧R 5 = .int .i64 y5∧Rep (eSl (eInt .i64)) A w v0 p0∧Rep (eSl (eInt .i64)) A w v1 p1) fu ⟨_,q3,d,j,h0,h1,h5,f_v0,f_v1⟩ ?_
 have hr0:=c;clear c q3
 rintro k R w ⟨y5,c,d,j,h0,h1,h5,f_v0,f_v1⟩
 rcases k with _ | k
 cases (show none=some _ from c)
 rw [zBf] at c
 refine zQ9 ?_
 refine zQB d j (eI y5::eR v0::eI (p0.length:Int)::eB (decide (y5<(p0.length:Int)))::[]) ?_ ?_
 exact om h5<|om h0<|op (fun Q U W H D=>zAe (aT:=#[]) ((f_v0.fr W).eq (D.g 0 Z)) underlying27)<|op (fun Q U W H D=>zAu (D.g 0 Z) (D.g 1 Z))<|oz
 intro R w m n p d j
 obtain ⟨h0,h1,h5⟩:=k3 n h0 h1 h5
 have h14:=p.r 3 Z
 replace f_v0:=f_v0.fr m
 replace f_v1:=f_v1.fr m
 refine zQ2 (decide (y5<(p0.length:Int))) h14 (fun c6=>?_) (fun c6=>?_)
 have c:=zAO c6 c
 refine zQA ?_
 refine zQ9 ?_
 refine HT.block ?_
 refine zQ9 ?_
 obtain ⟨e7,e8,c⟩:=ck2 c
 refine zQ5 (by kernel_rfl) (l:=eR v0::eI y5::eF (.qtr (eInt .i64) A (gtD p0 y5))::eI (gtD p0 y5)::eR v1::eI y5::eF (.qtr (eInt .i64) A (gtD p1 y5))::eI (gtD p1 y5)::eB ((gtD p0 y5) != (gtD p1 y5))::[]) (tl:=[]) (by kernel_rfl) (by kernel_rfl) (by kernel_rfl) (by kernel_rfl) ?_ ?_
 exact om h0<|om h5<|op (fun Q U W H D=>zA7 ((f_v0.fr W).eq (D.g 0 Z)) (D.g 1 Z) underlying27 sizeOf3 e7)<|op (fun Q U W H D=>OpF.int (zAT (QRep.ptr (D.g 0 Z)) isAgg3 sizeOf3))<|om h1<|om h5<|op (fun Q U W H D=>zA7 ((f_v1.fr W).eq (D.g 0 Z)) (D.g 1 Z) underlying27 sizeOf3 e8)<|op (fun Q U W H D=>OpF.int (zAT (QRep.ptr (D.g 0 Z)) isAgg3 sizeOf3))<|op (fun Q U W H D=>zFq (D.g 0 Z) (D.g 1 Z))<|oz
 intro R w m n p
 obtain ⟨h0,h1,h5⟩:=k3 n h0 h1 h5
 have h25:=p.r 8 Z
 replace f_v0:=f_v0.fr m
 replace f_v1:=f_v1.fr m
 replace d:=d.fr m.size
 replace j:=j.trans m
 refine zQ2 ((gtD p0 y5) != (gtD p1 y5)) h25 (fun c9=>?_) (fun c9=>?_)
 have c:=zAO c9 c
 refine zQB d j (eB false::[]) ?_ ?_
 exact op (fun Q U W H D=>zA2 Z)<|oz
 intro R w m n p d j
 have h4:=p.r 0 Z
 refine HT.ret ?_
 obtain rfl:=si c
 have c:=hr0
 replace c:some _=some _:=c
 obtain rfl:=si c
 exact ⟨.inr Z,[R 4],⟨Z,N⟩,h4,j⟩
 have c:=zAN c9 c
 refine zQA ?_
 obtain ⟨e10,c⟩:=zA5 c
 refine HT.u d j (eI y5::eI (y5+1)::eI (y5+1)::[]) ?_ ?_
 exact om h5<|op (fun Q U W H D=>zAR (D.g 0 Z) Z e10)<|oa<|oz
 intro R w m n p d j
 obtain ⟨h0,h1⟩:=k2 n h0 h1
 have h5:=p.r 2 Z
 replace f_v0:=f_v0.fr m
 replace f_v1:=f_v1.fr m
 exact ei k (And.intro (Nat.lt_succ_self k) ⟨_,c,d,j,h0,h1,h5,f_v0,f_v1⟩)
 have c:=zAN c6 c
 refine zQ7 ?_
 obtain rfl:=si c
 exact ei _ ⟨Z,d,j⟩
 rintro R w ⟨s4,rfl,d,j⟩
 have c:=zF6 c
 refine zQB d j (eB true::[]) ?_ ?_
 exact op (fun Q U W H D=>zA2 Z)<|oz
 intro R w m n p d j
 have h4:=p.r 0 Z
 refine HT.ret ?_
 obtain rfl:=si c
 exact ⟨.inr Z,[R 4],⟨Z,N⟩,h4,j⟩
def zAi (fu : Nat) (p0 : List Int) (p1 : Int → Option Bool) : Nat → Int → Option (Ex Int Unit)
 | 0,_=>none
 | k+1,y4=>
 bif (decide (y4<(p0.length:Int))) then (
 ck (inR y4 p0.length) <|
 cl true (p1 (gtD p0 y4)) fun x7=>
 bif x7 then (
 some (Ex.ret y4)
 ) else (
 ck (i64B (y4+1)) <|
 zAi fu p0 p1 k (y4+1)
 )
 ) else (
 some (Ex.go ())
 )
def zBo (fu:Nat) (p0:List Int) (p1:Int→Option Bool):Option Int:=
 cl true (zAi fu p0 p1 fu 0) fun rl1=>
 exM rl1 (fun r=>some r) fun s3=>
 some (-1)
theorem zEm {fu : Nat} {A : Av} {p0 : List Int} {p1 : Int → Option Bool} {r : Int} (c : zBo fu p0 p1 = some r) {w : World} {v0 : Value} {v1 : Value} (d : AvOK A w) (h0 : Rep (eSl (eInt .i64)) A w v0 p0) (h1 : FnB1 prog (eInt .i64) (fun r => .raw (.bool r)) A w v1 p1) :
 Calls prog 189 #[v0,v1] w fun e w'=>∃ v,e = .returned v∧(v = .int .i64 r∧Fr w w'):=by
 unfold zBo at c
 obtain ⟨w0,hw0,j⟩:=pf w
 rw [fw hw0]
 have f_v1:FnB1 prog (eInt .i64) (fun r=>.raw (.bool r)) A w0 v1 p1:=hw0 ▸ h1
 refine zA3 [.tmp 4] func189 ntmps189 (by decide) Z Z (nb Z) ?_
 intro R hR
 have f_v0:=h0
 replace h0:R 0=v0:=hR 0 _ Z
 replace h1:R 1=v1:=hR 1 _ Z
 refine zQB d j (eI 0::[]) ?_ ?_
 exact op (fun Q U W H D=>zA2 Z)<|oz
 intro R w m n p d j
 obtain ⟨h0,h1⟩:=k2 n h0 h1
 replace f_v0:=f_v0.fr m
 refine zQ9 ?_
 refine zQB d j (eR v0::eI (p0.length:Int)::eI 0::[]) ?_ ?_
 exact om h0<|op (fun Q U W H D=>zAe (aT:=#[]) ((f_v0.fr W).eq (D.g 0 Z)) underlying27)<|op (fun Q U W H D=>zBk Z)<|oz
 intro R w m n p d j
 obtain ⟨h0,h1⟩:=k2 n h0 h1
 have h7:=p.r 1 Z
 have h8:=p.r 2 Z
 replace f_v0:=f_v0.fr m
 obtain ⟨rl1,q2,c⟩:=zA4 c
 replace q2:=q2 Z
 refine zQ4 (fun R w=>∃ (s3:Unit),rl1=Ex.go s3∧AvOK A w∧Fr w0 w) ?_ ?_
 refine HT.block ?_
 refine zQ8 (fun k R w=>∃ (y4:Int),zAi fu p0 p1 k y4=some rl1∧AvOK A w∧Fr w0 w∧R 0=v0∧R 1=v1∧R 7 = .int .i64 (p0.length:Int)∧R 8 = .int .i64 y4∧Rep (eSl (eInt .i64)) A w v0 p0) fu ⟨_,q2,d,j,h0,h1,h7,h8,f_v0⟩ ?_
 have hr0:=c;clear c q2
 rintro k R w ⟨y4,c,d,j,h0,h1,h7,h8,f_v0⟩
 rcases k with _ | k
 cases (show none=some _ from c)
 rw [zAi] at c
 refine zQB d j (eB (decide (y4<(p0.length:Int)))::[]) ?_ ?_
 exact op (fun Q U W H D=>zAu ((H 8 Z).trans h8) ((H 7 Z).trans h7))<|oz
 intro R w m n p d j
 obtain ⟨h0,h1,h7,h8⟩:=k4 n h0 h1 h7 h8
 have h9:=p.r 0 Z
 replace f_v0:=f_v0.fr m
 refine zQ9 ?_
 refine zQ2 (decide (y4<(p0.length:Int))) h9 (fun c5=>?_) (fun c5=>?_)
 have c:=zAO c5 c
 refine zQA ?_
 refine zQ9 ?_
 refine HT.block ?_
 refine zQB d j (eI y4::eI y4::[]) ?_ ?_
 exact om h8<|oa<|oz
 intro R w m n p d j
 obtain ⟨h0,h1,h7,h8⟩:=k4 n h0 h1 h7 h8
 have h5:=p.r 1 Z
 replace f_v0:=f_v0.fr m
 obtain ⟨e6,c⟩:=zA5 c
 obtain ⟨x7,q8,c⟩:=zA4 c
 refine zQB d j (eR v1::eR v0::eI y4::eF (.qtr (eInt .i64) A (gtD p0 y4))::eI (gtD p0 y4)::eB x7::[]) ?_ ?_
 exact om h1<|om h0<|om h5<|op (fun Q U W H D=>zA7 ((f_v0.fr W).eq (D.g 0 Z)) (D.g 1 Z) underlying27 sizeOf3 e6)<|op (fun Q U W H D=>OpF.int (zAT (QRep.ptr (D.g 0 Z)) isAgg3 sizeOf3))<|op (fun Q U W H D=>zJF (D.g 0 Z) (f_v1 _ _ (q8 Z) _ _ ((j.trans W).ch _) (d.fr W.size) (zAa.eq (D.g 1 Z))))<|oz
 intro R w m n p d j
 obtain ⟨h0,h1,h5,h7,h8⟩:=k5 n h0 h1 h5 h7 h8
 have h16:=p.r 5 Z
 replace f_v0:=f_v0.fr m
 refine zQ2 x7 h16 (fun c9=>?_) (fun c9=>?_)
 have c:=zAO c9 c
 refine zQB d j (eI y4::eI y4::[]) ?_ ?_
 exact om h5<|oa<|oz
 intro R w m n p d j
 have h4:=p.r 1 Z
 refine HT.ret ?_
 obtain rfl:=si c
 have c:=hr0
 replace c:some _=some _:=c
 obtain rfl:=si c
 exact ⟨.inr Z,[R 4],⟨Z,N⟩,h4,j⟩
 have c:=zAN c9 c
 refine zQA ?_
 obtain ⟨e10,c⟩:=zA5 c
 refine HT.u d j (eI (y4+1)::eI (y4+1)::[]) ?_ ?_
 exact op (fun Q U W H D=>zAR ((H 8 Z).trans h8) Z e10)<|ov<|oz
 intro R w m n p d j
 obtain ⟨h0,h1,h7⟩:=k3 n h0 h1 h7
 have h8:=p.r 1 Z
 replace f_v0:=f_v0.fr m
 exact ei k (And.intro (Nat.lt_succ_self k) ⟨_,c,d,j,h0,h1,h7,h8,f_v0⟩)
 have c:=zAN c5 c
 refine zQ7 ?_
 obtain rfl:=si c
 exact ei _ ⟨Z,d,j⟩
 rintro R w ⟨s3,rfl,d,j⟩
 have c:=zF6 c
 refine zQB d j (eI (-1)::[]) ?_ ?_
 exact op (fun Q U W H D=>zA2 Z)<|oz
 intro R w m n p d j
 have h4:=p.r 0 Z
 refine HT.ret ?_
 obtain rfl:=si c
 exact ⟨.inr Z,[R 4],⟨Z,N⟩,h4,j⟩
def zBE (fu:Nat) (p0:List Int) (p1:Int→Option Bool):Option Bool:=
 cl true (zBo fu p0 p1) fun x1=>
 some (decide (0≤x1))
theorem zEO {fu : Nat} {A : Av} {p0 : List Int} {p1 : Int → Option Bool} {r : Bool} (c : zBE fu p0 p1 = some r) {w : World} {v0 : Value} {v1 : Value} (d : AvOK A w) (h0 : Rep (eSl (eInt .i64)) A w v0 p0) (h1 : FnB1 prog (eInt .i64) (fun r => .raw (.bool r)) A w v1 p1) :
 Calls prog 135 #[v0,v1] w fun e w'=>∃ v,e = .returned v∧(v = .bool r∧Fr w w'):=by
 unfold zBE at c
 obtain ⟨w0,hw0,j⟩:=pf w
 rw [fw hw0]
 have f_v1:FnB1 prog (eInt .i64) (fun r=>.raw (.bool r)) A w0 v1 p1:=hw0 ▸ h1
 refine zA3 [.tmp 4] func135 ntmps135 (by decide) Z Z (nb Z) ?_
 intro R hR
 have f_v0:=h0
 replace h0:R 0=v0:=hR 0 _ Z
 replace h1:R 1=v1:=hR 1 _ Z
 refine zQB d j (eB false::[]) ?_ ?_
 exact op (fun Q U W H D=>zA2 Z)<|oz
 intro R w m n p d j
 obtain ⟨h0,h1⟩:=k2 n h0 h1
 replace f_v0:=f_v0.fr m
 obtain ⟨x1,q2,c⟩:=zA4 c
 refine zQB d j (eR v0::eR v1::eI x1::eB (decide (0≤x1))::eB (decide (0≤x1))::[]) ?_ ?_
 exact om h0<|om h1<|op (fun Q U W H D=>zA8 call189 (zEm (q2 Z) (d.fr W.size) ((f_v0.fr W).eq (D.g 0 Z)) ((f_v1.on (j.trans W) (fun _ _ h=>h)).eq (D.g 1 Z))))<|op (fun Q U W H D=>zDs (D.g 0 Z) Z)<|oa<|oz
 intro R w m n p d j
 have h4:=p.r 4 Z
 refine HT.ret ?_
 obtain rfl:=si c
 exact ⟨.inr Z,[R 4],⟨Z,N⟩,h4,j⟩
def zC8 (fu:Nat) (p0:Int):Option Bool:=
 cl true (zBB fu p0 0 1000) fun x1=>
 some (!x1)
theorem zF0 {fu : Nat} {A : Av} {p0 : Int} {r : Bool} (c : zC8 fu p0 = some r) {w : World} {v0 : Value} (d : AvOK A w) (h0 : v0 = .int .i64 p0) :
 Calls prog 136 #[v0] w fun e w'=>∃ v,e = .returned v∧(v = .bool r∧Fr w w'):=by
 unfold zC8 at c
 obtain ⟨w0,hw0,j⟩:=pf w
 rw [fw hw0]
 refine zA3 [.tmp 2] func136 ntmps136 (by decide) Z Z (nb Z) ?_
 intro R hR
 replace h0:R 0 = .int .i64 p0:=(hR 0 _ Z).trans h0
 refine zQB d j (eB false::[]) ?_ ?_
 exact op (fun Q U W H D=>zA2 Z)<|oz
 intro R w m n p d j
 replace h0:=k1 n h0
 obtain ⟨x1,q2,c⟩:=zA4 c
 refine zQB d j (eI p0::eB x1::eB (!x1)::eB (!x1)::[]) ?_ ?_
 exact om h0<|op (fun Q U W H D=>zA8 call94 (zBQ (q2 Z) (d.fr W.size) (D.g 0 Z) Z Z))<|op (fun Q U W H D=>zBq (D.g 0 Z))<|oa<|oz
 intro R w m n p d j
 have h2:=p.r 3 Z
 refine HT.ret ?_
 obtain rfl:=si c
 exact ⟨.inr Z,[R 2],⟨Z,N⟩,h2,j⟩
def zBp (fu:Nat) (p0:List Int):Option Bool:=
 cl (true&&(((p0.length:Int)==6)==true)) (zBE fu p0 (fun x=>zC8 fu x)) fun x1=>
 bd (((p0.length:Int)==6)&&(!x1)) fun x3=>
 some x3
theorem zFM {fu : Nat} {A : Av} {p0 : List Int} {r : Bool} (c : zBp fu p0 = some r) {w : World} {v0 : Value} (d : AvOK A w) (h0 : Rep (eSl (eInt .i64)) A w v0 p0) :
 Calls prog 62 #[v0] w fun e w'=>∃ v,e = .returned v∧(v = .bool r∧Fr w w'):=by
 unfold zBp at c
 obtain ⟨w0,hw0,j⟩:=pf w
 rw [fw hw0]
 refine zA3 [.tmp 2] func62 ntmps62 (by decide) Z Z (nb Z) ?_
 intro R hR
 have f_v0:=h0
 replace h0:R 0=v0:=hR 0 _ Z
 refine zQB d j (eB false::[]) ?_ ?_
 exact op (fun Q U W H D=>zA2 Z)<|oz
 intro R w m n p d j
 replace h0:=k1 n h0
 replace f_v0:=f_v0.fr m
 refine zQ9 ?_
 obtain ⟨x1,q2,c⟩:=zA4 c
 obtain ⟨x3,q4,c⟩:=zAD c
 refine HT.u d j (eR v0::eI (p0.length:Int)::eB ((p0.length:Int)==6)::eB ((p0.length:Int)==6)::gR (true&&(((p0.length:Int)==6)==true)) v0::gB (true&&(((p0.length:Int)==6)==true)) x1::gB (true&&(((p0.length:Int)==6)==true)) (!x1)::eB x3::eB x3::[]) ?_ ?_
 exact om h0<|op (fun Q U W H D=>zAe (aT:=#[]) ((f_v0.fr W).eq (D.g 0 Z)) underlying27)<|op (fun Q U W H D=>zAo (D.g 0 Z) Z)<|ov<|gm 3 true h0<|og 3 true (fun G Q U W H D=>zA8 call135 (zEO (q2 G) (d.fr W.size) ((f_v0.fr W).eq (D.h 0 G Z)) (zIL [] Z call136 (fun x r hr' w'' a p hA' ha=>zF0 hr' hA' (zGb ha)))))<|og 3 true (fun G Q U W H D=>zBq (D.h 0 G Z))<|op (fun Q U W H D=>zAF ((p0.length:Int)==6) (D.g 0 Z) (fun hc=>by have a1:Q 9 = .bool (!x1):=D 1 _ _ _ Z Z Z Z (zAc Z (zAP hc));show _=Value.bool x3;rw [q4,hc];exact a1) (fun hc=>by show _=Value.bool x3;rw [q4,hc];exact Z))<|oa<|oz
 intro R w m n p d j
 have h2:=p.r 8 Z
 refine HT.ret ?_
 obtain rfl:=si c
 exact ⟨.inr Z,[R 2],⟨Z,N⟩,h2,j⟩
def zDe (fu:Nat) (p0:List Int):Option Bool:=
 cl true (zGW fu p0) fun x1=>
 bif x1 then (
 some true
 ) else (
 cl true (zBi fu p0) fun x4=>
 cl true (zAv fu x4.1 x4.2) fun x10=>
 cl true (zBM fu x4.1 x4.2) fun x13=>
 cl true (zCv fu x10 x13) fun x15=>
 cl (true&&((!x15)==false)) (zAv fu x4.2 x4.1) fun x17=>
 cl (true&&((!x15)==false)) (zCv fu x10 x17) fun x19=>
 bd ((!x15) || (!x19)) fun x21=>
 bif x21 then (
 some false
 ) else (
 bif ((x10.length:Int)==0) then (
 cl true (zBI fu x4.1) fun x25=>
 cl (true&&((!x25)==false)) (zBI fu x4.2) fun x27=>
 bd ((!x25) || (!x27)) fun x29=>
 some x29
 ) else (
 cl true (zAv fu x4.1 x4.1) fun x31=>
 ck (inR 0 x4.1.2.2.2.length) <|
 cl true (zBY fu (gtD x4.1.2.2.2 0)) fun x35=>
 ck (!(true&&((!(x35==([]:List UInt8)))==true)) || inR 0 x31.length) <|
 ck (!((true&&((!(x35==([]:List UInt8)))==true))&&(((gtD x31 0) != 1000)==false)) || inR 1 x31.length) <|
 bd (((gtD x31 0) != 1000) || ((gtD x31 1) != 1000)) fun x39=>
 bd ((!(x35==([]:List UInt8)))&&x39) fun x41=>
 bif x41 then (
 some false
 ) else (
 ck (inR 2 x4.1.2.2.2.length) <|
 cl true (zBm fu (gtD x4.1.2.2.2 2)) fun x45=>
 ck (!(true&&((decide (0<x45))==true)) || inR 4 x31.length) <|
 bd ((decide (0<x45))&&((gtD x31 4) != 1000)) fun x48=>
 bif x48 then (
 some false
 ) else (
 cl true (zBp fu x10) fun x51=>
 some x51
 )
 )
 )
 )
 )
theorem zGh {fu : Nat} {A0 : Av} {p0 : List Int} {r : Bool} (c : zDe fu p0 = some r) {w : World} {v0 : Value} (d : AvOK A0 w) (hG : GTab w) (h0 : Rep (eSl (eInt .u8)) A0 w v0 p0) :
 Calls prog 9 #[v0] w fun e w'=>∃ v,e = .returned v∧(v = .bool r∧Fr w w'):=by
 unfold zDe at c
 obtain ⟨w0,hw0,j,C⟩:=pw d
 have hA00:AvOK A0 w0:=C
 rw [fw hw0]
 have hG0:GTab w0:=hw0 ▸ hG
 obtain ⟨A,hAe,B,d,q⟩:=pa d
 refine zA3 [.tmp 2] func9 ntmps9 (by decide) Z Z (nb Z) ?_
 intro R hR
 have f_v0:Rep (eSl (eInt .u8)) A w v0 p0:=hAe ▸ h0
 replace h0:R 0=v0:=hR 0 _ Z
 refine zQB d j (eB false::[]) ?_ ?_
 exact op (fun Q U W H D=>zA2 Z)<|oz
 intro R w m n p d j
 replace h0:=k1 n h0
 replace f_v0:=f_v0.fr m
 replace q:=q.fr m
 refine zQ9 ?_
 obtain ⟨x1,q2,c⟩:=zA4 c
 refine zQB d j (eR v0::eB x1::[]) ?_ ?_
 exact om h0<|op (fun Q U W H D=>zA8 call13 (zJ8 (q2 Z) (d.fr W.size) ((f_v0.fr W).eq (D.g 0 Z))))<|oz
 intro R w m n p d j
 replace h0:=k1 n h0
 have h8:=p.r 1 Z
 replace f_v0:=f_v0.fr m
 replace q:=q.fr m
 refine zQ2 x1 h8 (fun c3=>?_) (fun c3=>?_)
 have c:=zAO c3 c
 refine zQB d j (eB true::[]) ?_ ?_
 exact op (fun Q U W H D=>zA2 Z)<|oz
 intro R w m n p d j
 have h2:=p.r 0 Z
 replace q:=q.fr m
 refine HT.ret ?_
 obtain rfl:=si c
 exact ⟨.inr Z,[R 2],⟨Z,N⟩,h2,j⟩
 have c:=zAN c3 c
 refine zQA ?_
 obtain ⟨x4,q5,c⟩:=zA4 c
 refine zQC [] (rR v0::(rF fun A=>.tup2 (.rep zA0 A x4.1) (.rep zA0 A x4.2))::(rF fun A=>.tup2 (.rep zA0 A x4.1) (.rep zA0 A x4.2))::(rF fun A=>.rep zA0 A x4.1)::(rF fun A=>.rep zA0 A x4.2)::⟨_,true,[],some (.box w0.heap.size 51 zA0 (0,(0,(0,([]:List (List UInt8)))))),true,fun A=>.any⟩::⟨_,true,[],some (.box w0.heap.size 51 zA0 (0,(0,(0,([]:List (List UInt8)))))),true,fun A=>.any⟩::⟨_,true,[5],some (.box w0.heap.size 51 zA0 x4.1),false,fun A=>.any⟩::⟨_,true,[6],some (.box w0.heap.size 51 zA0 x4.2),false,fun A=>.any⟩::[]) (ur (UAll.cons (zI3 zFg zFg) (UAll.cons (zI3 zFg zFg) (up (up (ua (ua (ua (ua (UAll.nil)))))))))) q d ?_ ?_
 exact rm h0<|rp (fun V Q U O D=>zA8 call55 (zFB (q5 Z) O.av ((f_v0.stp O.stp).eq (D.g 0 Z))))<|rp (fun V Q U O D=>zBk (D.g 0 Z))<|rp (fun V Q U O D=>zEG (D.g 0 Z))<|rp (fun V Q U O D=>zEF (D.g 0 Z))<|rc (OblR.made _ Z Z Z Z fun V Q U O D=>by exact zDH zeroValue51 (fun A w=>zCP zAY (zCP zAY (zCP zAY zDu))) (Nat.le_trans j.size O.ch.size))<|rc (OblR.made _ Z Z Z Z fun V Q U O D=>by exact zDH zeroValue51 (fun A w=>zCP zAY (zCP zAY (zCP zAY zDu))) (Nat.le_trans j.size O.ch.size))<|rc (OblR.took 5 _ _ Z Z Z Z Z fun V Q U O D u X Y J L M=>by have a1:Rep zA0 V U (Q 12) x4.1:=D.g 1 Z;obtain ⟨b,hb,hB',hbx⟩:=X;have hop':=L _ _ Z Z Z Z;exact zB8 a1 (hop'.symm.trans hb) hb ⟨b,hb,hB',hbx⟩ Y (FldS.id _) sizeOf51 Z)<|rc (OblR.took 6 _ _ Z Z Z Z Z fun V Q U O D u X Y J L M=>by have a1:Rep zA0 V U (Q 13) x4.2:=D.g 1 Z;obtain ⟨b,hb,hB',hbx⟩:=X;have hop':=L _ _ Z Z Z Z;exact zB8 a1 (hop'.symm.trans hb) hb ⟨b,hb,hB',hbx⟩ Y (FldS.id _) sizeOf51 Z)<|rz
 intro done ρ σ A R w y s
 obtain ⟨b3_5,e_b3_5⟩:=s.boxv y 7 Z Z
 have z7:=(s.opnR y 7 7 Z Z Z Z Z).symm.trans e_b3_5
 have h3:=s.ov y 5 5 z7
 obtain ⟨b4_7,e_b4_7⟩:=s.boxv y 8 Z Z
 have z9:=(s.opnR y 8 8 Z Z Z Z Z).symm.trans e_b4_7
 have h4:=s.ov y 6 6 z9
 obtain ⟨B,j,d⟩:=s.s B C j q N
 replace q:=s.left y [(7,ob (.pointer (some ⟨b3_5,0,none⟩)) (.box w0.heap.size 51 zA0 x4.1)),(8,ob (.pointer (some ⟨b4_7,0,none⟩)) (.box w0.heap.size 51 zA0 x4.2))] ⟨Z,Z,e_b3_5,Z,Z,⟨Z,Z,e_b4_7,Z,Z,N⟩⟩
 obtain ⟨x10,q11,c⟩:=zA4 c
 refine zQB d j (eF (.rep zA0 A x4.1)::eF (.rep zA0 A x4.2)::eF (.rep (eSl (eInt .i64)) A x10)::eF (.rep (eSl (eInt .i64)) A x10)::[]) ?_ ?_
 exact op (fun Q U W H D=>(zAC ((q.fr W).ok 0 _ Z).1 ((H 3 Z).trans h3) (Fld.id _) Z isAgg51 sizeOf51))<|op (fun Q U W H D=>(zAC ((q.fr W).ok 1 _ Z).1 ((H 4 Z).trans h4) (Fld.id _) Z isAgg51 sizeOf51))<|op (fun Q U W H D=>zA8 call56 (zD5 (q11 Z) (d.fr W.size) (hG0.fr (j.trans W)) (D.g 0 Z) (D.g 1 Z)))<|op (fun Q U W H D=>zA2 (D.g 0 Z))<|oz
 intro R w m n p d j
 obtain ⟨h3,h4⟩:=k2 n h3 h4
 obtain ⟨u12,h5,f_u12⟩:∃ u,R 5=u∧Rep (eSl (eInt .i64)) A w u x10:=⟨_,Z,p 3 _ _ Z Z Z⟩
 replace q:=q.fr m
 refine zQ9 ?_
 refine zQ9 ?_
 obtain ⟨x13,q14,c⟩:=zA4 c
 obtain ⟨x15,q16,c⟩:=zA4 c
 obtain ⟨x17,q18,c⟩:=zA4 c
 obtain ⟨x19,q20,c⟩:=zA4 c
 obtain ⟨x21,q22,c⟩:=zAD c
 refine HT.u d j (eR u12::eF (.rep zA0 A x4.1)::eF (.rep zA0 A x4.2)::eF (.rep (eSl (eInt .i64)) A x13)::eB x15::eB (!x15)::eB (!x15)::gR (true&&((!x15)==false)) u12::gF (true&&((!x15)==false)) (.rep zA0 A x4.2)::gF (true&&((!x15)==false)) (.rep zA0 A x4.1)::gF (true&&((!x15)==false)) (.rep (eSl (eInt .i64)) A x17)::gB (true&&((!x15)==false)) x19::gB (true&&((!x15)==false)) (!x19)::eB x21::[]) ?_ ?_
 exact om h5<|op (fun Q U W H D=>(zAC ((q.fr W).ok 0 _ Z).1 ((H 3 Z).trans h3) (Fld.id _) Z isAgg51 sizeOf51))<|op (fun Q U W H D=>(zAC ((q.fr W).ok 1 _ Z).1 ((H 4 Z).trans h4) (Fld.id _) Z isAgg51 sizeOf51))<|op (fun Q U W H D=>zA8 call58 (zFi (q14 Z) (d.fr W.size) (D.g 0 Z) (D.g 1 Z)))<|op (fun Q U W H D=>zA8 call57 (zFL (q16 Z) (d.fr W.size) ((f_u12.fr W).eq (D.g 0 Z)) (D.g 1 Z)))<|op (fun Q U W H D=>zBq (D.g 0 Z))<|ov<|gm 6 false h5<|og 6 false (fun G Q U W H D=>(zAC ((q.fr W).ok 1 _ Z).1 ((H 4 Z).trans h4) (Fld.id _) Z isAgg51 sizeOf51))<|og 6 false (fun G Q U W H D=>(zAC ((q.fr W).ok 0 _ Z).1 ((H 3 Z).trans h3) (Fld.id _) Z isAgg51 sizeOf51))<|og 6 false (fun G Q U W H D=>zA8 call56 (zD5 (q18 G) (d.fr W.size) (hG0.fr (j.trans W)) (D.h 0 G Z) (D.h 1 G Z)))<|og 6 false (fun G Q U W H D=>zA8 call57 (zFL (q20 G) (d.fr W.size) ((f_u12.fr W).eq (D.h 0 G Z)) (D.h 1 G Z)))<|og 6 false (fun G Q U W H D=>zBq (D.h 0 G Z))<|op (fun Q U W H D=>zAF (!x15) (D.g 0 Z) (fun hc=>by show _=Value.bool x21;rw [q22,hc];exact Z) (fun hc=>by have a2:Q 29 = .bool (!x19):=D 1 _ _ _ Z Z Z Z (zAc Z (zAP hc));show _=Value.bool x21;rw [q22,hc];exact a2))<|oz
 intro R w m n p d j
 obtain ⟨h3,h4,h5⟩:=k3 n h3 h4 h5
 have h30:=p.r 13 Z
 replace f_u12:=f_u12.fr m
 replace q:=q.fr m
 refine zQ2 x21 h30 (fun c23=>?_) (fun c23=>?_)
 have c:=zAO c23 c
 refine zQB d j (eB false::[]) ?_ ?_
 exact op (fun Q U W H D=>zA2 Z)<|oz
 intro R w m n p d j
 have h2:=p.r 0 Z
 replace q:=q.fr m
 replace q:IniOK [] A w:=q.sub [] N
 refine HT.ret ?_
 obtain rfl:=si c
 exact ⟨.inr Z,[R 2],⟨Z,N⟩,h2,j⟩
 have c:=zAN c23 c
 refine zQA ?_
 refine zQ9 ?_
 refine zQB d j (eR u12::eI (x10.length:Int)::eB ((x10.length:Int)==0)::[]) ?_ ?_
 exact om h5<|op (fun Q U W H D=>zAe (aT:=#[]) ((f_u12.fr W).eq (D.g 0 Z)) underlying27)<|op (fun Q U W H D=>zAo (D.g 0 Z) Z)<|oz
 intro R w m n p d j
 obtain ⟨h3,h4,h5⟩:=k3 n h3 h4 h5
 have h33:=p.r 2 Z
 replace f_u12:=f_u12.fr m
 replace q:=q.fr m
 refine zQ2 ((x10.length:Int)==0) h33 (fun c24=>?_) (fun c24=>?_)
 have c:=zAO c24 c
 refine zQ9 ?_
 obtain ⟨x25,q26,c⟩:=zA4 c
 obtain ⟨x27,q28,c⟩:=zA4 c
 obtain ⟨x29,q30,c⟩:=zAD c
 refine HT.u d j (eF (.rep zA0 A x4.1)::eB x25::eB (!x25)::eB (!x25)::gF (true&&((!x25)==false)) (.rep zA0 A x4.2)::gB (true&&((!x25)==false)) x27::gB (true&&((!x25)==false)) (!x27)::eB x29::eB x29::[]) ?_ ?_
 exact op (fun Q U W H D=>(zAC ((q.fr W).ok 0 _ Z).1 ((H 3 Z).trans h3) (Fld.id _) Z isAgg51 sizeOf51))<|op (fun Q U W H D=>zA8 call59 (zCN (q26 Z) (d.fr W.size) (D.g 0 Z)))<|op (fun Q U W H D=>zBq (D.g 0 Z))<|ov<|og 3 false (fun G Q U W H D=>(zAC ((q.fr W).ok 1 _ Z).1 ((H 4 Z).trans h4) (Fld.id _) Z isAgg51 sizeOf51))<|og 3 false (fun G Q U W H D=>zA8 call59 (zCN (q28 G) (d.fr W.size) (D.h 0 G Z)))<|og 3 false (fun G Q U W H D=>zBq (D.h 0 G Z))<|op (fun Q U W H D=>zAF (!x25) (D.g 0 Z) (fun hc=>by show _=Value.bool x29;rw [q30,hc];exact Z) (fun hc=>by have a2:Q 40 = .bool (!x27):=D 1 _ _ _ Z Z Z Z (zAc Z (zAP hc));show _=Value.bool x29;rw [q30,hc];exact a2))<|oa<|oz
 intro R w m n p d j
 have h2:=p.r 8 Z
 replace q:=q.fr m
 replace q:IniOK [] A w:=q.sub [] N
 refine HT.ret ?_
 obtain rfl:=si c
 exact ⟨.inr Z,[R 2],⟨Z,N⟩,h2,j⟩
 have c:=zAN c24 c
 refine zQA ?_
 obtain ⟨x31,q32,c⟩:=zA4 c
 refine zQB d j (eF (.rep zA0 A x4.1)::eF (.rep zA0 A x4.1)::eF (.rep (eSl (eInt .i64)) A x31)::eF (.rep (eSl (eInt .i64)) A x31)::[]) ?_ ?_
 exact op (fun Q U W H D=>(zAC ((q.fr W).ok 0 _ Z).1 ((H 3 Z).trans h3) (Fld.id _) Z isAgg51 sizeOf51))<|op (fun Q U W H D=>(zAC ((q.fr W).ok 0 _ Z).1 ((H 3 Z).trans h3) (Fld.id _) Z isAgg51 sizeOf51))<|op (fun Q U W H D=>zA8 call56 (zD5 (q32 Z) (d.fr W.size) (hG0.fr (j.trans W)) (D.g 0 Z) (D.g 1 Z)))<|op (fun Q U W H D=>zA2 (D.g 0 Z))<|oz
 intro R w m n p d j
 obtain ⟨h3,h5⟩:=k2 n h3 h5
 obtain ⟨u33,h6,f_u33⟩:∃ u,R 6=u∧Rep (eSl (eInt .i64)) A w u x31:=⟨_,Z,p 3 _ _ Z Z Z⟩
 replace f_u12:=f_u12.fr m
 replace q:=q.fr m
 replace q:IniOK [ob (.pointer (some ⟨b3_5,0,none⟩)) (.box w0.heap.size 51 zA0 x4.1)] A w:=q.sub [(0,ob (.pointer (some ⟨b3_5,0,none⟩)) (.box w0.heap.size 51 zA0 x4.1))] ⟨Z,Z,N⟩
 refine zQ9 ?_
 refine zQ9 ?_
 obtain ⟨e34,c⟩:=zA5 c
 obtain ⟨x35,q36,c⟩:=zA4 c
 obtain ⟨e37,e38,c⟩:=ck2 c
 obtain ⟨x39,q40,c⟩:=zAD c
 obtain ⟨x41,q42,c⟩:=zAD c
 refine HT.u d j (eR (.pointer (some ⟨b3_5,3,none⟩))::eF (.rep (eSl eStr) A x4.1.2.2.2)::eF (.qtr eStr A (gtD x4.1.2.2.2 0))::eF (.rep eStr A (gtD x4.1.2.2.2 0))::eF (.rep eStr A x35)::eB (!(x35==([]:List UInt8)))::eB (!(x35==([]:List UInt8)))::gR (true&&((!(x35==([]:List UInt8)))==true)) u33::gF (true&&((!(x35==([]:List UInt8)))==true)) (.qtr (eInt .i64) A (gtD x31 0))::gI (true&&((!(x35==([]:List UInt8)))==true)) (gtD x31 0)::gB (true&&((!(x35==([]:List UInt8)))==true)) ((gtD x31 0) != 1000)::gB (true&&((!(x35==([]:List UInt8)))==true)) ((gtD x31 0) != 1000)::gR ((true&&((!(x35==([]:List UInt8)))==true))&&(((gtD x31 0) != 1000)==false)) u33::gF ((true&&((!(x35==([]:List UInt8)))==true))&&(((gtD x31 0) != 1000)==false)) (.qtr (eInt .i64) A (gtD x31 1))::gI ((true&&((!(x35==([]:List UInt8)))==true))&&(((gtD x31 0) != 1000)==false)) (gtD x31 1)::gB ((true&&((!(x35==([]:List UInt8)))==true))&&(((gtD x31 0) != 1000)==false)) ((gtD x31 1) != 1000)::gB (true&&((!(x35==([]:List UInt8)))==true)) x39::eB x41::[]) ?_ ?_
 exact op (fun Q U W H D=>zAA ((H 3 Z).trans h3) zBs sizeOf46 (by decide) Z)<|op (fun Q U W H D=>(zAC ((q.fr W).ok 0 _ Z).1 (D.g 0 Z) zAS Z isAgg46 sizeOf46))<|op (fun Q U W H D=>zA7 (D.g 0 Z) Z underlying46 sizeOf9 e34)<|op (fun Q U W H D=>(zAT (QRep.ptr (D.g 0 Z)) isAgg9 sizeOf9))<|op (fun Q U W H D=>zA8 call60 (zDA (q36 Z) (d.fr W.size) (D.g 0 Z)))<|op (fun Q U W H D=>zFk (D.g 0 Z) ⟨_,Z,⟨_,Z,Z,by decide⟩⟩)<|ov<|gm 6 true h6<|og 6 true (fun G Q U W H D=>zA7 ((f_u33.fr W).eq (D.h 0 G Z)) Z underlying27 sizeOf3 (gd e37 G))<|og 6 true (fun G Q U W H D=>OpF.int (zAT (QRep.ptr (D.h 0 G Z)) isAgg3 sizeOf3))<|og 6 true (fun G Q U W H D=>zFq (D.h 0 G Z) Z)<|og 6 true (fun G Q U W H D=>zBk (D.h 0 G Z))<|gm 11 false h6<|og 11 false (fun G Q U W H D=>zA7 ((f_u33.fr W).eq (D.h 0 G Z)) Z underlying27 sizeOf3 (gd e38 G))<|og 11 false (fun G Q U W H D=>OpF.int (zAT (QRep.ptr (D.h 0 G Z)) isAgg3 sizeOf3))<|og 11 false (fun G Q U W H D=>zFq (D.h 0 G Z) Z)<|og 6 true (fun G Q U W H D=>zAF ((gtD x31 0) != 1000) (D.h 0 G Z) (fun hc=>by show _=Value.bool x39;rw [q40,hc];exact Z) (fun hc=>by have a2:Q 60 = .bool ((gtD x31 1) != 1000):=D 1 _ _ _ Z Z Z Z (zAc G (zAP hc));show _=Value.bool x39;rw [q40,hc];exact a2))<|op (fun Q U W H D=>zAF (!(x35==([]:List UInt8))) (D.g 0 Z) (fun hc=>by have a1:Q 61 = .bool x39:=D 1 _ _ _ Z Z Z Z (zAc Z (zAP hc));show _=Value.bool x41;rw [q42,hc];exact a1) (fun hc=>by show _=Value.bool x41;rw [q42,hc];exact Z))<|oz
 intro R w m n p d j
 obtain ⟨h3,h5,h6⟩:=k3 n h3 h5 h6
 have h62:=p.r 17 Z
 replace f_u12:=f_u12.fr m
 replace f_u33:=f_u33.fr m
 replace q:=q.fr m
 refine zQ2 x41 h62 (fun c43=>?_) (fun c43=>?_)
 have c:=zAO c43 c
 refine zQB d j (eB false::[]) ?_ ?_
 exact op (fun Q U W H D=>zA2 Z)<|oz
 intro R w m n p d j
 have h2:=p.r 0 Z
 replace q:=q.fr m
 replace q:IniOK [] A w:=q.sub [] N
 refine HT.ret ?_
 obtain rfl:=si c
 exact ⟨.inr Z,[R 2],⟨Z,N⟩,h2,j⟩
 have c:=zAN c43 c
 refine zQA ?_
 refine zQ9 ?_
 refine zQ9 ?_
 obtain ⟨e44,c⟩:=zA5 c
 obtain ⟨x45,q46,c⟩:=zA4 c
 obtain ⟨e47,c⟩:=zA5 c
 obtain ⟨x48,q49,c⟩:=zAD c
 refine HT.u d j (eR (.pointer (some ⟨b3_5,3,none⟩))::eF (.rep (eSl eStr) A x4.1.2.2.2)::eF (.qtr eStr A (gtD x4.1.2.2.2 2))::eF (.rep eStr A (gtD x4.1.2.2.2 2))::eI x45::eB (decide (0<x45))::eB (decide (0<x45))::gR (true&&((decide (0<x45))==true)) u33::gF (true&&((decide (0<x45))==true)) (.qtr (eInt .i64) A (gtD x31 4))::gI (true&&((decide (0<x45))==true)) (gtD x31 4)::gB (true&&((decide (0<x45))==true)) ((gtD x31 4) != 1000)::eB x48::[]) ?_ ?_
 exact op (fun Q U W H D=>zAA ((H 3 Z).trans h3) zBs sizeOf46 (by decide) Z)<|op (fun Q U W H D=>(zAC ((q.fr W).ok 0 _ Z).1 (D.g 0 Z) zAS Z isAgg46 sizeOf46))<|op (fun Q U W H D=>zA7 (D.g 0 Z) Z underlying46 sizeOf9 e44)<|op (fun Q U W H D=>(zAT (QRep.ptr (D.g 0 Z)) isAgg9 sizeOf9))<|op (fun Q U W H D=>zA8 call61 (zE3 (q46 Z) (d.fr W.size) (D.g 0 Z)))<|op (fun Q U W H D=>zCM (D.g 0 Z) Z)<|ov<|gm 6 true h6<|og 6 true (fun G Q U W H D=>zA7 ((f_u33.fr W).eq (D.h 0 G Z)) Z underlying27 sizeOf3 (gd e47 G))<|og 6 true (fun G Q U W H D=>OpF.int (zAT (QRep.ptr (D.h 0 G Z)) isAgg3 sizeOf3))<|og 6 true (fun G Q U W H D=>zFq (D.h 0 G Z) Z)<|op (fun Q U W H D=>zAF (decide (0<x45)) (D.g 0 Z) (fun hc=>by have a1:Q 73 = .bool ((gtD x31 4) != 1000):=D 1 _ _ _ Z Z Z Z (zAc Z (zAP hc));show _=Value.bool x48;rw [q49,hc];exact a1) (fun hc=>by show _=Value.bool x48;rw [q49,hc];exact Z))<|oz
 intro R w m n p d j
 replace h5:=k1 n h5
 have h74:=p.r 11 Z
 replace f_u12:=f_u12.fr m
 replace q:=q.fr m
 replace q:IniOK [] A w:=q.sub [] N
 refine zQ2 x48 h74 (fun c50=>?_) (fun c50=>?_)
 have c:=zAO c50 c
 refine zQB d j (eB false::[]) ?_ ?_
 exact op (fun Q U W H D=>zA2 Z)<|oz
 intro R w m n p d j
 have h2:=p.r 0 Z
 replace q:=q.fr m
 refine HT.ret ?_
 obtain rfl:=si c
 exact ⟨.inr Z,[R 2],⟨Z,N⟩,h2,j⟩
 have c:=zAN c50 c
 refine zQA ?_
 obtain ⟨x51,q52,c⟩:=zA4 c
 refine zQB d j (eR u12::eB x51::eB x51::[]) ?_ ?_
 exact om h5<|op (fun Q U W H D=>zA8 call62 (zFM (q52 Z) (d.fr W.size) ((f_u12.fr W).eq (D.g 0 Z))))<|oa<|oz
 intro R w m n p d j
 have h2:=p.r 2 Z
 replace q:=q.fr m
 refine HT.ret ?_
 obtain rfl:=si c
 exact ⟨.inr Z,[R 2],⟨Z,N⟩,h2,j⟩
end Go.Proofs.YtcodfkieaoomnaaGreatDoor

namespace Go.Proofs.YtcodfkieaoomnaaGreatDoor
open Go.RowKit
set_option linter.unusedVariables false
theorem zA6 {α β:Type} [Inhabited α] {x:α} {k:α→Option β}:cl true (some x) k=k x:=rfl
theorem zL6 {α β:Type} [Inhabited α] {o:Option α} {k:α→Option β}:cl false o k=k default:=rfl
theorem zMu {α β:Type} [Inhabited α] {g:Bool} {x:α} {k:α→Option β}:cl g (some x) k=k (bif g then x else default):=by cases g <;> rfl
theorem zBN {α β:Type} {e:α} {k:α→Option β}:bd e k=k e:=rfl
theorem ck_t {α:Type} {b:Bool} {k:Option α} (h:b=true):ck b k=k:=by rw [h];rfl
theorem zCK {α:Type} {k:Option α}:ck true k=k:=rfl
theorem zM1 {ρ σ γ:Type} {s:σ} {f:ρ→Option γ} {g:σ→Option γ}:exM (.go s) f g=g s:=rfl
theorem zBF {i:Nat} {n:Nat} (h:i<n):inR (i:Int) n=true:=zCe.2 ⟨by omega,by omega⟩
theorem zNi {i:Int} {n:Nat} (h0:0≤i) (h:i<n):inR i n=true:=zCe.2 ⟨h0,h⟩
theorem zAl {x:Int} (h0:-9223372036854775808≤x) (h1:x≤9223372036854775807):i64B x=true:=by simp [i64B,h0,h1]
theorem zBC {α:Type} [Inhabited α] {xs:List α} {i:Nat} {x:α} (h:xs[i]? = some x):gtD xs (i:Int)=x:=by
  unfold gtD
  rw [Int.toNat_natCast,List.getD_eq_getElem?_getD,h]
  rfl
end Go.Proofs.YtcodfkieaoomnaaGreatDoor
namespace Go.Proofs.YtcodfkieaoomnaaGreatDoor
open Go.RowKit
set_option linter.unusedVariables false
theorem zBg {n:Nat} (h:n≤4294967296):zC2 n=true:=Nat.ble_eq_true_of_le h
theorem zMN {n:Nat} (h:n≤1048577):mkOK (n:Int)=true:=by simp [mkOK];omega
theorem zFc : ∀ (a : List UInt8), bLt a a = false
  | []=>rfl
  | a::x=>by
    unfold bLt Op.bytesLess
    rw [show Op.bytesLess x x=false from zFc x]
    simp
theorem zJk : ∀ {a b c : List UInt8}, bLt a b = true → bLt b c = true → bLt a c = true
  | _,_,[],_,h=>by cases ‹List UInt8› <;> simp [bLt,Op.bytesLess] at h
  | _,[],_::_,h,_=>by cases ‹List UInt8› <;> simp [bLt,Op.bytesLess] at h
  | [],_::_,_::_,_,_=>rfl
  | a::x,b::y,c::z,h,k=>by
    unfold bLt Op.bytesLess at h k ⊢
    simp only [Bool.or_eq_true,Bool.and_eq_true,decide_eq_true_eq,beq_iff_eq] at h k ⊢
    rcases h with h | ⟨rfl,h⟩
    · rcases k with k | ⟨rfl, k⟩
      · exact .inl (UInt8.lt_trans h k)
      · exact .inl h
    · rcases k with k | ⟨rfl, k⟩
      · exact .inl k
      · exact .inr ⟨rfl,zJk h k⟩
theorem zKN : ∀ {a b : List UInt8}, bLt a b = false → bLt b a = false → a = b
  | [],[],_,_=>rfl
  | [],_::_,h,_=>by simp [bLt,Op.bytesLess] at h
  | _::_,[],_,h=>by simp [bLt,Op.bytesLess] at h
  | a::x,b::y,h,k=>by
    unfold bLt Op.bytesLess at h k
    simp only [Bool.or_eq_false_iff,Bool.and_eq_false_imp,decide_eq_false_iff_not,beq_iff_eq] at h k
    have e:a=b:=by
      rcases UInt8.lt_or_lt_of_ne (a:=a) (b:=b) |> fun f=>Classical.em (a=b) |>.imp id f with e | e | e
      · exact e
      · exact absurd e h.1
      · exact absurd e k.1
    subst e
    rw [zKN (h.2 rfl) (k.2 rfl)]
theorem zPc (a b:List UInt8):decide (a≤b) = !(bLt b a):=by
  have h:=Go.Proofs.bytesLess_eq b a
  unfold bLt
  rw [h]
  by_cases hlt:b<a
  · have : ¬ a ≤ b := List.not_le.2 hlt
    rw [decide_eq_true hlt,decide_eq_false this]
    rfl
  · have : a ≤ b := List.not_lt.1 hlt
    rw [decide_eq_false hlt,decide_eq_true this]
    rfl
theorem zIv {α : Type} {le : α → α → Prop} (anti : ∀ a b, le a b → le b a → a = b) : ∀ {l m : List α}, l.Perm m → l.Pairwise le → m.Pairwise le → l = m
  | [],m,hp,_,_=>hp.nil_eq
  | a::l,[],hp,_,_=>by have:=hp.length_eq;simp at this
  | a::l,b::m,hp,hl,hm=>by
    have e:a=b:=by
      rcases List.mem_cons.1 (hp.subset (List.mem_cons_self ..)) with e | e
      · exact e
      · rcases List.mem_cons.1 (hp.symm.subset (List.mem_cons_self ..)) with e' | e'
        · exact e'.symm
        · exact anti _ _ ((List.pairwise_cons.1 hl).1 _ e') ((List.pairwise_cons.1 hm).1 _ e)
    subst e
    rw [zIv anti (List.Perm.cons_inv hp) (List.pairwise_cons.1 hl).2 (List.pairwise_cons.1 hm).2]
end Go.Proofs.YtcodfkieaoomnaaGreatDoor
namespace Go.Proofs.YtcodfkieaoomnaaGreatDoor
open Go.RowKit
set_option linter.unusedVariables false
theorem lt_t {i n:Nat} (h:i<n):decide ((i:Int)<(n:Int))=true:=by simpa using h
theorem lt_f (n:Nat):decide ((n:Int)<(n:Int))=false:=decide_eq_false (Int.lt_irrefl _)
theorem zFs {i:Nat} (hn:i≤4294967296):i64B ((i:Int)+1)=true:=zAl (by omega) (by omega)
theorem zDn {α:Type} {xs:List α} {i:Nat} {x:α} (h:xs[i]? = some x):i<xs.length:=(List.getElem?_eq_some_iff.1 h).1
theorem zGB {α:Type} {xs:List α} {i:Nat} {x:α} (h:xs[i]? = some x):x ∈ xs:=List.mem_of_getElem? h
theorem zBe (i:Nat):(i:Int)+1=((i+1:Nat):Int):=rfl
theorem zJX {α:Type} (xs:List α) (i:Nat) (x:α):xs.set ((i:Nat):Int).toNat x=xs.set i x:=by rw [Int.toNat_natCast]
theorem zEf {α:Type} {xs:List α} {i:Nat} {x:α} (h:xs[i]? = some x):xs.drop i=x::xs.drop (i+1):=by
  obtain ⟨h1,rfl⟩:=List.getElem?_eq_some_iff.1 h
  exact List.drop_eq_getElem_cons h1
end Go.Proofs.YtcodfkieaoomnaaGreatDoor
namespace Go.Proofs.YtcodfkieaoomnaaGreatDoor
open Go.RowKit
set_option linter.unusedVariables false
theorem zFI {α ρ : Type} {xs : List α} {p : α → Bool} {r : ρ} {L : Nat → Int → Option (Ex ρ Unit)}
    (hs:∀ k (i:Nat) x,xs[i]? = some x→L (k+1) (i:Int)=bif p x then some (.ret r) else L k ((i+1:Nat):Int)) (he:∀ k,L (k+1) (xs.length:Int)=some (.go ())) {fu:Nat} (hf:xs.length<fu) :
    L fu (0:Int)=some (bif xs.any p then .ret r else .go ()):=by
  have key:∀ m i k,i+m=xs.length→m<k→L k ((i:Nat):Int)=some (bif (xs.drop i).any p then .ret r else .go ()):=by
    intro m
    induction m with
    | zero=>
      intro i k hi hk
      obtain ⟨k,rfl⟩:∃ q,k=q+1:=⟨k-1,by omega⟩
      obtain rfl:i=xs.length:=by omega
      rw [he,List.drop_length]
      rfl
    | succ m ih=>
      intro i k hi hk
      obtain ⟨k,rfl⟩:∃ q,k=q+1:=⟨k-1,by omega⟩
      have hx:=List.getElem?_eq_getElem (show i<xs.length by omega)
      rw [hs k i _ hx,zEf hx,List.any_cons]
      cases p xs[i]
      · exact ih (i+1) k (by omega) (by omega)
      · rfl
  have:=key xs.length 0 fu (by omega) hf
  rwa [show ((0:Nat):Int)=0 from rfl,List.drop_zero] at this
def adjB {α : Type} (b : α → α → Bool) : α → List α → Bool
  | _,[]=>false
  | p,x::xs=>b p x || adjB b x xs
def zIe {α : Type} (b0 : α → Bool) (b : α → α → Bool) : List α → Bool
  | []=>false
  | x::xs=>b0 x || adjB b x xs
theorem zLM {α ρ : Type} {xs : List α} {b0 : α → Bool} {b : α → α → Bool} {r : ρ} {L : Nat → Int → Option (Ex ρ Unit)}
    (h0:∀ k x,xs[0]? = some x→L (k+1) (0:Int)=bif b0 x then some (.ret r) else L k ((1:Nat):Int))
    (hs:∀ k (i:Nat) q x,xs[i]? = some q→xs[i+1]? = some x→L (k+1) ((i+1:Nat):Int)=bif b q x then some (.ret r) else L k ((i+1+1:Nat):Int))
    (he:∀ k,L (k+1) (xs.length:Int)=some (.go ())) {fu:Nat} (hf:xs.length<fu) :
    L fu (0:Int)=some (bif zIe b0 b xs then .ret r else .go ()):=by
  have key:∀ m i k q,i+1+m=xs.length→m<k→xs[i]? = some q→L k ((i+1:Nat):Int)=some (bif adjB b q (xs.drop (i+1)) then .ret r else .go ()):=by
    intro m
    induction m with
    | zero=>
      intro i k q hi hk hq
      obtain ⟨k,rfl⟩:∃ q,k=q+1:=⟨k-1,by omega⟩
      have e:i+1=xs.length:=by omega
      rw [e,he,List.drop_length]
      rfl
    | succ m ih=>
      intro i k q hi hk hq
      obtain ⟨k,rfl⟩:∃ q,k=q+1:=⟨k-1,by omega⟩
      have hx:=List.getElem?_eq_getElem (show i+1<xs.length by omega)
      rw [hs k i q _ hq hx,zEf hx,adjB]
      cases b q xs[i+1]
      · exact ih (i+1) k _ (by omega) (by omega) hx
      · rfl
  obtain ⟨k,rfl⟩:∃ q,fu=q+1:=⟨fu-1,by omega⟩
  cases xs with
  | nil=>exact he k
  | cons x xs=>
    rw [h0 k x rfl,zIe]
    cases b0 x
    · have := key xs.length 0 k x (by simp; omega) (by simp at hf; omega) rfl
      exact this
    · rfl
def ixI : Nat → List Bool → Option Nat
  | _,[]=>none
  | i,b::bs=>bif b then some i else ixI (i+1) bs
theorem zJ5 : ∀ {bs : List Bool} {i j : Nat}, ixI i bs = some j → i ≤ j ∧ bs[j - i]? = some true ∧ ∀ q, q < j - i → bs[q]? = some false
  | [],i,j,h=>by cases h
  | b::bs,i,j,h=>by
    unfold ixI at h
    cases b with
    | true=>
      obtain rfl:=Option.some.inj h
      refine ⟨Nat.le_refl _,by simp,fun q hq=>by omega⟩
    | false=>
      obtain ⟨h1,h2,h3⟩:=zJ5 (bs:=bs) (i:=i+1) h
      refine ⟨by omega,?_,fun q hq=>?_⟩
      · rw [show j - i = (j - (i + 1)) + 1 by omega, List.getElem?_cons_succ]
        exact h2
      · cases q with
        | zero=>rfl
        | succ q=>rw [List.getElem?_cons_succ];exact h3 q (by omega)
theorem zKr : ∀ {bs : List Bool} {i : Nat}, ixI i bs = none → ∀ b ∈ bs, b = false
  | [],i,h,b,hb=>by cases hb
  | c::bs,i,h,b,hb=>by
    unfold ixI at h
    cases c with
    | true=>cases h
    | false=>
      rcases List.mem_cons.1 hb with rfl | hb
      · rfl
      · exact zKr (bs:=bs) (i:=i+1) h b hb
theorem zN1 {α : Type} {xs : List α} {p : α → Bool} {L : Nat → Int → Option (Ex Int Unit)}
    (hs:∀ k (i:Nat) x,xs[i]? = some x→L (k+1) (i:Int)=bif p x then some (.ret (i:Int)) else L k ((i+1:Nat):Int)) (he:∀ k,L (k+1) (xs.length:Int)=some (.go ())) {fu:Nat} (hf:xs.length<fu) :
    L fu (0:Int)=some (match ixI 0 (xs.map p) with | some i=>.ret (i:Int) | none=>.go ()):=by
  have key:∀ m i k,i+m=xs.length→m<k→L k ((i:Nat):Int)=some (match ixI i ((xs.drop i).map p) with | some i=>.ret (i:Int) | none=>.go ()):=by
    intro m
    induction m with
    | zero=>
      intro i k hi hk
      obtain ⟨k,rfl⟩:∃ q,k=q+1:=⟨k-1,by omega⟩
      obtain rfl:i=xs.length:=by omega
      rw [he,List.drop_length]
      rfl
    | succ m ih=>
      intro i k hi hk
      obtain ⟨k,rfl⟩:∃ q,k=q+1:=⟨k-1,by omega⟩
      have hx:=List.getElem?_eq_getElem (show i<xs.length by omega)
      rw [hs k i _ hx,zEf hx,List.map_cons,ixI]
      cases p xs[i]
      · exact ih (i+1) k (by omega) (by omega)
      · rfl
  have:=key xs.length 0 fu (by omega) hf
  rwa [show ((0:Nat):Int)=0 from rfl,List.drop_zero] at this
theorem zEA {α σ : Type} {xs : List α} {g : σ → α → σ} {Inv : Nat → σ → Prop} {L : Nat → Int → σ → Option σ}
    (hs:∀ k (i:Nat) a x,xs[i]? = some x→Inv i a→L (k+1) (i:Int) a=L k ((i+1:Nat):Int) (g a x)) (hI:∀ (i:Nat) a x,xs[i]? = some x→Inv i a→Inv (i+1) (g a x))
    (he:∀ k a,Inv xs.length a→L (k+1) (xs.length:Int) a=some a) {a:σ} (h0:Inv 0 a) {fu:Nat} (hf:xs.length<fu) :
    L fu (0:Int) a=some (xs.foldl g a)∧Inv xs.length (xs.foldl g a):=by
  have key:∀ m i k a,i+m=xs.length→m<k→Inv i a→L k ((i:Nat):Int) a=some ((xs.drop i).foldl g a)∧Inv xs.length ((xs.drop i).foldl g a):=by
    intro m
    induction m with
    | zero=>
      intro i k a hi hk ha
      obtain ⟨k,rfl⟩:∃ q,k=q+1:=⟨k-1,by omega⟩
      obtain rfl:i=xs.length:=by omega
      rw [he k a ha,List.drop_length]
      exact ⟨rfl,ha⟩
    | succ m ih=>
      intro i k a hi hk ha
      obtain ⟨k,rfl⟩:∃ q,k=q+1:=⟨k-1,by omega⟩
      have hx:=List.getElem?_eq_getElem (show i<xs.length by omega)
      rw [hs k i a _ hx ha,zEf hx,List.foldl_cons]
      exact ih (i+1) k _ (by omega) (by omega) (hI i a _ hx ha)
  have:=key xs.length 0 fu a (by omega) hf h0
  rwa [show ((0:Nat):Int)=0 from rfl,List.drop_zero] at this
theorem zCU {i:Nat} (hn:i≤4294967296):i64B ((i+1:Nat):Int)=true:=zAl (by omega) (by omega)
theorem zIa (i:Nat) (hn:i≤4294967296):i64B (i:Int)=true:=zAl (by omega) (by omega)
theorem lt_0 {n:Nat} (h:0<n):decide ((0:Int)<(n:Int))=true:=decide_eq_true (by omega)
theorem zKB {n:Nat} (h:0<n):inR (0:Int) n=true:=zBF (i:=0) h
theorem zNI {α:Type} [Inhabited α] {xs:List α} {x:α} (h:xs[0]? = some x):gtD xs (0:Int)=x:=zBC (i:=0) h
theorem zNQ:(0:Int)+1=((1:Nat):Int):=rfl
theorem zKt:i64B ((1:Nat):Int)=true:=rfl
theorem zPe:decide ((0:Int)<(0:Int))=false:=rfl
theorem zJp (i:Nat):((i+1:Nat):Int)-1=(i:Int):=by omega
theorem zPO (i:Nat):decide ((0:Int)<((i+1:Nat):Int))=true:=decide_eq_true (by omega)
end Go.Proofs.YtcodfkieaoomnaaGreatDoor
namespace Go.Proofs.YtcodfkieaoomnaaGreatDoor
open Go.RowKit
set_option linter.unusedVariables false
set_option linter.unusedSimpArgs false
theorem zDy {t:List UInt8} {i:Nat} {c:UInt8} (h:t[i]? = some c):bAt t (i:Int)=(c.toNat:Int):=by
  unfold bAt
  rw [Int.toNat_natCast,List.getD_eq_getElem?_getD,h]
  rfl
def smI (n:Int):Bool:=decide (97≤n)&&decide (n≤122)
def dgI (n:Int):Bool:=decide (48≤n)&&decide (n≤57)
def cpI (n:Int):Bool:=decide (65≤n)&&decide (n≤90)
def naC (c:UInt8):Bool:=!(smI c.toNat) && !(dgI c.toNat)
theorem zJm {fu:Nat} {t:List UInt8} (hf:t.length<fu) (hl:t.length≤4294967296):zC6 fu t=some (!(t.any naC)):=by
  unfold zC6
  have h:=zFI (xs:=t) (p:=naC) (r:=false) (L:=zB2 fu t) (fun k i c hc=>by
    have hi:=zDn hc
    rw [zB2,lt_t hi,cond_true]
    simp only [zBF hi,zDy hc,zC1,zCQ,zBN,zMu,zA6,Bool.or_true,zCK,zCU (show i≤4294967296 by omega),zBe,naC,smI,dgI]
    generalize (decide ((97:Int)≤(c.toNat:Int))&&decide ((c.toNat:Int)≤122))=s
    generalize (decide ((48:Int)≤(c.toNat:Int))&&decide ((c.toNat:Int)≤57))=d
    cases s <;> cases d <;> rfl) (fun k=>by rw [zB2,lt_f];rfl) hf
  rw [h,zA6]
  cases t.any naC <;> rfl
def tokX (t:List UInt8):Bool:=(t == []) || t.any naC
def tokB (l:List (List UInt8)):Bool:=!(zIe tokX (fun p x=>tokX x || !(bLt p x)) l)
theorem zLR {fu:Nat} {l:List (List UInt8)} (hf:1048577≤fu) (hl:l.length≤1048576) (he:∀ t ∈ l,t.length≤1048576):zCS fu l=some (tokB l):=by
  unfold zCS
  have h:=zLM (xs:=l) (b0:=tokX) (b:=fun p x=>tokX x || !(bLt p x)) (r:=false) (L:=zBH fu l) (fun k x hx=>by
    have hi:=zDn hx
    have hal:=zJm (fu:=fu) (t:=x) (by have:=he x (zGB hx);omega) (by have:=he x (zGB hx);omega)
    rw [zBH,lt_0 hi,cond_true]
    simp only [zKB hi,zNI hx,zNQ,zKt,zPe,hal,zBN,zMu,zCK,tokX]
    cases (x == []) <;> cases x.any naC <;> rfl) (fun k i q x hq hx=>by
    have hi:=zDn hx
    have hi':=zDn hq
    have hal:=zJm (fu:=fu) (t:=x) (by have:=he x (zGB hx);omega) (by have:=he x (zGB hx);omega)
    rw [zBH,lt_t hi,cond_true]
    simp only [zBF hi,zBF hi',zBC hx,zJp,zBC hq,zPO,hal,zBN,zMu,zAl (show -9223372036854775808≤(i:Int) by omega) (show (i:Int)≤9223372036854775807 by omega),Bool.or_true,zCK,zCU (show i+1≤4294967296 by omega),zBe,tokX]
    cases (x == []) <;> cases x.any naC <;> cases bLt q x <;> rfl) (fun k=>by rw [zBH,lt_f];rfl) (show l.length<fu by omega)
  rw [h,zA6]
  unfold tokB
  cases zIe tokX (fun p x=>tokX x || !(bLt p x)) l <;> rfl
def zHo (n:Int):Int:=bif cpI n then n+32 else n
theorem zKg (n:Int) (h0:0≤n) (h1:n≤255):IntKind.u8.wrap n=n:=by
  have:n % 256=n:=Int.emod_eq_of_lt h0 (by omega)
  simp [IntKind.wrap,IntKind.bits,this,show IntKind.u8.signed=false from rfl]
theorem zOB {fu:Nat} {t:List UInt8} (hf:t.length<fu) (hl:t.length≤1048576):zBh fu t=some (t.map fun c=>UInt8.ofNat (zHo c.toNat).toNat):=by
  unfold zBh
  have h:=zEA (xs:=t) (g:=fun (a:List Int) (c:UInt8)=>a ++ [zHo c.toNat]) (Inv:=fun i a=>a.length=i) (L:=zBV fu t) (fun k i a c hc ha=>by
    have hi:=zDn hc
    have hcu:c.toNat<256:=c.toNat_lt
    rw [zBV,lt_t hi,cond_true]
    simp only [zBF hi,zDy hc,zBN,zCK,List.length_singleton,zBg (show a.length+1≤4294967296 by omega),zCU (show i≤4294967296 by omega),zBe,zHo,cpI]
    cases hcp:(decide ((65:Int)≤(c.toNat:Int))&&decide ((c.toNat:Int)≤90))
    · rfl
    · simp only [Bool.and_eq_true, decide_eq_true_eq] at hcp
      rw [zKg _ (by omega) (by omega)]
      rfl) (fun i a c hc ha=>by simp [ha]) (fun k a ha=>by rw [zBV,lt_f];rfl) (a:=[]) rfl hf
  rw [h.1,zA6]
  have key:∀ (t:List UInt8) (a:List Int),t.foldl (fun (a:List Int) (c:UInt8)=>a ++ [zHo c.toNat]) a=a++t.map fun c=>zHo c.toNat:=by
    intro t
    induction t with
    | nil=>intro a;simp
    | cons c t ih=>intro a;rw [List.foldl_cons,ih];simp
  rw [key,List.nil_append]
  unfold strB
  rw [List.map_map]
  rfl
theorem zOp (t:List UInt8):((t.map fun c=>UInt8.ofNat (zHo c.toNat).toNat)==t) = !(t.any fun c=>cpI c.toNat):=by
  induction t with
  | nil=>rfl
  | cons c t ih=>
    rw [List.map_cons,List.cons_beq_cons,ih,List.any_cons]
    have hcu:c.toNat<256:=c.toNat_lt
    have:(UInt8.ofNat (zHo c.toNat).toNat==c) = !(cpI c.toNat):=by
      unfold zHo
      cases h:cpI c.toNat
      · rw [cond_false, Int.toNat_natCast, UInt8.ofNat_toNat]
        simp
      · rw [cond_true, Bool.not_true, beq_eq_false_iff_ne]
        intro e
        have e2:=congrArg UInt8.toNat e
        unfold cpI at h
        simp only [Bool.and_eq_true,decide_eq_true_eq] at h
        rw [UInt8.toNat_ofNat'] at e2
        omega
    rw [this]
    cases cpI c.toNat <;> rfl
def wdI (n:Int):Bool:=(smI n || cpI n) || dgI n
theorem zMp {fu:Nat} {l:List (List UInt8)} {i:Nat} {t:List UInt8} (ht:l[i]? = some t) (hf:t.length<fu) (hl:t.length≤1048576) (hne:t ≠ []):zAz fu l (i:Int) fu (0:Int)=some (bif t.any naC then .ret false else .go ()):=by
  have hit:=zDn ht
  have h:=zFI (xs:=t) (p:=fun c=>!(wdI c.toNat) || t.any (fun c=>cpI c.toNat)) (r:=false) (L:=zAz fu l (i:Int)) (fun k j c hc=>by
    have hj:=zDn hc
    have hfd:=zOB (fu:=fu) hf hl
    rw [zAz]
    simp only [zBF hit,zBC ht,lt_t hj,cond_true,zBF hj,zDy hc,zD9,zBN,zMu,zA6,hfd,Bool.or_true,zCK,zCU (show j≤4294967296 by omega),zBe,wdI,smI,cpI,dgI]
    generalize ((decide ((97:Int)≤(c.toNat:Int))&&decide ((c.toNat:Int)≤122) || decide ((65:Int)≤(c.toNat:Int))&&decide ((c.toNat:Int)≤90)) || decide ((48:Int)≤(c.toNat:Int))&&decide ((c.toNat:Int)≤57))=s
    cases s
    · rfl
    · have := zOp t
      unfold cpI at this
      simp only [Bool.not_true,Bool.false_or,show (false==false)=true from rfl,Bool.true_and,cond_true,this,Bool.not_not]) (fun k=>by rw [zAz,ck_t (zBF hit),zBC ht,lt_f];rfl) hf
  rw [h]
  congr 2
  have hp:∀ c:UInt8,naC c=(!(wdI c.toNat) || cpI c.toNat):=by
    intro c
    unfold naC wdI
    cases hs:smI c.toNat <;> cases hc:cpI c.toNat <;> cases hd:dgI c.toNat <;> first | rfl | (unfold smI at hs;unfold cpI at hc;unfold dgI at hd;simp only [Bool.and_eq_true,decide_eq_true_eq] at hs hc hd;omega)
  rw [Bool.eq_iff_iff]
  simp only [List.any_eq_true,hp,Bool.or_eq_true]
  constructor
  · rintro ⟨c, hc, h | ⟨d, hd, h⟩⟩
    · exact ⟨c,hc,.inl h⟩
    · exact ⟨d,hd,.inr h⟩
  · rintro ⟨c, hc, h | h⟩
    · exact ⟨c,hc,.inl h⟩
    · exact ⟨c,hc,.inr ⟨c,hc,h⟩⟩
theorem zLO {fu:Nat} {l:List (List UInt8)} (hf:1048577≤fu) (hl:l.length≤1048576) (he:∀ t ∈ l,t.length≤1048576):zCR fu l=some (tokB l):=by
  unfold zCR
  have key:∀ (i:Nat) x,l[i]? = some x→(x == [])=false→zAz fu l (i:Int) fu (0:Int)=some (bif x.any naC then .ret false else .go ()):=fun i x hx hne=>zMp hx (by have:=he x (zGB hx);omega) (he x (zGB hx)) (by intro e;subst e;cases hne)
  have h:=zLM (xs:=l) (b0:=tokX) (b:=fun p x=>tokX x || !(bLt p x)) (r:=false) (L:=zBJ fu l) (fun k x hx=>by
    have hi:=zDn hx
    rw [zBJ,lt_0 hi,cond_true]
    simp only [zKB hi,zNI hx,zNQ,zKt,zPe,zBN,zCK,tokX]
    cases hx0:(x == [])
    · have := key 0 x hx hx0
      rw [show ((0:Nat):Int)=0 from rfl] at this
      simp only [this,zA6]
      cases x.any naC <;> rfl
    · rfl) (fun k i q x hq hx=>by
    have hi:=zDn hx
    have hi':=zDn hq
    rw [zBJ,lt_t hi,cond_true]
    simp only [zBF hi,zBF hi',zBC hx,zJp,zBC hq,zPO,zBN,zAl (show -9223372036854775808≤(i:Int) by omega) (show (i:Int)≤9223372036854775807 by omega),Bool.or_true,zCK,zCU (show i+1≤4294967296 by omega),zBe,tokX]
    cases hx0:(x == [])
    · rw [key (i + 1) x hx hx0]
      simp only [zA6]
      cases x.any naC <;> cases bLt q x <;> rfl
    · cases bLt q x <;> rfl) (fun k=>by rw [zBJ,lt_f];rfl) (show l.length<fu by omega)
  rw [h,zA6]
  unfold tokB
  cases zIe tokX (fun p x=>tokX x || !(bLt p x)) l <;> rfl
end Go.Proofs.YtcodfkieaoomnaaGreatDoor
namespace Go.Proofs.YtcodfkieaoomnaaGreatDoor
open Go.RowKit
set_option linter.unusedVariables false
set_option linter.unusedSimpArgs false
def spC (c : UInt8) : List UInt8 → List (List UInt8)
  | []=>[[]]
  | b :: s => if b = c then [] :: spC c s else match spC c s with
    | []=>[[b]]
    | x::xs=>(b::x)::xs
theorem zK0 (c:UInt8) (s:List UInt8):spC c s ≠ []:=by
  cases s with
  | nil=>simp [spC]
  | cons b s=>
    unfold spC
    split
    · simp
    · cases spC c s <;> simp
theorem zLN {c : UInt8} : ∀ {s : List UInt8}, c ∉ s → spC c s = [s]
  | [],_=>rfl
  | b::s,h=>by
    have h1:b ≠ c:=fun e=>h (e ▸ List.mem_cons_self)
    have h2:=zLN (c:=c) (s:=s) fun h'=>h (List.mem_cons_of_mem _ h')
    unfold spC
    rw [if_neg h1,h2]
theorem zMz {c : UInt8} : ∀ {x s : List UInt8}, c ∉ x → spC c (x ++ c :: s) = x :: spC c s
  | [],s,_=>by
    show spC c (c::s)=_
    rw [spC,if_pos rfl]
  | b::x,s,h=>by
    have h1:b ≠ c:=fun e=>h (e ▸ List.mem_cons_self)
    have h2:=zMz (c:=c) (x:=x) (s:=s) fun h'=>h (List.mem_cons_of_mem _ h')
    rw [List.cons_append,spC,if_neg h1,h2]
theorem zJN (c : UInt8) : ∀ s : List UInt8, (spC c s).length ≤ s.length + 1
  | []=>Nat.le_refl _
  | b::s=>by
    have:=zJN c s
    unfold spC
    split
    · simp only [List.length_cons];omega
    · cases h : spC c s with
      | nil=>simp
      | cons x xs=>rw [h] at this;simp only [List.length_cons] at this ⊢;omega
theorem zJ9 (c : UInt8) : ∀ s : List UInt8, ∀ x ∈ spC c s, x.length ≤ s.length
  | [],x,hx=>by rw [spC] at hx;rw [List.mem_singleton.1 hx];exact Nat.le_refl _
  | b::s,x,hx=>by
    unfold spC at hx
    split at hx
    · rcases List.mem_cons.1 hx with rfl | hx
      · exact Nat.zero_le _
      · exact Nat.le_succ_of_le (zJ9 c s x hx)
    · cases h : spC c s with
      | nil=>exact absurd h (zK0 c s)
      | cons y ys=>
        rw [h] at hx
        rcases List.mem_cons.1 hx with rfl | hx
        · have := zJ9 c s y (by rw [h]; exact List.mem_cons_self)
          simp only [List.length_cons];omega
        · have := zJ9 c s x (by rw [h]; exact List.mem_cons_of_mem _ hx)
          simp only [List.length_cons];omega
theorem zJW {t:List UInt8} {i:Nat} {c:UInt8} (h:t[i]? = some c):bAt t (i:Int)=(c.toNat:Int):=by
  unfold bAt
  simp [List.getD_eq_getElem?_getD,h]
theorem zNV {s:List UInt8} {a b:Nat}:subL s (a:Int) (b:Int)=(s.drop a).take (b-a):=by simp [subL]
theorem zNk {fu : Nat} {s : List UInt8} {c : UInt8} (hs : s.length ≤ 1048576) : ∀ m i a k (acc : List (List UInt8)), i + m = s.length → m < k → a ≤ i → acc.length ≤ i → c ∉ (s.drop a).take (i - a) →
    ∃ q:Nat × List (List UInt8),zC4 fu s (c.toNat:Int) k (a:Int) (i:Int) acc=some ((q.1:Int),q.2)∧q.1≤s.length∧q.2.length≤s.length∧q.2 ++ [s.drop q.1]=acc++spC c (s.drop a):=by
  intro m
  induction m with
  | zero=>
    intro i a k acc hi hk ha hacc hn
    obtain ⟨k,rfl⟩:∃ z,k=z+1:=⟨k-1,by omega⟩
    obtain rfl:i=s.length:=by omega
    refine ⟨(a,acc),by rw [zC4,lt_f];rfl,ha,hacc,?_⟩
    rw [List.take_of_length_le (by simp)] at hn
    rw [zLN hn]
  | succ m ih=>
    intro i a k acc hi hk ha hacc hn
    obtain ⟨k,rfl⟩:∃ z,k=z+1:=⟨k-1,by omega⟩
    have hlt:i<s.length:=by omega
    have hx:=List.getElem?_eq_getElem hlt
    have hdrop:s.drop a=(s.drop a).take (i-a)++s[i]::s.drop (i+1):=by
      have h1:(s.drop a).drop (i-a)=s[i]::s.drop (i+1):=by
        rw [List.drop_drop,show a+(i-a)=i by omega]
        exact List.drop_eq_getElem_cons hlt
      rw [← h1,List.take_append_drop]
    rw [zC4,lt_t hlt,cond_true,ck_t (zBF hlt),zJW hx]
    by_cases hc:s[i]=c
    · have e : ((s[i].toNat : Int) == (c.toNat : Int)) = true := by rw [hc]; simp
      obtain ⟨q,h1,h2,h3,h4⟩:=ih (i+1) (i+1) k (acc ++ [(s.drop a).take (i-a)]) (by omega) (by omega) (Nat.le_refl _) (by simp;omega) (by simp)
      refine ⟨q,?_,h2,h3,?_⟩
      · rw [e, cond_true, ck_t (zBj.2 ⟨by omega, by omega, by omega⟩), ck_t (zBg (by simp; omega)), ck_t (zFs (by omega)), ck_t (zFs (by omega)), zBe, zNV]
        exact h1
      · have e3 := congrArg (spC c) hdrop
        rw [hc,zMz hn] at e3
        rw [h4,e3,List.append_assoc]
        rfl
    · have e:((s[i].toNat:Int)==(c.toNat:Int))=false:=by
        rw [beq_eq_false_iff_ne]
        intro h
        exact hc (UInt8.toNat_inj.1 (by omega))
      obtain ⟨q, h1, h2, h3, h4⟩ := ih (i + 1) a k acc (by omega) (by omega) (by omega) (by omega) (by
        have ht:(s.drop a).take (i+1-a)=(s.drop a).take (i-a) ++ [s[i]]:=by
          rw [show i+1-a=(i-a)+1 by omega,List.take_add_one,List.getElem?_drop,show a+(i-a)=i by omega,hx]
          rfl
        rw [ht]
        intro h
        rcases List.mem_append.1 h with h | h
        · exact hn h
        · exact hc (List.mem_singleton.1 h).symm)
      refine ⟨q,?_,h2,h3,h4⟩
      rw [e,cond_false,ck_t (zFs (by omega)),zBe]
      exact h1
theorem zOS {fu:Nat} {s:List UInt8} {c:UInt8} (hf:1048577≤fu) (hs:s.length≤1048576):zDT fu s (c.toNat:Int)=some (spC c s):=by
  obtain ⟨q,h1,h2,h3,h4⟩:=zNk (fu:=fu) (c:=c) hs s.length 0 0 fu [] (by omega) (by omega) (Nat.le_refl _) (Nat.zero_le _) (by simp)
  unfold zDT
  have e:subL s (q.1:Int) (s.length:Int)=s.drop q.1:=by
    unfold subL
    exact List.take_of_length_le (by simp only [List.length_drop];omega)
  rw [show (0:Int)=((0:Nat):Int) from rfl,h1,zA6]
  dsimp only
  rw [ck_t (zBj.2 ⟨by omega,by omega,by omega⟩),e,ck_t (zBg (by simp;omega)),h4]
  simp
theorem zKp {b c:UInt8} {l:List UInt8} (h:b ≠ c):Lib.index (b::l) [c]=if Lib.index l [c] == -1 then -1 else Lib.index l [c]+1:=by
  have hp:([c]:List UInt8).isPrefixOf (b::l)=false:=by simp [List.isPrefixOf,Ne.symm h]
  rw [Lib.index,hp]
  simp
end Go.Proofs.YtcodfkieaoomnaaGreatDoor
namespace Go.Proofs.YtcodfkieaoomnaaGreatDoor
open Go.RowKit
set_option linter.unusedVariables false
set_option linter.unusedSimpArgs false
theorem zBz (s:List UInt8):(bytL s).length=s.length:=by simp [bytL]
theorem zEB (s:List UInt8):strB (bytL s)=s:=by
  unfold strB bytL
  rw [List.map_map]
  have:((fun n:Int=>UInt8.ofNat n.toNat) ∘ fun b:UInt8=>(b.toNat:Int))=id:=by
    funext b
    show UInt8.ofNat ((b.toNat:Int)).toNat=b
    rw [Int.toNat_natCast]
    exact UInt8.ofNat_toNat
  rw [this,List.map_id]
theorem zDf (s t:List UInt8):bytL s++bytL t=bytL (s++t):=by simp [bytL]
theorem zFG (c:UInt8):([(c.toNat:Int)]:List Int)=bytL [c]:=rfl
theorem zLC {s:List UInt8} {i:Nat} {c:UInt8} (h:s[i]? = some c):gtD (bytL s) (i:Int)=(c.toNat:Int):=zBC (by simp [bytL,h])
theorem zJH {σ ρ:Type} {L:Nat→Int→σ→Option ρ} {n:Nat} {r:ρ} (St:Nat→σ) (hs:∀ k i,i<n→L (k+1) (i:Int) (St i)=L k ((i+1:Nat):Int) (St (i+1))) (he:∀ k,L (k+1) (n:Int) (St n)=some r) {fu:Nat} (hf:n<fu):L fu (0:Int) (St 0)=some r:=by
  have key:∀ m i k,i+m=n→m<k→L k ((i:Nat):Int) (St i)=some r:=by
    intro m
    induction m with
    | zero=>
      intro i k hi hk
      obtain ⟨k,rfl⟩:∃ q,k=q+1:=⟨k-1,by omega⟩
      obtain rfl:i=n:=by omega
      exact he k
    | succ m ih=>
      intro i k hi hk
      obtain ⟨k,rfl⟩:∃ q,k=q+1:=⟨k-1,by omega⟩
      rw [hs k i (by omega)]
      exact ih (i+1) k (by omega) (by omega)
  exact key n 0 fu (by omega) hf
theorem zFV {α σ:Type} {g:σ→α→σ} {a:σ} {s:List α} {i:Nat} {c:α} (h:s[i]? = some c):(s.take (i+1)).foldl g a=g ((s.take i).foldl g a) c:=by
  rw [List.take_add_one,h]
  simp
theorem zGc {α σ:Type} {g:σ→α→σ} {a:σ} (s:List α):(s.take s.length).foldl g a=s.foldl g a:=by rw [List.take_length]
theorem zLH {fu:Nat} {s:List UInt8} {F:Int→Option Int} {f:UInt8→UInt8} (hF:∀ c ∈ s,F (c.toNat:Int)=some ((f c).toNat:Int)) (hf:s.length<fu) (hl:s.length≤1048576):zDa fu s F=some (s.map f):=by
  unfold zDa
  have h:=zJH (L:=zCA fu s F) (n:=s.length) (r:=bytL (s.map f)) (fun i=>bytL ((s.take i).map f++s.drop i)) (fun k i hi=>by
    have hx:=List.getElem?_eq_getElem hi
    have hlen:((s.take i).map f++s.drop i).length=s.length:=by simp;omega
    have hg:((s.take i).map f++s.drop i)[i]? = some s[i]:=by
      rw [List.getElem?_append_right (by simp;omega)]
      simp [Nat.min_eq_left (Nat.le_of_lt hi),hx]
    have hset0:((s.take i).map f++s.drop i).set i (f s[i])=(s.take (i+1)).map f++s.drop (i+1):=by
      rw [List.drop_eq_getElem_cons hi,List.set_append_right _ _ (by simp;omega)]
      have h0:i-((s.take i).map f).length=0:=by simp;omega
      rw [h0,List.set_cons_zero,List.take_add_one,hx,List.map_append,List.append_assoc]
      rfl
    have hset:(bytL ((s.take i).map f++s.drop i)).set i ((f s[i]).toNat:Int)=bytL ((s.take (i+1)).map f++s.drop (i+1)):=by
      rw [← hset0]
      unfold bytL
      exact List.map_set.symm
    rw [zCA,zBz,lt_t hi,cond_true]
    rw [ck_t (zBF (by rw [zBz,hlen];exact hi)),zLC hg,hF _ (List.getElem_mem hi),zA6,ck_t (zBF (by rw [zBz,hlen];exact hi)),zBe,ck_t (zCU (by omega)),Int.toNat_natCast,hset]) (fun k=>by
    rw [zCA,zBz,lt_f,cond_false]
    simp) hf
  rw [List.take_zero,List.drop_zero,List.map_nil,List.nil_append] at h
  rw [ck_t (zBg (by omega)),h,zA6,zEB]
def fld (c:UInt8):UInt8:=UInt8.ofNat (zHo c.toNat).toNat
theorem zOU (c:UInt8):((fld c).toNat:Int)=zHo c.toNat:=by
  have hc:c.toNat<256:=c.toNat_lt
  unfold fld zHo cpI
  by_cases h:(65:Int)≤(c.toNat:Int)∧(c.toNat:Int)≤90
  · rw [decide_eq_true h.1, decide_eq_true h.2]
    simp only [Bool.and_self,cond_true]
    rw [UInt8.toNat_ofNat']
    omega
  · have:(decide ((65:Int)≤(c.toNat:Int))&&decide ((c.toNat:Int)≤90))=false:=by
      rw [Bool.and_eq_false_iff,decide_eq_false_iff_not,decide_eq_false_iff_not]
      omega
    rw [this,cond_false,UInt8.toNat_ofNat']
    omega
theorem zIr {fu:Nat} {s:List UInt8} (hf:s.length<fu) (hl:s.length≤1048576):zD3 fu s=some (s.map fld):=by
  unfold zD3
  rw [zLH (f:=fld) (fun c _=>?_) hf hl,zA6]
  have hc:c.toNat<256:=c.toNat_lt
  rw [zOU]
  unfold zDU zHo cpI
  rw [zBN]
  by_cases h:(65:Int)≤(c.toNat:Int)∧(c.toNat:Int)≤90
  · rw [decide_eq_true h.1, decide_eq_true h.2]
    simp only [Bool.and_self,cond_true]
    rw [zKg _ (by omega) (by omega)]
  · have:(decide ((65:Int)≤(c.toNat:Int))&&decide ((c.toNat:Int)≤90))=false:=by
      rw [Bool.and_eq_false_iff,decide_eq_false_iff_not,decide_eq_false_iff_not]
      omega
    rw [this,cond_false,cond_false]
theorem zHV {fu:Nat} {s:List UInt8} (hf:s.length<fu) (hl:s.length≤1048576):zBh fu s=some (s.map fld):=zOB hf hl
theorem zPX (c : UInt8) : ∀ s : List UInt8, Lib.replaceK [c] [] (Lib.count s [c]) s = s.filter fun b => b != c
  | []=>by rw [Lib.count_one];rfl
  | b::l=>by
    have ih:=zPX c l
    by_cases h:b=c
    · subst h
      rw [Lib.count_cons_eq,Nat.add_comm,Lib.replaceK,show Lib.index (b::l) [b]=0 by rw [Lib.index];simp [List.isPrefixOf],if_neg (by decide),List.filter_cons]
      simpa using ih
    · rw [Lib.count_cons_ne b c l h, List.filter_cons, if_pos (by simpa using h), ← ih]
      cases hk:Lib.count l [c] with
      | zero=>rfl
      | succ k=>
        have hm:Lib.index l [c] ≠ -1:=fun hm=>by rw [Lib.count_miss hm] at hk;cases hk
        have hge:=Lib.index_ge l [c]
        obtain ⟨j,hj⟩:∃ j:Nat,Lib.index l [c]=j:=⟨(Lib.index l [c]).toNat,by omega⟩
        have e2:((j:Int)+1).toNat=j+1:=by omega
        rw [Lib.replaceK,zKp h,hj,if_neg (by simp;omega),if_neg (by simp),e2,Lib.replaceK,hj,if_neg (by simp)]
        simp
theorem zOg (c:UInt8) (s:List UInt8):Lib.replaceAll s [c] []=s.filter fun b=>b != c:=by
  unfold Lib.replaceAll Lib.replace Lib.replaceNum
  rw [if_neg (by simp),if_pos (.inl (by decide)),zPX]
def wdB (c:UInt8):Bool:=wdI c.toNat
def mkC (c:UInt8):UInt8:=bif wdB c then c else 32
def strL (s:List UInt8):List UInt8:=(s.filter fun b=>b != 39).map mkC
theorem zOo {fu:Nat} {c:UInt8}:zCu fu (c.toNat:Int)=some (wdB c):=by
  unfold zCu zC1 zCQ wdB wdI smI cpI dgI
  simp only [zBN,zA6,zMu]
  generalize (decide ((97:Int)≤(c.toNat:Int))&&decide ((c.toNat:Int)≤122))=a
  generalize (decide ((65:Int)≤(c.toNat:Int))&&decide ((c.toNat:Int)≤90))=b
  generalize (decide ((48:Int)≤(c.toNat:Int))&&decide ((c.toNat:Int)≤57))=d
  cases a <;> cases b <;> cases d <;> rfl
theorem zOn {fu:Nat} {c:UInt8}:zD9 fu (c.toNat:Int)=some (wdB c):=by
  unfold zD9 wdB wdI smI cpI dgI
  rfl
theorem zKJ {fu:Nat} {s:List UInt8} (hf:s.length<fu) (hl:s.length≤1048576):zCx fu s=some (strL s):=by
  have hle:=List.length_filter_le (fun b:UInt8=>b != 39) s
  unfold zCx zG9
  rw [zOg,ck_t (by simp;omega),zA6,zLH (f:=mkC) (fun c _=>?_) (by omega) (by omega),zA6]
  · rfl
  · unfold zD6 mkC
    rw [zOo,zA6]
    cases wdB c <;> rfl
theorem zI2 {c d:UInt8} (h:c ≠ d):(((c.toNat:Int))==(d.toNat:Int))=false:=by
  rw [beq_eq_false_iff_ne]
  intro e
  exact h (UInt8.toNat_inj.1 (by omega))
def stG (a:List UInt8) (c:UInt8):List UInt8:=bif c != 39 then a ++ [mkC c] else a
theorem zJ6 : ∀ (s a : List UInt8), s.foldl stG a = a ++ strL s
  | [],a=>by simp [strL]
  | c::s,a=>by
    rw [List.foldl_cons,zJ6 s]
    unfold stG strL
    rw [List.filter_cons]
    cases h:c != 39 <;> simp
theorem zKV {fu:Nat} {s:List UInt8} (hf:s.length<fu) (hl:s.length≤1048576):zCz fu s=some (strL s):=by
  unfold zCz
  have hlen:∀ i,i≤s.length→((s.take i).foldl stG []).length≤i:=fun i hi=>by
    rw [zJ6,List.nil_append]
    unfold strL
    rw [List.length_map]
    have:=List.length_filter_le (fun b:UInt8=>b != 39) (s.take i)
    rw [List.length_take] at this
    omega
  have h:=zJH (L:=zB0 fu s) (n:=s.length) (r:=bytL (s.foldl stG [])) (fun i=>bytL ((s.take i).foldl stG [])) (fun k i hi=>by
    have hx:=List.getElem?_eq_getElem hi
    have hil:=hlen i (by omega)
    generalize hc:s[i]=c at hx
    rw [zB0,lt_t hi,cond_true,zFV hx,ck_t (zBF hi),zDy hx,zOn,zA6]
    generalize (s.take i).foldl stG []=o at hil ⊢
    have hl1:∀ (l:List Int),l.length=1→zC2 ((bytL o).length+l.length)=true:=fun l hl=>zBg (by rw [zBz,hl];omega)
    rw [hl1 _ rfl,hl1 _ rfl]
    simp only [zBF hi,Bool.or_true,zCK,zBN,zBe,zCU (show i≤4294967296 by omega)]
    by_cases h32:c=32
    · subst h32
      have hw:(wdB 32 || (((UInt8.toNat 32:Nat):Int)==(32:Int)))=true:=by decide
      rw [hw,cond_true,zFG,zDf]
      rfl
    · have e32 : (((c.toNat : Int)) == (32 : Int)) = false := zI2 (d := 32) h32
      rw [e32,Bool.or_false]
      cases hw:wdB c with
      | true=>
        have h39:c ≠ 39:=fun e=>by subst e;exact absurd hw (by decide)
        have:(c != 39)=true:=by simpa using h39
        rw [cond_true,zFG,zDf]
        unfold stG mkC
        rw [this,hw,cond_true,cond_true]
      | false=>
        rw [cond_false]
        by_cases h39:c=39
        · subst h39
          rfl
        · have e39:(((c.toNat:Int)) != (39:Int))=true:=by
            have:=zI2 (d:=39) h39
            show (!(((c.toNat:Int))==(((39:UInt8).toNat:Nat):Int)))=true
            rw [this]
            rfl
          have:(c != 39)=true:=by simpa using h39
          rw [e39,cond_true,show ([(32:Int)]:List Int)=bytL [32] from rfl,zDf]
          unfold stG mkC
          rw [this,hw,cond_true,cond_false]) (fun k=>by rw [zB0,lt_f,cond_false,zGc]) hf
  rw [show (([]:List Int))=bytL ((s.take 0).foldl stG []) from rfl,h,zA6,zEB,zJ6,List.nil_append]
def coS (o:List UInt8 × Bool) (c:UInt8):List UInt8 × Bool:=bif c==32 then (o.1,true) else ((bif !o.1.isEmpty&&o.2 then o.1 ++ [32] else o.1) ++ [c],false)
def coT (o:List UInt8 × Bool):List UInt8:=bif !o.1.isEmpty&&o.2 then o.1 ++ [32] else o.1
def colL (s:List UInt8):List UInt8:=(s.foldl coS ([],false)).1
theorem zK3 {o:List UInt8 × Bool} {c:UInt8} (h:(c==32)=true):coS o c=(o.1,true):=by unfold coS;rw [h];rfl
theorem zJe {o:List UInt8 × Bool} {c:UInt8} (h:(c==32)=false):coS o c=(coT o ++ [c],false):=by unfold coS coT;rw [h];rfl
theorem zLw (o:List UInt8 × Bool):(coT o).length≤o.1.length+1:=by
  unfold coT
  cases (!o.1.isEmpty&&o.2)
  · rw [cond_false];omega
  · rw [cond_true,List.length_append,List.length_singleton];omega
theorem zKs (s:List UInt8):∀ i,i≤s.length→((s.take i).foldl coS ([],false)).1.length≤2*i:=by
  intro i
  induction i with
  | zero=>intro _;exact Nat.zero_le _
  | succ i ih=>
    intro hi
    have:=ih (by omega)
    rw [zFV (List.getElem?_eq_getElem (show i<s.length by omega))]
    generalize (s.take i).foldl coS ([],false)=o at this ⊢
    have h2:=zLw o
    cases h:s[i]==32
    · rw [zJe h]
      dsimp only
      rw [List.length_append,List.length_singleton]
      omega
    · rw [zK3 h]
      dsimp only
      omega
theorem zOV (s:List UInt8) {i:Nat} (hi:i<s.length):((s.take (i+1)).foldl coS ([],false)).2=(s[i]==32):=by
  rw [zFV (List.getElem?_eq_getElem hi)]
  generalize (s.take i).foldl coS ([],false)=o
  cases h:s[i]==32
  · rw [zJe h]
  · rw [zK3 h]
theorem zKm (s:List UInt8):∀ i,i≤s.length→((s.take i).foldl coS ([],false)).1 = []∨∃ l c,((s.take i).foldl coS ([],false)).1=l ++ [c]∧(c==32)=false:=by
  intro i
  induction i with
  | zero=>intro _;exact .inl rfl
  | succ i ih=>
    intro hi
    have:=ih (by omega)
    rw [zFV (List.getElem?_eq_getElem (show i<s.length by omega))]
    generalize (s.take i).foldl coS ([],false)=o at this ⊢
    cases h:s[i]==32
    · rw [zJe h]
      exact .inr ⟨_,_,rfl,h⟩
    · rw [zK3 h]
      exact this
theorem e32 {c:UInt8}:(((c.toNat:Int))==(32:Int))=(c==32):=by
  by_cases h:c=32
  · subst h;rfl
  · exact (show (((c.toNat:Int))==(32:Int))=false from zI2 (d:=32) h).trans (beq_eq_false_iff_ne.2 h).symm
theorem ne32 {c:UInt8}:(((c.toNat:Int)) != (32:Int)) = !(c==32):=by rw [← e32];rfl
theorem zM9 (l:List UInt8):decide ((0:Int)<((bytL l).length:Int)) = !l.isEmpty:=by
  rw [zBz]
  cases l with
  | nil=>rfl
  | cons a l=>exact decide_eq_true (by simp)
theorem zMK {fu:Nat} {s:List UInt8} (hf:s.length<fu) (hl:s.length≤1048576):zC5 fu s=some (colL s):=by
  unfold zC5
  have h:=zJH (L:=zAg fu s) (n:=s.length) (r:=bytL (s.foldl coS ([],false)).1) (fun i=>bytL ((s.take i).foldl coS ([],false)).1) (fun k i hi=>by
    have hx:=List.getElem?_eq_getElem hi
    have hil:=zKs s i (by omega)
    have hpv:∀ j,i=j+1→((s.take i).foldl coS ([],false)).2=(s[j]! == 32):=fun j hj=>by subst hj;rw [zOV s (by omega),getElem!_pos s j (by omega)]
    have hz:i=0→((s.take i).foldl coS ([],false)).1 = []:=fun h0=>by subst h0;rfl
    generalize hc:s[i]=c at hx
    rw [zAg,lt_t hi,cond_true,zFV hx,ck_t (zBF hi),zDy hx]
    generalize (s.take i).foldl coS ([],false)=o at hil hpv hz ⊢
    have hl1:∀ (l:List Int),l.length=1→zC2 ((bytL o.1).length+l.length)=true:=fun l hl=>zBg (by rw [zBz,hl];omega)
    have hl2:∀ (l m:List Int),l.length=1→m.length=1→zC2 ((bytL o.1++l).length+m.length)=true:=fun l m h1 h2=>zBg (by rw [List.length_append,zBz,h1,h2];omega)
    rw [hl1 _ rfl,hl1 _ rfl,hl2 _ _ rfl rfl,ne32,zM9]
    simp only [zBF hi,zCK,zBN,zBe,zCU (show i≤4294967296 by omega)]
    cases h32:c==32 with
    | true=>
      rw [zK3 h32]
      rfl
    | false=>
      rw [zJe h32]
      cases ho:o.1.isEmpty with
      | true=>
        have:o.1 = []:=List.isEmpty_iff.1 ho
        unfold coT
        rw [ho,this]
        rfl
      | false=>
        have hi0:i ≠ 0:=fun h0=>by rw [hz h0] at ho;cases ho
        obtain ⟨j,rfl⟩:∃ j,i=j+1:=⟨i-1,by omega⟩
        have hj:=List.getElem?_eq_getElem (show j<s.length by omega)
        have hp:=hpv j rfl
        rw [getElem!_pos s j (by omega)] at hp
        simp only [zJp,zBF (show j<s.length by omega),zIa j (by omega),zDy hj,e32,Bool.or_true,zCK,← hp,Bool.not_false,Bool.true_and,cond_true]
        unfold coT
        rw [ho]
        cases o.2
        · simp only [cond_false, Bool.and_false]
          rw [zFG,zDf]
        · simp only [cond_true, cond_false, Bool.not_false, Bool.and_true]
          rw [zFG,show ([(32:Int)]:List Int)=bytL [32] from rfl,zDf,zDf]) (fun k=>by rw [zAg,lt_f,cond_false,zGc]) hf
  rw [show (([]:List Int))=bytL ((s.take 0).foldl coS ([],false)).1 from rfl,h,zA6,zEB]
  rfl
theorem zOM {l:List UInt8} {c:UInt8}:gtD (bytL (l ++ [c])) (((bytL (l ++ [c])).length:Int)-1)=(c.toNat:Int):=by
  rw [zBz,List.length_append,List.length_singleton,show (((l.length+1:Nat):Int))-1=((l.length:Nat):Int) by omega]
  exact zLC (by simp)
theorem zPx {l:List UInt8} (h:l ≠ []):inR (((bytL l).length:Int)-1) (bytL l).length=true:=by
  have:0<l.length:=List.length_pos_iff.2 h
  rw [zBz]
  exact zNi (by omega) (by omega)
theorem zNm {fu:Nat} {l:List UInt8} (hl:l.length≤4194304):zBS fu (l ++ [32]) ([32]:List UInt8)=some l:=by
  unfold zBS zAt zAd
  have e1:(((l ++ [32]:List UInt8).length:Nat):Int)-((([32]:List UInt8).length:Nat):Int)=((l.length:Nat):Int):=by simp
  have e2:subL (l ++ [32]:List UInt8) (l.length:Int) (((l ++ [32]:List UInt8).length:Nat):Int) = [32]:=by simp [subL]
  have e3:subL (l ++ [32]:List UInt8) 0 (l.length:Int)=l:=by simp [subL]
  have e4:decide (((([32]:List UInt8).length:Nat):Int)≤(((l ++ [32]:List UInt8).length:Nat):Int))=true:=decide_eq_true (by simp;omega)
  simp only [e1,e2,e3,e4,zIa l.length (by omega),Bool.or_true,zCK,zBN,zA6,zBj.2 (show (0:Int)≤(l.length:Int)∧(l.length:Int)≤(((l ++ [32]:List UInt8).length:Nat):Int)∧(((l ++ [32]:List UInt8).length:Nat):Int)≤(((l ++ [32]:List UInt8).length:Nat):Int) from ⟨by omega,by simp;omega,Int.le_refl _⟩),zBj.2 (show (0:Int)≤(0:Int)∧(0:Int)≤(l.length:Int)∧(l.length:Int)≤(((l ++ [32]:List UInt8).length:Nat):Int) from ⟨by omega,by omega,by simp;omega⟩)]
  rfl
theorem zM6 {fu:Nat} {l:List UInt8} {c:UInt8} (h:(c==32)=false) (hl:l.length≤4194304):zBS fu (l ++ [c]) ([32]:List UInt8)=some (l ++ [c]):=by
  unfold zBS zAt zAd
  have e1:(((l ++ [c]:List UInt8).length:Nat):Int)-((([32]:List UInt8).length:Nat):Int)=((l.length:Nat):Int):=by simp
  have e2:subL (l ++ [c]:List UInt8) (l.length:Int) (((l ++ [c]:List UInt8).length:Nat):Int) = [c]:=by simp [subL]
  have e4:decide (((([32]:List UInt8).length:Nat):Int)≤(((l ++ [c]:List UInt8).length:Nat):Int))=true:=decide_eq_true (by simp;omega)
  have e5:(([c]:List UInt8) == [32])=false:=by simpa using h
  simp only [e1,e2,e4,e5,zIa l.length (by omega),Bool.or_true,zCK,zBN,zA6,zBj.2 (show (0:Int)≤(l.length:Int)∧(l.length:Int)≤(((l ++ [c]:List UInt8).length:Nat):Int)∧(((l ++ [c]:List UInt8).length:Nat):Int)≤(((l ++ [c]:List UInt8).length:Nat):Int) from ⟨by omega,by simp;omega,Int.le_refl _⟩)]
  rfl
theorem zME {fu:Nat} {s:List UInt8} (hf:s.length<fu) (hl:s.length≤1048576):zC3 fu s=some (colL s):=by
  unfold zC3
  have h:=zJH (L:=zAn fu s) (n:=s.length) (r:=bytL (coT (s.foldl coS ([],false)))) (fun i=>bytL (coT ((s.take i).foldl coS ([],false)))) (fun k i hi=>by
    have hx:=List.getElem?_eq_getElem hi
    have hil:=zKs s i (by omega)
    have hla:=zKm s i (by omega)
    generalize hc:s[i]=c at hx
    rw [zAn,lt_t hi,cond_true,zFV hx,ck_t (zBF hi),zDy hx]
    generalize (s.take i).foldl coS ([],false)=o at hil hla ⊢
    have hcl:=zLw o
    have hl1:∀ (l:List Int),l.length=1→zC2 ((bytL (coT o)).length+l.length)=true:=fun l hl=>zBg (by rw [zBz,hl];omega)
    rw [hl1 _ rfl,ne32,zM9]
    simp only [zBF hi,zCK,zBN,zBe,zCU (show i≤4294967296 by omega)]
    have hb:i64B (((bytL (coT o)).length:Int)-1)=true:=zAl (by omega) (by rw [zBz];omega)
    rw [hb]
    simp only [Bool.or_true,zCK]
    cases h32:c==32 with
    | false=>
      rw [zJe h32]
      have e:coT (coT o ++ [c],false)=coT o ++ [c]:=by simp [coT]
      rw [e,← zDf,← zFG]
      simp [zCK]
    | true=>
      rw [zK3 h32]
      rcases hla with h0 | ⟨l,d,h0,hd⟩
      · have e1 : coT o = [] := by unfold coT; rw [h0]; rfl
        have e2:coT (o.1,true) = []:=by unfold coT;rw [h0];rfl
        rw [e1,e2]
        rfl
      · have ho : o.1.isEmpty = false := by rw [h0]; simp
        have e2:coT (o.1,true)=o.1 ++ [32]:=by unfold coT;dsimp only;rw [ho];rfl
        have e0:(coT o).isEmpty=false:=by
          unfold coT
          rw [h0]
          cases (!(l ++ [d]).isEmpty&&o.2) <;> simp
        have hne:coT o ≠ []:=fun h=>by rw [h] at e0;cases e0
        rw [e0,e2,zPx hne]
        simp only [Bool.or_true,zCK,Bool.not_true,Bool.false_or,Bool.not_false,Bool.true_and]
        cases h2:o.2 with
        | true=>
          have e1:coT o=o.1 ++ [32]:=by unfold coT;rw [ho,h2];rfl
          rw [e1,zOM]
          rfl
        | false=>
          have e1:coT o=o.1:=by unfold coT;rw [ho,h2];rfl
          rw [e1,h0,zOM,ne32,hd]
          have:c=32:=by simpa using h32
          rw [this,zFG,zDf]
          rfl) (fun k=>by rw [zAn,lt_f,cond_false,zGc]) hf
  rw [show (([]:List Int))=bytL (coT ((s.take 0).foldl coS ([],false))) from rfl,h,zA6,zEB]
  have hla:=zKm s s.length (Nat.le_refl _)
  have hil:=zKs s s.length (Nat.le_refl _)
  rw [zGc] at hla hil
  unfold colL
  generalize s.foldl coS ([],false)=o at hla hil ⊢
  rcases hla with h0 | ⟨l,d,h0,hd⟩
  · have e1 : coT o = [] := by unfold coT; rw [h0]; rfl
    rw [e1,h0]
    rfl
  · have hll : l.length ≤ 4194304 := by rw [h0, List.length_append] at hil; omega
    have ho:o.1.isEmpty=false:=by rw [h0];simp
    cases h2:o.2 with
    | true=>
      have e1:coT o=o.1 ++ [32]:=by unfold coT;rw [ho,h2];rfl
      rw [e1,zNm (by omega)]
      rfl
    | false=>
      have e1:coT o=o.1:=by unfold coT;rw [ho,h2];rfl
      rw [e1,h0,zM6 hd hll]
      rfl
def nrmL (s:List UInt8):List UInt8:=colL (strL (s.map fld))
theorem zHz (s:List UInt8):(strL s).length≤s.length:=by
  unfold strL
  rw [List.length_map]
  exact List.length_filter_le _ _
theorem zGZ {fu:Nat} {s:List UInt8} (hf:s.length<fu) (hl:s.length≤1048576):zBY fu s=some (nrmL s):=by
  have h1:=zHz (s.map fld)
  rw [List.length_map] at h1
  unfold zBY
  rw [zHV hf hl,zA6,zKV (by simpa using hf) (by simpa using hl),zA6,zMK (by omega) (by omega),zA6]
  rfl
theorem zHi {fu:Nat} {s:List UInt8} (hf:s.length<fu) (hl:s.length≤1048576):zCH fu s=some (nrmL s):=by
  have h1:=zHz (s.map fld)
  rw [List.length_map] at h1
  unfold zCH
  rw [zIr hf hl,zA6,zKJ (by simpa using hf) (by simpa using hl),zA6,zME (by omega) (by omega),zA6]
  rfl
theorem zGD (s:List UInt8):(nrmL s).length≤2*s.length:=by
  have h1:=zHz (s.map fld)
  have h2:=zKs (strL (s.map fld)) _ (Nat.le_refl _)
  rw [zGc] at h2
  rw [List.length_map] at h1
  unfold nrmL colL
  omega
end Go.Proofs.YtcodfkieaoomnaaGreatDoor
namespace Go.Proofs.YtcodfkieaoomnaaGreatDoor
open Go.RowKit
set_option linter.unusedVariables false
structure Sto {α : Type} (lt : α → α → Bool) : Prop where
  irr:∀ a,lt a a=false
  tr:∀ a b c,lt a b=true→lt b c=true→lt a c=true
  tri:∀ a b,lt a b=false→lt b a=false→a=b
theorem zD8:Sto bLt:=⟨zFc,fun _ _ _=>zJk,fun _ _=>zKN⟩
section
variable {α:Type} {lt:α→α→Bool}
theorem Sto.asy (S:Sto lt) {a b:α} (h:lt a b=true):lt b a=false:=by
  cases hb:lt b a
  · rfl
  · have := S.tr a b a h hb
    rw [S.irr] at this
    cases this
theorem Sto.le_tr (S:Sto lt) {a b c:α} (h:lt b a=false) (k:lt c b=false):lt c a=false:=by
  cases hca:lt c a
  · rfl
  · cases hab : lt a b
    · have := S.tri a b hab h
      subst this
      rw [hca] at k
      cases k
    · have := S.tr c a b hca hab
      rw [this] at k
      cases k
abbrev zBc (lt:α→α→Bool) (l:List α):Prop:=l.Pairwise fun a b=>lt a b=true
abbrev zH2 (lt:α→α→Bool) (l:List α):Prop:=l.Pairwise fun a b=>lt b a=false
theorem zBc.w (S:Sto lt) {l:List α} (h:zBc lt l):zH2 lt l:=h.imp fun h=>S.asy h
theorem zKc (S:Sto lt) {l m:List α} (hp:l.Perm m) (hl:zH2 lt l) (hm:zH2 lt m):l=m:=
  zIv (fun a b h k=>S.tri a b k h) hp hl hm
theorem zEX (S : Sto lt) : ∀ {l m : List α}, zBc lt l → zBc lt m → (∀ x, x ∈ l ↔ x ∈ m) → l = m
  | [],[],_,_,_=>rfl
  | [],b::m,_,_,h=>by have:=(h b).2 (List.mem_cons_self ..);cases this
  | a::l,[],_,_,h=>by have:=(h a).1 (List.mem_cons_self ..);cases this
  | a::l,b::m,hl,hm,h=>by
    obtain ⟨h1,h2⟩:=List.pairwise_cons.1 hl
    obtain ⟨h3,h4⟩:=List.pairwise_cons.1 hm
    have e:a=b:=by
      rcases List.mem_cons.1 ((h a).1 (List.mem_cons_self ..)) with e | e
      · exact e
      · rcases List.mem_cons.1 ((h b).2 (List.mem_cons_self ..)) with e' | e'
        · exact e'.symm
        · have := S.asy (h1 b e')
          rw [h3 a e] at this
          cases this
    subst e
    congr 1
    refine zEX S h2 h4 fun x=>?_
    constructor
    · intro hx
      rcases List.mem_cons.1 ((h x).1 (List.mem_cons_of_mem _ hx)) with e | e
      · have := h1 x hx
        rw [e,S.irr] at this
        cases this
      · exact e
    · intro hx
      rcases List.mem_cons.1 ((h x).2 (List.mem_cons_of_mem _ hx)) with e | e
      · have := h3 x hx
        rw [e,S.irr] at this
        cases this
      · exact e
theorem zBc.nodup (S:Sto lt) {l:List α} (h:zBc lt l):l.Nodup:=h.imp fun {a b} h e=>by subst e;rw [S.irr] at h;cases h
def zLr (l:List α) (k:Nat) (x:α):List α:=l.take k++x::l.drop k
theorem zIt (l:List α) (k:Nat) (x:α):(zLr l k x).Perm (x::l):=by
  have:=(List.perm_middle (a:=x) (l₁:=l.take k) (l₂:=l.drop k))
  rwa [List.take_append_drop] at this
theorem zFD (l:List α) (k:Nat) (x:α):(zLr l k x).length=l.length+1:=by simpa using (zIt l k x).length_eq
theorem zMb {l:List α} {k:Nat} {x y:α}:y ∈ zLr l k x ↔ y=x∨y ∈ l:=by rw [(zIt l k x).mem_iff,List.mem_cons]
theorem zP9 {R:α→α→Prop} {l:List α} {k:Nat} {x:α} (hl:l.Pairwise R) (h1:∀ y ∈ l.take k,R y x) (h2:∀ y ∈ l.drop k,R x y):(zLr l k x).Pairwise R:=by
  have hl':(l.take k++l.drop k).Pairwise R:=by rw [List.take_append_drop];exact hl
  obtain ⟨a,b,c⟩:=List.pairwise_append.1 hl'
  refine List.pairwise_append.2 ⟨a,List.pairwise_cons.2 ⟨h2,b⟩,fun y hy z hz=>?_⟩
  rcases List.mem_cons.1 hz with rfl | hz
  · exact h1 y hy
  · exact c y hy z hz
def plc (lt : α → α → Bool) (x : α) : List α → Nat
  | []=>0
  | y::l=>bif lt y x then plc lt x l+1 else 0
theorem zOC {x : α} : ∀ l : List α, plc lt x l ≤ l.length
  | []=>Nat.le_refl _
  | y::l=>by
    unfold plc
    cases lt y x
    · exact Nat.zero_le _
    · have h : plc lt x l ≤ l.length := zOC l
      simp
      omega
theorem zLB {x : α} : ∀ l : List α, ∀ y ∈ l.take (plc lt x l), lt y x = true
  | [],y,h=>by cases h
  | z::l,y,h=>by
    unfold plc at h
    cases hz:lt z x
    · rw [hz] at h
      cases h
    · rw [hz, cond_true, List.take_succ_cons] at h
      rcases List.mem_cons.1 h with rfl | h
      · exact hz
      · exact zLB l y h
theorem zJQ {x : α} : ∀ l : List α, ∀ y, l[plc lt x l]? = some y → lt y x = false
  | [],y,h=>by cases h
  | z::l,y,h=>by
    unfold plc at h
    cases hz:lt z x
    · rw [hz] at h
      obtain rfl:z=y:=by simpa using h
      exact hz
    · rw [hz, cond_true, List.getElem?_cons_succ] at h
      exact zJQ l y h
theorem zNf (S:Sto lt) {x:α} {l:List α} (hl:zH2 lt l):∀ y ∈ l.drop (plc lt x l),lt y x=false:=by
  intro y hy
  cases hd:l.drop (plc lt x l) with
  | nil=>rw [hd] at hy;cases hy
  | cons z t=>
    have hz:l[plc lt x l]? = some z:=by
      have:(l.drop (plc lt x l))[0]? = some z:=by rw [hd];rfl
      rwa [List.getElem?_drop,Nat.add_zero] at this
    have h0:=zJQ l z hz
    rw [hd] at hy
    rcases List.mem_cons.1 hy with rfl | hy
    · exact h0
    · have hp : (z :: t).Pairwise fun a b => lt b a = false := hd ▸ hl.sublist (List.drop_sublist _ _)
      exact S.le_tr h0 ((List.pairwise_cons.1 hp).1 y hy)
def putW (lt:α→α→Bool) (l:List α) (x:α):List α:=zLr l (plc lt x l) x
def putS [BEq α] (lt:α→α→Bool) (l:List α) (x:α):List α:=bif (l[plc lt x l]? == some x) then l else putW lt l x
theorem zKK [BEq α] [LawfulBEq α] (S:Sto lt) {l:List α} (x:α) (hl:zBc lt l):zBc lt (putS lt l x):=by
  unfold putS
  cases hc:(l[plc lt x l]? == some x)
  · refine zP9 hl (zLB l) fun y hy => ?_
    have h1:=zNf S (hl.w S) y hy
    cases hxy:lt x y
    · have e := S.tri y x h1 hxy
      subst e
      exfalso
      cases hd:l.drop (plc lt y l) with
      | nil=>rw [hd] at hy;cases hy
      | cons z t=>
        have hz:l[plc lt y l]? = some z:=by
          have:(l.drop (plc lt y l))[0]? = some z:=by rw [hd];rfl
          rwa [List.getElem?_drop,Nat.add_zero] at this
        rw [hd] at hy
        have hp:(z::t).Pairwise fun a b=>lt a b=true:=hd ▸ hl.sublist (List.drop_sublist _ _)
        rcases List.mem_cons.1 hy with e | hy
        · subst e
          rw [hz] at hc
          simp at hc
        · have := (List.pairwise_cons.1 hp).1 y hy
          rw [zJQ l z hz] at this
          cases this
    · rfl
  · exact hl
theorem zO2 [BEq α] [LawfulBEq α] {l:List α} {x y:α}:y ∈ putS lt l x ↔ y=x∨y ∈ l:=by
  unfold putS
  cases hc:(l[plc lt x l]? == some x)
  · exact zMb
  · rw [beq_iff_eq] at hc
    exact ⟨.inr,fun h=>h.elim (fun e=>(by rw [e];exact List.mem_of_getElem? hc)) id⟩
def cmpA [BEq α] : α → List α → List α
  | _,[]=>[]
  | p,x::xs=>bif x==p then cmpA x xs else x::cmpA x xs
def cmpL [BEq α] : List α → List α
  | []=>[]
  | x::xs=>x::cmpA x xs
theorem zJI [BEq α] [LawfulBEq α] : ∀ {p : α} {l : List α} {y : α}, y ∈ cmpA p l → y ∈ l
  | p,x::xs,y,h=>by
    unfold cmpA at h
    cases hx:(x==p)
    · rw [hx, cond_false] at h
      rcases List.mem_cons.1 h with rfl | h
      · exact List.mem_cons_self ..
      · exact List.mem_cons_of_mem _ (zJI h)
    · rw [hx, cond_true] at h
      exact List.mem_cons_of_mem _ (zJI h)
theorem zIG [BEq α] [LawfulBEq α] : ∀ {p : α} {l : List α} {y : α}, y ∈ l → y = p ∨ y ∈ cmpA p l
  | p,x::xs,y,h=>by
    unfold cmpA
    cases hx:(x==p)
    · rw [cond_false]
      rcases List.mem_cons.1 h with rfl | h
      · exact .inr (List.mem_cons_self ..)
      · rcases zIG (p := x) h with rfl | h
        · exact .inr (List.mem_cons_self ..)
        · exact .inr (List.mem_cons_of_mem _ h)
    · rw [cond_true]
      rw [beq_iff_eq] at hx
      subst hx
      rcases List.mem_cons.1 h with rfl | h
      · exact .inl rfl
      · exact zIG h
theorem zNX [BEq α] [LawfulBEq α] {l:List α} {y:α}:y ∈ cmpL l ↔ y ∈ l:=by
  cases l with
  | nil=>rfl
  | cons x xs=>
    unfold cmpL
    constructor
    · intro h
      rcases List.mem_cons.1 h with rfl | h
      · exact List.mem_cons_self ..
      · exact List.mem_cons_of_mem _ (zJI h)
    · intro h
      rcases List.mem_cons.1 h with rfl | h
      · exact List.mem_cons_self ..
      · rcases zIG (p := x) h with rfl | h
        · exact List.mem_cons_self ..
        · exact List.mem_cons_of_mem _ h
theorem zGt [BEq α] [LawfulBEq α] (S : Sto lt) : ∀ {p : α} {l : List α}, zH2 lt (p :: l) → zBc lt (p :: cmpA p l)
  | p,[],_=>List.pairwise_cons.2 ⟨fun y h=>(by cases h),List.Pairwise.nil⟩
  | p,x::xs,h=>by
    obtain ⟨h1,h2⟩:=List.pairwise_cons.1 h
    unfold cmpA
    cases hx:(x==p)
    · rw [cond_false]
      have ih:=zGt S h2
      refine List.pairwise_cons.2 ⟨fun y hy=>?_,ih⟩
      have hpx:lt p x=true:=by
        cases hpx:lt p x
        · have := S.tri p x hpx (h1 x (List.mem_cons_self ..))
          subst this
          simp at hx
        · rfl
      rcases List.mem_cons.1 hy with rfl | hy
      · exact hpx
      · exact S.tr p x y hpx ((List.pairwise_cons.1 ih).1 y hy)
    · rw [cond_true]
      rw [beq_iff_eq] at hx
      subst hx
      exact zGt S h2
theorem zKo [BEq α] [LawfulBEq α] (S:Sto lt) {l:List α} (h:zH2 lt l):zBc lt (cmpL l):=by
  cases l with
  | nil=>exact List.Pairwise.nil
  | cons x xs=>exact zGt S h
theorem zIY [BEq α] : ∀ {p : α} {l : List α}, (cmpA p l).length ≤ l.length
  | _,[]=>Nat.le_refl _
  | p,x::xs=>by
    unfold cmpA
    have:=zIY (p:=x) (l:=xs)
    cases (x==p) <;> simp <;> omega
theorem zFU [BEq α] [LawfulBEq α] (S : Sto lt) : ∀ (xs : List α) (a : List α), zBc lt a → zBc lt (xs.foldl (putS lt) a) ∧ ∀ y, y ∈ xs.foldl (putS lt) a ↔ y ∈ xs ∨ y ∈ a
  | [],a,h=>⟨h,fun y=>by simp⟩
  | x::xs,a,h=>by
    obtain ⟨h1,h2⟩:=zFU S xs (putS lt a x) (zKK S x h)
    refine ⟨h1,fun y=>?_⟩
    rw [List.foldl_cons,h2,zO2,List.mem_cons]
    constructor
    · rintro (h | h | h)
      · exact .inl (.inr h)
      · exact .inl (.inl h)
      · exact .inr h
    · rintro ((h | h) | h)
      · exact .inr (.inl h)
      · exact .inl h
      · exact .inr (.inr h)
theorem zIN (S:Sto lt) (l:List α):zH2 lt (l.mergeSort fun x y=>!(lt y x)):=by
  have:=List.pairwise_mergeSort (le:=fun x y=>!(lt y x)) (fun a b c h k=>by
    simp only [Bool.not_eq_true'] at *
    exact S.le_tr h k) (fun a b=>by
    simp only [Bool.or_eq_true,Bool.not_eq_true']
    cases hb:lt b a
    · exact .inl rfl
    · exact .inr (S.asy hb)) l
  exact this.imp fun h=>by simpa using h
end
end Go.Proofs.YtcodfkieaoomnaaGreatDoor
namespace Go.Proofs.YtcodfkieaoomnaaGreatDoor
open Go.RowKit
set_option linter.unusedVariables false
set_option linter.unusedSimpArgs false
theorem zHI {α:Type} (xs:List α) (k:Nat):subL xs 0 (k:Int)=xs.take k:=by simp [subL]
theorem zGT {α:Type} (xs:List α) (k:Nat):subL xs (k:Int) (xs.length:Int)=xs.drop k:=by
  unfold subL
  rw [Int.toNat_natCast,Int.toNat_natCast]
  exact List.take_of_length_le (by simp)
theorem zOR {α:Type} {xs:List α} {k:Nat} (h:k≤xs.length):subR 0 (k:Int) xs.length=true:=zBj.2 ⟨by omega,by omega,by omega⟩
theorem zLQ {α:Type} {xs:List α} {k:Nat} (h:k≤xs.length):subR (k:Int) (xs.length:Int) xs.length=true:=zBj.2 ⟨by omega,by omega,by omega⟩
theorem zNP {α : Type} {lt : α → α → Bool} {x : α} {l : List α} {L : Nat → Int → Option Int} (hs : ∀ k (i : Nat) y, l[i]? = some y → L (k + 1) (i : Int) = bif lt y x then L k ((i + 1 : Nat) : Int) else some (i : Int)) (he : ∀ k, L (k + 1) (l.length : Int) = some (l.length : Int)) {fu : Nat} (hf : l.length < fu) :
    L fu (0:Int)=some ((plc lt x l:Nat):Int):=by
  have key:∀ m i k,i+m=l.length→m<k→L k ((i:Nat):Int)=some ((i+plc lt x (l.drop i):Nat):Int):=by
    intro m
    induction m with
    | zero=>
      intro i k hi hk
      obtain ⟨k,rfl⟩:∃ q,k=q+1:=⟨k-1,by omega⟩
      obtain rfl:i=l.length:=by omega
      rw [he,List.drop_length]
      rfl
    | succ m ih=>
      intro i k hi hk
      obtain ⟨k,rfl⟩:∃ q,k=q+1:=⟨k-1,by omega⟩
      have hx:=List.getElem?_eq_getElem (show i<l.length by omega)
      rw [hs k i _ hx,zEf hx,plc]
      cases lt l[i] x
      · rfl
      · rw [cond_true, cond_true, ih (i + 1) k (by omega) (by omega)]
        congr 2
        omega
  have:=key l.length 0 fu (by omega) hf
  rwa [show ((0:Nat):Int)=0 from rfl,List.drop_zero,Nat.zero_add] at this
theorem zM4 {fu:Nat} {l:List (List UInt8)} {x:List UInt8} {tw:Bool} (hf:l.length<fu) (hl:l.length≤2147483648):zCp fu l x tw=some (bif tw then putW bLt l x else putS bLt l x):=by
  unfold zCp
  have h:=zNP (lt:=bLt) (x:=x) (l:=l) (L:=zCT fu l x) (fun k i y hy=>by
    have hi:=zDn hy
    rw [zCT]
    simp only [lt_t hi,zBF hi,zBC hy,zBN,Bool.or_true,Bool.true_and,zCK,zCU (show i≤4294967296 by omega),zBe]) (fun k=>by rw [zCT,lt_f];rfl) hf
  have hp:=zOC (lt:=bLt) (x:=x) l
  rw [h,zA6]
  simp only [zBN,zHI,zGT,zOR hp,zLQ hp,zCK,List.length_nil,List.length_append,List.length_take,List.length_drop,List.length_singleton,List.nil_append,Nat.zero_add,zBg (show min (plc bLt x l) l.length≤4294967296 by omega),zBg (show min (plc bLt x l) l.length+1≤4294967296 by omega),zBg (show min (plc bLt x l) l.length+1+(l.length-plc bLt x l)≤4294967296 by omega)]
  have hins:l.take (plc bLt x l) ++ [x]++l.drop (plc bLt x l)=putW bLt l x:=by simp [putW,zLr]
  rw [hins]
  unfold putS
  by_cases hlt:plc bLt x l<l.length
  · have hg := List.getElem?_eq_getElem hlt
    rw [lt_t hlt,zBF hlt,zBC hg,hg]
    have:(some l[plc bLt x l]==some x)=(l[plc bLt x l]==x):=rfl
    rw [this]
    cases tw <;> cases (l[plc bLt x l]==x) <;> rfl
  · have e : decide (((plc bLt x l : Nat) : Int) < (l.length : Int)) = false := decide_eq_false (by omega)
    have e2:l[plc bLt x l]? = none:=List.getElem?_eq_none (by omega)
    rw [e,e2]
    cases tw <;> rfl
theorem zQ0 {fu:Nat} {l:List (List UInt8)} {x:List UInt8} (hf:l.length<fu) (hl:l.length≤2147483648):zEb fu l x=some (l.any fun y=>y==x):=by
  unfold zEb
  have h:=zFI (xs:=l) (p:=fun y=>y==x) (r:=true) (L:=zCb fu l x) (fun k i y hy=>by
    have hi:=zDn hy
    rw [zCb,lt_t hi,cond_true]
    simp only [zBF hi,zBC hy,zCK,zCU (show i≤4294967296 by omega),zBe]) (fun k=>by rw [zCb,lt_f];rfl) hf
  rw [h,zA6]
  cases l.any fun y=>y==x <;> rfl
theorem zKM {l:List (List UInt8)} {x:List UInt8}:(l.any fun y=>y==x)=true ↔ x ∈ l:=by simp
theorem zJi {fu:Nat} {a b:List (List UInt8)} (hf:1048577≤fu) (ha:a.length≤1048576) (hb:b.length≤1048576):zBw fu a b=some ((a.filter fun x=>b.any fun y=>y==x).foldl (putS bLt) []):=by
  unfold zBw
  have h:=zEA (xs:=a) (g:=fun (acc:List (List UInt8)) x=>bif (b.any fun y=>y==x) then putS bLt acc x else acc) (Inv:=fun i acc=>acc.length≤i) (L:=fun k i acc=>zAh fu a b k i acc) (fun k i acc x hx hacc=>by
    have hi:=zDn hx
    show zAh fu a b (k+1) (i:Int) acc=_
    rw [zAh,lt_t hi,cond_true]
    simp only [zBF hi,zBC hx,zCK,zQ0 (show b.length<fu by omega) (show b.length≤2147483648 by omega),zM4 (show acc.length<fu by omega) (show acc.length≤2147483648 by omega),zA6,zCU (show i≤4294967296 by omega),zBe,cond_false]
    cases b.any fun y=>y==x <;> rfl) (fun i acc x hx hacc=>by
    show (bif (b.any fun y=>y==x) then putS bLt acc x else acc).length≤i+1
    cases b.any fun y=>y==x
    · exact Nat.le_succ_of_le hacc
    · rw [cond_true]
      unfold putS putW
      cases (acc[plc bLt x acc]? == some x)
      · rw [cond_false,zFD];omega
      · exact Nat.le_succ_of_le hacc) (fun k acc hacc=>by show zAh fu a b (k+1) (a.length:Int) acc=_;rw [zAh,lt_f];rfl) (a:=[]) (Nat.zero_le _) (show a.length<fu by omega)
  rw [h.1,zA6,List.foldl_filter]
  congr 1
  have:(fun (acc:List (List UInt8)) x=>bif (b.any fun y=>y==x) then putS bLt acc x else acc)=fun acc x=>if (b.any fun y=>y==x)=true then putS bLt acc x else acc:=by
    funext acc x
    cases b.any fun y=>y==x <;> rfl
  rw [this]
theorem zKk {fu:Nat} {l:List (List UInt8)} (hl:l.length≤4294967296):zAj fu l=some l:=by
  unfold zAj
  rw [List.nil_append,ck_t (zBg (by simpa using hl))]
theorem zKa {fu:Nat} {l:List (List UInt8)} (hl:l.length≤4294967296):zHd fu l=some (l.mergeSort fun x y=>!(bLt y x)):=by
  unfold zHd
  rw [ck_t (zBg hl)]
  have:(fun x y:List UInt8=>decide (x≤y))=fun x y=>!(bLt y x):=by
    funext x y
    exact zPc x y
  rw [this]
theorem zMS {α:Type} {z:α} {s:List α} {w:Nat} (h:w≤s.length):subL (s.take w++List.replicate (s.length-w) z) 0 (w:Int)=s.take w:=by
  rw [zHI,List.take_append_of_le_length (by simp;omega),List.take_take,Nat.min_self]
theorem zK6 {α:Type} {z:α} {s:List α} {w:Nat} (h:w≤s.length):(s.take w++List.replicate (s.length-w) z).length=s.length:=by simp;omega
theorem zLi {fu : Nat} {s : List (List UInt8)} {i : Nat} (hl : s.length ≤ 1048576) (hi0 : 0 < i) : ∀ m j w k ys q, i + j + m = s.length → m < k → 1 ≤ j → w ≤ i + j - 1 → ys.length = s.length → ys.drop (i + j - 1) = s.drop (i + j - 1) → s[i + j - 1]? = some q → ys.take w ++ cmpA q (s.drop (i + j)) = cmpL s →
    ∃ (w':Nat) (ys':List (List UInt8)),zAV fu (i:Int) (s.length-i) k (w:Int) (j:Int) ys=some ((w':Int),ys')∧ys'.length=s.length∧w'≤s.length∧ys'.take w'=cmpL s:=by
  intro m
  induction m with
  | zero=>
    intro j w k ys q hm hk hj hw hlen hdr hq hc
    obtain ⟨k,rfl⟩:∃ q,k=q+1:=⟨k-1,by omega⟩
    refine ⟨w,ys,?_,hlen,by omega,?_⟩
    · rw [zAV, decide_eq_false (show ¬ (j : Int) < ((s.length - i : Nat) : Int) by omega)]
      rfl
    · rw [show i + j = s.length by omega, List.drop_length] at hc
      simpa [cmpA] using hc
  | succ m ih=>
    intro j w k ys q hm hk hj hw hlen hdr hq hc
    obtain ⟨k,rfl⟩:∃ q,k=q+1:=⟨k-1,by omega⟩
    have hx:=List.getElem?_eq_getElem (show i+j<s.length by omega)
    have hat:∀ n,i+j-1≤n→ys[n]? = s[n]?:=fun n hn=>by
      have:=congrArg (fun l=>l[n-(i+j-1)]?) hdr
      simp only [List.getElem?_drop] at this
      rwa [show i+j-1+(n-(i+j-1))=n by omega] at this
    have hyx:ys[i+j]? = some s[i+j]:=(hat _ (by omega)).trans hx
    have hyq:ys[i+j-1]? = some q:=(hat _ (Nat.le_refl _)).trans hq
    have e1:((i:Int)+(j:Int))=((i+j:Nat):Int):=rfl
    have e2:((i:Int)+((j:Int)-1))=((i+j-1:Nat):Int):=by omega
    rw [zAV,decide_eq_true (show (j:Int)<((s.length-i:Nat):Int) by omega),cond_true,ck_t (zNi (by omega) (by omega)),ck_t (decide_eq_true (by omega)),e1,ck_t (zBF (by omega)),ck_t (zAl (by omega) (by omega)),ck_t (zNi (by omega) (by omega)),ck_t (decide_eq_true (by omega)),e2,ck_t (zBF (by omega)),zBC hyx,zBC hyq]
    rw [zEf hx,cmpA] at hc
    cases hb:(s[i+j]==q)
    · rw [Bool.not_false, cond_true, ck_t (zNi (by omega) (by omega)), ck_t (decide_eq_true (by omega)), ck_t (zBF (by omega)), ck_t (zBF (by omega)), ck_t (zFs (by omega)), ck_t (zFs (by omega)), zBe, zBe, zJX]
      rw [hb,cond_false] at hc
      have:=ih (j+1) (w+1) k (ys.set w s[i+j]) s[i+j] (by omega) (by omega) (by omega) (by omega) (by rw [List.length_set];exact hlen) ?_ ?_ ?_
      · exact this
      · rw [List.drop_set_of_lt (by omega)]
        have:=congrArg (fun l=>l.drop 1) hdr
        simp only [List.drop_drop] at this
        rwa [show i+(j+1)-1=i+j-1+1 by omega]
      · rw [show i + (j + 1) - 1 = i + j by omega]
        exact hx
      · rw [List.take_add_one, List.take_set_of_le (Nat.le_refl _), List.getElem?_set_self (by omega)]
        simpa [Nat.add_assoc] using hc
    · rw [Bool.not_true, cond_false, ck_t (zFs (by omega)), zBe]
      rw [hb,cond_true] at hc
      refine ih (j+1) w k ys s[i+j] (by omega) (by omega) (by omega) (by omega) hlen ?_ ?_ hc
      · have := congrArg (fun l => l.drop 1) hdr
        simp only [List.drop_drop] at this
        rwa [show i+(j+1)-1=i+j-1+1 by omega]
      · rw [show i + (j + 1) - 1 = i + j by omega]
        exact hx
theorem zMk {fu:Nat} {s:List (List UInt8)} (hf:1048577≤fu) (hl:s.length≤1048576):zB7 fu s=some (cmpL s):=by
  unfold zB7
  by_cases h2:s.length<2
  · rw [decide_eq_true (by omega), cond_true]
    match s,h2 with
    | [],_=>rfl
    | [x],_=>rfl
  · rw [decide_eq_false (by omega), cond_false]
    have key : ∀ m i k q, i + m = s.length → m < k → 0 < i → s[i - 1]? = some q → s.take i ++ cmpA q (s.drop i) = cmpL s →
        zAW fu k (i:Int) s=some (Ex.ret (cmpL s))∨(zAW fu k (i:Int) s=some (Ex.go s)∧cmpL s=s):=by
      intro m
      induction m with
      | zero=>
        intro i k q hm hk hi hq hc
        obtain ⟨k,rfl⟩:∃ q,k=q+1:=⟨k-1,by omega⟩
        obtain rfl:i=s.length:=by omega
        right
        refine ⟨by rw [zAW,lt_f];rfl,?_⟩
        rw [List.drop_length,List.take_length] at hc
        simpa [cmpA] using hc.symm
      | succ m ih=>
        intro i k q hm hk hi hq hc
        obtain ⟨k,rfl⟩:∃ q,k=q+1:=⟨k-1,by omega⟩
        have hlt:i<s.length:=by omega
        have hx:=List.getElem?_eq_getElem hlt
        have e1:((i:Int)-1)=((i-1:Nat):Int):=by omega
        rw [zAW,lt_t hlt,cond_true,ck_t (zBF hlt),ck_t (zAl (by omega) (by omega)),e1,ck_t (zBF (by omega)),zBC hx,zBC hq]
        have hc':=hc
        rw [zEf hx,cmpA] at hc
        cases hb:(s[i]==q)
        · rw [cond_false, ck_t (zFs (by omega)), zBe]
          rw [hb,cond_false] at hc
          refine ih (i+1) k s[i] (by omega) (by omega) (by omega) (by rw [Nat.add_sub_cancel];exact hx) ?_
          have ht:s.take (i+1)=s.take i ++ [s[i]]:=by rw [List.take_add_one,hx];rfl
          rw [ht,List.append_assoc]
          exact hc
        · left
          rw [hb,cond_true] at hc
          obtain ⟨w',ys',h3,h4,h5,h6⟩:=zLi (fu:=fu) hl hi (s.length-i-1) 1 i fu s s[i] (by omega) (by omega) (Nat.le_refl _) (by omega) rfl rfl (by rw [Nat.add_sub_cancel];exact hx) hc
          rw [cond_true,ck_t (zLQ (Nat.le_of_lt hlt)),zBN,Int.toNat_natCast,Int.toNat_natCast,show ((1:Int))=((1:Nat):Int) from rfl,h3,zA6]
          simp only [h4,zBj.2 ⟨show (0:Int)≤(w':Int) by omega,show (w':Int)≤(s.length:Int) by omega,show (s.length:Int)≤(s.length:Int) from Int.le_refl _⟩,zBN,Int.toNat_natCast,zCK,beq_self_eq_true]
          have e3:(ys'.take w'++List.replicate (s.length-w') ([]:List UInt8))=(ys'.take w'++List.replicate (ys'.length-w') ([]:List UInt8)):=by rw [h4]
          rw [e3,ck_t (by rw [zK6 (by omega)];exact zOR (by omega)),zMS (by omega),h6]
    obtain ⟨x0,t,hs⟩:∃ x t,s=x::t:=by
      cases s with
      | nil=>simp at h2
      | cons x t=>exact ⟨x,t,rfl⟩
    have hk:=key (s.length-1) 1 fu x0 (by omega) (by omega) (by omega) (by rw [hs];rfl) (by rw [hs];rfl)
    rw [show ((1:Int))=((1:Nat):Int) from rfl]
    rcases hk with h | ⟨h,e⟩
    · rw [h]
      rfl
    · rw [h, e]
      rfl
theorem zIH {fu:Nat} {l:List (List UInt8)} (hf:1048577≤fu) (hl:l.length≤1048576):zCh fu l=some (cmpL (l.mergeSort fun x y=>!(bLt y x))):=by
  unfold zCh
  rw [zKk (by omega),zA6,zKa (by omega),zA6,zMk hf (by rw [List.length_mergeSort];exact hl)]
  rfl
def setL (l:List (List UInt8)):List (List UInt8):=cmpL (l.mergeSort fun x y=>!(bLt y x))
theorem zFn (l:List (List UInt8)):zBc bLt (setL l):=zKo zD8 (zIN zD8 l)
theorem zFo {l:List (List UInt8)} {x:List UInt8}:x ∈ setL l ↔ x ∈ l:=by
  unfold setL
  rw [zNX,List.mem_mergeSort]
theorem zKW {l:List (List UInt8)}:(cmpL l).length≤l.length:=by
  cases l with
  | nil=>exact Nat.le_refl _
  | cons x xs=>
    have:=zIY (p:=x) (l:=xs)
    simp [cmpL]
    omega
theorem zIT (l:List (List UInt8)):(setL l).length≤l.length:=by
  have:=zKW (l:=l.mergeSort fun x y=>!(bLt y x))
  rwa [List.length_mergeSort] at this
theorem zMv (a b:List (List UInt8)):(a.filter fun x=>b.any fun y=>y==x).foldl (putS bLt) []=(setL a).filter fun x=>b.any fun y=>y==x:=by
  obtain ⟨h1,h2⟩:=zFU zD8 (a.filter fun x=>b.any fun y=>y==x) [] List.Pairwise.nil
  refine zEX zD8 h1 ((zFn a).sublist List.filter_sublist) fun x=>?_
  rw [h2,List.mem_filter,List.mem_filter,zFo]
  simp
end Go.Proofs.YtcodfkieaoomnaaGreatDoor
namespace Go.Proofs.YtcodfkieaoomnaaGreatDoor
open Go.RowKit
set_option linter.unusedVariables false
set_option linter.unusedSimpArgs false
def wds : List UInt8 → List UInt8 → List (List UInt8)
  | cur,[]=>bif cur.isEmpty then [] else [cur]
  | cur,b::l=>bif b==32 then (bif cur.isEmpty then wds [] l else cur::wds [] l) else wds (cur ++ [b]) l
def neL (l:List (List UInt8)):List (List UInt8):=l.filter fun y=>!y.isEmpty
theorem zJP (x:List UInt8) (l:List (List UInt8)):neL (x::l)=bif x.isEmpty then neL l else x::neL l:=by
  unfold neL
  rw [List.filter_cons]
  cases x.isEmpty <;> rfl
theorem zKE : ∀ (s cur x : List UInt8) (xs : List (List UInt8)), spC 32 s = x :: xs → wds cur s = neL ((cur ++ x) :: xs)
  | [],cur,x,xs,h=>by
    rw [spC] at h
    injection h with h1 h2
    subst h1;subst h2
    rw [wds,zJP,List.append_nil]
    rfl
  | b::s,cur,x,xs,h=>by
    obtain ⟨y,ys,hy⟩:∃ y ys,spC 32 s=y::ys:=by
      cases h':spC 32 s with
      | nil=>exact absurd h' (zK0 32 s)
      | cons y ys=>exact ⟨y,ys,rfl⟩
    by_cases hb:b=32
    · subst hb
      rw [spC,if_pos rfl] at h
      injection h with h1 h2
      subst h1;subst h2
      have ih:=zKE s [] y ys hy
      rw [List.nil_append,← hy] at ih
      rw [wds,show ((32:UInt8)==32)=true from rfl,cond_true,ih,zJP,List.append_nil]
    · rw [spC, if_neg hb, hy] at h
      injection h with h1 h2
      subst h1;subst h2
      rw [wds,show (b==32)=false from beq_eq_false_iff_ne.2 hb,cond_false,zKE s (cur ++ [b]) y ys hy,List.append_assoc]
      rfl
theorem zPV (s:List UInt8):wds [] s=neL (spC 32 s):=by
  cases h:spC 32 s with
  | nil=>exact absurd h (zK0 32 s)
  | cons y ys=>rw [zKE s [] y ys h,List.nil_append]
theorem zMa (s : ByteArray) (f : Nat) (st : Option Nat) (acc : List (Nat × Nat)) (p : Nat → Bool) (hst : ∀ a, st = some a → a < s.size) :
    (Lib.closeSpans s (Lib.spansFromP p s f s.size st acc)).map (fun q=>Lib.pieceU s.data.toList q.1 q.2)=acc.map (fun q=>Lib.pieceU s.data.toList q.1 q.2)++wds (Lib.openPiece s.data.toList st s.size) (s.data.toList.drop s.size):=by
  have hd:s.data.toList.drop s.size = []:=List.drop_eq_nil_of_le (by rw [← Lib.size_eq];exact Nat.le_refl _)
  rw [hd,Lib.spansFromP_end p s _ _ _ _ (Nat.lt_irrefl _)]
  cases st with
  | none=>simp [Lib.closeSpans,Lib.openPiece,wds]
  | some a=>
    have:=Lib.pieceU_ne s.data.toList a s.size (hst a rfl) (by rw [← Lib.size_eq];exact Nat.le_refl _)
    have h2:(Lib.pieceU s.data.toList a s.size).isEmpty=false:=by
      cases hz:Lib.pieceU s.data.toList a s.size with
      | nil=>exact absurd hz this
      | cons _ _=>rfl
    simp [Lib.closeSpans,Lib.openPiece,wds,h2]
theorem zOd (s : ByteArray) (hs : ∀ b ∈ s.data.toList, b.toNat < 128) (p : Nat → Bool) (hp : ∀ b : UInt8, b.toNat < 128 → p b.toNat = (b == 32)) : ∀ (f pos : Nat) (st : Option Nat) (acc : List (Nat × Nat)), s.size ≤ pos + f → pos ≤ s.size → (∀ a, st = some a → a < pos) →
    (Lib.closeSpans s (Lib.spansFromP p s f pos st acc)).map (fun q=>Lib.pieceU s.data.toList q.1 q.2)=acc.map (fun q=>Lib.pieceU s.data.toList q.1 q.2)++wds (Lib.openPiece s.data.toList st pos) (s.data.toList.drop pos):=by
  intro f
  induction f with
  | zero=>
    intro pos st acc h hp0 hst
    obtain rfl:pos=s.size:=by omega
    exact zMa s 0 st acc p hst
  | succ f ih=>
    intro pos st acc h hp0 hst
    by_cases hlt:pos<s.size
    · have hl : pos < s.data.toList.length := by rw [← Lib.size_eq]; exact hlt
      have hb:(s[pos]'hlt)=s.data.toList[pos]'hl:=rfl
      have ha:(s[pos]'hlt).toNat<128:=by rw [hb];exact hs _ (List.getElem_mem hl)
      have hd:=decode_ascii s pos hlt ha
      have hdr:s.data.toList.drop pos=(s[pos]'hlt)::s.data.toList.drop (pos+1):=List.drop_eq_getElem_cons hl
      unfold Lib.spansFromP
      rw [if_pos hlt,hd,hdr]
      generalize (s[pos]'hlt)=b at ha hb hdr ⊢
      dsimp only
      rw [hp b ha,wds]
      have h1:s.size≤pos+1+f:=by omega
      cases hb32:b==32 with
      | true=>
        rw [if_pos rfl,cond_true]
        cases st with
        | none=>
          have ih:=ih (pos+1) none acc h1 (by omega) (fun a h=>by cases h)
          dsimp only
          rw [ih]
          rfl
        | some a=>
          have hpn:=Lib.pieceU_ne s.data.toList a pos (hst a rfl) (by omega)
          have ih:=ih (pos+1) none (acc ++ [(a,pos)]) h1 (by omega) (fun a h=>by cases h)
          dsimp only
          rw [ih]
          have:(Lib.openPiece s.data.toList (some a) pos).isEmpty=false:=by
            show (Lib.pieceU s.data.toList a pos).isEmpty=false
            cases hz:Lib.pieceU s.data.toList a pos with
            | nil=>exact absurd hz hpn
            | cons _ _=>rfl
          rw [this,cond_false,List.map_append,List.append_assoc]
          rfl
      | false=>
        rw [if_neg (by decide),cond_false]
        have ht:(s.data.toList.drop pos).take 1 = [b]:=by rw [hdr];rfl
        cases st with
        | none=>
          have ih:=ih (pos+1) (some pos) acc h1 (by omega) (fun a h=>by cases h;omega)
          dsimp only
          rw [ih]
          have:Lib.openPiece s.data.toList (some pos) (pos+1) = [] ++ [b]:=by
            show Lib.pieceU s.data.toList pos (pos+1)=_
            unfold Lib.pieceU
            rw [Nat.add_sub_cancel_left,ht]
            rfl
          rw [this]
          rfl
        | some a=>
          have ih:=ih (pos+1) (some a) acc h1 (by omega) (fun b h=>by cases h;have:=hst a rfl;omega)
          dsimp only
          rw [ih]
          have:Lib.openPiece s.data.toList (some a) (pos+1)=Lib.openPiece s.data.toList (some a) pos ++ [b]:=by
            show Lib.pieceU s.data.toList a (pos+1)=Lib.pieceU s.data.toList a pos ++ [b]
            rw [← Lib.pieceU_grow _ _ _ _ (Nat.le_of_lt (hst a rfl)),ht]
          rw [this]
    · obtain rfl : pos = s.size := by omega
      exact zMa s (f+1) st acc p hst
theorem zNW (s:ByteArray) (hs:∀ b ∈ s.data.toList,b.toNat<128) (p:Nat→Bool) (hp:∀ b:UInt8,b.toNat<128→p b.toNat=(b==32)):(Lib.goFieldsP p s).map (·.data.toList)=neL (spC 32 s.data.toList):=by
  have h:=zOd s hs p hp s.size 0 none [] (by omega) (Nat.zero_le _) (fun a h=>by cases h)
  rw [List.map_nil,List.nil_append,List.drop_zero] at h
  rw [show Lib.openPiece s.data.toList none 0 = [] from rfl,zPV] at h
  rw [← h]
  unfold Lib.goFieldsP Lib.spansOfP
  rw [List.map_map]
  apply List.map_congr_left
  intro q _
  exact Lib.extract_data s q.1 q.2
def okC (c:UInt8):Bool:=wdB c || c==32
theorem zP0 {c:UInt8} (h:okC c=true):c.toNat<128:=by
  unfold okC wdB wdI smI cpI dgI at h
  by_cases h32:c=32
  · subst h32;decide
  · rw [show (c == 32) = false from beq_eq_false_iff_ne.2 h32, Bool.or_false] at h
    simp only [Bool.or_eq_true,Bool.and_eq_true,decide_eq_true_eq] at h
    omega
theorem zOc (s:List UInt8):∀ c ∈ strL s,okC c=true:=by
  intro c hc
  unfold strL at hc
  obtain ⟨b,_,rfl⟩:=List.mem_map.1 hc
  unfold mkC okC
  cases h:wdB b
  · rfl
  · rw [cond_true,h];rfl
theorem zPK {o:List UInt8 × Bool} (h:∀ c ∈ o.1,okC c=true):∀ c ∈ coT o,okC c=true:=by
  unfold coT
  cases (!o.1.isEmpty&&o.2)
  · exact h
  · intro c hc
    rcases List.mem_append.1 hc with hc | hc
    · exact h c hc
    · rw [List.mem_singleton.1 hc];rfl
theorem zLt : ∀ (s : List UInt8) (o : List UInt8 × Bool), (∀ c ∈ s, okC c = true) → (∀ c ∈ o.1, okC c = true) → ∀ c ∈ (s.foldl coS o).1, okC c = true
  | [],o,_,ho=>ho
  | b::s,o,hs,ho=>by
    rw [List.foldl_cons]
    refine zLt s _ (fun c hc=>hs c (List.mem_cons_of_mem _ hc)) ?_
    cases h:b==32
    · rw [zJe h]
      intro c hc
      rcases List.mem_append.1 hc with hc | hc
      · exact zPK ho c hc
      · rw [List.mem_singleton.1 hc];exact hs b List.mem_cons_self
    · rw [zK3 h]
      exact ho
theorem zMV (s:List UInt8):∀ c ∈ nrmL s,okC c=true:=zLt _ _ (zOc _) (fun c h=>by cases h)
theorem zKy (l:List (List UInt8)):l.foldl (putS bLt) []=setL l:=by
  obtain ⟨h1,h2⟩:=zFU zD8 l [] List.Pairwise.nil
  refine zEX zD8 h1 (zFn l) fun x=>?_
  rw [h2,zFo]
  simp
def tokL (s:List UInt8):List (List UInt8):=setL (neL (spC 32 (nrmL s)))
theorem zJM (l:List (List UInt8)):(neL l).length≤l.length:=List.length_filter_le _ _
theorem zOY {fu:Nat} {s:List UInt8} (hs:s.length≤2097152) (ha:∀ c ∈ s,okC c=true):zEc fu s=some (neL (spC 32 s)):=by
  have hF:∀ n:Int,zDo fu n=some (n==32):=fun n=>rfl
  unfold zEc zI7
  rw [ck_t (zBg (by omega)),ck_t (zLp fun n _=>by rw [hF];rfl),zA6]
  have:=zNW ⟨s.toArray⟩ (by simpa using fun b hb=>zP0 (ha b hb)) (fun n=>(zDo fu (n:Int)).getD false) (fun b _=>by
    rw [hF]
    show (((b.toNat:Nat):Int)==(32:Int))=_
    exact e32)
  rw [this]
theorem zIP {fu:Nat} {s:List UInt8} (hf:1048577≤fu) (hl:s.length≤262144):zCl fu s=some (tokL s):=by
  have h2:=zGD s
  have h3:=zJN 32 (nrmL s)
  have h4:=zJM (spC 32 (nrmL s))
  unfold zCl
  rw [zHi (by omega) (by omega),zA6,zOY (by omega) (zMV s),zA6,zIH hf (by omega),zA6]
  rfl
theorem zIM {fu:Nat} {s:List UInt8} (hf:1048577≤fu) (hl:s.length≤262144):zCo fu s=some (tokL s):=by
  have h2:=zGD s
  have h3:=zJN 32 (nrmL s)
  unfold zCo tokL
  have hcut:zDT fu (nrmL s) (32:Int)=some (spC 32 (nrmL s)):=zOS (c:=32) hf (by omega)
  rw [zGZ (by omega) (by omega),zA6,hcut,zA6]
  generalize spC 32 (nrmL s)=l at h3 ⊢
  have h:=zEA (xs:=l) (g:=fun (acc:List (List UInt8)) x=>bif x.isEmpty then acc else putS bLt acc x) (Inv:=fun i acc=>acc.length≤i) (L:=zBn fu l) (fun k i acc x hx hacc=>by
    have hi:=zDn hx
    rw [zBn,lt_t hi,cond_true]
    simp only [zBF hi,zBC hx,zCK,zM4 (show acc.length<fu by omega) (show acc.length≤2147483648 by omega),zA6,zCU (show i≤4294967296 by omega),zBe,cond_false]
    cases x with
    | nil=>rfl
    | cons b x=>rfl) (fun i acc x hx hacc=>by
    show (bif x.isEmpty then acc else putS bLt acc x).length≤i+1
    cases x.isEmpty
    · rw [cond_false]
      unfold putS putW
      cases (acc[plc bLt x acc]? == some x)
      · rw [cond_false,zFD];omega
      · exact Nat.le_succ_of_le hacc
    · exact Nat.le_succ_of_le hacc) (fun k acc hacc=>by rw [zBn,lt_f];rfl) (a:=[]) (Nat.zero_le _) (show l.length<fu by omega)
  rw [h.1,zA6,← zKy]
  unfold neL
  rw [List.foldl_filter]
  congr 2
  funext acc x
  cases x.isEmpty <;> rfl
theorem zIq (c : UInt8) : ∀ s : List UInt8, ∀ x ∈ spC c s, ∀ b ∈ x, b ∈ s ∧ b ≠ c
  | [],x,hx,b,hb=>by rw [spC] at hx;rw [List.mem_singleton.1 hx] at hb;cases hb
  | a::s,x,hx,b,hb=>by
    unfold spC at hx
    split at hx
    · rcases List.mem_cons.1 hx with rfl | hx
      · cases hb
      · exact ⟨List.mem_cons_of_mem _ (zIq c s x hx b hb).1,(zIq c s x hx b hb).2⟩
    · rename_i hac
      cases h:spC c s with
      | nil=>exact absurd h (zK0 c s)
      | cons y ys=>
        rw [h] at hx
        rcases List.mem_cons.1 hx with rfl | hx
        · rcases List.mem_cons.1 hb with rfl | hb
          · exact ⟨List.mem_cons_self,hac⟩
          · have := zIq c s y (by rw [h]; exact List.mem_cons_self) b hb
            exact ⟨List.mem_cons_of_mem _ this.1,this.2⟩
        · have := zIq c s x (by rw [h]; exact List.mem_cons_of_mem _ hx) b hb
          exact ⟨List.mem_cons_of_mem _ this.1,this.2⟩
theorem zHO {s t:List UInt8} (h:t ∈ tokL s):t ≠ []∧t.length≤2*s.length∧∀ b ∈ t,wdB b=true:=by
  unfold tokL at h
  rw [zFo] at h
  unfold neL at h
  obtain ⟨h1,h2⟩:=List.mem_filter.1 h
  refine ⟨(by intro e;subst e;cases h2),Nat.le_trans (zJ9 32 _ t h1) (zGD s),fun b hb=>?_⟩
  obtain ⟨h3,h4⟩:=zIq 32 _ t h1 b hb
  have:=zMV s b h3
  unfold okC at this
  rw [show (b==32)=false from beq_eq_false_iff_ne.2 h4,Bool.or_false] at this
  exact this
theorem zHP (s:List UInt8):(tokL s).length≤2*s.length+1:=by
  have h2:=zGD s
  have h3:=zJN 32 (nrmL s)
  have h4:=zJM (spC 32 (nrmL s))
  have h5:=zIT (neL (spC 32 (nrmL s)))
  unfold tokL
  omega
end Go.Proofs.YtcodfkieaoomnaaGreatDoor
namespace Go.Proofs.YtcodfkieaoomnaaGreatDoor
open Go.RowKit
set_option linter.unusedVariables false
set_option linter.unusedSimpArgs false
theorem zK8 {p:UInt8→Prop} (h:∀ n:Fin 256,p (UInt8.ofNat n.val)) (d:UInt8):p d:=by
  have:=h ⟨d.toNat,d.toNat_lt⟩
  rwa [UInt8.ofNat_toNat] at this
theorem zLu {α σ ρ τ : Type} {xs : List α} {bad : α → Bool} {r : ρ} {g : σ → α → σ} {f : σ → τ} {Inv : Nat → σ → Prop} {L : Nat → Int → σ → Option (Ex ρ τ)} {i0 : Nat}
    (hs:∀ k (i:Nat) a x,i0≤i→xs[i]? = some x→Inv i a→L (k+1) (i:Int) a=bif bad x then some (.ret r) else L k ((i+1:Nat):Int) (g a x)) (hI:∀ (i:Nat) a x,i0≤i→xs[i]? = some x→bad x=false→Inv i a→Inv (i+1) (g a x))
    (he:∀ k a,Inv xs.length a→L (k+1) (xs.length:Int) a=some (.go (f a))) {a:σ} (h0:Inv i0 a) (hi0:i0≤xs.length) {fu:Nat} (hf:xs.length-i0<fu) :
    L fu (i0:Int) a=some (bif (xs.drop i0).any bad then .ret r else .go (f ((xs.drop i0).foldl g a)))∧((xs.drop i0).any bad=false→Inv xs.length ((xs.drop i0).foldl g a)):=by
  have key:∀ m i k a,i+m=xs.length→m<k→i0≤i→Inv i a→L k ((i:Nat):Int) a=some (bif (xs.drop i).any bad then .ret r else .go (f ((xs.drop i).foldl g a)))∧((xs.drop i).any bad=false→Inv xs.length ((xs.drop i).foldl g a)):=by
    intro m
    induction m with
    | zero=>
      intro i k a hi hk hge ha
      obtain ⟨k,rfl⟩:∃ q,k=q+1:=⟨k-1,by omega⟩
      obtain rfl:i=xs.length:=by omega
      rw [he k a ha,List.drop_length]
      exact ⟨rfl,fun _=>ha⟩
    | succ m ih=>
      intro i k a hi hk hge ha
      obtain ⟨k,rfl⟩:∃ q,k=q+1:=⟨k-1,by omega⟩
      have hx:=List.getElem?_eq_getElem (show i<xs.length by omega)
      rw [hs k i a _ hge hx ha,zEf hx,List.foldl_cons,List.any_cons]
      cases hb:bad xs[i] with
      | true=>exact ⟨rfl,fun h=>by cases h⟩
      | false=>
        rw [cond_false,Bool.false_or]
        exact ih (i+1) k _ (by omega) (by omega) (by omega) (hI i a _ hge hx hb ha)
  exact key (xs.length-i0) i0 fu a (by omega) hf (Nat.le_refl _) h0
def sndD (d:UInt8):Int:=bif smI d.toNat then gtD sndL ((d.toNat:Int)-97) else -2
def sndC (c:UInt8):Int:=sndD (fld c)
theorem zL5 {fu:Nat} {c:UInt8} (hf:1048577≤fu):zDC fu (c.toNat:Int)=some (sndC c):=by
  unfold zDC sndC
  have e:strB ([((c.toNat:Nat):Int)]:List Int) = [c]:=zEB [c]
  rw [e,zHV (s:=[c]) (by simp;omega) (by simp),zA6]
  show _=some (sndD (fld c))
  rw [show ([c].map fld) = [fld c] from rfl]
  generalize fld c=d
  revert d
  refine zK8 ?_
  decide +kernel
theorem zNq (fu:Nat) (c:UInt8):zCI fu (c.toNat:Int)=some (sndC c):=by
  unfold zCI zC1 sndC
  revert c
  refine zK8 ?_
  decide +kernel
theorem zJA {fu:Nat} {c:UInt8}:zCI fu (c.toNat:Int)=some (sndC c):=zNq fu c
theorem zOD (c:UInt8):-2≤sndC c∧sndC c≤6:=by
  revert c
  refine zK8 ?_
  decide +kernel
theorem zP6 {n:Int} (h0:0≤n) (h1:n≤6):([(IntKind.u8.wrap ((48:Int)+n))]:List Int)=bytL [UInt8.ofNat (48+n.toNat)]:=by
  obtain ⟨k,rfl⟩:∃ k:Nat,n=(k:Int):=⟨n.toNat,by omega⟩
  rw [zKg _ (by omega) (by omega),Int.toNat_natCast]
  unfold bytL
  rw [List.map_cons,List.map_nil,UInt8.toNat_ofNat']
  congr 1
  omega
def sxG (o:List UInt8 × Int) (c:UInt8):List UInt8 × Int:=bif decide (sndC c<0) then o else (bif decide (0<sndC c)&&(sndC c != o.2) then o.1 ++ [UInt8.ofNat (48+(sndC c).toNat)] else o.1,sndC c)
def sxL (s : List UInt8) : List UInt8 := match s with
  | []=>[]
  | c::t=>bif (c::t).any (fun c=>sndC c == -2) then [] else ((t.foldl sxG ([fld c],sndC c)).1 ++ [48,48,48]).take 4
theorem zIO : ∀ (t : List UInt8) (o : List UInt8 × Int), o.1.length ≤ (t.foldl sxG o).1.length ∧ (t.foldl sxG o).1.length ≤ o.1.length + t.length
  | [],o=>⟨Nat.le_refl _,Nat.le_refl _⟩
  | c::t,o=>by
    have:=zIO t (sxG o c)
    have h2:o.1.length≤(sxG o c).1.length∧(sxG o c).1.length≤o.1.length+1:=by
      unfold sxG
      cases decide (sndC c<0)
      · cases (decide (0 < sndC c) && (sndC c != o.2))
        · exact ⟨Nat.le_refl _,Nat.le_succ _⟩
        · simp
      · exact ⟨Nat.le_refl _,Nat.le_succ _⟩
    rw [List.foldl_cons,List.length_cons]
    omega
theorem sub1 {c:UInt8} {t:List UInt8}:subL (c::t) 0 (1:Int) = [c]:=by
  rw [show ((1:Int))=((1:Nat):Int) from rfl,zHI]
  rfl
theorem zNp {fu:Nat} {s:List UInt8} (hf:1048577≤fu) (hl:s.length≤1048576):zDr fu s=some (sxL s):=by
  unfold zDr
  cases s with
  | nil=>rfl
  | cons c t=>
    have hlen:(c::t).length=t.length+1:=rfl
    rw [show ((c::t)==([]:List UInt8))=false from rfl,cond_false,ck_t (zBj.2 ⟨Int.le_refl _,by omega,by rw [hlen];omega⟩),sub1,zIr (s:=[c]) (by simp;omega) (by simp),zA6,show ([c].map fld) = [fld c] from rfl,ck_t (zBg (by simp)),ck_t (zKB (by rw [hlen];omega)),show bAt (c::t) (0:Int)=(c.toNat:Int) from rfl,zJA,zA6]
    have h1:=zLu (xs:=c::t) (bad:=fun c=>sndC c == -2) (r:=([]:List UInt8)) (g:=sxG) (f:=fun a:List UInt8 × Int=>bytL a.1) (Inv:=fun i a=>a.1.length≤i) (i0:=1) (L:=fun k i (a:List UInt8 × Int)=>zBG fu (c::t) k a.2 i (bytL a.1)) (fun k i a x hge hx ha=>by
      have hi:=zDn hx
      have hr:=zOD x
      try dsimp only
      rw [zBG,lt_t hi,cond_true,ck_t (zBF hi),zDy hx,zJA,zA6]
      have e0:(((i:Nat):Int)==(0:Int))=false:=by rw [beq_eq_false_iff_ne];omega
      have hone:∀ (l:List Int),l.length=1→zC2 ((bytL a.1).length+l.length)=true:=fun l hl=>zBg (by rw [zBz,hl];omega)
      rw [e0,Bool.false_or,zBN,zBN,hone _ rfl,zAl (show -9223372036854775808≤(48:Int)+sndC x by omega) (show (48:Int)+sndC x≤9223372036854775807 by omega)]
      simp only [zCK,zBe,zCU (show i≤4294967296 by omega)]
      cases hb:sndC x == -2 with
      | true=>rfl
      | false=>
        rw [cond_false,cond_false]
        unfold sxG
        cases hn:decide (sndC x<0) with
        | true=>rfl
        | false=>
          have h0:0≤sndC x:=by rw [decide_eq_false_iff_not] at hn;omega
          rw [cond_false]
          cases (decide (0<sndC x)&&(sndC x != a.2)) with
          | true=>rw [cond_true,zP6 h0 hr.2,zDf];rfl
          | false=>rfl) (fun i a x hge hx hb ha=>by
      have:=(zIO [x] a).2
      simp only [List.foldl_cons,List.foldl_nil,List.length_singleton] at this
      show (sxG a x).1.length≤i+1
      omega) (fun k a ha=>by (try dsimp only);rw [zBG,lt_f,cond_false]) (a:=([fld c],sndC c)) (Nat.le_refl _) (by rw [hlen];omega) (fu:=fu-1) (by rw [hlen];omega)
    have h1:=h1.1
    try dsimp only at h1
    obtain ⟨k,rfl⟩:∃ k,fu=k+1:=⟨fu-1,by omega⟩
    rw [Nat.add_sub_cancel] at h1
    rw [zBG,lt_0 (by rw [hlen];omega),cond_true,ck_t (zKB (by rw [hlen];omega)),show bAt (c::t) (0:Int)=(c.toNat:Int) from rfl,zJA,zA6,zBN,show ((((0:Int))==(0:Int)) || decide (sndC c<(0:Int)))=true from rfl,cond_true,zNQ,ck_t zKt,h1]
    have e:sxL (c::t)=bif (c::t).any (fun c=>sndC c == -2) then [] else ((t.foldl sxG ([fld c],sndC c)).1 ++ [48,48,48]).take 4:=rfl
    rw [e,List.any_cons,List.drop_one,List.tail_cons]
    cases hb:sndC c == -2 with
    | true=>rw [cond_true,zA6,Bool.true_or,cond_true];rfl
    | false=>
      rw [cond_false,zA6,Bool.false_or]
      cases hb2:t.any fun c=>sndC c == -2 with
      | true=>rw [cond_true,cond_true];rfl
      | false=>
        have hg:=zIO t ([fld c],sndC c)
        generalize (t.foldl sxG ([fld c],sndC c)).1=o at hg ⊢
        rw [cond_false,cond_false,zM1,zEB]
        have hg1:1≤o.length:=hg.1
        have hg2:o.length≤1+t.length:=hg.2
        rw [ck_t (zBg (by simp;omega)),ck_t (zBj.2 ⟨Int.le_refl _,by omega,by simp;omega⟩),show ((4:Int))=((4:Nat):Int) from rfl,zHI]
theorem zMh {o:List UInt8} {d:UInt8}:(o ++ [d]).take 4=bif decide (o.length<4) then o.take 4 ++ [d] else o.take 4:=by
  by_cases h:o.length<4
  · rw [decide_eq_true h,cond_true,List.take_of_length_le (by simp;omega),List.take_of_length_le (by omega)]
  · rw [decide_eq_false h,cond_false,List.take_append_of_le_length (by omega)]
theorem zL7 {fu : Nat} : ∀ (n k : Nat) (o : List UInt8), o.length + n = 4 → n < k → zBv fu k (bytL o) = some (bytL (o ++ List.replicate n 48))
  | 0,k,o,h,hk=>by
    obtain ⟨k,rfl⟩:∃ q,k=q+1:=⟨k-1,by omega⟩
    rw [zBv,zBz,decide_eq_false (by omega),cond_false,List.replicate_zero,List.append_nil]
  | n+1,k,o,h,hk=>by
    obtain ⟨k,rfl⟩:∃ q,k=q+1:=⟨k-1,by omega⟩
    rw [zBv,zBz,decide_eq_true (by omega),cond_true,show ([(48:Int)]:List Int)=bytL [48] from rfl,ck_t (zBg (by rw [zBz];simp;omega)),zDf,zL7 n k (o ++ [48]) (by simp;omega) (by omega),List.append_assoc]
    rfl
theorem zO1 {fu:Nat} {s:List UInt8} (hf:1048577≤fu) (hl:s.length≤1048576):zDt fu s=some (sxL s):=by
  unfold zDt
  cases s with
  | nil=>
    obtain ⟨k,rfl⟩:∃ k,fu=k+1:=⟨fu-1,by omega⟩
    rw [zAk]
    rfl
  | cons c t=>
    have hlen:(c::t).length=t.length+1:=rfl
    have h1:=zLu (xs:=c::t) (bad:=fun c=>sndC c == -2) (r:=([]:List UInt8)) (g:=sxG) (f:=fun a:List UInt8 × Int=>bytL (a.1.take 4)) (Inv:=fun i a=>a.1.length≤i) (i0:=1) (L:=fun k i (a:List UInt8 × Int)=>zAk fu (c::t) k a.2 i (bytL (a.1.take 4))) (fun k i a x hge hx ha=>by
      have hi:=zDn hx
      have hr:=zOD x
      try dsimp only
      rw [zAk,lt_t hi,cond_true,ck_t (zBF hi),zDy hx,zL5 hf,zA6]
      have e0:(((i:Nat):Int)==(0:Int))=false:=by rw [beq_eq_false_iff_ne];omega
      have hone:∀ (l:List Int),l.length=1→zC2 ((bytL (a.1.take 4)).length+l.length)=true:=fun l hl=>zBg (by rw [zBz,hl,List.length_take];omega)
      have h4:decide (((bytL (a.1.take 4)).length:Int)<(4:Int))=decide (a.1.length<4):=by
        rw [zBz,List.length_take]
        by_cases h:a.1.length<4
        · rw [decide_eq_true h,decide_eq_true (by omega)]
        · rw [decide_eq_false h,decide_eq_false (by omega)]
      rw [e0,zBN,zBN,hone _ rfl,h4,zAl (show -9223372036854775808≤(48:Int)+sndC x by omega) (show (48:Int)+sndC x≤9223372036854775807 by omega)]
      simp only [zCK,zBe,zCU (show i≤4294967296 by omega)]
      cases hb:sndC x == -2 with
      | true=>rfl
      | false=>
        rw [cond_false,cond_false]
        unfold sxG
        by_cases hn:sndC x<0
        · rw [decide_eq_true hn, decide_eq_false (show ¬ (0 : Int) < sndC x by omega), decide_eq_false (show ¬ (0 : Int) ≤ sndC x by omega)]
          rfl
        · have h0 : 0 ≤ sndC x := by omega
          rw [decide_eq_false hn,decide_eq_true h0,cond_true,cond_true,cond_false,cond_false]
          cases (decide (0<sndC x)&&(sndC x != a.2)) with
          | true=>
            rw [Bool.true_and,cond_true,zP6 h0 hr.2,zDf]
            dsimp only
            rw [zMh]
            cases decide (a.1.length<4) <;> rfl
          | false=>rfl) (fun i a x hge hx hb ha=>by
      have:=(zIO [x] a).2
      simp only [List.foldl_cons,List.foldl_nil,List.length_singleton] at this
      show (sxG a x).1.length≤i+1
      omega) (fun k a ha=>by (try dsimp only);rw [zAk,lt_f,cond_false]) (a:=([fld c],sndC c)) (Nat.le_refl _) (by rw [hlen];omega) (fu:=fu-1) (by rw [hlen];omega)
    have h1:=h1.1
    try dsimp only at h1
    obtain ⟨k,rfl⟩:∃ k,fu=k+1:=⟨fu-1,by omega⟩
    rw [Nat.add_sub_cancel] at h1
    rw [zAk,lt_0 (by rw [hlen];omega),cond_true,ck_t (zKB (by rw [hlen];omega)),show bAt (c::t) (0:Int)=(c.toNat:Int) from rfl,zL5 hf,zA6,show (((0:Int))==(0:Int))=true from rfl,cond_true,ck_t (zBj.2 ⟨Int.le_refl _,by omega,by rw [hlen];omega⟩),sub1,zHV (s:=[c]) (by simp;omega) (by simp),zA6,show ([c].map fld) = [fld c] from rfl,ck_t (zCe.2 ⟨Int.le_refl _,by simp⟩),show bAt [fld c] (0:Int)=((fld c).toNat:Int) from rfl,ck_t (zBg (by simp)),zNQ,ck_t zKt,show (([]:List Int) ++ [((fld c).toNat:Int)])=bytL (([fld c]:List UInt8).take 4) from rfl,h1]
    have e:sxL (c::t)=bif (c::t).any (fun c=>sndC c == -2) then [] else ((t.foldl sxG ([fld c],sndC c)).1 ++ [48,48,48]).take 4:=rfl
    rw [e,List.any_cons,List.drop_one,List.tail_cons]
    cases hb:sndC c == -2 with
    | true=>rw [cond_true,zA6,Bool.true_or,cond_true];rfl
    | false=>
      rw [cond_false,zA6,Bool.false_or]
      cases hb2:t.any fun c=>sndC c == -2 with
      | true=>rw [cond_true,cond_true];rfl
      | false=>
        have hg:=zIO t ([fld c],sndC c)
        generalize (t.foldl sxG ([fld c],sndC c)).1=o at hg ⊢
        have hg1:1≤o.length:=hg.1
        rw [cond_false,cond_false,zM1,zBz,show (((o.take 4).length:Int)==(0:Int))=false by rw [beq_eq_false_iff_ne,List.length_take];omega,cond_false,zL7 (4-(o.take 4).length) _ _ (by rw [List.length_take];omega) (by omega),zA6,zEB]
        congr 1
        by_cases h4:o.length<4
        · rw [List.take_of_length_le (Nat.le_of_lt h4), List.take_append, List.take_of_length_le (Nat.le_of_lt h4)]
          congr 1
          match o.length,hg1,h4 with
          | 1,_,_=>rfl
          | 2,_,_=>rfl
          | 3,_,_=>rfl
        · rw [List.take_append_of_le_length (by omega),show 4-(o.take 4).length=0 by rw [List.length_take];omega,List.replicate_zero,List.append_nil]
theorem zOw (s:List UInt8):(sxL s).length≤4:=by
  unfold sxL
  cases s with
  | nil=>exact Nat.zero_le _
  | cons c t=>
    dsimp only
    cases ((c::t).any fun c=>sndC c == -2)
    · rw [cond_false,List.length_take];omega
    · exact Nat.zero_le _
def skL (s:List UInt8):List (List UInt8):=setL (neL ((tokL s).map sxL))
theorem isE (x:List UInt8):(x==([]:List UInt8))=x.isEmpty:=by cases x <;> rfl
theorem zPL (l:List (List UInt8)):neL (l.map sxL)=l.foldl (fun (a:List (List UInt8)) t=>bif (sxL t).isEmpty then a else a ++ [sxL t]) []:=by
  have key:∀ (l a:List (List UInt8)),l.foldl (fun (a:List (List UInt8)) t=>bif (sxL t).isEmpty then a else a ++ [sxL t]) a=a++neL (l.map sxL):=by
    intro l
    induction l with
    | nil=>intro a;simp [neL]
    | cons t l ih=>
      intro a
      rw [List.foldl_cons,ih,List.map_cons,zJP]
      cases (sxL t).isEmpty <;> simp
  rw [key,List.nil_append]
theorem zLG {fu:Nat} {s:List UInt8} (hf:1048577≤fu) (hl:s.length≤262144):zCC fu s=some (skL s):=by
  have hle:=zHP s
  have htl:∀ t ∈ tokL s,t.length≤1048576:=fun t ht=>by have:=(zHO ht).2.1;omega
  unfold zCC skL
  rw [zIP hf hl,zA6]
  generalize tokL s=l at hle htl ⊢
  have h:=zEA (xs:=l) (g:=fun (a:List (List UInt8)) t=>bif (sxL t).isEmpty then a else a ++ [sxL t]) (Inv:=fun i a=>a.length≤i) (L:=zBP fu l) (fun k i a x hx ha=>by
    have hi:=zDn hx
    rw [zBP,lt_t hi,cond_true,ck_t (zBF hi),zBC hx,zNp hf (htl x (zGB hx)),zA6,isE,zBe,zCU (show i≤4294967296 by omega),List.length_singleton,zBg (show a.length+1≤4294967296 by omega)]
    cases (sxL x).isEmpty <;> rfl) (fun i a x hx ha=>by
    show (bif (sxL x).isEmpty then a else a ++ [sxL x]).length≤i+1
    cases (sxL x).isEmpty
    · rw [cond_false,List.length_append,List.length_singleton];omega
    · exact Nat.le_succ_of_le ha) (fun k a ha=>by rw [zBP,lt_f,cond_false]) (a:=[]) (Nat.zero_le _) (show l.length<fu by omega)
  rw [h.1,zA6,← zPL,zIH hf (by have:=zJM (l.map sxL);rw [List.length_map] at this;omega),zA6]
  rfl
theorem zLS {fu:Nat} {s:List UInt8} (hf:1048577≤fu) (hl:s.length≤262144):zCD fu s=some (skL s):=by
  have hle:=zHP s
  have htl:∀ t ∈ tokL s,t.length≤1048576:=fun t ht=>by have:=(zHO ht).2.1;omega
  unfold zCD skL
  rw [zIM hf hl,zA6]
  generalize tokL s=l at hle htl ⊢
  have h:=zEA (xs:=l) (g:=fun (a:List (List UInt8)) t=>bif (sxL t).isEmpty then a else putS bLt a (sxL t)) (Inv:=fun i a=>a.length≤i) (L:=zBO fu l) (fun k i a x hx ha=>by
    have hi:=zDn hx
    rw [zBO,lt_t hi,cond_true,ck_t (zBF hi),zBC hx,zO1 hf (htl x (zGB hx)),zA6,isE,zBe,zCU (show i≤4294967296 by omega),zM4 (show a.length<fu by omega) (show a.length≤2147483648 by omega),zA6]
    cases (sxL x).isEmpty <;> rfl) (fun i a x hx ha=>by
    show (bif (sxL x).isEmpty then a else putS bLt a (sxL x)).length≤i+1
    cases (sxL x).isEmpty
    · rw [cond_false]
      unfold putS putW
      cases (a[plc bLt (sxL x) a]? == some (sxL x))
      · rw [cond_false,zFD];omega
      · exact Nat.le_succ_of_le ha
    · exact Nat.le_succ_of_le ha) (fun k a ha=>by rw [zBO,lt_f,cond_false]) (a:=[]) (Nat.zero_le _) (show l.length<fu by omega)
  rw [h.1,zA6]
  congr 1
  rw [← zKy]
  unfold neL
  rw [List.foldl_filter,List.foldl_map]
  congr 1
  funext acc x
  cases (sxL x).isEmpty <;> rfl
theorem zML (s:List UInt8):(skL s).length≤2*s.length+1:=by
  have h1:=zHP s
  have h2:=zJM ((tokL s).map sxL)
  have h3:=zIT (neL ((tokL s).map sxL))
  rw [List.length_map] at h2
  unfold skL
  omega
theorem zM2 {s t:List UInt8} (h:t ∈ skL s):t.length≤4:=by
  unfold skL neL at h
  rw [zFo] at h
  obtain ⟨u,_,rfl⟩:=List.mem_map.1 (List.mem_filter.1 h).1
  exact zOw u
end Go.Proofs.YtcodfkieaoomnaaGreatDoor
namespace Go.Proofs.YtcodfkieaoomnaaGreatDoor
open Go.RowKit
set_option linter.unusedVariables false
set_option linter.unusedSimpArgs false
def inI (x lo hi:Int):Bool:=decide (lo≤x)&&decide (x≤hi)
theorem zIc {fu:Nat} {x lo hi:Int}:zD4 fu x lo hi=some (inI x lo hi):=rfl
end Go.Proofs.YtcodfkieaoomnaaGreatDoor
namespace Go.Proofs.YtcodfkieaoomnaaGreatDoor
open Go.RowKit
set_option linter.unusedVariables false
set_option linter.unusedSimpArgs false
theorem zPy:∀ d:Nat,d<10→strB [IntKind.u8.wrap ((48:Int)+(d:Int))] = [UInt8.ofNat (48+d)]:=by
  intro d hd
  have:∀ d:Fin 10,strB [IntKind.u8.wrap ((48:Int)+((d.val:Nat):Int))] = [UInt8.ofNat (48+d.val)]:=by decide
  exact this ⟨d,hd⟩
theorem zNx (n:Int):(if n.tmod 10<0 then 0-n.tmod 10 else n.tmod 10)=((n.natAbs % 10:Nat):Int)∧(n.tdiv 10).natAbs=n.natAbs / 10:=by
  cases n with
  | ofNat u=>
    have h1:(Int.ofNat u).tmod 10=((u % 10:Nat):Int):=rfl
    have h2:(Int.ofNat u).tdiv 10=((u / 10:Nat):Int):=rfl
    rw [h1,h2]
    refine ⟨?_,?_⟩
    · rw [if_neg (by omega)];rfl
    · rw [Int.natAbs_natCast];rfl
  | negSucc u=>
    have h1:(Int.negSucc u).tmod 10 = -(((u+1) % 10:Nat):Int):=rfl
    have h2:(Int.negSucc u).tdiv 10 = -(((u+1) / 10:Nat):Int):=rfl
    rw [h1,h2,show (Int.negSucc u).natAbs=u+1 from rfl]
    refine ⟨?_,?_⟩
    · split <;> omega
    · rw [Int.natAbs_neg,Int.natAbs_natCast]
def decT (u:Nat):List UInt8:=if u=0 then [] else Lib.decDigits u
theorem zMU (u:Nat) (h:u ≠ 0):decT u=decT (u / 10) ++ [UInt8.ofNat (48+u % 10)]:=by
  unfold decT
  rw [if_neg h,Lib.decDigits]
  by_cases h10:u<10
  · rw [dif_pos h10,if_pos (by omega),List.nil_append,Nat.mod_eq_of_lt h10]
  · rw [dif_neg h10,if_neg (by omega)]
theorem zNn (k u:Nat) (h:u<10 ^ (k+1)):(decT u).length≤k+1:=by
  unfold decT
  split
  · simp
  · exact zEe k u h
theorem zIE {fu : Nat} : ∀ (k : Nat) (n : Int) (acc : List UInt8), n.natAbs < 10 ^ k → n.natAbs ≤ 9223372036854775808 → acc.length + k ≤ 1000 → ∀ q, k < q → zBA fu q n acc = some (decT n.natAbs ++ acc)
  | 0,n,acc,h,hn,hl,q,hq=>by
    obtain ⟨q,rfl⟩:∃ z,q=z+1:=⟨q-1,by omega⟩
    have:n=0:=by rw [Nat.pow_zero] at h;omega
    subst this
    rw [zBA]
    rfl
  | k+1,n,acc,h,hn,hl,q,hq=>by
    obtain ⟨q,rfl⟩:∃ z,q=z+1:=⟨q-1,by omega⟩
    by_cases h0:n=0
    · subst h0
      rw [zBA]
      rfl
    · obtain ⟨h1, h2⟩ := zNx n
      have hm:n.natAbs % 10<10:=Nat.mod_lt _ (by omega)
      have hu:n.natAbs ≠ 0:=by omega
      have hd:=zPy (n.natAbs % 10) hm
      have ih:=zIE (fu:=fu) k (n.tdiv 10) ([UInt8.ofNat (48+n.natAbs % 10)]++acc) (by rw [h2];rw [Nat.pow_succ] at h;omega) (by rw [h2];omega) (by simp;omega) q (by omega)
      have hr:-9223372036854775808≤n.tdiv 10∧n.tdiv 10≤9223372036854775807:=by
        generalize n.tdiv 10=z at h2
        omega
      have hlen:zC2 (([UInt8.ofNat (48+n.natAbs % 10)]:List UInt8)++acc).length=true:=zBg (by simp;omega)
      have fin:decT (n.tdiv 10).natAbs++([UInt8.ofNat (48+n.natAbs % 10)]++acc)=decT n.natAbs++acc:=by rw [h2,zMU _ hu,List.append_assoc]
      rw [zBA,show (n != (0:Int))=true from by simpa using h0,cond_true,ck_t (show ((10:Int) != 0)=true from rfl)]
      by_cases ht:n.tmod 10<0
      · rw [if_pos ht] at h1
        rw [decide_eq_true ht,cond_true,h1,ck_t (zAl (by omega) (by omega)),ck_t (zAl (by omega) (by omega)),hd,ck_t hlen,ck_t (show ((10:Int) != 0)=true from rfl),ck_t (zAl hr.1 hr.2),ih,fin]
      · rw [if_neg ht] at h1
        rw [decide_eq_false ht,cond_false,h1,ck_t (zAl (by omega) (by omega)),hd,ck_t hlen,ck_t (show ((10:Int) != 0)=true from rfl),ck_t (zAl hr.1 hr.2),ih,fin]
theorem zNu {fu:Nat} {n:Int} (hf:1048577≤fu) (h0:-9223372036854775808≤n) (h1:n≤9223372036854775807):zCG fu n=some (Lib.itoa n):=by
  unfold zCG
  by_cases hz:n=0
  · subst hz
    rw [show ((0:Int)==0)=true from rfl,cond_true]
    unfold Lib.itoa
    rw [if_neg (by decide),show (0:Int).toNat=0 from rfl,Lib.decDigits,dif_pos (by decide)]
    rfl
  · have hd := zIE (fu := fu) 20 n [] (by omega) (by omega) (by simp) fu (by omega)
    have hl:=zNn 19 n.natAbs (by omega)
    rw [List.append_nil] at hd
    have hu:n.natAbs ≠ 0:=by omega
    have e:decT n.natAbs=Lib.decDigits n.natAbs:=if_neg hu
    rw [show (n==(0:Int))=false from by simpa using hz,cond_false,hd,zA6]
    unfold Lib.itoa
    by_cases hneg:n<0
    · rw [decide_eq_true hneg, cond_true, if_pos hneg, ck_t (zBg (by simp; omega)), e]
      rfl
    · rw [decide_eq_false hneg,cond_false,if_neg hneg,e,show n.natAbs=n.toNat from by omega]
theorem zN3 {fu:Nat} {n:Int} (h0:-9223372036854775808≤n) (h1:n≤9223372036854775807):zCg fu n=some (Lib.itoa n):=by
  unfold zCg zMj
  rw [ck_t (zAl h0 h1)]
  rfl
end Go.Proofs.YtcodfkieaoomnaaGreatDoor
namespace Go.Proofs.YtcodfkieaoomnaaGreatDoor
open Go.RowKit
set_option linter.unusedVariables false
set_option linter.unusedSimpArgs false
def IsI (s:List UInt8) (n:Int):Prop:=Lib.itoa n=s∧-999999999≤n∧n≤999999999
theorem zIX (d:Nat) (h:d<10):(UInt8.ofNat (48+d)).toNat=48+d:=by
  rw [UInt8.toNat_ofNat']
  omega
theorem zHK {u:Nat} (h:u<10):Lib.decDigits u = [UInt8.ofNat (48+u)]:=by rw [Lib.decDigits,dif_pos h]
theorem zJC {u:Nat} (h:¬ u<10):Lib.decDigits u=Lib.decDigits (u / 10) ++ [UInt8.ofNat (48+u % 10)]:=by rw [Lib.decDigits,dif_neg h]
theorem zMy (u:Nat):∀ c ∈ Lib.decDigits u,48≤c.toNat∧c.toNat≤57:=by
  induction u using Nat.strongRecOn with
  | _ u ih=>
    intro c hc
    by_cases h:u<10
    · rw [zHK h] at hc
      rw [List.mem_singleton.1 hc,zIX u h]
      omega
    · rw [zJC h] at hc
      rcases List.mem_append.1 hc with hc | hc
      · exact ih (u / 10) (by omega) c hc
      · rw [List.mem_singleton.1 hc, zIX _ (Nat.mod_lt _ (by omega))]
        omega
theorem zMB (u:Nat):Lib.decDigits u ≠ []:=by
  by_cases h:u<10
  · rw [zHK h];simp
  · rw [zJC h];simp
def scS (p:Nat × Nat) (c:UInt8):Nat × Nat:=if 48≤c.toNat∧c.toNat≤57 then (p.1*10+(c.toNat-48),p.2+1) else p
theorem zOO (u:Nat):(Lib.decDigits u).foldl scS (0,0)=(u,(Lib.decDigits u).length):=by
  induction u using Nat.strongRecOn with
  | _ u ih=>
    by_cases h:u<10
    · rw [zHK h]
      have:=zIX u h
      simp only [List.foldl_cons,List.foldl_nil,scS,this,List.length_singleton]
      rw [if_pos (by omega)]
      simp
    · have hd := zIX (u % 10) (Nat.mod_lt _ (by omega))
      rw [zJC h,List.foldl_append,ih (u / 10) (by omega)]
      simp only [List.foldl_cons,List.foldl_nil,scS,hd,List.length_append,List.length_singleton]
      rw [if_pos (by omega)]
      congr 1
      omega
theorem zPW : ∀ (s : List UInt8) (p : Nat × Nat), p.1 < 10 ^ p.2 → (s.foldl scS p).1 < 10 ^ (s.foldl scS p).2
  | [],p,h=>h
  | c::s,p,h=>by
    rw [List.foldl_cons]
    refine zPW s _ ?_
    unfold scS
    split
    · show p.1 * 10 + (c.toNat - 48) < 10 ^ (p.2 + 1)
      rw [Nat.pow_succ]
      omega
    · exact h
theorem zOJ : ∀ (s : List UInt8) (p : Nat × Nat), (s.foldl scS p).2 ≤ p.2 + s.length
  | [],p=>Nat.le_refl _
  | c::s,p=>by
    have:=zOJ s (scS p c)
    rw [List.foldl_cons,List.length_cons]
    have h:(scS p c).2≤p.2+1:=by
      unfold scS
      split
      · exact Nat.le_refl _
      · exact Nat.le_succ _
    omega
theorem zKw {k:Nat} (h:k≤11):10 ^ k≤100000000000:=Nat.le_trans (Nat.pow_le_pow_right (by omega) h) (by omega)
theorem zPa {fu : Nat} {s : List UInt8} (hs : s.length ≤ 1048576) : ∀ m i k (p : Nat × Nat), (i + m = s.length ∨ (m = 0 ∧ 11 ≤ i)) → i ≤ 11 → m < k → p.1 < 10 ^ p.2 → p.2 ≤ i → (s.take 11).take i = s.take i →
    zAq fu s k (p.1:Int) (p.2:Int) (i:Int)=some (((((s.take 11).drop i).foldl scS p).1:Int),((((s.take 11).drop i).foldl scS p).2:Int)):=by
  intro m
  induction m with
  | zero=>
    intro i k p hi h11 hk hp hpi ht
    obtain ⟨k,rfl⟩:∃ z,k=z+1:=⟨k-1,by omega⟩
    have hd:(s.take 11).drop i = []:=List.drop_eq_nil_of_le (by rw [List.length_take];omega)
    have hc:(decide ((i:Int)<(s.length:Int))&&decide ((i:Int)<11))=false:=by
      rw [Bool.and_eq_false_imp,decide_eq_true_eq,decide_eq_false_iff_not]
      omega
    rw [zAq,zBN,hc,cond_false,hd]
    rfl
  | succ m ih=>
    intro i k p hi h11 hk hp hpi ht
    obtain ⟨k,rfl⟩:∃ z,k=z+1:=⟨k-1,by omega⟩
    have hlt:i<s.length:=by omega
    by_cases h:i<11
    · have hc:(decide ((i:Int)<(s.length:Int))&&decide ((i:Int)<11))=true:=by
        rw [Bool.and_eq_true,decide_eq_true_eq,decide_eq_true_eq]
        omega
      have hx:=List.getElem?_eq_getElem hlt
      have hb:=zJW hx
      have h256:s[i].toNat<256:=UInt8.toNat_lt _
      have hdrop:(s.take 11).drop i=s[i]::(s.take 11).drop (i+1):=by
        rw [List.drop_eq_getElem_cons (by rw [List.length_take];omega),List.getElem_take]
      have hpb:p.1≤100000000000:=Nat.le_of_lt (Nat.lt_of_lt_of_le hp (zKw (by omega)))
      have hw:IntKind.i64.wrap (IntKind.u8.wrap ((s[i].toNat:Int)-48))=((s[i].toNat-48:Nat):Int)∨s[i].toNat<48:=by
        rcases Nat.lt_or_ge s[i].toNat 48 with h' | h'
        · exact .inr h'
        · left
          have e:((s[i].toNat:Int)-48)=((s[i].toNat-48:Nat):Int):=by omega
          rw [e]
          have h1:IntKind.u8.wrap ((s[i].toNat-48:Nat):Int)=((s[i].toNat-48:Nat):Int):=by
            unfold IntKind.wrap
            simp [IntKind.bits,IntKind.signed]
            omega
          rw [h1]
          exact IntWalk.i64_in _ (by omega)
      have hnext:∀ q:Nat × Nat,q.1<10 ^ q.2→q.2≤i+1→zAq fu s k (q.1:Int) (q.2:Int) ((i+1:Nat):Int)=some (((((s.take 11).drop (i+1)).foldl scS q).1:Int),((((s.take 11).drop (i+1)).foldl scS q).2:Int)):=fun q h1 h2=>
        ih (i+1) k q (by omega) (by omega) (by omega) h1 h2 (by rw [List.take_take,Nat.min_eq_left (by omega)])
      rw [zAq,zBN,hc,cond_true,ck_t (zBF hlt),hb,ck_t (by rw [zBF hlt,Bool.or_true]),zBN,hdrop,List.foldl_cons]
      by_cases hdg:48≤s[i].toNat∧s[i].toNat≤57
      · have hd:(decide ((48:Int)≤(s[i].toNat:Int))&&decide ((s[i].toNat:Int)≤57))=true:=by
          rw [Bool.and_eq_true,decide_eq_true_eq,decide_eq_true_eq]
          omega
        have hw':=hw.resolve_right (by omega)
        have e:scS p s[i]=(p.1*10+(s[i].toNat-48),p.2+1):=if_pos hdg
        have hq:=hnext (p.1*10+(s[i].toNat-48),p.2+1) (by show _<10 ^ (p.2+1);rw [Nat.pow_succ];omega) (by show p.2+1≤i+1;omega)
        rw [hd,cond_true,hw',ck_t (zAl (by omega) (by omega)),ck_t (zBF hlt),ck_t (zAl (by omega) (by omega)),ck_t (zAl (by omega) (by omega)),ck_t (zFs (by omega)),e,← hq]
        congr 1
      · have hd:(decide ((48:Int)≤(s[i].toNat:Int))&&decide ((s[i].toNat:Int)≤57))=false:=by
          rw [Bool.and_eq_false_imp,decide_eq_true_eq,decide_eq_false_iff_not]
          omega
        have e:scS p s[i]=p:=if_neg hdg
        rw [hd,cond_false,ck_t (zFs (by omega)),e,zBe]
        exact hnext p hp (by omega)
    · have hd : (s.take 11).drop i = [] := List.drop_eq_nil_of_le (by rw [List.length_take]; omega)
      have hc:(decide ((i:Int)<(s.length:Int))&&decide ((i:Int)<11))=false:=by
        rw [Bool.and_eq_false_imp,decide_eq_true_eq,decide_eq_false_iff_not]
        omega
      rw [zAq,zBN,hc,cond_false,hd]
      rfl
theorem zKz {n:Int} (h:0≤n):Lib.itoa n=Lib.decDigits n.toNat:=by unfold Lib.itoa;rw [if_neg (by omega)]
theorem zJh {n:Int} (h:n<0):Lib.itoa n=45::Lib.decDigits n.natAbs:=by unfold Lib.itoa;rw [if_pos h]
theorem zNc {u:Nat} (h:u≤999999999):(Lib.decDigits u).length≤9:=zEe 8 u (by omega)
theorem zJ4 {s:List UInt8} {n:Int} (h:IsI s n):s.length≤10∧0<s.length∧s.foldl scS (0,0)=(n.natAbs,(Lib.decDigits n.natAbs).length)∧(Lib.decDigits n.natAbs).length≤9∧(s[0]? = some 45 ↔ n<0):=by
  obtain ⟨rfl,h1,h2⟩:=h
  have hl:=zNc (u:=n.natAbs) (by omega)
  have hp:=List.length_pos_iff.2 (zMB n.natAbs)
  by_cases hn:n<0
  · rw [zJh hn]
    refine ⟨by simp;omega,by simp,?_,hl,by simp [hn]⟩
    rw [List.foldl_cons,show scS (0,0) 45=(0,0) from rfl,zOO]
  · rw [zKz (by omega), show n.toNat = n.natAbs by omega]
    refine ⟨by omega,hp,zOO _,hl,?_⟩
    constructor
    · intro h
      have:=zMy n.natAbs 45 (List.mem_of_getElem? h)
      exact absurd this.1 (by decide)
    · intro h;omega
def RdI (s:List UInt8) (r:Int × Bool):Prop:=(∃ n,IsI s n∧r=(n,true))∨((∀ n,¬ IsI s n)∧r=(0,false))
theorem zOu {s:List UInt8} {n m:Int} (h:IsI s n) (k:IsI s m):n=m:=by
  have a:=zJ4 h
  have b:=zJ4 k
  have e:n.natAbs=m.natAbs:=by
    have:=a.2.2.1.symm.trans b.2.2.1
    injection this
  have:=a.2.2.2.2
  have:=b.2.2.2.2
  by_cases hs:s[0]? = some 45
  · have := a.2.2.2.2.1 hs
    have:=b.2.2.2.2.1 hs
    omega
  · have h1 : ¬ n < 0 := fun h => hs (a.2.2.2.2.2 h)
    have h2:¬ m<0:=fun h=>hs (b.2.2.2.2.2 h)
    omega
theorem RdI.one {s:List UInt8} {r q:Int × Bool} (h:RdI s r) (k:RdI s q):r=q:=by
  rcases h with ⟨n,h1,rfl⟩ | ⟨h1,rfl⟩ <;> rcases k with ⟨m,k1,rfl⟩ | ⟨k1,rfl⟩
  · rw [zOu h1 k1]
  · exact absurd h1 (k1 n)
  · exact absurd k1 (h1 m)
  · rfl
theorem RdI.no {s:List UInt8} (h:RdI s (0,false)):∀ n,¬ IsI s n:=by
  rcases h with ⟨n,_,h⟩ | ⟨h,_⟩
  · cases h
  · exact h
theorem zNz {fu:Nat} {s:List UInt8} (hf:1048577≤fu) (hs:s.length≤1048576):∃ r,zDQ fu s=some r∧RdI s r:=by
  have hsc:=zPa (fu:=fu) hs s.length 0 fu (0,0) (.inl (by omega)) (by omega) (by omega) (by decide) (Nat.le_refl _) (by simp)
  rw [List.drop_zero] at hsc
  have hlt:=zPW (s.take 11) (0,0) (by decide)
  have hct:=zOJ (s.take 11) (0,0)
  have htk:(s.take 11).length≤11:=by rw [List.length_take];omega
  generalize hp:(s.take 11).foldl scS (0,0)=p at hsc hlt hct
  have hpb:p.1≤100000000000:=Nat.le_of_lt (Nat.lt_of_lt_of_le hlt (zKw (by omega)))
  have hM:zAq fu s fu 0 0 0=some ((p.1:Int),(p.2:Int)):=hsc
  have h45:((decide ((0:Int)<(s.length:Int)))&&((bAt s (0:Int))==(45:Int)))=decide (s[0]? = some 45):=by
    cases s with
    | nil=>rfl
    | cons b l=>
      have hb:bAt (b::l) (0:Int)=(b.toNat:Int):=zJW (i:=0) rfl
      rw [hb,decide_eq_true (by simp),Bool.true_and]
      by_cases e:b=45
      · subst e;rfl
      · rw [decide_eq_false (by simpa using e), beq_eq_false_iff_ne]
        intro h
        exact e (UInt8.toNat_inj.1 (by show b.toNat=45;omega))
  have hck:(!(true&&((decide ((0:Int)<(s.length:Int)))==true)) || inR (0:Int) s.length)=true:=by
    cases s with
    | nil=>rfl
    | cons b l=>rw [zCe.2 ⟨Int.le_refl _,by simp⟩,Bool.or_true]
  have arm : ∀ z : Int, (z = (p.1 : Int) ∧ s[0]? ≠ some 45) ∨ (z = 0 - (p.1 : Int) ∧ s[0]? = some 45) →
      ∃ r,(bd ((decide ((9:Int)<(p.2:Int))) || (decide ((10:Int)<(s.length:Int)))) fun x33=>
        cl (true&&(x33==false)) (zCG fu z) fun x35=>
        bd (x33 || (!(x35==s))) fun x37=>
        bif x37 then (some ((0:Int),false)) else (some (z,true)))=some r∧RdI s r:=by
    intro z hz
    rw [zBN]
    have key:∀ n,IsI s n→n=z∧p.2≤9∧s.length≤10:=fun n hn=>by
      obtain ⟨a1,a2,a3,a4,a5⟩:=zJ4 hn
      rw [List.take_of_length_le (by omega),a3] at hp
      subst hp
      refine ⟨?_,a4,a1⟩
      rcases hz with ⟨rfl,h⟩ | ⟨rfl,h⟩
      · have : ¬ n < 0 := fun hn => h (a5.2 hn)
        show n=(n.natAbs:Int)
        omega
      · have := a5.1 h
        show n=0-(n.natAbs:Int)
        omega
    cases hg:(decide ((9:Int)<(p.2:Int))) || (decide ((10:Int)<(s.length:Int)))
    · rw [Bool.or_eq_false_iff, decide_eq_false_iff_not, decide_eq_false_iff_not] at hg
      have h9:p.1<1000000000:=Nat.lt_of_lt_of_le hlt (Nat.le_trans (Nat.pow_le_pow_right (n:=10) (by omega) (show p.2≤9 by omega)) (by omega))
      rw [show (true&&(false==false))=true from rfl,zNu hf (by omega) (by omega),zA6,zBN,Bool.false_or]
      cases he:Lib.itoa z==s
      · refine ⟨_, by rw [Bool.not_false, cond_true], .inr ⟨fun n hn => ?_, rfl⟩⟩
        obtain ⟨rfl,_⟩:=key n hn
        rw [hn.1,beq_self_eq_true] at he
        cases he
      · exact ⟨_,by rw [Bool.not_true,cond_false],.inl ⟨z,⟨by simpa using he,by omega,by omega⟩,rfl⟩⟩
    · rw [show (true && (true == false)) = false from rfl, zL6, zBN, Bool.true_or, cond_true]
      refine ⟨_,rfl,.inr ⟨fun n hn=>?_,rfl⟩⟩
      obtain ⟨_,h1,h2⟩:=key n hn
      rw [Bool.or_eq_true,decide_eq_true_eq,decide_eq_true_eq] at hg
      omega
  unfold zDQ
  rw [hM,zA6,ck_t hck,zBN,h45]
  by_cases hs0:s[0]? = some 45
  · rw [decide_eq_true hs0, cond_true, ck_t (zAl (by omega) (by omega))]
    exact arm _ (.inr ⟨rfl,hs0⟩)
  · rw [decide_eq_false hs0, cond_false]
    exact arm _ (.inl ⟨rfl,hs0⟩)
theorem zM3 : ∀ (xs : List UInt8) (acc v d : Nat), Lib.parseUint10 acc xs = .ok v → v < 1000000000 → d < 10 → Lib.parseUint10 acc (xs ++ [UInt8.ofNat (48 + d)]) = .ok (v * 10 + d)
  | [],acc,v,d,h,hv,hd=>by
    simp only [Lib.parseUint10] at h
    injection h with h
    subst h
    have:=zIX d hd
    simp only [List.nil_append,Lib.parseUint10,this]
    rw [if_pos (by omega),if_neg (by omega),if_neg (by omega)]
    congr 1
    omega
  | c::xs,acc,v,d,h,hv,hd=>by
    rw [List.cons_append]
    simp only [Lib.parseUint10] at h ⊢
    split at h
    · rename_i h1
      rw [if_pos h1]
      split at h
      · cases h
      · rename_i h2
        rw [if_neg h2]
        split at h
        · cases h
        · rename_i h3
          rw [if_neg h3]
          exact zM3 xs _ v d h hv hd
    · cases h
theorem zPI (u:Nat) (h:u≤999999999):Lib.parseUint10 0 (Lib.decDigits u) = .ok u:=by
  induction u using Nat.strongRecOn with
  | _ u ih=>
    by_cases h10:u<10
    · rw [zHK h10]
      have:=zM3 [] 0 0 u rfl (by omega) h10
      rw [List.nil_append] at this
      simpa using this
    · rw [zJC h10, zM3 _ 0 (u / 10) (u % 10) (ih (u / 10) (by omega) (by omega)) (by omega) (Nat.mod_lt _ (by omega))]
      congr 1
      omega
theorem zMG {n:Int} (h1:-999999999≤n) (h2:n≤999999999):Lib.atoiAll (Lib.itoa n) = .ok n:=by
  have hm:∀ u:Nat,u≤999999999→Lib.parseMag (Lib.decDigits u) = .ok u:=fun u hu=>by
    unfold Lib.parseMag
    rw [if_neg (zMB u),zPI u hu]
  by_cases hn:n<0
  · rw [zJh hn]
    unfold Lib.atoiAll
    simp only [show ((45:UInt8).toNat=43∨(45:UInt8).toNat=45)=True from by simp,if_true,hm n.natAbs (by omega)]
    simp only [show ((45:UInt8).toNat=45)=True from by simp,not_true,false_and,if_false,true_and,if_true]
    rw [if_neg (by omega)]
    congr 1
    omega
  · rw [zKz (by omega)]
    have hne:=zMB n.toNat
    have hdg:=zMy n.toNat
    have hm':=hm n.toNat (by omega)
    cases hd:Lib.decDigits n.toNat with
    | nil=>exact absurd hd hne
    | cons c r=>
      rw [hd] at hdg hm'
      have hc:=hdg c List.mem_cons_self
      unfold Lib.atoiAll
      simp only []
      rw [if_neg (by omega),hm']
      simp only []
      rw [if_neg (by omega),if_neg (by omega),if_neg (by omega)]
      congr 1
      omega
theorem zN9 {s:List UInt8} {v:Int} (h:Lib.atoiAll s = .ok v):-9223372036854775808≤v∧v≤9223372036854775807:=by
  unfold Lib.atoiAll at h
  cases s with
  | nil=>cases h
  | cons c r=>
    simp only [] at h
    cases hm:Lib.parseMag (if c.toNat=43∨c.toNat=45 then r else c::r) with
    | ok u=>
      rw [hm] at h
      simp only [] at h
      split at h
      · cases h
      · split at h
        · cases h
        · injection h with h
          split at h <;> omega
    | _=>rw [hm] at h;cases h
theorem zNy {fu:Nat} {s:List UInt8} (hs:s.length≤1048576):∃ r,zDM fu s=some r∧RdI s r:=by
  unfold zDM zMO
  rw [ck_t (zBg (by omega)),zA6]
  have no:∀ n,IsI s n→Lib.atoiAll s = .ok n:=fun n hn=>by rw [← hn.1];exact zMG hn.2.1 hn.2.2
  have bad:∀ a:Int,(∀ n,¬ IsI s n)→∃ r,(cl (true&&(true==false)) (zCg fu a) fun x4=>
      bd (true || (!(x4==s))) fun x6=>
      cl (true&&(x6==false)) (zBB fu a (-999999999:Int) (999999999:Int)) fun x8=>
      bd (x6 || (!x8)) fun x10=>
      bif x10 then (some ((0:Int),false)) else (some (a,true)))=some r∧RdI s r:=fun a h=>⟨_,rfl,.inr ⟨h,rfl⟩⟩
  cases hc:Lib.atoiAll s with
  | range=>
    have e:zJx s=(Lib.atoiSat s,true):=by unfold zJx;rw [hc]
    rw [e]
    exact bad _ fun n hn=>by rw [no n hn] at hc;cases hc
  | ok v=>
    have e:zJx s=(v,false):=by unfold zJx;rw [hc]
    have hv:=zN9 hc
    rw [e]
    dsimp only
    rw [show (true&&(false==false))=true from rfl,zN3 hv.1 hv.2,zA6,zBN,Bool.false_or]
    have key:∀ n,IsI s n→n=v:=fun n hn=>by
      have:=(no n hn).symm.trans hc
      injection this
    cases he:Lib.itoa v==s
    · rw [Bool.not_false, show (true && (true == false)) = false from rfl, zL6, zBN, Bool.true_or, cond_true]
      refine ⟨_,rfl,.inr ⟨fun n hn=>?_,rfl⟩⟩
      obtain rfl:=key n hn
      rw [hn.1,beq_self_eq_true] at he
      cases he
    · rw [Bool.not_true, show (true && (false == false)) = true from rfl, show zBB fu v (-999999999) 999999999 = some (decide (-999999999 ≤ v) && decide (v ≤ 999999999)) from rfl, zA6, zBN, Bool.false_or]
      cases hw:decide (-999999999≤v)&&decide (v≤999999999)
      · rw [Bool.not_false, cond_true]
        refine ⟨_,rfl,.inr ⟨fun n hn=>?_,rfl⟩⟩
        obtain rfl:=key n hn
        rw [decide_eq_true hn.2.1,decide_eq_true hn.2.2] at hw
        cases hw
      · rw [Bool.not_true, cond_false]
        rw [Bool.and_eq_true,decide_eq_true_eq,decide_eq_true_eq] at hw
        exact ⟨_,rfl,.inl ⟨v,⟨by simpa using he,hw.1,hw.2⟩,rfl⟩⟩
  | _=>
    have e:zJx s=(0,true):=by unfold zJx;rw [hc]
    rw [e]
    exact bad 0 fun n hn=>by rw [no n hn] at hc;cases hc
end Go.Proofs.YtcodfkieaoomnaaGreatDoor
