/- Own texts laid together. No statement of the seat is proved here. -/
import Derived.Test.YtldppodfhabkjaaGreatDoorZf1
import Derived.Test.YtldppodfhabkjaaGreatDoorProg
import Derived.Shelf.Strconv.Itoa3
import Derived.Shelf.Strings.OnBuilder
import Derived.Shelf.LaysC
import Derived.Ground.NamesProg
import Derived.Ground.SlsfProg
import Derived.Shelf.Slices.In.SortNone
import Derived.Shelf.SlSortCmp.NoneTotal
import Derived.Shelf.Small.Strs
import Derived.Shelf.Sort.Plain
import Derived.Lib.LaidTab
import Derived.ProofKit
import Derived.OpenShut
import Derived.Deep.Slices
import Derived.Deep.Fields
import Derived.ChangeSame
import Derived.Stop.LaidErr
import Derived.Shelf.LaysM
import Derived.ChangeArms
import Derived.MakeChecks
import Derived.Test.YtldppodfhabkjaaGreatDoorCards
import Derived.Test.YtldppodfhabkjaaGreatDoorTie
import Derived.ChangeOld
import Derived.Carry
import Derived.OpenVars
import Derived.Deep.DeepHandedRow
import Derived.Shelf.Strings.Split
import Derived.Shelf.Strings.Cut
import Derived.Shelf.Strconv.ErrVarAll
import Derived.WideLaws
import Derived.Shelf.Strings.FieldsFuncGrows
import Derived.Shelf.Strings.Replace
import Derived.Shelf.Strings.IndexAnyAll
import Derived.Lib.ConvBytes
import Derived.Maps.Own
import Derived.Maps.Views
import Derived.Shelf.SlSortCmp.WholeK
import Derived.RegionTactic
import Derived.StillTailTactics
namespace Go.Proofs.YtldppodfhabkjaaGreatDoor
open Go.RowKit
set_option linter.unusedVariables false
abbrev zA5:=Int × Int
abbrev zA3:Enc zA5:=ePr (eInt .i64) (eInt .i64)
theorem zDA:Fld zA3 0 (eInt .i64) (fun x:zA5=>x.1):=Fld.fst
theorem zHy:FldF Tryz.prog 48 0 3 0:=⟨_,_,Tryz.underlying48,rfl,rfl,rfl⟩
theorem zEG:Fld zA3 1 (eInt .i64) (fun x:zA5=>x.2):=(Fld.snd (Fld.id _))
theorem zJh:FldF Tryz.prog 48 1 3 1:=⟨_,_,Tryz.underlying48,rfl,rfl,rfl⟩
theorem zCb {A:Av} {w:World} {v:Value} {x:zA5} (h:Rep zA3 A w v x):v=.agg #[.int .i64 x.1,.int .i64 x.2]:=by
  obtain ⟨cs,rfl,h⟩:=h
  obtain ⟨_,_,rfl,rfl,rfl⟩:=h
  rfl
set_option maxHeartbeats 1000000 in
theorem zOX (x y:zA5) (w:World):(binOp .eql 48 (.agg #[.int .i64 x.1,.int .i64 x.2]) (.agg #[.int .i64 y.1,.int .i64 y.2])).run Tryz.prog w=.ok (.bool ((x==y))) w:=by
  obtain ⟨p0,p1⟩:=x
  obtain ⟨q0,q1⟩:=y
  rw [show (((p0,p1):zA5)==(q0,q1))=((p0==q0)&&(p1==q1)) from rfl]
  cases h0:(p0==q0) <;> cases h1:(p1==q1) <;> simp [go_sem,h0,h1]
set_option maxHeartbeats 1000000 in
theorem zOZ (x y:zA5) (w:World):(binOp .neq 48 (.agg #[.int .i64 x.1,.int .i64 x.2]) (.agg #[.int .i64 y.1,.int .i64 y.2])).run Tryz.prog w=.ok (.bool (!(x==y))) w:=by
  obtain ⟨p0,p1⟩:=x
  obtain ⟨q0,q1⟩:=y
  rw [show (((p0,p1):zA5)==(q0,q1))=((p0==q0)&&(p1==q1)) from rfl]
  cases h0:(p0==q0) <;> cases h1:(p1==q1) <;> simp [go_sem,h0,h1]
abbrev zA4:=Int × Int × Int × (List (List UInt8))
abbrev zA0:Enc zA4:=ePr (eInt .i64) (ePr (eInt .i64) (ePr (eInt .i64) (eSl eStr)))
theorem zG9:Fld zA0 0 (eInt .i64) (fun x:zA4=>x.1):=Fld.fst
theorem zLK:FldF Tryz.prog 51 0 3 0:=⟨_,_,Tryz.underlying51,rfl,rfl,rfl⟩
theorem zGA:Fld zA0 1 (eInt .i64) (fun x:zA4=>x.2.1):=(Fld.snd Fld.fst)
theorem zLC:FldF Tryz.prog 51 1 3 1:=⟨_,_,Tryz.underlying51,rfl,rfl,rfl⟩
theorem zG8:Fld zA0 2 (eInt .i64) (fun x:zA4=>x.2.2.1):=(Fld.snd (Fld.snd Fld.fst))
theorem zKy:FldF Tryz.prog 51 2 3 2:=⟨_,_,Tryz.underlying51,rfl,rfl,rfl⟩
theorem zAc:Fld zA0 3 (eSl eStr) (fun x:zA4=>x.2.2.2):=(Fld.snd (Fld.snd (Fld.snd (Fld.id _))))
theorem zIF:FldS zA0 3 (eSl eStr) (fun (x:zA4) y=>(x.1,x.2.1,x.2.2.1,y)):=(FldS.snd (FldS.snd (FldS.snd (FldS.id _))))
theorem zD7:FldF Tryz.prog 51 3 34 3:=⟨_,_,Tryz.underlying51,rfl,rfl,rfl⟩
abbrev zAF:=(List UInt8) × (List Int)
abbrev zA8:Enc zAF:=ePr eStr (eSl (eInt .i64))
theorem zFI:Fld zA8 0 eStr (fun x:zAF=>x.1):=Fld.fst
theorem zLG:FldF Tryz.prog 54 0 9 0:=⟨_,_,Tryz.underlying54,rfl,rfl,rfl⟩
theorem zBp:Fld zA8 1 (eSl (eInt .i64)) (fun x:zAF=>x.2):=(Fld.snd (Fld.id _))
theorem zEn:FldF Tryz.prog 54 1 52 1:=⟨_,_,Tryz.underlying54,rfl,rfl,rfl⟩
abbrev zAG:=(List Int) × Int × Int
abbrev zA1:Enc zAG:=ePr (eSl (eInt .u8)) (ePr (eInt .i64) (eInt .i64))
theorem zGL:Fld zA1 0 (eSl (eInt .u8)) (fun x:zAG=>x.1):=Fld.fst
theorem zNI:FldF Tryz.prog 90 0 43 0:=⟨_,_,Tryz.underlying90,rfl,rfl,rfl⟩
theorem zFK:Fld zA1 1 (eInt .i64) (fun x:zAG=>x.2.1):=(Fld.snd Fld.fst)
theorem zIo:FldS zA1 1 (eInt .i64) (fun (x:zAG) y=>(x.1,y,x.2.2)):=(FldS.snd FldS.fst)
theorem zJu:FldF Tryz.prog 90 1 3 1:=⟨_,_,Tryz.underlying90,rfl,rfl,rfl⟩
theorem zFN:Fld zA1 2 (eInt .i64) (fun x:zAG=>x.2.2):=(Fld.snd (Fld.snd (Fld.id _)))
theorem zIW:FldS zA1 2 (eInt .i64) (fun (x:zAG) y=>(x.1,x.2.1,y)):=(FldS.snd (FldS.snd (FldS.id _)))
theorem zJb:FldF Tryz.prog 90 2 3 2:=⟨_,_,Tryz.underlying90,rfl,rfl,rfl⟩
theorem zPv:ElF Tryz.prog 54 2:=zMC Tryz.zeroValue54 Tryz.sizeOf54 (by kernel_rfl:(Tryz.prog.info? 54).map (·.bytes)=some 40) rfl (by decide) (by decide)
theorem zNt:ElF Tryz.prog 51 4:=zMC Tryz.zeroValue51 Tryz.sizeOf51 (by kernel_rfl:(Tryz.prog.info? 51).map (·.bytes)=some 48) rfl (by decide) (by decide)
theorem el_9:ElF Tryz.prog 9 1:=zMC Tryz.zeroValue9 Tryz.sizeOf9 (by kernel_rfl:(Tryz.prog.info? 9).map (·.bytes)=some 16) rfl (by decide) (by decide)
theorem zNs:ElF Tryz.prog 48 2:=zMC Tryz.zeroValue48 Tryz.sizeOf48 (by kernel_rfl:(Tryz.prog.info? 48).map (·.bytes)=some 16) rfl (by decide) (by decide)
theorem el_5:ElF Tryz.prog 5 1:=zMC Tryz.zeroValue5 Tryz.sizeOf5 (by kernel_rfl:(Tryz.prog.info? 5).map (·.bytes)=some 1) rfl (by decide) (by decide)
theorem el_3:ElF Tryz.prog 3 1:=zMC Tryz.zeroValue3 Tryz.sizeOf3 (by kernel_rfl:(Tryz.prog.info? 3).map (·.bytes)=some 8) rfl (by decide) (by decide)
theorem Obls.p {P : Program} {l : List Ent} {R : Reg} {w : World} {i : Nat} {x : Ent} {r : List Ent}
    (h:∀ R' w',Fr w w'->(∀ t,zI7 l i t=true->R' t=R t)->Deps l R' w' x.o.after.toList->OpR P x.o R' w' fun v w''=>x.f.ok v w''/\Fr w' w'')
    (t:Obls P l R w (i+1) r) (hg:x.o.guard=none:=by exact rfl) (hx:x.g=true:=by exact rfl):Obls P l R w i (x::r):=⟨Obl.plain hg hx h,t⟩
theorem zDy.p {P : Program} {ini : List Ob} {l : List EntR} {A : Av} {R : Reg} {w : World} {i : Nat} {x : EntR} {r : List EntR}
    (h:∀ A' R' w',Onto ini l A R w i A' R' w'->zI1 l A' R' w' x.o.after.toList->OpR P x.o R' w' fun v w''=>(x.f A').ok v w''/\Fr w' w'')
    (t:zDy P ini l A R w (i+1) r) (hg:x.o.guard=none:=by exact rfl) (hx:x.g=true:=by exact rfl) (hc:x.con = []:=by exact rfl) (hr:x.res=none:=by exact rfl):zDy P ini l A R w i (x::r):=
  ⟨OblR.plain hg hx hc hr h,t⟩
def depF (l:List Ent) (es:List Edge) (j:Nat):Option (Nat × Fact):=
  match es[j]? with
  | none=>none
  | some e => bif bnd e then (match l[e.on]? with
    | none=>none
    | some x => match x.o.dst with
      | none=>none
      | some d=>bif x.g then some (d,x.f) else none) else none
theorem Deps.g {l:List Ent} {R:Reg} {w:World} {es:List Edge} (h:Deps l R w es) (j:Nat) {d:Nat} {f:Fact} (e:depF l es j=some (d,f)):f.ok (R d) w:=by
  unfold depF at e
  cases h1:es[j]? with
  | none=>rw [h1] at e;cases e
  | some a=>
    rw [h1] at e
    dsimp only at e
    cases h2:bnd a
    . rw [h2] at e;cases e
    rw [h2,cond_true] at e
    cases h3:l[a.on]? with
    | none=>rw [h3] at e;cases e
    | some x=>
      rw [h3] at e
      dsimp only at e
      cases h4:x.o.dst with
      | none=>rw [h4] at e;cases e
      | some d'=>
        rw [h4] at e
        dsimp only at e
        cases h5:x.g
        . rw [h5] at e;cases e
        rw [h5,cond_true] at e
        obtain ⟨rfl,rfl⟩:=Prod.mk.inj (Option.some.inj e)
        exact h j a x _ h1 h2 h3 h4 h5
def zOB (l:List EntR) (es:List Edge) (j:Nat):Option (Nat × (Av->Fact)):=
  match es[j]? with
  | none=>none
  | some e => bif bnd e then (match l[e.on]? with
    | none=>none
    | some x => match x.o.dst with
      | none=>none
      | some d=>bif x.g then some (d,x.f) else none) else none
theorem zI1.g {l:List EntR} {A:Av} {R:Reg} {w:World} {es:List Edge} (h:zI1 l A R w es) (j:Nat) {d:Nat} {f:Av->Fact} (e:zOB l es j=some (d,f)):(f A).ok (R d) w:=by
  unfold zOB at e
  cases h1:es[j]? with
  | none=>rw [h1] at e;cases e
  | some a=>
    rw [h1] at e
    dsimp only at e
    cases h2:bnd a
    . rw [h2] at e;cases e
    rw [h2,cond_true] at e
    cases h3:l[a.on]? with
    | none=>rw [h3] at e;cases e
    | some x=>
      rw [h3] at e
      dsimp only at e
      cases h4:x.o.dst with
      | none=>rw [h4] at e;cases e
      | some d'=>
        rw [h4] at e
        dsimp only at e
        cases h5:x.g
        . rw [h5] at e;cases e
        rw [h5,cond_true] at e
        obtain ⟨rfl,rfl⟩:=Prod.mk.inj (Option.some.inj e)
        exact h j a x _ h1 h2 h3 h4 h5
end Go.Proofs.YtldppodfhabkjaaGreatDoor
namespace Go.Proofs
open Go.Shelf
def Tryz.laysSortP_ren:Go.Shelf.Ren:=⟨fun | 6=>49 | 15=>79 | 14=>78 | 28=>115 | 29=>116 | 20=>107 | 21=>108 | 22=>109 | 23=>110 | 24=>111 | 25=>112 | 26=>113 | 27=>114 | 46=>147 | 47=>148 | 48=>149 | 49=>150 | 50=>151 | 57=>170 | n=>n,fun | 22=>39 | 24=>48 | 25=>69 | 3=>3 | 39=>86 | 0=>0 | 53=>112 | 55=>114 | 4=>4 | 46=>106 | 45=>105 | 50=>99 | 5=>5 | 9=>9 | 66=>134 | 70=>138 | 76=>154 | 77=>155 | n=>n,fun | n=>n⟩
theorem Tryz.laysSortP : Go.Proofs.SlLaysF0.n6 Tryz.prog Tryz.laysSortP_ren := {
  mixed:=by kernel_rfl
  f6:=⟨Tryz.f49.name,by decide,Tryz.func49.trans (congrArg some (by kernel_rfl))⟩
  f14:=⟨Tryz.f78.name,by decide,Tryz.func78.trans (congrArg some (by kernel_rfl))⟩
  f15:=Tryz.func79.trans (congrArg some (by kernel_rfl))
  f20:=⟨Tryz.f107.name,by decide,Tryz.func107.trans (congrArg some (by kernel_rfl))⟩
  f21:=⟨Tryz.f108.name,by decide,Tryz.func108.trans (congrArg some (by kernel_rfl))⟩
  f22:=⟨Tryz.f109.name,by decide,Tryz.func109.trans (congrArg some (by kernel_rfl))⟩
  f23:=⟨Tryz.f110.name,by decide,Tryz.func110.trans (congrArg some (by kernel_rfl))⟩
  f24:=⟨Tryz.f111.name,by decide,Tryz.func111.trans (congrArg some (by kernel_rfl))⟩
  f25:=⟨Tryz.f112.name,by decide,Tryz.func112.trans (congrArg some (by kernel_rfl))⟩
  f26:=⟨Tryz.f113.name,by decide,Tryz.func113.trans (congrArg some (by kernel_rfl))⟩
  f27:=⟨Tryz.f114.name,by decide,Tryz.func114.trans (congrArg some (by kernel_rfl))⟩
  f28:=Tryz.func115.trans (congrArg some (by kernel_rfl))
  f29:=Tryz.func116.trans (congrArg some (by kernel_rfl))
  f46:=⟨Tryz.f147.name,by decide,Tryz.func147.trans (congrArg some (by kernel_rfl))⟩
  f47:=Tryz.func148.trans (congrArg some (by kernel_rfl))
  f48:=Tryz.func149.trans (congrArg some (by kernel_rfl))
  f49:=⟨Tryz.f150.name,by decide,Tryz.func150.trans (congrArg some (by kernel_rfl))⟩
  f50:=⟨Tryz.f151.name,by decide,Tryz.func151.trans (congrArg some (by kernel_rfl))⟩
  f57:=⟨Tryz.f170.name,by decide,Tryz.func170.trans (congrArg some (by kernel_rfl))⟩
  t0:=Tryz.underlying0
  a0:=Tryz.isAgg0
  z0:=Tryz.sizeOf0
  v0:=Tryz.zeroValue0
  t3:=Tryz.underlying3
  a3:=Tryz.isAgg3
  z3:=Tryz.sizeOf3
  v3:=Tryz.zeroValue3
  t4:=Tryz.underlying4
  a4:=Tryz.isAgg4
  z4:=Tryz.sizeOf4
  v4:=Tryz.zeroValue4
  t5:=Tryz.underlying5
  a5:=Tryz.isAgg5
  z5:=Tryz.sizeOf5
  v5:=Tryz.zeroValue5
  t9:=Tryz.underlying9
  a9:=Tryz.isAgg9
  z9:=Tryz.sizeOf9
  v9:=Tryz.zeroValue9
  t22:=Tryz.underlying39
  a22:=Tryz.isAgg39
  z22:=Tryz.sizeOf39
  v22:=Tryz.zeroValue39
  t25:=Tryz.underlying69
  a25:=Tryz.isAgg69
  z25:=Tryz.sizeOf69
  v25:=Tryz.zeroValue69
  t39:=Tryz.underlying86
  a39:=Tryz.isAgg86
  z39:=Tryz.sizeOf86
  v39:=Tryz.zeroValue86
  t45:=Tryz.underlying105
  a45:=Tryz.isAgg105
  z45:=Tryz.sizeOf105
  v45:=Tryz.zeroValue105
  t46:=Tryz.underlying106
  a46:=Tryz.isAgg106
  z46:=Tryz.sizeOf106
  v46:=Tryz.zeroValue106
  t50:=Tryz.underlying99
  a50:=Tryz.isAgg99
  z50:=Tryz.sizeOf99
  v50:=Tryz.zeroValue99
  t53:=Tryz.underlying112
  a53:=Tryz.isAgg112
  z53:=Tryz.sizeOf112
  v53:=Tryz.zeroValue112
  t55:=Tryz.underlying114
  a55:=Tryz.isAgg114
  z55:=Tryz.sizeOf114
  v55:=Tryz.zeroValue114
  t66:=Tryz.underlying134
  a66:=Tryz.isAgg134
  z66:=Tryz.sizeOf134
  v66:=Tryz.zeroValue134
  t70:=Tryz.underlying138
  a70:=Tryz.isAgg138
  z70:=Tryz.sizeOf138
  v70:=Tryz.zeroValue138
  t76:=Tryz.underlying154
  a76:=Tryz.isAgg154
  z76:=Tryz.sizeOf154
  v76:=Tryz.zeroValue154
  t77:=Tryz.underlying155
  a77:=Tryz.isAgg155
  z77:=Tryz.sizeOf155
  v77:=Tryz.zeroValue155 }
def Tryz.laysSort_ren:Go.Shelf.Ren:=⟨fun | 190=>75 | 125=>79 | 258=>106 | 128=>115 | 129=>116 | 302=>138 | 303=>139 | 304=>140 | 305=>141 | 306=>142 | 307=>143 | 308=>144 | 309=>145 | 310=>146 | 333=>166 | 329=>148 | 330=>149 | 334=>167 | 335=>168 | 336=>169 | 344=>186 | n=>n,fun | 31=>34 | 9=>9 | 3=>3 | 46=>86 | 0=>0 | 51=>112 | 53=>114 | 4=>4 | 183=>106 | 182=>105 | 131=>99 | 5=>5 | 218=>134 | 222=>138 | 228=>154 | 229=>155 | n=>n,fun | n=>n⟩
theorem Tryz.laysSort : Go.Proofs.Lays.n190 Tryz.prog Tryz.laysSort_ren := {
  mixed:=by kernel_rfl
  f125:=Tryz.func79.trans (congrArg some (by kernel_rfl))
  f128:=Tryz.func115.trans (congrArg some (by kernel_rfl))
  f129:=Tryz.func116.trans (congrArg some (by kernel_rfl))
  f190:=Tryz.func75.trans (congrArg some (by kernel_rfl))
  f258:=Tryz.func106.trans (congrArg some (by kernel_rfl))
  f302:=Tryz.func138.trans (congrArg some (by kernel_rfl))
  f303:=Tryz.func139.trans (congrArg some (by kernel_rfl))
  f304:=Tryz.func140.trans (congrArg some (by kernel_rfl))
  f305:=Tryz.func141.trans (congrArg some (by kernel_rfl))
  f306:=Tryz.func142.trans (congrArg some (by kernel_rfl))
  f307:=Tryz.func143.trans (congrArg some (by kernel_rfl))
  f308:=Tryz.func144.trans (congrArg some (by kernel_rfl))
  f309:=Tryz.func145.trans (congrArg some (by kernel_rfl))
  f310:=Tryz.func146.trans (congrArg some (by kernel_rfl))
  f329:=Tryz.func148.trans (congrArg some (by kernel_rfl))
  f330:=Tryz.func149.trans (congrArg some (by kernel_rfl))
  f333:=Tryz.func166.trans (congrArg some (by kernel_rfl))
  f334:=Tryz.func167.trans (congrArg some (by kernel_rfl))
  f335:=Tryz.func168.trans (congrArg some (by kernel_rfl))
  f336:=Tryz.func169.trans (congrArg some (by kernel_rfl))
  f344:=Tryz.func186.trans (congrArg some (by kernel_rfl))
  t0:=Tryz.underlying0
  a0:=Tryz.isAgg0
  z0:=Tryz.sizeOf0
  v0:=Tryz.zeroValue0
  t3:=Tryz.underlying3
  a3:=Tryz.isAgg3
  z3:=Tryz.sizeOf3
  v3:=Tryz.zeroValue3
  t4:=Tryz.underlying4
  a4:=Tryz.isAgg4
  z4:=Tryz.sizeOf4
  v4:=Tryz.zeroValue4
  t5:=Tryz.underlying5
  a5:=Tryz.isAgg5
  z5:=Tryz.sizeOf5
  v5:=Tryz.zeroValue5
  t9:=Tryz.underlying9
  a9:=Tryz.isAgg9
  z9:=Tryz.sizeOf9
  v9:=Tryz.zeroValue9
  t31:=Tryz.underlying34
  a31:=Tryz.isAgg34
  z31:=Tryz.sizeOf34
  v31:=Tryz.zeroValue34
  t46:=Tryz.underlying86
  a46:=Tryz.isAgg86
  z46:=Tryz.sizeOf86
  v46:=Tryz.zeroValue86
  t51:=Tryz.underlying112
  a51:=Tryz.isAgg112
  z51:=Tryz.sizeOf112
  v51:=Tryz.zeroValue112
  t53:=Tryz.underlying114
  a53:=Tryz.isAgg114
  z53:=Tryz.sizeOf114
  v53:=Tryz.zeroValue114
  t131:=Tryz.underlying99
  a131:=Tryz.isAgg99
  z131:=Tryz.sizeOf99
  v131:=Tryz.zeroValue99
  t182:=Tryz.underlying105
  a182:=Tryz.isAgg105
  z182:=Tryz.sizeOf105
  v182:=Tryz.zeroValue105
  t183:=Tryz.underlying106
  a183:=Tryz.isAgg106
  z183:=Tryz.sizeOf106
  v183:=Tryz.zeroValue106
  t218:=Tryz.underlying134
  a218:=Tryz.isAgg134
  z218:=Tryz.sizeOf134
  v218:=Tryz.zeroValue134
  t222:=Tryz.underlying138
  a222:=Tryz.isAgg138
  z222:=Tryz.sizeOf138
  v222:=Tryz.zeroValue138
  t228:=Tryz.underlying154
  a228:=Tryz.isAgg154
  z228:=Tryz.sizeOf154
  v228:=Tryz.zeroValue154
  t229:=Tryz.underlying155
  a229:=Tryz.isAgg155
  z229:=Tryz.sizeOf155
  v229:=Tryz.zeroValue155 }
def Tryz.laysItoa_ren:Go.Shelf.Ren:=⟨fun | 171=>105 | 243=>137 | 246=>165 | 283=>182 | 284=>183 | 285=>184 | 286=>185 | 129=>116 | 317=>201 | 318=>202 | 319=>203 | 320=>204 | 337=>214 | 338=>215 | n=>n,fun | 3=>3 | 9=>9 | 2=>2 | 4=>4 | 171=>169 | 0=>0 | 53=>114 | 37=>43 | 5=>5 | 173=>171 | 212=>190 | 51=>112 | 20=>20 | 213=>191 | 46=>86 | 232=>203 | 233=>204 | n=>n,fun | 17=>3 | 18=>7 | 19=>8 | n=>n⟩
theorem Tryz.laysItoa : Go.Proofs.LaysM.n171 Tryz.prog Tryz.laysItoa_ren := {
  mixed:=by kernel_rfl
  f129:=Tryz.func116.trans (congrArg some (by kernel_rfl))
  f171:=Tryz.func105.trans (congrArg some (by kernel_rfl))
  f243:=Tryz.func137.trans (congrArg some (by kernel_rfl))
  f246:=Tryz.func165.trans (congrArg some (by kernel_rfl))
  f283:=Tryz.func182.trans (congrArg some (by kernel_rfl))
  f284:=Tryz.func183.trans (congrArg some (by kernel_rfl))
  f285:=Tryz.func184.trans (congrArg some (by kernel_rfl))
  f286:=Tryz.func185.trans (congrArg some (by kernel_rfl))
  f317:=Tryz.func201.trans (congrArg some (by kernel_rfl))
  f318:=Tryz.func202.trans (congrArg some (by kernel_rfl))
  f319:=Tryz.func203.trans (congrArg some (by kernel_rfl))
  f320:=Tryz.func204.trans (congrArg some (by kernel_rfl))
  f337:=Tryz.func214.trans (congrArg some (by kernel_rfl))
  f338:=Tryz.func215.trans (congrArg some (by kernel_rfl))
  t0:=Tryz.underlying0
  a0:=Tryz.isAgg0
  z0:=Tryz.sizeOf0
  v0:=Tryz.zeroValue0
  t2:=Tryz.underlying2
  a2:=Tryz.isAgg2
  z2:=Tryz.sizeOf2
  v2:=Tryz.zeroValue2
  t3:=Tryz.underlying3
  a3:=Tryz.isAgg3
  z3:=Tryz.sizeOf3
  v3:=Tryz.zeroValue3
  t4:=Tryz.underlying4
  a4:=Tryz.isAgg4
  z4:=Tryz.sizeOf4
  v4:=Tryz.zeroValue4
  t5:=Tryz.underlying5
  a5:=Tryz.isAgg5
  z5:=Tryz.sizeOf5
  v5:=Tryz.zeroValue5
  t9:=Tryz.underlying9
  a9:=Tryz.isAgg9
  z9:=Tryz.sizeOf9
  v9:=Tryz.zeroValue9
  t20:=Tryz.underlying20
  a20:=Tryz.isAgg20
  z20:=Tryz.sizeOf20
  v20:=Tryz.zeroValue20
  t37:=Tryz.underlying43
  a37:=Tryz.isAgg43
  z37:=Tryz.sizeOf43
  v37:=Tryz.zeroValue43
  t46:=Tryz.underlying86
  a46:=Tryz.isAgg86
  z46:=Tryz.sizeOf86
  v46:=Tryz.zeroValue86
  t51:=Tryz.underlying112
  a51:=Tryz.isAgg112
  z51:=Tryz.sizeOf112
  v51:=Tryz.zeroValue112
  t53:=Tryz.underlying114
  a53:=Tryz.isAgg114
  z53:=Tryz.sizeOf114
  v53:=Tryz.zeroValue114
  t171:=Tryz.underlying169
  a171:=Tryz.isAgg169
  z171:=Tryz.sizeOf169
  v171:=Tryz.zeroValue169
  t173:=Tryz.underlying171
  a173:=Tryz.isAgg171
  z173:=Tryz.sizeOf171
  v173:=Tryz.zeroValue171
  t212:=Tryz.underlying190
  a212:=Tryz.isAgg190
  z212:=Tryz.sizeOf190
  v212:=Tryz.zeroValue190
  t213:=Tryz.underlying191
  a213:=Tryz.isAgg191
  z213:=Tryz.sizeOf191
  t232:=Tryz.underlying203
  a232:=Tryz.isAgg203
  z232:=Tryz.sizeOf203
  v232:=Tryz.zeroValue203
  t233:=Tryz.underlying204
  a233:=Tryz.isAgg204
  z233:=Tryz.sizeOf204
  v233:=Tryz.zeroValue204
  g17:=by kernel_rfl
  g18:=by kernel_rfl
  g19:=by kernel_rfl
  i0:=by kernel_rfl
  i2:=by kernel_rfl
  i3:=by kernel_rfl
  i4:=by kernel_rfl
  i5:=by kernel_rfl
  i9:=by kernel_rfl
  i20:=by kernel_rfl
  i37:=by kernel_rfl
  i46:=by kernel_rfl
  i51:=by kernel_rfl
  i53:=by kernel_rfl
  i171:=by kernel_rfl
  i173:=by kernel_rfl
  i212:=by kernel_rfl
  i232:=by kernel_rfl
  i233:=by kernel_rfl
  m17:=by kernel_rfl
  m18:=by kernel_rfl
  m19:=by kernel_rfl }
def Tryz.laysCA_ren:Go.Shelf.Ren:=⟨fun | 150=>124 | 153=>154 | 152=>171 | 226=>172 | 227=>173 | 228=>174 | 137=>187 | 119=>188 | 224=>189 | 225=>190 | 217=>205 | 266=>216 | n=>n,fun | 9=>9 | 4=>4 | 3=>3 | 5=>5 | 21=>21 | 117=>160 | 116=>159 | 0=>0 | 46=>86 | 124=>176 | n=>n,fun | n=>n⟩
theorem Tryz.laysCA : Go.Proofs.Lays.n150 Tryz.prog Tryz.laysCA_ren := {
  mixed:=by kernel_rfl
  f119:=Tryz.func188.trans (congrArg some (by kernel_rfl))
  f137:=Tryz.func187.trans (congrArg some (by kernel_rfl))
  f150:=Tryz.func124.trans (congrArg some (by kernel_rfl))
  f152:=Tryz.func171.trans (congrArg some (by kernel_rfl))
  f153:=Tryz.func154.trans (congrArg some (by kernel_rfl))
  f217:=Tryz.func205.trans (congrArg some (by kernel_rfl))
  f224:=Tryz.func189.trans (congrArg some (by kernel_rfl))
  f225:=Tryz.func190.trans (congrArg some (by kernel_rfl))
  f226:=Tryz.func172.trans (congrArg some (by kernel_rfl))
  f227:=Tryz.func173.trans (congrArg some (by kernel_rfl))
  f228:=Tryz.func174.trans (congrArg some (by kernel_rfl))
  f266:=Tryz.func216.trans (congrArg some (by kernel_rfl))
  t0:=Tryz.underlying0
  a0:=Tryz.isAgg0
  z0:=Tryz.sizeOf0
  v0:=Tryz.zeroValue0
  t3:=Tryz.underlying3
  a3:=Tryz.isAgg3
  z3:=Tryz.sizeOf3
  v3:=Tryz.zeroValue3
  t4:=Tryz.underlying4
  a4:=Tryz.isAgg4
  z4:=Tryz.sizeOf4
  v4:=Tryz.zeroValue4
  t5:=Tryz.underlying5
  a5:=Tryz.isAgg5
  z5:=Tryz.sizeOf5
  v5:=Tryz.zeroValue5
  t9:=Tryz.underlying9
  a9:=Tryz.isAgg9
  z9:=Tryz.sizeOf9
  v9:=Tryz.zeroValue9
  t21:=Tryz.underlying21
  a21:=Tryz.isAgg21
  z21:=Tryz.sizeOf21
  v21:=Tryz.zeroValue21
  t46:=Tryz.underlying86
  a46:=Tryz.isAgg86
  z46:=Tryz.sizeOf86
  v46:=Tryz.zeroValue86
  t116:=Tryz.underlying159
  a116:=Tryz.isAgg159
  z116:=Tryz.sizeOf159
  t117:=Tryz.underlying160
  a117:=Tryz.isAgg160
  z117:=Tryz.sizeOf160
  v117:=Tryz.zeroValue160
  t124:=Tryz.underlying176
  a124:=Tryz.isAgg176
  z124:=Tryz.sizeOf176
  v124:=Tryz.zeroValue176 }
def Tryz.laysAtoi_ren:Go.Shelf.Ren:=⟨fun | 172=>132 | 244=>159 | 245=>160 | 247=>175 | 279=>176 | 280=>177 | 281=>178 | 282=>179 | 287=>191 | 316=>192 | 171=>105 | 205=>193 | 321=>206 | 322=>207 | 243=>137 | 246=>165 | 283=>182 | 284=>183 | 285=>184 | 286=>185 | 129=>116 | 317=>201 | 318=>202 | 319=>203 | 320=>204 | 337=>214 | 338=>215 | n=>n,fun | 9=>9 | 3=>3 | 75=>124 | 76=>125 | 4=>4 | 5=>5 | 167=>162 | 37=>43 | 0=>0 | 85=>163 | 2=>2 | 168=>165 | 53=>114 | 175=>177 | 46=>86 | 210=>180 | 127=>192 | 145=>195 | 143=>193 | 21=>21 | 171=>169 | 173=>171 | 212=>190 | 51=>112 | 20=>20 | 213=>191 | 232=>203 | 233=>204 | 80=>188 | n=>n,fun | 15=>1 | 16=>2 | 17=>3 | 18=>7 | 19=>8 | n=>n⟩
theorem Tryz.laysAtoi : Go.Proofs.LaysC.n172 Tryz.prog Tryz.laysAtoi_ren := {
  mixed:=by kernel_rfl
  f129:=Tryz.func116.trans (congrArg some (by kernel_rfl))
  f171:=Tryz.func105.trans (congrArg some (by kernel_rfl))
  f172:=Tryz.func132.trans (congrArg some (by kernel_rfl))
  f205:=Tryz.func193.trans (congrArg some (by kernel_rfl))
  f243:=Tryz.func137.trans (congrArg some (by kernel_rfl))
  f244:=Tryz.func159.trans (congrArg some (by kernel_rfl))
  f245:=Tryz.func160.trans (congrArg some (by kernel_rfl))
  f246:=Tryz.func165.trans (congrArg some (by kernel_rfl))
  f247:=Tryz.func175.trans (congrArg some (by kernel_rfl))
  f279:=Tryz.func176.trans (congrArg some (by kernel_rfl))
  f280:=Tryz.func177.trans (congrArg some (by kernel_rfl))
  f281:=Tryz.func178.trans (congrArg some (by kernel_rfl))
  f282:=Tryz.func179.trans (congrArg some (by kernel_rfl))
  f283:=Tryz.func182.trans (congrArg some (by kernel_rfl))
  f284:=Tryz.func183.trans (congrArg some (by kernel_rfl))
  f285:=Tryz.func184.trans (congrArg some (by kernel_rfl))
  f286:=Tryz.func185.trans (congrArg some (by kernel_rfl))
  f287:=Tryz.func191.trans (congrArg some (by kernel_rfl))
  f316:=Tryz.func192.trans (congrArg some (by kernel_rfl))
  f317:=Tryz.func201.trans (congrArg some (by kernel_rfl))
  f318:=Tryz.func202.trans (congrArg some (by kernel_rfl))
  f319:=Tryz.func203.trans (congrArg some (by kernel_rfl))
  f320:=Tryz.func204.trans (congrArg some (by kernel_rfl))
  f321:=Tryz.func206.trans (congrArg some (by kernel_rfl))
  f322:=Tryz.func207.trans (congrArg some (by kernel_rfl))
  f337:=Tryz.func214.trans (congrArg some (by kernel_rfl))
  f338:=Tryz.func215.trans (congrArg some (by kernel_rfl))
  t0:=Tryz.underlying0
  a0:=Tryz.isAgg0
  z0:=Tryz.sizeOf0
  v0:=Tryz.zeroValue0
  t2:=Tryz.underlying2
  a2:=Tryz.isAgg2
  z2:=Tryz.sizeOf2
  v2:=Tryz.zeroValue2
  t3:=Tryz.underlying3
  a3:=Tryz.isAgg3
  z3:=Tryz.sizeOf3
  v3:=Tryz.zeroValue3
  t4:=Tryz.underlying4
  a4:=Tryz.isAgg4
  z4:=Tryz.sizeOf4
  v4:=Tryz.zeroValue4
  t5:=Tryz.underlying5
  a5:=Tryz.isAgg5
  z5:=Tryz.sizeOf5
  v5:=Tryz.zeroValue5
  t9:=Tryz.underlying9
  a9:=Tryz.isAgg9
  z9:=Tryz.sizeOf9
  v9:=Tryz.zeroValue9
  t20:=Tryz.underlying20
  a20:=Tryz.isAgg20
  z20:=Tryz.sizeOf20
  v20:=Tryz.zeroValue20
  t21:=Tryz.underlying21
  a21:=Tryz.isAgg21
  z21:=Tryz.sizeOf21
  v21:=Tryz.zeroValue21
  t37:=Tryz.underlying43
  a37:=Tryz.isAgg43
  z37:=Tryz.sizeOf43
  v37:=Tryz.zeroValue43
  t46:=Tryz.underlying86
  a46:=Tryz.isAgg86
  z46:=Tryz.sizeOf86
  v46:=Tryz.zeroValue86
  t51:=Tryz.underlying112
  a51:=Tryz.isAgg112
  z51:=Tryz.sizeOf112
  v51:=Tryz.zeroValue112
  t53:=Tryz.underlying114
  a53:=Tryz.isAgg114
  z53:=Tryz.sizeOf114
  v53:=Tryz.zeroValue114
  t75:=Tryz.underlying124
  a75:=Tryz.isAgg124
  z75:=Tryz.sizeOf124
  v75:=Tryz.zeroValue124
  t76:=Tryz.underlying125
  a76:=Tryz.isAgg125
  z76:=Tryz.sizeOf125
  v76:=Tryz.zeroValue125
  t85:=Tryz.underlying163
  a85:=Tryz.isAgg163
  z85:=Tryz.sizeOf163
  v85:=Tryz.zeroValue163
  t127:=Tryz.underlying192
  a127:=Tryz.isAgg192
  z127:=Tryz.sizeOf192
  v127:=Tryz.zeroValue192
  t143:=Tryz.underlying193
  a143:=Tryz.isAgg193
  z143:=Tryz.sizeOf193
  v143:=Tryz.zeroValue193
  t145:=Tryz.underlying195
  a145:=Tryz.isAgg195
  z145:=Tryz.sizeOf195
  v145:=Tryz.zeroValue195
  t167:=Tryz.underlying162
  a167:=Tryz.isAgg162
  z167:=Tryz.sizeOf162
  v167:=Tryz.zeroValue162
  t168:=Tryz.underlying165
  a168:=Tryz.isAgg165
  z168:=Tryz.sizeOf165
  v168:=Tryz.zeroValue165
  t171:=Tryz.underlying169
  a171:=Tryz.isAgg169
  z171:=Tryz.sizeOf169
  v171:=Tryz.zeroValue169
  t173:=Tryz.underlying171
  a173:=Tryz.isAgg171
  z173:=Tryz.sizeOf171
  v173:=Tryz.zeroValue171
  t175:=Tryz.underlying177
  a175:=Tryz.isAgg177
  z175:=Tryz.sizeOf177
  v175:=Tryz.zeroValue177
  t210:=Tryz.underlying180
  a210:=Tryz.isAgg180
  z210:=Tryz.sizeOf180
  v210:=Tryz.zeroValue180
  t212:=Tryz.underlying190
  a212:=Tryz.isAgg190
  z212:=Tryz.sizeOf190
  v212:=Tryz.zeroValue190
  t213:=Tryz.underlying191
  a213:=Tryz.isAgg191
  z213:=Tryz.sizeOf191
  t232:=Tryz.underlying203
  a232:=Tryz.isAgg203
  z232:=Tryz.sizeOf203
  v232:=Tryz.zeroValue203
  t233:=Tryz.underlying204
  a233:=Tryz.isAgg204
  z233:=Tryz.sizeOf204
  v233:=Tryz.zeroValue204
  g15:=by kernel_rfl
  g16:=by kernel_rfl
  g17:=by kernel_rfl
  g18:=by kernel_rfl
  g19:=by kernel_rfl
  t80:=Tryz.underlying188
  a80:=Tryz.isAgg188
  z80:=Tryz.sizeOf188
  v80:=Tryz.zeroValue188
  i0:=by kernel_rfl
  i2:=by kernel_rfl
  i3:=by kernel_rfl
  i4:=by kernel_rfl
  i5:=by kernel_rfl
  i9:=by kernel_rfl
  i20:=by kernel_rfl
  i21:=by kernel_rfl
  i37:=by kernel_rfl
  i46:=by kernel_rfl
  i51:=by kernel_rfl
  i53:=by kernel_rfl
  i75:=by kernel_rfl
  i76:=by kernel_rfl
  i80:=by kernel_rfl
  i85:=by kernel_rfl
  i127:=by kernel_rfl
  i143:=by kernel_rfl
  i145:=by kernel_rfl
  i167:=by kernel_rfl
  i168:=by kernel_rfl
  i171:=by kernel_rfl
  i173:=by kernel_rfl
  i175:=by kernel_rfl
  i210:=by kernel_rfl
  i212:=by kernel_rfl
  i232:=by kernel_rfl
  i233:=by kernel_rfl
  m15:=by kernel_rfl
  m16:=by kernel_rfl
  m17:=by kernel_rfl
  m18:=by kernel_rfl
  m19:=by kernel_rfl
  c0:=by kernel_rfl
  c2:=by kernel_rfl
  c3:=by kernel_rfl
  c4:=by kernel_rfl
  c5:=by kernel_rfl
  c9:=by kernel_rfl
  c20:=by kernel_rfl
  c21:=by kernel_rfl
  c37:=by kernel_rfl
  c46:=by kernel_rfl
  c51:=by kernel_rfl
  c53:=by kernel_rfl
  c75:=by kernel_rfl
  c76:=by kernel_rfl
  c80:=by kernel_rfl
  c85:=by kernel_rfl
  c127:=by kernel_rfl
  c143:=by kernel_rfl
  c145:=by kernel_rfl
  c167:=by kernel_rfl
  c168:=by kernel_rfl
  c171:=by kernel_rfl
  c173:=by kernel_rfl
  c175:=by kernel_rfl
  c210:=by kernel_rfl
  c212:=by kernel_rfl
  c213:=by kernel_rfl
  c232:=by kernel_rfl
  c233:=by kernel_rfl }
def Tryz.laysFF_ren:Go.Shelf.Ren:=⟨fun | 229=>133 | n=>n,fun | 9=>9 | 40=>128 | 31=>34 | 152=>146 | 3=>3 | 0=>0 | 4=>4 | 21=>21 | 154=>148 | n=>n,fun | n=>n⟩
theorem Tryz.laysFF : Go.Proofs.Lays.n229 Tryz.prog Tryz.laysFF_ren := {
  mixed:=by kernel_rfl
  f229:=Tryz.func133.trans (congrArg some (by kernel_rfl))
  t0:=Tryz.underlying0
  a0:=Tryz.isAgg0
  z0:=Tryz.sizeOf0
  v0:=Tryz.zeroValue0
  t3:=Tryz.underlying3
  a3:=Tryz.isAgg3
  z3:=Tryz.sizeOf3
  v3:=Tryz.zeroValue3
  t4:=Tryz.underlying4
  a4:=Tryz.isAgg4
  z4:=Tryz.sizeOf4
  v4:=Tryz.zeroValue4
  t9:=Tryz.underlying9
  a9:=Tryz.isAgg9
  z9:=Tryz.sizeOf9
  v9:=Tryz.zeroValue9
  t21:=Tryz.underlying21
  a21:=Tryz.isAgg21
  z21:=Tryz.sizeOf21
  v21:=Tryz.zeroValue21
  t31:=Tryz.underlying34
  a31:=Tryz.isAgg34
  z31:=Tryz.sizeOf34
  v31:=Tryz.zeroValue34
  t40:=Tryz.underlying128
  a40:=Tryz.isAgg128
  z40:=Tryz.sizeOf128
  v40:=Tryz.zeroValue128
  t152:=Tryz.underlying146
  a152:=Tryz.isAgg146
  z152:=Tryz.sizeOf146
  v152:=Tryz.zeroValue146
  t154:=Tryz.underlying148
  a154:=Tryz.isAgg148
  z154:=Tryz.sizeOf148
  v154:=Tryz.zeroValue148 }
def Tryz.laysRep_ren:Go.Shelf.Ren:=⟨fun | 155=>162 | 154=>181 | 138=>195 | 165=>196 | 143=>197 | 166=>198 | 197=>199 | 169=>200 | 195=>208 | 218=>209 | 240=>210 | 241=>211 | 219=>212 | 260=>213 | 276=>217 | 277=>218 | 217=>205 | 225=>190 | 224=>189 | 267=>219 | 266=>216 | 314=>220 | n=>n,fun | 9=>9 | 3=>3 | 4=>4 | 72=>184 | 0=>0 | 76=>125 | 105=>186 | 21=>21 | 5=>5 | 70=>182 | 20=>20 | 37=>43 | 75=>124 | 127=>192 | 164=>196 | 46=>86 | 119=>199 | 139=>202 | 138=>201 | 146=>205 | 51=>112 | 80=>188 | n=>n,fun | 1=>4 | 3=>5 | 4=>6 | n=>n⟩
theorem Tryz.laysRep : Go.Proofs.Lays.n155 Tryz.prog Tryz.laysRep_ren := {
  mixed:=by kernel_rfl
  f138:=Tryz.func195.trans (congrArg some (by kernel_rfl))
  f143:=Tryz.func197.trans (congrArg some (by kernel_rfl))
  f154:=Tryz.func181.trans (congrArg some (by kernel_rfl))
  f155:=Tryz.func162.trans (congrArg some (by kernel_rfl))
  f165:=Tryz.func196.trans (congrArg some (by kernel_rfl))
  f166:=Tryz.func198.trans (congrArg some (by kernel_rfl))
  f169:=Tryz.func200.trans (congrArg some (by kernel_rfl))
  f195:=Tryz.func208.trans (congrArg some (by kernel_rfl))
  f197:=Tryz.func199.trans (congrArg some (by kernel_rfl))
  f217:=Tryz.func205.trans (congrArg some (by kernel_rfl))
  f218:=Tryz.func209.trans (congrArg some (by kernel_rfl))
  f219:=Tryz.func212.trans (congrArg some (by kernel_rfl))
  f224:=Tryz.func189.trans (congrArg some (by kernel_rfl))
  f225:=Tryz.func190.trans (congrArg some (by kernel_rfl))
  f240:=Tryz.func210.trans (congrArg some (by kernel_rfl))
  f241:=Tryz.func211.trans (congrArg some (by kernel_rfl))
  f260:=Tryz.func213.trans (congrArg some (by kernel_rfl))
  f266:=Tryz.func216.trans (congrArg some (by kernel_rfl))
  f267:=Tryz.func219.trans (congrArg some (by kernel_rfl))
  f276:=Tryz.func217.trans (congrArg some (by kernel_rfl))
  f277:=Tryz.func218.trans (congrArg some (by kernel_rfl))
  f314:=Tryz.func220.trans (congrArg some (by kernel_rfl))
  t0:=Tryz.underlying0
  a0:=Tryz.isAgg0
  z0:=Tryz.sizeOf0
  v0:=Tryz.zeroValue0
  t3:=Tryz.underlying3
  a3:=Tryz.isAgg3
  z3:=Tryz.sizeOf3
  v3:=Tryz.zeroValue3
  t4:=Tryz.underlying4
  a4:=Tryz.isAgg4
  z4:=Tryz.sizeOf4
  v4:=Tryz.zeroValue4
  t5:=Tryz.underlying5
  a5:=Tryz.isAgg5
  z5:=Tryz.sizeOf5
  v5:=Tryz.zeroValue5
  t9:=Tryz.underlying9
  a9:=Tryz.isAgg9
  z9:=Tryz.sizeOf9
  v9:=Tryz.zeroValue9
  t20:=Tryz.underlying20
  a20:=Tryz.isAgg20
  z20:=Tryz.sizeOf20
  v20:=Tryz.zeroValue20
  t21:=Tryz.underlying21
  a21:=Tryz.isAgg21
  z21:=Tryz.sizeOf21
  v21:=Tryz.zeroValue21
  t37:=Tryz.underlying43
  a37:=Tryz.isAgg43
  z37:=Tryz.sizeOf43
  v37:=Tryz.zeroValue43
  t46:=Tryz.underlying86
  a46:=Tryz.isAgg86
  z46:=Tryz.sizeOf86
  v46:=Tryz.zeroValue86
  t51:=Tryz.underlying112
  a51:=Tryz.isAgg112
  z51:=Tryz.sizeOf112
  v51:=Tryz.zeroValue112
  t70:=Tryz.underlying182
  a70:=Tryz.isAgg182
  z70:=Tryz.sizeOf182
  v70:=Tryz.zeroValue182
  t72:=Tryz.underlying184
  a72:=Tryz.isAgg184
  z72:=Tryz.sizeOf184
  v72:=Tryz.zeroValue184
  t75:=Tryz.underlying124
  a75:=Tryz.isAgg124
  z75:=Tryz.sizeOf124
  v75:=Tryz.zeroValue124
  t76:=Tryz.underlying125
  a76:=Tryz.isAgg125
  z76:=Tryz.sizeOf125
  v76:=Tryz.zeroValue125
  t105:=Tryz.underlying186
  a105:=Tryz.isAgg186
  z105:=Tryz.sizeOf186
  v105:=Tryz.zeroValue186
  t119:=Tryz.underlying199
  a119:=Tryz.isAgg199
  z119:=Tryz.sizeOf199
  t127:=Tryz.underlying192
  a127:=Tryz.isAgg192
  z127:=Tryz.sizeOf192
  v127:=Tryz.zeroValue192
  t138:=Tryz.underlying201
  a138:=Tryz.isAgg201
  z138:=Tryz.sizeOf201
  v138:=Tryz.zeroValue201
  t139:=Tryz.underlying202
  a139:=Tryz.isAgg202
  z139:=Tryz.sizeOf202
  v139:=Tryz.zeroValue202
  t146:=Tryz.underlying205
  a146:=Tryz.isAgg205
  z146:=Tryz.sizeOf205
  v146:=Tryz.zeroValue205
  t164:=Tryz.underlying196
  a164:=Tryz.isAgg196
  z164:=Tryz.sizeOf196
  v164:=Tryz.zeroValue196
  g1:=by kernel_rfl
  g3:=by kernel_rfl
  g4:=by kernel_rfl }
def Tryz.laysMax_ren:Go.Shelf.Ren:=⟨fun | 219=>212 | 217=>205 | 225=>190 | 224=>189 | 267=>219 | 266=>216 | 314=>220 | n=>n,fun | 9=>9 | 3=>3 | 4=>4 | 5=>5 | 46=>86 | 146=>205 | 51=>112 | n=>n,fun | 1=>4 | n=>n⟩
theorem Tryz.laysMax : Go.Proofs.LaysM.n219 Tryz.prog Tryz.laysMax_ren := {
  mixed:=by kernel_rfl
  f217:=Tryz.func205.trans (congrArg some (by kernel_rfl))
  f219:=Tryz.func212.trans (congrArg some (by kernel_rfl))
  f224:=Tryz.func189.trans (congrArg some (by kernel_rfl))
  f225:=Tryz.func190.trans (congrArg some (by kernel_rfl))
  f266:=Tryz.func216.trans (congrArg some (by kernel_rfl))
  f267:=Tryz.func219.trans (congrArg some (by kernel_rfl))
  f314:=Tryz.func220.trans (congrArg some (by kernel_rfl))
  t3:=Tryz.underlying3
  a3:=Tryz.isAgg3
  z3:=Tryz.sizeOf3
  v3:=Tryz.zeroValue3
  t4:=Tryz.underlying4
  a4:=Tryz.isAgg4
  z4:=Tryz.sizeOf4
  v4:=Tryz.zeroValue4
  t5:=Tryz.underlying5
  a5:=Tryz.isAgg5
  z5:=Tryz.sizeOf5
  v5:=Tryz.zeroValue5
  t9:=Tryz.underlying9
  a9:=Tryz.isAgg9
  z9:=Tryz.sizeOf9
  v9:=Tryz.zeroValue9
  t46:=Tryz.underlying86
  a46:=Tryz.isAgg86
  z46:=Tryz.sizeOf86
  v46:=Tryz.zeroValue86
  t51:=Tryz.underlying112
  a51:=Tryz.isAgg112
  z51:=Tryz.sizeOf112
  v51:=Tryz.zeroValue112
  t146:=Tryz.underlying205
  a146:=Tryz.isAgg205
  z146:=Tryz.sizeOf205
  v146:=Tryz.zeroValue205
  g1:=by kernel_rfl
  i3:=by kernel_rfl
  i4:=by kernel_rfl
  i5:=by kernel_rfl
  i9:=by kernel_rfl
  i46:=by kernel_rfl
  i51:=by kernel_rfl
  i146:=by kernel_rfl
  m1:=by kernel_rfl
  s1_3:=fun w h=>Go.Proofs.cell_of_shapedOpen_int (zero:=#[.int .i64 0]) (t:=3) h (of_decide_eq_true (by kernel_rfl)) (by kernel_rfl) rfl (by kernel_rfl) (by kernel_rfl) Tryz.underlying3 }
theorem Tryz.extraRep : Builder.Extra Tryz.prog Tryz.laysRep_ren := {
  sizeBuilder:=by kernel_rfl
  liesBuilder:=by kernel_rfl
  t5:=Tryz.underlying5
  a5:=Tryz.isAgg5
  z5:=Tryz.sizeOf5
  v5:=Tryz.zeroValue5
  infoByte:=by kernel_rfl
  cellsByte:=by kernel_rfl
  sizeByte:=by kernel_rfl
  neB5:=by decide }
end Go.Proofs
namespace Go.Proofs.YtldppodfhabkjaaGreatDoor
open Go.RowKit Go.Sort
set_option linter.unusedVariables false
def sndL:List Int:=[0,1,2,3,0,1,2,-1,0,2,2,4,5,5,0,1,2,6,2,3,0,1,-1,2,0,2]
def zJr:String:= "loop.example/g01923/impl.soundCodes"
structure GTab (w : World) : Prop where
  snd:Lib.TabIs Tryz.prog w zJr .i64 sndL
  pow:Lib.TabIs Tryz.prog w "internal/strconv.uint64pow10" .u64 Lib.pow10Tab
  eS:∃ t p,w.var? Tryz.prog "strconv.ErrSyntax" = some #[.iface t p]
  eR:∃ t p,w.var? Tryz.prog "strconv.ErrRange" = some #[.iface t p]
  mx:∃ m,w.cell? ⟨4,0,none⟩=some (.int .i64 m)
theorem zLy {P:Program} {w w':World} {n:String} {cs:Array Value} (h:w.var? P n=some cs) (hf:Fr w w'):w'.var? P n=some cs:=by
  unfold World.var? at *
  cases hg:P.globalNamed n with
  | none=>rw [hg] at h;cases h
  | some g=>
    rw [hg] at h
    simp only [Option.bind_some] at h ⊢
    have hlt:g<w.heap.size:=by
      rcases Nat.lt_or_ge g w.heap.size with hlt | hge
      . exact hlt
      . rw [Array.getElem?_eq_none hge] at h
        cases h
    rw [hf.block g hlt]
    exact h
theorem GTab.fr {w w' : World} (h : GTab w) (hf : Fr w w') : GTab w' where
  snd:=zLy h.snd hf
  pow:=zLy h.pow hf
  eS:=let ⟨t,p,e⟩:=h.eS;⟨t,p,zLy e hf⟩
  eR:=let ⟨t,p,e⟩:=h.eR;⟨t,p,zLy e hf⟩
  mx:=let ⟨m,e⟩:=h.mx;⟨m,(hf.cell (p:=⟨4,0,none⟩) (zEE e)).trans e⟩
theorem zNY {P:Program} {w:World} {n:String} {cs:Array Value} {g:Nat} (h:w.var? P n=some cs) (hg:P.globalNamed n=some g) {i:Nat} {v:Value} (hi:cs[i]? = some v):w.cell? ⟨g,i,none⟩=some v:=by
  have:=World.var?_cell hg h i
  rw [this,hi]
section
variable {P:Program} {R:Reg} {w:World} {d:Option Nat} {t:TypeId} {p:String} {af:Array Edge} {g:Option (Nat × Bool)}
theorem zGx {T e n gb : Nat} {ix : Operand} {k : IntKind} {i : Int} (hi : zAH R ix=.int k i) (hu : P.underlying T = some (.array n e)) (hsz : ∀ w, (sizeOf e).run P w=.ok 1 w) (hr : inR i n = true) :
    OpF P ⟨d,.indexAddr T (.global gb) ix,t,p,af,g⟩ R w (.raw (.pointer (some ⟨gb,i.toNat,none⟩))):=by
  obtain ⟨i0,i1⟩:=zCw.1 hr
  refine zAQ (v:=.pointer (some ⟨gb,i.toNat,none⟩)) (w':=w) ?_ ⟨rfl,Fr.refl _⟩
  have hadd:∀ j,(⟨gb,0,none⟩:Addr).add j=⟨gb,j,none⟩:=fun j=>by
    unfold Addr.add
    split
    . rename_i h;subst h;rfl
    . simp
  have hg':zAH R (.global gb)=.pointer (some ⟨gb,0,none⟩):=rfl
  simp [execOp,Instr.indexAt,Instr.sureAddr,hg',hi,asIntOf,underlying,hu,i0,i1,hsz,hadd]
end
end Go.Proofs.YtldppodfhabkjaaGreatDoor
namespace Go.Proofs.YtldppodfhabkjaaGreatDoor
open Go.RowKit Go.ChangeShapes Go.WideShapes Go.Deep
abbrev Rel (α:Type):=World->Nat->α->List Value->Prop
def U8 (n:Int):Prop:=(Lit.int .u8 n).wf=true
def zPG:Rel Int:=fun _ _ n cs=>cs = [.int .u8 n]/\U8 n
def slR {α:Type} (k:Nat) (R:Rel α):Rel (List α):=fun w B l cs=>
  ∃ (A : Option Addr) (n c : Nat) (es : List (List Value)), cs = [.slice A n c] /\ n = l.length /\ n <= c /\ c <= maxLen /\ es.length = l.length /\ Rd w B k A n es.flatten /\
    ∀ (i:Nat) x e,l[i]? = some x->es[i]? = some e->e.length=k/\R w B x e
def zNi {α:Type} (P:Program) (t:TypeId) (R:Rel α):Prop:=
  ∀ {H:Type} (enc:TypeId × Value->H) (w:World) (fuel:Nat) (cs:List Value) (x:DataW H × List MemPlace),DataW.trod enc P w 0 (fun _=>true) true fuel t cs=some x->∃ a,R w w.heap.size a cs
section
variable {P:Program}
theorem zMA {t:TypeId} (ht:P.underlying t=some (.int .u8)):zNi P t zPG:=fun enc w fuel cs x h=>by
  obtain ⟨n,h1,_,h2⟩:=DataW.trod_int ht h
  exact ⟨n,h1,h2⟩
theorem zPF {w:World} {a:Addr} {v:Value} (h:w.cell? a=some v):a.block<w.heap.size:=by
  rcases Nat.lt_or_ge a.block w.heap.size with hlt | hge
  . exact hlt
  . unfold World.cell? at h
    rw [Array.getElem?_eq_none hge] at h
    cases h
theorem zKz {α : Type} (n : Nat) (Q : Nat -> List Value -> α -> Prop) (h : ∀ i, i < n -> ∃ cs a, Q i cs a) :
    ∃ (es:List (List Value)) (l:List α),es.length=n/\l.length=n/\∀ i x e,l[i]? = some x->es[i]? = some e->Q i e x:=by
  induction n with
  | zero=>exact ⟨[],[],rfl,rfl,fun i x e h=>by simp at h⟩
  | succ n ih=>
    obtain ⟨es,l,h1,h2,h3⟩:=ih fun i hi=>h i (by omega)
    obtain ⟨cs,a,hq⟩:=h n (by omega)
    refine ⟨es ++ [cs],l ++ [a],by simp [h1],by simp [h2],fun i x e hx he=>?_⟩
    by_cases hi:i<n
    . rw [List.getElem?_append_left (by omega)] at hx he
      exact h3 i x e hx he
    . by_cases hn : i = n
      . subst hn
        rw [List.getElem?_append_right (by omega)] at hx he
        simp [h1,h2] at hx he
        subst hx he
        exact hq
      . rw [List.getElem?_eq_none (by simp [h2]; omega)] at hx
        cases hx
theorem zJD {k : Nat} (hk : 0 < k) : ∀ (es : List (List Value)), (∀ e ∈ es, e.length = k) -> ∀ j, es.flatten[j]? = (es[j / k]?).bind fun e => e[j % k]?
  | [],_,j=>by simp
  | e::es,he,j=>by
    have hl:=he e (by simp)
    rw [List.flatten_cons]
    by_cases hj:j<k
    . rw [List.getElem?_append_left (by omega), Nat.div_eq_of_lt hj, Nat.mod_eq_of_lt hj]
      rfl
    . rw [List.getElem?_append_right (by omega), hl, zJD hk es (fun e h => he e (by simp [h])) (j - k)]
      have h1:j / k=(j-k) / k+1:=by
        rw [Nat.div_eq_sub_div hk (by omega)]
      have h2:j % k=(j-k) % k:=by
        rw [Nat.mod_eq_sub_mod (by omega)]
      rw [h1,h2]
      rfl
theorem zFc {k : Nat} : ∀ (es : List (List Value)), (∀ e ∈ es, e.length = k) -> es.flatten.length = es.length * k
  | [],_=>by simp
  | e::es,he=>by
    rw [List.flatten_cons,List.length_append,zFc es (fun e h=>he e (by simp [h])),he e (by simp),List.length_cons,Nat.add_mul,Nat.one_mul,Nat.add_comm]
theorem zLF {α:Type} {t e:TypeId} {k:Nat} {R:Rel α} (ht:P.underlying t=some (.slice e)) (hC:P.cellsOf e=k) (hk:0<k) (hR:zNi P e R):zNi P t (slR k R):=fun enc w fuel cs x h=>by
  rcases open_slice ht h with ⟨rfl,_⟩ | ⟨a,len,cap,m,n,D,Pl,rfl,_,hl,hm,hmm,_,hi⟩
  . exact ⟨[],none,0,0,[],rfl,rfl,Nat.le_refl _,Nat.zero_le _,rfl,⟨by simp,fun h=>absurd h (by omega)⟩,fun i x e h=>by simp at h⟩
  . simp only [if_true] at hmm
    subst hmm
    rw [hC] at hi
    obtain ⟨es,l,h1,h2,h3⟩:=zKz len (fun i cs x=>cs.length=k/\(∀ j,j<k->w.cell? ((a.add (i*k)).add j)=cs[j]?)/\R w w.heap.size x cs) fun i hlt=>by
      obtain ⟨cs',hc,ht'⟩:=hi i (by omega)
      obtain ⟨_,hcl,hat⟩:=World.cells?_some hc
      obtain ⟨x,hx⟩:=hR enc w n cs' _ ht'
      exact ⟨cs',x,hcl,hat,hx⟩
    have hall:∀ e ∈ es,e.length=k:=fun e he=>by
      obtain ⟨i,hi',he'⟩:=List.getElem_of_mem he
      exact (h3 i (l[i]'(by omega)) e (List.getElem?_eq_getElem (by omega)) (by rw [<- he'];exact List.getElem?_eq_getElem hi')).1
    refine ⟨l,some a,len,m,es,rfl,h2.symm,hl,hm,by omega,⟨by rw [zFc es hall,h1],fun hn=>?_⟩,fun i x e hx he=>⟨(h3 i x e hx he).1,(h3 i x e hx he).2.2⟩⟩
    obtain ⟨b,off,spot⟩:=a
    have key:∀ j u,es.flatten[j]? = some u->w.cell? ((⟨b,off,spot⟩:Addr).add j)=some u:=by
      intro j u hu
      rw [zJD hk es hall] at hu
      have hjl:j / k<es.length:=by
        rcases Nat.lt_or_ge (j / k) es.length with h | h
        . exact h
        . rw [List.getElem?_eq_none h] at hu
          simp at hu
      rw [List.getElem?_eq_getElem hjl] at hu
      have hq:=h3 (j / k) (l[j / k]'(by omega)) es[j / k] (List.getElem?_eq_getElem (by omega)) (List.getElem?_eq_getElem hjl)
      have hm:=hq.2.1 (j % k) (Nat.mod_lt _ hk)
      rw [Go.Deep.add_add] at hm
      rw [Nat.mul_comm,Nat.div_add_mod] at hm
      rw [hm]
      exact hu
    have h0:∃ u,es.flatten[0]? = some u:=by
      have hlen:=zFc es hall
      have:0<es.flatten.length:=by rw [hlen,h1];exact Nat.mul_pos hn hk
      exact ⟨_,List.getElem?_eq_getElem this⟩
    obtain ⟨u0,hu0⟩:=h0
    have hc0:=key 0 u0 hu0
    have hspot:spot=none:=by simpa [Addr.add] using World.cell?_spot hc0
    subst hspot
    refine ⟨b,off,rfl,by simpa [Addr.add] using zPF hc0,fun j u hu=>?_⟩
    have:=key j u hu
    unfold Addr.add at this
    split at this
    . next hj=>subst hj;simpa using this
    . exact this
theorem zN8 {α : Type} {H : Type} {enc : TypeId × Value -> H} {r : Reach} {b0 : Nat} {w : World} {t e : TypeId} {k : Nat} {R : Rel α} {v : Value} {d : DataW H} {p : List MemPlace} (ht : P.underlying t = some (.slice e)) (ho : zNi P t (slR k R))
    (hv:Value.okWide P w r b0 t v) (h:DataW.Trod enc P w 0 (fun _=>true) true t v d p) :
    ∃ A n c l,v=.slice A n c/\slR k R w w.heap.size l [.slice A n c]:=by
  obtain ⟨A,n,c,rfl⟩:=okWide_slice ht hv
  obtain ⟨fuel,hf⟩:=h
  obtain ⟨l,hl⟩:=ho enc w fuel _ _ hf
  exact ⟨A,n,c,l,rfl,by simpa [Value.cells] using hl⟩
end
end Go.Proofs.YtldppodfhabkjaaGreatDoor
namespace Go.Proofs.YtldppodfhabkjaaGreatDoor
open Go.RowKit
set_option linter.unusedVariables false
theorem zHx {P : Program} {w : World} : ∀ (l : List (String × DataW Unit)) (ps : List MemPlace), DataW.LaidVars P w l ps -> ∀ (i : Nat) n d, l[i]? = some (n, d) ->
    ∃ g t cs fuel p,P.globalNamed n=some g/\(P.globals[g]?).map (·.type)=some t/\w.var? P n=some cs/\DataW.trod (fun _=>()) P w 0 (fun _=>true) false fuel t cs.toList=some (d,p)
  | [],_,_,i,n,d,hi=>by simp at hi
  | (n',d')::r,ps,h,0,n,d,hi=>by
    obtain ⟨g,t,cs,fuel,p,q,h1,h2,h3,h4,_,_⟩:=h
    simp only [List.getElem?_cons_zero,Option.some.injEq,Prod.mk.injEq] at hi
    obtain ⟨rfl,rfl⟩:=hi
    exact ⟨g,t,cs,fuel,p,h1,h2,h3,h4⟩
  | (n',d')::r,ps,h,i+1,n,d,hi=>by
    obtain ⟨g,t,cs,fuel,p,q,_,_,_,_,h5,_⟩:=h
    exact zHx r q h5 i n d (by simpa using hi)
theorem zKP {P : Program} {W : World} : ∀ (i : Nat) (l : List (String × DataW Unit)), laidMet P l W -> laidMet P (l.drop i) W
  | 0,l,h=>h
  | i+1,[],h=>h
  | i+1,x::l,h=>zKP i l h.tail
theorem zMw {α : Type} : ∀ (i : Nat) (l : List α) (x : α), l[i]? = some x -> ∃ r, l.drop i = x :: r
  | 0,y::l,x,h=>by simp at h;subst h;exact ⟨l,rfl⟩
  | i+1,y::l,x,h=>zMw i l x (by simpa using h)
  | 0,[],x,h=>by simp at h
  | i+1,[],x,h=>by simp at h
theorem zQ6:Tryz.prog.globalNamed zJr=some 0:=by kernel_rfl
theorem zQ2:(Tryz.prog.globals[0]?).map (·.type)=some 144:=by kernel_rfl
theorem zQ3:Tryz.prog.cellsOf 144=26:=by kernel_rfl
theorem zQG:Tryz.prog.cellsOf 3=1:=by kernel_rfl
theorem zQ9:Tryz.prog.cellsOf 9=1:=by kernel_rfl
theorem zQH:Tryz.prog.globalNamed "internal/strconv.uint64pow10" = some 3:=by kernel_rfl
theorem zQ7:(Tryz.prog.globals[3]?).map (·.type)=some 190:=by kernel_rfl
theorem zQF:Tryz.prog.cellsOf 190=20:=by kernel_rfl
theorem zQC:Tryz.prog.cellsOf 114=1:=by kernel_rfl
theorem gESG:Tryz.prog.globalNamed "strconv.ErrSyntax" = some 1:=by kernel_rfl
theorem gERG:Tryz.prog.globalNamed "strconv.ErrRange" = some 2:=by kernel_rfl
theorem tESG:(Tryz.prog.globals[1]?).map (·.type)=some 124:=by kernel_rfl
theorem tERG:(Tryz.prog.globals[2]?).map (·.type)=some 124:=by kernel_rfl
theorem zPQ : "*" ++ "errors.errorString" = "*errors.errorString":=by decide
theorem zOn (u:TypeId) (h:Tryz.prog.typeName? 3 u=some "*errors.errorString"):u=193:=
  typeName_ptr_named (nm:= "errors.errorString") (by rw [zPQ];kernel_rfl) (by kernel_rfl) (by decide) u (by rw [zPQ];exact h)
theorem zQA:Tryz.prog.cellsOf 195=1:=by kernel_rfl
theorem zOh {l:List (String × DataW Unit)} {W:World} {n:String} {g:Nat} {text:List UInt8} (h:laidMet Tryz.prog l W) (i:Nat) (hi:l[i]? = some (n,.iface "*errors.errorString" (.ptr (.agg [.lit (.string text)])))) (hg:Tryz.prog.globalNamed n=some g) (ht:(Tryz.prog.globals[g]?).map (·.type)=some 124):∃ t p,W.var? Tryz.prog n=some #[.iface t p]:=by
  obtain ⟨r,hr⟩:=zMw i l _ hi
  have h2:=hr ▸ zKP i l h
  obtain ⟨a,s,hv,_⟩:=laid_sentinel h2 hg ht Tryz.underlying124 zOn Tryz.underlying193 Tryz.underlying195 rfl rfl Tryz.underlying9 zQA zQ9
  exact ⟨_,_,hv⟩
theorem zP1 {l : List (String × DataW Unit)} {W : World} (h : laidMet Tryz.prog l W) (hSh : W.ShapedOpen Tryz.prog) (i j k q : Nat) (h1 : l[i]? = some (zJr, Lib.tabData .i64 sndL)) (h2 : l[j]? = some ("internal/strconv.uint64pow10", Lib.tabData .u64 Lib.pow10Tab))
    (h3:l[k]? = some ("strconv.ErrSyntax",.iface "*errors.errorString" (.ptr (.agg [.lit (.string [105,110,118,97,108,105,100,32,115,121,110,116,97,120])])))) (h4:l[q]? = some ("strconv.ErrRange",.iface "*errors.errorString" (.ptr (.agg [.lit (.string [118,97,108,117,101,32,111,117,116,32,111,102,32,114,97,110,103,101])])))):GTab W:=by
  have h0:=h
  obtain ⟨ps,hl,_⟩:=h
  exact {
    snd:=by
      obtain ⟨g,t,cs,fuel,p,hg,ht,hv,hd⟩:=zHx l ps hl i _ _ h1
      obtain rfl:=Option.some.inj (zQ6.symm.trans hg)
      obtain rfl:=Option.some.inj (zQ2.symm.trans ht)
      unfold Lib.TabIs
      rw [hv,<- Lib.cells_of_tab Tryz.underlying144 Tryz.underlying3 zQG zQ3 hd]
    pow:=by
      obtain ⟨g,t,cs,fuel,p,hg,ht,hv,hd⟩:=zHx l ps hl j _ _ h2
      obtain rfl:=Option.some.inj (zQH.symm.trans hg)
      obtain rfl:=Option.some.inj (zQ7.symm.trans ht)
      unfold Lib.TabIs
      rw [hv,<- Lib.cells_of_tab Tryz.underlying190 Tryz.underlying114 zQC zQF hd]
    eS:=zOh h0 k h3 gESG tESG
    eR:=zOh h0 q h4 gERG tERG
    mx:=Tryz.laysMax.s1_3 W hSh
  }
theorem own:ownKnob Tryz.prog.godebug=none:=by kernel_rfl
theorem zPr:Tryz.pinned.checked.prog.mayEnter=true:=by kernel_rfl
theorem zP6:Tryz.pinned.checked.prog.liftsFinal=false:=by kernel_rfl
theorem zPc:Tryz.pinned.checked.prog.stopsHeard=true:=by kernel_rfl
theorem zMq:laidOutB Tryz.prog=true:=by kernel_rfl
structure Br {α β : Type} (R : Rel α) (E : Enc β) (f : α -> β) (Q : β -> Prop) : Prop where
  get:∀ {w:World} {x:α} {cs:List Value},R w w.heap.size x cs->E.rep av0 w (f x) cs/\Q (f x)
def qU (n:Int):Prop:=0<=n/\n<=255
def qS {α:Type} (Q:α->Prop) (l:List α):Prop:=l.length<=maxLen/\∀ x ∈ l,Q x
def f2 {α β γ δ:Type} (f:α->γ) (g:β->δ) (x:α × β):γ × δ:=(f x.1,g x.2)
theorem zOv : Br zPG (eInt .u8) id qU := Br.mk fun {w x cs} h => ⟨h.1, by
  have:=h.2
  unfold U8 at this
  have a:IntKind.u8.min=0:=by decide
  have b:IntKind.u8.max=255:=by decide
  simp [Lit.wf] at this
  unfold qU id
  omega⟩
theorem zIl {α : Type} {k : Nat} : ∀ {es : List (List α)}, (∀ e ∈ es, e.length = k) -> ∀ (i j : Nat) e u, es[i]? = some e -> e[j]? = some u -> es.flatten[i * k + j]? = some u
  | [],_,i,j,e,u,h,_=>by simp at h
  | e0::es,hk,0,j,e,u,h,hu=>by
    obtain rfl:e0=e:=by simpa using h
    rw [List.flatten_cons,Nat.zero_mul,Nat.zero_add,List.getElem?_append_left (List.getElem?_eq_some_iff.1 hu).1]
    exact hu
  | e0::es,hk,i+1,j,e,u,h,hu=>by
    have h0:e0.length=k:=hk e0 (List.mem_cons_self ..)
    have h':es[i]? = some e:=by simpa using h
    have:=zIl (fun e he=>hk e (List.mem_cons_of_mem _ he)) i j e u h' hu
    have hs:(i+1)*k+j=k+(i*k+j):=by rw [Nat.add_mul,Nat.one_mul];omega
    rw [List.flatten_cons,List.getElem?_append_right (by omega),hs,h0,Nat.add_sub_cancel_left]
    exact this
theorem zQK {α β:Type} {k:Nat} {R:Rel α} {E:Enc β} {f:α->β} {Q:β->Prop} (h:Br R E f Q) (hk:E.size=k):Br (slR k R) (eSl E) (fun l=>l.map f) (qS Q):=by
  refine ⟨?_⟩
  rintro w x cs ⟨A,n,c,es,rfl,h1,h2,h3,h4,h5,h6⟩
  have hes:∀ e ∈ es,e.length=k:=fun e he=>by
    obtain ⟨i,hi,rfl⟩:=List.getElem_of_mem he
    exact (h6 i _ _ (List.getElem?_eq_getElem (h4 ▸ hi)) (List.getElem?_eq_getElem hi)).1
  refine ⟨⟨A,n,c,rfl,by rw [List.length_map,h1],h2,h3,fun hn=>?_⟩,?_,?_⟩
  . obtain ⟨b, off, e, hb, hc⟩ := h5.2 hn
    refine ⟨b,off,e,hb,fun i y hy=>?_⟩
    rw [List.getElem?_map] at hy
    obtain ⟨x',hx',rfl⟩:=Option.map_eq_some_iff.1 hy
    have hi:i<es.length:=by rw [h4];exact (List.getElem?_eq_some_iff.1 hx').1
    obtain ⟨hl,hr⟩:=h6 i _ _ hx' (List.getElem?_eq_getElem hi)
    refine ⟨⟨es[i],(h.get hr).1,fun j u hu=>?_⟩,fun j _=>id⟩
    have:=hc _ u (zIl hes i j _ u (List.getElem?_eq_getElem hi) hu)
    rw [hk]
    rwa [Nat.add_assoc]
  . show (x.map f).length <= maxLen
    rw [List.length_map]
    omega
  . intro y hy
    obtain ⟨x',hx',rfl⟩:=List.mem_map.1 hy
    obtain ⟨i,hi,rfl⟩:=List.getElem_of_mem hx'
    have hi':i<es.length:=by omega
    exact (h.get (h6 i _ _ (List.getElem?_eq_getElem hi) (List.getElem?_eq_getElem hi')).2).2
theorem Br.st {α β:Type} {R:Rel α} {E:Enc β} {f:α->β} {Q:β->Prop} (h:Br R E f Q) (ha:E.agg=true) {w:World} {x:α} {cs:List Value} (hr:R w w.heap.size x cs):Rep E av0 w (.agg cs.toArray) (f x):=
  ⟨cs,by unfold Enc.val;rw [if_pos ha],(h.get hr).1⟩
theorem Br.cell {α β:Type} {R:Rel α} {E:Enc β} {f:α->β} {Q:β->Prop} (h:Br R E f Q) (ha:E.agg=false) {w:World} {x:α} {v:Value} (hr:R w w.heap.size x [v]):Rep E av0 w v (f x):=
  ⟨[v],by unfold Enc.val;rw [ha];rfl,(h.get hr).1⟩
theorem zPy (w:World):AvOK av0 w:=fun _ _ h=>h.elim
theorem zPf {P:Program} {fn:FuncId} {args:Array Value} {w:World} (h:Calls P fn args w fun e w'=>∃ v,e=.returned v/\(v=.bool true/\Fr w w')):Calls P fn args w fun e w'=>e=.returned (.bool true)/\Below w.heap.size w w':=
  h.mono fun e w' ⟨v,he,hv,hf⟩=>⟨by rw [he,hv],hf.toBelow⟩
def SG (P:Program) (n:Nat) (ops:List Oper) (k:Nat) (R:Reg) (w:World) (Q:Exit->Reg->World->Prop):Prop:=
  ∀ a:Act,Pl n a->regs a=R->wpOps P ops.toArray (PQ n Q) (List.range' k (ops.length-k)) a w
section
variable {P:Program} {n:Nat} {ops:List Oper} {k:Nat} {R:Reg} {w:World} {Q:Exit->Reg->World->Prop}
theorem SG.of {id:Nat} (h:SG P n ops 0 R w Q):HT P n (.region id ops.toArray false) R w Q:=fun a hpl hR=>by
  refine wp_region ?_
  have:=h a hpl hR
  rw [Nat.sub_zero] at this
  rw [List.range_eq_range']
  simpa using this
theorem zQc (hk:ops.length=k) (h:Q .normal R w):SG P n ops k R w Q:=fun a hpl hR=>by
  rw [hk,Nat.sub_self]
  simp only [List.range'_zero,wpOps]
  exact ⟨hpl,hR ▸ h⟩
theorem SG.step {o:Oper} (ho:ops[k]? = some o) (hg:o.guard=none) (hd:∀ d,o.dst=some d->d<n) (h:OpR P o R w fun v w'=>SG P n ops (k+1) (updO R o.dst v) w' Q):SG P n ops k R w Q:=fun a hpl hR=>by
  have hk:k<ops.length:=(List.getElem?_eq_some_iff.1 ho).1
  rw [show ops.length-k=(ops.length-(k+1))+1 by omega,List.range'_succ,wpOps_cons]
  rw [<- hR] at h
  refine zHE hg h (fun v w' hs=>?_) k (by simpa using ho)
  refine hs _ ⟨by rw [zEM];exact hpl.1,by rw [zG2];exact hpl.2⟩ ?_
  exact zFw _ _ _ fun d hdd=>Nat.lt_of_lt_of_le (hd d hdd) hpl.2
theorem zQd {o : Oper} (d : Nat) (ho : ops[k]? = some o) (hg : o.guard = none) (hd : o.dst = some d) (hn : Nat.blt d n = true) {K : Value -> World -> Prop} (h : OpR P o R w K)
    (hk:∀ v w',K v w'->∀ R',(∀ t,Nat.beq t d=false->R' t=R t)->R' d=v->SG P n ops (k+1) R' w' Q):SG P n ops k R w Q:=by
  refine SG.step ho hg (fun d' h'=>?_) (h.mono fun v w' hv=>?_)
  . rw [hd] at h'
    injection h' with h'
    subst h'
    simpa using hn
  . rw [hd]
    refine hk v w' hv _ (fun t ht=>?_) (zGh _ _ _)
    show (bif Nat.beq t d then v else R t)=R t
    rw [ht]
    rfl
theorem SG.op0 {o:Oper} (ho:ops[k]? = some o) (hg:o.guard=none) (hd:o.dst=none) {K:Value->World->Prop} (h:OpR P o R w K) (hk:∀ v w',K v w'->SG P n ops (k+1) R w' Q):SG P n ops k R w Q:=by
  refine SG.step ho hg (fun d' h'=>?_) (h.mono fun v w' hv=>?_)
  . rw [hd] at h'
    cases h'
  . rw [hd]
    exact hk v w' hv
def Past (A : Av) (R : Reg) (w : World) : Nat -> List EntR -> Prop
  | 0,_=>True
  | _+1,[]=>True
  | k+1,x::l=>(x.g=true/\x.con = []/\x.res=none/\(match x.o.dst with | some d=>(x.f A).ok (R d) w | none=>True))/\Past A R w k l
theorem Past.at {A : Av} : ∀ (l : List EntR) (k : Nat), Past A R w k l -> ∀ (i : Nat) x, i < k -> l[i]? = some x -> x.g = true /\ x.con = [] /\ x.res = none /\ ∀ d, x.o.dst = some d -> (x.f A).ok (R d) w
  | [],k,_,i,x,_,hx=>by simp at hx
  | y::l,0,_,i,x,hi,_=>by omega
  | y::l,k+1,h,0,x,_,hx=>by
    simp only [List.getElem?_cons_zero,Option.some.injEq] at hx
    subst hx
    obtain ⟨⟨h1,h2,h3,h4⟩,_⟩:=h
    refine ⟨h1,h2,h3,fun d hd=>?_⟩
    rw [hd] at h4
    exact h4
  | y::l,k+1,h,i+1,x,hi,hx=>Past.at l k h.2 i x (by omega) (by simpa using hx)
theorem SG.textR {A : Av} {rest : List Oper} (ini : List Ob) (l : List EntR) (k' : Nat) (hops : ops = l.map (·.o) ++ rest) (hk' : l.length = k') (hkk : Nat.ble k k' = true) (hb : zCV 0 (l.map (·.o)) = true) (hs : zFh n (l.map (·.o)) = true) (hw : Wf ini l) (hi : IniOK ini A w) (hA : AvOK A w)
    (hp:Past A R w k l) (ho:zDy P ini l A R w k (l.drop k)) (ha:zKU ini l A R w (fun R w=>SG P n ops k' R w Q)):SG P n ops k R w Q:=fun a hpl hR=>by
  have hkk:k<=k':=Nat.le_of_ble_eq_true hkk
  have hlen:ops.length=k'+rest.length:=by rw [hops,List.length_append,List.length_map,hk']
  have hopl:∀ (i:Nat) x,l[i]? = some x->ops.toArray[i]? = some x.o:=fun i x hx=>by
    have hlt:=(List.getElem?_eq_some_iff.1 hx).1
    rw [List.getElem?_toArray,hops,List.getElem?_append_left (by rw [List.length_map];exact hlt),List.getElem?_map,hx]
    rfl
  have hmap:∀ (i:Nat) x,l[i]? = some x->(l.map (·.o))[i]? = some x.o:=fun i x hx=>by
    rw [List.getElem?_map,hx]
    rfl
  have hobl:∀ (i:Nat) x,k<=i->l[i]? = some x->OblR P ini l A R w i x:=fun i x hki hx=>by
    have:=zDy.at (l.drop k) k ho (i-k) x (by rw [List.getElem?_drop,show k+(i-k)=i by omega];exact hx)
    rwa [show k+(i-k)=i by omega] at this
  have key : ∀ m j, m + j = l.length -> k <= j -> ∀ (a : Act) (ρ : Nat -> Value) (σ : Nat -> Nat -> Prop) (A' : Av) (w' : World), Pl n a -> InvR ini l A R w (fun i => Nat.blt i j) ρ σ A' (regs a) w' ->
      wpOps P ops.toArray (PQ n Q) (List.range' j (ops.length-j)) a w':=by
    intro m
    induction m with
    | zero=>
      intro j hj hkj a ρ σ A' w' hpl hI
      have:=ha _ ρ σ A' _ _ (fun i hi=>by simpa using (by omega:i<j)) hI a hpl rfl
      rwa [show k'=j by omega] at this
    | succ m ih=>
      intro j hj hkj a ρ σ A' w' hpl hI
      rw [show ops.length-j=(ops.length-(j+1))+1 by omega,List.range'_succ,wpOps_cons]
      have hkl:j<l.length:=by omega
      have hx:l[j]? = some l[j]:=List.getElem?_eq_getElem hkl
      refine zJS (done:=fun i=>Nat.blt i j) hw hopl (fun i x d hx hdd=>zEm hs (hmap i x hx) hdd) hx (hobl j _ hkj hx) (zHI (Nat.le_refl j)) (fun e he hbe=>?_) (fun i y hy hex=>?_) hpl hI (fun a' ρ' σ' A'' w'' hpl' hI'=>ih (j+1) (by omega) (by omega) a' ρ' σ' A'' w'' hpl' ?_)
      . have := zCW _ 0 hb j _ (hmap j _ hx) e he hbe
        show Nat.blt e.on j=true
        simpa using this
      . obtain ⟨e, he, hbe, hon⟩ := hex
        have:=zCW _ 0 hb i _ (hmap i _ hy) e he hbe
        exact zHI (by omega)
      . have:setB (fun i=>Nat.blt i j) j=fun i=>Nat.blt i (j+1):=by
          funext i
          by_cases e:i=j
          . subst e;rw [zDn];simp
          . rw [zEI _ e,Bool.eq_iff_iff];simp;omega
        rw [<- this]
        exact hI'
  refine key (k'-k) k (by omega) (Nat.le_refl k) a (fun id=>((ini[id]?).map (·.u)).getD undef) (fun id=>((ini[id]?).map (·.S)).getD fun _=>False) A w hpl ?_
  have hdn:∀ i,Nat.blt i k=true->i<k:=fun i h=>by simpa using h
  have hlive:∀ id r,zEQ ini l id=some r->Live ini l (fun i=>Nat.blt i k) id->id<ini.length:=fun id r hr h=>by
    rcases h.1 with h1 | h1
    . exact h1
    . rcases Nat.lt_or_ge id ini.length with h2 | h2
      . exact h2
      . exfalso
        unfold zEQ at hr
        rw [List.getElem?_eq_none h2] at hr
        cases hx:l[id-ini.length]? with
        | none=>rw [hx] at hr;cases hr
        | some x=>
          rw [hx] at hr
          have:=(Past.at l k hp _ x (hdn _ h1) hx).2.2.1
          simp only [Option.bind_some,this] at hr
          cases hr
  have kk:∀ id r,zEQ ini l id=some r->Live ini l (fun i=>Nat.blt i k) id->∃ p,ini[id]? = some p/\p.r=r/\((ini[id]?).map (·.u)).getD undef=p.u/\(((ini[id]?).map (·.S)).getD fun _=>False)=p.S:=fun id r hr hl=>by
    obtain ⟨p,hp',hr'⟩:=zFr (l:=l) (hlive id r hr hl)
    rw [hr'] at hr
    injection hr with hr
    exact ⟨p,hp',hr,by rw [hp'];rfl,by rw [hp'];rfl⟩
  rw [<- hR] at hp
  refine ⟨Ch.refl _ _,(Fr.refl w).stp A,hA,hA,fun _ _ h _=>h,fun t _=>by rw [hR],fun i x d hx hd hxd hg=>?_,fun i x d hx hd hxd hg=>?_,fun id r hr hl=>?_,fun id r hr hl q hq o=>?_,fun id id' r r' hr hr' hl hl' hne q hq=>?_,fun id r hr hl q _ hq=>?_,fun id p hp'=>(by rw [hp'];exact ⟨rfl,rfl⟩),fun i x d hx hd hres=>?_,fun i x c hx hd hres=>?_⟩
  . exact (Past.at l k hp i x (hdn i hd) hx).2.2.2 d hxd
  . have := (Past.at l k hp i x (hdn i hd) hx).1
    rw [this] at hg
    cases hg
  . obtain ⟨p, hp', rfl, he, hs'⟩ := kk id r hr hl
    rw [he,hs']
    exact ⟨(hi.ok id p hp').1,hi.own id p hp'⟩
  . obtain ⟨p, hp', rfl, he, hs'⟩ := kk id r hr hl
    rw [hs'] at hq
    exact (hi.ok id p hp').2 q hq o
  . obtain ⟨p, hp', rfl, he, hs'⟩ := kk id r hr hl
    obtain ⟨p2,hp2,rfl,he2,hs2⟩:=kk id' r' hr' hl'
    rw [hs'] at hq
    rw [hs2]
    exact hi.dis id id' p p2 hp' hp2 hne q hq
  . obtain ⟨p, hp', rfl, he, hs'⟩ := kk id r hr hl
    rw [hs'] at hq
    exact ⟨id,p,hp',hq⟩
  . exact absurd (Past.at l k hp i x (hdn i hd) hx).2.2.1 hres
  . exact absurd (Past.at l k hp i x (hdn i hd) hx).2.2.1 hres
end
structure GPost (A0 : Av) (K : Nat -> Prop) (w : World) (obs : List Ob) (A1 : Av) (w' : World) : Prop where
  ini:IniOK obs A1 w'
  avok:AvOK A1 w'
  low:∀ b o,A0 b o->A1 b o
  up:∀ b o,A1 b o->A0 b o\/zFV obs b
  new:∀ k,zFV obs k->w.heap.size<=k\/K k
  ch:Ch K w w'
abbrev subS (A:Av) (S:Nat->Prop):Av:=fun b o=>A b o/\¬ S b
section
variable {ini obs:List Ob} {A A0 A1:Av} {w w':World} {K:Nat->Prop}
theorem IniOK.shrink (h:IniOK ini A w) (h1:∀ b o,A1 b o->A b o) (h2:∀ k,zFV ini k->∀ o,A1 k o):IniOK ini A1 w:=
  ⟨fun i p hp=>⟨(Res.stabS (h.ok i p hp).1 (h.own i p hp) (fun _ _=>rfl) (zDd h1)).1,fun k hk=>h2 k ⟨i,p,hp,hk⟩⟩,fun i p hp=>(Res.stabS (h.ok i p hp).1 (h.own i p hp) (fun _ _=>rfl) (zDd h1)).2,h.dis⟩
theorem GPost.of (hO:IniOK obs A w') (hA:AvOK A w') (hAA:∀ b o,A0 b o->A b o) (hge:∀ k,zFV obs k->w.heap.size<=k\/K k) (hF:Ch K w w'):∃ A1,(∀ b o,A1 b o->A b o)/\GPost A0 K w obs A1 w':=by
  have hsub:∀ b o,(A0 b o\/zFV obs b)->A b o:=fun b o h=>h.elim (hAA b o) fun ⟨i,p,hp,hk⟩=>(hO.ok i p hp).2 b hk o
  exact ⟨fun b o=>A0 b o\/zFV obs b,hsub,hO.shrink hsub fun k hk o=>.inr hk,fun b o h=>hA b o (hsub b o h),fun _ _ h=>.inl h,fun _ _ h=>h,hge,hF⟩
theorem zBA (hA:AvOK A w) (h:GPost (subS A K) K w obs A1 w') (hK:∀ k,K k->∀ o,A k o):Stp A A1 w w':=
  ⟨h.ch.size,fun b o v hv hn=>(World.cell?_of_block (w:=w) (h.ch.block b (zEE hv) fun hk=>hn (hK b hk o))).trans hv,fun b o hb h1=>(h.up b o h1).elim (·.1) fun h2=>(h.new b h2).elim (fun h3=>by omega) fun h3=>hK b h3 o⟩
theorem zQL (hO:IniOK ini A w) (hA:AvOK A w) (i:Nat) {p:Ob} (hp:ini[i]? = some p) (h:GPost (subS A p.S) p.S w obs A1 w'):IniOK (obs++ini.eraseIdx i) A1 w':=by
  have hK:∀ k,p.S k->∀ o,A k o:=(hO.ok i p hp).2
  have hst:=zBA hA h hK
  have hlt:∀ (j:Nat) q,ini[j]? = some q->∀ k,q.S k->k<w.heap.size:=fun j q hq k hk=>Res.ltS (hO.ok j q hq).1 (hO.own j q hq) hk
  have her:∀ (j:Nat) q,(ini.eraseIdx i)[j]? = some q->∃ j',j' ≠ i/\ini[j']? = some q/\(j'=if j<i then j else j+1):=fun j q hq=>by
    rw [List.getElem?_eraseIdx] at hq
    split at hq
    . rename_i hlt;exact ⟨j,by omega,hq,by rw [if_pos hlt]⟩
    . rename_i hlt;exact ⟨j+1,by omega,hq,by rw [if_neg hlt]⟩
  have hrest:∀ (j:Nat) q,(ini.eraseIdx i)[j]? = some q->(q.r.ok A1 q.u w'/\q.r.own A1 q.u q.S w')/\∀ k,q.S k->∀ o,A1 k o:=fun j q hq=>by
    obtain ⟨j',hne,hj',_⟩:=her j q hq
    have hd:∀ k,q.S k->¬ p.S k:=hO.dis j' i q p hj' hp hne
    exact ⟨Res.stabS (hO.ok j' q hj').1 (hO.own j' q hj') (fun k hk=>h.ch.block k (hlt j' q hj' k hk) (hd k hk)) hst,fun k hk o=>h.low k o ⟨(hO.ok j' q hj').2 k hk o,hd k hk⟩⟩
  have hobr:∀ (i' j:Nat) p' q,obs[i']? = some p'->(ini.eraseIdx i)[j]? = some q->∀ k,p'.S k->¬ q.S k:=fun i' j p' q hp' hq k hk hk'=>by
    obtain ⟨j',hne,hj',_⟩:=her j q hq
    rcases h.new k ⟨i',p',hp',hk⟩ with h1 | h1
    . have := hlt j' q hj' k hk'
      omega
    . exact hO.dis j' i q p hj' hp hne k hk' h1
  refine ⟨fun j q hq=>?_,fun j q hq=>?_,fun j j' q q' hq hq' hne k hk=>?_⟩
  . rcases Nat.lt_or_ge j obs.length with hl | hl
    . rw [List.getElem?_append_left hl] at hq
      exact h.ini.ok j q hq
    . rw [List.getElem?_append_right hl] at hq
      exact ⟨(hrest _ q hq).1.1,(hrest _ q hq).2⟩
  . rcases Nat.lt_or_ge j obs.length with hl | hl
    . rw [List.getElem?_append_left hl] at hq
      exact h.ini.own j q hq
    . rw [List.getElem?_append_right hl] at hq
      exact (hrest _ q hq).1.2
  . rcases Nat.lt_or_ge j obs.length with hl | hl <;> rcases Nat.lt_or_ge j' obs.length with hl' | hl'
    . rw [List.getElem?_append_left hl] at hq
      rw [List.getElem?_append_left hl'] at hq'
      exact h.ini.dis j j' q q' hq hq' hne k hk
    . rw [List.getElem?_append_left hl] at hq
      rw [List.getElem?_append_right hl'] at hq'
      exact hobr _ _ _ _ hq hq' k hk
    . rw [List.getElem?_append_right hl] at hq
      rw [List.getElem?_append_left hl'] at hq'
      exact fun hk'=>hobr _ _ _ _ hq' hq k hk' hk
    . rw [List.getElem?_append_right hl] at hq
      rw [List.getElem?_append_right hl'] at hq'
      obtain ⟨a,_,ha,ea⟩:=her _ q hq
      obtain ⟨b,_,hb,eb⟩:=her _ q' hq'
      exact hO.dis a b q q' ha hb (by rw [ea,eb];split <;> split <;> omega) k hk
theorem GPost.next0 (hO:IniOK ini A w) (hA:AvOK A w) (h:GPost A (fun _=>False) w obs A1 w'):IniOK (obs++ini) A1 w'/\Stp A A1 w w':=by
  have e:subS A (fun _=>False)=A:=by
    funext b o
    simp [subS]
  have h':GPost (subS A fun _=>False) (fun _=>False) w obs A1 w':=by rw [e];exact h
  have hst:=zBA hA h' fun _ h=>h.elim
  have hlt:∀ (j:Nat) q,ini[j]? = some q->∀ k,q.S k->k<w.heap.size:=fun j q hq k hk=>Res.ltS (hO.ok j q hq).1 (hO.own j q hq) hk
  have hrest:∀ (j:Nat) q,ini[j]? = some q->(q.r.ok A1 q.u w'/\q.r.own A1 q.u q.S w')/\∀ k,q.S k->∀ o,A1 k o:=fun j q hj=>
    ⟨Res.stabS (hO.ok j q hj).1 (hO.own j q hj) (fun k hk=>h.ch.block k (hlt j q hj k hk) fun h=>h) hst,fun k hk o=>h.low k o ((hO.ok j q hj).2 k hk o)⟩
  have hobr:∀ (i' j:Nat) p' q,obs[i']? = some p'->ini[j]? = some q->∀ k,p'.S k->¬ q.S k:=fun i' j p' q hp' hq k hk hk'=>by
    rcases h.new k ⟨i',p',hp',hk⟩ with h1 | h1
    . have := hlt j q hq k hk'
      omega
    . exact h1
  refine ⟨⟨fun j q hq=>?_,fun j q hq=>?_,fun j j' q q' hq hq' hne k hk=>?_⟩,hst⟩
  . rcases Nat.lt_or_ge j obs.length with hl | hl
    . rw [List.getElem?_append_left hl] at hq
      exact h.ini.ok j q hq
    . rw [List.getElem?_append_right hl] at hq
      exact ⟨(hrest _ q hq).1.1,(hrest _ q hq).2⟩
  . rcases Nat.lt_or_ge j obs.length with hl | hl
    . rw [List.getElem?_append_left hl] at hq
      exact h.ini.own j q hq
    . rw [List.getElem?_append_right hl] at hq
      exact (hrest _ q hq).1.2
  . rcases Nat.lt_or_ge j obs.length with hl | hl <;> rcases Nat.lt_or_ge j' obs.length with hl' | hl'
    . rw [List.getElem?_append_left hl] at hq
      rw [List.getElem?_append_left hl'] at hq'
      exact h.ini.dis j j' q q' hq hq' hne k hk
    . rw [List.getElem?_append_left hl] at hq
      rw [List.getElem?_append_right hl'] at hq'
      exact hobr _ _ _ _ hq hq' k hk
    . rw [List.getElem?_append_right hl] at hq
      rw [List.getElem?_append_left hl'] at hq'
      exact fun hk'=>hobr _ _ _ _ hq' hq k hk' hk
    . rw [List.getElem?_append_right hl] at hq
      rw [List.getElem?_append_right hl'] at hq'
      exact hO.dis _ _ q q' hq hq' (by omega) k hk
theorem IniOK.put (h:IniOK ini A w) (i:Nat) {p:Ob} (hi:ini[i]? = some p) (p':Ob) (hok:p'.r.ok A p'.u w) (hown:p'.r.own A p'.u p'.S w) (hS:∀ k,p'.S k->p.S k):IniOK (ini.set i p') A w:=by
  have hl:=(List.getElem?_eq_some_iff.1 hi).1
  have hat:∀ (j:Nat) q,(ini.set i p')[j]? = some q->∃ q0,ini[j]? = some q0/\(∀ k,q.S k->q0.S k)/\(j=i/\q=p'\/j ≠ i/\q0=q):=fun j q hq=>by
    by_cases e:j=i
    . subst e
      rw [List.getElem?_set_self hl] at hq
      injection hq with hq
      subst hq
      exact ⟨_,hi,hS,.inl ⟨rfl,rfl⟩⟩
    . rw [List.getElem?_set_ne (Ne.symm e)] at hq
      exact ⟨q,hq,fun _ h=>h,.inr ⟨e,rfl⟩⟩
  refine ⟨fun j q hq=>?_,fun j q hq=>?_,fun j j' q q' hq hq' hne k hk hk'=>?_⟩
  . obtain ⟨q0, h0, hS', hc⟩ := hat j q hq
    rcases hc with ⟨rfl,rfl⟩ | ⟨_,rfl⟩
    . exact ⟨hok,fun k hk=>(h.ok _ _ h0).2 k (hS' k hk)⟩
    . exact h.ok j _ h0
  . obtain ⟨q0, h0, hS', hc⟩ := hat j q hq
    rcases hc with ⟨rfl,rfl⟩ | ⟨_,rfl⟩
    . exact hown
    . exact h.own j _ h0
  . obtain ⟨q0, h0, hS', _⟩ := hat j q hq
    obtain ⟨q0',h0',hS'',_⟩:=hat j' q' hq'
    exact h.dis j j' q0 q0' h0 h0' hne k (hS' k hk) (hS'' k hk')
theorem IniOK.reK (h:IniOK ini A w) (i:Nat) {u:Value} {S:Nat->Prop} {K K':Nat->Prop} {p:SP} (hi:ini[i]? = some ⟨u,S,.gen K p⟩) (hK:∀ k,K k->K' k):IniOK (ini.set i ⟨u,S,.gen K' p⟩) A w:=
  h.put i hi ⟨u,S,.gen K' p⟩ trivial ⟨fun k hk=>hK k ((h.own i _ hi).1 k hk),(h.own i _ hi).2⟩ fun _ h=>h
theorem IniOK.reV (h:IniOK ini A w) (i:Nat) {u:Value} {S:Nat->Prop} {α:Type} {B B':Nat} {T:TypeId} {E:Enc α} {xs:List α} (hi:ini[i]? = some ⟨u,S,.vec B T E xs⟩) (hB:B'<=B):IniOK (ini.set i ⟨u,S,.vec B' T E xs⟩) A w:=
  h.put i hi ⟨u,S,.vec B' T E xs⟩ (Res.mono (r:=.nul) (h.ok i _ hi).1 hB) (by have:=h.own i _ hi;exact this) fun _ h=>h
theorem IniOK.reX (h:IniOK ini A w) (i:Nat) {u:Value} {S:Nat->Prop} {α:Type} {B B':Nat} {T:TypeId} {E:Enc α} {x:α} (hi:ini[i]? = some ⟨u,S,.box B T E x⟩) (hB:B'<=B):IniOK (ini.set i ⟨u,S,.box B' T E x⟩) A w:=
  h.put i hi ⟨u,S,.box B' T E x⟩ (let ⟨b,h1,h2,h3⟩:=(h.ok i _ hi).1;⟨b,h1,Nat.le_trans hB h2,h3⟩) (by have:=h.own i _ hi;exact this) fun _ h=>h
theorem IniOK.unbox {P : Program} {R : Reg} (h : IniOK ini A w) (i : Nat) {u : Value} {S : Nat -> Prop} {K : Nat -> Prop} {α : Type} {F : OE α} {x : α} {pins : List Pin} {T T' : TypeId} {r : Nat} (hi : ini[i]? = some ⟨u, S, trR K (oPt T' F) x pins⟩) (hR : R r = u) (hag : ∀ w, (isAgg T).run P w=.ok F.E.agg w) (hsz : ∀ w, (sizeOf T).run P w=.ok F.E.size w) :
    ∃ v S1,zLc P R w (.cell r T) v/\IniOK (ini.set i ⟨v,S1,trR K F x []⟩) A w:=by
  obtain ⟨hK,⟨cs,e,b,ds,S1,rfl,h1,h2,h3,h4⟩,_⟩:=h.own i _ hi
  have hu:u=.pointer (some ⟨b,0,none⟩):=e
  have hsub:∀ k,S1 k->S k:=fun k hk=>(h4 k).2 (.inr hk)
  refine ⟨F.E.val ds,S1,⟨⟨b,0,none⟩,by rw [hR,hu],?_⟩,h.put i hi ⟨F.E.val ds,S1,trR K F x []⟩ trivial ⟨fun k hk=>hK k (hsub k hk),⟨ds,rfl,h2⟩,fun q hq=>by cases hq⟩ hsub⟩
  have:=zFG (P:=P) (w:=w) (b:=b) (o:=0) hag hsz (F.len h2) F.E.one (fun j v hj=>by rw [h1.cell,Nat.zero_add];simpa using hj)
  simpa [Enc.val] using this
theorem zLp {B:Nat} (hAA:∀ b o,A0 b o->A b o) (hA0:∀ b o,A0 b o->b<B) (hge:∀ k,zFV ini k->B<=k) (i:Nat) {p:Ob} (hi:ini[i]? = some p) (h:GPost (subS A p.S) p.S w obs A1 w'):∀ b o,A0 b o->A1 b o:=
  fun b o hb=>h.low b o ⟨hAA b o hb,fun hk=>by have:=hA0 b o hb;have:=hge b ⟨i,p,hi,hk⟩;omega⟩
theorem zB5 {B:Nat} (hAA:∀ b o,A0 b o->A b o) (hA0:∀ b o,A0 b o->b<B) (hN:∀ b o,A0 b o->¬ K b) (hge:∀ k,zFV ini k->B<=k\/K k) (i:Nat) {p:Ob} (hi:ini[i]? = some p) (h:GPost (subS A p.S) p.S w obs A1 w'):∀ b o,A0 b o->A1 b o:=
  fun b o hb=>h.low b o ⟨hAA b o hb,fun hk=>(hge b ⟨i,p,hi,hk⟩).elim (fun h=>by have:=hA0 b o hb;omega) fun h=>hN b o hb h⟩
theorem Ch.no {w w':World} (h:Ch (fun _=>False) w w'):Fr w w':=⟨⟨h.os,h.tape,h.output,h.size,fun k hk=>h.block k hk fun h=>h⟩,h.drawn⟩
def zOM (p:Ob):Prop:=∀ A A' w,p.r.ok A p.u w->p.r.own A p.u p.S w->p.r.ok A' p.u w/\p.r.own A' p.u p.S w
def zKD : List Ob -> Prop
  | []=>True
  | p::l=>zOM p/\zKD l
theorem zKD.at : ∀ (l : List Ob), zKD l -> ∀ (i : Nat) p, l[i]? = some p -> zOM p
  | [],_,i,p,h=>by simp at h
  | q::l,h,0,p,hp=>by simp at hp;subst hp;exact h.1
  | q::l,h,i+1,p,hp=>zKD.at l h.2 i p (by simpa using hp)
theorem zOb {P : Program} {R : Reg} {d : Option Nat} {t : TypeId} {p : String} {af : Array Edge} {g : Option (Nat × Bool)} {fn : FuncId} {al : List Operand} {aT : Array TypeId} {α : Type} {B b : Nat} {T : TypeId} {E : Enc α} {x x' : α} {f : Av -> Fact}
    (hc:∀ args w,(callFunc fn args).run P w=.ok (.enter fn args) w) (hok:(Res.box B T E x).ok A (.pointer (some ⟨b,0,none⟩)) w) (hav:∀ k,zAB (.pointer (some ⟨b,0,none⟩)) k->∀ o,A k o) (hA:AvOK A w)
    (h:IniOK [ob (.pointer (some ⟨b,0,none⟩)) (.box B T E x)] A w->Calls P fn (al.map (zAH R)).toArray w fun e w'=>∃ v,e=.returned v/\∃ A1,GPost (subS A (zAB (.pointer (some ⟨b,0,none⟩)))) (zAB (.pointer (some ⟨b,0,none⟩))) w [ob (.pointer (some ⟨b,0,none⟩)) (.box B T E x')] A1 w'/\(f A1).ok v w') :
    OpR P ⟨d,.call ⟨.value (.func fn),al.toArray,aT⟩,t,p,af,g⟩ R w (Took A false (.pointer (some ⟨b,0,none⟩)) (.box B T E x') f w):=by
  have hI:IniOK [ob (.pointer (some ⟨b,0,none⟩)) (.box B T E x)] A w:=by
    refine ⟨fun i q hq=>?_,fun i q hq=>?_,fun i j q q' hq hq' hne=>?_⟩
    . cases i with
      | zero=>simp only [List.getElem?_cons_zero,Option.some.injEq] at hq;subst hq;exact ⟨hok,hav⟩
      | succ i=>simp at hq
    . cases i with
      | zero=>simp only [List.getElem?_cons_zero,Option.some.injEq] at hq;subst hq;rfl
      | succ i=>simp at hq
    . cases i with
      | zero=>
        cases j with
        | zero=>exact (hne rfl).elim
        | succ j=>simp at hq'
      | succ i=>simp at hq
  refine (zBG hc (h hI)).mono fun v w' ⟨A1,hG,hv⟩=>?_
  have e:A1=zKW A (.pointer (some ⟨b,0,none⟩)) (.pointer (some ⟨b,0,none⟩)):=by
    funext k o
    rw [eq_iff_iff]
    constructor
    . intro h1
      rcases hG.up k o h1 with h2 | ⟨i,q,hq,h2⟩
      . exact .inl h2
      . cases i with
        | zero=>simp only [List.getElem?_cons_zero,Option.some.injEq] at hq;subst hq;exact .inr h2
        | succ i=>simp at hq
    . rintro (h1 | h1)
      . exact hG.low k o h1
      . exact (hG.ini.ok 0 _ rfl).2 k h1 o
  have hst:=zBA hA hG hav
  subst e
  exact ⟨_,rfl,hG.ch,fun k _ h=>h,hst,(hG.ini.ok 0 _ rfl).1,hv⟩
theorem zDK {P:Program} {R:Reg} {d:Option Nat} {t:TypeId} {p:String} {af:Array Edge} {g:Option (Nat × Bool)} {x:Operand} {a:Addr} (hx:zAH R x=.pointer (some a)):OpF P ⟨d,.nilCheck x,t,p,af,g⟩ R w (.raw (.pointer (some a))):=
  zAQ (v:=.pointer (some a)) (w':=w) (by simp [execOp,hx]) ⟨rfl,Fr.refl _⟩
theorem zJY {α β:Type} {F:OE α} {G:OE β} {S2:Nat->Prop} {y:α} {z:β} {c ds:List Value} (h:F.own A w (fun _=>False) y c) (k:G.own A w S2 z ds):(oPr F G).own A w S2 (y,z) (c++ds):=⟨c,ds,_,S2,rfl,h,k,fun _=>⟨.inr,fun h=>h.elim (fun h=>h.elim) id⟩,fun _ h=>h.elim⟩
theorem zIY {α:Type} {F:OE α} {T:TypeId} {S:Nat->Prop} {xs:List α} {cs:List Value} (h:(oSl T F).own A w S xs cs):∃ a n c,cs = [.slice a n c]:=by
  rcases h with ⟨rfl,_,_⟩ | ⟨g,c,arr,Si,rfl,_⟩
  . exact ⟨_,_,_,rfl⟩
  . exact ⟨_,_,_,rfl⟩
end
def pdP {β : Type} (F : OE β) (a : Value) (Q : β -> Pw) (y : β) : SP where
  P := fun A w S u => ∃ (b off : Nat) (S1 S2 : Nat -> Prop) (cs : List Value), a=.pointer (some ⟨b, off, none⟩) /\ u = F.E.val cs /\ F.own A w S1 y cs /\ (∀ k, S k ↔ S2 k \/ S1 k) /\ (∀ k, S1 k -> ¬ S2 k) /\ S2 b /\ (∃ arr T, Blk w b T arr /\ off + F.E.size <= arr.size) /\ (∀ k, S2 k -> k < w.heap.size) /\
    ∀ (A':Av) (w':World) (S1':Nat->Prop) (y':β) (ds:List Value),F.own A' w' S1' y' ds->(∀ (j:Nat) u,ds[j]? = some u->w'.cell? ⟨b,off+j,none⟩=some u)->Up b off F.E.size w w'->(∀ k,S2 k->k ≠ b->w'.heap[k]? = w.heap[k]?)->Stp A A' w w'->(∀ k,S1' k->¬ S2 k)->Q y' A' w' (fun k=>S2 k\/S1' k)
  lt:=by
    rintro A w S u k ⟨b,off,S1,S2,cs,rfl,rfl,h1,h2,h3,h4,h5,h6,h7⟩ hk
    rcases (h2 k).1 hk with h | h
    . exact h6 k h
    . exact F.lt h1 h
  stab:=by
    rintro A A1 w w1 S u ⟨b,off,S1,S2,cs,rfl,rfl,h1,h2,h3,h4,⟨arr,T,h5,h5'⟩,h6,h7⟩ hb hs
    have hbb:=hb b ((h2 b).2 (.inl h4))
    refine ⟨b,off,S1,S2,cs,rfl,rfl,F.stab h1 (fun k hk=>hb k ((h2 k).2 (.inr hk))) hs,h2,h3,h4,⟨arr,T,hbb.trans h5,h5'⟩,fun k hk=>Nat.lt_of_lt_of_le (h6 k hk) hs.size,fun A' w' S1' y' ds k1 k2 k3 k4 k5 k6=>?_⟩
    obtain ⟨arr0,arr1,T0,j1,j2,j3,j4⟩:=k3
    exact h7 A' w' S1' y' ds k1 k2 ⟨arr0,arr1,T0,hbb.symm.trans j1,j2,j3,j4⟩ (fun k hk hne=>(k4 k hk hne).trans (hb k ((h2 k).2 (.inl hk)))) (hs.trans k5) k6
def fixP (v : Value) (p : SP) : SP where
  P:=fun A w S _=>p.P A w S v
  lt:=fun h hk=>p.lt h hk
  stab:=fun h hb hs=>p.stab h hb hs
section
variable {A A0:Av} {w:World} {ini:List Ob}
theorem IniOK.refix (h:IniOK ini A w) (i:Nat) {u v:Value} {S K:Nat->Prop} {p:SP} (hi:ini[i]? = some ⟨u,S,.gen K (fixP v p)⟩):IniOK (ini.set i ⟨v,S,.gen K p⟩) A w:=
  h.put i hi ⟨v,S,.gen K p⟩ trivial ⟨(h.own i _ hi).1,(h.own i _ hi).2⟩ fun _ h=>h
end
section
variable {P:Program} {R:Reg} {w:World} {d:Option Nat} {t:TypeId} {p:String} {af:Array Edge} {g:Option (Nat × Bool)} {A A0:Av} {α β:Type} {S S0:Nat->Prop}
variable {E:Enc α} {F:OE α} {x ix:Operand} {T e:TypeId} {K:Nat->Prop} {u a v:Value}
theorem zKE {y : Operand} {ty : TypeId} {xs ys : List α} {Q : List α -> Pw} {u0 : Value} {S' : Nat -> Prop} {dd : Nat} (h : zFW (oSl e (oRd E)) A w S a xs Q) (hp : zKT w S' (a, [v])) (hx : zAH R x = v) (hav : ∀ k, S k -> ∀ o, A k o) (hB : ∀ k, S k -> K k) (hBw : ∀ k, w.heap.size <= k -> K k) (hlt : ∀ k, S k -> k < w.heap.size)
    (hy:Rep (eSl E) A w (zAH R y) ys) (ht:P.underlying T=some (.slice e)) (he:ElF P e E.size) (hl:zBJ (xs.length+ys.length)=true) (hT:e ≠ zKa:=by decide) :
    OpR P ⟨some dd,.call ⟨.builtin .append,#[x,y],#[T,T]⟩,ty,p,af,g⟩ R w (zGW A true u0 S (.gen K (pdP (oSl e (oRd E)) a Q (xs++ys))) (fun _=>.any) w):=by
  obtain ⟨b,off,S1,cs,rfl,h⟩:=h
  obtain ⟨b',o',e0,_,hc⟩:=hp
  injection e0 with e0
  injection e0 with e0
  injection e0 with e1 e2
  subst e1 e2
  have hl1:cs.length=1:=(oSl e (oRd E)).len h.own
  obtain rfl:cs = [v]:=by
    match cs,hl1 with
    | [c],_=>
      have h1:=h.at' 0 c rfl
      have h2:=hc 0 v rfl
      rw [h1] at h2
      injection h2 with h2
      rw [h2]
  obtain ⟨hv,rfl⟩:=zMN (B:=0) (v:=v) h.own rfl (fun _ _=>Nat.zero_le _)
  have hS1:∀ k,zAB v k->S k:=h.sub
  have hbo:¬ zAB v b:=h.out
  refine (zAW (P:=P) (p:=p) (af:=af) (g:=g) (ty:=ty) (dd:=dd) (B:=0) hx hv (fun k hk=>hav k (hS1 k hk)) (Nat.zero_le _) hy ht he hl).mono ?_
  rintro v' w2 ⟨u2,rfl,hch,hsame,hst0,hok,_⟩
  have hch':Ch S w w2:=⟨hch.os,hch.tape,hch.output,hch.size,fun k hk hn=>hch.block k hk fun hk'=>hn (hS1 k hk'),hch.drawn⟩
  have hold:∀ k,S k->¬ zAB v k->w2.heap[k]? = w.heap[k]?:=fun k hk hn=>hch.block k (hlt k hk) hn
  have hsub:∀ k,k<w.heap.size->((S k/\¬ zAB v k)\/zAB u2 k)->S k:=fun k hk hs=>hs.elim (·.1) fun hs=>hS1 k (hsame k hk hs)
  have hst:=zEz (A:=A) hav hch' hsub
  refine ⟨u2,fun k=>(S k/\¬ zAB v k)\/zAB u2 k,rfl,hch',hsub,hst,trivial,⟨fun k hk=>?_,?_⟩,trivial⟩
  . rcases hk with hk | hk
    . exact hB k hk.1
    . rcases Nat.lt_or_ge k w.heap.size with hl2 | hg
      . exact hB k (hS1 k (hsame k hl2 hk))
      . exact hBw k hg
  . obtain ⟨cs2, he2, ho2⟩ := zJQ hok hT
    obtain ⟨arr,T0,hblk,hsz⟩:=h.blk
    have hdis:∀ k,zAB u2 k->¬ (S k/\¬ zAB v k):=fun k hk hn=>hn.2 (hsame k (hlt k hn.1) hk)
    have hb2:=hold b h.inb hbo
    refine ⟨b,off,zAB u2,fun k=>S k/\¬ zAB v k,cs2,rfl,he2,OE.stab _ ho2 (fun _ _=>rfl) (zDd fun k o hk=>?_),fun k=>Iff.rfl,hdis,⟨h.inb,hbo⟩,⟨arr,T0,hb2.trans hblk,hsz⟩,fun k hk=>Nat.lt_of_lt_of_le (hlt k hk.1) hch.size,fun A' w' S1' y' ds k1 k2 k3 k4 k5 k6=>?_⟩
    . rcases hk with ⟨h1, h2⟩ | ⟨h1, h2⟩ | h1
      . exact .inl ⟨h1,fun hk=>h2 (hS1 k hk)⟩
      . exact .inl ⟨hav k h1 o,h2⟩
      . exact .inr h1
    . obtain ⟨arr0, arr1, T1, j1, j2, j3, j4⟩ := k3
      exact h.put A' w' S1' y' ds k1 k2 ⟨arr0,arr1,T1,hb2.symm.trans j1,j2,j3,j4⟩ (fun k a1 a2 a3=>(k4 k ⟨a1,a2⟩ a3).trans (hold k a1 a2)) (hst.trans k5) (fun k a1 a2=>Classical.byContradiction fun hn=>k6 k a1 ⟨a2,hn⟩)
theorem zMn {ad : Operand} {T' : TypeId} {y : α} {Q : α -> Pw} {q : SP} (h : (pdP F a Q y).P A w S u) (hx : zAH R x = u) (had : zAH R ad = a) (hav : ∀ k, S k -> ∀ o, A k o) (hB : ∀ k, S k -> K k) (hsz : ∀ w, (sizeOf T').run P w=.ok F.E.size w) (hQ : ∀ A w S, Q y A w S -> q.P A w S u) :
    OpR P ⟨none,.store T' ad x,t,p,af,g⟩ R w (zGW A false u S (.gen K q) (fun _=>.any) w):=by
  obtain ⟨b,off,S1,S2,cs,rfl,rfl,hv,hS,hd,hb2,⟨arr,T0,hb,hle⟩,hl2,hput⟩:=h
  have hcs:=F.len hv
  have hcl:=F.cells hv
  have hvb:¬ S1 b:=fun h=>hd b h hb2
  obtain ⟨w',h1,h2,h3⟩:=zGb (P:=P) (o:=off) (v:=zAH R x) hsz (by rw [hx,hcl];exact F.oc hv) (by rw [hx,<- Array.length_toList,hcl];exact hcs) hb hle
  rw [hx,hcl] at h3
  refine zHX (w':=w') ?_ ?_
  . simp only [execOp, Instr.storeAt, Instr.sureAddr, had]
    simp [h1]
  . have hch0 := h2.ch
    have hch:Ch S w w':=⟨hch0.os,hch0.tape,hch0.output,hch0.size,fun k hk hn=>hch0.block k hk fun e=>hn ((hS k).2 (.inl (e ▸ hb2))),hch0.drawn⟩
    have hst:=zEz (S'':=S) hav hch fun _ _ h=>h
    have hne:∀ k,S1 k->k ≠ b:=fun k hk e=>hvb (e ▸ hk)
    have hv':F.own (zJ6 A S S) w' S1 y cs:=F.stab hv (fun k hk=>h2.block k (hne k hk)) hst
    have hq:=hput _ w' S1 y cs hv' (fun j u hj=>?_) ⟨arr,_,T0,hb,h3,zFA _ _ _,fun j hj=>?_⟩ (fun k _ hk=>h2.block k hk) hst hd
    . have e : (fun k => S2 k \/ S1 k) = S := by funext k; rw [eq_iff_iff]; exact (hS k).symm
      rw [e] at hq
      exact ⟨_,S,rfl,hch,fun _ _ h=>h,hst,trivial,⟨hB,hQ _ _ _ hq⟩,trivial⟩
    . have hjl := (List.getElem?_eq_some_iff.1 hj).1
      rw [h3.cell,zH2 _ _ _ _ (by omega),if_pos (by omega),Nat.add_sub_cancel_left]
      exact hj
    . rw [zH2 _ _ _ _ (by omega),if_neg (by omega)]
theorem zET {y : α} {pins : List Pin} {T' : TypeId} {lk : Bool} (h : (trP (oPt T' F) y pins).P A w S u) (hx : zAH R x = u) (hav : ∀ k, S k -> ∀ o, A k o) (hag : ∀ w, (isAgg T).run P w=.ok F.E.agg w) (hsz : ∀ w, (sizeOf T).run P w=.ok F.E.size w) :
    OpR P ⟨d,.load T x,t,p,af,g⟩ R w (zGW A lk u S .nul (fun A=>.rep F.E A y) w):=by
  obtain ⟨⟨cs,e,b,ds,S1,rfl,h1,h2,h3,h4⟩,_⟩:=h
  have hu:u=.pointer (some ⟨b,0,none⟩):=e
  have hst:=zEz (S'':=fun _=>False) hav (Ch.refl S w) fun _ _ h=>h.elim
  refine zAQ (v:=F.E.val ds) (w':=w) ?_ ⟨match lk with | true=>_ | false=>_,fun _=>False,by cases lk <;> rfl,Ch.refl _ _,fun _ _ h=>h.elim,hst,trivial,rfl,ds,rfl,F.rep h2 (fun k o hk=>hk.elim (·.1) False.elim) fun k o hk ha=>ha.elim (fun ha=>ha.2 ((h4 k).2 (.inr hk))) False.elim⟩
  have:=zFG (P:=P) (w:=w) (b:=b) (o:=0) hag hsz (F.len h2) F.E.one (fun j v hj=>by rw [h1.cell,Nat.zero_add];simpa using hj)
  simp [execOp,Instr.loadAt,Instr.sureAddr,hx,hu,this,Enc.val]
theorem zKd {o:Oper} {q:SP} {u0:Value} (h:(execOp (zAH R) o).run P w=.ok (.value v) w) (hq:q.P A w S v) (hav:∀ k,S k->∀ o,A k o) (hB:∀ k,S k->K k):OpR P o R w (zGW A true u0 S (.gen K q) (fun _=>.any) w):=by
  have hst:=zEz (S'':=S) hav (Ch.refl S w) fun _ _ h=>h
  refine zAQ h ⟨v,S,rfl,Ch.refl _ _,fun _ _ h=>h,hst,trivial,⟨hB,q.stab hq (fun _ _=>rfl) hst⟩,trivial⟩
theorem zMv {o:Oper} {q:SP} (h:(execOp (zAH R) o).run P w=.ok (.value v) w) (hq:q.P A w (fun _=>False) v) (hB:∀ k,w.heap.size<=k->K k):OpR P o R w (zGo A (.gen K q) (fun _=>.any) w):=by
  refine zAQ h ⟨fun _=>False,Fr.refl _,fun _ h=>h.elim,trivial,⟨fun _ h=>h.elim,q.stab hq (fun _ h=>h.elim) (zDd fun b o h=>h.elim id False.elim)⟩,trivial⟩
end
end Go.Proofs.YtldppodfhabkjaaGreatDoor

namespace Go.Proofs.YtldppodfhabkjaaGreatDoor
open Go.RowKit Go.Sort
set_option linter.unusedVariables false
def zN7 (fu:Nat) (n:Int):Option (List UInt8):=ck (i64B n) (some (Lib.itoa n))
theorem zF1 : ∀ (k u : Nat), u < 10 ^ (k + 1) -> (Lib.decDigits u).length <= k + 1
  | 0,u,h=>by
    rw [Lib.decDigits,dif_pos (by omega)]
    exact Nat.le_refl _
  | k+1,u,h=>by
    rw [Lib.decDigits]
    split
    . simp
    . rw [List.length_append]
      have:=zF1 k (u / 10) (by rw [Nat.pow_succ] at h;omega)
      simp
      omega
theorem zLk {n:Int} (h0:-9223372036854775808<=n) (h1:n<=9223372036854775807):(Lib.itoa n).length<=21:=by
  unfold Lib.itoa
  split
  . rw [List.length_cons]
    have:=zF1 19 n.natAbs (by omega)
    omega
  . have := zF1 19 n.toNat (by omega)
    omega
theorem zO2 {w:World} (k:Nat) (os:Array Obj):Fr w (grow (w.drewN k) os):=by
  refine ⟨⟨rfl,rfl,rfl,?_,fun i hi=>?_⟩,fun _=>?_⟩
  . simp [grow,World.drewN]
  . simp only [grow, World.drewN]
    rw [Array.getElem?_append_left hi]
  . simp [grow,World.drewN]
theorem zMY {fu : Nat} {A0 : Av} {p0 : Int} {r : List UInt8} (hr : zN7 fu p0 = some r) {w : World} {v0 : Value} (hA : AvOK A0 w) (hG : GTab w) (h0 : v0=.int .i64 p0) :
    Calls Tryz.prog 105 #[v0] w fun e w'=>∃ v,e=.returned v/\(Rep eStr A0 w' v r/\Fr w w'):=by
  obtain ⟨hb,hr⟩:=zA7 hr
  obtain rfl:=Option.some.inj hr
  subst h0
  unfold i64B at hb
  rw [Bool.and_eq_true,decide_eq_true_eq,decide_eq_true_eq] at hb
  refine (Any.strconv_Itoa Tryz.laysItoa p0 hb.1 hb.2 w hG.pow).mono ?_
  rintro e w' ⟨he,k,os,rfl⟩
  refine ⟨_,he,⟨_,rfl,_,rfl,rfl,?_⟩,zO2 k os⟩
  have:=zLk hb.1 hb.2
  show (Lib.itoa p0).toArray.size<=maxLen
  simp only [List.size_toArray]
  exact Nat.le_trans this (by decide)
theorem zNa {w w':World} (hn:¬ DK) (h:Below w.heap.size w w'):Fr w w':=⟨h,fun h=>(hn h).elim⟩
theorem noDK:¬ DK:=fun h=>h
end Go.Proofs.YtldppodfhabkjaaGreatDoor
namespace Go.Proofs.YtldppodfhabkjaaGreatDoor
open Go.RowKit
set_option linter.unusedVariables false
def eErr : Enc Bool where
  size:=1
  agg:=false
  rep:=fun _ _ x cs=>(x=false/\cs = [.nilIface])\/(x=true/\∃ t p,cs = [.iface t p])
  len:=by rintro A w x cs (⟨_,rfl⟩ | ⟨_,t,p,rfl⟩) <;> rfl
  one:=fun _=>rfl
  oc:=by rintro A w x cs (⟨_,rfl⟩ | ⟨_,t,p,rfl⟩) c hc <;> simp at hc <;> subst hc <;> rfl
  stp:=fun _ h=>h
section
variable {P:Program} {R:Reg} {w:World} {d:Option Nat} {t:TypeId} {p:String} {af:Array Edge} {g:Option (Nat × Bool)}
theorem zMD {T T':TypeId} {x:Operand} {a:Bool} {A:Av} (h:Rep eErr A w (zAH R x) a) (hu:P.underlying T=some (.interface (P.methodsAt T))):OpF P ⟨d,.binOp .neq T x (.const .nilIface) T',t,p,af,g⟩ R w (.raw (.bool a)):=by
  refine zAQ (v:=.bool a) (w':=w) ?_ ⟨rfl,Fr.refl _⟩
  have hy:zAH R (.const .nilIface)=.nilIface:=rfl
  obtain ⟨cs,hx,(⟨rfl,rfl⟩ | ⟨rfl,t0,p0,rfl⟩)⟩:=h
  . have hx' : zAH R x=.nilIface := hx
    simp [execOp,hx',hy,eqGuard,run_neq_nil_nil w T hu]
  . have hx' : zAH R x=.iface t0 p0 := hx
    simp [execOp,hx',hy,eqGuard,run_neq_held_nil w T t0 p0 hu]
end
def zKH (s:List UInt8):Int × Bool:=match Lib.atoiAll s with | .ok v=>(v,false) | .range=>(Lib.atoiSat s,true) | _=>(0,true)
def zN1 (fu:Nat) (s:List UInt8):Option (Int × Bool):=ck (zBJ s.length) (some (zKH s))
theorem zEJ {w w':World} (h:Below w.heap.size w w'):Fr w w':=zNa noDK h
theorem zMl {fu : Nat} {A0 : Av} {p0 : List UInt8} {r : Int × Bool} (hr : zN1 fu p0 = some r) {w : World} {v0 : Value} (hA : AvOK A0 w) (hG : GTab w) (h0 : Rep eStr A0 w v0 p0) :
    Calls Tryz.prog 132 #[v0] w fun e w'=>∃ v,e=.returned v/\((∃ a b,v=.tuple #[a,b]/\a=.int .i64 r.1/\Rep eErr A0 w' b r.2)/\Fr w w'):=by
  obtain ⟨hb,hr⟩:=zA7 hr
  obtain rfl:=Option.some.inj hr
  have hb:=zFX hb
  obtain ⟨_,rfl,s,rfl,rfl,hs⟩:=h0
  have hsz:s.size=s.data.toList.length:=Lib.size_eq s
  show Calls Tryz.prog _ #[.string s] w _
  unfold zKH
  cases hc:Lib.atoiAll s.data.toList with
  | ok v=>
    refine (Any.strconv_Atoi_ok Tryz.laysAtoi s (by omega) v hc w).mono ?_
    rintro e w' ⟨he,hw⟩
    refine ⟨_,he,⟨_,_,rfl,rfl,_,rfl,.inl ⟨rfl,rfl⟩⟩,zEJ ?_⟩
    rcases hw with rfl | ⟨t,rfl⟩
    . exact Below.refl _ _
    . exact Lib.bytesWorld_below _ _ _
  | range=>
    obtain ⟨t,p,hv⟩:=hG.eR
    refine (Any.strconv_Atoi_range_var Tryz.laysAtoi s (by omega) hc t p w hv).mono ?_
    rintro e w' ⟨N,he,_,_,hbel⟩
    exact ⟨_,he,⟨_,_,rfl,rfl,_,rfl,.inr ⟨rfl,_,_,rfl⟩⟩,zEJ hbel⟩
  | _=>
    obtain ⟨t,p,hv⟩:=hG.eS
    refine (Any.strconv_Atoi_syntax_var Tryz.laysAtoi s (by omega) hc t p w hv).mono ?_
    rintro e w' ⟨N,he,_,_,hbel⟩
    exact ⟨_,he,⟨_,_,rfl,rfl,_,rfl,.inr ⟨rfl,_,_,rfl⟩⟩,zEJ hbel⟩
end Go.Proofs.YtldppodfhabkjaaGreatDoor
namespace Go.Proofs.YtldppodfhabkjaaGreatDoor
open Go.RowKit Go.Sort
set_option linter.unusedVariables false
section
variable {α β:Type} [Inhabited β]
theorem zKj {enc:β->Value} {w:World} {blk n:Nat} {d:Array β} {os:Array Obj} {u:Value} (hu:zAB u blk):Ch (zAB u) w (grow (putRow enc (Go.Sort.ahead w n) blk 0 d) os):=by
  refine ⟨rfl,rfl,rfl,?_,fun k hk hn=>?_,?_⟩
  . simp [grow,putRow,mapBlock,Go.Sort.ahead]
  . have hne : blk ≠ k := fun e => hn (e ▸ hu)
    simp only [grow,putRow,mapBlock,Go.Sort.ahead]
    rw [Array.getElem?_append_left (by simpa using hk),Array.getElem?_modify,if_neg hne]
  . intro _;simp [grow,putRow,mapBlock,Go.Sort.ahead]
theorem BlkM.putRw {enc:β->Value} {w:World} {g n:Nat} {T:TypeId} {cur:Array Value} {d:Array β} {os:Array Obj} (h:BlkM w g T cur):BlkM (grow (putRow enc (Go.Sort.ahead w n) g 0 d) os) g T (putCells enc 0 d cur):=by
  obtain ⟨fz,h1,h2⟩:=h
  refine ⟨fz,?_,by simpa [putCells] using h2⟩
  have hlt:=(Array.getElem?_eq_some_iff.1 h1).1
  simp only [grow,putRow,mapBlock,Go.Sort.ahead]
  rw [Array.getElem?_append_left (by simpa using hlt),Array.getElem?_modify,if_pos rfl,h1]
  rfl
theorem zN3 {E:Enc α} {enc:β->Value} {f:β->α} {A:Av} {B T blk cap:Nat} {w:World} {xs:List α} {d:Array β} (hs:E.size=1) (henc:∀ (b:β) A w cs,E.rep A w (f b) cs->cs = [enc b]) (hd:d.toList.map f=xs) (h:Vec E A B T w (.slice (some ⟨blk,0,none⟩) xs.length cap) xs):Holds enc w blk 0 d:=by
  obtain ⟨cs,hown,hf⟩:=h
  intro j hj
  have hlen:d.size=xs.length:=by rw [<- hd];simp
  have hx:xs[j]? = some (f d[j]!):=by
    rw [<- hd,List.getElem?_map]
    simp [hj]
  obtain ⟨ds,h1,h2⟩:=hf.2 j _ hx
  have h3:=henc _ _ _ _ h1
  subst h3
  have h4:=h2 0 _ rfl
  rw [hs,Nat.mul_one,Nat.add_zero] at h4
  refine ⟨?_,?_⟩
  . have := hown.cells (g := blk) rfl j _ h4
    rwa [zCg] at this
  . rcases hown.2 with ⟨e, _⟩ | ⟨g, cap', cur, e, hb, hg, hnc, _, hcs, _⟩
    . cases e
    . injection e with e1 e2 e3
      injection e1 with e1
      injection e1 with e1
      subst e1
      rw [Nat.zero_add]
      exact hg.frozen j (by rw [hcs,hs];omega)
theorem zPA {E : Enc α} {enc : β -> Value} {f : β -> α} {A : Av} {B T blk cap n : Nat} {w : World} {xs ys : List α} {d : Array β} {os : Array Obj} (hs : E.size = 1) (henc : ∀ (b : β) A w cs, E.rep A w (f b) cs -> cs = [enc b])
    (hrep:∀ A w A' w' x cs,E.rep A w x cs->E.rep A' w' x cs) (hd:d.toList.map f=ys) (hl:ys.length=xs.length) (hsub:∀ y ∈ ys,y ∈ xs) (h:Vec E A B T w (.slice (some ⟨blk,0,none⟩) xs.length cap) xs) :
    Vec E A B T (grow (putRow enc (Go.Sort.ahead w n) blk 0 d) os) (.slice (some ⟨blk,0,none⟩) xs.length cap) ys:=by
  obtain ⟨cs,hown,hf⟩:=h
  have hrow:∀ y ∈ ys,∃ b:β,f b=y/\∀ A w,E.rep A w y [enc b]:=by
    intro y hy
    obtain ⟨b,hb,rfl⟩:=List.mem_map.1 (hd ▸ hy)
    obtain ⟨i,hi⟩:=List.mem_iff_getElem?.1 (hsub _ hy)
    obtain ⟨ds,h1,h2⟩:=hf.2 i _ hi
    have h3:=henc _ _ _ _ h1
    subst h3
    exact ⟨b,rfl,fun A' w'=>hrep _ _ _ _ _ _ h1⟩
  rcases hown.2 with ⟨e,_⟩ | ⟨g,cap',cur,e,hb,hg,hnc,hcm,hcs,htk⟩
  . cases e
  . injection e with e1 e2 e3
    injection e1 with e1
    injection e1 with e1
    subst e1 e3
    have hds:d.size=ys.length:=by rw [<- hd];simp
    have hcur:∀ j,j<ys.length->(putCells enc 0 d cur)[j]? = some (enc d[j]!):=fun j hj=>by
      have hjc:j<cur.size:=by rw [hcs,hs];omega
      simp only [putCells,Array.getElem?_mapIdx]
      rw [Array.getElem?_eq_getElem hjc]
      simp [hds,hj]
    have hlay:(putCells enc 0 d cur).toList.take (ys.length*E.size)=d.toList.map enc:=by
      rw [hs,Nat.mul_one]
      apply List.ext_getElem?
      intro j
      by_cases hj:j<ys.length
      . rw [List.getElem?_take, if_pos hj, Array.getElem?_toList, hcur j hj, List.getElem?_map]
        simp [hds,hj]
      . rw [List.getElem?_take,if_neg hj,List.getElem?_eq_none (by simp [hds];omega)]
    refine ⟨d.toList.map enc,⟨by simp [hds,hs],.inr ⟨blk,cap,putCells enc 0 d cur,by rw [hl],hb,hg.putRw,by rw [hl];exact hnc,hcm,by simp [putCells,hcs],hlay⟩⟩,by simp [hds,hs],fun i y hy=>?_⟩
    . obtain ⟨b, hb', hr⟩ := hrow y (List.mem_of_getElem? hy)
      have hiy:i<ys.length:=(List.getElem?_eq_some_iff.1 hy).1
      have hfd:f d[i]! = y:=by
        rw [<- hd,List.getElem?_map] at hy
        simp [hds,hiy] at hy
        simpa [hds,hiy] using hy
      have h1:=hr A (grow (putRow enc (Go.Sort.ahead w n) blk 0 d) os)
      have h2:=henc d[i]! A w _ (hfd ▸ hr A w)
      injection h2 with h2
      refine ⟨[enc b],h1,fun j u hj=>?_⟩
      cases j with
      | zero=>
        simp at hj
        subst hj
        rw [hs,Nat.mul_one,Nat.add_zero,List.getElem?_map,h2]
        simp [hds,hiy]
      | succ j=>simp at hj
theorem zKQ {E:Enc α} {A:Av} {B T:Nat} {w:World} {u:Value} {xs:List α} (h:Vec E A B T w u xs):(u=.slice none 0 0/\xs = [])\/∃ blk cap,u=.slice (some ⟨blk,0,none⟩) xs.length cap/\blk<w.heap.size:=by
  obtain ⟨cs,hown,_⟩:=h
  rcases hown.2 with ⟨e,h0⟩ | ⟨g,cap,cur,e,_,hg,_⟩
  . exact .inl ⟨e,List.eq_nil_of_length_eq_zero h0⟩
  . exact .inr ⟨g,cap,e,hg.lt⟩
end
theorem zML {f f':FuncId} {c c':List Value} (h:(Value.func (.func f) #[] c.toArray)=.func (.func f') #[] c'.toArray):f=f'/\c=c':=by
  injection h with h1 h2 h3
  injection h1 with h1
  exact ⟨h1,by simpa using h3⟩
end Go.Proofs.YtldppodfhabkjaaGreatDoor
namespace Go.Proofs.YtldppodfhabkjaaGreatDoor
open Go.RowKit
set_option linter.unusedVariables false
theorem zPZ {A:Av} {w:World} {l:List UInt8} (h:l.length<=4294967296):Rep eStr A w (.string ⟨l.toArray⟩) l:=⟨_,rfl,⟨l.toArray⟩,rfl,rfl,by show l.toArray.size<=maxLen;simp only [List.size_toArray];exact Nat.le_trans h (by decide)⟩
theorem gSnd:Tryz.prog.globalNamed zJr=some 0:=by kernel_rfl
theorem GTab.sndAt {w:World} (h:GTab w) {i:Int} (hi:inR i sndL.length=true) {v:Value} (hv:v=.pointer (some ⟨0,i.toNat,none⟩)):PRep (eInt .i64) (fun _ _=>False) w v (gtD sndL i):=by
  obtain ⟨i0,i1⟩:=zCw.1 hi
  have hlt:i.toNat<sndL.length:=by omega
  have hc := zNY h.snd gSnd (i := i.toNat) (v := .int .i64 (gtD sndL i)) (by
    rw [List.getElem?_toArray,List.getElem?_map,List.getElem?_eq_getElem hlt]
    simp only [Option.map_some,gtD,List.getD_eq_getElem?_getD,List.getElem?_eq_getElem hlt,Option.getD_some])
  refine ⟨_,_,hv,zEE hc,[.int .i64 (gtD sndL i)],rfl,fun j u hj=>?_⟩
  cases j with
  | zero=>simp at hj;subst hj;exact hc
  | succ j=>simp at hj
def bytL (l:List UInt8):List Int:=l.map fun b=>(b.toNat:Int)
theorem zO4 (w:World) (e:TypeId) (s:ByteArray):Fr w (Lib.bytesWorld w e s):=
  ⟨⟨by simp [Lib.bytesWorld,World.freeze,World.alloc,World.drew,-World.alloc_eq,-World.drew_eq],by simp [Lib.bytesWorld,World.freeze,World.alloc,World.drew,-World.alloc_eq,-World.drew_eq],by simp [Lib.bytesWorld,World.freeze,World.alloc,World.drew,-World.alloc_eq,-World.drew_eq],by rw [Lib.bytesWorld_size];omega,fun k hk=>Lib.bytesWorld_at_old w e s k hk⟩,fun _=>by simp [Lib.bytesWorld,World.freeze,World.alloc,World.drew,-World.alloc_eq,-World.drew_eq]⟩
section
variable {P:Program} {R:Reg} {w:World}
theorem zJA {A A1 : Av} {B : Nat} {S D e : TypeId} {y : Operand} {l : List UInt8} {d : Option Nat} {t : TypeId} {p : String} {af : Array Edge} {g : Option (Nat × Bool)} (hx : Rep eStr A1 w (zAH R y) l) (hs : P.underlying S = some .string) (hd : P.underlying D = some (.slice e)) (he : P.underlying e = some (.int .u8)) (hT : e = zKa) (hl : zBJ l.length = true) (hB : B <= w.heap.size) :
    OpR P ⟨d,.convert S D y,t,p,af,g⟩ R w (Made A (.vec B e (eInt .u8) (bytL l)) (fun _=>.any) w):=by
  obtain ⟨_,hv,s,rfl,rfl,hsz⟩:=hx
  have hv':zAH R y=.string s:=hv
  have hl:=zFX hl
  have e1:s.size=s.data.toList.length:=Lib.size_eq s
  have hr:=Lib.run_convert_string_bytes (P:=P) w S D e s (u:=.string) hs hd he
  have hge:=grownCap_ge w s.size 0 e
  have hcm:=grownCap_le_maxLen w s.size 0 e (by unfold maxLen;omega)
  have hcs:(Lib.bytesCells w e s).size=grownCap w s.size 0 e:=by
    simp only [Lib.bytesCells,Array.size_append,Array.size_map,Array.size_replicate]
    have:s.data.size=s.size:=rfl
    omega
  refine zAQ (v:=.slice (some ⟨w.heap.size,0,none⟩) s.size (grownCap w s.size 0 e)) (w':=Lib.bytesWorld w e s) (by simp [execOp,hv',hr]) ⟨zO4 w e s,fun k hk=>by have:w.heap.size=k:=hk;omega,⟨s.data.toList.map fun b=>.int .u8 b.toNat,⟨?_,.inr ⟨w.heap.size,grownCap w s.size 0 e,Lib.bytesCells w e s,by rw [bytL,List.length_map,<- e1],hB,⟨_,Lib.bytesWorld_at_new w e s,.inr ⟨hT,Nat.le_refl _⟩⟩,by rw [bytL,List.length_map,<- e1];exact hge,hcm,by rw [hcs];exact (Nat.mul_one _).symm,?_⟩⟩,?_,fun i x hx=>?_⟩,trivial⟩
  . rw [bytL, List.length_map, List.length_map]
    exact (Nat.mul_one _).symm
  . have e2:(bytL s.data.toList).length*(eInt .u8).size=s.data.size:=by
      rw [bytL,List.length_map]
      exact Nat.mul_one _
    rw [e2]
    simp only [Lib.bytesCells,Array.toList_append,Array.toList_map]
    rw [List.take_append_of_le_length (by simp),List.take_of_length_le (by simp)]
  . rw [bytL, List.length_map, List.length_map]
    exact (Nat.mul_one _).symm
  . rw [bytL, List.getElem?_map] at hx
    obtain ⟨b,hb,rfl⟩:=Option.map_eq_some_iff.1 hx
    refine ⟨[.int .u8 b.toNat],rfl,fun j dd hj=>?_⟩
    cases j with
    | zero=>
      simp at hj
      subst hj
      show (s.data.toList.map fun b=>Value.int .u8 b.toNat)[i*1+0]? = _
      rw [Nat.mul_one,Nat.add_zero,List.getElem?_map,hb]
      rfl
    | succ j=>simp at hj
end
def zG1 (fu:Nat) (s c:List UInt8):Option Bool:=ck (decide (s.length<4294967281)&&decide (c.length<4294967281)&&s.all (fun b=>decide (b.toNat<128))&&c.all (fun b=>decide (b.toNat<128))) (some (Lib.containsAny s c))
theorem zIB {fu : Nat} {A0 : Av} {p0 p1 : List UInt8} {r : Bool} (hr : zG1 fu p0 p1 = some r) {w : World} {v0 v1 : Value} (hA : AvOK A0 w) (h0 : Rep eStr A0 w v0 p0) (h1 : Rep eStr A0 w v1 p1) :
    Calls Tryz.prog 124 #[v0,v1] w fun e w'=>∃ v,e=.returned v/\(v=.bool r/\Fr w w'):=by
  obtain ⟨hb,hr⟩:=zA7 hr
  obtain rfl:=Option.some.inj hr
  simp only [Bool.and_eq_true,decide_eq_true_eq,List.all_eq_true] at hb
  obtain ⟨⟨⟨h2,h3⟩,h4⟩,h5⟩:=hb
  obtain ⟨_,rfl,s,rfl,rfl,hs⟩:=h0
  obtain ⟨_,rfl,c,rfl,rfl,hs1⟩:=h1
  have e1:s.size=s.data.toList.length:=Lib.size_eq s
  have e2:c.size=c.data.toList.length:=Lib.size_eq c
  refine (Any.strings_ContainsAny_laid Tryz.laysCA (by kernel_rfl) s c w (by omega) (by omega) (fun j b hj=>h4 b (List.mem_of_getElem? hj)) (fun j b hj=>h5 b (List.mem_of_getElem? hj))).mono ?_
  rintro e w' ⟨he,hbel⟩
  exact ⟨_,he,rfl,zEJ hbel⟩
def zGO (fu:Nat) (s old new:List UInt8):Option (List UInt8):=ck (decide (s.length<4294967281)&&decide (0<old.length)&&decide (s.length+Lib.countB ⟨s.toArray⟩ ⟨old.toArray⟩*new.length<=140737488355328)&&decide ((Lib.replaceAll s old new).length<=4294967296)) (some (Lib.replaceAll s old new))
theorem zIt {fu : Nat} {A0 : Av} {p0 p1 p2 r : List UInt8} (hr : zGO fu p0 p1 p2 = some r) {w : World} {v0 v1 v2 : Value} (hA : AvOK A0 w) (hG : GTab w) (h0 : Rep eStr A0 w v0 p0) (h1 : Rep eStr A0 w v1 p1) (h2 : Rep eStr A0 w v2 p2) :
    Calls Tryz.prog 162 #[v0,v1,v2] w fun e w'=>∃ v,e=.returned v/\(Rep eStr A0 w' v r/\Fr w w'):=by
  obtain ⟨hb,hr⟩:=zA7 hr
  obtain rfl:=Option.some.inj hr
  simp only [Bool.and_eq_true,decide_eq_true_eq] at hb
  obtain ⟨⟨⟨k1,k2⟩,k3⟩,k4⟩:=hb
  obtain ⟨_,rfl,s,rfl,rfl,hs⟩:=h0
  obtain ⟨_,rfl,o,rfl,rfl,hs1⟩:=h1
  obtain ⟨_,rfl,n,rfl,rfl,hs2⟩:=h2
  have e1:s.size=s.data.toList.length:=Lib.size_eq s
  have e2:o.size=o.data.toList.length:=Lib.size_eq o
  have e3:n.size=n.data.toList.length:=Lib.size_eq n
  have f1:(⟨s.data.toList.toArray⟩:ByteArray)=s:=by rw [Array.toArray_toList]
  have f2:(⟨o.data.toList.toArray⟩:ByteArray)=o:=by rw [Array.toArray_toList]
  rw [f1,f2] at k3
  obtain ⟨m,hm⟩:=hG.mx
  refine (Any.strings_ReplaceAll Tryz.laysRep Tryz.extraRep s o n m w (by omega) hm (by omega) (by rw [e1,e3];exact k3)).mono ?_
  rintro e w' ⟨he,hbel⟩
  exact ⟨_,he,zPZ k4,zEJ hbel⟩
def zIy (F:Int->Option Bool) (N:Nat):Bool:=(List.range N).all fun n=>(F (n:Int)).isSome
theorem zM3 {F:Int->Option Bool} {N n:Nat} (h:zIy F N=true) (hn:n<N):(F (n:Int)).isSome=true:=by
  unfold zIy at h
  rw [List.all_eq_true] at h
  exact h n (List.mem_range.2 hn)
theorem zMM {F:Int->Option Bool} {N:Nat} (h:∀ n:Nat,n<N->(F (n:Int)).isSome=true):zIy F N=true:=by
  unfold zIy
  rw [List.all_eq_true]
  exact fun n hn=>h n (List.mem_range.1 hn)
def zIO (fu:Nat) (s:List UInt8) (F:Int->Option Bool):Option (List (List UInt8)):=
  ck (zBJ s.length) (ck (zIy F 1114112) (some ((Lib.goFieldsP (fun n=>(F (n:Int)).getD false) ⟨s.toArray⟩).map (·.data.toList))))
theorem zLP {fu : Nat} {A0 : Av} {p0 : List UInt8} {p1 : Int -> Option Bool} {r : List (List UInt8)} (hr : zIO fu p0 p1 = some r) {w : World} {v0 v1 : Value} (hA : AvOK A0 w) (h0 : Rep eStr A0 w v0 p0) (h1 : FnB1 Tryz.prog (eInt .i32) (fun r => .raw (.bool r)) A0 w v1 p1) :
    Calls Tryz.prog 133 #[v0,v1] w fun e w'=>∃ v,e=.returned v/\(Rep (eSl eStr) A0 w' v r/\Fr w w'):=by
  unfold zIO at hr
  obtain ⟨hc1,hr⟩:=zA7 hr
  obtain ⟨hc2,hr⟩:=zA7 hr
  have hc1:=zFX hc1
  obtain rfl:=Option.some.inj hr
  . skip
    obtain ⟨_,rfl,s,rfl,rfl,hs⟩:=h0
    have e1:s.size=s.data.toList.length:=Lib.size_eq s
    have f1:(⟨s.data.toList.toArray⟩:ByteArray)=s:=by rw [Array.toArray_toList]
    have hsome:∀ n:Nat,n<=1114111->p1 (n:Int)=some ((p1 (n:Int)).getD false):=fun n hn=>by
      have:=zM3 hc2 (show n<1114112 by omega)
      cases h:p1 (n:Int) with
      | none=>rw [h] at this;cases this
      | some b=>rfl
    obtain ⟨g,cb,rfl,hg,_⟩:=h1 ((0:Nat):Int) _ (hsome 0 (by omega)) w (.int .i32 ((0:Nat):Int)) (Ch.refl _ _) hA ⟨_,rfl,rfl⟩
    have hp:PredGrows Tryz.prog g cb.toArray (fun n=>(p1 (n:Int)).getD false) w:=fun W x hx hb=>by
      obtain ⟨g',cb',e,hg',hcl⟩:=h1 (x:Int) _ (hsome x hx) W (.int .i32 (x:Int)) ((zEJ hb).ch _) (hA.fr hb.size) ⟨_,rfl,rfl⟩
      obtain ⟨rfl,rfl⟩:=zML e
      have e2:(#[encR x]++cb.toArray)=([Value.int .i32 (x:Int)]++cb).toArray:=by
        have:encR x=Value.int .i32 (x:Int):=rfl
        rw [this];simp
      rw [e2]
      refine hcl.mono ?_
      rintro e w' ⟨u,he,hu,hfr⟩
      obtain rfl:u=.bool _:=hu
      exact ⟨he,hfr.toBelow⟩
    rw [f1]
    refine (Any.strings_FieldsFunc_grows Tryz.laysFF g cb.toArray hg (fun n=>(p1 (n:Int)).getD false) s w (by omega) hp (by kernel_rfl) (by kernel_rfl)).mono ?_
    rintro e w' ⟨a,he,hage,hown,hbel⟩
    refine ⟨_,he,?_,zEJ hbel⟩
    generalize hL:Lib.goFieldsP (fun n=>(p1 (n:Int)).getD false) s=L at hown he
    have hmem:∀ z ∈ L,z.size<=s.size:=fun z hz=>by
      rw [<- hL] at hz
      unfold Lib.goFieldsP at hz
      obtain ⟨x,_,rfl⟩:=List.mem_map.1 hz
      rw [ByteArray.size_extract]
      omega
    have hcells:=hown.cells (g:=a) rfl
    have hcap:L.length<=maxLen:=by
      rcases hown.2 with ⟨h,_⟩ | ⟨g2,cap,cur,h,_,_,h3,h4,_⟩
      . cases h
      . exact Nat.le_trans h3 h4
    refine ⟨_,rfl,some ⟨a,0,none⟩,L.length,L.length,rfl,by rw [List.length_map],Nat.le_refl _,hcap,fun hpos=>⟨a,0,rfl,?_,fun i x hx=>?_⟩⟩
    . cases hz : L[0]? with
      | none=>rw [List.getElem?_eq_none_iff] at hz;omega
      | some z=>exact zEE (hcells 0 (.string z) (by rw [List.getElem?_map,hz];rfl))
    . rw [List.getElem?_map] at hx
      obtain ⟨z,hz,rfl⟩:=Option.map_eq_some_iff.1 hx
      refine ⟨⟨[.string z],⟨z,rfl,rfl,Nat.le_trans (hmem z (List.mem_of_getElem? hz)) hs⟩,fun j u hj=>?_⟩,fun j _ ha=>?_⟩
      . cases j with
        | zero=>
          simp only [List.getElem?_cons_zero,Option.some.injEq] at hj
          subst hj
          have:=hcells i (.string z) (by rw [List.getElem?_map,hz];rfl)
          rw [zCg] at this
          show w'.cell? ⟨a,0+i*1+0,none⟩=_
          rw [Nat.zero_add,Nat.mul_one,Nat.add_zero]
          rwa [Nat.zero_add] at this
        | succ j=>simp at hj
      . have := hA _ _ ha
        omega
end Go.Proofs.YtldppodfhabkjaaGreatDoor
namespace Go.Proofs.YtldppodfhabkjaaGreatDoor
open Go.RowKit Go.Sort
set_option linter.unusedVariables false
theorem zMk (b:List UInt8) (A:Av) (w:World) (cs:List Value) (h:eStr.rep A w b cs):cs = [encStr b]:=by
  obtain ⟨s,rfl,rfl,_⟩:=h
  rfl
def zK6 (fu:Nat) (p0:List (List UInt8)):Option (List (List UInt8)):=ck (zBJ p0.length) (some (p0.mergeSort fun x y=>decide (x<=y)))
theorem zM6 {fu : Nat} {A0 : Av} {p0 r : List (List UInt8)} (hr : zK6 fu p0 = some r) {w : World} {v0 : Value} {B0 : Nat} (hA : AvOK A0 w) (hN : ∀ b o, A0 b o -> ¬ zAB v0 b) (h0 : (Res.vec B0 9 eStr p0).ok A0 v0 w) :
    Calls Tryz.prog 75 #[v0] w fun e w'=>∃ v,e=.returned v/\(v=.tuple #[]/\(Res.vec B0 9 eStr r).ok A0 v0 w'/\Ch (zAB v0) w w'):=by
  obtain ⟨hlen,hr⟩:=zA7 hr
  obtain rfl:=Option.some.inj hr
  rcases zKQ h0 with ⟨rfl,rfl⟩ | ⟨blk,cap,rfl,hb⟩
  . refine (Any.slices_Sort_string_none Tryz.laysSort none 0 w).mono ?_
    rintro e w' ⟨he,rfl⟩
    exact ⟨_,he,rfl,by rw [List.mergeSort_nil];exact h0,Ch.refl _ _⟩
  . have hH : Holds encStr w blk 0 p0.toArray := zN3 (E := eStr) (f := fun x => x) rfl (fun b A w cs h => zMk b A w cs h) (by simp) h0
    refine (Any.slices_Sort_string Tryz.laysSort blk 0 cap p0 w hH hb (by have:=zFX hlen;omega)).mono ?_
    rintro e w' ⟨he,n,os,rfl⟩
    refine ⟨_,he,rfl,?_,zKj rfl⟩
    have:=zPA (E:=eStr) (enc:=encStr) (f:=fun x=>x) (n:=n) (os:=os) (ys:=p0.mergeSort fun x y=>decide (x<=y)) (d:=(p0.mergeSort fun x y=>decide (x<=y)).toArray) rfl (fun b A w cs h=>zMk b A w cs h) (fun _ _ _ _ _ _ h=>h) (by simp) (by simp) (fun y hy=>(List.mem_mergeSort.1 hy)) h0
    exact this
end Go.Proofs.YtldppodfhabkjaaGreatDoor

namespace Go.Proofs.YtldppodfhabkjaaGreatDoor
open Go.RowKit
set_option linter.unusedVariables false
section
variable {α:Type} {F:OE α} {A A0:Av} {w:World} {S K:Nat->Prop}
theorem IniOK.freezeT {T : TypeId} {u : Value} {x : α} {pins : List Pin} {rest : List Ob} {B : Nat} (h : IniOK (⟨u, S, trR K (oPt T F) x pins⟩ :: rest) A w) (hA : AvOK A w) (hAA : ∀ b o, A0 b o -> A b o) (hA0 : ∀ b o, A0 b o -> b < B) (hK : ∀ k, K k -> B <= k) :
    ∃ (A':Av) (b:Nat),u=.pointer (some ⟨b,0,none⟩)/\(∀ b o,A' b o->A b o)/\(∀ b o,A0 b o->A' b o)/\AvOK A' w/\IniOK (ob (.pointer (some ⟨b,0,none⟩)) (.box B T F.E x)::rest) A' w:=by
  have h0:=h.own 0 _ rfl
  obtain ⟨hSK,⟨cs,hu,b,ds,S1,rfl,hb,hF,hnb,hset⟩,_⟩:=h0
  have hu:u=.pointer (some ⟨b,0,none⟩):=hu
  subst hu
  have hSb:S b:=(hset b).2 (.inl rfl)
  refine ⟨fun k o=>A k o/\(S k->k=b),b,rfl,fun _ _ h=>h.1,fun k o hk=>⟨hAA k o hk,fun hs=>?_⟩,fun k o hk=>hA k o hk.1,⟨?_,?_,?_⟩⟩
  . have h1 := hK k (hSK k hs)
    have h2:=hA0 k o hk
    omega
  . intro i p hp
    cases i with
    | zero=>
      obtain rfl:=Option.some.inj hp
      refine ⟨⟨b,rfl,hK b (hSK b hSb),ds,hb,F.rep hF (fun _ _ h=>h.1) fun k o hk h=>?_⟩,fun k hk o=>?_⟩
      . have e : k = b := h.2 ((hset k).2 (.inr hk))
        exact hnb (e ▸ hk)
      . obtain rfl : b = k := hk
        exact ⟨(h.ok 0 _ rfl).2 b hSb o,fun _=>rfl⟩
    | succ i=>
      have hp:rest[i]? = some p:=hp
      have h1:=h.ok (i+1) p hp
      have h2:=h.own (i+1) p hp
      refine ⟨(Res.stabS h1.1 h2 (fun _ _=>rfl) (zDd fun b o h=>h.1)).1,fun k hk o=>⟨h1.2 k hk o,fun hs=>?_⟩⟩
      exact (h.dis (i+1) 0 p _ hp rfl (by omega) k hk hs).elim
  . intro i p hp
    cases i with
    | zero=>
      obtain rfl:=Option.some.inj hp
      exact rfl
    | succ i=>
      have hp:rest[i]? = some p:=hp
      exact (Res.stabS (h.ok (i+1) p hp).1 (h.own (i+1) p hp) (fun _ _=>rfl) (zDd fun b o h=>h.1)).2
  . have hb0:∀ k,zAB (.pointer (some ⟨b,0,none⟩)) k->S k:=fun k hk=>by
      obtain rfl:b=k:=hk
      exact hSb
    intro i j p q hp hq hne k hk hk2
    cases i with
    | zero=>
      obtain rfl:=Option.some.inj hp
      cases j with
      | zero=>exact hne rfl
      | succ j=>exact h.dis 0 (j+1) _ q rfl hq (by omega) k (hb0 k hk) hk2
    | succ i=>
      cases j with
      | zero=>
        obtain rfl:=Option.some.inj hq
        exact h.dis (i+1) 0 p _ hp rfl (by omega) k hk (hb0 k hk2)
      | succ j=>exact h.dis (i+1) (j+1) p q hp hq hne k hk hk2
end
end Go.Proofs.YtldppodfhabkjaaGreatDoor

namespace Go.Proofs.YtldppodfhabkjaaGreatDoor
open Go.RowKit
set_option linter.unusedVariables false
abbrev eI {o:Oper} (n:Int):Ent:=⟨o,true,.raw (.int .i64 n)⟩
abbrev eU {o:Oper} (n:Int):Ent:=⟨o,true,.raw (.int .u8 n)⟩
abbrev eB {o:Oper} (b:Bool):Ent:=⟨o,true,.raw (.bool b)⟩
abbrev eR {o:Oper} (v:Value):Ent:=⟨o,true,.raw v⟩
abbrev eF {o:Oper} (f:Fact):Ent:=⟨o,true,f⟩
abbrev eA {o:Oper}:Ent:=⟨o,true,.any⟩
abbrev gI {o:Oper} (g:Bool) (n:Int):Ent:=⟨o,g,.raw (.int .i64 n)⟩
abbrev gU {o:Oper} (g:Bool) (n:Int):Ent:=⟨o,g,.raw (.int .u8 n)⟩
abbrev gB {o:Oper} (g:Bool) (b:Bool):Ent:=⟨o,g,.raw (.bool b)⟩
abbrev gR {o:Oper} (g:Bool) (v:Value):Ent:=⟨o,g,.raw v⟩
abbrev gF {o:Oper} (g:Bool) (f:Fact):Ent:=⟨o,g,f⟩
abbrev rI {o:Oper} (n:Int):EntR:=⟨o,true,[],none,true,fun _=>.raw (.int .i64 n)⟩
abbrev rU {o:Oper} (n:Int):EntR:=⟨o,true,[],none,true,fun _=>.raw (.int .u8 n)⟩
abbrev rB {o:Oper} (b:Bool):EntR:=⟨o,true,[],none,true,fun _=>.raw (.bool b)⟩
abbrev rR {o:Oper} (v:Value):EntR:=⟨o,true,[],none,true,fun _=>.raw v⟩
abbrev rF {o:Oper} (f:Av->Fact):EntR:=⟨o,true,[],none,true,f⟩
abbrev rA {o:Oper}:EntR:=⟨o,true,[],none,true,fun _=>.any⟩
theorem ur {o:Oper} {g:Bool} {con:List Nat} {res:Option Res} {lk:Bool} {u:Value} {l:List EntR} (t:UAll l):UAll (⟨o,g,con,res,lk,fun _=>.raw u⟩::l):=UAll.cons zPM t
theorem ua {o:Oper} {g:Bool} {con:List Nat} {res:Option Res} {lk:Bool} {l:List EntR} (t:UAll l):UAll (⟨o,g,con,res,lk,fun _=>.any⟩::l):=UAll.cons zP0 t
theorem up {o:Oper} {g:Bool} {con:List Nat} {res:Option Res} {lk:Bool} {α:Type} {E:Enc α} {y:α} {l:List EntR} (t:UAll l):UAll (⟨o,g,con,res,lk,fun A=>.rep E A y⟩::l):=UAll.cons zOz t
section
variable {P:Program} {n:Nat} {Q:Exit->Reg->World->Prop} {id:Nat} {l:List Ent} {R R':Reg} {w:World} {i:Nat} {rest:List Ent}
theorem op {x : Ent} (h : ∀ R' w', Fr w w' -> (∀ t, zI7 l i t = true -> R' t = R t) -> Deps l R' w' x.o.after.toList -> OpR P x.o R' w' fun v w'' => x.f.ok v w'' /\ Fr w' w'')
    (t:Obls P l R w (i+1) rest) (hg:x.o.guard=none:=by exact rfl) (hx:x.g=true:=by exact rfl):Obls P l R w i (x::rest):=Obls.p h t hg hx
theorem oz:Obls P l R w i []:=Obls.nil
theorem zQW (l:List Ent) (ho:Obls P l R w 0 l) (ha:∀ R' w',Fr w w'->(∀ t,zJO l t=true->R' t=R t)->zLJ R' w' l->Q .normal R' w') (hb:zCV 0 (l.map (·.o))=true:=by kernel_rfl) (hd:zEj l=true:=by kernel_rfl) (hs:zFh n ((l.map fun x:Ent=>x.o)++([]:List Oper))=true:=by kernel_rfl):HT P n (.region id ((l.map fun x:Ent=>x.o)++([]:List Oper)).toArray false) R w Q:=
  zQX hb hd hs ho ha
theorem HT.u {w0:World} {A:Av} (hA:AvOK A w) (hF:Fr w0 w) (l:List Ent) (ho:Obls P l R w 0 l) (ha:∀ R' w',Fr w w'->(∀ t,zJO l t=true->R' t=R t)->zLJ R' w' l->AvOK A w'->Fr w0 w'->Q .normal R' w') (hb:zCV 0 (l.map (·.o))=true:=by kernel_rfl) (hd:zEj l=true:=by kernel_rfl) (hs:zFh n ((l.map fun x:Ent=>x.o)++([]:List Oper))=true:=by kernel_rfl):HT P n (.region id ((l.map fun x:Ent=>x.o)++([]:List Oper)).toArray false) R w Q:=
  zQX hb hd hs ho fun R' w' hw hs hf=>ha R' w' hw hs hf (hA.fr hw.size) (hF.trans hw)
theorem om {d:Option Nat} {t:Nat} {ty:TypeId} {p:String} {af:Array Edge} {v:Value} (h:R t=v) (r:Obls P l R w (i+1) rest) (hk:zI7 l i t=true:=by exact rfl):Obls P l R w i (⟨⟨d,.move (.tmp t),ty,p,af,none⟩,true,.raw v⟩::rest):=
  ⟨Obl.plain rfl rfl fun R' w' hw hs hd=>zBj ((hs t hk).trans h),r⟩
theorem ov {d:Option Nat} {t:Nat} {ty:TypeId} {p:String} {af:Array Edge} {v:Value} (r:Obls P l R w (i+1) rest) (hd:depF l af.toList 0=some (t,.raw v):=by exact rfl):Obls P l R w i (⟨⟨d,.move (.tmp t),ty,p,af,none⟩,true,.raw v⟩::rest):=
  ⟨Obl.plain rfl rfl fun R' w' hw hs h=>zBj (h.g 0 hd),r⟩
theorem oa {d:Option Nat} {t:Nat} {ty:TypeId} {p:String} {af:Array Edge} {v:Value} (r:Obls P l R w (i+1) rest) (hd:depF l af.toList 0=some (t,.raw v):=by exact rfl):Obls P l R w i (⟨⟨d,.assign (.tmp t),ty,p,af,none⟩,true,.raw v⟩::rest):=
  ⟨Obl.plain rfl rfl fun R' w' hw hs h=>zA2 (h.g 0 hd),r⟩
def grdF (l : List Ent) (j : Nat) : Option (Bool × Bool) := match l[j]? with
  | none=>none
  | some y => match y.o.dst with
    | none=>none
    | some _ => match y.f with
      | .raw (.bool c)=>some (y.g,c)
      | _=>none
theorem og {x : Ent} (j : Nat) (want : Bool) (h : x.g = true -> ∀ R' w', Fr w w' -> (∀ t, zI7 l i t = true -> R' t = R t) -> Deps l R' w' x.o.after.toList -> OpR P x.o R' w' fun v w'' => x.f.ok v w'' /\ Fr w' w'') (r : Obls P l R w (i + 1) rest)
    (hg:x.o.guard=some (j,want):=by exact rfl) (hy:(grdF l j).map (fun p=>p.1&&(p.2==want))=some x.g:=by exact rfl) (ha:x.o.after.any (fun e=>bnd e&&Nat.beq e.on j)=true:=by kernel_rfl):Obls P l R w i (x::rest):=by
  refine ⟨?_,r⟩
  unfold grdF at hy
  cases h1:l[j]? with
  | none=>rw [h1] at hy;cases hy
  | some y=>
    rw [h1] at hy
    dsimp only at hy
    cases h2:y.o.dst with
    | none=>rw [h2] at hy;cases hy
    | some d=>
      rw [h2] at hy
      dsimp only at hy
      split at hy
      . rename_i c hc
        exact Obl.grd j want y c d hg h1 h2 hc (Option.some.inj hy).symm ha h
      . cases hy
def depG (l:List Ent) (es:List Edge) (j:Nat):Option (Nat × Fact × Bool):=
  match es[j]? with
  | none=>none
  | some e => bif bnd e then (match l[e.on]? with
    | none=>none
    | some x => match x.o.dst with
      | none=>none
      | some d=>some (d,x.f,x.g)) else none
theorem Deps.h {es:List Edge} (h:Deps l R w es) (j:Nat) {d:Nat} {f:Fact} {g:Bool} (hg:g=true) (e:depG l es j=some (d,f,g)):f.ok (R d) w:=by
  unfold depG at e
  cases h1:es[j]? with
  | none=>rw [h1] at e;cases e
  | some a=>
    rw [h1] at e
    dsimp only at e
    cases h2:bnd a
    . rw [h2] at e;cases e
    rw [h2,cond_true] at e
    cases h3:l[a.on]? with
    | none=>rw [h3] at e;cases e
    | some x=>
      rw [h3] at e
      dsimp only at e
      cases h4:x.o.dst with
      | none=>rw [h4] at e;cases e
      | some d'=>
        rw [h4] at e
        dsimp only at e
        obtain ⟨rfl,e2⟩:=Prod.mk.inj (Option.some.inj e)
        obtain ⟨rfl,rfl⟩:=Prod.mk.inj e2
        exact h j a x _ h1 h2 h3 h4 hg
def facR (l : List Ent) (i : Nat) : Option (Nat × Value) := match l[i]? with
  | none=>none
  | some x => match x.o.dst with
    | none=>none
    | some d => bif x.g then (match x.f with
      | .raw u=>some (d,u)
      | _=>none) else none
theorem zLJ.r (h:zLJ R w l) (i:Nat) {d:Nat} {u:Value} (e:facR l i=some (d,u)):R d=u:=by
  unfold facR at e
  cases h1:l[i]? with
  | none=>rw [h1] at e;cases e
  | some x=>
    rw [h1] at e
    dsimp only at e
    cases h2:x.o.dst with
    | none=>rw [h2] at e;cases e
    | some d'=>
      rw [h2] at e
      dsimp only at e
      cases h3:x.g
      . rw [h3] at e;cases e
      rw [h3,cond_true] at e
      split at e
      . rename_i u' hu
        obtain ⟨rfl,rfl⟩:=Prod.mk.inj (Option.some.inj e)
        have:=h i x _ h1 h2 h3
        rw [hu] at this
        exact this
      . cases e
end
section
variable {P:Program} {ini:List Ob} {l:List EntR} {A:Av} {R R':Reg} {w:World} {i:Nat} {rest:List EntR}
theorem rp {x : EntR} (h : ∀ A' R' w', Onto ini l A R w i A' R' w' -> zI1 l A' R' w' x.o.after.toList -> OpR P x.o R' w' fun v w'' => (x.f A').ok v w'' /\ Fr w' w'')
    (t:zDy P ini l A R w (i+1) rest) (hg:x.o.guard=none:=by exact rfl) (hx:x.g=true:=by exact rfl) (hc:x.con = []:=by exact rfl) (hr:x.res=none:=by exact rfl):zDy P ini l A R w i (x::rest):=zDy.p h t hg hx hc hr
theorem rz:zDy P ini l A R w i []:=zDy.nil
theorem rc {x:EntR} (h:OblR P ini l A R w i x) (t:zDy P ini l A R w (i+1) rest):zDy P ini l A R w i (x::rest):=zDy.cons h t
theorem rm {d:Option Nat} {t:Nat} {ty:TypeId} {p:String} {af:Array Edge} {v:Value} (h:R t=v) (r:zDy P ini l A R w (i+1) rest) (hk:zLH l i t=true:=by exact rfl):zDy P ini l A R w i (⟨⟨d,.move (.tmp t),ty,p,af,none⟩,true,[],none,true,fun _=>.raw v⟩::rest):=
  ⟨OblR.plain rfl rfl rfl rfl fun A' R' w' ho hd=>zBj ((ho.old t hk).trans h),r⟩
theorem rv {d:Option Nat} {t:Nat} {ty:TypeId} {p:String} {af:Array Edge} {v:Value} (r:zDy P ini l A R w (i+1) rest) (hd:zOB l af.toList 0=some (t,fun _=>.raw v):=by exact rfl):zDy P ini l A R w i (⟨⟨d,.move (.tmp t),ty,p,af,none⟩,true,[],none,true,fun _=>.raw v⟩::rest):=
  ⟨OblR.plain rfl rfl rfl rfl fun A' R' w' ho h=>zBj (h.g 0 hd),r⟩
theorem ra {d:Option Nat} {t:Nat} {ty:TypeId} {p:String} {af:Array Edge} {v:Value} (r:zDy P ini l A R w (i+1) rest) (hd:zOB l af.toList 0=some (t,fun _=>.raw v):=by exact rfl):zDy P ini l A R w i (⟨⟨d,.assign (.tmp t),ty,p,af,none⟩,true,[],none,true,fun _=>.raw v⟩::rest):=
  ⟨OblR.plain rfl rfl rfl rfl fun A' R' w' ho h=>zA2 (h.g 0 hd),r⟩
end
section
variable {q:Nat->Bool} {R R':Reg} {a b c d e f g h:Nat} {s t u v x y z k:Value}
theorem k1 (hs:∀ t,q t=true->R' t=R t) (h1:R a=s) (p1:q a=true:=by exact rfl):R' a=s:=(hs a p1).trans h1
theorem k2 (hs:∀ t,q t=true->R' t=R t) (h1:R a=s) (h2:R b=t) (p1:q a=true:=by exact rfl) (p2:q b=true:=by exact rfl):R' a=s/\R' b=t:=⟨(hs a p1).trans h1,(hs b p2).trans h2⟩
theorem k3 (hs:∀ t,q t=true->R' t=R t) (h1:R a=s) (h2:R b=t) (h3:R c=u) (p1:q a=true:=by exact rfl) (p2:q b=true:=by exact rfl) (p3:q c=true:=by exact rfl):R' a=s/\R' b=t/\R' c=u:=⟨(hs a p1).trans h1,(hs b p2).trans h2,(hs c p3).trans h3⟩
theorem k4 (hs:∀ t,q t=true->R' t=R t) (h1:R a=s) (h2:R b=t) (h3:R c=u) (h4:R d=v) (p1:q a=true:=by exact rfl) (p2:q b=true:=by exact rfl) (p3:q c=true:=by exact rfl) (p4:q d=true:=by exact rfl):R' a=s/\R' b=t/\R' c=u/\R' d=v:=⟨(hs a p1).trans h1,(hs b p2).trans h2,(hs c p3).trans h3,(hs d p4).trans h4⟩
theorem k5 (hs:∀ t,q t=true->R' t=R t) (h1:R a=s) (h2:R b=t) (h3:R c=u) (h4:R d=v) (h5:R e=x) (p1:q a=true:=by exact rfl) (p2:q b=true:=by exact rfl) (p3:q c=true:=by exact rfl) (p4:q d=true:=by exact rfl) (p5:q e=true:=by exact rfl):R' a=s/\R' b=t/\R' c=u/\R' d=v/\R' e=x:=⟨(hs a p1).trans h1,(hs b p2).trans h2,(hs c p3).trans h3,(hs d p4).trans h4,(hs e p5).trans h5⟩
theorem k6 (hs:∀ t,q t=true->R' t=R t) (h1:R a=s) (h2:R b=t) (h3:R c=u) (h4:R d=v) (h5:R e=x) (h6:R f=y) (p1:q a=true:=by exact rfl) (p2:q b=true:=by exact rfl) (p3:q c=true:=by exact rfl) (p4:q d=true:=by exact rfl) (p5:q e=true:=by exact rfl) (p6:q f=true:=by exact rfl):R' a=s/\R' b=t/\R' c=u/\R' d=v/\R' e=x/\R' f=y:=⟨(hs a p1).trans h1,(hs b p2).trans h2,(hs c p3).trans h3,(hs d p4).trans h4,(hs e p5).trans h5,(hs f p6).trans h6⟩
end
section
variable {P:Program} {ini:List Ob} {l:List EntR} {A A':Av} {R R':Reg} {w w':World} {done:Nat->Bool} {ρ:Nat->Value} {σ:Nat->Nat->Prop}
theorem InvR.rg (hI:InvR ini l A R w done ρ σ A' R' w'):∀ t,zLM l t=true->R' t=R t:=fun _ h=>hI.reg h
def zPm (l : List EntR) (i : Nat) : Option (Nat × (Av -> Fact)) := match l[i]? with
  | none=>none
  | some x => match x.o.dst with
    | none=>none
    | some d=>bif x.g then some (d,x.f) else none
theorem InvR.r (hI:InvR ini l A R w done ρ σ A' R' w') (hd:∀ i,i<l.length->done i=true) (i:Nat) {d:Nat} {u:Value} (e:zPm l i=some (d,fun _=>.raw u)):R' d=u:=by
  unfold zPm at e
  cases h1:l[i]? with
  | none=>rw [h1] at e;cases e
  | some x=>
    rw [h1] at e
    dsimp only at e
    cases h2:x.o.dst with
    | none=>rw [h2] at e;cases e
    | some d'=>
      rw [h2] at e
      dsimp only at e
      cases h3:x.g
      . rw [h3] at e;cases e
      rw [h3,cond_true] at e
      obtain ⟨rfl,hu⟩:=Prod.mk.inj (Option.some.inj e)
      have:=hI.fact hd h1 h2 h3
      rw [hu] at this
      exact this
end
section
variable {P:Program} {n:Nat} {Q:Exit->Reg->World->Prop} {id:Nat} {R:Reg} {w:World} {y:Code} {A:Av}
theorem zQU {w0:World} (hA:AvOK A w) (hF:Fr w0 w) (l:List Ent) (ho:Obls P l R w 0 l) (ha:∀ R' w',Fr w w'->(∀ t,zJO l t=true->R' t=R t)->zLJ R' w' l->AvOK A w'->Fr w0 w'->HT P n y R' w' Q) (hb:zCV 0 (l.map (·.o))=true:=by kernel_rfl) (hd:zEj l=true:=by kernel_rfl) (hs:zFh n ((l.map fun x:Ent=>x.o)++([]:List Oper))=true:=by kernel_rfl):HT P n (.seq (.region id ((l.map fun x:Ent=>x.o)++([]:List Oper)).toArray false) y) R w Q:=
  zQT (HT.u hA hF l ho ha hb hd hs)
theorem zQY (ini:List Ob) (l:List EntR) (hu:UAll l) (hi:IniOK ini A w) (hA:AvOK A w) (ho:zDy P ini l A R w 0 l) (ha:zKU ini l A R w (fun R w=>Q .normal R w)) (hb:zCV 0 (l.map (·.o))=true:=by kernel_rfl) (hs:zFh n (l.map (·.o))=true:=by kernel_rfl) (h1:zFM l=true:=by kernel_rfl) (h2:l.all (conB ini.length l)=true:=by kernel_rfl) (h3:zMP l=true:=by kernel_rfl):HT P n (.region id (l.map (·.o)).toArray false) R w Q:=
  HT.textR ini l hb hs (Wf.mk' h1 hu h2 h3) hi hA ho ha
theorem zQV (ini:List Ob) (l:List EntR) (hu:UAll l) (hi:IniOK ini A w) (hA:AvOK A w) (ho:zDy P ini l A R w 0 l) (ha:zKU ini l A R w (fun R w=>HT P n y R w Q)) (hb:zCV 0 (l.map (·.o))=true:=by kernel_rfl) (hs:zFh n (l.map (·.o))=true:=by kernel_rfl) (h1:zFM l=true:=by kernel_rfl) (h2:l.all (conB ini.length l)=true:=by kernel_rfl) (h3:zMP l=true:=by kernel_rfl):HT P n (.seq (.region id (l.map (·.o)).toArray false) y) R w Q:=
  zQT (zQY ini l hu hi hA ho ha hb hs h1 h2 h3)
end
section
variable {ini:List Ob} {l:List EntR} {A:Av} {R:Reg} {w:World} {done:Nat->Bool} {ρ:Nat->Value} {σ:Nat->Nat->Prop} {A':Av} {R':Reg} {w':World}
theorem InvR.s (hI:InvR ini l A R w done ρ σ A' R' w') {A0:Av} {w0:World} (h0:∀ b o,A0 b o->A b o) (hB:∀ b o,A0 b o->b<w0.heap.size) (hF:Fr w0 w) (hO:IniOK ini A w) (h:zH7 w0.heap.size ini):(∀ b o,A0 b o->A' b o)/\Fr w0 w'/\AvOK A' w':=
  ⟨hI.low' h0 hB (hO.ge h),hF.tr hI.ch (hO.ge h),hI.avok⟩
theorem InvR.ov (hI:InvR ini l A R w done ρ σ A' R' w') (hd:∀ i,i<l.length->done i=true) {u:Value} (id i:Nat) (e:ρ id=u) {x:EntR} {d:Nat} (hx:l[i]? = some x:=by exact rfl) (hid:id=ini.length+i:=by exact rfl) (hr:x.res.isSome=true:=by exact rfl) (hk:x.lk=true:=by exact rfl) (hxd:x.o.dst=some d:=by exact rfl):R' d=u:=
  (hI.opvR hd id i hx hid hr hk hxd).symm.trans e
theorem InvR.on (hI:InvR ini l A R w done ρ σ A' R' w') (hd:∀ i,i<l.length->done i=true) {u:Value} (id i:Nat) {x:EntR} {c:Nat} (hx:l[i]? = some x) (hid:id=ini.length+i) (hr:x.res.isSome=true) (hk:x.lk=false) (hc:x.con.head? = some c) (e:ρ c=u):ρ id=u:=
  (hI.opnR hd id i hx hid hr hk hc).trans e
end
theorem Z {α:Sort _} {a:α}:a=a:=rfl
theorem N:True:=trivial
theorem nb {n m:Nat} (h:Nat.ble n m=true):n<=m:=Nat.le_of_ble_eq_true h
theorem si {α:Type _} {a b:α} (h:some a=some b):a=b:=Option.some.inj h
theorem ei {α:Sort _} {p:α->Prop} (w:α) (h:p w):Exists p:=Exists.intro w h
theorem ck2 {α:Type} {a b:Bool} {k:Option α} {r:α} (h:ck a (ck b k)=some r):a=true/\b=true/\k=some r:=⟨(zA7 h).1,zA7 (zA7 h).2⟩
theorem ck3 {α:Type} {a b c:Bool} {k:Option α} {r:α} (h:ck a (ck b (ck c k))=some r):a=true/\b=true/\c=true/\k=some r:=⟨(zA7 h).1,ck2 (zA7 h).2⟩
theorem ck4 {α:Type} {a b c d:Bool} {k:Option α} {r:α} (h:ck a (ck b (ck c (ck d k)))=some r):a=true/\b=true/\c=true/\d=true/\k=some r:=⟨(zA7 h).1,ck3 (zA7 h).2⟩
section
variable {P:Program} {l:List Ent} {R:Reg} {w:World} {i:Nat} {rest:List Ent}
theorem gm {d : Option Nat} {t : Nat} {ty : TypeId} {p : String} {af : Array Edge} {g : Bool} {v : Value} (j : Nat) (want : Bool) (h : R t = v) (r : Obls P l R w (i + 1) rest) (hk : zI7 l i t = true := by exact rfl)
    (hy:(grdF l j).map (fun p=>p.1&&(p.2==want))=some g:=by exact rfl) (ha:af.any (fun e=>bnd e&&Nat.beq e.on j)=true:=by kernel_rfl):Obls P l R w i (⟨⟨d,.move (.tmp t),ty,p,af,some (j,want)⟩,g,.raw v⟩::rest):=
  og j want (fun _ R' w' hw hs hd=>zBj ((hs t hk).trans h)) r rfl hy ha
end
theorem pc {A0:Av} {w:World} (h:AvOK A0 w):∃ w0,w0=w/\∀ b o,A0 b o->b<w0.heap.size:=⟨w,rfl,h⟩
theorem pw {A0:Av} {w:World} (h:AvOK A0 w):∃ w0,w0=w/\Fr w0 w/\∀ b o,A0 b o->b<w0.heap.size:=⟨w,rfl,Fr.refl _,h⟩
theorem pa {A0:Av} {w:World} (h:AvOK A0 w):∃ A,A=A0/\(∀ b o,A0 b o->A b o)/\AvOK A w/\IniOK [] A w:=⟨A0,rfl,fun _ _ h=>h,h,IniOK.nil⟩
theorem pf (w:World):∃ w0,w0=w/\Fr w0 w:=⟨w,rfl,Fr.refl _⟩
theorem fw {w0 w:World} (h:w0=w):Fr w=Fr w0:=h ▸ rfl
theorem fh {w0 w:World} (h:w0=w):w.heap.size=w0.heap.size:=h ▸ rfl
theorem qt {α:Type} {E:Enc α} {A:Av} {x:α} {v:Value} {w:World} (h:(Fact.qtr E A x).ok v w):QRep E A w v x:=h
end Go.Proofs.YtldppodfhabkjaaGreatDoor

namespace Go.Proofs.YtldppodfhabkjaaGreatDoor
open Go.RowKit Go.Maps Go.WideMaps
set_option linter.unusedVariables false
def rdV (v:Value):Option (DataW Value × List MemPlace):=some (.held v,[])
def zHe (P:Program) (k:TypeId) (w:World) (b n:Nat) (f:List UInt8->Option Value):Prop:=
  ∃ D:DataW Value,w.ownsMap P k rdV b n D/\∀ s zd,D.atKey (.string s) zd=(match f s with | none=>zd | some v=>.held v)
variable {P:Program} {k t e:TypeId} {w:World} {b n:Nat} {f:List UInt8->Option Value}
theorem zHe.made (P:Program) (k:TypeId) (w:World):zHe P k (w.alloc (.map #[] 0)) w.heap.size 0 fun _=>none:=
  ⟨_,World.ownsMap_made w P k rdV,fun _ _=>rfl⟩
theorem zHe.lt (h:zHe P k w b n f):b<w.heap.size:=let ⟨_,h,_⟩:=h;h.lt
theorem zHe.lookup (h : zHe P k w b n f) (hk : P.underlying k = some .string) (ht : P.underlying t = some (.map k e)) {z : Value} (hz : (zeroValue e).run P w=.ok z w) {s : ByteArray} (hs : s.size <= maxLen) :
    (Instr.lookup t (.map (some b)) (.string s) false).run P w=.ok ((f s.data.toList).getD z) w:=by
  obtain ⟨D,hD,hf⟩:=h
  obtain ⟨v,ps,hrun,hv⟩:=hD.lookup (Maps.string_keyed hk) ht hz (zd:=.held z) (zp:=[]) rfl (keyOf_string_mk hk hs)
  rw [hf] at hv
  have:v=(f s.data.toList).getD z:=by
    cases hfs:f s.data.toList with
    | none=>rw [hfs] at hv;exact DataW.held.inj (Prod.mk.inj (Option.some.inj hv)).1
    | some u=>rw [hfs] at hv;exact DataW.held.inj (Prod.mk.inj (Option.some.inj hv)).1
  rw [hrun,this]
theorem zHe.update (h : zHe P k w b n f) (hk : P.underlying k = some .string) (ht : P.underlying t = some (.map k e)) (hn : n < maxLen) {s : ByteArray} (hs : s.size <= maxLen) (v : Value) :
    ∃ o,(Instr.mapUpdate t (.map (some b)) (.string s) v).run P w=.ok () (ChangeMaps.setBlock w b o)/\zHe P k (ChangeMaps.setBlock w b o) b (n+1) (fun s'=>if s'=s.data.toList then some v else f s'):=by
  obtain ⟨D,⟨es,clock,hb,F,hsz,rfl⟩,hf⟩:=h
  obtain ⟨es',clock',hrun,F',hput,_⟩:=Maps.fit_store (R':=rdV) (string_keyed hk) ht hb F (Nat.lt_of_le_of_lt hsz hn) (fun _ _ _ _ hz=>hz) (keyOf_string_mk hk hs) (val:=v) (yv:=(.held v,[])) rfl
  refine ⟨.map es' clock',hrun,_,⟨es',clock',ChangeMaps.heap_setBlock_same hb _,F',?_,rfl⟩,fun s' zd=>?_⟩
  . have e1 : es'.size = ((es'.toList.map (WideElems.rg P k rdV)).foldr DataW.insert []).length := by rw [length_sorted]; simp
    rw [e1,hput]
    unfold ChangeMaps.putKey
    rw [length_insert]
    have e2:=List.length_filter_le (ChangeMaps.notKey (.string s.data.toList)) ((es.toList.map (WideElems.rg P k rdV)).foldr DataW.insert [])
    rw [length_sorted] at e2
    simp at e2
    omega
  . rw [hput, <- DataW.put_eq]
    by_cases e:s'=s.data.toList
    . subst e
      show _=match (if s.data.toList=s.data.toList then some v else f s.data.toList) with | none=>zd | some v=>.held v
      rw [if_pos rfl]
      exact Maps.atKey_put_same ⟨_,rfl⟩ (by trivial) _ _
    . show _ = match (if s' = s.data.toList then some v else f s') with | none => zd | some v => .held v
      rw [if_neg e]
      exact (Maps.atKey_put_other (fun h=>e (Lit.string.inj h)) _ _).trans (hf s' zd)
theorem zHe.same {w':World} (h:zHe P k w b n f) (hb:w'.heap[b]? = w.heap[b]?):zHe P k w' b n f:=by
  obtain ⟨D,⟨es,c,h1,h2⟩,hf⟩:=h
  exact ⟨D,⟨es,c,hb.trans h1,h2⟩,hf⟩
def zFU {α : Type} (P : Program) (k : TypeId) (B : Nat) (T : TypeId) (E : Enc α) (ms : List UInt8 -> List α) (out : List (List UInt8)) (n : Nat) : SP where
  P A w S u := ∃ b f, u=.map (some b) /\ B <= b /\ zHe P k w b n f /\ (∀ i, S i ↔ i = b \/ ∃ s v, s ∉ out /\ f s = some v /\ zAB v i) /\
    (∀ s,s ∉ out->(f s=none->ms s = [])/\∀ v,f s=some v->(Res.vec B T E (ms s)).ok A v w/\¬ zAB v b) /\
    (∀ s s' v v' i,s ∉ out->s' ∉ out->s ≠ s'->f s=some v->f s'=some v'->zAB v i->¬ zAB v' i)
  lt:=by
    rintro A w S u i ⟨b,f,rfl,hB,hm,hS,hr,hd⟩ hi
    rcases (hS i).1 hi with rfl | ⟨s,v,hs,hv,ho⟩
    . exact hm.lt
    . exact Res.lt ((hr s hs).2 v hv).1 rfl ho
  stab:=by
    rintro A A' w w' S u ⟨b,f,rfl,hB,hm,hS,hr,hd⟩ hb hs
    refine ⟨b,f,rfl,hB,hm.same (hb b ((hS b).2 (.inl rfl))),hS,fun s hn=>⟨(hr s hn).1,fun v hv=>⟨?_,((hr s hn).2 v hv).2⟩⟩,hd⟩
    exact Res.stab ((hr s hn).2 v hv).1 (fun i hi=>hb i ((hS i).2 (.inr ⟨s,v,hn,hv,hi⟩))) hs
theorem zFU.made {α : Type} {B : Nat} {T : TypeId} {E : Enc α} {A : Av} (hB : B <= w.heap.size) :
    (zFU P k B T E (fun _=>[]) [] 0).P A (w.alloc (.map #[] 0)) (fun i=>i=w.heap.size) (.map (some w.heap.size)):=
  ⟨_,_,rfl,hB,zHe.made P k w,fun i=>⟨.inl,fun h=>h.elim id fun ⟨s,v,_,h,_⟩=>(by cases h)⟩,fun s _=>⟨fun _=>rfl,fun v h=>(by cases h)⟩,fun s s' v v' i _ _ _ h=>(by cases h)⟩
theorem zFU.lookup {α : Type} {B : Nat} {T : TypeId} {E : Enc α} {A : Av} {ms : List UInt8 -> List α} {out : List (List UInt8)} {S : Nat -> Prop} {u : Value} (h : (zFU P k B T E ms out n).P A w S u)
    (hk:P.underlying k=some .string) (ht:P.underlying t=some (.map k e)) (hz:(zeroValue e).run P w=.ok (.slice none 0 0) w) {s:ByteArray} (hs:s.size<=maxLen) (ho:s.data.toList ∉ out)
    (hnil:(Res.vec B T E ([]:List α)).ok A (.slice none 0 0) w) :
    ∃ v S',(Instr.lookup t u (.string s) false).run P w=.ok v w/\(Res.vec B T E (ms s.data.toList)).ok A v w/\(zFU P k B T E ms (s.data.toList::out) n).P A w S' u/\(∀ i,S i ↔ S' i\/zAB v i)/\∀ i,zAB v i->¬ S' i:=by
  obtain ⟨b,f,rfl,hB,hm,hS,hr,hd⟩:=h
  have hrun:=hm.lookup hk ht hz hs
  refine ⟨(f s.data.toList).getD (.slice none 0 0),fun i=>i=b\/∃ s' v,s' ∉ s.data.toList::out/\f s'=some v/\zAB v i,hrun,?_,⟨b,f,rfl,hB,hm,fun i=>Iff.rfl,fun s' hs'=>hr s' fun h=>hs' (.tail _ h),fun s1 s2 v1 v2 i h1 h2=>hd s1 s2 v1 v2 i (fun h=>h1 (.tail _ h)) fun h=>h2 (.tail _ h)⟩,fun i=>?_,fun i hi h=>?_⟩
  . cases hf : f s.data.toList with
    | none=>rw [(hr _ ho).1 hf];exact hnil
    | some v=>exact ((hr _ ho).2 v hf).1
  . rw [hS i]
    constructor
    . rintro (rfl | ⟨s', v, h1, h2, h3⟩)
      . exact .inl (.inl rfl)
      . by_cases e : s' = s.data.toList
        . subst e;exact .inr (by rw [h2];exact h3)
        . exact .inl (.inr ⟨s',v,fun h=>(List.mem_cons.1 h).elim e h1,h2,h3⟩)
    . rintro ((rfl | ⟨s', v, h1, h2, h3⟩) | h)
      . exact .inl rfl
      . exact .inr ⟨s',v,fun h=>h1 (.tail _ h),h2,h3⟩
      . cases hf : f s.data.toList with
        | none=>rw [hf] at h;exact h.elim
        | some v=>rw [hf] at h;exact .inr ⟨_,v,ho,hf,h⟩
  . cases hf : f s.data.toList with
    | none=>rw [hf] at hi;exact hi.elim
    | some v=>
      rw [hf] at hi
      rcases h with rfl | ⟨s',v',h1,h2,h3⟩
      . exact ((hr _ ho).2 v hf).2 hi
      . exact hd _ s' v v' i ho (fun h=>h1 (.tail _ h)) (fun e=>h1 (e ▸ .head _)) hf h2 hi h3
theorem zFU.update {α : Type} {B : Nat} {T : TypeId} {E : Enc α} {A : Av} {ms : List UInt8 -> List α} {out : List (List UInt8)} {S : Nat -> Prop} {u : Value} {s : ByteArray} (h : (zFU P k B T E ms (s.data.toList :: out) n).P A w S u)
    (hk:P.underlying k=some .string) (ht:P.underlying t=some (.map k e)) (hn:n<maxLen) (hs:s.size<=maxLen) (ho:s.data.toList ∉ out) {v:Value} {xs:List α}
    (hv:(Res.vec B T E xs).ok A v w) (hx:∀ i,zAB v i->¬ S i) :
    ∃ b o, u=.map (some b) /\ S b /\ b < w.heap.size /\ (Instr.mapUpdate t u (.string s) v).run P w=.ok () (ChangeMaps.setBlock w b o) /\
      ∀ A' w',w'=ChangeMaps.setBlock w b o->(∀ ys v',(Res.vec B T E ys).ok A v' w->¬ zAB v' b->(Res.vec B T E ys).ok A' v' w')->(zFU P k B T E (fun s'=>if s'=s.data.toList then xs else ms s') out (n+1)).P A' w' (fun i=>S i\/zAB v i) u:=by
  obtain ⟨b,f,rfl,hB,hm,hS,hr,hd⟩:=h
  obtain ⟨o,hrun,hm'⟩:=hm.update hk ht hn hs v
  have hb:S b:=(hS b).2 (.inl rfl)
  refine ⟨b,o,rfl,hb,hm.lt,hrun,fun A' w' hw' hst=>?_⟩
  subst hw'
  refine ⟨b,_,rfl,hB,hm',fun i=>?_,fun s' hs'=>?_,fun s1 s2 v1 v2 i h1 h2 hne e1 e2 o1 o2=>?_⟩
  . constructor
    . rintro (h | h)
      . rcases (hS i).1 h with rfl | ⟨s', v', h1, h2, h3⟩
        . exact .inl rfl
        . exact .inr ⟨s',v',fun h=>h1 (.tail _ h),by show (if s'=s.data.toList then some v else f s')=some v';rw [if_neg (fun e:s'=s.data.toList=>h1 (by rw [e];exact .head _))];exact h2,h3⟩
      . exact .inr ⟨s.data.toList,v,ho,if_pos rfl,h⟩
    . rintro (rfl | ⟨s', v', h1, h2, h3⟩)
      . exact .inl hb
      . by_cases e : s' = s.data.toList
        . have h2' : (if s' = s.data.toList then some v else f s') = some v' := h2
          rw [if_pos e] at h2'
          cases h2'
          exact .inr h3
        . have h2' : (if s' = s.data.toList then some v else f s') = some v' := h2
          rw [if_neg e] at h2'
          exact .inl ((hS i).2 (.inr ⟨s',v',fun h=>(List.mem_cons.1 h).elim e h1,h2',h3⟩))
  . by_cases e : s' = s.data.toList
    . refine ⟨fun h => ?_, fun v' h => ?_⟩
      . have h' : (if s' = s.data.toList then some v else f s') = none := h
        rw [if_pos e] at h';cases h'
      . have h' : (if s' = s.data.toList then some v else f s') = some v' := h
        rw [if_pos e] at h'
        cases h'
        show (Res.vec B T E (if s'=s.data.toList then xs else ms s')).ok A' v (ChangeMaps.setBlock w b o)/\_
        rw [if_pos e]
        exact ⟨hst _ _ hv (fun h=>hx b h hb),fun h=>hx b h hb⟩
    . have hn' : s' ∉ s.data.toList :: out := fun h => (List.mem_cons.1 h).elim e hs'
      refine ⟨fun h=>?_,fun v' h=>?_⟩
      . have h' : (if s' = s.data.toList then some v else f s') = none := h
        rw [if_neg e] at h'
        show (if s'=s.data.toList then xs else ms s') = []
        rw [if_neg e];exact (hr s' hn').1 h'
      . have h' : (if s' = s.data.toList then some v else f s') = some v' := h
        rw [if_neg e] at h'
        show (Res.vec B T E (if s'=s.data.toList then xs else ms s')).ok A' v' (ChangeMaps.setBlock w b o)/\_
        rw [if_neg e]
        exact ⟨hst _ _ ((hr s' hn').2 v' h').1 ((hr s' hn').2 v' h').2,((hr s' hn').2 v' h').2⟩
  . have e1' : (if s1 = s.data.toList then some v else f s1) = some v1 := e1
    have e2':(if s2=s.data.toList then some v else f s2)=some v2:=e2
    by_cases c1:s1=s.data.toList
    . have c2 : s2 ≠ s.data.toList := fun h => hne (c1.trans h.symm)
      rw [if_pos c1] at e1';rw [if_neg c2] at e2'
      cases e1'
      exact hx i o1 ((hS i).2 (.inr ⟨s2,v2,fun h=>(List.mem_cons.1 h).elim c2 h2,e2',o2⟩))
    . by_cases c2 : s2 = s.data.toList
      . rw [if_pos c2] at e2'; rw [if_neg c1] at e1'
        cases e2'
        exact hx i o2 ((hS i).2 (.inr ⟨s1,v1,fun h=>(List.mem_cons.1 h).elim c1 h1,e1',o1⟩))
      . rw [if_neg c1] at e1'; rw [if_neg c2] at e2'
        exact hd s1 s2 v1 v2 i (fun h=>(List.mem_cons.1 h).elim c1 h1) (fun h=>(List.mem_cons.1 h).elim c2 h2) hne e1' e2' o1 o2
theorem IniOK.snoc {ini:List Ob} {A:Av} {w:World} (h:IniOK ini A w) (p:Ob) (hok:p.r.ok A p.u w) (hav:∀ k,p.S k->∀ o,A k o) (hown:p.r.own A p.u p.S w) (hd:∀ (j:Nat) q,ini[j]? = some q->∀ k,p.S k->¬ q.S k):IniOK (ini ++ [p]) A w:=by
  have hat:∀ (j:Nat) q,(ini ++ [p])[j]? = some q->ini[j]? = some q\/j=ini.length/\q=p:=fun j q hq=>by
    rcases Nat.lt_or_ge j ini.length with hl | hl
    . rw [List.getElem?_append_left hl] at hq;exact .inl hq
    . rw [List.getElem?_append_right hl] at hq
      cases hj:j-ini.length with
      | zero=>rw [hj] at hq;exact .inr ⟨by omega,(Option.some.inj hq).symm⟩
      | succ m=>rw [hj] at hq;cases hq
  refine ⟨fun j q hq=>?_,fun j q hq=>?_,fun i j q q' hq hq' hne k hk hk'=>?_⟩
  . rcases hat j q hq with h1 | ⟨_, rfl⟩
    . exact h.ok j q h1
    . exact ⟨hok,hav⟩
  . rcases hat j q hq with h1 | ⟨_, rfl⟩
    . exact h.own j q h1
    . exact hown
  . rcases hat i q hq with h1 | ⟨e1, rfl⟩
    . rcases hat j q' hq' with h2 | ⟨_, rfl⟩
      . exact h.dis i j q q' h1 h2 hne k hk hk'
      . exact hd i q h1 k hk' hk
    . rcases hat j q' hq' with h2 | ⟨e2, rfl⟩
      . exact hd j q' h2 k hk hk'
      . exact hne (e1.trans e2.symm)
theorem IniOK.look {α : Type} {ini : List Ob} {A : Av} {K : Nat -> Prop} {B : Nat} {T : TypeId} {E : Enc α} {ms : List UInt8 -> List α} {out : List (List UInt8)} {S : Nat -> Prop} {u : Value} (h : IniOK ini A w) (i : Nat)
    (hi:ini[i]? = some ⟨u,S,.gen K (zFU P k B T E ms out n)⟩) (hk:P.underlying k=some .string) (ht:P.underlying t=some (.map k e)) (hz:(zeroValue e).run P w=.ok (.slice none 0 0) w) {s:ByteArray} (hs:s.size<=maxLen) (ho:s.data.toList ∉ out)
    (hnil:(Res.vec B T E ([]:List α)).ok A (.slice none 0 0) w) :
    ∃ v S',(Instr.lookup t u (.string s) false).run P w=.ok v w/\IniOK (ini.set i ⟨u,S',.gen K (zFU P k B T E ms (s.data.toList::out) n)⟩ ++ [ob v (.vec B T E (ms s.data.toList))]) A w/\(∀ k,zAB v k->S k)/\∀ k,S' k->S k:=by
  obtain ⟨hK,hP⟩:=h.own i _ hi
  obtain ⟨v,S',hrun,hv,hP',hS,hd⟩:=zFU.lookup hP hk ht hz hs ho hnil
  have h1:=h.put i hi ⟨u,S',.gen K (zFU P k B T E ms (s.data.toList::out) n)⟩ trivial ⟨fun j hj=>hK j ((hS j).2 (.inl hj)),hP'⟩ fun j hj=>(hS j).2 (.inl hj)
  refine ⟨v,S',hrun,h1.snoc _ hv (fun j hj=>(h.ok i _ hi).2 j ((hS j).2 (.inr hj))) rfl (fun j q hq m hm hm'=>?_),fun j hj=>(hS j).2 (.inr hj),fun j hj=>(hS j).2 (.inl hj)⟩
  have hl:=(List.getElem?_eq_some_iff.1 hi).1
  by_cases ej:j=i
  . subst ej
    rw [List.getElem?_set_self hl] at hq
    cases hq
    exact hd m hm hm'
  . rw [List.getElem?_set_ne (Ne.symm ej)] at hq
    exact h.dis i j _ q hi hq (Ne.symm ej) m ((hS m).2 (.inr hm)) hm'
section
variable {R:Reg} {m x y:Operand} {d:Option Nat} {ty:TypeId} {pp:String} {af:Array Edge} {A:Av}
theorem zJH {α : Type} {ini : List Ob} {K : Nat -> Prop} {B : Nat} {T : TypeId} {E : Enc α} {ms : List UInt8 -> List α} {out : List (List UInt8)} {S : Nat -> Prop} {u : Value} {s : List UInt8} (h : IniOK ini A w) (i : Nat)
    (hi:ini[i]? = some ⟨u,S,.gen K (zFU P k B T E ms out n)⟩) (hk:P.underlying k=some .string) (ht:P.underlying t=some (.map k e)) (hz:(zeroValue e).run P w=.ok (.slice none 0 0) w) (hm:zAH R m=u) {A1:Av} (hs:Rep eStr A1 w (zAH R x) s) (ho:s ∉ out)
    (hnil:(Res.vec B T E ([]:List α)).ok A (.slice none 0 0) w) :
    OpR P ⟨d,.lookup t m x false,ty,pp,af,none⟩ R w fun v w'=>w'=w/\∃ S',IniOK (ini.set i ⟨u,S',.gen K (zFU P k B T E ms (s::out) n)⟩ ++ [ob v (.vec B T E (ms s))]) A w/\(∀ k,zAB v k->S k)/\∀ k,S' k->S k:=by
  obtain ⟨cs,hv,sb,rfl,rfl,hmx⟩:=hs
  have hv':zAH R x=.string sb:=hv
  obtain ⟨v,S',hrun,h1,h2,h3⟩:=h.look i hi hk ht hz hmx ho hnil
  exact zAQ (v:=v) (w':=w) (by simp [execOp,hm,hv',hrun,Result.andThen]) ⟨rfl,S',h1,h2,h3⟩
end
section
variable {A:Av} {b:Nat} {o:Obj}
theorem zHf (k:Nat) (hk:k ≠ b):(ChangeMaps.setBlock w b o).heap[k]? = w.heap[k]?:=by
  show (w.heap.setIfInBounds b o)[k]? = _
  rw [Array.getElem?_setIfInBounds]
  rw [if_neg (fun h=>hk h.symm)]
theorem zK5:(ChangeMaps.setBlock w b o).heap.size=w.heap.size:=by
  show (w.heap.setIfInBounds b o).size=_
  simp
theorem zOt (hb:∀ o,A b o):Stp A A w (ChangeMaps.setBlock w b o):=
  ⟨Nat.le_of_eq zK5.symm,fun b' o' v hv hA=>by
    have:b' ≠ b:=fun e=>hA (e ▸ hb o')
    rw [World.cell?_of_block (zHf b' this)]
    exact hv,fun b' o' _ h=>h⟩
theorem zPR {S:Nat->Prop} (hb:S b):Ch S w (ChangeMaps.setBlock w b o):=
  ⟨rfl,rfl,rfl,Nat.le_of_eq zK5.symm,fun k _ hk=>zHf k fun e=>hk (e ▸ hb),fun _=>Nat.le_refl _⟩
end
theorem zJk {R : Reg} {m x y : Operand} {d : Option Nat} {ty : TypeId} {pp : String} {af : Array Edge} {A : Av} {α : Type} {ini : List Ob} {K : Nat -> Prop} {B : Nat} {T : TypeId} {E : Enc α} {ms : List UInt8 -> List α} {out : List (List UInt8)} {S : Nat -> Prop} {u v : Value} {xs : List α} {s : List UInt8} (h : IniOK ini A w) (hA : AvOK A w) (i j : Nat)
    (hi:ini[i]? = some ⟨u,S,.gen K (zFU P k B T E ms (s::out) n)⟩) (hj:ini[j]? = some (ob v (.vec B T E xs))) (hij:i ≠ j) (hk:P.underlying k=some .string) (ht:P.underlying t=some (.map k e)) (hn:n<maxLen)
    (hm:zAH R m=u) {A1:Av} (hs:Rep eStr A1 w (zAH R x) s) (hy:zAH R y=v) (ho:s ∉ out) (hvK:∀ k,zAB v k->K k) :
    OpR P ⟨d, .mapUpdate t m x y, ty, pp, af, none⟩ R w fun _ w' => Ch S w w' /\ Stp A A w w' /\ AvOK A w' /\
      IniOK ((ini.set j ⟨undef,fun _=>False,.nul⟩).set i ⟨u,fun k=>S k\/zAB v k,.gen K (zFU P k B T E (fun s'=>if s'=s then xs else ms s') out (n+1))⟩) A w':=by
  obtain ⟨cs,hv,sb,rfl,rfl,hmx⟩:=hs
  have hv':zAH R x=.string sb:=hv
  obtain ⟨hK,hP⟩:=h.own i _ hi
  have hdj:=h.dis j i _ _ hj hi (Ne.symm hij)
  obtain ⟨b,obj,hu,hSb,hlt,hrun,hpost⟩:=zFU.update hP hk ht hn hmx ho (h.ok j _ hj).1 hdj
  have hAb:∀ o,A b o:=(h.ok i _ hi).2 b hSb
  have hst:Stp A A w (ChangeMaps.setBlock w b obj):=zOt hAb
  have hP':=hpost A _ rfl fun ys v' hy hv=>Res.stab hy (fun k hk=>zHf k fun e=>hv (e ▸ hk)) hst
  refine zHX (w':=ChangeMaps.setBlock w b obj) (by simp [execOp,hm,hv',hy,hrun,Result.andThen]) ⟨zPR hSb,hst,fun b' o' h'=>by rw [zK5];exact hA b' o' h',?_⟩
  have hli:=(List.getElem?_eq_some_iff.1 hi).1
  have hlj:=(List.getElem?_eq_some_iff.1 hj).1
  have hat : ∀ (l : Nat) q, ((ini.set j ⟨undef, fun _ => False, .nul⟩).set i ⟨u, fun k => S k \/ zAB v k, .gen K (zFU P k B T E (fun s' => if s' = sb.data.toList then xs else ms s') out (n + 1))⟩)[l]? = some q ->
      (l=i/\q=⟨u,fun k=>S k\/zAB v k,.gen K (zFU P k B T E (fun s'=>if s'=sb.data.toList then xs else ms s') out (n+1))⟩)\/(l ≠ i/\l=j/\q=⟨undef,fun _=>False,.nul⟩)\/(l ≠ i/\l ≠ j/\ini[l]? = some q):=fun l q hq=>by
    by_cases e1:l=i
    . subst e1
      rw [List.getElem?_set_self (by rw [List.length_set];exact hli)] at hq
      exact .inl ⟨rfl,(Option.some.inj hq).symm⟩
    . rw [List.getElem?_set_ne (Ne.symm e1)] at hq
      by_cases e2:l=j
      . subst e2
        rw [List.getElem?_set_self hlj] at hq
        exact .inr (.inl ⟨e1,rfl,(Option.some.inj hq).symm⟩)
      . rw [List.getElem?_set_ne (Ne.symm e2)] at hq
        exact .inr (.inr ⟨e1,e2,hq⟩)
  have hkeep:∀ (l:Nat) q,l ≠ i->ini[l]? = some q->q.r.ok A q.u (ChangeMaps.setBlock w b obj)/\q.r.own A q.u q.S (ChangeMaps.setBlock w b obj):=fun l q hl hq=>
    Res.stabS (h.ok l q hq).1 (h.own l q hq) (fun k hk=>zHf k fun e=>h.dis l i q _ hq hi hl k hk (e ▸ hSb)) hst
  refine ⟨fun l q hq=>?_,fun l q hq=>?_,fun l l' q q' hq hq' hne a ha ha'=>?_⟩
  . rcases hat l q hq with ⟨rfl, rfl⟩ | ⟨_, rfl, rfl⟩ | ⟨h1, _, h2⟩
    . exact ⟨trivial,fun a ha=>ha.elim ((h.ok _ _ hi).2 a) ((h.ok j _ hj).2 a)⟩
    . exact ⟨trivial,fun a ha=>ha.elim⟩
    . exact ⟨(hkeep l q h1 h2).1,(h.ok l q h2).2⟩
  . rcases hat l q hq with ⟨rfl, rfl⟩ | ⟨_, rfl, rfl⟩ | ⟨h1, _, h2⟩
    . exact ⟨fun a ha=>ha.elim (hK a) (hvK a),hP'⟩
    . exact rfl
    . exact (hkeep l q h1 h2).2
  . rcases hat l q hq with ⟨rfl, rfl⟩ | ⟨_, rfl, rfl⟩ | ⟨h1, h1', h2⟩
    . rcases hat l' q' hq' with ⟨rfl, rfl⟩ | ⟨_, rfl, rfl⟩ | ⟨h3, h3', h4⟩
      . exact hne rfl
      . exact ha'
      . rcases ha with ha | ha
        . exact h.dis _ _ _ _ hi h4 (Ne.symm h3) a ha ha'
        . exact h.dis _ _ _ _ hj h4 (Ne.symm h3') a ha ha'
    . exact ha
    . rcases hat l' q' hq' with ⟨rfl, rfl⟩ | ⟨_, rfl, rfl⟩ | ⟨h3, h3', h4⟩
      . rcases ha' with ha' | ha'
        . exact h.dis _ _ _ _ h2 hi h1 a ha ha'
        . exact h.dis _ _ _ _ h2 hj h1' a ha ha'
      . exact ha'
      . exact h.dis _ _ _ _ h2 h4 hne a ha ha'
theorem zOK {R : Reg} {d : Option Nat} {ty : TypeId} {pp : String} {af : Array Edge} {g : Option (Nat × Bool)} {A : Av} {α : Type} {K : Nat -> Prop} {B : Nat} {T : TypeId} {E : Enc α} (hB : B <= w.heap.size) (hK : ∀ k, w.heap.size <= k -> K k) :
    OpR P ⟨d,.makeMap t none,ty,pp,af,g⟩ R w (zGo A (.gen K (zFU P k B T E (fun _=>[]) [] 0)) (fun _=>.any) w):=by
  refine zAQ (v:=.map (some w.heap.size)) (w':=w.alloc (.map #[] 0)) (by simp [execOp,run_makeMap]) ⟨fun i=>i=w.heap.size,Fr.alloc _ _,fun k hk=>Nat.le_of_eq (Eq.symm hk),trivial,⟨fun k hk=>hK k (Nat.le_of_eq (Eq.symm hk)),zFU.made hB⟩,trivial⟩
abbrev MpT (α:Type):=(List UInt8->List α) × List (List UInt8) × Nat
abbrev mapX {α:Type} (P:Program) (k:TypeId) (B:Nat) (T:TypeId) (E:Enc α) (X:MpT α):SP:=zFU P k B T E X.1 X.2.1 X.2.2
theorem zKc {R : Reg} {x : Operand} {d : Option Nat} {ty : TypeId} {pp : String} {af : Array Edge} {g : Option (Nat × Bool)} {A : Av} {α : Type} {K : Nat -> Prop} {T : TypeId} {F : OE α} (hx : zAH R x=.slice none 0 0) :
    OpR P ⟨d,.assign x,ty,pp,af,g⟩ R w (zGo A (trR K (oSl T F) [] []) (fun _=>.any) w):=by
  refine zAQ (v:=zAH R x) (w':=w) rfl ⟨fun _=>False,Fr.refl _,fun _ h=>h.elim,trivial,⟨fun _ h=>h.elim,⟨[.slice none 0 0],?_,zI0⟩,fun q hq=>(by cases hq)⟩,trivial⟩
  rw [hx]
  rfl
theorem zL5 {R : Reg} {x : Operand} {d : Option Nat} {ty : TypeId} {pp : String} {af : Array Edge} {g : Option (Nat × Bool)} {A : Av} {α : Type} {K Sv : Nat -> Prop} {F : OE α} {y : α} {u z : Value} {pins : List Pin} (h : (trP F y pins).P A w Sv u) (hx : zAH R x = u) (hav : ∀ k, Sv k -> ∀ o, A k o) (hBv : ∀ k, Sv k -> K k) (hB : ∀ k, w.heap.size <= k -> K k)
    (ht:P.underlying t=some (.slice e)) (hsz:∀ w,(sizeOf e).run P w=.ok F.E.size w) (hz:∀ w,(zeroValue e).run P w=.ok z w) (hlim:Nat.ble (1*F.E.size) 16777216=true) :
    OpR P ⟨d,.buildSlice t 1 #[(0,x)],ty,pp,af,g⟩ R w (zGW A true u Sv (trR K (oSl e F) [y] []) (fun _=>.any) w):=by
  obtain ⟨⟨cs,rfl,h⟩,_⟩:=h
  have hrow:Row F.E av0 w R [x] [y]:=⟨⟨cs,hx,F.rep (A0:=av0) h (fun _ _ h=>h.elim) fun _ _ _ h=>h⟩,trivial⟩
  have hrun:=zGX (d:=d) (t:=ty) (p:=pp) (af:=af) (g:=g) hrow ht hsz hz (n:=1) rfl hlim
  have hcl:=F.cells h
  have harr:(([x].map (zAH R)).flatMap fun v=>v.cells.toList).toArray=cs.toArray:=by
    show ((zAH R x).cells.toList ++ []).toArray=_
    rw [hx,hcl,List.append_nil]
  rw [harr] at hrun
  have hf:=Fr.alloc w (.cells cs.toArray e)
  have hsub:∀ k,k<w.heap.size->(k=w.heap.size\/Sv k)->Sv k:=fun k hk h=>h.elim (fun e=>absurd e (by omega)) id
  have hst:=zEz (S'':=fun k=>k=w.heap.size\/Sv k) hav (hf.ch Sv) hsub
  refine zAQ hrun ⟨_,fun k=>k=w.heap.size\/Sv k,rfl,hf.ch Sv,hsub,hst,trivial,⟨fun k hk=>hk.elim (fun e=>hB k (Nat.le_of_eq (Eq.symm e))) (hBv k),⟨[.slice (some ⟨w.heap.size,0,none⟩) 1 1],rfl,.inr ⟨w.heap.size,1,cs.toArray,fun _=>Sv,rfl,Blk.new w e cs.toArray,Nat.le_refl _,by unfold maxLen;omega,?_,?_,?_,?_,?_⟩⟩,fun q hq=>by cases hq⟩,trivial⟩
  . rw [List.size_toArray,F.len h,Nat.one_mul]
  . intro i y' hy
    cases i with
    | zero=>
      cases hy
      refine ⟨cs,F.stab h (fun k hk=>hf.block k (F.lt h hk)) hst,fun j u hj=>?_⟩
      rw [Nat.zero_mul,Nat.zero_add,List.getElem?_toArray]
      exact hj
    | succ i=>cases hy
  . intro i j k hi hj hne
    have h1:i<1:=hi
    have h2:j<1:=hj
    exact absurd (show i=j by omega) hne
  . intro i _ hk
    exact absurd (F.lt h hk) (Nat.lt_irrefl _)
  . intro k
    exact ⟨fun h=>h.imp id fun h=>⟨0,Nat.zero_lt_one,h⟩,fun h=>h.imp id fun ⟨_,_,h⟩=>h⟩
theorem zL3 {A : Av} {α : Type} {F : OE α} {xs : List α} {y : α} {S1 S2 : Nat -> Prop} {u1 u2 : Value} {ty : TypeId} (h1 : (oSl e F).own A w S1 xs [u1]) (h2 : (oSl e F).own A w S2 [y] [u2]) (hd : ∀ k, S1 k -> ¬ S2 k)
    (ht:P.underlying t=some (.slice e)) (he:ElF P e F.E.size) (hb:e ≠ zKa) (hl:zBJ (xs.length+1)=true) :
    ∃ v' w' S',(Builtin.append_ #[t,t] ty #[u1,u2]).run P w=.ok v' w'/\Ch S1 w w'/\(∀ k,k<w.heap.size->S' k->S1 k\/S2 k)/\∀ A',Stp A A' w w'->(oSl e F).own A' w' S' (xs ++ [y]) [v']:=by
  obtain ⟨inf,z,b,hi,hz,hs,hby,hzs,hs0,hb4⟩:=he
  have hl:=zFX hl
  have hbytes:(xs.length+1)*b<=140737488355328:=by
    have:=Nat.mul_le_mul hl hb4
    omega
  have hm:xs.length+1<=maxLen:=by unfold maxLen;omega
  obtain ⟨h0,_,_⟩ | ⟨g2,c2,arr2,Si2,e2,hk2,_,_,hz2,hE2⟩:=h2
  . exact absurd ‹[y] = []› (by simp)
  obtain rfl:=(List.cons.inj e2).1
  obtain ⟨ds,hds,hat2⟩:=hE2.el 0 y rfl
  have hdl:ds.length=F.E.size:=F.len hds
  have hrow : ∃ (cs : List Value) (Si : Nat -> Nat -> Prop), RowM w 0 e F.E.size u1 xs.length cs /\ (∀ k, zAB u1 k -> S1 k) /\ (∀ i x, xs[i]? = some x -> ∃ ds, F.own A w (Si i) x ds /\ ∀ (j : Nat) u, ds[j]? = some u -> cs[i * F.E.size + j]? = some u) /\
      (∀ i j k,i<xs.length->j<xs.length->i ≠ j->Si i k->¬ Si j k)/\(∀ i k,i<xs.length->Si i k->¬ zAB u1 k)/\(∀ i k,i<xs.length->Si i k->S1 k)/\∀ k,S1 k->zAB u1 k\/∃ i,i<xs.length/\Si i k:=by
    rcases h1 with ⟨e1,rfl,hS⟩ | ⟨g,c,arr,Si,e1,hk,hlc,hcm,hsz,hE⟩
    . obtain rfl := (List.cons.inj e1).1
      exact ⟨[],fun _ _=>False,⟨by simp,.inl ⟨rfl,rfl⟩⟩,fun k h=>h.elim,fun i x h=>by simp at h,fun i j k h=>absurd h (Nat.not_lt_zero _),fun i k h=>absurd h (Nat.not_lt_zero _),fun i k h=>absurd h (Nat.not_lt_zero _),fun k h=>absurd h (hS k)⟩
    . obtain rfl := (List.cons.inj e1).1
      have hle:xs.length*F.E.size<=arr.size:=hsz ▸ Nat.mul_le_mul_right _ hlc
      refine ⟨arr.toList.take (xs.length*F.E.size),Si,⟨by have e0:arr.toList.length=arr.size:=Array.length_toList;rw [List.length_take,e0,Nat.min_eq_left hle],.inr ⟨g,c,arr,rfl,Nat.zero_le _,BlkM.of hk,hlc,hcm,hsz,rfl⟩⟩,fun k hk=>(hE.set k).2 (.inl (Eq.symm hk)),fun i x hx=>?_,hE.dis,fun i k hi hk h=>hE.out i hi (show Si i g from (show g=k from h) ▸ hk),fun i k hi hk=>(hE.set k).2 (.inr ⟨i,hi,hk⟩),fun k hk=>((hE.set k).1 hk).imp (fun h=>(Eq.symm h)) id⟩
      obtain ⟨ds',h3,h4⟩:=hE.el i x hx
      refine ⟨ds',h3,fun j u hj=>?_⟩
      have hil:i<xs.length:=(List.getElem?_eq_some_iff.1 hx).1
      have hjl:j<F.E.size:=by have:=(List.getElem?_eq_some_iff.1 hj).1;rw [F.len h3] at this;exact this
      have hlt:i*F.E.size+j<xs.length*F.E.size:=by
        have:=Nat.mul_le_mul_right F.E.size (show i+1<=xs.length from hil)
        rw [Nat.add_mul,Nat.one_mul] at this
        omega
      rw [List.getElem?_take_of_lt hlt,Array.getElem?_toList]
      exact h4 j u hj
  obtain ⟨cs,Si,hown,hu1,hel,hdis,hout,hin,hcov⟩:=hrow
  obtain ⟨v',w',hrun,hown',hch,hsame⟩:=zI8 (P:=P) (T:=t) (ty:=ty) w ht hi hz hs hby hzs hs0 hown ⟨g2,0,none⟩ 1 c2 ds (by rw [hdl,Nat.one_mul]) (fun j v hj=>by
    have:=hat2 j v hj
    rw [Nat.zero_mul,Nat.zero_add] at this
    rw [zCg]
    show w.cell? ⟨g2,0+j,none⟩=_
    rw [Nat.zero_add]
    exact (hk2.cell _).trans this) (F.oc hds) hm hbytes (Nat.zero_le _)
  obtain ⟨hcl,hv⟩:=hown'
  have hcl1:=hown.1
  rcases hv with ⟨_,h⟩ | ⟨g',cap,cur,rfl,_,hk',hnc,hcm',hsz',htk⟩
  . omega
  let Si':Nat->Nat->Prop:=fun i=>if i<xs.length then Si i else Si2 0
  have hS2:∀ k,Si2 0 k->S2 k:=fun k hk=>(hE2.set k).2 (.inr ⟨0,Nat.zero_lt_one,hk⟩)
  have hg':∀ k,k<w.heap.size->k=g'->zAB u1 k:=fun k hk e=>hsame k hk (show g'=k from e.symm)
  have hp:∀ i,i<xs.length->Si' i=Si i:=fun i c=>if_pos c
  have hq:∀ i,¬ i<xs.length->Si' i=Si2 0:=fun i c=>if_neg c
  have hcur:∀ (m:Nat) u,(cs++ds)[m]? = some u->cur[m]? = some u:=fun m u h=>by
    rw [<- htk,List.getElem?_take] at h
    split at h
    . rwa [Array.getElem?_toList] at h
    . cases h
  refine ⟨_,w',fun k=>k=g'\/(∃ i,i<xs.length+1/\Si' i k),hrun,⟨hch.os,hch.tape,hch.output,hch.size,fun k hk hn=>hch.block k hk fun h=>hn (hu1 k h),hch.drawn⟩,fun k hk h=>?_,fun A' hst=>.inr ⟨g',cap,cur,Si',by rw [List.length_append];rfl,hk'.plain hb,by rw [List.length_append];exact hnc,hcm',hsz',⟨fun i x hx=>?_,fun i j k hi hj hne h h'=>?_,fun i hi h=>?_,fun k=>by rw [List.length_append];exact Iff.rfl⟩⟩⟩
  . rcases h with h | ⟨i, _, h⟩
    . exact .inl (hu1 k (hg' k hk h))
    . by_cases c : i < xs.length
      . rw [hp i c] at h;exact .inl (hin i k c h)
      . rw [hq i c] at h;exact .inr (hS2 k h)
  . by_cases c : i < xs.length
    . rw [List.getElem?_append_left c] at hx
      obtain ⟨d1,h3,h4⟩:=hel i x hx
      refine ⟨d1,by rw [hp i c];exact F.stab h3 (fun k hk=>hch.block k (F.lt h3 hk) (hout i k c hk)) hst,fun j u hj=>hcur _ _ ?_⟩
      have h5:=h4 j u hj
      rw [List.getElem?_append_left (List.getElem?_eq_some_iff.1 h5).1]
      exact h5
    . have hi' := (List.getElem?_eq_some_iff.1 hx).1
      rw [List.length_append] at hi'
      have hi'':i<xs.length+1:=hi'
      obtain rfl:i=xs.length:=by omega
      rw [List.getElem?_append_right (Nat.le_refl _),Nat.sub_self] at hx
      cases hx
      refine ⟨ds,by rw [hq _ c];exact F.stab hds (fun k hk=>hch.block k (F.lt hds hk) fun h=>hd k (hu1 k h) (hS2 k hk)) hst,fun j u hj=>hcur _ _ ?_⟩
      rw [List.getElem?_append_right (by rw [hcl1];exact Nat.le_add_right _ _),hcl1,Nat.add_sub_cancel_left]
      exact hj
  . rw [List.length_append] at hi hj
    have hi':i<xs.length+1:=hi
    have hj':j<xs.length+1:=hj
    by_cases ci:i<xs.length
    . rw [hp i ci] at h
      by_cases cj:j<xs.length
      . rw [hp j cj] at h';exact hdis i j k ci cj hne h h'
      . rw [hq j cj] at h';exact hd k (hin i k ci h) (hS2 k h')
    . rw [hq i ci] at h
      by_cases cj:j<xs.length
      . rw [hp j cj] at h';exact hd k (hin j k cj h') (hS2 k h)
      . omega
  . by_cases ci : i < xs.length
    . rw [hp i ci] at h
      obtain ⟨d1,h3,_⟩:=hel i _ (List.getElem?_eq_getElem ci)
      exact hout i g' ci h (hg' g' (F.lt h3 h) rfl)
    . rw [hq i ci] at h
      exact hd g' (hu1 g' (hg' g' (F.lt hds h) rfl)) (hS2 g' h)
theorem zKp {R : Reg} {x x' : Operand} {dd : Nat} {ty : TypeId} {pp : String} {af : Array Edge} {g : Option (Nat × Bool)} {A : Av} {α : Type} {K : Nat -> Prop} {F : OE α} {xs : List α} {y : α} {ρ : Nat -> Value} {σ : Nat -> Nat -> Prop} {c1 c2 : Nat} (hne : Nat.beq c1 c2 = false)
    (h1:(trP (oSl e F) xs []).P A w (σ c1) (ρ c1)) (h2:(trP (oSl e F) [y] []).P A w (σ c2) (ρ c2)) (hx:zAH R x=ρ c1) (hx':zAH R x'=ρ c2) (hav:∀ d,d ∈ [c1,c2]->∀ k,σ d k->∀ o,A k o) (hdd:∀ d d',d ∈ [c1,c2]->d' ∈ [c1,c2]->d ≠ d'->∀ k,σ d k->¬ σ d' k)
    (hB1:∀ k,σ c1 k->K k) (hB2:∀ k,σ c2 k->K k) (hB:∀ k,w.heap.size<=k->K k) (ht:P.underlying t=some (.slice e)) (he:ElF P e F.E.size) (hb:e ≠ zKa) (hl:zBJ (xs.length+1)=true) :
    OpR P ⟨some dd,.call ⟨.builtin .append,#[x,x'],#[t,t]⟩,ty,pp,af,g⟩ R w (zGW A true (ρ c1) (fun k=>∃ d,d ∈ [c1,c2]/\σ d k) (trR K (oSl e F) (xs ++ [y]) []) (fun _=>.any) w):=by
  obtain ⟨⟨cs1,e1,h1⟩,_⟩:=h1
  obtain ⟨⟨cs2,e2,h2⟩,_⟩:=h2
  have hs1:∃ u,cs1 = [u]:=by
    rcases h1 with ⟨h,_⟩ | ⟨_,_,_,_,h,_⟩ <;> exact ⟨_,h⟩
  have hs2:∃ u,cs2 = [u]:=by
    rcases h2 with ⟨h,_⟩ | ⟨_,_,_,_,h,_⟩ <;> exact ⟨_,h⟩
  obtain ⟨u1,rfl⟩:=hs1
  obtain ⟨u2,rfl⟩:=hs2
  have e1:ρ c1=u1:=e1
  have e2:ρ c2=u2:=e2
  have hm1:c1 ∈ [c1,c2]:=.head _
  have hm2:c2 ∈ [c1,c2]:=.tail _ (.head _)
  have hne':c1 ≠ c2:=fun h=>by subst h;simp at hne
  obtain ⟨v',w',S',hrun,hch,hsub,hown⟩:=zL3 (ty:=ty) h1 h2 (hdd c1 c2 hm1 hm2 hne') ht he hb hl
  have hch':Ch (fun k=>∃ d,d ∈ [c1,c2]/\σ d k) w w':=⟨hch.os,hch.tape,hch.output,hch.size,fun k hk hn=>hch.block k hk fun h=>hn ⟨c1,hm1,h⟩,hch.drawn⟩
  have hsub':∀ k,k<w.heap.size->S' k->∃ d,d ∈ [c1,c2]/\σ d k:=fun k hk h=>(hsub k hk h).elim (fun h=>⟨c1,hm1,h⟩) fun h=>⟨c2,hm2,h⟩
  have hst:=zEz (S'':=S') (fun k ⟨d,hd,h⟩=>hav d hd k h) hch' hsub'
  refine zAQ (v:=v') (w':=w') ?_ ⟨v',S',rfl,hch',hsub',hst,trivial,⟨fun k hk=>?_,⟨[v'],rfl,hown _ hst⟩,fun q hq=>(by cases hq)⟩,trivial⟩
  . simp [execOp,resolve,invoke,builtin,hx,hx',e1,e2,hrun]
  . rcases Nat.lt_or_ge k w.heap.size with h | h
    . exact (hsub k h hk).elim (hB1 k) (hB2 k)
    . exact hB k h
end Go.Proofs.YtldppodfhabkjaaGreatDoor
namespace Go.Proofs.YtldppodfhabkjaaGreatDoor
open Go.RowKit
set_option linter.unusedVariables false
section
variable {P:Program} {n:Nat} {ops:List Oper} {k:Nat} {R:Reg} {w:World} {Q:Exit->Reg->World->Prop}
theorem zJF {j dj:Nat} {y:Oper} {a:Act} (hj:ops[j]? = some y) (hy:y.dst=some dj):yielded ops.toArray a.tmps j=(match regs a dj with | .bool b=>some b | _=>none):=by
  have hj':ops.toArray[j]? = some y:=by simpa using hj
  simp only [yielded,hj',regs]
  simp [hy]
  cases a.tmps[dj]? with
  | none=>rfl
  | some v=>cases v <;> rfl
theorem SG.opG {o y : Oper} (d j dj : Nat) (want : Bool) (ho : ops[k]? = some o) (hg : o.guard = some (j, want)) (hj : ops[j]? = some y) (hy : y.dst = some dj) (hR : R dj=.bool want) (hd : o.dst = some d) (hn : Nat.blt d n = true) {K : Value -> World -> Prop} (h : OpR P o R w K)
    (hk:∀ v w',K v w'->∀ R',(∀ t,Nat.beq t d=false->R' t=R t)->R' d=v->SG P n ops (k+1) R' w' Q):SG P n ops k R w Q:=fun a hpl hRa=>by
  have hkl:k<ops.length:=(List.getElem?_eq_some_iff.1 ho).1
  rw [show ops.length-k=(ops.length-(k+1))+1 by omega,List.range'_succ,wpOps_cons]
  rw [<- hRa] at h hR
  have hw:Region.wanted o (yielded ops.toArray a.tmps)=true:=by
    rw [show Region.wanted o (yielded ops.toArray a.tmps)=(yielded ops.toArray a.tmps j==some want) by simp [Region.wanted,hg],zJF hj hy,hR]
    simp
  have ho':ops.toArray[k]? = some o:=by simpa using ho
  have hcont:∀ v w',K v w'->wpOps P ops.toArray (PQ n Q) (List.range' (k+1) (ops.length-(k+1))) (a.put o.dst v) w':=fun v w' hv=>by
    have hdn:d<n:=by simpa using hn
    have hrp:=zFw a o.dst v fun d' h'=>by rw [hd] at h';injection h' with h';subst h';exact Nat.lt_of_lt_of_le hdn hpl.2
    refine hk v w' hv (regs (a.put o.dst v)) (fun t ht=>?_) ?_ _ ⟨by rw [zEM];exact hpl.1,by rw [zG2];exact hpl.2⟩ rfl
    . rw [hrp, hd, hRa]
      show (bif Nat.beq t d then v else R t)=R t
      rw [ht]
      rfl
    . rw [hrp, hd]
      exact zGh _ _ _
  unfold wpOp
  rw [ho']
  dsimp only
  rw [if_pos hw]
  refine .inl ?_
  unfold Oper.wp
  rw [zGM]
  refine OpK.elim (C:=Oper.upon P o a _ (PQ n Q)) h (fun v w' h=>?_) (fun w' h=>?_) fun f args w' h=>?_
  . rw [Oper.upon_value]
    exact hcont _ _ h
  . rw [Oper.upon_skip]
    exact hcont _ _ h
  . rw [Oper.upon_enter]
    refine Calls.mono h ?_
    rintro e w3 ⟨v,rfl,h3⟩
    exact hcont _ _ h3
theorem SG.skipV {o y : Oper} (d j dj : Nat) (want : Bool) (ho : ops[k]? = some o) (hg : o.guard = some (j, want)) (hj : ops[j]? = some y) (hy : y.dst = some dj) (hR : (match R dj with | .bool b => some b | _ => none) ≠ some want) (hd : o.dst = some d) (hn : Nat.blt d n = true)
    (hk:∀ R',(∀ t,Nat.beq t d=false->R' t=R t)->R' d=undef->SG P n ops (k+1) R' w Q):SG P n ops k R w Q:=fun a hpl hRa=>by
  have hkl:k<ops.length:=(List.getElem?_eq_some_iff.1 ho).1
  rw [show ops.length-k=(ops.length-(k+1))+1 by omega,List.range'_succ,wpOps_cons]
  rw [<- hRa] at hR
  have hw:¬ Region.wanted o (yielded ops.toArray a.tmps)=true:=by
    rw [show Region.wanted o (yielded ops.toArray a.tmps)=(yielded ops.toArray a.tmps j==some want) by simp [Region.wanted,hg],zJF hj hy]
    simpa using hR
  have ho':ops.toArray[k]? = some o:=by simpa using ho
  unfold wpOp
  rw [ho']
  dsimp only
  rw [if_neg hw]
  have hdn:d<n:=by simpa using hn
  have hrp:=zFw a o.dst undef fun d' h'=>by rw [hd] at h';injection h' with h';subst h';exact Nat.lt_of_lt_of_le hdn hpl.2
  refine hk (regs (a.put o.dst undef)) (fun t ht=>?_) ?_ _ ⟨by rw [zEM];exact hpl.1,by rw [zG2];exact hpl.2⟩ rfl
  . rw [hrp, hd, hRa]
    show (bif Nat.beq t d then undef else R t)=R t
    rw [ht]
    rfl
  . rw [hrp, hd]
    exact zGh _ _ _
theorem SG.skip {o y : Oper} (d j dj : Nat) (want : Bool) (ho : ops[k]? = some o) (hg : o.guard = some (j, want)) (hj : ops[j]? = some y) (hy : y.dst = some dj) (hR : R dj=.bool !want) (hd : o.dst = some d) (hn : Nat.blt d n = true)
    (hk:∀ R',(∀ t,Nat.beq t d=false->R' t=R t)->R' d=undef->SG P n ops (k+1) R' w Q):SG P n ops k R w Q:=
  SG.skipV d j dj want ho hg hj hy (by rw [hR];cases want <;> simp) hd hn hk
end
end Go.Proofs.YtldppodfhabkjaaGreatDoor

namespace Go.Proofs.YtldppodfhabkjaaGreatDoor
open Go.RowKit Go.Sort
set_option linter.unusedVariables false
section
variable {α β:Type} [Inhabited β]
theorem zMr {enc:β->List Value} {k:Nat} {d:Array β} {i j:Nat} (hk:∀ x,(enc x).length=k) (hi:i<d.size) (hj:j<k):(flatK enc k d)[i*k+j]! = (enc d[i]!)[j]!:=by
  have h1:i*k+j<d.size*k:=by
    have:=Nat.mul_le_mul_right k (show i+1<=d.size from hi)
    rw [Nat.add_mul,Nat.one_mul] at this
    omega
  rw [get_flatK _ _ _ _ h1,Nat.mul_comm i k,Nat.mul_add_div (by omega),Nat.div_eq_of_lt hj,Nat.mul_add_mod,Nat.mod_eq_of_lt hj,Nat.add_zero]
theorem some_get! {xs:List Value} {j:Nat} (h:j<xs.length):xs[j]? = some xs[j]!:=by
  rw [List.getElem?_eq_getElem h,getElem!_pos xs j h]
theorem zME {E:Enc α} {enc:β->List Value} {f:β->α} {A:Av} {B T blk cap:Nat} {w:World} {xs:List α} {d:Array β} (hk:∀ b,(enc b).length=E.size) (henc:∀ (b:β) A w cs,E.rep A w (f b) cs->cs=enc b) (hd:d.toList.map f=xs) (h:Vec E A B T w (.slice (some ⟨blk,0,none⟩) xs.length cap) xs):HoldsK enc E.size w blk 0 d:=by
  obtain ⟨cs,hown,hf⟩:=h
  intro t ht
  rw [size_flatK] at ht
  have hlen:d.size=xs.length:=by rw [<- hd];simp
  have k0:0<E.size:=Nat.pos_of_ne_zero fun h=>by rw [h] at ht;simp at ht
  have hi:t / E.size<d.size:=(Nat.div_lt_iff_lt_mul k0).2 ht
  have hj:t % E.size<E.size:=Nat.mod_lt _ k0
  have hx:xs[t / E.size]? = some (f d[t / E.size]!):=by
    rw [<- hd,List.getElem?_map]
    simp [hi]
  obtain ⟨ds,h1,h2⟩:=hf.2 _ _ hx
  have h3:=henc _ _ _ _ h1
  subst h3
  have h4:=h2 (t % E.size) _ (some_get! (by rw [hk];exact hj))
  rw [Nat.div_add_mod'] at h4
  refine ⟨?_,?_⟩
  . have := hown.cells (g := blk) rfl t _ h4
    rw [zCg] at this
    rw [get_flatK _ _ _ _ ht]
    exact this
  . rcases hown.2 with ⟨e, _⟩ | ⟨g, cap', cur, e, hb, hg, hnc, _, hcs, _⟩
    . cases e
    . injection e with e1 e2 e3
      injection e1 with e1
      injection e1 with e1
      subst e1
      rw [Nat.zero_add]
      exact hg.frozen t (by rw [hcs];exact Nat.lt_of_lt_of_le ht (by rw [hlen];exact Nat.mul_le_mul_right _ hnc))
theorem zOE {E : Enc α} {enc : β -> List Value} {f : β -> α} {A : Av} {B T blk cap n : Nat} {w : World} {xs ys : List α} {d : Array β} {os : Array Obj} (hk : ∀ b, (enc b).length = E.size) (henc : ∀ (b : β) A w cs, E.rep A w (f b) cs -> cs = enc b)
    (hrep:∀ A w A' w' x cs,E.rep A w x cs->E.rep A' w' x cs) (hd:d.toList.map f=ys) (hl:ys.length=xs.length) (hsub:∀ y ∈ ys,y ∈ xs) (h:Vec E A B T w (.slice (some ⟨blk,0,none⟩) xs.length cap) xs) :
    Vec E A B T (grow (putRow id (Go.Sort.ahead w n) blk 0 (flatK enc E.size d)) os) (.slice (some ⟨blk,0,none⟩) xs.length cap) ys:=by
  obtain ⟨cs,hown,hf⟩:=h
  have hrow:∀ b ∈ d.toList,∀ A w,E.rep A w (f b) (enc b):=by
    intro b hb A' w'
    obtain ⟨i,hi⟩:=List.mem_iff_getElem?.1 (hsub _ (hd ▸ List.mem_map_of_mem hb))
    obtain ⟨ds,h1,h2⟩:=hf.2 i _ hi
    have h3:=henc _ _ _ _ h1
    subst h3
    exact hrep _ _ _ _ _ _ h1
  rcases hown.2 with ⟨e,_⟩ | ⟨g,cap',cur,e,hb,hg,hnc,hcm,hcs,htk⟩
  . cases e
  . injection e with e1 e2 e3
    injection e1 with e1
    injection e1 with e1
    subst e1 e3
    have hds:d.size=ys.length:=by rw [<- hd];simp
    have hFs:(flatK enc E.size d).size=ys.length*E.size:=by rw [size_flatK,hds]
    generalize hF:flatK enc E.size d=F at *
    have hcl:ys.length*E.size<=cur.size:=by
      rw [hcs]
      exact Nat.mul_le_mul_right _ (by omega)
    have hcur:∀ j,j<ys.length*E.size->(putCells id 0 F cur)[j]? = some F[j]!:=fun j hj=>by
      have hjc:j<cur.size:=by omega
      simp only [putCells,Array.getElem?_mapIdx]
      rw [Array.getElem?_eq_getElem hjc]
      simp [hFs,hj]
    have hlay:(putCells id 0 F cur).toList.take (ys.length*E.size)=F.toList:=by
      apply List.ext_getElem?
      intro j
      by_cases hj:j<ys.length*E.size
      . have hjF : j < F.size := by omega
        rw [List.getElem?_take,if_pos hj,Array.getElem?_toList,hcur j hj,Array.getElem?_toList,Array.getElem?_eq_getElem hjF,getElem!_pos F j hjF]
      . rw [List.getElem?_take,if_neg hj,List.getElem?_eq_none (by rw [Array.length_toList];omega)]
    refine ⟨F.toList,⟨by rw [Array.length_toList,hFs],.inr ⟨blk,cap,putCells id 0 F cur,by rw [hl],hb,hg.putRw,by rw [hl];exact hnc,hcm,by simp [putCells,hcs],hlay⟩⟩,by rw [Array.length_toList,hFs],fun i y hy=>?_⟩
    . have hiy : i < ys.length := (List.getElem?_eq_some_iff.1 hy).1
      have hid:i<d.size:=by omega
      have hfd:f d[i]! = y:=by
        rw [<- hd,List.getElem?_map] at hy
        simp [hid] at hy
        simpa [hid] using hy
      have hm:d[i]! ∈ d.toList:=by
        rw [getElem!_pos d i hid]
        exact Array.getElem_mem_toList hid
      refine ⟨enc d[i]!,hfd ▸ hrow _ hm _ _,fun j u hj=>?_⟩
      have hjk:j<E.size:=by rw [<- hk d[i]!];exact (List.getElem?_eq_some_iff.1 hj).1
      have hij:i*E.size+j<F.size:=by
        have:=Nat.mul_le_mul_right E.size (show i+1<=ys.length from hiy)
        rw [Nat.add_mul,Nat.one_mul] at this
        omega
      rw [Array.getElem?_toList,Array.getElem?_eq_getElem hij,<- getElem!_pos F _ hij,<- hF,zMr hk hid hjk,<- hj]
      exact (some_get! (by rw [hk];exact hjk)).symm
end
theorem zIq (x:Int) (w:World):Calls Tryz.prog 117 #[.int .i64 x] w fun e w'=>e=.returned (.bool false)/\w=w':=by
  go_enter Tryz.func117,Tryz.ntmps117
  go_wp2
  go_ret
  exact ⟨by simp,rfl⟩
def cmpI (x y:Int):Int:=if x<y then -1 else if y<x then 1 else 0
theorem zIb (x y:Int) (w:World):Calls Tryz.prog 81 #[.int .i64 x,.int .i64 y] w fun e w'=>e=.returned (.int .i64 (cmpI x y))/\w=w':=by
  by_cases h:x<y
  . go_enter Tryz.func81, Tryz.ntmps81
    go_wp2_with (go_at_call 117;refine (zIq _ _).mono ?_;rintro e w' ⟨rfl,rfl⟩)
    go_ret
    exact ⟨by simp [cmpI,h],rfl⟩
  . by_cases h' : y < x
    . go_enter Tryz.func81, Tryz.ntmps81
      go_wp2_with (go_at_call 117;refine (zIq _ _).mono ?_;rintro e w' ⟨rfl,rfl⟩)
      go_ret
      exact ⟨by simp [cmpI,h,h'],rfl⟩
    . go_enter Tryz.func81, Tryz.ntmps81
      go_wp2_with (go_at_call 117;refine (zIq _ _).mono ?_;rintro e w' ⟨rfl,rfl⟩)
      go_ret
      have e:cmpI x y=0:=by unfold cmpI;rw [if_neg (by omega),if_neg (by omega)]
      exact ⟨by rw [e];simp,rfl⟩
def or2 (x y:Int):Int:=if x ≠ 0 then x else y
theorem zPx (x y:Int) (g:Nat) (w:World) (h0:w.cell? ⟨g,0,none⟩=some (.int .i64 x)) (h1:w.cell? ⟨g,1,none⟩=some (.int .i64 y)):Calls Tryz.prog 80 #[.slice (some ⟨g,0,none⟩) 2 2] w fun e w'=>e=.returned (.int .i64 (or2 x y))/\w=w':=by
  have HC0:=Lib.hid h0
  have HC1:=Lib.hid h1
  by_cases hx:x=0
  . subst hx
    by_cases hy:y=0
    . subst hy
      go_enter Tryz.func80,Tryz.ntmps80
      go_wp2
      go_loop [8] (fun i=>∃ k:Nat,k<=2/\i=.int .i64 k) (fun i=>2-(intOf i).toNat)
      case atStart=>exact ⟨0,by omega,rfl⟩
      case round=>
        obtain ⟨k,hk,rfl⟩:=hrel
        have hc0:=HC0.out
        have hc1:=HC1.out
        rcases Nat.lt_or_ge k 1 with h | h
        . obtain rfl : k = 0 := by omega
          go_wp2
          go_round
          case rel=>exact ⟨1,by omega,rfl⟩
          case measure=>simp [intOf]
        . rcases Nat.lt_or_ge k 2 with h' | h'
          . obtain rfl : k = 1 := by omega
            go_wp2
            go_round
            case rel=>exact ⟨2,by omega,rfl⟩
            case measure=>simp [intOf]
          . obtain rfl : k = 2 := by omega
            go_wp2
            go_ret
            exact ⟨rfl,rfl⟩
    . have hy' : (y == 0) = false := by simpa using hy
      go_enter Tryz.func80,Tryz.ntmps80
      go_wp2
      go_loop [8] (fun i=>∃ k:Nat,k<=1/\i=.int .i64 k) (fun i=>2-(intOf i).toNat)
      case atStart=>exact ⟨0,by omega,rfl⟩
      case round=>
        obtain ⟨k,hk,rfl⟩:=hrel
        have hc0:=HC0.out
        have hc1:=HC1.out
        rcases Nat.lt_or_ge k 1 with h | h
        . obtain rfl : k = 0 := by omega
          go_wp2
          go_round
          case rel=>exact ⟨1,by omega,rfl⟩
          case measure=>simp [intOf]
        . obtain rfl : k = 1 := by omega
          go_wp2
          go_ret
          exact ⟨by simp [or2],rfl⟩
  . have hx' : (x == 0) = false := by simpa using hx
    go_enter Tryz.func80,Tryz.ntmps80
    go_wp2
    go_loop [8] (fun i=>∃ k:Nat,k<=0/\i=.int .i64 k) (fun i=>2-(intOf i).toNat)
    case atStart=>exact ⟨0,by omega,rfl⟩
    case round=>
      obtain ⟨k,hk,rfl⟩:=hrel
      have hc0:=HC0.out
      have hc1:=HC1.out
      obtain rfl:k=0:=by omega
      go_wp2
      go_ret
      exact ⟨by simp [or2,hx],rfl⟩
def cmpP (a b:Int × Int):Int:=or2 (cmpI a.1 b.1) (cmpI a.2 b.2)
set_option maxRecDepth 100000 in
set_option maxHeartbeats 1000000 in
theorem zIC (a b:Int × Int) (w:World):Calls Tryz.prog 50 #[.agg #[.int .i64 a.1,.int .i64 a.2],.agg #[.int .i64 b.1,.int .i64 b.2]] w fun e w'=>e=.returned (.int .i64 (cmpP a b))/\Below w.heap.size w w'/\w.drawn<=w'.drawn:=by
  obtain ⟨a1,a2⟩:=a
  obtain ⟨b1,b2⟩:=b
  go_enter Tryz.func50,Tryz.ntmps50
  go_wp2
  have hb:Below w.heap.size w ((w.alloc (.cells #[.int .i64 a1,.int .i64 a2] 48)).alloc (.cells #[.int .i64 b1,.int .i64 b2] 48)):=by
    have h1:Below w.heap.size w (w.alloc (.cells #[.int .i64 a1,.int .i64 a2] 48)):=(Below.refl _ _).alloc (Nat.le_refl _) _
    exact h1.alloc h1.size _
  have k1:Blk ((w.alloc (.cells #[.int .i64 a1,.int .i64 a2] 48)).alloc (.cells #[.int .i64 b1,.int .i64 b2] 48)) w.heap.size 48 #[.int .i64 a1,.int .i64 a2]:=(Blk.new w 48 _).alloc _
  have k2:Blk ((w.alloc (.cells #[.int .i64 a1,.int .i64 a2] 48)).alloc (.cells #[.int .i64 b1,.int .i64 b2] 48)) (w.heap.size+1) 48 #[.int .i64 b1,.int .i64 b2]:=by
    have:=Blk.new (w.alloc (.cells #[.int .i64 a1,.int .i64 a2] 48)) 48 #[.int .i64 b1,.int .i64 b2]
    simpa using this
  have hd:w.drawn<=((w.alloc (.cells #[.int .i64 a1,.int .i64 a2] 48)).alloc (.cells #[.int .i64 b1,.int .i64 b2] 48)).drawn:=Nat.le_refl _
  generalize ((w.alloc (.cells #[.int .i64 a1,.int .i64 a2] 48)).alloc (.cells #[.int .i64 b1,.int .i64 b2] 48))=W2 at *
  refine wp_region_still_tail 10 (by kernel_rfl) (by kernel_rfl) ?_
  obtain ⟨W3,hW3⟩:∃ W3:World,W3 = { W2 with drawn:=W2.drawn+1 }:=⟨_,rfl⟩
  have hb3:Below w.heap.size w W3:=by subst hW3;exact ⟨hb.os,hb.tape,hb.output,hb.size,hb.block⟩
  have hd3:w.drawn<=W3.drawn:=by subst hW3;exact Nat.le_succ_of_le hd
  have c1:W3.cell? ⟨w.heap.size,0,none⟩=some (.int .i64 a1):=by subst hW3;exact k1.cell 0
  have c2:W3.cell? ⟨w.heap.size,1,none⟩=some (.int .i64 a2):=by subst hW3;exact k1.cell 1
  have c3:W3.cell? ⟨w.heap.size+1,0,none⟩=some (.int .i64 b1):=by subst hW3;exact k2.cell 0
  have c4:W3.cell? ⟨w.heap.size+1,1,none⟩=some (.int .i64 b2):=by subst hW3;exact k2.cell 1
  rw [<- hW3]
  clear hW3 k1 k2 hb hd
  simp only [List.take_succ_cons,List.take_zero,List.drop_succ_cons,List.drop_zero]
  still_step
  still_step
  still_step
  still_step
  still_call (zIb _ _ _).mono (fun e w' ⟨h1,h2⟩=>⟨h1,h2.symm⟩)
  still_step
  still_step
  still_step
  still_step
  still_call (zIb _ _ _).mono (fun e w' ⟨h1,h2⟩=>⟨h1,h2.symm⟩)
  refine wpStill_nil ?_
  go_wp2_with (go_at_call 80;refine (zPx _ _ _ _ ((Blk.new W3 _ _).cell 0) ((Blk.new W3 _ _).cell 1)).mono ?_;rintro e w' ⟨rfl,rfl⟩)
  go_ret
  exact ⟨rfl,hb3.alloc hb3.size _,hd3⟩
theorem zMg (x y:Int):(cmpI x y<0 ↔ x<y)/\(cmpI x y=0 ↔ x=y):=by
  unfold cmpI
  by_cases h:x<y
  . rw [if_pos h];omega
  . rw [if_neg h]
    by_cases h':y<x
    . rw [if_pos h'];omega
    . rw [if_neg h'];omega
theorem zMX (a b:Int × Int):cmpP a b<0 ↔ a.1<b.1\/(a.1=b.1/\a.2<b.2):=by
  obtain ⟨h1,h2⟩:=zMg a.1 b.1
  obtain ⟨h3,h4⟩:=zMg a.2 b.2
  unfold cmpP or2
  by_cases h:cmpI a.1 b.1=0
  . rw [if_neg (by simpa using h)]
    omega
  . rw [if_pos h]
    omega
def ltP (a b:Int × Int):Bool:=decide (cmpP a b<0)
theorem zP9 {w w':World} (h:Below w.heap.size w w') (hd:w.drawn<=w'.drawn):∃ q os,w'=grow (w.drewN q) os:=by
  refine ⟨w'.drawn-w.drawn,w'.heap.extract w.heap.size w'.heap.size,?_⟩
  have hh:w'.heap=w.heap++w'.heap.extract w.heap.size w'.heap.size:=by
    apply Array.ext_getElem?
    intro k
    by_cases hk:k<w.heap.size
    . rw [Array.getElem?_append_left hk]
      exact h.block k hk
    . rw [Array.getElem?_append_right (by omega), Array.getElem?_extract]
      split
      . congr 1
        omega
      . exact Array.getElem?_eq_none (by have:=h.size;omega)
  have hd:w'.drawn=w.drawn+(w'.drawn-w.drawn):=by omega
  have h1:=h.os
  have h2:=h.tape
  have h3:=h.output
  obtain ⟨a1,a2,a3,a4,a5⟩:=w
  obtain ⟨b1,b2,b3,b4,b5⟩:=w'
  simp only [World.drewN,grow] at *
  subst h1 h2 h3
  rw [<- hh,<- hd]
def encP (x:Int × Int):List Value:=[.int .i64 x.1,.int .i64 x.2]
theorem zOy (b:Int × Int) (A:Av) (w:World) (cs:List Value) (h:zA3.rep A w b cs):cs=encP b:=by
  obtain ⟨_,_,rfl,rfl,rfl⟩:=h
  rfl
theorem zPa (A:Av) (w:World) (b:Int × Int):zA3.rep A w b (encP b):=zFJ zBk zBk
def zKC (fu:Nat) (p0:List zA5) (p1:zA5->zA5->Option Int):Option (List zA5):=ck (zBJ p0.length) (some (p0.mergeSort fun x y=>!(ltP y x)))
theorem zL1 {fu : Nat} {A0 : Av} {p0 r : List zA5} {p1 : zA5 -> zA5 -> Option Int} (hr : zKC fu p0 p1 = some r) {w : World} {v0 v1 : Value} {B0 : Nat} (hA : AvOK A0 w) (hN : ∀ b o, A0 b o -> ¬ zAB v0 b) (h0 : (Res.vec B0 48 zA3 p0).ok A0 v0 w)
    (h1:v1=.func (.func 50) #[] #[]) :
    Calls Tryz.prog 49 #[v0,v1] w fun e w'=>∃ v,e=.returned v/\(v=.tuple #[]/\(Res.vec B0 48 zA3 r).ok A0 v0 w'/\Ch (zAB v0) w w'):=by
  obtain ⟨hlen,hr⟩:=zA7 hr
  obtain rfl:=Option.some.inj hr
  rcases zKQ h0 with ⟨rfl,e0⟩ | ⟨blk,cap,rfl,hb⟩
  . refine (AnyF.slices_SortFunc_none Tryz.laysSortP none 0 v1 w).mono ?_
    rintro e w' ⟨he,rfl⟩
    refine ⟨_,he,rfl,?_,Ch.refl _ _⟩
    subst e0
    rw [List.mergeSort_nil]
    exact h0
  . subst h1
    let d:Array (Int × Int):=p0.toArray
    have hdm:d.toList.map (fun b:Int × Int=>b)=p0:=by show p0.toArray.toList.map (fun b=>b)=p0;simp
    have hds:d.size=p0.length:=by show p0.toArray.size=_;simp
    have hlt:∀ x y:Int × Int,(ltOf cmpP) x y=true ↔ x.1<y.1\/(x.1=y.1/\x.2<y.2):=fun x y=>by
      rw [<- zMX]
      simp [ltOf]
    have hlf:∀ x y:Int × Int,(ltOf cmpP) x y=false ↔ ¬ (x.1<y.1\/(x.1=y.1/\x.2<y.2)):=fun x y=>by
      rw [<- hlt]
      simp
    have hO:SWO (ltOf cmpP):=by
      refine ⟨fun x=>?_,fun x y z hxy hyz=>?_,fun x y z hxy hyz=>?_⟩
      . rw [hlf];omega
      . rw [hlt] at *;omega
      . rw [hlf] at *;omega
    have hT:∀ x y,(ltOf cmpP) x y=false->(ltOf cmpP) y x=false->x=y:=by
      intro x y hxy hyx
      rw [hlf] at hxy hyx
      exact Prod.ext (by omega) (by omega)
    have hcmp:CmpLays Tryz.prog 50 #[] encP 2 cmpP blk 0 d.size w:=by
      intro m os dk hdk x y
      refine (zIC x y (sortWorldK encP 2 w blk 0 m dk os)).mono ?_
      rintro e w' ⟨he,hbel,hdr⟩
      exact ⟨he,zP9 hbel hdr⟩
    have hH:HoldsK encP 2 w blk 0 d:=zME (E:=zA3) (f:=fun b:Int × Int=>b) (fun _=>rfl) (fun b A w cs h=>zOy b A w cs h) hdm h0
    have key:=AnyQ.slices_SortFunc_total Tryz.laysSortP 2 Tryz.isAgg48 Tryz.sizeOf48 encP (fun _=>rfl) (fun x v hv=>zA3.oc (zPa (fun _ _=>False) w x) v hv) cmpP hO 50 #[] blk 0 cap d w (fun args w=>Tryz.call50 args w) hcmp hH hb (by rw [hds];have:=zFX hlen;omega) hT
    rw [hds] at key
    refine key.mono ?_
    rintro e w' ⟨he,n,os,rfl⟩
    refine ⟨_,he,rfl,?_,zKj rfl⟩
    exact zOE (E:=zA3) (enc:=encP) (f:=fun b:Int × Int=>b) (n:=n) (os:=os) (d:=(d.toList.mergeSort fun x y=>!(ltOf cmpP) y x).toArray) (fun _=>rfl) (fun b A w cs h=>zOy b A w cs h) (fun _ _ _ _ _ _ h=>by have:=zOy _ _ _ _ h;subst this;exact zPa _ _ _) (by show (List.toArray _).toList.map (fun b=>b)=_;simp [d];rfl) (by simp) (fun y hy=>(List.mem_mergeSort.1 hy)) h0
end Go.Proofs.YtldppodfhabkjaaGreatDoor

