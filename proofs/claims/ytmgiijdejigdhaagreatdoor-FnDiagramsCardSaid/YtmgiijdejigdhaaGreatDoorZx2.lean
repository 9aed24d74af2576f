/- Own texts laid together. No statement of the seat is proved here. -/
import Derived.Test.YtmgiijdejigdhaaGreatDoorZx1
import Derived.Test.YtmgiijdejigdhaaGreatDoorProg
import Derived.Shelf.Strconv.Itoa3
import Derived.Shelf.Strings.OnBuilder
import Derived.Ground.NamesProg
import Derived.Ground.SlsfProg
import Derived.Shelf.Slices.In.SortNone
import Derived.Shelf.SlSortCmp.NoneTotal
import Derived.Shelf.Small.Strs
import Derived.Shelf.Sort.Plain
import Derived.Lib.LaidTab
import Derived.ProofKit
import Derived.OpenShut
import Derived.Deep.Slices
import Derived.Deep.Fields
import Derived.ChangeSame
import Derived.ChangeArms
import Derived.MakeChecks
import Derived.Test.YtmgiijdejigdhaaGreatDoorCards
import Derived.Test.YtmgiijdejigdhaaGreatDoorTie
import Derived.ChangeOld
import Derived.Carry
import Derived.OpenVars
import Derived.Deep.DeepHandedRow
import Derived.Maps.Own
import Derived.Maps.Views
import Derived.Shelf.SlSortCmp.WholeK
namespace Go.Proofs.YtmgiijdejigdhaaGreatDoor
open Go.RowKit
set_option linter.unusedVariables false
abbrev Pin:=Value × List Value
def zIa (w:World) (S:Nat->Prop) (q:Pin):Prop:=∃ b o,q.1=.pointer (some ⟨b,o,none⟩)/\S b/\∀ (j:Nat) u,q.2[j]? = some u->w.cell? ⟨b,o+j,none⟩=some u
def trP {α : Type} (F : OE α) (x : α) (pins : List Pin) : SP where
  P:=fun A w S u=>(∃ cs,u=F.E.val cs/\F.own A w S x cs)/\∀ q,q ∈ pins->zIa w S q
  lt:=fun ⟨⟨_,_,h⟩,_⟩ hk=>F.lt h hk
  stab:=fun ⟨⟨cs,h1,h2⟩,h3⟩ hb hs=>⟨⟨cs,h1,F.stab h2 hb hs⟩,fun q hq=>let ⟨b,o,h4,h5,h6⟩:=h3 q hq;⟨b,o,h4,h5,fun j u hj=>(World.cell?_of_block (hb b h5)).trans (h6 j u hj)⟩⟩
abbrev trR {α:Type} (K:Nat->Prop) (F:OE α) (x:α) (pins:List Pin):Res:=.gen K (trP F x pins)
abbrev geB (B:Nat):Nat->Prop:=fun k=>B<=k
def padd : Value -> Nat -> Value
  | .pointer (some a),k=>.pointer (some ⟨a.block,a.off+k,none⟩)
  | v,_=>v
theorem zCS (u:Value) (m k:Nat):padd (padd u m) k=padd u (m+k):=by
  cases u with
  | pointer a=>
    cases a with
    | none=>rfl
    | some a=>simp [padd,Nat.add_assoc]
  | _=>rfl
theorem zCc {u:Value} (h:∃ b o,u=.pointer (some ⟨b,o,none⟩)):padd u 0=u:=by
  obtain ⟨b,o,rfl⟩:=h
  rfl
theorem zJq (u:Value) (m k:Nat):padd (vptr u m) k=vptr u (m+k):=by
  unfold vptr
  split
  . unfold padd
    simp [Nat.add_assoc]
  . rfl
theorem zLn {α:Type} {E:Enc α} {A:Av} {w:World} {x:α} {cs:List Value} (h:E.rep A w x cs):(E.val cs).cells.toList=cs:=by
  have hl:=E.len h
  cases ha:E.agg with
  | true=>simp [Enc.val,ha,Value.cells]
  | false=>
    have h1:=E.one ha
    rw [h1] at hl
    match cs,hl,h with
    | [c],_,h=>
      have h2:=E.oc h c (by simp)
      have:(Enc.val E [c]).cells = #[c]:=by
        simp only [Enc.val,ha]
        cases c <;> first | rfl | cases h2
      rw [this]
section
variable {α β γ:Type} {F:OE α} {G:OE β} {A A0:Av} {w:World} {S:Nat->Prop}
theorem OE.rep0 (F:OE α) {x:α} {cs:List Value} (h:F.own A w S x cs):F.E.rep av0 w x cs:=F.rep h (fun _ _ h=>h.elim) fun _ _ _ h=>h
theorem OE.cells (F:OE α) {x:α} {cs:List Value} (h:F.own A w S x cs):(F.E.val cs).cells.toList=cs:=zLn (F.rep0 h)
theorem zAJ {x:α} {pins:List Pin} {u:Value} (h:(trP F x pins).P A w S u):zFD F A w S u x (fun z A w S=>(trP F z []).P A w S u):=by
  obtain ⟨⟨cs,rfl,h1⟩,_⟩:=h
  have:=VHole.root h1
  exact ⟨S,cs,rfl,this.own,this.sub,fun A' w' S1' y' k1 k2 k3 k4=>⟨⟨cs,rfl,this.put A' w' S1' y' k1 k2 k3 k4⟩,fun q hq=>by cases hq⟩⟩
theorem zFD.elem [Inhabited α] {T:TypeId} {v:Value} {xs:List α} {Q:List α->Pw} (h:zFD (oSl T F) A w S v xs Q) {i:Int} {m:Nat} (hi:inR i xs.length=true) (hm:i.toNat*F.E.size=m):zES F A w S (vptr v m) (gtD xs i) (fun z=>Q (xs.set i.toNat z)):=by
  obtain ⟨S1,cs,rfl,h⟩:=h
  obtain ⟨g,n,c,S2,ds,rfl,h2⟩:=h.elem (zJT hi)
  exact ⟨g,m,S2,ds,by show Value.pointer _=_;rw [Nat.zero_add],hm ▸ h2⟩
theorem zFD.len {T:TypeId} {v:Value} {xs:List α} {Q:List α->Pw} (h:zFD (oSl T F) A w S v xs Q):∃ a c,v=.slice a xs.length c/\(0<xs.length->∃ b,a=some ⟨b,0,none⟩):=by
  obtain ⟨S1,cs,rfl,h⟩:=h
  rcases h.own with ⟨rfl,rfl,_⟩ | ⟨g,c,arr,Si,rfl,_⟩
  . exact ⟨none,0,rfl,fun h=>absurd h (by simp)⟩
  . exact ⟨_,c,rfl,fun _=>⟨g,rfl⟩⟩
theorem zES.fst {a:Value} {y:α × β} {Q:α × β->Pw} (h:zES (oPr F G) A w S a y Q):zES F A w S a y.1 (fun z=>Q (z,y.2)):=by
  obtain ⟨b,off,S1,cs,rfl,h⟩:=h
  obtain ⟨Sa,ca,h⟩:=h.fst
  exact ⟨b,off,Sa,ca,rfl,h⟩
theorem zES.snd {a a':Value} {y:α × β} {Q:α × β->Pw} (h:zES (oPr F G) A w S a y Q) (ha:padd a F.E.size=a'):zES G A w S a' y.2 (fun z=>Q (y.1,z)):=by
  obtain ⟨b,off,S1,cs,rfl,h⟩:=h
  obtain ⟨Sa,ca,h⟩:=h.snd
  exact ⟨b,off+F.E.size,Sa,ca,ha.symm,h⟩
theorem zES.bx {a:Value} {y:α} {Q:α->Pw} (h:zES (oBx F) A w S a y Q):zES F A w S a y Q:=by
  obtain ⟨b,off,S1,cs,rfl,h⟩:=h
  exact ⟨b,off,S1,cs,rfl,h.bx⟩
theorem zES.ad {a:Value} {y:α} {Q:α->Pw} (h:zES F A w S a y Q):∃ b off,a=.pointer (some ⟨b,off,none⟩):=let ⟨b,off,_,_,e,_⟩:=h;⟨b,off,e⟩
theorem zES.open {a:Value} {y:α} {Q:α->Pw} (h:zES F A w S a y Q):∃ cs,cs.length=F.E.size/\zIa w S (a,cs):=by
  obtain ⟨b,off,S1,cs,rfl,h⟩:=h
  exact ⟨cs,F.len h.own,b,off,rfl,h.inb,h.at'⟩
theorem zES.open1 {a:Value} {y:α} {Q:α->Pw} (h:zES F A w S a y Q) (ha:F.E.agg=false):∃ v,zIa w S (a,[v]):=by
  obtain ⟨cs,hl,hp⟩:=h.open
  rw [F.E.one ha] at hl
  match cs,hl,hp with
  | [c],_,hp=>exact ⟨c,hp⟩
theorem zES.pinS {a:Value} {y:α} {Q:α->Pw} {S':Nat->Prop} {ds:List Value} (h:zES F A w S a y Q) (hp:zIa w S' (a,ds)) (hl:ds.length=F.E.size):zFD F A w S (F.E.val ds) y Q:=by
  obtain ⟨b,off,S1,cs,rfl,h⟩:=h
  obtain ⟨b',o',e,_,hc⟩:=hp
  injection e with e
  injection e with e
  injection e with e1 e2
  subst e1 e2
  have hl':=F.len h.own
  have:ds=cs:=by
    apply List.ext_getElem?
    intro j
    by_cases hj:j<ds.length
    . have h1 := hc j _ (List.getElem?_eq_getElem hj)
      have hj':j<cs.length:=by omega
      have h2:=h.at' j _ (List.getElem?_eq_getElem hj')
      rw [List.getElem?_eq_getElem hj,List.getElem?_eq_getElem hj']
      exact h1.symm.trans h2
    . rw [List.getElem?_eq_none (by omega),List.getElem?_eq_none (by omega)]
  subst this
  exact ⟨S1,ds,rfl,h.v⟩
theorem zES.pin {a v:Value} {y:α} {Q:α->Pw} {S':Nat->Prop} (h:zES F A w S a y Q) (hp:zIa w S' (a,[v])) (ha:F.E.agg=false):zFD F A w S v y Q:=by
  have:=h.pinS hp (by rw [F.E.one ha];rfl)
  simpa [Enc.val,ha] using this
theorem zFD.ptr {T:TypeId} {u:Value} {y:α} {Q:α->Pw} (h:zFD (oPt T F) A w S u y Q):zES F A w S u y Q:=by
  obtain ⟨S1,cs,rfl,h⟩:=h
  obtain ⟨b,S2,ds,rfl,h2⟩:=h.ptr
  exact ⟨b,0,S2,ds,rfl,h2⟩
theorem zFD.own {v:Value} {y:α} {Q:α->Pw} (h:zFD F A w S v y Q):∃ S1 cs,v=F.E.val cs/\F.own A w S1 y cs/\(∀ k,S1 k->S k):=let ⟨S1,cs,e,h⟩:=h;⟨S1,cs,e,h.own,h.sub⟩
theorem IniOK.repin {ini:List Ob} (h:IniOK ini A w) (i:Nat) {u:Value} {K:Nat->Prop} {p p':SP} (hi:ini[i]? = some ⟨u,S,.gen K p⟩) (hp:p.P A w S u->p'.P A w S u):IniOK (ini.set i ⟨u,S,.gen K p'⟩) A w:=by
  have hlt:=(List.getElem?_eq_some_iff.1 hi).1
  have hset:∀ (j:Nat) q,(ini.set i ⟨u,S,.gen K p'⟩)[j]? = some q->(j=i/\q=⟨u,S,.gen K p'⟩)\/(j ≠ i/\ini[j]? = some q):=fun j q hq=>by
    by_cases e:j=i
    . subst e
      rw [List.getElem?_set_self hlt] at hq
      injection hq with hq
      exact .inl ⟨rfl,hq.symm⟩
    . rw [List.getElem?_set_ne (Ne.symm e)] at hq
      exact .inr ⟨e,hq⟩
  refine ⟨fun j q hq=>?_,fun j q hq=>?_,fun j j' q q' hq hq' hne=>?_⟩
  . rcases hset j q hq with ⟨rfl, rfl⟩ | ⟨_, hq⟩
    . exact ⟨trivial,(h.ok j _ hi).2⟩
    . exact h.ok j q hq
  . rcases hset j q hq with ⟨rfl, rfl⟩ | ⟨_, hq⟩
    . have := h.own j _ hi
      exact ⟨this.1,hp this.2⟩
    . exact h.own j q hq
  . have key:∀ (j:Nat) q,(ini.set i ⟨u,S,.gen K p'⟩)[j]? = some q->∃ q0,ini[j]? = some q0/\q0.S=q.S:=fun j q hq=>by
      rcases hset j q hq with ⟨rfl,rfl⟩ | ⟨_,hq⟩
      . exact ⟨_,hi,rfl⟩
      . exact ⟨q,hq,rfl⟩
    obtain ⟨q0,h1,h2⟩:=key j q hq
    obtain ⟨q1,h3,h4⟩:=key j' q' hq'
    rw [<- h2,<- h4]
    exact h.dis j j' q0 q1 h1 h3 hne
theorem trP.pin {x:α} {pins:List Pin} {u:Value} {q:Pin} (hq:zIa w S q) (h:(trP F x pins).P A w S u):(trP F x (q::pins)).P A w S u:=
  ⟨h.1,fun q' hq'=>by
    rcases List.mem_cons.1 hq' with rfl | hq'
    . exact hq
    . exact h.2 q' hq'⟩
theorem trP.nopin {x:α} {pins:List Pin} {u:Value} (h:(trP F x pins).P A w S u):(trP F x []).P A w S u:=⟨h.1,fun q hq=>by cases hq⟩
theorem zIk {E:Enc α} {B:Nat} {T:TypeId} {u:Value} {xs:List α} (h:Vec E A B T w u xs) (hT:T ≠ zKi):∃ cs,u=(oSl T (oRd E)).E.val cs/\(oSl T (oRd E)).own A w (zAH u) xs cs:=by
  obtain ⟨cs,hown,hf⟩:=h
  rcases hown.2 with ⟨rfl,h0⟩ | ⟨g,c,arr,rfl,hb,hg,hnc,hcm,hcs,htk⟩
  . obtain rfl : xs = [] := List.eq_nil_of_length_eq_zero h0
    exact ⟨[.slice none 0 0],rfl,.inl ⟨rfl,rfl,fun k hk=>hk⟩⟩
  . refine ⟨[.slice (some ⟨g, 0, none⟩) xs.length c], rfl, .inr ⟨g, c, arr, fun _ _ => False, rfl, hg.plain hT, hnc, hcm, hcs, ⟨fun i x hx => ?_, fun _ _ _ _ _ _ h => h.elim, fun _ _ h => h, fun k => ⟨fun hk => .inl (Eq.symm hk), fun hk => hk.elim (fun e => Eq.symm e) fun ⟨_, _, h⟩ => h.elim⟩⟩⟩⟩
    obtain ⟨ds,h1,h2⟩:=hf.2 i x hx
    refine ⟨ds,⟨fun _ h=>h,h1⟩,fun j u hj=>?_⟩
    have:=h2 j u hj
    rw [<- htk,List.getElem?_take] at this
    show arr[i*E.size+j]? = some u
    split at this
    . simpa using this
    . cases this
theorem zLQ {E:Enc α} {B:Nat} {T:TypeId} {v:Value} {xs:List α} {cs:List Value} (h:(oSl T (oRd E)).own A w S xs cs) (hv:v=(oSl T (oRd E)).E.val cs) (hB:∀ k,S k->B<=k):Vec E A B T w v xs/\S=zAH v:=by
  subst hv
  rcases h with ⟨rfl,rfl,h⟩ | ⟨g,c,arr,Si,rfl,h1,h2,h3,h4,h5⟩
  . refine ⟨zKZ, ?_⟩
    funext k
    rw [eq_iff_iff]
    exact ⟨fun hk=>(h k hk).elim,fun hk=>hk.elim⟩
  . have hsi:∀ i k,i<xs.length->¬ Si i k:=fun i k hi hk=>by
      obtain ⟨ds,h6,_⟩:=h5.el i _ (List.getElem?_eq_getElem hi)
      exact h6.1 k hk
    refine ⟨⟨arr.toList.take (xs.length*E.size),⟨?_,.inr ⟨g,c,arr,rfl,hB g ((h5.set g).2 (.inl rfl)),BlkM.of h1,h2,h3,h4,rfl⟩⟩,?_,fun i x hx=>?_⟩,?_⟩
    . have := Nat.mul_le_mul_right E.size h2
      have h4':arr.toList.length=c*E.size:=by rw [Array.length_toList];exact h4
      rw [List.length_take,h4']
      exact Nat.min_eq_left this
    . have := Nat.mul_le_mul_right E.size h2
      have h4':arr.toList.length=c*E.size:=by rw [Array.length_toList];exact h4
      rw [List.length_take,h4']
      exact Nat.min_eq_left this
    . obtain ⟨ds, h6, h7⟩ := h5.el i x hx
      refine ⟨ds,h6.2,fun j u hj=>?_⟩
      have hi:=(List.getElem?_eq_some_iff.1 hx).1
      have hj':=(List.getElem?_eq_some_iff.1 hj).1
      rw [E.len h6.2] at hj'
      have:=Nat.mul_le_mul_right E.size (show i+1<=xs.length by omega)
      rw [Nat.add_mul,Nat.one_mul] at this
      rw [List.getElem?_take,if_pos (by omega),Array.getElem?_toList]
      exact h7 j u hj
    . funext k
      rw [eq_iff_iff]
      refine ⟨fun hk=>?_,fun hk=>(h5.set k).2 (.inl (Eq.symm hk))⟩
      rcases (h5.set k).1 hk with rfl | ⟨i,hi,hk⟩
      . exact rfl
      . exact (hsi i k hi hk).elim
theorem zKx {x:α} {pins:List Pin} {u:Value} (h:(trP F x pins).P A w S u) (hA:∀ b o,A0 b o->A b o) (hn:∀ k o,S k->¬ A0 k o):Rep F.E A0 w u x:=
  let ⟨⟨cs,e,h1⟩,_⟩:=h;⟨cs,e,F.rep h1 hA hn⟩
end
section
variable {P:Program} {R:Reg} {w:World} {d:Option Nat} {t:TypeId} {p:String} {af:Array Edge} {g:Option (Nat × Bool)} {A:Av} {α β:Type} {S:Nat->Prop}
variable {E:Enc α} {F:OE α} {x ix:Operand} {T e:TypeId} {K:Nat->Prop} {u a v:Value}
theorem zDf {w':World} {S'':Nat->Prop} (hav:∀ k,S k->∀ o,A k o) (hc:Ch S w w') (hS:∀ k,k<w.heap.size->S'' k->S k):Stp A (zHh A S S'') w w':=
  ⟨hc.size,fun b o v hv hn=>(World.cell?_of_block (w:=w) (hc.block b (zFA hv) fun h=>hn (hav b h o))).trans hv,fun b o hb h=>h.elim (·.1) fun h=>hav b (hS b hb h) o⟩
theorem zGE {xs:List α} {Q:List α->Pw} {A':Av} {w0:World} {T':TypeId} (h:zFD (oSl T' F) A' w0 S v xs Q) (hx:zAM R x=v) (hu:P.underlying T=some (.slice e)):OpF P ⟨d,.call ⟨.builtin .len,#[x],#[T]⟩,t,p,af,g⟩ R w (.raw (.int .i64 (xs.length:Int))):=by
  obtain ⟨ad,cap,rfl,_⟩:=h.len
  exact zAV (w':=w) (by simp [execOp,resolve,invoke,builtin,Builtin.len_,hx,underlying,hu,goInt]) ⟨rfl,Fr.refl _⟩
theorem zDO {k : IntKind} {i : Int} {xs : List α} {Q : List α -> Pw} {A' : Av} {w0 : World} {T' : TypeId} {s m : Nat} (h : zFD (oSl T' F) A' w0 S v xs Q) (hx : zAM R x = v) (hi : zAM R ix=.int k i) (hu : P.underlying T = some (.slice e)) (hsz : ∀ w, (sizeOf e).run P w=.ok s w) (hr : inR i xs.length = true) (hm : i.toNat * s = m) :
    OpF P ⟨d,.indexAddr T x ix,t,p,af,g⟩ R w (.raw (vptr v m)):=by
  subst hm
  obtain ⟨ad,cap,rfl,hb⟩:=h.len
  obtain ⟨i0,i1⟩:=zDb.1 hr
  obtain ⟨b,rfl⟩:=hb (by omega)
  refine zAV (v:=.pointer (some ⟨b,0+i.toNat*s,none⟩)) (w':=w) ?_ ⟨rfl,Fr.refl _⟩
  have hin:i<(xs.length:Int):=i1
  simp [execOp,Instr.indexAt,hx,hi,asIntOf,underlying,hu,i0,hin,hsz,zDS]
theorem zAQ {sn kn ft off sz : Nat} {a' : Value} (h : ∃ b off, a=.pointer (some ⟨b, off, none⟩)) (hx : zAM R x = a) (hf : FldF P sn kn ft off) (hsz : ∀ w, (sizeOf ft).run P w=.ok sz w) (h0 : sz ≠ 0) (ha : padd a off = a') :
    OpF P ⟨d,.fieldAddr sn x kn,t,p,af,g⟩ R w (.raw a'):=by
  obtain ⟨b,o,rfl⟩:=h
  subst ha
  exact zAV (v:=.pointer (some ⟨b,o+off,none⟩)) (w':=w) (by simp [execOp,zG1 (w:=w) hf hsz h0 hx]) ⟨rfl,Fr.refl _⟩
theorem zGZ {y:α} {Q:α->Pw} (h:zES (oRd E) A w S a y Q) (hx:zAM R x=a) (hag:∀ w,(isAgg T).run P w=.ok E.agg w) (hsz:∀ w,(sizeOf T).run P w=.ok E.size w):OpF P ⟨d,.load T x,t,p,af,g⟩ R w (.rep E A y):=by
  obtain ⟨b,off,S1,cs,rfl,h⟩:=h
  obtain ⟨arr,T',hb,_⟩:=h.blk
  exact zAb ⟨b,off,hx,hb.lt,cs,h.own.2,h.at'⟩ hag hsz
theorem zBX (hp:zIa w S (a,[v])) (hx:zAM R x=a) (hag:∀ w,(isAgg T).run P w=.ok false w) (hsz:∀ w,(sizeOf T).run P w=.ok 1 w):OpF P ⟨d,.load T x,t,p,af,g⟩ R w (.raw v):=by
  obtain ⟨b,o,rfl,_,hc⟩:=hp
  refine zAV (v:=v) (w':=w) ?_ ⟨rfl,Fr.refl _⟩
  have:=zDk (P:=P) (w:=w) (b:=b) (o:=o) (cs:=[v]) hag hsz rfl (fun _=>rfl) hc
  simp [execOp,Instr.loadAt,Instr.sureAddr,hx,this]
theorem zK7 {cs:List Value} (hp:zIa w S (a,cs)) (hl:cs.length=F.E.size) (hx:zAM R x=a) (hag:∀ w,(isAgg T).run P w=.ok F.E.agg w) (hsz:∀ w,(sizeOf T).run P w=.ok F.E.size w):OpF P ⟨d,.load T x,t,p,af,g⟩ R w (.raw (F.E.val cs)):=by
  obtain ⟨b,o,rfl,_,hc⟩:=hp
  refine zAV (v:=F.E.val cs) (w':=w) ?_ ⟨rfl,Fr.refl _⟩
  have:=zDk (P:=P) (w:=w) (b:=b) (o:=o) (cs:=cs) hag hsz hl F.E.one hc
  simp [execOp,Instr.loadAt,Instr.sureAddr,hx,this,Enc.val]
theorem zJg {ad : Operand} {T' : TypeId} {y y' : α} {Q : α -> Pw} {Sv ST : Nat -> Prop} {cs : List Value} {q : SP} (h : zES F A w S a y Q) (hv : F.own A w Sv y' cs) (hxv : zAM R x = F.E.val cs) (had : zAM R ad = a) (hd : ∀ k, S k -> ¬ Sv k) (hST : ∀ k, ST k ↔ S k \/ Sv k) (hav : ∀ k, ST k -> ∀ o, A k o)
    (hB:∀ k,ST k->K k) (hsz:∀ w,(sizeOf T').run P w=.ok F.E.size w) (hQ:∀ A w S,Q y' A w S->q.P A w S u):OpR P ⟨none,.store T' ad x,t,p,af,g⟩ R w (zEs A false u ST (.gen K q) (fun _=>.any) w):=by
  obtain ⟨b,off,S1,es,rfl,h⟩:=h
  obtain ⟨arr,T0,hb,hle⟩:=h.blk
  have hcs:=F.len hv
  have hcl:=F.cells hv
  have hvb:¬ Sv b:=hd b h.inb
  obtain ⟨w',h1,h2,h3⟩:=zFX (P:=P) (o:=off) (v:=zAM R x) hsz (by rw [hxv,hcl];exact F.oc hv) (by rw [hxv,<- Array.length_toList,hcl];exact hcs) hb hle
  rw [hxv,hcl] at h3
  refine zHA (w':=w') ?_ ?_
  . simp only [execOp, Instr.storeAt, Instr.sureAddr, had]
    simp [h1]
  . have hch : Ch ST w w' := (h2.ch).trans (Ch.refl (fun _ => False) w') (fun _ _ h => h.elim) |> fun h => ⟨h.os, h.tape, h.output, h.size, fun k hk hn => h.block k hk fun e => hn ((hST k).2 (.inl (e ▸ ‹Hole F A w S b off y S1 es Q›.inb))), h.drawn⟩
    have hsub:∀ k,k<w.heap.size->((S k/\¬ S1 k)\/Sv k)->ST k:=fun k _ hk=>(hST k).2 (hk.elim (fun h=>.inl h.1) .inr)
    have hst:=zDf hav hch hsub
    have hne:∀ k,Sv k->k ≠ b:=fun k hk e=>hvb (e ▸ hk)
    have hv':F.own (zHh A ST fun k=>(S k/\¬ S1 k)\/Sv k) w' Sv y' cs:=F.stab hv (fun k hk=>h2.block k (hne k hk)) hst
    have hq:=h.put _ w' Sv y' cs hv' (fun j u hj=>?_) ⟨arr,_,T0,hb,h3,zF6 _ _ _,fun j hj=>?_⟩ (fun k _ _ hk=>h2.block k hk) hst (fun k a b=>(hd k b a).elim)
    . refine ⟨u,fun k=>(S k/\¬ S1 k)\/Sv k,rfl,hch,hsub,hst,trivial,⟨fun k hk=>hB k ((hST k).2 (hk.elim (fun h=>.inl h.1) .inr)),hQ _ _ _ hq⟩,trivial⟩
    . have hjl := (List.getElem?_eq_some_iff.1 hj).1
      rw [h3.cell,zGf _ _ _ _ (by omega),if_pos (by omega),Nat.add_sub_cancel_left]
      exact hj
    . rw [zGf _ _ _ _ (by omega),if_neg (by omega)]
theorem zEp {ad : Operand} {T' : TypeId} {y y' : α} {Q : α -> Pw} {q : SP} (h : zES (oRd E) A w S a y Q) (hx : Rep E A w (zAM R x) y') (had : zAM R ad = a) (hav : ∀ k, S k -> ∀ o, A k o) (hB : ∀ k, S k -> K k) (hsz : ∀ w, (sizeOf T').run P w=.ok E.size w) (hQ : ∀ A w S, Q y' A w S -> q.P A w S u) :
    OpR P ⟨none,.store T' ad x,t,p,af,g⟩ R w (zEs A false u S (.gen K q) (fun _=>.any) w):=by
  obtain ⟨cs,hxv,hr⟩:=hx
  exact zJg (F:=oRd E) (Sv:=fun _=>False) (cs:=cs) h ⟨fun _ h=>h,hr⟩ hxv had (fun _ _ h=>h) (fun k=>⟨.inl,fun h=>h.elim id False.elim⟩) hav hB hsz hQ
theorem zCp {zc:Value} {z:α} (hz:∀ w,(zeroValue T).run P w=.ok zc w) (hr:∀ A w,F.own A w (fun _=>False) z zc.cells.toList) (hB:∀ k,w.heap.size<=k->K k):OpR P ⟨d,.alloc T,t,p,af,g⟩ R w (zJL A (trR K (oPt T F) z []) (fun _=>.any) w):=by
  have hf:=Fr.alloc w (.cells zc.cells T)
  refine zAV (v:=.pointer (some ⟨w.heap.size,0,none⟩)) (w':=w.alloc (.cells zc.cells T)) ?_ ⟨fun k=>k=w.heap.size,hf,fun k hk=>Nat.le_of_eq (Eq.symm hk),trivial,⟨fun k hk=>hB k (Nat.le_of_eq (Eq.symm hk)),⟨[.pointer (some ⟨w.heap.size,0,none⟩)],rfl,w.heap.size,zc.cells.toList,fun _=>False,rfl,?_,hr _ _,fun h=>h,fun k=>⟨.inl,fun h=>h.elim id False.elim⟩⟩,fun q hq=>by cases hq⟩,trivial⟩
  . simp [execOp,Instr.alloc,newVar,newRow,hz]
  . have := Blk.new w T zc.cells
    simpa using this
theorem zLr {y:α} {Sv:Nat->Prop} {pins:List Pin} (h:(trP F y pins).P A w Sv u) (hx:zAM R x=u) (hav:∀ k,Sv k->∀ o,A k o) (hBv:∀ k,Sv k->K k) (hB:∀ k,w.heap.size<=k->K k):OpR P ⟨d,.box T x,t,p,af,g⟩ R w (zEs A true u Sv (trR K (oPt T F) y []) (fun _=>.any) w):=by
  obtain ⟨⟨cs,rfl,h⟩,_⟩:=h
  have hf:=Fr.alloc w (.cells (zAM R x).cells T)
  have hsub:∀ k,k<w.heap.size->(k=w.heap.size\/Sv k)->Sv k:=fun k hk h=>h.elim (fun e=>absurd e (by omega)) id
  have hst:=zDf (S'':=fun k=>k=w.heap.size\/Sv k) hav (hf.ch Sv) hsub
  have hcl:=F.cells h
  refine zAV (v:=.pointer (some ⟨w.heap.size,0,none⟩)) (w':=w.alloc (.cells (zAM R x).cells T)) (by simp [execOp,Instr.box,newVar,newRow]) ⟨.pointer (some ⟨w.heap.size,0,none⟩),fun k=>k=w.heap.size\/Sv k,rfl,hf.ch Sv,hsub,hst,trivial,⟨fun k hk=>hk.elim (fun e=>hB k (Nat.le_of_eq (Eq.symm e))) (hBv k),⟨[.pointer (some ⟨w.heap.size,0,none⟩)],rfl,w.heap.size,cs,Sv,rfl,?_,F.stab h (fun k hk=>hf.block k (F.lt h hk)) hst,fun hk=>absurd (F.lt h hk) (Nat.lt_irrefl _),fun k=>Iff.rfl⟩,fun q hq=>by cases hq⟩,trivial⟩
  have:=Blk.new w T (zAM R x).cells
  have e:cs.toArray=(zAM R x).cells:=by rw [hx];exact (congrArg List.toArray hcl).symm
  rw [e]
  exact this
theorem zLT {o:Oper} {q:SP} (h:(execOp (zAM R) o).run P w=.ok (.value u) w) (hq:q.P A w S u) (hav:∀ k,S k->∀ o,A k o) (hB:∀ k,S k->K k):OpR P o R w (zEs A true u S (.gen K q) (fun _=>.any) w):=by
  have hst:=zDf (S'':=S) hav (Ch.refl S w) fun _ _ h=>h
  exact zAV h ⟨u,S,rfl,Ch.refl S w,fun _ _ h=>h,hst,trivial,⟨hB,q.stab hq (fun _ _=>rfl) hst⟩,trivial⟩
theorem zJc {q:SP} (hx:zAM R x=u) (hq:q.P A w S u) (hav:∀ k,S k->∀ o,A k o) (hB:∀ k,S k->K k):OpR P ⟨d,.assign x,t,p,af,g⟩ R w (zEs A true u S (.gen K q) (fun _=>.any) w):=zLT (by simp [execOp,hx]) hq hav hB
theorem zFj {y : α} {pins : List Pin} {T' : TypeId} (h : (trP (oPt T' F) y pins).P A w S u) (hx : zAM R x = u) (hav : ∀ k, S k -> ∀ o, A k o) (hB : ∀ k, S k -> K k) (hag : ∀ w, (isAgg T).run P w=.ok F.E.agg w) (hsz : ∀ w, (sizeOf T).run P w=.ok F.E.size w) :
    OpR P ⟨d,.load T x,t,p,af,g⟩ R w (zEs A true u S (trR K F y []) (fun _=>.any) w):=by
  obtain ⟨⟨cs,rfl,b,ds,S1,rfl,h1,h2,h3,h4⟩,_⟩:=h
  have hsub:∀ k,S1 k->S k:=fun k hk=>(h4 k).2 (.inr hk)
  have hst:=zDf (S'':=S1) hav (Ch.refl S w) fun k _ h=>hsub k h
  refine zAV (v:=F.E.val ds) (w':=w) ?_ ⟨F.E.val ds,S1,rfl,Ch.refl S w,fun k _ h=>hsub k h,hst,trivial,⟨fun k hk=>hB k (hsub k hk),⟨ds,rfl,F.stab h2 (fun _ _=>rfl) hst⟩,fun q hq=>by cases hq⟩,trivial⟩
  have:=zDk (P:=P) (w:=w) (b:=b) (o:=0) hag hsz (F.len h2) F.E.one (fun j v hj=>by rw [h1.cell,Nat.zero_add];simpa using hj)
  have hx':zAM R x=.pointer (some ⟨b,0,none⟩):=hx
  simp [execOp,Instr.loadAt,Instr.sureAddr,hx',this,Enc.val]
theorem zBg {fn:FuncId} {al:List Operand} {aT:Array TypeId} {K:Value->World->Prop} (hc:∀ args w,(callFunc fn args).run P w=.ok (.enter fn args) w) (h:Calls P fn (al.map (zAM R)).toArray w fun ed w'=>∃ v,ed=.returned v/\K v w'):OpR P ⟨d,.call ⟨.value (.func fn),al.toArray,aT⟩,t,p,af,g⟩ R w K:=by
  unfold OpR
  have:(execOp (zAM R) ⟨d,.call ⟨.value (.func fn),al.toArray,aT⟩,t,p,af,g⟩).run P w=.ok (.enter fn (al.map (zAM R)).toArray) w:=by
    simp [execOp,resolve,zAM,Deferred.ofValue,invoke,hc]
  rw [this]
  exact h
theorem zJL.base {K':Nat->Prop} {q:SP} {f:Av->Fact} {v:Value} {w':World} (h:zJL A (.gen K' q) f w v w') (hK:∀ k,K' k->K k):zJL A (.gen K q) f w v w':=
  let ⟨S,h1,h2,h3,h4,h5⟩:=h;⟨S,h1,h2,trivial,⟨fun k hk=>hK k (h4.1 k hk),h4.2⟩,h5⟩
def Gave {α:Type} (F:OE α) (A0:Av) (S:Nat->Prop) (w:World) (v:Value) (y:α) (w':World):Prop:=
  ∃ S',(trP F y []).P (addS A0 S') w' S' v/\(∀ k,k<w.heap.size->S' k->S k)/\Ch S w w'
theorem zFB {fn : FuncId} {al : List Operand} {aT : Array TypeId} {y y' : α} {Q : α -> Pw} {q : SP} {f : Fact} (hc : ∀ args w, (callFunc fn args).run P w=.ok (.enter fn args) w)
    (h:zFD F A w S v y Q) (hav:∀ k,S k->∀ o,A k o) (hB:∀ k,S k->K k) (hBw:∀ k,w.heap.size<=k->K k) (hl:∀ k,S k->k<w.heap.size)
    (hcall:∀ S1,(∀ k,S1 k->S k)->(trP F y []).P (addS (fun b o=>A b o/\¬ S1 b) S1) w S1 v->Calls P fn (al.map (zAM R)).toArray w fun ed w'=>∃ z,ed=.returned z/\(f.ok z w'/\Gave F (fun b o=>A b o/\¬ S1 b) S1 w v y' w')) (hQ:∀ A w S,Q y' A w S->q.P A w S u) :
    OpR P ⟨d,.call ⟨.value (.func fn),al.toArray,aT⟩,t,p,af,g⟩ R w (zEs A false u S (.gen K q) (fun _=>f) w):=by
  obtain ⟨S1,cs,rfl,h⟩:=h
  have hA1:∀ b o,addS (fun b o=>A b o/\¬ S1 b) S1 b o ↔ A b o:=fun b o=>by
    constructor
    . rintro (h1 | h1)
      . exact h1.1
      . exact hav b (h.sub b h1) o
    . intro h1
      by_cases h2:S1 b
      . exact .inr h2
      . exact .inl ⟨h1,h2⟩
  refine zBg hc (Calls.mono (hcall S1 h.sub ⟨⟨cs,rfl,F.stab h.own (fun _ _=>rfl) (zDl fun b o h=>(hA1 b o).1 h)⟩,fun q hq=>by cases hq⟩) ?_)
  rintro ed w' ⟨z,he,hf,S1',⟨⟨cs',e,h1⟩,_⟩,h2,h3⟩
  have hcs:cs'=cs:=by
    have a:=F.cells h1
    have b:=F.cells h.own
    rw [<- e,b] at a
    exact a.symm
  subst hcs
  have hch:Ch S w w':=⟨h3.os,h3.tape,h3.output,h3.size,fun k hk hn=>h3.block k hk fun hk'=>hn (h.sub k hk'),h3.drawn⟩
  have hlt:∀ k,S1' k->S k->S1 k:=fun k b a=>h2 k (hl k a) b
  have hsub:∀ k,k<w.heap.size->((S k/\¬ S1 k)\/S1' k)->S k:=fun k hk hs=>hs.elim (·.1) fun hs=>h.sub k (h2 k hk hs)
  have hst:=zDf hav hch hsub
  have hown:=F.stab (A':=zHh A S fun k=>(S k/\¬ S1 k)\/S1' k) h1 (fun _ _=>rfl) (zDl fun b o hb=>by
    rcases hb with ⟨a,c⟩ | ⟨a,c⟩ | a
    . exact .inl ⟨a,fun hs=>c (h.sub b hs)⟩
    . exact .inl ⟨hav b a o,c⟩
    . exact .inr a)
  have hq:=h.put _ w' S1' y' hown (fun k a c=>h3.block k (hl k a) c) hst hlt
  refine ⟨z,he,u,fun k=>(S k/\¬ S1 k)\/S1' k,rfl,hch,hsub,hst,trivial,⟨fun k hk=>?_,hQ _ _ _ hq⟩,hf⟩
  rcases hk with hk | hk
  . exact hB k hk.1
  . rcases Nat.lt_or_ge k w.heap.size with hlt' | hge
    . exact hB k (h.sub k (h2 k hlt' hk))
    . exact hBw k hge
end
section
variable {P:Program} {R:Reg} {w:World} {d:Option Nat} {t:TypeId} {p:String} {af:Array Edge} {g:Option (Nat × Bool)} {A A0:Av} {α β:Type} {S S0:Nat->Prop}
variable {E:Enc α} {F:OE α} {x ix:Operand} {T e:TypeId} {K:Nat->Prop} {u a v:Value}
theorem zKP {B:Nat} {xs:List α} (h:(Res.vec B T E xs).ok A u w) (hS:(Res.vec B T E xs).own A u S w) (hT:T ≠ zKi:=by decide):∃ cs,u=(oSl T (oRd E)).E.val cs/\(oSl T (oRd E)).own A w S xs cs:=by
  obtain rfl:S=zAH u:=hS
  exact zIk h hT
theorem zOu {B:Nat} {xs:List α} (h:(Res.vec B T E xs).ok A u w) (hS:(Res.vec B T E xs).own A u S w):∀ k,S k->B<=k:=fun k hk=>by
  obtain rfl:S=zAH u:=hS
  exact Res.geB h rfl hk
theorem zCz {ad : Operand} {T' : TypeId} {y y' : α} {Q : α -> Pw} {q : SP} {ρ : Nat -> Value} {σ : Nat -> Nat -> Prop} {c1 c2 : Nat} (hne : Nat.beq c1 c2 = false) (h : zES F A w (σ c1) a y Q) (hv : ∃ cs, ρ c2 = F.E.val cs /\ F.own A w (σ c2) y' cs) (hx : zAM R x = ρ c2) (had : zAM R ad = a)
    (hav:∀ d,d ∈ [c1,c2]->∀ k,σ d k->∀ o,A k o) (hdd:∀ d d',d ∈ [c1,c2]->d' ∈ [c1,c2]->d ≠ d'->∀ k,σ d k->¬ σ d' k) (hB1:∀ k,σ c1 k->K k) (hB2:∀ k,σ c2 k->K k) (hsz:∀ w,(sizeOf T').run P w=.ok F.E.size w) (hQ:∀ A w S,Q y' A w S->q.P A w S u) :
    OpR P ⟨none,.store T' ad x,t,p,af,g⟩ R w (zEs A false u (fun k=>∃ d,d ∈ [c1,c2]/\σ d k) (.gen K q) (fun _=>.any) w):=by
  obtain ⟨cs,e,hv⟩:=hv
  have hm1:c1 ∈ [c1,c2]:=.head _
  have hm2:c2 ∈ [c1,c2]:=.tail _ (.head _)
  have hne':c1 ≠ c2:=fun h=>by subst h;simp at hne
  have hST:∀ k,(∃ d,d ∈ [c1,c2]/\σ d k) ↔ σ c1 k\/σ c2 k:=fun k=>by
    constructor
    . rintro ⟨d, hd, hk⟩
      rcases List.mem_cons.1 hd with hd | hd
      . exact .inl (hd ▸ hk)
      . exact .inr (List.mem_singleton.1 hd ▸ hk)
    . exact fun h=>h.elim (fun h=>⟨c1,hm1,h⟩) fun h=>⟨c2,hm2,h⟩
  exact zJg h hv (hx.trans e) had (hdd c1 c2 hm1 hm2 hne') hST (fun k ⟨d,hd,h⟩=>hav d hd k h) (fun k hk=>((hST k).1 hk).elim (hB1 k) (hB2 k)) hsz hQ
theorem IniOK.oneT {x:α} (h:(trP F x []).P (addS A S0) w S0 u):IniOK [⟨u,S0,trR (fun k=>w.heap.size<=k\/S0 k) F x []⟩] (addS A S0) w:=by
  refine ⟨fun i p hp=>?_,fun i p hp=>?_,fun i j p q hp hq hne=>?_⟩
  . cases i with
    | zero=>simp at hp;subst hp;exact ⟨trivial,fun k hk o=>.inr hk⟩
    | succ i=>simp at hp
  . cases i with
    | zero=>simp at hp;subst hp;exact ⟨fun k hk=>.inr hk,h⟩
    | succ i=>simp at hp
  . cases i with
    | zero=>
      cases j with
      | zero=>exact absurd rfl hne
      | succ j=>simp at hq
    | succ i=>simp at hp
theorem AvOK.oneT {x:α} (hA:AvOK A w) (h:(trP F x []).P (addS A S0) w S0 u):AvOK (addS A S0) w:=fun b o hb=>hb.elim (hA b o) fun hb=>(trP F x []).lt h hb
theorem AvOK.subS (hA:AvOK A w) (S:Nat->Prop):AvOK (fun b o=>A b o/\¬ S b) w:=fun b o h=>hA b o h.1
theorem zEl {w0:World} {x:α} {pins:List Pin} {B:Nat} (hB:B=w0.heap.size) (hown:(trR (fun k=>B<=k\/S0 k) F x pins).own A u S w) (hav:∀ k,S k->∀ o,A k o) (hAA:∀ b o,A0 b o->A b o) (hF:Ch S0 w0 w):Gave F A0 S0 w0 u x w:=by
  subst hB
  exact ⟨S,(trP F x []).stab (trP.nopin hown.2) (fun _ _=>rfl) (zDl fun b o h=>h.elim (hAA b o) fun h=>hav b h o),fun k hk hs=>(hown.1 k hs).resolve_left (by omega),hF⟩
theorem zNu {y:α} {Q:α->Pw} (h:zFD F A w S v y Q) (hA:∀ b o,A0 b o->A b o) (hn:∀ k o,S k->¬ A0 k o):Rep F.E A0 w v y:=
  let ⟨S1,cs,e,h1⟩:=h;⟨cs,e,F.rep h1.own hA fun k o hk=>hn k o (h1.sub k hk)⟩
theorem zDF {A:Av} {w:World}:(oSl T F).own A w (fun _=>False) [] [.slice none 0 0]:=.inl ⟨rfl,rfl,fun _ h=>h⟩
theorem zGj {y:α} {cs:List Value} (h:E.rep A w y cs):(oRd E).own A w (fun _=>False) y cs:=⟨fun _ h=>h,h⟩
theorem zI7 {G:OE β} {y:α} {z:β} {c ds:List Value} (h:F.own A w (fun _=>False) y c) (k:G.own A w (fun _=>False) z ds):(oPr F G).own A w (fun _=>False) (y,z) (c++ds):=⟨c,ds,_,_,rfl,h,k,fun _=>⟨fun h=>h.elim,fun h=>h.elim id id⟩,fun _ h=>h.elim⟩
end
abbrev zAA:=Int × Int × Bool
abbrev zA0:Enc zAA:=ePr (eInt .i64) (ePr (eInt .i64) zCl)
theorem zAo:Fld zA0 0 (eInt .i64) (fun x:zAA=>x.1):=Fld.fst
theorem zDH:FldF Tryz.prog 69 0 3 0:=⟨_,_,Tryz.underlying69,rfl,rfl,rfl⟩
theorem zAv:Fld zA0 1 (eInt .i64) (fun x:zAA=>x.2.1):=(Fld.snd Fld.fst)
theorem zDU:FldF Tryz.prog 69 1 3 1:=⟨_,_,Tryz.underlying69,rfl,rfl,rfl⟩
theorem zCw:Fld zA0 2 zCl (fun x:zAA=>x.2.2):=(Fld.snd (Fld.snd (Fld.id _)))
theorem zGl:FldS zA0 2 zCl (fun (x:zAA) y=>(x.1,x.2.1,y)):=(FldS.snd (FldS.snd (FldS.id _)))
theorem zFM:FldF Tryz.prog 69 2 4 2:=⟨_,_,Tryz.underlying69,rfl,rfl,rfl⟩
theorem zDh {A:Av} {w:World} {v:Value} {x:zAA} (h:Rep zA0 A w v x):v=.agg #[.int .i64 x.1,.int .i64 x.2.1,.bool x.2.2]:=by
  obtain ⟨cs,rfl,h⟩:=h
  obtain ⟨_,_,rfl,rfl,⟨_,_,rfl,rfl,rfl⟩⟩:=h
  rfl
set_option maxHeartbeats 1000000 in
theorem zNr (x y:zAA) (w:World):(binOp .eql 69 (.agg #[.int .i64 x.1,.int .i64 x.2.1,.bool x.2.2]) (.agg #[.int .i64 y.1,.int .i64 y.2.1,.bool y.2.2])).run Tryz.prog w=.ok (.bool ((x==y))) w:=by
  obtain ⟨p0,p1,p2⟩:=x
  obtain ⟨q0,q1,q2⟩:=y
  rw [show (((p0,p1,p2):zAA)==(q0,q1,q2))=((p0==q0)&&((p1==q1)&&(p2==q2))) from rfl]
  cases h0:(p0==q0) <;> cases h1:(p1==q1) <;> cases h2:(p2==q2) <;> simp [go_sem,h0,h1,h2]
set_option maxHeartbeats 1000000 in
theorem zPG (x y:zAA) (w:World):(binOp .neq 69 (.agg #[.int .i64 x.1,.int .i64 x.2.1,.bool x.2.2]) (.agg #[.int .i64 y.1,.int .i64 y.2.1,.bool y.2.2])).run Tryz.prog w=.ok (.bool (!(x==y))) w:=by
  obtain ⟨p0,p1,p2⟩:=x
  obtain ⟨q0,q1,q2⟩:=y
  rw [show (((p0,p1,p2):zAA)==(q0,q1,q2))=((p0==q0)&&((p1==q1)&&(p2==q2))) from rfl]
  cases h0:(p0==q0) <;> cases h1:(p1==q1) <;> cases h2:(p2==q2) <;> simp [go_sem,h0,h1,h2]
abbrev zA8:=(List zAA)
abbrev zAF:Enc zA8:=eBx (eSl zA0)
theorem zBQ:Fld zAF 0 (eSl zA0) (fun x:zA8=>x):=Fld.bx
theorem zDI:FldF Tryz.prog 63 0 44 0:=⟨_,_,Tryz.underlying63,rfl,rfl,rfl⟩
abbrev zAD:=(List zA8)
abbrev zA2:Enc zAD:=eBx (eSl zAF)
theorem zAd:Fld zA2 0 (eSl zAF) (fun x:zAD=>x):=Fld.bx
theorem zCh:FldF Tryz.prog 26 0 24 0:=⟨_,_,Tryz.underlying26,rfl,rfl,rfl⟩
abbrev zA4:=Int × Int × Int × Int
abbrev zA1:Enc zA4:=ePr (eInt .i64) (ePr (eInt .i64) (ePr (eInt .i64) (eInt .i64)))
theorem zAn:Fld zA1 0 (eInt .i64) (fun x:zA4=>x.1):=Fld.fst
theorem zEk:FldF Tryz.prog 60 0 3 0:=⟨_,_,Tryz.underlying60,rfl,rfl,rfl⟩
theorem zBE:Fld zA1 1 (eInt .i64) (fun x:zA4=>x.2.1):=(Fld.snd Fld.fst)
theorem zFe:FldF Tryz.prog 60 1 3 1:=⟨_,_,Tryz.underlying60,rfl,rfl,rfl⟩
theorem zBB:Fld zA1 2 (eInt .i64) (fun x:zA4=>x.2.2.1):=(Fld.snd (Fld.snd Fld.fst))
theorem zFg:FldF Tryz.prog 60 2 3 2:=⟨_,_,Tryz.underlying60,rfl,rfl,rfl⟩
theorem zBC:Fld zA1 3 (eInt .i64) (fun x:zA4=>x.2.2.2):=(Fld.snd (Fld.snd (Fld.snd (Fld.id _))))
theorem zFb:FldF Tryz.prog 60 3 3 3:=⟨_,_,Tryz.underlying60,rfl,rfl,rfl⟩
theorem zBx {A:Av} {w:World} {v:Value} {x:zA4} (h:Rep zA1 A w v x):v=.agg #[.int .i64 x.1,.int .i64 x.2.1,.int .i64 x.2.2.1,.int .i64 x.2.2.2]:=by
  obtain ⟨cs,rfl,h⟩:=h
  obtain ⟨_,_,rfl,rfl,⟨_,_,rfl,rfl,⟨_,_,rfl,rfl,rfl⟩⟩⟩:=h
  rfl
set_option maxHeartbeats 1000000 in
theorem zMS (x y:zA4) (w:World):(binOp .eql 60 (.agg #[.int .i64 x.1,.int .i64 x.2.1,.int .i64 x.2.2.1,.int .i64 x.2.2.2]) (.agg #[.int .i64 y.1,.int .i64 y.2.1,.int .i64 y.2.2.1,.int .i64 y.2.2.2])).run Tryz.prog w=.ok (.bool ((x==y))) w:=by
  obtain ⟨p0,p1,p2,p3⟩:=x
  obtain ⟨q0,q1,q2,q3⟩:=y
  rw [show (((p0,p1,p2,p3):zA4)==(q0,q1,q2,q3))=((p0==q0)&&((p1==q1)&&((p2==q2)&&(p3==q3)))) from rfl]
  cases h0:(p0==q0) <;> cases h1:(p1==q1) <;> cases h2:(p2==q2) <;> cases h3:(p3==q3) <;> simp [go_sem,h0,h1,h2,h3]
set_option maxHeartbeats 1000000 in
theorem zP9 (x y:zA4) (w:World):(binOp .neq 60 (.agg #[.int .i64 x.1,.int .i64 x.2.1,.int .i64 x.2.2.1,.int .i64 x.2.2.2]) (.agg #[.int .i64 y.1,.int .i64 y.2.1,.int .i64 y.2.2.1,.int .i64 y.2.2.2])).run Tryz.prog w=.ok (.bool (!(x==y))) w:=by
  obtain ⟨p0,p1,p2,p3⟩:=x
  obtain ⟨q0,q1,q2,q3⟩:=y
  rw [show (((p0,p1,p2,p3):zA4)==(q0,q1,q2,q3))=((p0==q0)&&((p1==q1)&&((p2==q2)&&(p3==q3)))) from rfl]
  cases h0:(p0==q0) <;> cases h1:(p1==q1) <;> cases h2:(p2==q2) <;> cases h3:(p3==q3) <;> simp [go_sem,h0,h1,h2,h3]
abbrev zAG:=Int × (List zA4)
abbrev zA5:Enc zAG:=ePr (eInt .i64) (eSl zA1)
theorem zCV:Fld zA5 0 (eInt .i64) (fun x:zAG=>x.1):=Fld.fst
theorem zFc:FldF Tryz.prog 32 0 3 0:=⟨_,_,Tryz.underlying32,rfl,rfl,rfl⟩
theorem zAc:Fld zA5 1 (eSl zA1) (fun x:zAG=>x.2):=(Fld.snd (Fld.id _))
theorem zCr:FldF Tryz.prog 32 1 30 1:=⟨_,_,Tryz.underlying32,rfl,rfl,rfl⟩
abbrev zBK:=zAD × (List zAA) × (List Bool) × (List zA4)
abbrev zBq:Enc zBK:=ePr zA2 (ePr (eSl zA0) (ePr (eSl zCl) (eSl zA1)))
theorem zHg:Fld zBq 1 (eSl zA0) (fun x:zBK=>x.2.1):=(Fld.snd Fld.fst)
theorem zJA:FldF Tryz.prog 54 1 44 1:=⟨_,_,Tryz.underlying54,rfl,rfl,rfl⟩
theorem zHf:Fld zBq 2 (eSl zCl) (fun x:zBK=>x.2.2.1):=(Fld.snd (Fld.snd Fld.fst))
theorem zKW:FldF Tryz.prog 54 2 52 2:=⟨_,_,Tryz.underlying54,rfl,rfl,rfl⟩
theorem zIT:FldF Tryz.prog 54 3 30 3:=⟨_,_,Tryz.underlying54,rfl,rfl,rfl⟩
abbrev zAK:=(List Int) × Int × Int
abbrev zA3:Enc zAK:=ePr (eSl (eInt .u8)) (ePr (eInt .i64) (eInt .i64))
theorem zGO:Fld zA3 0 (eSl (eInt .u8)) (fun x:zAK=>x.1):=Fld.fst
theorem zML:FldF Tryz.prog 86 0 22 0:=⟨_,_,Tryz.underlying86,rfl,rfl,rfl⟩
theorem zFI:Fld zA3 1 (eInt .i64) (fun x:zAK=>x.2.1):=(Fld.snd Fld.fst)
theorem zIN:FldS zA3 1 (eInt .i64) (fun (x:zAK) y=>(x.1,y,x.2.2)):=(FldS.snd FldS.fst)
theorem zJ2:FldF Tryz.prog 86 1 3 1:=⟨_,_,Tryz.underlying86,rfl,rfl,rfl⟩
theorem zFP:Fld zA3 2 (eInt .i64) (fun x:zAK=>x.2.2):=(Fld.snd (Fld.snd (Fld.id _)))
theorem zI2:FldS zA3 2 (eInt .i64) (fun (x:zAK) y=>(x.1,x.2.1,y)):=(FldS.snd (FldS.snd (FldS.id _)))
theorem zJ3:FldF Tryz.prog 86 2 3 2:=⟨_,_,Tryz.underlying86,rfl,rfl,rfl⟩
theorem zOO:ElF Tryz.prog 63 1:=zLS Tryz.zeroValue63 Tryz.sizeOf63 (by kernel_rfl:(Tryz.prog.info? 63).map (·.bytes)=some 24) rfl (by decide) (by decide)
theorem el_3:ElF Tryz.prog 3 1:=zLS Tryz.zeroValue3 Tryz.sizeOf3 (by kernel_rfl:(Tryz.prog.info? 3).map (·.bytes)=some 8) rfl (by decide) (by decide)
theorem zO2:ElF Tryz.prog 60 4:=zLS Tryz.zeroValue60 Tryz.sizeOf60 (by kernel_rfl:(Tryz.prog.info? 60).map (·.bytes)=some 32) rfl (by decide) (by decide)
theorem zMz:ElF Tryz.prog 69 3:=zLS Tryz.zeroValue69 Tryz.sizeOf69 (by kernel_rfl:(Tryz.prog.info? 69).map (·.bytes)=some 24) rfl (by decide) (by decide)
theorem el_4:ElF Tryz.prog 4 1:=zLS Tryz.zeroValue4 Tryz.sizeOf4 (by kernel_rfl:(Tryz.prog.info? 4).map (·.bytes)=some 1) rfl (by decide) (by decide)
theorem el_9:ElF Tryz.prog 9 1:=zLS Tryz.zeroValue9 Tryz.sizeOf9 (by kernel_rfl:(Tryz.prog.info? 9).map (·.bytes)=some 16) rfl (by decide) (by decide)
theorem Obls.p {P : Program} {l : List Ent} {R : Reg} {w : World} {i : Nat} {x : Ent} {r : List Ent}
    (h:∀ R' w',Fr w w'->(∀ t,zHb l i t=true->R' t=R t)->Deps l R' w' x.o.after.toList->OpR P x.o R' w' fun v w''=>x.f.ok v w''/\Fr w' w'')
    (t:Obls P l R w (i+1) r) (hg:x.o.guard=none:=by exact rfl) (hx:x.g=true:=by exact rfl):Obls P l R w i (x::r):=⟨Obl.plain hg hx h,t⟩
theorem zEC.p {P : Program} {ini : List Ob} {l : List EntR} {A : Av} {R : Reg} {w : World} {i : Nat} {x : EntR} {r : List EntR}
    (h:∀ A' R' w',Onto ini l A R w i A' R' w'->zGa l A' R' w' x.o.after.toList->OpR P x.o R' w' fun v w''=>(x.f A').ok v w''/\Fr w' w'')
    (t:zEC P ini l A R w (i+1) r) (hg:x.o.guard=none:=by exact rfl) (hx:x.g=true:=by exact rfl) (hc:x.con = []:=by exact rfl) (hr:x.res=none:=by exact rfl):zEC P ini l A R w i (x::r):=
  ⟨OblR.plain hg hx hc hr h,t⟩
def depF (l:List Ent) (es:List Edge) (j:Nat):Option (Nat × Fact):=
  match es[j]? with
  | none=>none
  | some e => bif bnd e then (match l[e.on]? with
    | none=>none
    | some x => match x.o.dst with
      | none=>none
      | some d=>bif x.g then some (d,x.f) else none) else none
theorem Deps.g {l:List Ent} {R:Reg} {w:World} {es:List Edge} (h:Deps l R w es) (j:Nat) {d:Nat} {f:Fact} (e:depF l es j=some (d,f)):f.ok (R d) w:=by
  unfold depF at e
  cases h1:es[j]? with
  | none=>rw [h1] at e;cases e
  | some a=>
    rw [h1] at e
    dsimp only at e
    cases h2:bnd a
    . rw [h2] at e;cases e
    rw [h2,cond_true] at e
    cases h3:l[a.on]? with
    | none=>rw [h3] at e;cases e
    | some x=>
      rw [h3] at e
      dsimp only at e
      cases h4:x.o.dst with
      | none=>rw [h4] at e;cases e
      | some d'=>
        rw [h4] at e
        dsimp only at e
        cases h5:x.g
        . rw [h5] at e;cases e
        rw [h5,cond_true] at e
        obtain ⟨rfl,rfl⟩:=Prod.mk.inj (Option.some.inj e)
        exact h j a x _ h1 h2 h3 h4 h5
def zNS (l:List EntR) (es:List Edge) (j:Nat):Option (Nat × (Av->Fact)):=
  match es[j]? with
  | none=>none
  | some e => bif bnd e then (match l[e.on]? with
    | none=>none
    | some x => match x.o.dst with
      | none=>none
      | some d=>bif x.g then some (d,x.f) else none) else none
theorem zGa.g {l:List EntR} {A:Av} {R:Reg} {w:World} {es:List Edge} (h:zGa l A R w es) (j:Nat) {d:Nat} {f:Av->Fact} (e:zNS l es j=some (d,f)):(f A).ok (R d) w:=by
  unfold zNS at e
  cases h1:es[j]? with
  | none=>rw [h1] at e;cases e
  | some a=>
    rw [h1] at e
    dsimp only at e
    cases h2:bnd a
    . rw [h2] at e;cases e
    rw [h2,cond_true] at e
    cases h3:l[a.on]? with
    | none=>rw [h3] at e;cases e
    | some x=>
      rw [h3] at e
      dsimp only at e
      cases h4:x.o.dst with
      | none=>rw [h4] at e;cases e
      | some d'=>
        rw [h4] at e
        dsimp only at e
        cases h5:x.g
        . rw [h5] at e;cases e
        rw [h5,cond_true] at e
        obtain ⟨rfl,rfl⟩:=Prod.mk.inj (Option.some.inj e)
        exact h j a x _ h1 h2 h3 h4 h5
end Go.Proofs.YtmgiijdejigdhaaGreatDoor
namespace Go.Proofs
open Go.Shelf
def Tryz.laysSortT_ren:Go.Shelf.Ren:=⟨fun | 6=>52 | 15=>73 | 14=>72 | 28=>93 | 29=>94 | 20=>85 | 21=>86 | 22=>87 | 23=>88 | 24=>89 | 25=>90 | 26=>91 | 27=>92 | 46=>98 | 47=>99 | 48=>100 | 49=>101 | 50=>102 | 57=>110 | n=>n,fun | 22=>44 | 24=>69 | 25=>83 | 3=>3 | 39=>101 | 0=>0 | 53=>117 | 55=>119 | 4=>4 | 46=>110 | 45=>109 | 50=>114 | 5=>5 | 9=>9 | 66=>124 | 70=>128 | 76=>137 | 77=>72 | n=>n,fun | n=>n⟩
theorem Tryz.laysSortT : Go.Proofs.SlLaysF0.n6 Tryz.prog Tryz.laysSortT_ren := {
  mixed:=by kernel_rfl
  f6:=⟨Tryz.f52.name,by decide,Tryz.func52.trans (congrArg some (by kernel_rfl))⟩
  f14:=⟨Tryz.f72.name,by decide,Tryz.func72.trans (congrArg some (by kernel_rfl))⟩
  f15:=Tryz.func73.trans (congrArg some (by kernel_rfl))
  f20:=⟨Tryz.f85.name,by decide,Tryz.func85.trans (congrArg some (by kernel_rfl))⟩
  f21:=⟨Tryz.f86.name,by decide,Tryz.func86.trans (congrArg some (by kernel_rfl))⟩
  f22:=⟨Tryz.f87.name,by decide,Tryz.func87.trans (congrArg some (by kernel_rfl))⟩
  f23:=⟨Tryz.f88.name,by decide,Tryz.func88.trans (congrArg some (by kernel_rfl))⟩
  f24:=⟨Tryz.f89.name,by decide,Tryz.func89.trans (congrArg some (by kernel_rfl))⟩
  f25:=⟨Tryz.f90.name,by decide,Tryz.func90.trans (congrArg some (by kernel_rfl))⟩
  f26:=⟨Tryz.f91.name,by decide,Tryz.func91.trans (congrArg some (by kernel_rfl))⟩
  f27:=⟨Tryz.f92.name,by decide,Tryz.func92.trans (congrArg some (by kernel_rfl))⟩
  f28:=Tryz.func93.trans (congrArg some (by kernel_rfl))
  f29:=Tryz.func94.trans (congrArg some (by kernel_rfl))
  f46:=⟨Tryz.f98.name,by decide,Tryz.func98.trans (congrArg some (by kernel_rfl))⟩
  f47:=Tryz.func99.trans (congrArg some (by kernel_rfl))
  f48:=Tryz.func100.trans (congrArg some (by kernel_rfl))
  f49:=⟨Tryz.f101.name,by decide,Tryz.func101.trans (congrArg some (by kernel_rfl))⟩
  f50:=⟨Tryz.f102.name,by decide,Tryz.func102.trans (congrArg some (by kernel_rfl))⟩
  f57:=⟨Tryz.f110.name,by decide,Tryz.func110.trans (congrArg some (by kernel_rfl))⟩
  t0:=Tryz.underlying0
  a0:=Tryz.isAgg0
  z0:=Tryz.sizeOf0
  v0:=Tryz.zeroValue0
  t3:=Tryz.underlying3
  a3:=Tryz.isAgg3
  z3:=Tryz.sizeOf3
  v3:=Tryz.zeroValue3
  t4:=Tryz.underlying4
  a4:=Tryz.isAgg4
  z4:=Tryz.sizeOf4
  v4:=Tryz.zeroValue4
  t5:=Tryz.underlying5
  a5:=Tryz.isAgg5
  z5:=Tryz.sizeOf5
  v5:=Tryz.zeroValue5
  t9:=Tryz.underlying9
  a9:=Tryz.isAgg9
  z9:=Tryz.sizeOf9
  v9:=Tryz.zeroValue9
  t22:=Tryz.underlying44
  a22:=Tryz.isAgg44
  z22:=Tryz.sizeOf44
  v22:=Tryz.zeroValue44
  t25:=Tryz.underlying83
  a25:=Tryz.isAgg83
  z25:=Tryz.sizeOf83
  v25:=Tryz.zeroValue83
  t39:=Tryz.underlying101
  a39:=Tryz.isAgg101
  z39:=Tryz.sizeOf101
  v39:=Tryz.zeroValue101
  t45:=Tryz.underlying109
  a45:=Tryz.isAgg109
  z45:=Tryz.sizeOf109
  v45:=Tryz.zeroValue109
  t46:=Tryz.underlying110
  a46:=Tryz.isAgg110
  z46:=Tryz.sizeOf110
  v46:=Tryz.zeroValue110
  t50:=Tryz.underlying114
  a50:=Tryz.isAgg114
  z50:=Tryz.sizeOf114
  v50:=Tryz.zeroValue114
  t53:=Tryz.underlying117
  a53:=Tryz.isAgg117
  z53:=Tryz.sizeOf117
  v53:=Tryz.zeroValue117
  t55:=Tryz.underlying119
  a55:=Tryz.isAgg119
  z55:=Tryz.sizeOf119
  v55:=Tryz.zeroValue119
  t66:=Tryz.underlying124
  a66:=Tryz.isAgg124
  z66:=Tryz.sizeOf124
  v66:=Tryz.zeroValue124
  t70:=Tryz.underlying128
  a70:=Tryz.isAgg128
  z70:=Tryz.sizeOf128
  v70:=Tryz.zeroValue128
  t76:=Tryz.underlying137
  a76:=Tryz.isAgg137
  z76:=Tryz.sizeOf137
  v76:=Tryz.zeroValue137
  t77:=Tryz.underlying72
  a77:=Tryz.isAgg72
  z77:=Tryz.sizeOf72
  v77:=Tryz.zeroValue72 }
def Tryz.laysItoa_ren:Go.Shelf.Ren:=⟨fun | 171=>69 | 243=>83 | 246=>97 | 283=>106 | 284=>107 | 285=>108 | 286=>109 | 129=>94 | 317=>112 | 318=>113 | 319=>114 | 320=>115 | 337=>116 | 338=>117 | n=>n,fun | 3=>3 | 9=>9 | 2=>2 | 4=>4 | 171=>133 | 0=>0 | 53=>119 | 37=>22 | 5=>5 | 173=>135 | 212=>141 | 51=>117 | 20=>20 | 213=>142 | 46=>101 | 232=>143 | 233=>144 | n=>n,fun | 17=>1 | 18=>2 | 19=>3 | n=>n⟩
theorem Tryz.laysItoa : Go.Proofs.LaysM.n171 Tryz.prog Tryz.laysItoa_ren := {
  mixed:=by kernel_rfl
  f129:=Tryz.func94.trans (congrArg some (by kernel_rfl))
  f171:=Tryz.func69.trans (congrArg some (by kernel_rfl))
  f243:=Tryz.func83.trans (congrArg some (by kernel_rfl))
  f246:=Tryz.func97.trans (congrArg some (by kernel_rfl))
  f283:=Tryz.func106.trans (congrArg some (by kernel_rfl))
  f284:=Tryz.func107.trans (congrArg some (by kernel_rfl))
  f285:=Tryz.func108.trans (congrArg some (by kernel_rfl))
  f286:=Tryz.func109.trans (congrArg some (by kernel_rfl))
  f317:=Tryz.func112.trans (congrArg some (by kernel_rfl))
  f318:=Tryz.func113.trans (congrArg some (by kernel_rfl))
  f319:=Tryz.func114.trans (congrArg some (by kernel_rfl))
  f320:=Tryz.func115.trans (congrArg some (by kernel_rfl))
  f337:=Tryz.func116.trans (congrArg some (by kernel_rfl))
  f338:=Tryz.func117.trans (congrArg some (by kernel_rfl))
  t0:=Tryz.underlying0
  a0:=Tryz.isAgg0
  z0:=Tryz.sizeOf0
  v0:=Tryz.zeroValue0
  t2:=Tryz.underlying2
  a2:=Tryz.isAgg2
  z2:=Tryz.sizeOf2
  v2:=Tryz.zeroValue2
  t3:=Tryz.underlying3
  a3:=Tryz.isAgg3
  z3:=Tryz.sizeOf3
  v3:=Tryz.zeroValue3
  t4:=Tryz.underlying4
  a4:=Tryz.isAgg4
  z4:=Tryz.sizeOf4
  v4:=Tryz.zeroValue4
  t5:=Tryz.underlying5
  a5:=Tryz.isAgg5
  z5:=Tryz.sizeOf5
  v5:=Tryz.zeroValue5
  t9:=Tryz.underlying9
  a9:=Tryz.isAgg9
  z9:=Tryz.sizeOf9
  v9:=Tryz.zeroValue9
  t20:=Tryz.underlying20
  a20:=Tryz.isAgg20
  z20:=Tryz.sizeOf20
  v20:=Tryz.zeroValue20
  t37:=Tryz.underlying22
  a37:=Tryz.isAgg22
  z37:=Tryz.sizeOf22
  v37:=Tryz.zeroValue22
  t46:=Tryz.underlying101
  a46:=Tryz.isAgg101
  z46:=Tryz.sizeOf101
  v46:=Tryz.zeroValue101
  t51:=Tryz.underlying117
  a51:=Tryz.isAgg117
  z51:=Tryz.sizeOf117
  v51:=Tryz.zeroValue117
  t53:=Tryz.underlying119
  a53:=Tryz.isAgg119
  z53:=Tryz.sizeOf119
  v53:=Tryz.zeroValue119
  t171:=Tryz.underlying133
  a171:=Tryz.isAgg133
  z171:=Tryz.sizeOf133
  v171:=Tryz.zeroValue133
  t173:=Tryz.underlying135
  a173:=Tryz.isAgg135
  z173:=Tryz.sizeOf135
  v173:=Tryz.zeroValue135
  t212:=Tryz.underlying141
  a212:=Tryz.isAgg141
  z212:=Tryz.sizeOf141
  v212:=Tryz.zeroValue141
  t213:=Tryz.underlying142
  a213:=Tryz.isAgg142
  z213:=Tryz.sizeOf142
  t232:=Tryz.underlying143
  a232:=Tryz.isAgg143
  z232:=Tryz.sizeOf143
  v232:=Tryz.zeroValue143
  t233:=Tryz.underlying144
  a233:=Tryz.isAgg144
  z233:=Tryz.sizeOf144
  v233:=Tryz.zeroValue144
  g17:=by kernel_rfl
  g18:=by kernel_rfl
  g19:=by kernel_rfl
  i0:=by kernel_rfl
  i2:=by kernel_rfl
  i3:=by kernel_rfl
  i4:=by kernel_rfl
  i5:=by kernel_rfl
  i9:=by kernel_rfl
  i20:=by kernel_rfl
  i37:=by kernel_rfl
  i46:=by kernel_rfl
  i51:=by kernel_rfl
  i53:=by kernel_rfl
  i171:=by kernel_rfl
  i173:=by kernel_rfl
  i212:=by kernel_rfl
  i232:=by kernel_rfl
  i233:=by kernel_rfl
  m17:=by kernel_rfl
  m18:=by kernel_rfl
  m19:=by kernel_rfl }
end Go.Proofs
namespace Go.Proofs.YtmgiijdejigdhaaGreatDoor
open Go.RowKit Go.Sort
set_option linter.unusedVariables false
def zCU:List (List UInt8):=[[110,97,109,101],[116,111,107,101,110,115],[115,111,117,110,100],[99,105,116,121],[121,101,97,114],[112,104,111,110,101]]
def zHw:String:= "loop.example/g01923/impl.featureNames"
structure GTab (w : World) : Prop where
  feat:w.var? Tryz.prog zHw=some (zCU.map fun s=>Value.string ⟨s.toArray⟩).toArray
  pow:Lib.TabIs Tryz.prog w "internal/strconv.uint64pow10" .u64 Lib.pow10Tab
theorem zNh {P:Program} {w w':World} {n:String} {cs:Array Value} (h:w.var? P n=some cs) (hf:Fr w w'):w'.var? P n=some cs:=by
  unfold World.var? at *
  cases hg:P.globalNamed n with
  | none=>rw [hg] at h;cases h
  | some g=>
    rw [hg] at h
    simp only [Option.bind_some] at h ⊢
    have hlt:g<w.heap.size:=by
      rcases Nat.lt_or_ge g w.heap.size with hlt | hge
      . exact hlt
      . rw [Array.getElem?_eq_none hge] at h
        cases h
    rw [hf.block g hlt]
    exact h
theorem GTab.fr {w w' : World} (h : GTab w) (hf : Fr w w') : GTab w' where
  feat:=zNh h.feat hf
  pow:=zNh h.pow hf
theorem zNc {P:Program} {w:World} {n:String} {cs:Array Value} {g:Nat} (h:w.var? P n=some cs) (hg:P.globalNamed n=some g) {i:Nat} {v:Value} (hi:cs[i]? = some v):w.cell? ⟨g,i,none⟩=some v:=by
  have:=World.var?_cell hg h i
  rw [this,hi]
section
variable {P:Program} {R:Reg} {w:World} {d:Option Nat} {t:TypeId} {p:String} {af:Array Edge} {g:Option (Nat × Bool)}
theorem zGi {T e n gb : Nat} {ix : Operand} {k : IntKind} {i : Int} (hi : zAM R ix=.int k i) (hu : P.underlying T = some (.array n e)) (hsz : ∀ w, (sizeOf e).run P w=.ok 1 w) (hr : inR i n = true) :
    OpF P ⟨d,.indexAddr T (.global gb) ix,t,p,af,g⟩ R w (.raw (.pointer (some ⟨gb,i.toNat,none⟩))):=by
  obtain ⟨i0,i1⟩:=zDb.1 hr
  refine zAV (v:=.pointer (some ⟨gb,i.toNat,none⟩)) (w':=w) ?_ ⟨rfl,Fr.refl _⟩
  have hadd:∀ j,(⟨gb,0,none⟩:Addr).add j=⟨gb,j,none⟩:=fun j=>by
    unfold Addr.add
    split
    . rename_i h;subst h;rfl
    . simp
  have hg':zAM R (.global gb)=.pointer (some ⟨gb,0,none⟩):=rfl
  simp [execOp,Instr.indexAt,Instr.sureAddr,hg',hi,asIntOf,underlying,hu,i0,i1,hsz,hadd]
end
end Go.Proofs.YtmgiijdejigdhaaGreatDoor
namespace Go.Proofs.YtmgiijdejigdhaaGreatDoor
open Go.RowKit Go.ChangeShapes Go.WideShapes Go.Deep
abbrev Rel (α:Type):=World->Nat->α->List Value->Prop
def U8 (n:Int):Prop:=(Lit.int .u8 n).wf=true
def zOC:Rel Int:=fun _ _ n cs=>cs = [.int .u8 n]/\U8 n
def slR {α:Type} (k:Nat) (R:Rel α):Rel (List α):=fun w B l cs=>
  ∃ (A : Option Addr) (n c : Nat) (es : List (List Value)), cs = [.slice A n c] /\ n = l.length /\ n <= c /\ c <= maxLen /\ es.length = l.length /\ Rd w B k A n es.flatten /\
    ∀ (i:Nat) x e,l[i]? = some x->es[i]? = some e->e.length=k/\R w B x e
def zN9 {α:Type} (P:Program) (t:TypeId) (R:Rel α):Prop:=
  ∀ {H:Type} (enc:TypeId × Value->H) (w:World) (fuel:Nat) (cs:List Value) (x:DataW H × List MemPlace),DataW.trod enc P w 0 (fun _=>true) true fuel t cs=some x->∃ a,R w w.heap.size a cs
section
variable {P:Program}
theorem zLc {t:TypeId} (ht:P.underlying t=some (.int .u8)):zN9 P t zOC:=fun enc w fuel cs x h=>by
  obtain ⟨n,h1,_,h2⟩:=DataW.trod_int ht h
  exact ⟨n,h1,h2⟩
theorem zOI {w:World} {a:Addr} {v:Value} (h:w.cell? a=some v):a.block<w.heap.size:=by
  rcases Nat.lt_or_ge a.block w.heap.size with hlt | hge
  . exact hlt
  . unfold World.cell? at h
    rw [Array.getElem?_eq_none hge] at h
    cases h
theorem zKa {α : Type} (n : Nat) (Q : Nat -> List Value -> α -> Prop) (h : ∀ i, i < n -> ∃ cs a, Q i cs a) :
    ∃ (es:List (List Value)) (l:List α),es.length=n/\l.length=n/\∀ i x e,l[i]? = some x->es[i]? = some e->Q i e x:=by
  induction n with
  | zero=>exact ⟨[],[],rfl,rfl,fun i x e h=>by simp at h⟩
  | succ n ih=>
    obtain ⟨es,l,h1,h2,h3⟩:=ih fun i hi=>h i (by omega)
    obtain ⟨cs,a,hq⟩:=h n (by omega)
    refine ⟨es ++ [cs],l ++ [a],by simp [h1],by simp [h2],fun i x e hx he=>?_⟩
    by_cases hi:i<n
    . rw [List.getElem?_append_left (by omega)] at hx he
      exact h3 i x e hx he
    . by_cases hn : i = n
      . subst hn
        rw [List.getElem?_append_right (by omega)] at hx he
        simp [h1,h2] at hx he
        subst hx he
        exact hq
      . rw [List.getElem?_eq_none (by simp [h2]; omega)] at hx
        cases hx
theorem zIs {k : Nat} (hk : 0 < k) : ∀ (es : List (List Value)), (∀ e ∈ es, e.length = k) -> ∀ j, es.flatten[j]? = (es[j / k]?).bind fun e => e[j % k]?
  | [],_,j=>by simp
  | e::es,he,j=>by
    have hl:=he e (by simp)
    rw [List.flatten_cons]
    by_cases hj:j<k
    . rw [List.getElem?_append_left (by omega), Nat.div_eq_of_lt hj, Nat.mod_eq_of_lt hj]
      rfl
    . rw [List.getElem?_append_right (by omega), hl, zIs hk es (fun e h => he e (by simp [h])) (j - k)]
      have h1:j / k=(j-k) / k+1:=by
        rw [Nat.div_eq_sub_div hk (by omega)]
      have h2:j % k=(j-k) % k:=by
        rw [Nat.mod_eq_sub_mod (by omega)]
      rw [h1,h2]
      rfl
theorem zFa {k : Nat} : ∀ (es : List (List Value)), (∀ e ∈ es, e.length = k) -> es.flatten.length = es.length * k
  | [],_=>by simp
  | e::es,he=>by
    rw [List.flatten_cons,List.length_append,zFa es (fun e h=>he e (by simp [h])),he e (by simp),List.length_cons,Nat.add_mul,Nat.one_mul,Nat.add_comm]
theorem zKh {α:Type} {t e:TypeId} {k:Nat} {R:Rel α} (ht:P.underlying t=some (.slice e)) (hC:P.cellsOf e=k) (hk:0<k) (hR:zN9 P e R):zN9 P t (slR k R):=fun enc w fuel cs x h=>by
  rcases open_slice ht h with ⟨rfl,_⟩ | ⟨a,len,cap,m,n,D,Pl,rfl,_,hl,hm,hmm,_,hi⟩
  . exact ⟨[],none,0,0,[],rfl,rfl,Nat.le_refl _,Nat.zero_le _,rfl,⟨by simp,fun h=>absurd h (by omega)⟩,fun i x e h=>by simp at h⟩
  . simp only [if_true] at hmm
    subst hmm
    rw [hC] at hi
    obtain ⟨es,l,h1,h2,h3⟩:=zKa len (fun i cs x=>cs.length=k/\(∀ j,j<k->w.cell? ((a.add (i*k)).add j)=cs[j]?)/\R w w.heap.size x cs) fun i hlt=>by
      obtain ⟨cs',hc,ht'⟩:=hi i (by omega)
      obtain ⟨_,hcl,hat⟩:=World.cells?_some hc
      obtain ⟨x,hx⟩:=hR enc w n cs' _ ht'
      exact ⟨cs',x,hcl,hat,hx⟩
    have hall:∀ e ∈ es,e.length=k:=fun e he=>by
      obtain ⟨i,hi',he'⟩:=List.getElem_of_mem he
      exact (h3 i (l[i]'(by omega)) e (List.getElem?_eq_getElem (by omega)) (by rw [<- he'];exact List.getElem?_eq_getElem hi')).1
    refine ⟨l,some a,len,m,es,rfl,h2.symm,hl,hm,by omega,⟨by rw [zFa es hall,h1],fun hn=>?_⟩,fun i x e hx he=>⟨(h3 i x e hx he).1,(h3 i x e hx he).2.2⟩⟩
    obtain ⟨b,off,spot⟩:=a
    have key:∀ j u,es.flatten[j]? = some u->w.cell? ((⟨b,off,spot⟩:Addr).add j)=some u:=by
      intro j u hu
      rw [zIs hk es hall] at hu
      have hjl:j / k<es.length:=by
        rcases Nat.lt_or_ge (j / k) es.length with h | h
        . exact h
        . rw [List.getElem?_eq_none h] at hu
          simp at hu
      rw [List.getElem?_eq_getElem hjl] at hu
      have hq:=h3 (j / k) (l[j / k]'(by omega)) es[j / k] (List.getElem?_eq_getElem (by omega)) (List.getElem?_eq_getElem hjl)
      have hm:=hq.2.1 (j % k) (Nat.mod_lt _ hk)
      rw [Go.Deep.add_add] at hm
      rw [Nat.mul_comm,Nat.div_add_mod] at hm
      rw [hm]
      exact hu
    have h0:∃ u,es.flatten[0]? = some u:=by
      have hlen:=zFa es hall
      have:0<es.flatten.length:=by rw [hlen,h1];exact Nat.mul_pos hn hk
      exact ⟨_,List.getElem?_eq_getElem this⟩
    obtain ⟨u0,hu0⟩:=h0
    have hc0:=key 0 u0 hu0
    have hspot:spot=none:=by simpa [Addr.add] using World.cell?_spot hc0
    subst hspot
    refine ⟨b,off,rfl,by simpa [Addr.add] using zOI hc0,fun j u hu=>?_⟩
    have:=key j u hu
    unfold Addr.add at this
    split at this
    . next hj=>subst hj;simpa using this
    . exact this
theorem zMD {α : Type} {H : Type} {enc : TypeId × Value -> H} {r : Reach} {b0 : Nat} {w : World} {t e : TypeId} {k : Nat} {R : Rel α} {v : Value} {d : DataW H} {p : List MemPlace} (ht : P.underlying t = some (.slice e)) (ho : zN9 P t (slR k R))
    (hv:Value.okWide P w r b0 t v) (h:DataW.Trod enc P w 0 (fun _=>true) true t v d p) :
    ∃ A n c l,v=.slice A n c/\slR k R w w.heap.size l [.slice A n c]:=by
  obtain ⟨A,n,c,rfl⟩:=okWide_slice ht hv
  obtain ⟨fuel,hf⟩:=h
  obtain ⟨l,hl⟩:=ho enc w fuel _ _ hf
  exact ⟨A,n,c,l,rfl,by simpa [Value.cells] using hl⟩
end
end Go.Proofs.YtmgiijdejigdhaaGreatDoor
namespace Go.Proofs.YtmgiijdejigdhaaGreatDoor
open Go.RowKit
set_option linter.unusedVariables false
theorem zKl {H : Type} {enc : TypeId × Value -> H} {P : Program} {w : World} {base : Nat} {sp : Nat -> Bool} {held : Bool} {fuel : Nat} {t e : TypeId} {n : Nat} {cs : List Value} {ss : List (List UInt8)} {p : List MemPlace}
    (ht:P.underlying t=some (.array n e)) (he:P.underlying e=some .string) (hce:P.cellsOf e=1) (hct:P.cellsOf t=n)
    (h:DataW.trod enc P w base sp held fuel t cs=some (.agg (ss.map fun s=>(.lit (.string s):DataW H)),p)):cs=ss.map fun s=>Value.string ⟨s.toArray⟩:=by
  cases fuel with
  | zero=>simp [DataW.trod] at h
  | succ fuel=>
    simp only [DataW.trod,ht,hce,hct,Nat.mul_one] at h
    split at h
    . rename_i hl
      obtain ⟨xs,hm,hx⟩:=Option.map_eq_some_iff.1 h
      have hxs:xs.map (·.1)=ss.map fun s=>(DataW.lit (.string s):DataW H):=by
        have:=congrArg Prod.fst hx
        simpa using this
      have hxl:xs.length=n:=by simpa using Lib.mapM_length hm
      have hzl:ss.length=n:=by
        have:=congrArg List.length hxs
        simp at this
        omega
      apply List.ext_getElem?
      intro i
      by_cases hi:i<n
      . obtain ⟨b, hb, hf⟩ := Lib.mapM_at hm i i (by simp [hi])
        obtain ⟨s,hc,rfl,_⟩:=DataW.trod_string he hf
        have h1:cs[i]? = some (.string s):=by
          have:=congrArg (·[0]?) hc
          simpa [List.getElem?_take,List.getElem?_drop] using this
        have h2:(xs.map (·.1))[i]? = some (DataW.lit (.string s.data.toList):DataW H):=by simp [hb]
        rw [hxs] at h2
        simp only [List.getElem?_map,Option.map_eq_some_iff,DataW.lit.injEq,Lit.string.injEq] at h2
        obtain ⟨z,hz,rfl⟩:=h2
        simp only [h1,List.getElem?_map,hz,Option.map_some]
      . rw [List.getElem?_eq_none (by omega),List.getElem?_eq_none (by simp;omega)]
    . cases h
theorem zHR {P : Program} {w : World} : ∀ (l : List (String × DataW Unit)) (ps : List MemPlace), DataW.LaidVars P w l ps -> ∀ (i : Nat) n d, l[i]? = some (n, d) ->
    ∃ g t cs fuel p,P.globalNamed n=some g/\(P.globals[g]?).map (·.type)=some t/\w.var? P n=some cs/\DataW.trod (fun _=>()) P w 0 (fun _=>true) false fuel t cs.toList=some (d,p)
  | [],_,_,i,n,d,hi=>by simp at hi
  | (n',d')::r,ps,h,0,n,d,hi=>by
    obtain ⟨g,t,cs,fuel,p,q,h1,h2,h3,h4,_,_⟩:=h
    simp only [List.getElem?_cons_zero,Option.some.injEq,Prod.mk.injEq] at hi
    obtain ⟨rfl,rfl⟩:=hi
    exact ⟨g,t,cs,fuel,p,h1,h2,h3,h4⟩
  | (n',d')::r,ps,h,i+1,n,d,hi=>by
    obtain ⟨g,t,cs,fuel,p,q,_,_,_,_,h5,_⟩:=h
    exact zHR r q h5 i n d (by simpa using hi)
theorem zPL:Tryz.prog.globalNamed zHw=some 0:=by kernel_rfl
theorem zP8:(Tryz.prog.globals[0]?).map (·.type)=some 96:=by kernel_rfl
theorem zPB:Tryz.prog.cellsOf 96=6:=by kernel_rfl
theorem zPe:Tryz.prog.cellsOf 9=1:=by kernel_rfl
theorem zPc:Tryz.prog.globalNamed "internal/strconv.uint64pow10" = some 1:=by kernel_rfl
theorem zPb:(Tryz.prog.globals[1]?).map (·.type)=some 141:=by kernel_rfl
theorem zPq:Tryz.prog.cellsOf 141=20:=by kernel_rfl
theorem zPm:Tryz.prog.cellsOf 119=1:=by kernel_rfl
theorem zOi {l:List (String × DataW Unit)} {W:World} (h:laidMet Tryz.prog l W) (i j:Nat) (h1:l[i]? = some (zHw,.agg (zCU.map fun s=>.lit (.string s)))) (h2:l[j]? = some ("internal/strconv.uint64pow10",Lib.tabData .u64 Lib.pow10Tab)):GTab W:=by
  have h0:=h
  obtain ⟨ps,hl,_⟩:=h
  exact {
    feat:=by
      obtain ⟨g,t,cs,fuel,p,hg,ht,hv,hd⟩:=zHR l ps hl i _ _ h1
      obtain rfl:=Option.some.inj (zPL.symm.trans hg)
      obtain rfl:=Option.some.inj (zP8.symm.trans ht)
      rw [hv,<- zKl Tryz.underlying96 Tryz.underlying9 zPe zPB hd]
    pow:=by
      obtain ⟨g,t,cs,fuel,p,hg,ht,hv,hd⟩:=zHR l ps hl j _ _ h2
      obtain rfl:=Option.some.inj (zPc.symm.trans hg)
      obtain rfl:=Option.some.inj (zPb.symm.trans ht)
      unfold Lib.TabIs
      rw [hv,<- Lib.cells_of_tab Tryz.underlying141 Tryz.underlying119 zPm zPq hd]
  }
theorem own:ownKnob Tryz.prog.godebug=none:=by kernel_rfl
theorem zOy:Tryz.pinned.checked.prog.mayEnter=true:=by kernel_rfl
theorem zO7:Tryz.pinned.checked.prog.liftsFinal=false:=by kernel_rfl
theorem zOo:Tryz.pinned.checked.prog.stopsHeard=true:=by kernel_rfl
theorem zLz:laidOutB Tryz.prog=true:=by kernel_rfl
structure Br {α β : Type} (R : Rel α) (E : Enc β) (f : α -> β) (Q : β -> Prop) : Prop where
  get:∀ {w:World} {x:α} {cs:List Value},R w w.heap.size x cs->E.rep av0 w (f x) cs/\Q (f x)
def qU (n:Int):Prop:=0<=n/\n<=255
def qS {α:Type} (Q:α->Prop) (l:List α):Prop:=l.length<=maxLen/\∀ x ∈ l,Q x
theorem zOU : Br zOC (eInt .u8) id qU := Br.mk fun {w x cs} h => ⟨h.1, by
  have:=h.2
  unfold U8 at this
  have a:IntKind.u8.min=0:=by decide
  have b:IntKind.u8.max=255:=by decide
  simp [Lit.wf] at this
  unfold qU id
  omega⟩
theorem zIU {α : Type} {k : Nat} : ∀ {es : List (List α)}, (∀ e ∈ es, e.length = k) -> ∀ (i j : Nat) e u, es[i]? = some e -> e[j]? = some u -> es.flatten[i * k + j]? = some u
  | [],_,i,j,e,u,h,_=>by simp at h
  | e0::es,hk,0,j,e,u,h,hu=>by
    obtain rfl:e0=e:=by simpa using h
    rw [List.flatten_cons,Nat.zero_mul,Nat.zero_add,List.getElem?_append_left (List.getElem?_eq_some_iff.1 hu).1]
    exact hu
  | e0::es,hk,i+1,j,e,u,h,hu=>by
    have h0:e0.length=k:=hk e0 (List.mem_cons_self ..)
    have h':es[i]? = some e:=by simpa using h
    have:=zIU (fun e he=>hk e (List.mem_cons_of_mem _ he)) i j e u h' hu
    have hs:(i+1)*k+j=k+(i*k+j):=by rw [Nat.add_mul,Nat.one_mul];omega
    rw [List.flatten_cons,List.getElem?_append_right (by omega),hs,h0,Nat.add_sub_cancel_left]
    exact this
theorem zPo {α β:Type} {k:Nat} {R:Rel α} {E:Enc β} {f:α->β} {Q:β->Prop} (h:Br R E f Q) (hk:E.size=k):Br (slR k R) (eSl E) (fun l=>l.map f) (qS Q):=by
  refine ⟨?_⟩
  rintro w x cs ⟨A,n,c,es,rfl,h1,h2,h3,h4,h5,h6⟩
  have hes:∀ e ∈ es,e.length=k:=fun e he=>by
    obtain ⟨i,hi,rfl⟩:=List.getElem_of_mem he
    exact (h6 i _ _ (List.getElem?_eq_getElem (h4 ▸ hi)) (List.getElem?_eq_getElem hi)).1
  refine ⟨⟨A,n,c,rfl,by rw [List.length_map,h1],h2,h3,fun hn=>?_⟩,?_,?_⟩
  . obtain ⟨b, off, e, hb, hc⟩ := h5.2 hn
    refine ⟨b,off,e,hb,fun i y hy=>?_⟩
    rw [List.getElem?_map] at hy
    obtain ⟨x',hx',rfl⟩:=Option.map_eq_some_iff.1 hy
    have hi:i<es.length:=by rw [h4];exact (List.getElem?_eq_some_iff.1 hx').1
    obtain ⟨hl,hr⟩:=h6 i _ _ hx' (List.getElem?_eq_getElem hi)
    refine ⟨⟨es[i],(h.get hr).1,fun j u hu=>?_⟩,fun j _=>id⟩
    have:=hc _ u (zIU hes i j _ u (List.getElem?_eq_getElem hi) hu)
    rw [hk]
    rwa [Nat.add_assoc]
  . show (x.map f).length <= maxLen
    rw [List.length_map]
    omega
  . intro y hy
    obtain ⟨x',hx',rfl⟩:=List.mem_map.1 hy
    obtain ⟨i,hi,rfl⟩:=List.getElem_of_mem hx'
    have hi':i<es.length:=by omega
    exact (h.get (h6 i _ _ (List.getElem?_eq_getElem hi) (List.getElem?_eq_getElem hi')).2).2
theorem Br.st {α β:Type} {R:Rel α} {E:Enc β} {f:α->β} {Q:β->Prop} (h:Br R E f Q) (ha:E.agg=true) {w:World} {x:α} {cs:List Value} (hr:R w w.heap.size x cs):Rep E av0 w (.agg cs.toArray) (f x):=
  ⟨cs,by unfold Enc.val;rw [if_pos ha],(h.get hr).1⟩
theorem Br.cell {α β:Type} {R:Rel α} {E:Enc β} {f:α->β} {Q:β->Prop} (h:Br R E f Q) (ha:E.agg=false) {w:World} {x:α} {v:Value} (hr:R w w.heap.size x [v]):Rep E av0 w v (f x):=
  ⟨[v],by unfold Enc.val;rw [ha];rfl,(h.get hr).1⟩
theorem zOv (w:World):AvOK av0 w:=fun _ _ h=>h.elim
theorem zPW {P:Program} {fn:FuncId} {args:Array Value} {w:World} (h:Calls P fn args w fun e w'=>∃ v,e=.returned v/\(v=.bool true/\Fr w w')):Calls P fn args w fun e w'=>e=.returned (.bool true)/\Below w.heap.size w w':=
  h.mono fun e w' ⟨v,he,hv,hf⟩=>⟨by rw [he,hv],hf.toBelow⟩
def SG (P:Program) (n:Nat) (ops:List Oper) (k:Nat) (R:Reg) (w:World) (Q:Exit->Reg->World->Prop):Prop:=
  ∀ a:Act,Pl n a->regs a=R->wpOps P ops.toArray (PQ n Q) (List.range' k (ops.length-k)) a w
section
variable {P:Program} {n:Nat} {ops:List Oper} {k:Nat} {R:Reg} {w:World} {Q:Exit->Reg->World->Prop}
theorem SG.of {id:Nat} (h:SG P n ops 0 R w Q):HT P n (.region id ops.toArray false) R w Q:=fun a hpl hR=>by
  refine wp_region ?_
  have:=h a hpl hR
  rw [Nat.sub_zero] at this
  rw [List.range_eq_range']
  simpa using this
theorem zQA (hk:ops.length=k) (h:Q .normal R w):SG P n ops k R w Q:=fun a hpl hR=>by
  rw [hk,Nat.sub_self]
  simp only [List.range'_zero,wpOps]
  exact ⟨hpl,hR ▸ h⟩
theorem SG.step {o:Oper} (ho:ops[k]? = some o) (hg:o.guard=none) (hd:∀ d,o.dst=some d->d<n) (h:OpR P o R w fun v w'=>SG P n ops (k+1) (updO R o.dst v) w' Q):SG P n ops k R w Q:=fun a hpl hR=>by
  have hk:k<ops.length:=(List.getElem?_eq_some_iff.1 ho).1
  rw [show ops.length-k=(ops.length-(k+1))+1 by omega,List.range'_succ,wpOps_cons]
  rw [<- hR] at h
  refine zGv hg h (fun v w' hs=>?_) k (by simpa using ho)
  refine hs _ ⟨by rw [zEP];exact hpl.1,by rw [zFx];exact hpl.2⟩ ?_
  exact zG5 _ _ _ fun d hdd=>Nat.lt_of_lt_of_le (hd d hdd) hpl.2
theorem zQB {o : Oper} (d : Nat) (ho : ops[k]? = some o) (hg : o.guard = none) (hd : o.dst = some d) (hn : Nat.blt d n = true) {K : Value -> World -> Prop} (h : OpR P o R w K)
    (hk:∀ v w',K v w'->∀ R',(∀ t,Nat.beq t d=false->R' t=R t)->R' d=v->SG P n ops (k+1) R' w' Q):SG P n ops k R w Q:=by
  refine SG.step ho hg (fun d' h'=>?_) (h.mono fun v w' hv=>?_)
  . rw [hd] at h'
    injection h' with h'
    subst h'
    simpa using hn
  . rw [hd]
    refine hk v w' hv _ (fun t ht=>?_) (zGT _ _ _)
    show (bif Nat.beq t d then v else R t)=R t
    rw [ht]
    rfl
def Past (A : Av) (R : Reg) (w : World) : Nat -> List EntR -> Prop
  | 0,_=>True
  | _+1,[]=>True
  | k+1,x::l=>(x.g=true/\x.con = []/\x.res=none/\(match x.o.dst with | some d=>(x.f A).ok (R d) w | none=>True))/\Past A R w k l
theorem Past.at {A : Av} : ∀ (l : List EntR) (k : Nat), Past A R w k l -> ∀ (i : Nat) x, i < k -> l[i]? = some x -> x.g = true /\ x.con = [] /\ x.res = none /\ ∀ d, x.o.dst = some d -> (x.f A).ok (R d) w
  | [],k,_,i,x,_,hx=>by simp at hx
  | y::l,0,_,i,x,hi,_=>by omega
  | y::l,k+1,h,0,x,_,hx=>by
    simp only [List.getElem?_cons_zero,Option.some.injEq] at hx
    subst hx
    obtain ⟨⟨h1,h2,h3,h4⟩,_⟩:=h
    refine ⟨h1,h2,h3,fun d hd=>?_⟩
    rw [hd] at h4
    exact h4
  | y::l,k+1,h,i+1,x,hi,hx=>Past.at l k h.2 i x (by omega) (by simpa using hx)
theorem SG.textR {A : Av} {rest : List Oper} (ini : List Ob) (l : List EntR) (k' : Nat) (hops : ops = l.map (·.o) ++ rest) (hk' : l.length = k') (hkk : Nat.ble k k' = true) (hb : zCx 0 (l.map (·.o)) = true) (hs : zFY n (l.map (·.o)) = true) (hw : Wf ini l) (hi : IniOK ini A w) (hA : AvOK A w)
    (hp:Past A R w k l) (ho:zEC P ini l A R w k (l.drop k)) (ha:zJi ini l A R w (fun R w=>SG P n ops k' R w Q)):SG P n ops k R w Q:=fun a hpl hR=>by
  have hkk:k<=k':=Nat.le_of_ble_eq_true hkk
  have hlen:ops.length=k'+rest.length:=by rw [hops,List.length_append,List.length_map,hk']
  have hopl:∀ (i:Nat) x,l[i]? = some x->ops.toArray[i]? = some x.o:=fun i x hx=>by
    have hlt:=(List.getElem?_eq_some_iff.1 hx).1
    rw [List.getElem?_toArray,hops,List.getElem?_append_left (by rw [List.length_map];exact hlt),List.getElem?_map,hx]
    rfl
  have hmap:∀ (i:Nat) x,l[i]? = some x->(l.map (·.o))[i]? = some x.o:=fun i x hx=>by
    rw [List.getElem?_map,hx]
    rfl
  have hobl:∀ (i:Nat) x,k<=i->l[i]? = some x->OblR P ini l A R w i x:=fun i x hki hx=>by
    have:=zEC.at (l.drop k) k ho (i-k) x (by rw [List.getElem?_drop,show k+(i-k)=i by omega];exact hx)
    rwa [show k+(i-k)=i by omega] at this
  have key : ∀ m j, m + j = l.length -> k <= j -> ∀ (a : Act) (ρ : Nat -> Value) (σ : Nat -> Nat -> Prop) (A' : Av) (w' : World), Pl n a -> InvR ini l A R w (fun i => Nat.blt i j) ρ σ A' (regs a) w' ->
      wpOps P ops.toArray (PQ n Q) (List.range' j (ops.length-j)) a w':=by
    intro m
    induction m with
    | zero=>
      intro j hj hkj a ρ σ A' w' hpl hI
      have:=ha _ ρ σ A' _ _ (fun i hi=>by simpa using (by omega:i<j)) hI a hpl rfl
      rwa [show k'=j by omega] at this
    | succ m ih=>
      intro j hj hkj a ρ σ A' w' hpl hI
      rw [show ops.length-j=(ops.length-(j+1))+1 by omega,List.range'_succ,wpOps_cons]
      have hkl:j<l.length:=by omega
      have hx:l[j]? = some l[j]:=List.getElem?_eq_getElem hkl
      refine zId (done:=fun i=>Nat.blt i j) hw hopl (fun i x d hx hdd=>zEu hs (hmap i x hx) hdd) hx (hobl j _ hkj hx) (zGy (Nat.le_refl j)) (fun e he hbe=>?_) (fun i y hy hex=>?_) hpl hI (fun a' ρ' σ' A'' w'' hpl' hI'=>ih (j+1) (by omega) (by omega) a' ρ' σ' A'' w'' hpl' ?_)
      . have := zCt _ 0 hb j _ (hmap j _ hx) e he hbe
        show Nat.blt e.on j=true
        simpa using this
      . obtain ⟨e, he, hbe, hon⟩ := hex
        have:=zCt _ 0 hb i _ (hmap i _ hy) e he hbe
        exact zGy (by omega)
      . have:setB (fun i=>Nat.blt i j) j=fun i=>Nat.blt i (j+1):=by
          funext i
          by_cases e:i=j
          . subst e;rw [zE6];simp
          . rw [zEE _ e,Bool.eq_iff_iff];simp;omega
        rw [<- this]
        exact hI'
  refine key (k'-k) k (by omega) (Nat.le_refl k) a (fun id=>((ini[id]?).map (·.u)).getD undef) (fun id=>((ini[id]?).map (·.S)).getD fun _=>False) A w hpl ?_
  have hdn:∀ i,Nat.blt i k=true->i<k:=fun i h=>by simpa using h
  have hlive:∀ id r,zEF ini l id=some r->Live ini l (fun i=>Nat.blt i k) id->id<ini.length:=fun id r hr h=>by
    rcases h.1 with h1 | h1
    . exact h1
    . rcases Nat.lt_or_ge id ini.length with h2 | h2
      . exact h2
      . exfalso
        unfold zEF at hr
        rw [List.getElem?_eq_none h2] at hr
        cases hx:l[id-ini.length]? with
        | none=>rw [hx] at hr;cases hr
        | some x=>
          rw [hx] at hr
          have:=(Past.at l k hp _ x (hdn _ h1) hx).2.2.1
          simp only [Option.bind_some,this] at hr
          cases hr
  have kk:∀ id r,zEF ini l id=some r->Live ini l (fun i=>Nat.blt i k) id->∃ p,ini[id]? = some p/\p.r=r/\((ini[id]?).map (·.u)).getD undef=p.u/\(((ini[id]?).map (·.S)).getD fun _=>False)=p.S:=fun id r hr hl=>by
    obtain ⟨p,hp',hr'⟩:=zFl (l:=l) (hlive id r hr hl)
    rw [hr'] at hr
    injection hr with hr
    exact ⟨p,hp',hr,by rw [hp'];rfl,by rw [hp'];rfl⟩
  rw [<- hR] at hp
  refine ⟨Ch.refl _ _,(Fr.refl w).stp A,hA,hA,fun _ _ h _=>h,fun t _=>by rw [hR],fun i x d hx hd hxd hg=>?_,fun i x d hx hd hxd hg=>?_,fun id r hr hl=>?_,fun id r hr hl q hq o=>?_,fun id id' r r' hr hr' hl hl' hne q hq=>?_,fun id r hr hl q _ hq=>?_,fun id p hp'=>(by rw [hp'];exact ⟨rfl,rfl⟩),fun i x d hx hd hres=>?_,fun i x c hx hd hres=>?_,fun n id r p hd hrt hp'=>?_⟩
  . exact (Past.at l k hp i x (hdn i hd) hx).2.2.2 d hxd
  . have := (Past.at l k hp i x (hdn i hd) hx).1
    rw [this] at hg
    cases hg
  . obtain ⟨p, hp', rfl, he, hs'⟩ := kk id r hr hl
    rw [he,hs']
    exact ⟨(hi.ok id p hp').1,hi.own id p hp'⟩
  . obtain ⟨p, hp', rfl, he, hs'⟩ := kk id r hr hl
    rw [hs'] at hq
    exact (hi.ok id p hp').2 q hq o
  . obtain ⟨p, hp', rfl, he, hs'⟩ := kk id r hr hl
    obtain ⟨p2,hp2,rfl,he2,hs2⟩:=kk id' r' hr' hl'
    rw [hs'] at hq
    rw [hs2]
    exact hi.dis id id' p p2 hp' hp2 hne q hq
  . obtain ⟨p, hp', rfl, he, hs'⟩ := kk id r hr hl
    rw [hs'] at hq
    exact ⟨id,p,hp',hq⟩
  . exact absurd (Past.at l k hp i x (hdn i hd) hx).2.2.1 hres
  . exact absurd (Past.at l k hp i x (hdn i hd) hx).2.2.1 hres
  . cases n with
    | zero=>cases hrt
    | succ n=>
      unfold zHd at hrt
      rcases Nat.lt_or_ge id ini.length with hl | hl
      . rw [List.getElem?_eq_getElem hl] at hrt
        obtain rfl:id=r:=Option.some.inj hrt
        rw [hp']
        rfl
      . rw [List.getElem?_eq_none hl] at hrt
        have hdn':=hdn _ (hd.resolve_left (by omega))
        cases hx:l[id-ini.length]? with
        | none=>rw [hx] at hrt;cases hrt
        | some x=>
          have:=(Past.at l k hp _ x hdn' hx).2.2.1
          rw [hx] at hrt
          simp only [this,Option.isSome_none,Bool.not_false,Bool.or_true,cond_true] at hrt
          cases hrt
end
structure GPost (A0 : Av) (K : Nat -> Prop) (w : World) (obs : List Ob) (A1 : Av) (w' : World) : Prop where
  ini:IniOK obs A1 w'
  avok:AvOK A1 w'
  low:∀ b o,A0 b o->A1 b o
  up:∀ b o,A1 b o->A0 b o\/zF7 obs b
  new:∀ k,zF7 obs k->w.heap.size<=k\/K k
  ch:Ch K w w'
abbrev subS (A:Av) (S:Nat->Prop):Av:=fun b o=>A b o/\¬ S b
section
variable {ini obs:List Ob} {A A0 A1:Av} {w w':World} {K:Nat->Prop}
theorem IniOK.shrink (h:IniOK ini A w) (h1:∀ b o,A1 b o->A b o) (h2:∀ k,zF7 ini k->∀ o,A1 k o):IniOK ini A1 w:=
  ⟨fun i p hp=>⟨(Res.stabS (h.ok i p hp).1 (h.own i p hp) (fun _ _=>rfl) (zDl h1)).1,fun k hk=>h2 k ⟨i,p,hp,hk⟩⟩,fun i p hp=>(Res.stabS (h.ok i p hp).1 (h.own i p hp) (fun _ _=>rfl) (zDl h1)).2,h.dis⟩
theorem GPost.of (hO:IniOK obs A w') (hA:AvOK A w') (hAA:∀ b o,A0 b o->A b o) (hge:∀ k,zF7 obs k->w.heap.size<=k\/K k) (hF:Ch K w w'):∃ A1,(∀ b o,A1 b o->A b o)/\GPost A0 K w obs A1 w':=by
  have hsub:∀ b o,(A0 b o\/zF7 obs b)->A b o:=fun b o h=>h.elim (hAA b o) fun ⟨i,p,hp,hk⟩=>(hO.ok i p hp).2 b hk o
  exact ⟨fun b o=>A0 b o\/zF7 obs b,hsub,hO.shrink hsub fun k hk o=>.inr hk,fun b o h=>hA b o (hsub b o h),fun _ _ h=>.inl h,fun _ _ h=>h,hge,hF⟩
theorem zC1 (hA:AvOK A w) (h:GPost (subS A K) K w obs A1 w') (hK:∀ k,K k->∀ o,A k o):Stp A A1 w w':=
  ⟨h.ch.size,fun b o v hv hn=>(World.cell?_of_block (w:=w) (h.ch.block b (zFA hv) fun hk=>hn (hK b hk o))).trans hv,fun b o hb h1=>(h.up b o h1).elim (·.1) fun h2=>(h.new b h2).elim (fun h3=>by omega) fun h3=>hK b h3 o⟩
theorem zPs (hO:IniOK ini A w) (hA:AvOK A w) (i:Nat) {p:Ob} (hp:ini[i]? = some p) (h:GPost (subS A p.S) p.S w obs A1 w'):IniOK (obs++ini.eraseIdx i) A1 w':=by
  have hK:∀ k,p.S k->∀ o,A k o:=(hO.ok i p hp).2
  have hst:=zC1 hA h hK
  have hlt:∀ (j:Nat) q,ini[j]? = some q->∀ k,q.S k->k<w.heap.size:=fun j q hq k hk=>Res.ltS (hO.ok j q hq).1 (hO.own j q hq) hk
  have her:∀ (j:Nat) q,(ini.eraseIdx i)[j]? = some q->∃ j',j' ≠ i/\ini[j']? = some q/\(j'=if j<i then j else j+1):=fun j q hq=>by
    rw [List.getElem?_eraseIdx] at hq
    split at hq
    . rename_i hlt;exact ⟨j,by omega,hq,by rw [if_pos hlt]⟩
    . rename_i hlt;exact ⟨j+1,by omega,hq,by rw [if_neg hlt]⟩
  have hrest:∀ (j:Nat) q,(ini.eraseIdx i)[j]? = some q->(q.r.ok A1 q.u w'/\q.r.own A1 q.u q.S w')/\∀ k,q.S k->∀ o,A1 k o:=fun j q hq=>by
    obtain ⟨j',hne,hj',_⟩:=her j q hq
    have hd:∀ k,q.S k->¬ p.S k:=hO.dis j' i q p hj' hp hne
    exact ⟨Res.stabS (hO.ok j' q hj').1 (hO.own j' q hj') (fun k hk=>h.ch.block k (hlt j' q hj' k hk) (hd k hk)) hst,fun k hk o=>h.low k o ⟨(hO.ok j' q hj').2 k hk o,hd k hk⟩⟩
  have hobr:∀ (i' j:Nat) p' q,obs[i']? = some p'->(ini.eraseIdx i)[j]? = some q->∀ k,p'.S k->¬ q.S k:=fun i' j p' q hp' hq k hk hk'=>by
    obtain ⟨j',hne,hj',_⟩:=her j q hq
    rcases h.new k ⟨i',p',hp',hk⟩ with h1 | h1
    . have := hlt j' q hj' k hk'
      omega
    . exact hO.dis j' i q p hj' hp hne k hk' h1
  refine ⟨fun j q hq=>?_,fun j q hq=>?_,fun j j' q q' hq hq' hne k hk=>?_⟩
  . rcases Nat.lt_or_ge j obs.length with hl | hl
    . rw [List.getElem?_append_left hl] at hq
      exact h.ini.ok j q hq
    . rw [List.getElem?_append_right hl] at hq
      exact ⟨(hrest _ q hq).1.1,(hrest _ q hq).2⟩
  . rcases Nat.lt_or_ge j obs.length with hl | hl
    . rw [List.getElem?_append_left hl] at hq
      exact h.ini.own j q hq
    . rw [List.getElem?_append_right hl] at hq
      exact (hrest _ q hq).1.2
  . rcases Nat.lt_or_ge j obs.length with hl | hl <;> rcases Nat.lt_or_ge j' obs.length with hl' | hl'
    . rw [List.getElem?_append_left hl] at hq
      rw [List.getElem?_append_left hl'] at hq'
      exact h.ini.dis j j' q q' hq hq' hne k hk
    . rw [List.getElem?_append_left hl] at hq
      rw [List.getElem?_append_right hl'] at hq'
      exact hobr _ _ _ _ hq hq' k hk
    . rw [List.getElem?_append_right hl] at hq
      rw [List.getElem?_append_left hl'] at hq'
      exact fun hk'=>hobr _ _ _ _ hq' hq k hk' hk
    . rw [List.getElem?_append_right hl] at hq
      rw [List.getElem?_append_right hl'] at hq'
      obtain ⟨a,_,ha,ea⟩:=her _ q hq
      obtain ⟨b,_,hb,eb⟩:=her _ q' hq'
      exact hO.dis a b q q' ha hb (by rw [ea,eb];split <;> split <;> omega) k hk
theorem GPost.next0 (hO:IniOK ini A w) (hA:AvOK A w) (h:GPost A (fun _=>False) w obs A1 w'):IniOK (obs++ini) A1 w'/\Stp A A1 w w':=by
  have e:subS A (fun _=>False)=A:=by
    funext b o
    simp [subS]
  have h':GPost (subS A fun _=>False) (fun _=>False) w obs A1 w':=by rw [e];exact h
  have hst:=zC1 hA h' fun _ h=>h.elim
  have hlt:∀ (j:Nat) q,ini[j]? = some q->∀ k,q.S k->k<w.heap.size:=fun j q hq k hk=>Res.ltS (hO.ok j q hq).1 (hO.own j q hq) hk
  have hrest:∀ (j:Nat) q,ini[j]? = some q->(q.r.ok A1 q.u w'/\q.r.own A1 q.u q.S w')/\∀ k,q.S k->∀ o,A1 k o:=fun j q hj=>
    ⟨Res.stabS (hO.ok j q hj).1 (hO.own j q hj) (fun k hk=>h.ch.block k (hlt j q hj k hk) fun h=>h) hst,fun k hk o=>h.low k o ((hO.ok j q hj).2 k hk o)⟩
  have hobr:∀ (i' j:Nat) p' q,obs[i']? = some p'->ini[j]? = some q->∀ k,p'.S k->¬ q.S k:=fun i' j p' q hp' hq k hk hk'=>by
    rcases h.new k ⟨i',p',hp',hk⟩ with h1 | h1
    . have := hlt j q hq k hk'
      omega
    . exact h1
  refine ⟨⟨fun j q hq=>?_,fun j q hq=>?_,fun j j' q q' hq hq' hne k hk=>?_⟩,hst⟩
  . rcases Nat.lt_or_ge j obs.length with hl | hl
    . rw [List.getElem?_append_left hl] at hq
      exact h.ini.ok j q hq
    . rw [List.getElem?_append_right hl] at hq
      exact ⟨(hrest _ q hq).1.1,(hrest _ q hq).2⟩
  . rcases Nat.lt_or_ge j obs.length with hl | hl
    . rw [List.getElem?_append_left hl] at hq
      exact h.ini.own j q hq
    . rw [List.getElem?_append_right hl] at hq
      exact (hrest _ q hq).1.2
  . rcases Nat.lt_or_ge j obs.length with hl | hl <;> rcases Nat.lt_or_ge j' obs.length with hl' | hl'
    . rw [List.getElem?_append_left hl] at hq
      rw [List.getElem?_append_left hl'] at hq'
      exact h.ini.dis j j' q q' hq hq' hne k hk
    . rw [List.getElem?_append_left hl] at hq
      rw [List.getElem?_append_right hl'] at hq'
      exact hobr _ _ _ _ hq hq' k hk
    . rw [List.getElem?_append_right hl] at hq
      rw [List.getElem?_append_left hl'] at hq'
      exact fun hk'=>hobr _ _ _ _ hq' hq k hk' hk
    . rw [List.getElem?_append_right hl] at hq
      rw [List.getElem?_append_right hl'] at hq'
      exact hO.dis _ _ q q' hq hq' (by omega) k hk
theorem IniOK.put (h:IniOK ini A w) (i:Nat) {p:Ob} (hi:ini[i]? = some p) (p':Ob) (hok:p'.r.ok A p'.u w) (hown:p'.r.own A p'.u p'.S w) (hS:∀ k,p'.S k->p.S k):IniOK (ini.set i p') A w:=by
  have hl:=(List.getElem?_eq_some_iff.1 hi).1
  have hat:∀ (j:Nat) q,(ini.set i p')[j]? = some q->∃ q0,ini[j]? = some q0/\(∀ k,q.S k->q0.S k)/\(j=i/\q=p'\/j ≠ i/\q0=q):=fun j q hq=>by
    by_cases e:j=i
    . subst e
      rw [List.getElem?_set_self hl] at hq
      injection hq with hq
      subst hq
      exact ⟨_,hi,hS,.inl ⟨rfl,rfl⟩⟩
    . rw [List.getElem?_set_ne (Ne.symm e)] at hq
      exact ⟨q,hq,fun _ h=>h,.inr ⟨e,rfl⟩⟩
  refine ⟨fun j q hq=>?_,fun j q hq=>?_,fun j j' q q' hq hq' hne k hk hk'=>?_⟩
  . obtain ⟨q0, h0, hS', hc⟩ := hat j q hq
    rcases hc with ⟨rfl,rfl⟩ | ⟨_,rfl⟩
    . exact ⟨hok,fun k hk=>(h.ok _ _ h0).2 k (hS' k hk)⟩
    . exact h.ok j _ h0
  . obtain ⟨q0, h0, hS', hc⟩ := hat j q hq
    rcases hc with ⟨rfl,rfl⟩ | ⟨_,rfl⟩
    . exact hown
    . exact h.own j _ h0
  . obtain ⟨q0, h0, hS', _⟩ := hat j q hq
    obtain ⟨q0',h0',hS'',_⟩:=hat j' q' hq'
    exact h.dis j j' q0 q0' h0 h0' hne k (hS' k hk) (hS'' k hk')
theorem IniOK.reK (h:IniOK ini A w) (i:Nat) {u:Value} {S:Nat->Prop} {K K':Nat->Prop} {p:SP} (hi:ini[i]? = some ⟨u,S,.gen K p⟩) (hK:∀ k,K k->K' k):IniOK (ini.set i ⟨u,S,.gen K' p⟩) A w:=
  h.put i hi ⟨u,S,.gen K' p⟩ trivial ⟨fun k hk=>hK k ((h.own i _ hi).1 k hk),(h.own i _ hi).2⟩ fun _ h=>h
theorem IniOK.reV (h:IniOK ini A w) (i:Nat) {u:Value} {S:Nat->Prop} {α:Type} {B B':Nat} {T:TypeId} {E:Enc α} {xs:List α} (hi:ini[i]? = some ⟨u,S,.vec B T E xs⟩) (hB:B'<=B):IniOK (ini.set i ⟨u,S,.vec B' T E xs⟩) A w:=
  h.put i hi ⟨u,S,.vec B' T E xs⟩ (Res.mono (r:=.nul) (h.ok i _ hi).1 hB) (by have:=h.own i _ hi;exact this) fun _ h=>h
theorem IniOK.reX (h:IniOK ini A w) (i:Nat) {u:Value} {S:Nat->Prop} {α:Type} {B B':Nat} {T:TypeId} {E:Enc α} {x:α} (hi:ini[i]? = some ⟨u,S,.box B T E x⟩) (hB:B'<=B):IniOK (ini.set i ⟨u,S,.box B' T E x⟩) A w:=
  h.put i hi ⟨u,S,.box B' T E x⟩ (let ⟨b,h1,h2,h3⟩:=(h.ok i _ hi).1;⟨b,h1,Nat.le_trans hB h2,h3⟩) (by have:=h.own i _ hi;exact this) fun _ h=>h
theorem IniOK.unbox {P : Program} {R : Reg} (h : IniOK ini A w) (i : Nat) {u : Value} {S : Nat -> Prop} {K : Nat -> Prop} {α : Type} {F : OE α} {x : α} {pins : List Pin} {T T' : TypeId} {r : Nat} (hi : ini[i]? = some ⟨u, S, trR K (oPt T' F) x pins⟩) (hR : R r = u) (hag : ∀ w, (isAgg T).run P w=.ok F.E.agg w) (hsz : ∀ w, (sizeOf T).run P w=.ok F.E.size w) :
    ∃ v S1,zLA P R w (.cell r T) v/\IniOK (ini.set i ⟨v,S1,trR K F x []⟩) A w:=by
  obtain ⟨hK,⟨cs,e,b,ds,S1,rfl,h1,h2,h3,h4⟩,_⟩:=h.own i _ hi
  have hu:u=.pointer (some ⟨b,0,none⟩):=e
  have hsub:∀ k,S1 k->S k:=fun k hk=>(h4 k).2 (.inr hk)
  refine ⟨F.E.val ds,S1,⟨⟨b,0,none⟩,by rw [hR,hu],?_⟩,h.put i hi ⟨F.E.val ds,S1,trR K F x []⟩ trivial ⟨fun k hk=>hK k (hsub k hk),⟨ds,rfl,h2⟩,fun q hq=>by cases hq⟩ hsub⟩
  have:=zDk (P:=P) (w:=w) (b:=b) (o:=0) hag hsz (F.len h2) F.E.one (fun j v hj=>by rw [h1.cell,Nat.zero_add];simpa using hj)
  simpa [Enc.val] using this
theorem zHq {B:Nat} (hAA:∀ b o,A0 b o->A b o) (hA0:∀ b o,A0 b o->b<B) (hge:∀ k,zF7 ini k->B<=k) (i:Nat) {p:Ob} (hi:ini[i]? = some p) (h:GPost (subS A p.S) p.S w obs A1 w'):∀ b o,A0 b o->A1 b o:=
  fun b o hb=>h.low b o ⟨hAA b o hb,fun hk=>by have:=hA0 b o hb;have:=hge b ⟨i,p,hi,hk⟩;omega⟩
theorem zCE {B:Nat} (hAA:∀ b o,A0 b o->A b o) (hA0:∀ b o,A0 b o->b<B) (hN:∀ b o,A0 b o->¬ K b) (hge:∀ k,zF7 ini k->B<=k\/K k) (i:Nat) {p:Ob} (hi:ini[i]? = some p) (h:GPost (subS A p.S) p.S w obs A1 w'):∀ b o,A0 b o->A1 b o:=
  fun b o hb=>h.low b o ⟨hAA b o hb,fun hk=>(hge b ⟨i,p,hi,hk⟩).elim (fun h=>by have:=hA0 b o hb;omega) fun h=>hN b o hb h⟩
theorem Ch.no {w w':World} (h:Ch (fun _=>False) w w'):Fr w w':=⟨⟨h.os,h.tape,h.output,h.size,fun k hk=>h.block k hk fun h=>h⟩,h.drawn⟩
def zI0 {α:Type} (F:OE α):Prop:=∀ {A A' w S x cs},F.own A w S x cs->F.own A' w S x cs
theorem zM9 {α:Type} {E:Enc α} (hfl:∀ A A' w x cs,E.rep A w x cs->E.rep A' w x cs):zI0 (oRd E):=fun h=>⟨h.1,hfl _ _ _ _ _ h.2⟩
theorem zON {α β:Type} {F:OE α} {G:OE β} (h:zI0 F) (k:zI0 G):zI0 (oPr F G):=fun ⟨c,d,S1,S2,e,h1,h2,h3⟩=>⟨c,d,S1,S2,e,h h1,k h2,h3⟩
theorem zO1 {α:Type} {T:TypeId} {F:OE α} (h:zI0 F):zI0 (oSl T F):=fun k=>k.elim .inl fun ⟨g,c,arr,Si,e,h1,h2,h3,h4,h5⟩=>
  .inr ⟨g,c,arr,Si,e,h1,h2,h3,h4,⟨fun i x hx=>let ⟨ds,a,b⟩:=h5.el i x hx;⟨ds,h a,b⟩,h5.dis,h5.out,h5.set⟩⟩
def zMG (p:Ob):Prop:=∀ A A' w,p.r.ok A p.u w->p.r.own A p.u p.S w->p.r.ok A' p.u w/\p.r.own A' p.u p.S w
theorem zLt {α:Type} {u:Value} {S K:Nat->Prop} {F:OE α} {x:α} (h:zI0 F):zMG ⟨u,S,trR K F x []⟩:=fun A A' w _ k=>⟨trivial,k.1,⟨let ⟨cs,e,a⟩:=k.2.1;⟨cs,e,h a⟩,fun q hq=>by cases hq⟩⟩
def zGw : List Ob -> Prop
  | []=>True
  | p::l=>zMG p/\zGw l
theorem zGw.at : ∀ (l : List Ob), zGw l -> ∀ (i : Nat) p, l[i]? = some p -> zMG p
  | [],_,i,p,h=>by simp at h
  | q::l,h,0,p,hp=>by simp at hp;subst hp;exact h.1
  | q::l,h,i+1,p,hp=>zGw.at l h.2 i p (by simpa using hp)
theorem GPost.next0P (hO:IniOK ini A w) (hA:AvOK A w) (h:GPost A0 (fun _=>False) w obs A1 w') (hp:zGw obs):∃ A2,(∀ b o,A b o->A2 b o)/\IniOK (obs++ini) A2 w'/\Stp A A2 w w'/\AvOK A2 w':=by
  have hlow:∀ b o,A b o->A b o\/zF7 obs b:=fun b o h=>.inl h
  have hg:GPost A (fun _=>False) w obs (fun b o=>A b o\/zF7 obs b) w':=by
    refine ⟨⟨fun i p hi=>?_,fun i p hi=>?_,h.ini.dis⟩,fun b o hb=>?_,hlow,fun b o h=>h,h.new,h.ch⟩
    . exact ⟨(zGw.at obs hp i p hi _ _ _ (h.ini.ok i p hi).1 (h.ini.own i p hi)).1,fun k hk o=>.inr ⟨i,p,hi,hk⟩⟩
    . exact (zGw.at obs hp i p hi _ _ _ (h.ini.ok i p hi).1 (h.ini.own i p hi)).2
    . rcases hb with hb | ⟨i, p, hi, hk⟩
      . exact Nat.lt_of_lt_of_le (hA b o hb) h.ch.size
      . exact Res.ltS (h.ini.ok i p hi).1 (h.ini.own i p hi) hk
  have:=hg.next0 hO hA
  exact ⟨_,hlow,this.1,this.2,hg.avok⟩
theorem zHc {P : Program} {R : Reg} {d : Option Nat} {t : TypeId} {p : String} {af : Array Edge} {g : Option (Nat × Bool)} {fn : FuncId} {al : List Operand} {aT : Array TypeId} {α : Type} {B b : Nat} {T : TypeId} {E : Enc α} {x x' : α} {f : Av -> Fact}
    (hc:∀ args w,(callFunc fn args).run P w=.ok (.enter fn args) w) (hok:(Res.box B T E x).ok A (.pointer (some ⟨b,0,none⟩)) w) (hav:∀ k,zAH (.pointer (some ⟨b,0,none⟩)) k->∀ o,A k o) (hA:AvOK A w)
    (h:IniOK [ob (.pointer (some ⟨b,0,none⟩)) (.box B T E x)] A w->Calls P fn (al.map (zAM R)).toArray w fun e w'=>∃ v,e=.returned v/\∃ A1,GPost (subS A (zAH (.pointer (some ⟨b,0,none⟩)))) (zAH (.pointer (some ⟨b,0,none⟩))) w [ob (.pointer (some ⟨b,0,none⟩)) (.box B T E x')] A1 w'/\(f A1).ok v w') :
    OpR P ⟨d,.call ⟨.value (.func fn),al.toArray,aT⟩,t,p,af,g⟩ R w (Took A false (.pointer (some ⟨b,0,none⟩)) (.box B T E x') f w):=by
  have hI:IniOK [ob (.pointer (some ⟨b,0,none⟩)) (.box B T E x)] A w:=by
    refine ⟨fun i q hq=>?_,fun i q hq=>?_,fun i j q q' hq hq' hne=>?_⟩
    . cases i with
      | zero=>simp only [List.getElem?_cons_zero,Option.some.injEq] at hq;subst hq;exact ⟨hok,hav⟩
      | succ i=>simp at hq
    . cases i with
      | zero=>simp only [List.getElem?_cons_zero,Option.some.injEq] at hq;subst hq;rfl
      | succ i=>simp at hq
    . cases i with
      | zero=>
        cases j with
        | zero=>exact (hne rfl).elim
        | succ j=>simp at hq'
      | succ i=>simp at hq
  refine (zBg hc (h hI)).mono fun v w' ⟨A1,hG,hv⟩=>?_
  have e:A1=zK8 A (.pointer (some ⟨b,0,none⟩)) (.pointer (some ⟨b,0,none⟩)):=by
    funext k o
    rw [eq_iff_iff]
    constructor
    . intro h1
      rcases hG.up k o h1 with h2 | ⟨i,q,hq,h2⟩
      . exact .inl h2
      . cases i with
        | zero=>simp only [List.getElem?_cons_zero,Option.some.injEq] at hq;subst hq;exact .inr h2
        | succ i=>simp at hq
    . rintro (h1 | h1)
      . exact hG.low k o h1
      . exact (hG.ini.ok 0 _ rfl).2 k h1 o
  have hst:=zC1 hA hG hav
  subst e
  exact ⟨_,rfl,hG.ch,fun k _ h=>h,hst,(hG.ini.ok 0 _ rfl).1,hv⟩
theorem zDR {P:Program} {R:Reg} {d:Option Nat} {t:TypeId} {p:String} {af:Array Edge} {g:Option (Nat × Bool)} {x:Operand} {a:Addr} (hx:zAM R x=.pointer (some a)):OpF P ⟨d,.nilCheck x,t,p,af,g⟩ R w (.raw (.pointer (some a))):=
  zAV (v:=.pointer (some a)) (w':=w) (by simp [execOp,hx]) ⟨rfl,Fr.refl _⟩
theorem zOX {α β:Type} {F:OE α} {G:OE β} {S1:Nat->Prop} {y:α} {z:β} {c ds:List Value} (h:F.own A w S1 y c) (k:G.own A w (fun _=>False) z ds):(oPr F G).own A w S1 (y,z) (c++ds):=⟨c,ds,S1,_,rfl,h,k,fun _=>⟨.inl,fun h=>h.elim id fun h=>h.elim⟩,fun _ _ h=>h⟩
theorem zKJ {α β:Type} {F:OE α} {G:OE β} {S2:Nat->Prop} {y:α} {z:β} {c ds:List Value} (h:F.own A w (fun _=>False) y c) (k:G.own A w S2 z ds):(oPr F G).own A w S2 (y,z) (c++ds):=⟨c,ds,_,S2,rfl,h,k,fun _=>⟨.inr,fun h=>h.elim (fun h=>h.elim) id⟩,fun _ h=>h.elim⟩
theorem zIH {α:Type} {F:OE α} {T:TypeId} {S:Nat->Prop} {xs:List α} {cs:List Value} (h:(oSl T F).own A w S xs cs):∃ a n c,cs = [.slice a n c]:=by
  rcases h with ⟨rfl,_,_⟩ | ⟨g,c,arr,Si,rfl,_⟩
  . exact ⟨_,_,_,rfl⟩
  . exact ⟨_,_,_,rfl⟩
end
def pdP {β : Type} (F : OE β) (a : Value) (Q : β -> Pw) (y : β) : SP where
  P := fun A w S u => ∃ (b off : Nat) (S1 S2 : Nat -> Prop) (cs : List Value), a=.pointer (some ⟨b, off, none⟩) /\ u = F.E.val cs /\ F.own A w S1 y cs /\ (∀ k, S k ↔ S2 k \/ S1 k) /\ (∀ k, S1 k -> ¬ S2 k) /\ S2 b /\ (∃ arr T, Blk w b T arr /\ off + F.E.size <= arr.size) /\ (∀ k, S2 k -> k < w.heap.size) /\
    ∀ (A':Av) (w':World) (S1':Nat->Prop) (y':β) (ds:List Value),F.own A' w' S1' y' ds->(∀ (j:Nat) u,ds[j]? = some u->w'.cell? ⟨b,off+j,none⟩=some u)->Up b off F.E.size w w'->(∀ k,S2 k->k ≠ b->w'.heap[k]? = w.heap[k]?)->Stp A A' w w'->(∀ k,S1' k->¬ S2 k)->Q y' A' w' (fun k=>S2 k\/S1' k)
  lt:=by
    rintro A w S u k ⟨b,off,S1,S2,cs,rfl,rfl,h1,h2,h3,h4,h5,h6,h7⟩ hk
    rcases (h2 k).1 hk with h | h
    . exact h6 k h
    . exact F.lt h1 h
  stab:=by
    rintro A A1 w w1 S u ⟨b,off,S1,S2,cs,rfl,rfl,h1,h2,h3,h4,⟨arr,T,h5,h5'⟩,h6,h7⟩ hb hs
    have hbb:=hb b ((h2 b).2 (.inl h4))
    refine ⟨b,off,S1,S2,cs,rfl,rfl,F.stab h1 (fun k hk=>hb k ((h2 k).2 (.inr hk))) hs,h2,h3,h4,⟨arr,T,hbb.trans h5,h5'⟩,fun k hk=>Nat.lt_of_lt_of_le (h6 k hk) hs.size,fun A' w' S1' y' ds k1 k2 k3 k4 k5 k6=>?_⟩
    obtain ⟨arr0,arr1,T0,j1,j2,j3,j4⟩:=k3
    exact h7 A' w' S1' y' ds k1 k2 ⟨arr0,arr1,T0,hbb.symm.trans j1,j2,j3,j4⟩ (fun k hk hne=>(k4 k hk hne).trans (hb k ((h2 k).2 (.inl hk)))) (hs.trans k5) k6
def fixP (v : Value) (p : SP) : SP where
  P:=fun A w S _=>p.P A w S v
  lt:=fun h hk=>p.lt h hk
  stab:=fun h hb hs=>p.stab h hb hs
section
variable {A A0:Av} {w:World} {ini:List Ob}
theorem IniOK.refix (h:IniOK ini A w) (i:Nat) {u v:Value} {S K:Nat->Prop} {p:SP} (hi:ini[i]? = some ⟨u,S,.gen K (fixP v p)⟩):IniOK (ini.set i ⟨v,S,.gen K p⟩) A w:=
  h.put i hi ⟨v,S,.gen K p⟩ trivial ⟨(h.own i _ hi).1,(h.own i _ hi).2⟩ fun _ h=>h
end
section
variable {P:Program} {R:Reg} {w:World} {d:Option Nat} {t:TypeId} {p:String} {af:Array Edge} {g:Option (Nat × Bool)} {A A0:Av} {α β:Type} {S S0:Nat->Prop}
variable {E:Enc α} {F:OE α} {x ix:Operand} {T e:TypeId} {K:Nat->Prop} {u a v:Value}
theorem zF0 {y : Operand} {ty : TypeId} {xs ys : List α} {Q : List α -> Pw} {u0 : Value} {S' : Nat -> Prop} {dd : Nat} (h : zES (oSl e (oRd E)) A w S a xs Q) (hp : zIa w S' (a, [v])) (hx : zAM R x = v) (hav : ∀ k, S k -> ∀ o, A k o) (hB : ∀ k, S k -> K k) (hBw : ∀ k, w.heap.size <= k -> K k) (hlt : ∀ k, S k -> k < w.heap.size)
    (hy:Rep (eSl E) A w (zAM R y) ys) (ht:P.underlying T=some (.slice e)) (he:ElF P e E.size) (hl:zBu (xs.length+ys.length)=true) (hT:e ≠ zKi:=by decide) :
    OpR P ⟨some dd,.call ⟨.builtin .append,#[x,y],#[T,T]⟩,ty,p,af,g⟩ R w (zEs A true u0 S (.gen K (pdP (oSl e (oRd E)) a Q (xs++ys))) (fun _=>.any) w):=by
  obtain ⟨b,off,S1,cs,rfl,h⟩:=h
  obtain ⟨b',o',e0,_,hc⟩:=hp
  injection e0 with e0
  injection e0 with e0
  injection e0 with e1 e2
  subst e1 e2
  have hl1:cs.length=1:=(oSl e (oRd E)).len h.own
  obtain rfl:cs = [v]:=by
    match cs,hl1 with
    | [c],_=>
      have h1:=h.at' 0 c rfl
      have h2:=hc 0 v rfl
      rw [h1] at h2
      injection h2 with h2
      rw [h2]
  obtain ⟨hv,rfl⟩:=zLQ (B:=0) (v:=v) h.own rfl (fun _ _=>Nat.zero_le _)
  have hS1:∀ k,zAH v k->S k:=h.sub
  have hbo:¬ zAH v b:=h.out
  refine (zET (P:=P) (p:=p) (af:=af) (g:=g) (ty:=ty) (dd:=dd) (B:=0) hx hv (fun k hk=>hav k (hS1 k hk)) (Nat.zero_le _) hy ht he hl).mono ?_
  rintro v' w2 ⟨u2,rfl,hch,hsame,hst0,hok,_⟩
  have hch':Ch S w w2:=⟨hch.os,hch.tape,hch.output,hch.size,fun k hk hn=>hch.block k hk fun hk'=>hn (hS1 k hk'),hch.drawn⟩
  have hold:∀ k,S k->¬ zAH v k->w2.heap[k]? = w.heap[k]?:=fun k hk hn=>hch.block k (hlt k hk) hn
  have hsub:∀ k,k<w.heap.size->((S k/\¬ zAH v k)\/zAH u2 k)->S k:=fun k hk hs=>hs.elim (·.1) fun hs=>hS1 k (hsame k hk hs)
  have hst:=zDf (A:=A) hav hch' hsub
  refine ⟨u2,fun k=>(S k/\¬ zAH v k)\/zAH u2 k,rfl,hch',hsub,hst,trivial,⟨fun k hk=>?_,?_⟩,trivial⟩
  . rcases hk with hk | hk
    . exact hB k hk.1
    . rcases Nat.lt_or_ge k w.heap.size with hl2 | hg
      . exact hB k (hS1 k (hsame k hl2 hk))
      . exact hBw k hg
  . obtain ⟨cs2, he2, ho2⟩ := zIk hok hT
    obtain ⟨arr,T0,hblk,hsz⟩:=h.blk
    have hdis:∀ k,zAH u2 k->¬ (S k/\¬ zAH v k):=fun k hk hn=>hn.2 (hsame k (hlt k hn.1) hk)
    have hb2:=hold b h.inb hbo
    refine ⟨b,off,zAH u2,fun k=>S k/\¬ zAH v k,cs2,rfl,he2,OE.stab _ ho2 (fun _ _=>rfl) (zDl fun k o hk=>?_),fun k=>Iff.rfl,hdis,⟨h.inb,hbo⟩,⟨arr,T0,hb2.trans hblk,hsz⟩,fun k hk=>Nat.lt_of_lt_of_le (hlt k hk.1) hch.size,fun A' w' S1' y' ds k1 k2 k3 k4 k5 k6=>?_⟩
    . rcases hk with ⟨h1, h2⟩ | ⟨h1, h2⟩ | h1
      . exact .inl ⟨h1,fun hk=>h2 (hS1 k hk)⟩
      . exact .inl ⟨hav k h1 o,h2⟩
      . exact .inr h1
    . obtain ⟨arr0, arr1, T1, j1, j2, j3, j4⟩ := k3
      exact h.put A' w' S1' y' ds k1 k2 ⟨arr0,arr1,T1,hb2.symm.trans j1,j2,j3,j4⟩ (fun k a1 a2 a3=>(k4 k ⟨a1,a2⟩ a3).trans (hold k a1 a2)) (hst.trans k5) (fun k a1 a2=>Classical.byContradiction fun hn=>k6 k a1 ⟨a2,hn⟩)
theorem zEy {ad : Operand} {T' : TypeId} {y : α} {Q : α -> Pw} {q : SP} (h : (pdP F a Q y).P A w S u) (hx : zAM R x = u) (had : zAM R ad = a) (hav : ∀ k, S k -> ∀ o, A k o) (hB : ∀ k, S k -> K k) (hsz : ∀ w, (sizeOf T').run P w=.ok F.E.size w) (hQ : ∀ A w S, Q y A w S -> q.P A w S u) :
    OpR P ⟨none,.store T' ad x,t,p,af,g⟩ R w (zEs A false u S (.gen K q) (fun _=>.any) w):=by
  obtain ⟨b,off,S1,S2,cs,rfl,rfl,hv,hS,hd,hb2,⟨arr,T0,hb,hle⟩,hl2,hput⟩:=h
  have hcs:=F.len hv
  have hcl:=F.cells hv
  have hvb:¬ S1 b:=fun h=>hd b h hb2
  obtain ⟨w',h1,h2,h3⟩:=zFX (P:=P) (o:=off) (v:=zAM R x) hsz (by rw [hx,hcl];exact F.oc hv) (by rw [hx,<- Array.length_toList,hcl];exact hcs) hb hle
  rw [hx,hcl] at h3
  refine zHA (w':=w') ?_ ?_
  . simp only [execOp, Instr.storeAt, Instr.sureAddr, had]
    simp [h1]
  . have hch0 := h2.ch
    have hch:Ch S w w':=⟨hch0.os,hch0.tape,hch0.output,hch0.size,fun k hk hn=>hch0.block k hk fun e=>hn ((hS k).2 (.inl (e ▸ hb2))),hch0.drawn⟩
    have hst:=zDf (S'':=S) hav hch fun _ _ h=>h
    have hne:∀ k,S1 k->k ≠ b:=fun k hk e=>hvb (e ▸ hk)
    have hv':F.own (zHh A S S) w' S1 y cs:=F.stab hv (fun k hk=>h2.block k (hne k hk)) hst
    have hq:=hput _ w' S1 y cs hv' (fun j u hj=>?_) ⟨arr,_,T0,hb,h3,zF6 _ _ _,fun j hj=>?_⟩ (fun k _ hk=>h2.block k hk) hst hd
    . have e : (fun k => S2 k \/ S1 k) = S := by funext k; rw [eq_iff_iff]; exact (hS k).symm
      rw [e] at hq
      exact ⟨_,S,rfl,hch,fun _ _ h=>h,hst,trivial,⟨hB,hQ _ _ _ hq⟩,trivial⟩
    . have hjl := (List.getElem?_eq_some_iff.1 hj).1
      rw [h3.cell,zGf _ _ _ _ (by omega),if_pos (by omega),Nat.add_sub_cancel_left]
      exact hj
    . rw [zGf _ _ _ _ (by omega),if_neg (by omega)]
theorem zFO {y : α} {pins : List Pin} {T' : TypeId} {lk : Bool} (h : (trP (oPt T' F) y pins).P A w S u) (hx : zAM R x = u) (hav : ∀ k, S k -> ∀ o, A k o) (hag : ∀ w, (isAgg T).run P w=.ok F.E.agg w) (hsz : ∀ w, (sizeOf T).run P w=.ok F.E.size w) :
    OpR P ⟨d,.load T x,t,p,af,g⟩ R w (zEs A lk u S .nul (fun A=>.rep F.E A y) w):=by
  obtain ⟨⟨cs,e,b,ds,S1,rfl,h1,h2,h3,h4⟩,_⟩:=h
  have hu:u=.pointer (some ⟨b,0,none⟩):=e
  have hst:=zDf (S'':=fun _=>False) hav (Ch.refl S w) fun _ _ h=>h.elim
  refine zAV (v:=F.E.val ds) (w':=w) ?_ ⟨match lk with | true=>_ | false=>_,fun _=>False,by cases lk <;> rfl,Ch.refl _ _,fun _ _ h=>h.elim,hst,trivial,rfl,ds,rfl,F.rep h2 (fun k o hk=>hk.elim (·.1) False.elim) fun k o hk ha=>ha.elim (fun ha=>ha.2 ((h4 k).2 (.inr hk))) False.elim⟩
  have:=zDk (P:=P) (w:=w) (b:=b) (o:=0) hag hsz (F.len h2) F.E.one (fun j v hj=>by rw [h1.cell,Nat.zero_add];simpa using hj)
  simp [execOp,Instr.loadAt,Instr.sureAddr,hx,hu,this,Enc.val]
theorem zJf {o:Oper} {q:SP} {u0:Value} (h:(execOp (zAM R) o).run P w=.ok (.value v) w) (hq:q.P A w S v) (hav:∀ k,S k->∀ o,A k o) (hB:∀ k,S k->K k):OpR P o R w (zEs A true u0 S (.gen K q) (fun _=>.any) w):=by
  have hst:=zDf (S'':=S) hav (Ch.refl S w) fun _ _ h=>h
  refine zAV h ⟨v,S,rfl,Ch.refl _ _,fun _ _ h=>h,hst,trivial,⟨hB,q.stab hq (fun _ _=>rfl) hst⟩,trivial⟩
theorem zEL {o:Oper} {q:SP} (h:(execOp (zAM R) o).run P w=.ok (.value v) w) (hq:q.P A w (fun _=>False) v) (hB:∀ k,w.heap.size<=k->K k):OpR P o R w (zJL A (.gen K q) (fun _=>.any) w):=by
  refine zAV h ⟨fun _=>False,Fr.refl _,fun _ h=>h.elim,trivial,⟨fun _ h=>h.elim,q.stab hq (fun _ h=>h.elim) (zDl fun b o h=>h.elim id False.elim)⟩,trivial⟩
end
end Go.Proofs.YtmgiijdejigdhaaGreatDoor

namespace Go.Proofs.YtmgiijdejigdhaaGreatDoor
open Go.RowKit
set_option linter.unusedVariables false
section
variable {P:Program} {n:Nat} {ops:List Oper} {k:Nat} {R:Reg} {w:World} {Q:Exit->Reg->World->Prop}
theorem zIl {j dj:Nat} {y:Oper} {a:Act} (hj:ops[j]? = some y) (hy:y.dst=some dj):yielded ops.toArray a.tmps j=(match regs a dj with | .bool b=>some b | _=>none):=by
  have hj':ops.toArray[j]? = some y:=by simpa using hj
  simp only [yielded,hj',regs]
  simp [hy]
  cases a.tmps[dj]? with
  | none=>rfl
  | some v=>cases v <;> rfl
theorem SG.opG {o y : Oper} (d j dj : Nat) (want : Bool) (ho : ops[k]? = some o) (hg : o.guard = some (j, want)) (hj : ops[j]? = some y) (hy : y.dst = some dj) (hR : R dj=.bool want) (hd : o.dst = some d) (hn : Nat.blt d n = true) {K : Value -> World -> Prop} (h : OpR P o R w K)
    (hk:∀ v w',K v w'->∀ R',(∀ t,Nat.beq t d=false->R' t=R t)->R' d=v->SG P n ops (k+1) R' w' Q):SG P n ops k R w Q:=fun a hpl hRa=>by
  have hkl:k<ops.length:=(List.getElem?_eq_some_iff.1 ho).1
  rw [show ops.length-k=(ops.length-(k+1))+1 by omega,List.range'_succ,wpOps_cons]
  rw [<- hRa] at h hR
  have hw:Region.wanted o (yielded ops.toArray a.tmps)=true:=by
    rw [show Region.wanted o (yielded ops.toArray a.tmps)=(yielded ops.toArray a.tmps j==some want) by simp [Region.wanted,hg],zIl hj hy,hR]
    simp
  have ho':ops.toArray[k]? = some o:=by simpa using ho
  have hcont:∀ v w',K v w'->wpOps P ops.toArray (PQ n Q) (List.range' (k+1) (ops.length-(k+1))) (a.put o.dst v) w':=fun v w' hv=>by
    have hdn:d<n:=by simpa using hn
    have hrp:=zG5 a o.dst v fun d' h'=>by rw [hd] at h';injection h' with h';subst h';exact Nat.lt_of_lt_of_le hdn hpl.2
    refine hk v w' hv (regs (a.put o.dst v)) (fun t ht=>?_) ?_ _ ⟨by rw [zEP];exact hpl.1,by rw [zFx];exact hpl.2⟩ rfl
    . rw [hrp, hd, hRa]
      show (bif Nat.beq t d then v else R t)=R t
      rw [ht]
      rfl
    . rw [hrp, hd]
      exact zGT _ _ _
  unfold wpOp
  rw [ho']
  dsimp only
  rw [if_pos hw]
  refine .inl ?_
  unfold Oper.wp
  rw [zGN]
  refine OpK.elim (C:=Oper.upon P o a _ (PQ n Q)) h (fun v w' h=>?_) (fun w' h=>?_) fun f args w' h=>?_
  . rw [Oper.upon_value]
    exact hcont _ _ h
  . rw [Oper.upon_skip]
    exact hcont _ _ h
  . rw [Oper.upon_enter]
    refine Calls.mono h ?_
    rintro e w3 ⟨v,rfl,h3⟩
    exact hcont _ _ h3
theorem SG.skipV {o y : Oper} (d j dj : Nat) (want : Bool) (ho : ops[k]? = some o) (hg : o.guard = some (j, want)) (hj : ops[j]? = some y) (hy : y.dst = some dj) (hR : (match R dj with | .bool b => some b | _ => none) ≠ some want) (hd : o.dst = some d) (hn : Nat.blt d n = true)
    (hk:∀ R',(∀ t,Nat.beq t d=false->R' t=R t)->R' d=undef->SG P n ops (k+1) R' w Q):SG P n ops k R w Q:=fun a hpl hRa=>by
  have hkl:k<ops.length:=(List.getElem?_eq_some_iff.1 ho).1
  rw [show ops.length-k=(ops.length-(k+1))+1 by omega,List.range'_succ,wpOps_cons]
  rw [<- hRa] at hR
  have hw:¬ Region.wanted o (yielded ops.toArray a.tmps)=true:=by
    rw [show Region.wanted o (yielded ops.toArray a.tmps)=(yielded ops.toArray a.tmps j==some want) by simp [Region.wanted,hg],zIl hj hy]
    simpa using hR
  have ho':ops.toArray[k]? = some o:=by simpa using ho
  unfold wpOp
  rw [ho']
  dsimp only
  rw [if_neg hw]
  have hdn:d<n:=by simpa using hn
  have hrp:=zG5 a o.dst undef fun d' h'=>by rw [hd] at h';injection h' with h';subst h';exact Nat.lt_of_lt_of_le hdn hpl.2
  refine hk (regs (a.put o.dst undef)) (fun t ht=>?_) ?_ _ ⟨by rw [zEP];exact hpl.1,by rw [zFx];exact hpl.2⟩ rfl
  . rw [hrp, hd, hRa]
    show (bif Nat.beq t d then undef else R t)=R t
    rw [ht]
    rfl
  . rw [hrp, hd]
    exact zGT _ _ _
theorem SG.skip {o y : Oper} (d j dj : Nat) (want : Bool) (ho : ops[k]? = some o) (hg : o.guard = some (j, want)) (hj : ops[j]? = some y) (hy : y.dst = some dj) (hR : R dj=.bool !want) (hd : o.dst = some d) (hn : Nat.blt d n = true)
    (hk:∀ R',(∀ t,Nat.beq t d=false->R' t=R t)->R' d=undef->SG P n ops (k+1) R' w Q):SG P n ops k R w Q:=
  SG.skipV d j dj want ho hg hj hy (by rw [hR];cases want <;> simp) hd hn hk
theorem zQC {o y : Oper} (d j dj : Nat) (want : Bool) (ho : ops[k]? = some o) (hg : o.guard = some (j, want)) (hj : ops[j]? = some y) (hy : y.dst = some dj) (hR : R dj = undef) (hd : o.dst = some d) (hn : Nat.blt d n = true)
    (hk:∀ R',(∀ t,Nat.beq t d=false->R' t=R t)->R' d=undef->SG P n ops (k+1) R' w Q):SG P n ops k R w Q:=
  SG.skipV d j dj want ho hg hj hy (by rw [hR];simp [undef]) hd hn hk
end
end Go.Proofs.YtmgiijdejigdhaaGreatDoor
namespace Go.Proofs.YtmgiijdejigdhaaGreatDoor
open Go.RowKit Go.Sort
set_option linter.unusedVariables false
def zMN (fu:Nat) (n:Int):Option (List UInt8):=ck (i64B n) (some (Lib.itoa n))
theorem zEw : ∀ (k u : Nat), u < 10 ^ (k + 1) -> (Lib.decDigits u).length <= k + 1
  | 0,u,h=>by
    rw [Lib.decDigits,dif_pos (by omega)]
    exact Nat.le_refl _
  | k+1,u,h=>by
    rw [Lib.decDigits]
    split
    . simp
    . rw [List.length_append]
      have:=zEw k (u / 10) (by rw [Nat.pow_succ] at h;omega)
      simp
      omega
theorem zKy {n:Int} (h0:-9223372036854775808<=n) (h1:n<=9223372036854775807):(Lib.itoa n).length<=21:=by
  unfold Lib.itoa
  split
  . rw [List.length_cons]
    have:=zEw 19 n.natAbs (by omega)
    omega
  . have := zEw 19 n.toNat (by omega)
    omega
theorem zN6 {w:World} (k:Nat) (os:Array Obj):Fr w (grow (w.drewN k) os):=by
  refine ⟨⟨rfl,rfl,rfl,?_,fun i hi=>?_⟩,fun _=>?_⟩
  . simp [grow,World.drewN]
  . simp only [grow, World.drewN]
    rw [Array.getElem?_append_left hi]
  . simp [grow,World.drewN]
theorem zLj {fu : Nat} {A0 : Av} {p0 : Int} {r : List UInt8} (hr : zMN fu p0 = some r) {w : World} {v0 : Value} (hA : AvOK A0 w) (hG : GTab w) (h0 : v0=.int .i64 p0) :
    Calls Tryz.prog 69 #[v0] w fun e w'=>∃ v,e=.returned v/\(Rep eStr A0 w' v r/\Fr w w'):=by
  obtain ⟨hb,hr⟩:=zAC hr
  obtain rfl:=Option.some.inj hr
  subst h0
  unfold i64B at hb
  rw [Bool.and_eq_true,decide_eq_true_eq,decide_eq_true_eq] at hb
  refine (Any.strconv_Itoa Tryz.laysItoa p0 hb.1 hb.2 w hG.pow).mono ?_
  rintro e w' ⟨he,k,os,rfl⟩
  refine ⟨_,he,⟨_,rfl,_,rfl,rfl,?_⟩,zN6 k os⟩
  have:=zKy hb.1 hb.2
  show (Lib.itoa p0).toArray.size<=maxLen
  simp only [List.size_toArray]
  exact Nat.le_trans this (by decide)
end Go.Proofs.YtmgiijdejigdhaaGreatDoor
namespace Go.Proofs.YtmgiijdejigdhaaGreatDoor
open Go.RowKit
set_option linter.unusedVariables false
theorem zPp:Tryz.prog.globalNamed zHw=some 0:=by kernel_rfl
theorem GTab.featAt {w:World} (h:GTab w) {A:Av} {i:Int} (hi:inR i zCU.length=true) {v:Value} (hv:v=.pointer (some ⟨0,i.toNat,none⟩)):PRep eStr A w v (gtD zCU i):=by
  obtain ⟨i0,i1⟩:=zDb.1 hi
  have hlt:i.toNat<zCU.length:=by omega
  have hc := zNc h.feat zPp (i := i.toNat) (v := .string ⟨(gtD zCU i).toArray⟩) (by
    rw [List.getElem?_toArray,List.getElem?_map,List.getElem?_eq_getElem hlt]
    simp only [Option.map_some,gtD,List.getD_eq_getElem?_getD,List.getElem?_eq_getElem hlt,Option.getD_some])
  refine ⟨_,_,hv,zFA hc,[.string ⟨(gtD zCU i).toArray⟩],⟨⟨(gtD zCU i).toArray⟩,rfl,by simp,?_⟩,fun j u hj=>?_⟩
  . have key : ∀ s ∈ zCU, s.length <= maxLen := by decide
    have hm:gtD zCU i ∈ zCU:=by
      unfold gtD
      rw [List.getD_eq_getElem?_getD,List.getElem?_eq_getElem hlt]
      exact List.getElem_mem hlt
    have:=key _ hm
    simpa [ByteArray.size] using this
  . cases j with
    | zero=>simp at hj;subst hj;exact hc
    | succ j=>simp at hj
section
variable {α:Type} {F:OE α} {A A0:Av} {w:World} {S K:Nat->Prop}
end
section
variable {α:Type} {F:OE α} {A A0:Av} {w:World} {S K:Nat->Prop}
variable {P:Program} {R:Reg} {t:TypeId} {p:String} {af:Array Edge} {g:Option (Nat × Bool)} {x:Operand} {u:Value}
theorem zKX {β : Type} {E' : Enc β} {ad : Operand} {T' Tb : TypeId} {a0 : β} {y' : α} {Sv ST S0 : Nat -> Prop} {cs : List Value} {pins : List Pin} (h : (trP (oPt Tb (oRd E')) a0 pins).P A w S0 u) (hv : F.own A w Sv y' cs) (hxv : zAM R x = F.E.val cs) (had : zAM R ad = u) (hd : ∀ k, S0 k -> ¬ Sv k) (hST : ∀ k, ST k ↔ S0 k \/ Sv k) (hav : ∀ k, ST k -> ∀ o, A k o)
    (hB:∀ k,ST k->K k) (hsz:∀ w,(sizeOf T').run P w=.ok F.E.size w) (hE:E'.size=F.E.size):OpR P ⟨none,.store T' ad x,t,p,af,g⟩ R w (zEs A false u ST (trR K (oPt Tb F) y' []) (fun _=>.any) w):=by
  obtain ⟨⟨es,e,b,ds,S1,rfl,hb,⟨hno,hr⟩,h3,h4⟩,_⟩:=h
  have hu:u=.pointer (some ⟨b,0,none⟩):=e
  have hSb:S0 b:=(h4 b).2 (.inl rfl)
  have hcs:=F.len hv
  have hcl:=F.cells hv
  have hvb:¬ Sv b:=hd b hSb
  have hdl:=(E'.len hr).trans hE
  obtain ⟨w',h1,h2,h3'⟩:=zFX (P:=P) (o:=0) (v:=zAM R x) hsz (by rw [hxv,hcl];exact F.oc hv) (by rw [hxv,<- Array.length_toList,hcl];exact hcs) hb (by simp;omega)
  rw [hxv,hcl] at h3'
  refine zHA (w':=w') ?_ ?_
  . simp only [execOp, Instr.storeAt, Instr.sureAddr, had, hu]
    simp [h1]
  . have hch : Ch ST w w' := ⟨h2.ch.os, h2.ch.tape, h2.ch.output, h2.ch.size, fun k hk hn => h2.ch.block k hk fun e => hn ((hST k).2 (.inl (e ▸ hSb))), h2.ch.drawn⟩
    have hsub:∀ k,k<w.heap.size->(k=b\/Sv k)->ST k:=fun k _ hk=>(hST k).2 (hk.elim (fun h=>.inl (h ▸ hSb)) .inr)
    have hst:=zDf hav hch hsub
    have hne:∀ k,Sv k->k ≠ b:=fun k hk e=>hvb (e ▸ hk)
    have hv':F.own (zHh A ST fun k=>k=b\/Sv k) w' Sv y' cs:=F.stab hv (fun k hk=>h2.block k (hne k hk)) hst
    refine ⟨u,fun k=>k=b\/Sv k,rfl,hch,hsub,hst,trivial,⟨fun k hk=>hB k ((hST k).2 (hk.elim (fun h=>.inl (h ▸ hSb)) .inr)),⟨⟨[.pointer (some ⟨b,0,none⟩)],hu,b,cs,Sv,rfl,?_,hv',hvb,fun k=>Iff.rfl⟩,fun q hq=>by cases hq⟩⟩,trivial⟩
    have e2:lay ds.toArray 0 cs=cs.toArray:=by
      rw [zL9 _ _ _ (by omega),List.take_zero,List.nil_append,List.drop_of_length_le (by omega),List.append_nil]
    rw [<- e2]
    exact h3'
theorem zJh {β : Type} {E' : Enc β} {ad : Operand} {T' Tb : TypeId} {a0 : β} {y' : α} {pins : List Pin} {ρ : Nat -> Value} {σ : Nat -> Nat -> Prop} {c1 c2 : Nat} (hne : Nat.beq c1 c2 = false) (h : (trP (oPt Tb (oRd E')) a0 pins).P A w (σ c1) u) (hv : ∃ cs, ρ c2 = F.E.val cs /\ F.own A w (σ c2) y' cs) (hx : zAM R x = ρ c2) (had : zAM R ad = u)
    (hav:∀ d,d ∈ [c1,c2]->∀ k,σ d k->∀ o,A k o) (hdd:∀ d d',d ∈ [c1,c2]->d' ∈ [c1,c2]->d ≠ d'->∀ k,σ d k->¬ σ d' k) (hB1:∀ k,σ c1 k->K k) (hB2:∀ k,σ c2 k->K k) (hsz:∀ w,(sizeOf T').run P w=.ok F.E.size w) (hE:E'.size=F.E.size:=by rfl) :
    OpR P ⟨none,.store T' ad x,t,p,af,g⟩ R w (zEs A false u (fun k=>∃ d,d ∈ [c1,c2]/\σ d k) (trR K (oPt Tb F) y' []) (fun _=>.any) w):=by
  obtain ⟨cs,e,hv⟩:=hv
  have hm1:c1 ∈ [c1,c2]:=.head _
  have hm2:c2 ∈ [c1,c2]:=.tail _ (.head _)
  have hne':c1 ≠ c2:=fun h=>by subst h;simp at hne
  have hST:∀ k,(∃ d,d ∈ [c1,c2]/\σ d k) ↔ σ c1 k\/σ c2 k:=fun k=>by
    constructor
    . rintro ⟨d, hd, hk⟩
      rcases List.mem_cons.1 hd with hd | hd
      . exact .inl (hd ▸ hk)
      . exact .inr (List.mem_singleton.1 hd ▸ hk)
    . exact fun h=>h.elim (fun h=>⟨c1,hm1,h⟩) fun h=>⟨c2,hm2,h⟩
  exact zKX h hv (hx.trans e) had (hdd c1 c2 hm1 hm2 hne') hST (fun k ⟨d,hd,h⟩=>hav d hd k h) (fun k hk=>((hST k).1 hk).elim (hB1 k) (hB2 k)) hsz hE
end
def eRaw (n : Nat) (ag : Bool) (h : ag = false -> n = 1) : Enc (List Value) where
  size:=n
  agg:=ag
  rep:=fun _ _ x cs=>cs=x/\x.length=n/\∀ c ∈ x,c.oneCell'=true
  len:=by rintro A w x cs ⟨rfl,h,_⟩;exact h
  one:=h
  oc:=by rintro A w x cs ⟨rfl,_,h⟩;exact h
  stp:=fun _ h=>h
abbrev zK5 {α:Type} (F:OE α):Enc (List Value):=eRaw F.E.size F.E.agg F.E.one
section
variable {α:Type} {F:OE α} {A A0:Av} {w:World} {S K:Nat->Prop}
theorem IniOK.splitR {T : TypeId} {u : Value} {x : α} {pins : List Pin} {rest : List Ob} (h : IniOK (⟨u, S, trR K (oPt T F) x pins⟩ :: rest) A w) :
    ∃ (cs:List Value) (v:Value) (S0 S1:Nat->Prop),v=F.E.val cs/\IniOK (⟨u,S0,trR K (oPt T (oRd (zK5 F))) cs []⟩::⟨v,S1,trR K F x []⟩::rest) A w:=by
  obtain ⟨hK,⟨es,e,b,ds,S1,rfl,hb,hF,h3,h4⟩,_⟩:=h.own 0 _ rfl
  have hav:=(h.ok 0 _ rfl).2
  have h0:∀ k,k=b->S k:=fun k hk=>(h4 k).2 (.inl hk)
  have h1:∀ k,S1 k->S k:=fun k hk=>(h4 k).2 (.inr hk)
  have hrest:∀ (j:Nat) q,rest[j]? = some q->∀ k,S k->¬ q.S k:=fun j q hq k hk hk'=>h.dis 0 (j+1) _ q rfl hq (by omega) k hk hk'
  refine ⟨ds,_,fun k=>k=b,S1,rfl,fun i p hp=>?_,fun i p hp=>?_,fun i j p q hp hq hne k hk hk'=>?_⟩
  . match i, hp with
    | 0,hp=>obtain rfl:=Option.some.inj hp;exact ⟨trivial,fun k hk o=>hav k (h0 k hk) o⟩
    | 1,hp=>obtain rfl:=Option.some.inj hp;exact ⟨trivial,fun k hk o=>hav k (h1 k hk) o⟩
    | i+2,hp=>exact h.ok (i+1) p hp
  . match i, hp with
    | 0,hp=>
      obtain rfl:=Option.some.inj hp
      exact ⟨fun k hk=>hK k (h0 k hk),⟨[.pointer (some ⟨b,0,none⟩)],e,b,ds,fun _=>False,rfl,hb,⟨fun _ h=>h,rfl,F.len hF,F.oc hF⟩,fun h=>h,fun k=>⟨.inl,fun h=>h.elim id False.elim⟩⟩,fun q hq=>by cases hq⟩
    | 1,hp=>
      obtain rfl:=Option.some.inj hp
      exact ⟨fun k hk=>hK k (h1 k hk),⟨ds,rfl,hF⟩,fun q hq=>by cases hq⟩
    | i+2,hp=>exact h.own (i+1) p hp
  . match i, j, hp, hq with
    | 0,0,_,_=>exact hne rfl
    | 1,1,_,_=>exact hne rfl
    | 0,1,hp,hq=>
      obtain rfl:=Option.some.inj hp
      obtain rfl:=Option.some.inj hq
      have hk:k=b:=hk
      exact h3 (hk ▸ hk')
    | 1,0,hp,hq=>
      obtain rfl:=Option.some.inj hp
      obtain rfl:=Option.some.inj hq
      have hk':k=b:=hk'
      exact h3 (hk' ▸ hk)
    | 0,j+2,hp,hq=>
      obtain rfl:=Option.some.inj hp
      exact hrest j q hq k (h0 k hk) hk'
    | 1,j+2,hp,hq=>
      obtain rfl:=Option.some.inj hp
      exact hrest j q hq k (h1 k hk) hk'
    | i+2,0,hp,hq=>
      obtain rfl:=Option.some.inj hq
      exact hrest i p hp k (h0 k hk') hk
    | i+2,1,hp,hq=>
      obtain rfl:=Option.some.inj hq
      exact hrest i p hp k (h1 k hk') hk
    | i+2,j+2,hp,hq=>exact h.dis (i+1) (j+1) p q hp hq (by omega) k hk hk'
variable {P:Program} {R:Reg} {d:Option Nat} {t T:TypeId} {p:String} {af:Array Edge} {g:Option (Nat × Bool)} {x:Operand} {u v:Value}
theorem zKN {T' : TypeId} {cs : List Value} {pins : List Pin} (h : (trP (oPt T' (oRd (zK5 F))) cs pins).P A w S u) (hx : zAM R x = u) (hv : v = F.E.val cs) (hag : ∀ w, (isAgg T).run P w=.ok F.E.agg w) (hsz : ∀ w, (sizeOf T).run P w=.ok F.E.size w) :
    OpF P ⟨d,.load T x,t,p,af,g⟩ R w (.raw v):=by
  obtain ⟨⟨es,e,b,ds,S1,rfl,hb,⟨_,rfl,hl,_⟩,_⟩,_⟩:=h
  have hu:u=.pointer (some ⟨b,0,none⟩):=e
  refine zAV (v:=F.E.val ds) (w':=w) ?_ ⟨hv.symm,Fr.refl _⟩
  have:=zDk (P:=P) (w:=w) (b:=b) (o:=0) hag hsz hl F.E.one (fun j v hj=>by rw [hb.cell,Nat.zero_add];simpa using hj)
  simp [execOp,Instr.loadAt,Instr.sureAddr,hx,hu,this,Enc.val]
end
section
variable {α β:Type} {E:Enc α} {F:Enc β} {A:Av} {w:World} {S:Nat->Prop}
theorem Hole.rdp {b off:Nat} {y:α × β} {S1:Nat->Prop} {cs:List Value} {Q:α × β->Pw} (h:Hole (oRd (ePr E F)) A w S b off y S1 cs Q):Hole (oPr (oRd E) (oRd F)) A w S b off y S1 cs Q:=by
  obtain ⟨hS,c,d,rfl,h1,h2⟩:=h.own
  exact ⟨⟨c, d, fun _ => False, fun _ => False, rfl, ⟨fun _ h => h, h1⟩, ⟨fun _ h => h, h2⟩, fun k => ⟨fun h => (hS k h).elim, fun h => h.elim False.elim False.elim⟩, fun _ h => h.elim⟩, h.at', h.inb, h.out, h.sub, h.blk,
    fun A' w' S1' y' ds k1 k2 k3 k4 k5 k6=>h.put A' w' S1' y' ds (let ⟨c,d,Sa,Sb,e,⟨ha,h1⟩,⟨hb,h2⟩,h3,_⟩:=k1;⟨fun k hk=>((h3 k).1 hk).elim (ha k) (hb k),c,d,e,h1,h2⟩) k2 k3 k4 k5 k6⟩
theorem zES.rdp {a:Value} {y:α × β} {Q:α × β->Pw} (h:zES (oRd (ePr E F)) A w S a y Q):zES (oPr (oRd E) (oRd F)) A w S a y Q:=
  let ⟨b,off,S1,cs,e,h⟩:=h
  ⟨b,off,S1,cs,e,h.rdp⟩
end
end Go.Proofs.YtmgiijdejigdhaaGreatDoor
namespace Go.Proofs.YtmgiijdejigdhaaGreatDoor
open Go.RowKit Go.Maps Go.WideMaps
set_option linter.unusedVariables false
def rdV (v:Value):Option (DataW Value × List MemPlace):=some (.held v,[])
def zI5 (P:Program) (k:TypeId) (w:World) (b n:Nat) (f:List UInt8->Option Value):Prop:=
  ∃ D:DataW Value,w.ownsMap P k rdV b n D/\∀ s zd,D.atKey (.string s) zd=(match f s with | none=>zd | some v=>.held v)
variable {P:Program} {k t e:TypeId} {w:World} {b n:Nat} {f:List UInt8->Option Value}
theorem zI5.made (P:Program) (k:TypeId) (w:World):zI5 P k (w.alloc (.map #[] 0)) w.heap.size 0 fun _=>none:=
  ⟨_,World.ownsMap_made w P k rdV,fun _ _=>rfl⟩
theorem zI5.lt (h:zI5 P k w b n f):b<w.heap.size:=let ⟨_,h,_⟩:=h;h.lt
theorem zI5.lookup (h : zI5 P k w b n f) (hk : P.underlying k = some .string) (ht : P.underlying t = some (.map k e)) {z : Value} (hz : (zeroValue e).run P w=.ok z w) {s : ByteArray} (hs : s.size <= maxLen) :
    (Instr.lookup t (.map (some b)) (.string s) false).run P w=.ok ((f s.data.toList).getD z) w:=by
  obtain ⟨D,hD,hf⟩:=h
  obtain ⟨v,ps,hrun,hv⟩:=hD.lookup (Maps.string_keyed hk) ht hz (zd:=.held z) (zp:=[]) rfl (keyOf_string_mk hk hs)
  rw [hf] at hv
  have:v=(f s.data.toList).getD z:=by
    cases hfs:f s.data.toList with
    | none=>rw [hfs] at hv;exact DataW.held.inj (Prod.mk.inj (Option.some.inj hv)).1
    | some u=>rw [hfs] at hv;exact DataW.held.inj (Prod.mk.inj (Option.some.inj hv)).1
  rw [hrun,this]
theorem zI5.same {w':World} (h:zI5 P k w b n f) (hb:w'.heap[b]? = w.heap[b]?):zI5 P k w' b n f:=by
  obtain ⟨D,⟨es,c,h1,h2⟩,hf⟩:=h
  exact ⟨D,⟨es,c,hb.trans h1,h2⟩,hf⟩
def zJW {α : Type} (P : Program) (k : TypeId) (B : Nat) (T : TypeId) (E : Enc α) (ms : List UInt8 -> List α) (out : List (List UInt8)) (n : Nat) : SP where
  P A w S u := ∃ b f, u=.map (some b) /\ B <= b /\ zI5 P k w b n f /\ (∀ i, S i ↔ i = b \/ ∃ s v, s ∉ out /\ f s = some v /\ zAH v i) /\
    (∀ s,s ∉ out->(f s=none->ms s = [])/\∀ v,f s=some v->(Res.vec B T E (ms s)).ok A v w/\¬ zAH v b) /\
    (∀ s s' v v' i,s ∉ out->s' ∉ out->s ≠ s'->f s=some v->f s'=some v'->zAH v i->¬ zAH v' i)
  lt:=by
    rintro A w S u i ⟨b,f,rfl,hB,hm,hS,hr,hd⟩ hi
    rcases (hS i).1 hi with rfl | ⟨s,v,hs,hv,ho⟩
    . exact hm.lt
    . exact Res.lt ((hr s hs).2 v hv).1 rfl ho
  stab:=by
    rintro A A' w w' S u ⟨b,f,rfl,hB,hm,hS,hr,hd⟩ hb hs
    refine ⟨b,f,rfl,hB,hm.same (hb b ((hS b).2 (.inl rfl))),hS,fun s hn=>⟨(hr s hn).1,fun v hv=>⟨?_,((hr s hn).2 v hv).2⟩⟩,hd⟩
    exact Res.stab ((hr s hn).2 v hv).1 (fun i hi=>hb i ((hS i).2 (.inr ⟨s,v,hn,hv,hi⟩))) hs
theorem zJW.made {α : Type} {B : Nat} {T : TypeId} {E : Enc α} {A : Av} (hB : B <= w.heap.size) :
    (zJW P k B T E (fun _=>[]) [] 0).P A (w.alloc (.map #[] 0)) (fun i=>i=w.heap.size) (.map (some w.heap.size)):=
  ⟨_,_,rfl,hB,zI5.made P k w,fun i=>⟨.inl,fun h=>h.elim id fun ⟨s,v,_,h,_⟩=>(by cases h)⟩,fun s _=>⟨fun _=>rfl,fun v h=>(by cases h)⟩,fun s s' v v' i _ _ _ h=>(by cases h)⟩
theorem zJW.lookup {α : Type} {B : Nat} {T : TypeId} {E : Enc α} {A : Av} {ms : List UInt8 -> List α} {out : List (List UInt8)} {S : Nat -> Prop} {u : Value} (h : (zJW P k B T E ms out n).P A w S u)
    (hk:P.underlying k=some .string) (ht:P.underlying t=some (.map k e)) (hz:(zeroValue e).run P w=.ok (.slice none 0 0) w) {s:ByteArray} (hs:s.size<=maxLen) (ho:s.data.toList ∉ out)
    (hnil:(Res.vec B T E ([]:List α)).ok A (.slice none 0 0) w) :
    ∃ v S',(Instr.lookup t u (.string s) false).run P w=.ok v w/\(Res.vec B T E (ms s.data.toList)).ok A v w/\(zJW P k B T E ms (s.data.toList::out) n).P A w S' u/\(∀ i,S i ↔ S' i\/zAH v i)/\∀ i,zAH v i->¬ S' i:=by
  obtain ⟨b,f,rfl,hB,hm,hS,hr,hd⟩:=h
  have hrun:=hm.lookup hk ht hz hs
  refine ⟨(f s.data.toList).getD (.slice none 0 0),fun i=>i=b\/∃ s' v,s' ∉ s.data.toList::out/\f s'=some v/\zAH v i,hrun,?_,⟨b,f,rfl,hB,hm,fun i=>Iff.rfl,fun s' hs'=>hr s' fun h=>hs' (.tail _ h),fun s1 s2 v1 v2 i h1 h2=>hd s1 s2 v1 v2 i (fun h=>h1 (.tail _ h)) fun h=>h2 (.tail _ h)⟩,fun i=>?_,fun i hi h=>?_⟩
  . cases hf : f s.data.toList with
    | none=>rw [(hr _ ho).1 hf];exact hnil
    | some v=>exact ((hr _ ho).2 v hf).1
  . rw [hS i]
    constructor
    . rintro (rfl | ⟨s', v, h1, h2, h3⟩)
      . exact .inl (.inl rfl)
      . by_cases e : s' = s.data.toList
        . subst e;exact .inr (by rw [h2];exact h3)
        . exact .inl (.inr ⟨s',v,fun h=>(List.mem_cons.1 h).elim e h1,h2,h3⟩)
    . rintro ((rfl | ⟨s', v, h1, h2, h3⟩) | h)
      . exact .inl rfl
      . exact .inr ⟨s',v,fun h=>h1 (.tail _ h),h2,h3⟩
      . cases hf : f s.data.toList with
        | none=>rw [hf] at h;exact h.elim
        | some v=>rw [hf] at h;exact .inr ⟨_,v,ho,hf,h⟩
  . cases hf : f s.data.toList with
    | none=>rw [hf] at hi;exact hi.elim
    | some v=>
      rw [hf] at hi
      rcases h with rfl | ⟨s',v',h1,h2,h3⟩
      . exact ((hr _ ho).2 v hf).2 hi
      . exact hd _ s' v v' i ho (fun h=>h1 (.tail _ h)) (fun e=>h1 (e ▸ .head _)) hf h2 hi h3
theorem IniOK.snoc {ini:List Ob} {A:Av} {w:World} (h:IniOK ini A w) (p:Ob) (hok:p.r.ok A p.u w) (hav:∀ k,p.S k->∀ o,A k o) (hown:p.r.own A p.u p.S w) (hd:∀ (j:Nat) q,ini[j]? = some q->∀ k,p.S k->¬ q.S k):IniOK (ini ++ [p]) A w:=by
  have hat:∀ (j:Nat) q,(ini ++ [p])[j]? = some q->ini[j]? = some q\/j=ini.length/\q=p:=fun j q hq=>by
    rcases Nat.lt_or_ge j ini.length with hl | hl
    . rw [List.getElem?_append_left hl] at hq;exact .inl hq
    . rw [List.getElem?_append_right hl] at hq
      cases hj:j-ini.length with
      | zero=>rw [hj] at hq;exact .inr ⟨by omega,(Option.some.inj hq).symm⟩
      | succ m=>rw [hj] at hq;cases hq
  refine ⟨fun j q hq=>?_,fun j q hq=>?_,fun i j q q' hq hq' hne k hk hk'=>?_⟩
  . rcases hat j q hq with h1 | ⟨_, rfl⟩
    . exact h.ok j q h1
    . exact ⟨hok,hav⟩
  . rcases hat j q hq with h1 | ⟨_, rfl⟩
    . exact h.own j q h1
    . exact hown
  . rcases hat i q hq with h1 | ⟨e1, rfl⟩
    . rcases hat j q' hq' with h2 | ⟨_, rfl⟩
      . exact h.dis i j q q' h1 h2 hne k hk hk'
      . exact hd i q h1 k hk' hk
    . rcases hat j q' hq' with h2 | ⟨e2, rfl⟩
      . exact hd j q' h2 k hk hk'
      . exact hne (e1.trans e2.symm)
theorem IniOK.look {α : Type} {ini : List Ob} {A : Av} {K : Nat -> Prop} {B : Nat} {T : TypeId} {E : Enc α} {ms : List UInt8 -> List α} {out : List (List UInt8)} {S : Nat -> Prop} {u : Value} (h : IniOK ini A w) (i : Nat)
    (hi:ini[i]? = some ⟨u,S,.gen K (zJW P k B T E ms out n)⟩) (hk:P.underlying k=some .string) (ht:P.underlying t=some (.map k e)) (hz:(zeroValue e).run P w=.ok (.slice none 0 0) w) {s:ByteArray} (hs:s.size<=maxLen) (ho:s.data.toList ∉ out)
    (hnil:(Res.vec B T E ([]:List α)).ok A (.slice none 0 0) w) :
    ∃ v S',(Instr.lookup t u (.string s) false).run P w=.ok v w/\IniOK (ini.set i ⟨u,S',.gen K (zJW P k B T E ms (s.data.toList::out) n)⟩ ++ [ob v (.vec B T E (ms s.data.toList))]) A w/\(∀ k,zAH v k->S k)/\∀ k,S' k->S k:=by
  obtain ⟨hK,hP⟩:=h.own i _ hi
  obtain ⟨v,S',hrun,hv,hP',hS,hd⟩:=zJW.lookup hP hk ht hz hs ho hnil
  have h1:=h.put i hi ⟨u,S',.gen K (zJW P k B T E ms (s.data.toList::out) n)⟩ trivial ⟨fun j hj=>hK j ((hS j).2 (.inl hj)),hP'⟩ fun j hj=>(hS j).2 (.inl hj)
  refine ⟨v,S',hrun,h1.snoc _ hv (fun j hj=>(h.ok i _ hi).2 j ((hS j).2 (.inr hj))) rfl (fun j q hq m hm hm'=>?_),fun j hj=>(hS j).2 (.inr hj),fun j hj=>(hS j).2 (.inl hj)⟩
  have hl:=(List.getElem?_eq_some_iff.1 hi).1
  by_cases ej:j=i
  . subst ej
    rw [List.getElem?_set_self hl] at hq
    cases hq
    exact hd m hm hm'
  . rw [List.getElem?_set_ne (Ne.symm ej)] at hq
    exact h.dis i j _ q hi hq (Ne.symm ej) m ((hS m).2 (.inr hm)) hm'
section
variable {R:Reg} {m x y:Operand} {d:Option Nat} {ty:TypeId} {pp:String} {af:Array Edge} {A:Av}
end
section
variable {A:Av} {b:Nat} {o:Obj}
end
theorem zGx {R : Reg} {x : Operand} {d : Option Nat} {ty : TypeId} {pp : String} {af : Array Edge} {g : Option (Nat × Bool)} {A : Av} {α : Type} {K Sv : Nat -> Prop} {F : OE α} {y : α} {u z : Value} {pins : List Pin} (h : (trP F y pins).P A w Sv u) (hx : zAM R x = u) (hav : ∀ k, Sv k -> ∀ o, A k o) (hBv : ∀ k, Sv k -> K k) (hB : ∀ k, w.heap.size <= k -> K k)
    (ht:P.underlying t=some (.slice e)) (hsz:∀ w,(sizeOf e).run P w=.ok F.E.size w) (hz:∀ w,(zeroValue e).run P w=.ok z w) (hlim:Nat.ble (1*F.E.size) 16777216=true) :
    OpR P ⟨d,.buildSlice t 1 #[(0,x)],ty,pp,af,g⟩ R w (zEs A true u Sv (trR K (oSl e F) [y] []) (fun _=>.any) w):=by
  obtain ⟨⟨cs,rfl,h⟩,_⟩:=h
  have hrow:Row F.E av0 w R [x] [y]:=⟨⟨cs,hx,F.rep (A0:=av0) h (fun _ _ h=>h.elim) fun _ _ _ h=>h⟩,trivial⟩
  have hrun:=zGI (d:=d) (t:=ty) (p:=pp) (af:=af) (g:=g) hrow ht hsz hz (n:=1) rfl hlim
  have hcl:=F.cells h
  have harr:(([x].map (zAM R)).flatMap fun v=>v.cells.toList).toArray=cs.toArray:=by
    show ((zAM R x).cells.toList ++ []).toArray=_
    rw [hx,hcl,List.append_nil]
  rw [harr] at hrun
  have hf:=Fr.alloc w (.cells cs.toArray e)
  have hsub:∀ k,k<w.heap.size->(k=w.heap.size\/Sv k)->Sv k:=fun k hk h=>h.elim (fun e=>absurd e (by omega)) id
  have hst:=zDf (S'':=fun k=>k=w.heap.size\/Sv k) hav (hf.ch Sv) hsub
  refine zAV hrun ⟨_,fun k=>k=w.heap.size\/Sv k,rfl,hf.ch Sv,hsub,hst,trivial,⟨fun k hk=>hk.elim (fun e=>hB k (Nat.le_of_eq (Eq.symm e))) (hBv k),⟨[.slice (some ⟨w.heap.size,0,none⟩) 1 1],rfl,.inr ⟨w.heap.size,1,cs.toArray,fun _=>Sv,rfl,Blk.new w e cs.toArray,Nat.le_refl _,by unfold maxLen;omega,?_,?_,?_,?_,?_⟩⟩,fun q hq=>by cases hq⟩,trivial⟩
  . rw [List.size_toArray,F.len h,Nat.one_mul]
  . intro i y' hy
    cases i with
    | zero=>
      cases hy
      refine ⟨cs,F.stab h (fun k hk=>hf.block k (F.lt h hk)) hst,fun j u hj=>?_⟩
      rw [Nat.zero_mul,Nat.zero_add,List.getElem?_toArray]
      exact hj
    | succ i=>cases hy
  . intro i j k hi hj hne
    have h1:i<1:=hi
    have h2:j<1:=hj
    exact absurd (show i=j by omega) hne
  . intro i _ hk
    exact absurd (F.lt h hk) (Nat.lt_irrefl _)
  . intro k
    exact ⟨fun h=>h.imp id fun h=>⟨0,Nat.zero_lt_one,h⟩,fun h=>h.imp id fun ⟨_,_,h⟩=>h⟩
theorem zKH {A : Av} {α : Type} {F : OE α} {xs : List α} {y : α} {S1 S2 : Nat -> Prop} {u1 u2 : Value} {ty : TypeId} (h1 : (oSl e F).own A w S1 xs [u1]) (h2 : (oSl e F).own A w S2 [y] [u2]) (hd : ∀ k, S1 k -> ¬ S2 k)
    (ht:P.underlying t=some (.slice e)) (he:ElF P e F.E.size) (hb:e ≠ zKi) (hl:zBu (xs.length+1)=true) :
    ∃ v' w' S',(Builtin.append_ #[t,t] ty #[u1,u2]).run P w=.ok v' w'/\Ch S1 w w'/\(∀ k,k<w.heap.size->S' k->S1 k\/S2 k)/\∀ A',Stp A A' w w'->(oSl e F).own A' w' S' (xs ++ [y]) [v']:=by
  obtain ⟨inf,z,b,hi,hz,hs,hby,hzs,hs0,hb4⟩:=he
  have hl:=zHu hl
  have hbytes:(xs.length+1)*b<=140737488355328:=by
    have:=Nat.mul_le_mul hl hb4
    omega
  have hm:xs.length+1<=maxLen:=by unfold maxLen;omega
  obtain ⟨h0,_,_⟩ | ⟨g2,c2,arr2,Si2,e2,hk2,_,_,hz2,hE2⟩:=h2
  . exact absurd ‹[y] = []› (by simp)
  obtain rfl:=(List.cons.inj e2).1
  obtain ⟨ds,hds,hat2⟩:=hE2.el 0 y rfl
  have hdl:ds.length=F.E.size:=F.len hds
  have hrow : ∃ (cs : List Value) (Si : Nat -> Nat -> Prop), RowM w 0 e F.E.size u1 xs.length cs /\ (∀ k, zAH u1 k -> S1 k) /\ (∀ i x, xs[i]? = some x -> ∃ ds, F.own A w (Si i) x ds /\ ∀ (j : Nat) u, ds[j]? = some u -> cs[i * F.E.size + j]? = some u) /\
      (∀ i j k,i<xs.length->j<xs.length->i ≠ j->Si i k->¬ Si j k)/\(∀ i k,i<xs.length->Si i k->¬ zAH u1 k)/\(∀ i k,i<xs.length->Si i k->S1 k)/\∀ k,S1 k->zAH u1 k\/∃ i,i<xs.length/\Si i k:=by
    rcases h1 with ⟨e1,rfl,hS⟩ | ⟨g,c,arr,Si,e1,hk,hlc,hcm,hsz,hE⟩
    . obtain rfl := (List.cons.inj e1).1
      exact ⟨[],fun _ _=>False,⟨by simp,.inl ⟨rfl,rfl⟩⟩,fun k h=>h.elim,fun i x h=>by simp at h,fun i j k h=>absurd h (Nat.not_lt_zero _),fun i k h=>absurd h (Nat.not_lt_zero _),fun i k h=>absurd h (Nat.not_lt_zero _),fun k h=>absurd h (hS k)⟩
    . obtain rfl := (List.cons.inj e1).1
      have hle:xs.length*F.E.size<=arr.size:=hsz ▸ Nat.mul_le_mul_right _ hlc
      refine ⟨arr.toList.take (xs.length*F.E.size),Si,⟨by have e0:arr.toList.length=arr.size:=Array.length_toList;rw [List.length_take,e0,Nat.min_eq_left hle],.inr ⟨g,c,arr,rfl,Nat.zero_le _,BlkM.of hk,hlc,hcm,hsz,rfl⟩⟩,fun k hk=>(hE.set k).2 (.inl (Eq.symm hk)),fun i x hx=>?_,hE.dis,fun i k hi hk h=>hE.out i hi (show Si i g from (show g=k from h) ▸ hk),fun i k hi hk=>(hE.set k).2 (.inr ⟨i,hi,hk⟩),fun k hk=>((hE.set k).1 hk).imp (fun h=>(Eq.symm h)) id⟩
      obtain ⟨ds',h3,h4⟩:=hE.el i x hx
      refine ⟨ds',h3,fun j u hj=>?_⟩
      have hil:i<xs.length:=(List.getElem?_eq_some_iff.1 hx).1
      have hjl:j<F.E.size:=by have:=(List.getElem?_eq_some_iff.1 hj).1;rw [F.len h3] at this;exact this
      have hlt:i*F.E.size+j<xs.length*F.E.size:=by
        have:=Nat.mul_le_mul_right F.E.size (show i+1<=xs.length from hil)
        rw [Nat.add_mul,Nat.one_mul] at this
        omega
      rw [List.getElem?_take_of_lt hlt,Array.getElem?_toList]
      exact h4 j u hj
  obtain ⟨cs,Si,hown,hu1,hel,hdis,hout,hin,hcov⟩:=hrow
  obtain ⟨v',w',hrun,hown',hch,hsame⟩:=zHe (P:=P) (T:=t) (ty:=ty) w ht hi hz hs hby hzs hs0 hown ⟨g2,0,none⟩ 1 c2 ds (by rw [hdl,Nat.one_mul]) (fun j v hj=>by
    have:=hat2 j v hj
    rw [Nat.zero_mul,Nat.zero_add] at this
    rw [zDS]
    show w.cell? ⟨g2,0+j,none⟩=_
    rw [Nat.zero_add]
    exact (hk2.cell _).trans this) (F.oc hds) hm hbytes (Nat.zero_le _)
  obtain ⟨hcl,hv⟩:=hown'
  have hcl1:=hown.1
  rcases hv with ⟨_,h⟩ | ⟨g',cap,cur,rfl,_,hk',hnc,hcm',hsz',htk⟩
  . omega
  let Si':Nat->Nat->Prop:=fun i=>if i<xs.length then Si i else Si2 0
  have hS2:∀ k,Si2 0 k->S2 k:=fun k hk=>(hE2.set k).2 (.inr ⟨0,Nat.zero_lt_one,hk⟩)
  have hg':∀ k,k<w.heap.size->k=g'->zAH u1 k:=fun k hk e=>hsame k hk (show g'=k from e.symm)
  have hp:∀ i,i<xs.length->Si' i=Si i:=fun i c=>if_pos c
  have hq:∀ i,¬ i<xs.length->Si' i=Si2 0:=fun i c=>if_neg c
  have hcur:∀ (m:Nat) u,(cs++ds)[m]? = some u->cur[m]? = some u:=fun m u h=>by
    rw [<- htk,List.getElem?_take] at h
    split at h
    . rwa [Array.getElem?_toList] at h
    . cases h
  refine ⟨_,w',fun k=>k=g'\/(∃ i,i<xs.length+1/\Si' i k),hrun,⟨hch.os,hch.tape,hch.output,hch.size,fun k hk hn=>hch.block k hk fun h=>hn (hu1 k h),hch.drawn⟩,fun k hk h=>?_,fun A' hst=>.inr ⟨g',cap,cur,Si',by rw [List.length_append];rfl,hk'.plain hb,by rw [List.length_append];exact hnc,hcm',hsz',⟨fun i x hx=>?_,fun i j k hi hj hne h h'=>?_,fun i hi h=>?_,fun k=>by rw [List.length_append];exact Iff.rfl⟩⟩⟩
  . rcases h with h | ⟨i, _, h⟩
    . exact .inl (hu1 k (hg' k hk h))
    . by_cases c : i < xs.length
      . rw [hp i c] at h;exact .inl (hin i k c h)
      . rw [hq i c] at h;exact .inr (hS2 k h)
  . by_cases c : i < xs.length
    . rw [List.getElem?_append_left c] at hx
      obtain ⟨d1,h3,h4⟩:=hel i x hx
      refine ⟨d1,by rw [hp i c];exact F.stab h3 (fun k hk=>hch.block k (F.lt h3 hk) (hout i k c hk)) hst,fun j u hj=>hcur _ _ ?_⟩
      have h5:=h4 j u hj
      rw [List.getElem?_append_left (List.getElem?_eq_some_iff.1 h5).1]
      exact h5
    . have hi' := (List.getElem?_eq_some_iff.1 hx).1
      rw [List.length_append] at hi'
      have hi'':i<xs.length+1:=hi'
      obtain rfl:i=xs.length:=by omega
      rw [List.getElem?_append_right (Nat.le_refl _),Nat.sub_self] at hx
      cases hx
      refine ⟨ds,by rw [hq _ c];exact F.stab hds (fun k hk=>hch.block k (F.lt hds hk) fun h=>hd k (hu1 k h) (hS2 k hk)) hst,fun j u hj=>hcur _ _ ?_⟩
      rw [List.getElem?_append_right (by rw [hcl1];exact Nat.le_add_right _ _),hcl1,Nat.add_sub_cancel_left]
      exact hj
  . rw [List.length_append] at hi hj
    have hi':i<xs.length+1:=hi
    have hj':j<xs.length+1:=hj
    by_cases ci:i<xs.length
    . rw [hp i ci] at h
      by_cases cj:j<xs.length
      . rw [hp j cj] at h';exact hdis i j k ci cj hne h h'
      . rw [hq j cj] at h';exact hd k (hin i k ci h) (hS2 k h')
    . rw [hq i ci] at h
      by_cases cj:j<xs.length
      . rw [hp j cj] at h';exact hd k (hin j k cj h') (hS2 k h)
      . omega
  . by_cases ci : i < xs.length
    . rw [hp i ci] at h
      obtain ⟨d1,h3,_⟩:=hel i _ (List.getElem?_eq_getElem ci)
      exact hout i g' ci h (hg' g' (F.lt h3 h) rfl)
    . rw [hq i ci] at h
      exact hd g' (hu1 g' (hg' g' (F.lt hds h) rfl)) (hS2 g' h)
end Go.Proofs.YtmgiijdejigdhaaGreatDoor
namespace Go.Proofs.YtmgiijdejigdhaaGreatDoor
open Go.RowKit
set_option linter.unusedVariables false
section
variable {P:Program} {R:Reg} {w:World} {p:String} {af:Array Edge} {g:Option (Nat × Bool)} {A:Av} {α:Type} {F:OE α} {x x':Operand} {T e:TypeId} {K:Nat->Prop} {a v:Value}
theorem zFr {ty : TypeId} {xs : List α} {y : α} {Q : List α -> Pw} {u0 : Value} {S' : Nat -> Prop} {dd : Nat} {ρ : Nat -> Value} {σ : Nat -> Nat -> Prop} {c1 c2 : Nat} (hne : Nat.beq c1 c2 = false) (h : zES (oSl e F) A w (σ c1) a xs Q) (hp : zIa w S' (a, [v])) (hx : zAM R x = v)
    (h2:(trP (oSl e F) [y] []).P A w (σ c2) (ρ c2)) (hx':zAM R x'=ρ c2) (hav:∀ d,d ∈ [c1,c2]->∀ k,σ d k->∀ o,A k o) (hdd:∀ d d',d ∈ [c1,c2]->d' ∈ [c1,c2]->d ≠ d'->∀ k,σ d k->¬ σ d' k)
    (hB1:∀ k,σ c1 k->K k) (hB2:∀ k,σ c2 k->K k) (hB:∀ k,w.heap.size<=k->K k) (hlt:∀ k,σ c1 k->k<w.heap.size) (ht:P.underlying T=some (.slice e)) (he:ElF P e F.E.size) (hl:zBu (xs.length+1)=true) (hb:e ≠ zKi:=by decide) :
    OpR P ⟨some dd,.call ⟨.builtin .append,#[x,x'],#[T,T]⟩,ty,p,af,g⟩ R w (zEs A true u0 (fun k=>∃ d,d ∈ [c1,c2]/\σ d k) (.gen K (pdP (oSl e F) a Q (xs ++ [y]))) (fun _=>.any) w):=by
  obtain ⟨b,off,S1,cs,rfl,h⟩:=h
  obtain ⟨b',o',e0,_,hc⟩:=hp
  injection e0 with e0
  injection e0 with e0
  injection e0 with e1 e2
  subst e1 e2
  have hl1:cs.length=1:=(oSl e F).len h.own
  obtain rfl:cs = [v]:=by
    match cs,hl1 with
    | [c],_=>
      have h1:=h.at' 0 c rfl
      have h2:=hc 0 v rfl
      rw [h1] at h2
      injection h2 with h2
      rw [h2]
  obtain ⟨⟨cs2,e2,h2⟩,_⟩:=h2
  have hs2:∃ u,cs2 = [u]:=by
    rcases h2 with ⟨h,_⟩ | ⟨_,_,_,_,h,_⟩ <;> exact ⟨_,h⟩
  obtain ⟨u2,rfl⟩:=hs2
  have e2:ρ c2=u2:=e2
  have hm1:c1 ∈ [c1,c2]:=.head _
  have hm2:c2 ∈ [c1,c2]:=.tail _ (.head _)
  have hne':c1 ≠ c2:=fun h=>by subst h;simp at hne
  have hS1:∀ k,S1 k->σ c1 k:=h.sub
  obtain ⟨v',w',S2',hrun,hch,hsub,hown⟩:=zKH (ty:=ty) h.own h2 (fun k hk=>hdd c1 c2 hm1 hm2 hne' k (hS1 k hk)) ht he hb hl
  have hch':Ch (fun k=>∃ d,d ∈ [c1,c2]/\σ d k) w w':=⟨hch.os,hch.tape,hch.output,hch.size,fun k hk hn=>hch.block k hk fun h=>hn ⟨c1,hm1,hS1 k h⟩,hch.drawn⟩
  have hold:∀ k,σ c1 k->¬ S1 k->w'.heap[k]? = w.heap[k]?:=fun k hk hn=>hch.block k (hlt k hk) hn
  have hsub':∀ k,k<w.heap.size->((σ c1 k/\¬ S1 k)\/S2' k)->∃ d,d ∈ [c1,c2]/\σ d k:=fun k hk h=>h.elim (fun h=>⟨c1,hm1,h.1⟩) fun h=>(hsub k hk h).elim (fun h=>⟨c1,hm1,hS1 k h⟩) fun h=>⟨c2,hm2,h⟩
  have hst:=zDf (S'':=fun k=>(σ c1 k/\¬ S1 k)\/S2' k) (fun k ⟨d,hd,h⟩=>hav d hd k h) hch' hsub'
  have hbo:¬ S1 b:=h.out
  refine zAV (v:=v') (w':=w') ?_ ⟨v',fun k=>(σ c1 k/\¬ S1 k)\/S2' k,rfl,hch',hsub',hst,trivial,⟨fun k hk=>?_,?_⟩,trivial⟩
  . simp [execOp,resolve,invoke,builtin,hx,hx',e2,hrun]
  . rcases hk with hk | hk
    . exact hB1 k hk.1
    . rcases Nat.lt_or_ge k w.heap.size with h3 | h3
      . exact (hsub k h3 hk).elim (fun h=>hB1 k (hS1 k h)) (hB2 k)
      . exact hB k h3
  . obtain ⟨arr, T0, hblk, hsz⟩ := h.blk
    have hb2:=hold b h.inb hbo
    have hdis:∀ k,S2' k->¬ (σ c1 k/\¬ S1 k):=fun k hk hn=>(hsub k (hlt k hn.1) hk).elim hn.2 fun h=>hdd c1 c2 hm1 hm2 hne' k hn.1 h
    refine ⟨b,off,S2',fun k=>σ c1 k/\¬ S1 k,[v'],rfl,rfl,hown _ hst,fun k=>Iff.rfl,hdis,⟨h.inb,hbo⟩,⟨arr,T0,hb2.trans hblk,hsz⟩,fun k hk=>Nat.lt_of_lt_of_le (hlt k hk.1) hch.size,fun A' w'' S1' y' ds k1 k2 k3 k4 k5 k6=>?_⟩
    obtain ⟨arr0,arr1,T1,j1,j2,j3,j4⟩:=k3
    exact h.put A' w'' S1' y' ds k1 k2 ⟨arr0,arr1,T1,hb2.symm.trans j1,j2,j3,j4⟩ (fun k a1 a2 a3=>(k4 k ⟨a1,a2⟩ a3).trans (hold k a1 a2)) (hst.trans k5) (fun k a1 a2=>Classical.byContradiction fun hn=>k6 k a1 ⟨a2,hn⟩)
end
section
variable {P:Program} {R:Reg} {w:World} {d:Option Nat} {t:TypeId} {p:String} {af:Array Edge} {g:Option (Nat × Bool)} {A:Av} {α:Type} {E:Enc α} {x:Operand} {u:Value}
theorem zBT (h:∃ b off,u=.pointer (some ⟨b,off,none⟩)) (hx:zAM R x=u):OpF P ⟨d,.nilCheck x,t,p,af,g⟩ R w (.raw u):=by
  obtain ⟨b,off,rfl⟩:=h
  exact zDR hx
theorem zH8 {y:α} (h:Rep (ePt E) A w (zAM R x) y):OpF P ⟨d,.nilCheck x,t,p,af,g⟩ R w (.qtr E A y):=by
  obtain ⟨cs,e,b,rfl,hb,hq⟩:=h
  have e:zAM R x=.pointer (some ⟨b,0,none⟩):=e
  exact zAV (v:=.pointer (some ⟨b,0,none⟩)) (w':=w) (by simp [execOp,e]) ⟨⟨b,0,rfl,hb,hq⟩,Fr.refl _⟩
theorem zLa {F : OE α} {T : TypeId} {K S : Nat -> Prop} {a : Value} {y : α} {Q : α -> Pw} (h : zES F A w S a y Q) (hx : zAM R x = a) (hav : ∀ k, S k -> ∀ o, A k o) (hB : ∀ k, S k -> K k) (hag : ∀ w, (isAgg T).run P w=.ok F.E.agg w) (hsz : ∀ w, (sizeOf T).run P w=.ok F.E.size w) :
    OpR P ⟨d,.load T x,t,p,af,g⟩ R w (zEs A true u S (trR K F y []) (fun _=>.any) w):=by
  obtain ⟨b,off,S1,cs,rfl,h⟩:=h
  obtain ⟨arr,T',hb,hle⟩:=h.blk
  have hst:=zDf (S'':=S1) hav (Ch.refl S w) fun k _ h'=>h.sub k h'
  refine zAV (v:=F.E.val cs) (w':=w) ?_ ⟨F.E.val cs,S1,rfl,Ch.refl S w,fun k _ h'=>h.sub k h',hst,trivial,⟨fun k hk=>hB k (h.sub k hk),⟨cs,rfl,F.stab h.own (fun _ _=>rfl) hst⟩,fun q hq=>by cases hq⟩,trivial⟩
  have:=zDk (P:=P) (w:=w) (b:=b) (o:=off) hag hsz (F.len h.own) F.E.one (fun j v hj=>h.at' j v hj)
  simp [execOp,Instr.loadAt,Instr.sureAddr,hx,this,Enc.val]
theorem zLZ {A:Av} {w:World} {v:Value} {x:List α} (h:Rep (eBx (eSl E)) A w v x):∃ a n c,v=.agg #[.slice a n c]/\(eBx (eSl E)).rep A w x [.slice a n c]:=by
  obtain ⟨cs,hv,hr⟩:=h
  have hr':(eSl E).rep A w x cs:=hr
  obtain ⟨a,n,c,rfl,h1⟩:=hr'
  exact ⟨a,n,c,hv,hr⟩
end
end Go.Proofs.YtmgiijdejigdhaaGreatDoor
namespace Go.Proofs.YtmgiijdejigdhaaGreatDoor
open Go.RowKit Go.Sort
set_option linter.unusedVariables false
theorem zO3 {w w':World} (hD:DK) (h:Fr w w'):∃ q os,w'=grow (w.drewN q) os:=by
  refine ⟨w'.drawn-w.drawn,w'.heap.extract w.heap.size w'.heap.size,?_⟩
  have hh:w'.heap=w.heap++w'.heap.extract w.heap.size w'.heap.size:=by
    apply Array.ext_getElem?
    intro k
    by_cases hk:k<w.heap.size
    . rw [Array.getElem?_append_left hk]
      exact h.block k hk
    . rw [Array.getElem?_append_right (by omega), Array.getElem?_extract]
      split
      . congr 1
        omega
      . exact Array.getElem?_eq_none (by have:=h.size;omega)
  have hd:w'.drawn=w.drawn+(w'.drawn-w.drawn):=by have:=h.drawn hD;omega
  have h1:=h.os
  have h2:=h.tape
  have h3:=h.output
  obtain ⟨a1,a2,a3,a4,a5⟩:=w
  obtain ⟨b1,b2,b3,b4,b5⟩:=w'
  simp only [World.drewN,grow] at *
  subst h1 h2 h3
  rw [<- hh,<- hd]
section
variable {α β:Type} [Inhabited β]
theorem zJz {enc:β->Value} {w:World} {blk n:Nat} {d:Array β} {os:Array Obj} {u:Value} (hu:zAH u blk):Ch (zAH u) w (grow (putRow enc (Go.Sort.ahead w n) blk 0 d) os):=by
  refine ⟨rfl,rfl,rfl,?_,fun k hk hn=>?_,?_⟩
  . simp [grow,putRow,mapBlock,Go.Sort.ahead]
  . have hne : blk ≠ k := fun e => hn (e ▸ hu)
    simp only [grow,putRow,mapBlock,Go.Sort.ahead]
    rw [Array.getElem?_append_left (by simpa using hk),Array.getElem?_modify,if_neg hne]
  . intro _;simp [grow,putRow,mapBlock,Go.Sort.ahead]
theorem BlkM.putRw {enc:β->Value} {w:World} {g n:Nat} {T:TypeId} {cur:Array Value} {d:Array β} {os:Array Obj} (h:BlkM w g T cur):BlkM (grow (putRow enc (Go.Sort.ahead w n) g 0 d) os) g T (putCells enc 0 d cur):=by
  obtain ⟨fz,h1,h2⟩:=h
  refine ⟨fz,?_,by simpa [putCells] using h2⟩
  have hlt:=(Array.getElem?_eq_some_iff.1 h1).1
  simp only [grow,putRow,mapBlock,Go.Sort.ahead]
  rw [Array.getElem?_append_left (by simpa using hlt),Array.getElem?_modify,if_pos rfl,h1]
  rfl
theorem zJs {E:Enc α} {A:Av} {B T:Nat} {w:World} {u:Value} {xs:List α} (h:Vec E A B T w u xs):(u=.slice none 0 0/\xs = [])\/∃ blk cap,u=.slice (some ⟨blk,0,none⟩) xs.length cap/\blk<w.heap.size:=by
  obtain ⟨cs,hown,_⟩:=h
  rcases hown.2 with ⟨e,h0⟩ | ⟨g,cap,cur,e,_,hg,_⟩
  . exact .inl ⟨e,List.eq_nil_of_length_eq_zero h0⟩
  . exact .inr ⟨g,cap,e,hg.lt⟩
end
def zMA {α:Type} [BEq α] (F:α->α->Option Int) (xs:List α):Bool:=
  xs.all fun x => xs.all fun y => (F x y).isSome && !(decide (gv (F x x) < 0)) && (decide (gv (F x y) < 0) || decide (gv (F y x) < 0) || x == y) &&
    xs.all fun z=>(!(decide (gv (F x y)<0)) || !(decide (gv (F y z)<0)) || decide (gv (F x z)<0))&&(decide (gv (F x y)<0) || decide (gv (F y z)<0) || !(decide (gv (F x z)<0)))
def zJN {α:Type} [BEq α] (fu:Nat) (p0:List α) (p1:α->α->Option Int):Option (List α):=ck (zBu p0.length) (ck (zMA p1 p0) (some (p0.mergeSort fun x y=>!(decide (gv (p1 y x)<0)))))
theorem zLW {f f':FuncId} {c c':List Value} (h:(Value.func (.func f) #[] c.toArray)=.func (.func f') #[] c'.toArray):f=f'/\c=c':=by
  injection h with h1 h2 h3
  injection h1 with h1
  exact ⟨h1,by simpa using h3⟩
section
variable {α β:Type} [Inhabited β]
theorem zLp {enc:β->List Value} {k:Nat} {d:Array β} {i j:Nat} (hk:∀ x,(enc x).length=k) (hi:i<d.size) (hj:j<k):(flatK enc k d)[i*k+j]! = (enc d[i]!)[j]!:=by
  have h1:i*k+j<d.size*k:=by
    have:=Nat.mul_le_mul_right k (show i+1<=d.size from hi)
    rw [Nat.add_mul,Nat.one_mul] at this
    omega
  rw [get_flatK _ _ _ _ h1,Nat.mul_comm i k,Nat.mul_add_div (by omega),Nat.div_eq_of_lt hj,Nat.mul_add_mod,Nat.mod_eq_of_lt hj,Nat.add_zero]
theorem some_get! {xs:List Value} {j:Nat} (h:j<xs.length):xs[j]? = some xs[j]!:=by
  rw [List.getElem?_eq_getElem h,getElem!_pos xs j h]
theorem zLN {E:Enc α} {enc:β->List Value} {f:β->α} {A:Av} {B T blk cap:Nat} {w:World} {xs:List α} {d:Array β} (hk:∀ b,(enc b).length=E.size) (henc:∀ (b:β) A w cs,E.rep A w (f b) cs->cs=enc b) (hd:d.toList.map f=xs) (h:Vec E A B T w (.slice (some ⟨blk,0,none⟩) xs.length cap) xs):HoldsK enc E.size w blk 0 d:=by
  obtain ⟨cs,hown,hf⟩:=h
  intro t ht
  rw [size_flatK] at ht
  have hlen:d.size=xs.length:=by rw [<- hd];simp
  have k0:0<E.size:=Nat.pos_of_ne_zero fun h=>by rw [h] at ht;simp at ht
  have hi:t / E.size<d.size:=(Nat.div_lt_iff_lt_mul k0).2 ht
  have hj:t % E.size<E.size:=Nat.mod_lt _ k0
  have hx:xs[t / E.size]? = some (f d[t / E.size]!):=by
    rw [<- hd,List.getElem?_map]
    simp [hi]
  obtain ⟨ds,h1,h2⟩:=hf.2 _ _ hx
  have h3:=henc _ _ _ _ h1
  subst h3
  have h4:=h2 (t % E.size) _ (some_get! (by rw [hk];exact hj))
  rw [Nat.div_add_mod'] at h4
  refine ⟨?_,?_⟩
  . have := hown.cells (g := blk) rfl t _ h4
    rw [zDS] at this
    rw [get_flatK _ _ _ _ ht]
    exact this
  . rcases hown.2 with ⟨e, _⟩ | ⟨g, cap', cur, e, hb, hg, hnc, _, hcs, _⟩
    . cases e
    . injection e with e1 e2 e3
      injection e1 with e1
      injection e1 with e1
      subst e1
      rw [Nat.zero_add]
      exact hg.frozen t (by rw [hcs];exact Nat.lt_of_lt_of_le ht (by rw [hlen];exact Nat.mul_le_mul_right _ hnc))
theorem zNJ {E : Enc α} {enc : β -> List Value} {f : β -> α} {A : Av} {B T blk cap n : Nat} {w : World} {xs ys : List α} {d : Array β} {os : Array Obj} (hk : ∀ b, (enc b).length = E.size) (henc : ∀ (b : β) A w cs, E.rep A w (f b) cs -> cs = enc b)
    (hrep:∀ A w A' w' x cs,E.rep A w x cs->E.rep A' w' x cs) (hd:d.toList.map f=ys) (hl:ys.length=xs.length) (hsub:∀ y ∈ ys,y ∈ xs) (h:Vec E A B T w (.slice (some ⟨blk,0,none⟩) xs.length cap) xs) :
    Vec E A B T (grow (putRow id (Go.Sort.ahead w n) blk 0 (flatK enc E.size d)) os) (.slice (some ⟨blk,0,none⟩) xs.length cap) ys:=by
  obtain ⟨cs,hown,hf⟩:=h
  have hrow:∀ b ∈ d.toList,∀ A w,E.rep A w (f b) (enc b):=by
    intro b hb A' w'
    obtain ⟨i,hi⟩:=List.mem_iff_getElem?.1 (hsub _ (hd ▸ List.mem_map_of_mem hb))
    obtain ⟨ds,h1,h2⟩:=hf.2 i _ hi
    have h3:=henc _ _ _ _ h1
    subst h3
    exact hrep _ _ _ _ _ _ h1
  rcases hown.2 with ⟨e,_⟩ | ⟨g,cap',cur,e,hb,hg,hnc,hcm,hcs,htk⟩
  . cases e
  . injection e with e1 e2 e3
    injection e1 with e1
    injection e1 with e1
    subst e1 e3
    have hds:d.size=ys.length:=by rw [<- hd];simp
    have hFs:(flatK enc E.size d).size=ys.length*E.size:=by rw [size_flatK,hds]
    generalize hF:flatK enc E.size d=F at *
    have hcl:ys.length*E.size<=cur.size:=by
      rw [hcs]
      exact Nat.mul_le_mul_right _ (by omega)
    have hcur:∀ j,j<ys.length*E.size->(putCells id 0 F cur)[j]? = some F[j]!:=fun j hj=>by
      have hjc:j<cur.size:=by omega
      simp only [putCells,Array.getElem?_mapIdx]
      rw [Array.getElem?_eq_getElem hjc]
      simp [hFs,hj]
    have hlay:(putCells id 0 F cur).toList.take (ys.length*E.size)=F.toList:=by
      apply List.ext_getElem?
      intro j
      by_cases hj:j<ys.length*E.size
      . have hjF : j < F.size := by omega
        rw [List.getElem?_take,if_pos hj,Array.getElem?_toList,hcur j hj,Array.getElem?_toList,Array.getElem?_eq_getElem hjF,getElem!_pos F j hjF]
      . rw [List.getElem?_take,if_neg hj,List.getElem?_eq_none (by rw [Array.length_toList];omega)]
    refine ⟨F.toList,⟨by rw [Array.length_toList,hFs],.inr ⟨blk,cap,putCells id 0 F cur,by rw [hl],hb,hg.putRw,by rw [hl];exact hnc,hcm,by simp [putCells,hcs],hlay⟩⟩,by rw [Array.length_toList,hFs],fun i y hy=>?_⟩
    . have hiy : i < ys.length := (List.getElem?_eq_some_iff.1 hy).1
      have hid:i<d.size:=by omega
      have hfd:f d[i]! = y:=by
        rw [<- hd,List.getElem?_map] at hy
        simp [hid] at hy
        simpa [hid] using hy
      have hm:d[i]! ∈ d.toList:=by
        rw [getElem!_pos d i hid]
        exact Array.getElem_mem_toList hid
      refine ⟨enc d[i]!,hfd ▸ hrow _ hm _ _,fun j u hj=>?_⟩
      have hjk:j<E.size:=by rw [<- hk d[i]!];exact (List.getElem?_eq_some_iff.1 hj).1
      have hij:i*E.size+j<F.size:=by
        have:=Nat.mul_le_mul_right E.size (show i+1<=ys.length from hiy)
        rw [Nat.add_mul,Nat.one_mul] at this
        omega
      rw [Array.getElem?_toList,Array.getElem?_eq_getElem hij,<- getElem!_pos F _ hij,<- hF,zLp hk hid hjk,<- hj]
      exact (some_get! (by rw [hk];exact hjk)).symm
end
def encT (x:zAA):List Value:=[.int .i64 x.1,.int .i64 x.2.1,.bool x.2.2]
theorem zOf (b:zAA) (A:Av) (w:World) (cs:List Value) (h:zA0.rep A w b cs):cs=encT b:=by
  obtain ⟨_,_,rfl,rfl,⟨_,_,rfl,rfl,rfl⟩⟩:=h
  rfl
theorem zOa (A:Av) (w:World) (b:zAA):zA0.rep A w b (encT b):=zAy zAP (zAy zAP zDQ)
theorem repT (A:Av) (w:World) (b:zAA):Rep zA0 A w (.agg (encT b).toArray) b:=⟨_,rfl,zOa A w b⟩
theorem zKL {fu : Nat} {A0 : Av} {p0 r : List zAA} {p1 : zAA -> zAA -> Option Int} (hr : zJN fu p0 p1 = some r) {w : World} {v0 v1 : Value} {B0 : Nat} (hA : AvOK A0 w) (hN : ∀ b o, A0 b o -> ¬ zAH v0 b) (h0 : (Res.vec B0 69 zA0 p0).ok A0 v0 w)
    (h1:FnK2 Tryz.prog zA0 zA0 (fun r=>.raw (.int .i64 r)) A0 (zAH v0) w v1 p1) :
    Calls Tryz.prog 52 #[v0,v1] w fun e w'=>∃ v,e=.returned v/\(v=.tuple #[]/\(Res.vec B0 69 zA0 r).ok A0 v0 w'/\Ch (zAH v0) w w'):=by
  obtain ⟨hlen,hr⟩:=zAC hr
  obtain ⟨hok,hr⟩:=zAC hr
  obtain rfl:=Option.some.inj hr
  simp only [zMA,List.all_eq_true,Bool.and_eq_true] at hok
  cases hp:p0 with
  | nil=>
    subst hp
    have:∃ p cap,v0=.slice p 0 cap:=by
      rcases zJs h0 with ⟨rfl,_⟩ | ⟨blk,cap,rfl,_⟩
      . exact ⟨_,_,rfl⟩
      . exact ⟨_,_,rfl⟩
    obtain ⟨p,cap,rfl⟩:=this
    refine (AnyF.slices_SortFunc_none Tryz.laysSortT p cap v1 w).mono ?_
    rintro e w' ⟨he,rfl⟩
    refine ⟨_,he,rfl,?_,Ch.refl _ _⟩
    simpa using h0
  | cons x0 t0=>
    rw [<- hp]
    have hx0:x0 ∈ p0:=by rw [hp];simp
    have hsome:∀ x ∈ p0,∀ y ∈ p0,p1 x y=some (gv (p1 x y)):=fun x hx y hy=>zNz (hok x hx y hy).1.1.1
    obtain ⟨g,cb,rfl,hg,_⟩:=h1 x0 x0 _ (hsome x0 hx0 x0 hx0) w (.agg (encT x0).toArray) (.agg (encT x0).toArray) (Ch.refl _ _) hA (repT A0 w x0) (repT A0 w x0)
    rcases zJs h0 with ⟨rfl,e⟩ | ⟨blk,cap,rfl,hb⟩
    . rw [e] at hx0
      cases hx0
    . let β := {x : zAA // x ∈ p0}
      have inst:Inhabited β:=⟨⟨x0,hx0⟩⟩
      let enc:β->List Value:=fun b=>encT b.1
      let cf:β->β->Int:=fun x y=>gv (p1 x.1 y.1)
      let d:Array β:=p0.attach.toArray
      have hdm:d.toList.map (fun b:β=>b.1)=p0:=by show (p0.attach.toArray).toList.map Subtype.val=p0;rw [List.toList_toArray];exact List.attach_map_subtype_val p0
      have hds:d.size=p0.length:=by show (p0.attach.toArray).size=_;rw [List.size_toArray,List.length_attach]
      have hO:SWO (ltOf cf):=by
        refine ⟨fun x=>?_,fun x y z hxy hyz=>?_,fun x y z hxy hyz=>?_⟩
        . have := (hok x.1 x.2 x.1 x.2).1.1.2
          simpa [ltOf,cf] using this
        . have := ((hok x.1 x.2 y.1 y.2).2 z.1 z.2).1
          simp only [ltOf,cf] at hxy hyz ⊢
          rw [hxy,hyz] at this
          simpa using this
        . have := ((hok x.1 x.2 y.1 y.2).2 z.1 z.2).2
          simp only [ltOf,cf] at hxy hyz ⊢
          rw [hxy,hyz] at this
          simpa using this
      have hT:∀ x y,(ltOf cf) x y=false->(ltOf cf) y x=false->x=y:=by
        intro x y hxy hyx
        have:=(hok x.1 x.2 y.1 y.2).1.2
        simp only [ltOf,cf] at hxy hyx
        rw [hxy,hyx] at this
        exact Subtype.ext (by simpa using this)
      have hcmp:CmpLays Tryz.prog g cb.toArray enc 3 cf blk 0 d.size w:=by
        intro m os dk hdk x y
        have hch:Ch (zAH (.slice (some ⟨blk,0,none⟩) p0.length cap)) w (sortWorldK enc 3 w blk 0 m dk os):=zJz rfl
        obtain ⟨g',cb',e,hg',hc⟩:=h1 x.1 y.1 _ (hsome x.1 x.2 y.1 y.2) (sortWorldK enc 3 w blk 0 m dk os) (.agg (enc x).toArray) (.agg (enc y).toArray) hch (hA.fr hch.size) (repT _ _ x.1) (repT _ _ y.1)
        obtain ⟨rfl,rfl⟩:=zLW e
        have e2:((#[Value.agg (enc x).toArray,Value.agg (enc y).toArray]:Array Value)++cb.toArray)=([Value.agg (enc x).toArray,Value.agg (enc y).toArray]++cb).toArray:=by simp
        rw [e2]
        refine hc.mono ?_
        rintro e w' ⟨u,he,hu,hfr⟩
        obtain rfl:u=.int .i64 (cf x y):=hu
        obtain ⟨q,os',hw⟩:=zO3 trivial hfr
        exact ⟨he,q,os',hw⟩
      have hH:HoldsK enc 3 w blk 0 d:=zLN (E:=zA0) (f:=fun b:β=>b.1) (fun _=>rfl) (fun b A w cs h=>zOf b.1 A w cs h) hdm h0
      have key:=AnyQ.slices_SortFunc_total Tryz.laysSortT 3 Tryz.isAgg69 Tryz.sizeOf69 enc (fun _=>rfl) (fun x v hv=>zA0.oc (zOa (fun _ _=>False) w x.1) v hv) cf hO g cb.toArray blk 0 cap d w hg hcmp hH hb (by rw [hds];have:=zHu hlen;omega) hT
      rw [hds] at key
      refine key.mono ?_
      rintro e w' ⟨he,n,os,rfl⟩
      refine ⟨_,he,rfl,?_,zJz rfl⟩
      have hmap:(d.toList.mergeSort fun x y=>!(ltOf cf) y x).map (fun b:β=>b.1)=p0.mergeSort fun x y=>!(decide (gv (p1 y x)<0)):=by
        rw [List.map_mergeSort (f:=fun b:β=>b.1) (r:=fun x y=>!(ltOf cf) y x) (s:=fun x y=>!(decide (gv (p1 y x)<0))) (l:=d.toList) (fun a _ b _=>rfl),hdm]
      exact zNJ (E:=zA0) (enc:=enc) (f:=fun b:β=>b.1) (n:=n) (os:=os) (d:=(d.toList.mergeSort fun x y=>!(ltOf cf) y x).toArray) (fun _=>rfl) (fun b A w cs h=>zOf b.1 A w cs h) (fun _ _ _ _ _ _ h=>by have:=zOf _ _ _ _ h;subst this;exact zOa _ _ _) (by simpa using hmap) (by simp) (fun y hy=>(List.mem_mergeSort.1 hy)) h0
end Go.Proofs.YtmgiijdejigdhaaGreatDoor
namespace Go.Proofs.YtmgiijdejigdhaaGreatDoor
open Go.RowKit
set_option linter.unusedVariables false
abbrev eI {o:Oper} (n:Int):Ent:=⟨o,true,.raw (.int .i64 n)⟩
abbrev eU {o:Oper} (n:Int):Ent:=⟨o,true,.raw (.int .u8 n)⟩
abbrev eB {o:Oper} (b:Bool):Ent:=⟨o,true,.raw (.bool b)⟩
abbrev eR {o:Oper} (v:Value):Ent:=⟨o,true,.raw v⟩
abbrev eF {o:Oper} (f:Fact):Ent:=⟨o,true,f⟩
abbrev eA {o:Oper}:Ent:=⟨o,true,.any⟩
abbrev gI {o:Oper} (g:Bool) (n:Int):Ent:=⟨o,g,.raw (.int .i64 n)⟩
abbrev gU {o:Oper} (g:Bool) (n:Int):Ent:=⟨o,g,.raw (.int .u8 n)⟩
abbrev gB {o:Oper} (g:Bool) (b:Bool):Ent:=⟨o,g,.raw (.bool b)⟩
abbrev gR {o:Oper} (g:Bool) (v:Value):Ent:=⟨o,g,.raw v⟩
abbrev gF {o:Oper} (g:Bool) (f:Fact):Ent:=⟨o,g,f⟩
abbrev rI {o:Oper} (n:Int):EntR:=⟨o,true,[],none,true,fun _=>.raw (.int .i64 n)⟩
abbrev rB {o:Oper} (b:Bool):EntR:=⟨o,true,[],none,true,fun _=>.raw (.bool b)⟩
abbrev rR {o:Oper} (v:Value):EntR:=⟨o,true,[],none,true,fun _=>.raw v⟩
abbrev rF {o:Oper} (f:Av->Fact):EntR:=⟨o,true,[],none,true,f⟩
abbrev rA {o:Oper}:EntR:=⟨o,true,[],none,true,fun _=>.any⟩
abbrev sI {o:Oper} (g:Bool) (n:Int):EntR:=⟨o,g,[],none,true,fun _=>.raw (.int .i64 n)⟩
abbrev sB {o:Oper} (g:Bool) (b:Bool):EntR:=⟨o,g,[],none,true,fun _=>.raw (.bool b)⟩
abbrev sR {o:Oper} (g:Bool) (v:Value):EntR:=⟨o,g,[],none,true,fun _=>.raw v⟩
theorem ur {o:Oper} {g:Bool} {con:List Nat} {res:Option Res} {lk:Bool} {u:Value} {l:List EntR} (t:UAll l):UAll (⟨o,g,con,res,lk,fun _=>.raw u⟩::l):=UAll.cons zEt t
theorem ua {o:Oper} {g:Bool} {con:List Nat} {res:Option Res} {lk:Bool} {l:List EntR} (t:UAll l):UAll (⟨o,g,con,res,lk,fun _=>.any⟩::l):=UAll.cons zOF t
theorem up {o:Oper} {g:Bool} {con:List Nat} {res:Option Res} {lk:Bool} {α:Type} {E:Enc α} {y:α} {l:List EntR} (t:UAll l):UAll (⟨o,g,con,res,lk,fun A=>.rep E A y⟩::l):=UAll.cons zEo t
section
variable {P:Program} {n:Nat} {Q:Exit->Reg->World->Prop} {id:Nat} {l:List Ent} {R R':Reg} {w:World} {i:Nat} {rest:List Ent}
theorem op {x : Ent} (h : ∀ R' w', Fr w w' -> (∀ t, zHb l i t = true -> R' t = R t) -> Deps l R' w' x.o.after.toList -> OpR P x.o R' w' fun v w'' => x.f.ok v w'' /\ Fr w' w'')
    (t:Obls P l R w (i+1) rest) (hg:x.o.guard=none:=by exact rfl) (hx:x.g=true:=by exact rfl):Obls P l R w i (x::rest):=Obls.p h t hg hx
theorem oz:Obls P l R w i []:=Obls.nil
theorem zQ3 (l:List Ent) (ho:Obls P l R w 0 l) (ha:∀ R' w',Fr w w'->(∀ t,zIu l t=true->R' t=R t)->zKI R' w' l->Q .normal R' w') (hb:zCx 0 (l.map (·.o))=true:=by kernel_rfl) (hd:zEi l=true:=by kernel_rfl) (hs:zFY n ((l.map fun x:Ent=>x.o)++([]:List Oper))=true:=by kernel_rfl):HT P n (.region id ((l.map fun x:Ent=>x.o)++([]:List Oper)).toArray false) R w Q:=
  zQ4 hb hd hs ho ha
theorem HT.u {w0:World} {A:Av} (hA:AvOK A w) (hF:Fr w0 w) (l:List Ent) (ho:Obls P l R w 0 l) (ha:∀ R' w',Fr w w'->(∀ t,zIu l t=true->R' t=R t)->zKI R' w' l->AvOK A w'->Fr w0 w'->Q .normal R' w') (hb:zCx 0 (l.map (·.o))=true:=by kernel_rfl) (hd:zEi l=true:=by kernel_rfl) (hs:zFY n ((l.map fun x:Ent=>x.o)++([]:List Oper))=true:=by kernel_rfl):HT P n (.region id ((l.map fun x:Ent=>x.o)++([]:List Oper)).toArray false) R w Q:=
  zQ4 hb hd hs ho fun R' w' hw hs hf=>ha R' w' hw hs hf (hA.fr hw.size) (hF.trans hw)
theorem om {d:Option Nat} {t:Nat} {ty:TypeId} {p:String} {af:Array Edge} {v:Value} (h:R t=v) (r:Obls P l R w (i+1) rest) (hk:zHb l i t=true:=by exact rfl):Obls P l R w i (⟨⟨d,.move (.tmp t),ty,p,af,none⟩,true,.raw v⟩::rest):=
  ⟨Obl.plain rfl rfl fun R' w' hw hs hd=>zBd ((hs t hk).trans h),r⟩
theorem ov {d:Option Nat} {t:Nat} {ty:TypeId} {p:String} {af:Array Edge} {v:Value} (r:Obls P l R w (i+1) rest) (hd:depF l af.toList 0=some (t,.raw v):=by exact rfl):Obls P l R w i (⟨⟨d,.move (.tmp t),ty,p,af,none⟩,true,.raw v⟩::rest):=
  ⟨Obl.plain rfl rfl fun R' w' hw hs h=>zBd (h.g 0 hd),r⟩
theorem oa {d:Option Nat} {t:Nat} {ty:TypeId} {p:String} {af:Array Edge} {v:Value} (r:Obls P l R w (i+1) rest) (hd:depF l af.toList 0=some (t,.raw v):=by exact rfl):Obls P l R w i (⟨⟨d,.assign (.tmp t),ty,p,af,none⟩,true,.raw v⟩::rest):=
  ⟨Obl.plain rfl rfl fun R' w' hw hs h=>zA9 (h.g 0 hd),r⟩
def grdF (l : List Ent) (j : Nat) : Option (Bool × Bool) := match l[j]? with
  | none=>none
  | some y => match y.o.dst with
    | none=>none
    | some _ => match y.f with
      | .raw (.bool c)=>some (y.g,c)
      | _=>none
theorem og {x : Ent} (j : Nat) (want : Bool) (h : x.g = true -> ∀ R' w', Fr w w' -> (∀ t, zHb l i t = true -> R' t = R t) -> Deps l R' w' x.o.after.toList -> OpR P x.o R' w' fun v w'' => x.f.ok v w'' /\ Fr w' w'') (r : Obls P l R w (i + 1) rest)
    (hg:x.o.guard=some (j,want):=by exact rfl) (hy:(grdF l j).map (fun p=>p.1&&(p.2==want))=some x.g:=by exact rfl) (ha:x.o.after.any (fun e=>bnd e&&Nat.beq e.on j)=true:=by kernel_rfl):Obls P l R w i (x::rest):=by
  refine ⟨?_,r⟩
  unfold grdF at hy
  cases h1:l[j]? with
  | none=>rw [h1] at hy;cases hy
  | some y=>
    rw [h1] at hy
    dsimp only at hy
    cases h2:y.o.dst with
    | none=>rw [h2] at hy;cases hy
    | some d=>
      rw [h2] at hy
      dsimp only at hy
      split at hy
      . rename_i c hc
        exact Obl.grd j want y c d hg h1 h2 hc (Option.some.inj hy).symm ha h
      . cases hy
def depG (l:List Ent) (es:List Edge) (j:Nat):Option (Nat × Fact × Bool):=
  match es[j]? with
  | none=>none
  | some e => bif bnd e then (match l[e.on]? with
    | none=>none
    | some x => match x.o.dst with
      | none=>none
      | some d=>some (d,x.f,x.g)) else none
theorem Deps.h {es:List Edge} (h:Deps l R w es) (j:Nat) {d:Nat} {f:Fact} {g:Bool} (hg:g=true) (e:depG l es j=some (d,f,g)):f.ok (R d) w:=by
  unfold depG at e
  cases h1:es[j]? with
  | none=>rw [h1] at e;cases e
  | some a=>
    rw [h1] at e
    dsimp only at e
    cases h2:bnd a
    . rw [h2] at e;cases e
    rw [h2,cond_true] at e
    cases h3:l[a.on]? with
    | none=>rw [h3] at e;cases e
    | some x=>
      rw [h3] at e
      dsimp only at e
      cases h4:x.o.dst with
      | none=>rw [h4] at e;cases e
      | some d'=>
        rw [h4] at e
        dsimp only at e
        obtain ⟨rfl,e2⟩:=Prod.mk.inj (Option.some.inj e)
        obtain ⟨rfl,rfl⟩:=Prod.mk.inj e2
        exact h j a x _ h1 h2 h3 h4 hg
def facR (l : List Ent) (i : Nat) : Option (Nat × Value) := match l[i]? with
  | none=>none
  | some x => match x.o.dst with
    | none=>none
    | some d => bif x.g then (match x.f with
      | .raw u=>some (d,u)
      | _=>none) else none
theorem zKI.r (h:zKI R w l) (i:Nat) {d:Nat} {u:Value} (e:facR l i=some (d,u)):R d=u:=by
  unfold facR at e
  cases h1:l[i]? with
  | none=>rw [h1] at e;cases e
  | some x=>
    rw [h1] at e
    dsimp only at e
    cases h2:x.o.dst with
    | none=>rw [h2] at e;cases e
    | some d'=>
      rw [h2] at e
      dsimp only at e
      cases h3:x.g
      . rw [h3] at e;cases e
      rw [h3,cond_true] at e
      split at e
      . rename_i u' hu
        obtain ⟨rfl,rfl⟩:=Prod.mk.inj (Option.some.inj e)
        have:=h i x _ h1 h2 h3
        rw [hu] at this
        exact this
      . cases e
end
section
variable {P:Program} {ini:List Ob} {l:List EntR} {A:Av} {R R':Reg} {w:World} {i:Nat} {rest:List EntR}
theorem rp {x : EntR} (h : ∀ A' R' w', Onto ini l A R w i A' R' w' -> zGa l A' R' w' x.o.after.toList -> OpR P x.o R' w' fun v w'' => (x.f A').ok v w'' /\ Fr w' w'')
    (t:zEC P ini l A R w (i+1) rest) (hg:x.o.guard=none:=by exact rfl) (hx:x.g=true:=by exact rfl) (hc:x.con = []:=by exact rfl) (hr:x.res=none:=by exact rfl):zEC P ini l A R w i (x::rest):=zEC.p h t hg hx hc hr
theorem rz:zEC P ini l A R w i []:=zEC.nil
theorem rc {x:EntR} (h:OblR P ini l A R w i x) (t:zEC P ini l A R w (i+1) rest):zEC P ini l A R w i (x::rest):=zEC.cons h t
theorem rm {d:Option Nat} {t:Nat} {ty:TypeId} {p:String} {af:Array Edge} {v:Value} (h:R t=v) (r:zEC P ini l A R w (i+1) rest) (hk:zKe l i t=true:=by exact rfl):zEC P ini l A R w i (⟨⟨d,.move (.tmp t),ty,p,af,none⟩,true,[],none,true,fun _=>.raw v⟩::rest):=
  ⟨OblR.plain rfl rfl rfl rfl fun A' R' w' ho hd=>zBd ((ho.old t hk).trans h),r⟩
theorem rv {d:Option Nat} {t:Nat} {ty:TypeId} {p:String} {af:Array Edge} {v:Value} (r:zEC P ini l A R w (i+1) rest) (hd:zNS l af.toList 0=some (t,fun _=>.raw v):=by exact rfl):zEC P ini l A R w i (⟨⟨d,.move (.tmp t),ty,p,af,none⟩,true,[],none,true,fun _=>.raw v⟩::rest):=
  ⟨OblR.plain rfl rfl rfl rfl fun A' R' w' ho h=>zBd (h.g 0 hd),r⟩
theorem ra {d:Option Nat} {t:Nat} {ty:TypeId} {p:String} {af:Array Edge} {v:Value} (r:zEC P ini l A R w (i+1) rest) (hd:zNS l af.toList 0=some (t,fun _=>.raw v):=by exact rfl):zEC P ini l A R w i (⟨⟨d,.assign (.tmp t),ty,p,af,none⟩,true,[],none,true,fun _=>.raw v⟩::rest):=
  ⟨OblR.plain rfl rfl rfl rfl fun A' R' w' ho h=>zA9 (h.g 0 hd),r⟩
end
section
variable {q:Nat->Bool} {R R':Reg} {a b c d e f g h:Nat} {s t u v x y z k:Value}
theorem k1 (hs:∀ t,q t=true->R' t=R t) (h1:R a=s) (p1:q a=true:=by exact rfl):R' a=s:=(hs a p1).trans h1
theorem k2 (hs:∀ t,q t=true->R' t=R t) (h1:R a=s) (h2:R b=t) (p1:q a=true:=by exact rfl) (p2:q b=true:=by exact rfl):R' a=s/\R' b=t:=⟨(hs a p1).trans h1,(hs b p2).trans h2⟩
theorem k3 (hs:∀ t,q t=true->R' t=R t) (h1:R a=s) (h2:R b=t) (h3:R c=u) (p1:q a=true:=by exact rfl) (p2:q b=true:=by exact rfl) (p3:q c=true:=by exact rfl):R' a=s/\R' b=t/\R' c=u:=⟨(hs a p1).trans h1,(hs b p2).trans h2,(hs c p3).trans h3⟩
theorem k4 (hs:∀ t,q t=true->R' t=R t) (h1:R a=s) (h2:R b=t) (h3:R c=u) (h4:R d=v) (p1:q a=true:=by exact rfl) (p2:q b=true:=by exact rfl) (p3:q c=true:=by exact rfl) (p4:q d=true:=by exact rfl):R' a=s/\R' b=t/\R' c=u/\R' d=v:=⟨(hs a p1).trans h1,(hs b p2).trans h2,(hs c p3).trans h3,(hs d p4).trans h4⟩
theorem k5 (hs:∀ t,q t=true->R' t=R t) (h1:R a=s) (h2:R b=t) (h3:R c=u) (h4:R d=v) (h5:R e=x) (p1:q a=true:=by exact rfl) (p2:q b=true:=by exact rfl) (p3:q c=true:=by exact rfl) (p4:q d=true:=by exact rfl) (p5:q e=true:=by exact rfl):R' a=s/\R' b=t/\R' c=u/\R' d=v/\R' e=x:=⟨(hs a p1).trans h1,(hs b p2).trans h2,(hs c p3).trans h3,(hs d p4).trans h4,(hs e p5).trans h5⟩
theorem k6 (hs:∀ t,q t=true->R' t=R t) (h1:R a=s) (h2:R b=t) (h3:R c=u) (h4:R d=v) (h5:R e=x) (h6:R f=y) (p1:q a=true:=by exact rfl) (p2:q b=true:=by exact rfl) (p3:q c=true:=by exact rfl) (p4:q d=true:=by exact rfl) (p5:q e=true:=by exact rfl) (p6:q f=true:=by exact rfl):R' a=s/\R' b=t/\R' c=u/\R' d=v/\R' e=x/\R' f=y:=⟨(hs a p1).trans h1,(hs b p2).trans h2,(hs c p3).trans h3,(hs d p4).trans h4,(hs e p5).trans h5,(hs f p6).trans h6⟩
end
section
variable {P:Program} {ini:List Ob} {l:List EntR} {A A':Av} {R R':Reg} {w w':World} {done:Nat->Bool} {ρ:Nat->Value} {σ:Nat->Nat->Prop}
theorem InvR.rg (hI:InvR ini l A R w done ρ σ A' R' w'):∀ t,zKg l t=true->R' t=R t:=fun _ h=>hI.reg h
def zPU (l : List EntR) (i : Nat) : Option (Nat × (Av -> Fact)) := match l[i]? with
  | none=>none
  | some x => match x.o.dst with
    | none=>none
    | some d=>bif x.g then some (d,x.f) else none
theorem InvR.r (hI:InvR ini l A R w done ρ σ A' R' w') (hd:∀ i,i<l.length->done i=true) (i:Nat) {d:Nat} {u:Value} (e:zPU l i=some (d,fun _=>.raw u)):R' d=u:=by
  unfold zPU at e
  cases h1:l[i]? with
  | none=>rw [h1] at e;cases e
  | some x=>
    rw [h1] at e
    dsimp only at e
    cases h2:x.o.dst with
    | none=>rw [h2] at e;cases e
    | some d'=>
      rw [h2] at e
      dsimp only at e
      cases h3:x.g
      . rw [h3] at e;cases e
      rw [h3,cond_true] at e
      obtain ⟨rfl,hu⟩:=Prod.mk.inj (Option.some.inj e)
      have:=hI.fact hd h1 h2 h3
      rw [hu] at this
      exact this
end
section
variable {P:Program} {n:Nat} {Q:Exit->Reg->World->Prop} {id:Nat} {R:Reg} {w:World} {y:Code} {A:Av}
theorem zQ1 {w0:World} (hA:AvOK A w) (hF:Fr w0 w) (l:List Ent) (ho:Obls P l R w 0 l) (ha:∀ R' w',Fr w w'->(∀ t,zIu l t=true->R' t=R t)->zKI R' w' l->AvOK A w'->Fr w0 w'->HT P n y R' w' Q) (hb:zCx 0 (l.map (·.o))=true:=by kernel_rfl) (hd:zEi l=true:=by kernel_rfl) (hs:zFY n ((l.map fun x:Ent=>x.o)++([]:List Oper))=true:=by kernel_rfl):HT P n (.seq (.region id ((l.map fun x:Ent=>x.o)++([]:List Oper)).toArray false) y) R w Q:=
  zQ0 (HT.u hA hF l ho ha hb hd hs)
theorem zQ5 (ini:List Ob) (l:List EntR) (hu:UAll l) (hi:IniOK ini A w) (hA:AvOK A w) (ho:zEC P ini l A R w 0 l) (ha:zJi ini l A R w (fun R w=>Q .normal R w)) (hb:zCx 0 (l.map (·.o))=true:=by kernel_rfl) (hs:zFY n (l.map (·.o))=true:=by kernel_rfl) (h1:zFH l=true:=by kernel_rfl) (h2:l.all (conB ini.length l)=true:=by kernel_rfl) (h3:zLM l=true:=by kernel_rfl):HT P n (.region id (l.map (·.o)).toArray false) R w Q:=
  HT.textR ini l hb hs (Wf.mk' h1 hu h2 h3) hi hA ho ha
theorem zQ2 (ini:List Ob) (l:List EntR) (hu:UAll l) (hi:IniOK ini A w) (hA:AvOK A w) (ho:zEC P ini l A R w 0 l) (ha:zJi ini l A R w (fun R w=>HT P n y R w Q)) (hb:zCx 0 (l.map (·.o))=true:=by kernel_rfl) (hs:zFY n (l.map (·.o))=true:=by kernel_rfl) (h1:zFH l=true:=by kernel_rfl) (h2:l.all (conB ini.length l)=true:=by kernel_rfl) (h3:zLM l=true:=by kernel_rfl):HT P n (.seq (.region id (l.map (·.o)).toArray false) y) R w Q:=
  zQ0 (zQ5 ini l hu hi hA ho ha hb hs h1 h2 h3)
end
section
variable {ini:List Ob} {l:List EntR} {A:Av} {R:Reg} {w:World} {done:Nat->Bool} {ρ:Nat->Value} {σ:Nat->Nat->Prop} {A':Av} {R':Reg} {w':World}
theorem InvR.s (hI:InvR ini l A R w done ρ σ A' R' w') {A0:Av} {w0:World} (h0:∀ b o,A0 b o->A b o) (hB:∀ b o,A0 b o->b<w0.heap.size) (hF:Fr w0 w) (hO:IniOK ini A w) (h:zH1 w0.heap.size ini):(∀ b o,A0 b o->A' b o)/\Fr w0 w'/\AvOK A' w':=
  ⟨hI.low' h0 hB (hO.ge h),hF.tr hI.ch (hO.ge h),hI.avok⟩
theorem InvR.ov (hI:InvR ini l A R w done ρ σ A' R' w') (hd:∀ i,i<l.length->done i=true) {u:Value} (id i:Nat) (e:ρ id=u) {x:EntR} {d:Nat} (hx:l[i]? = some x:=by exact rfl) (hid:id=ini.length+i:=by exact rfl) (hr:x.res.isSome=true:=by exact rfl) (hk:x.lk=true:=by exact rfl) (hxd:x.o.dst=some d:=by exact rfl):R' d=u:=
  (hI.opvR hd id i hx hid hr hk hxd).symm.trans e
theorem InvR.on (hI:InvR ini l A R w done ρ σ A' R' w') (hd:∀ i,i<l.length->done i=true) {u:Value} (id i:Nat) {x:EntR} {c:Nat} (hx:l[i]? = some x) (hid:id=ini.length+i) (hr:x.res.isSome=true) (hk:x.lk=false) (hc:x.con.head? = some c) (e:ρ c=u):ρ id=u:=
  (hI.opnR hd id i hx hid hr hk hc).trans e
end
theorem Z {α:Sort _} {a:α}:a=a:=rfl
theorem N:True:=trivial
theorem nb {n m:Nat} (h:Nat.ble n m=true):n<=m:=Nat.le_of_ble_eq_true h
theorem si {α:Type _} {a b:α} (h:some a=some b):a=b:=Option.some.inj h
theorem ei {α:Sort _} {p:α->Prop} (w:α) (h:p w):Exists p:=Exists.intro w h
theorem ck2 {α:Type} {a b:Bool} {k:Option α} {r:α} (h:ck a (ck b k)=some r):a=true/\b=true/\k=some r:=⟨(zAC h).1,zAC (zAC h).2⟩
theorem ck3 {α:Type} {a b c:Bool} {k:Option α} {r:α} (h:ck a (ck b (ck c k))=some r):a=true/\b=true/\c=true/\k=some r:=⟨(zAC h).1,ck2 (zAC h).2⟩
theorem ck4 {α:Type} {a b c d:Bool} {k:Option α} {r:α} (h:ck a (ck b (ck c (ck d k)))=some r):a=true/\b=true/\c=true/\d=true/\k=some r:=⟨(zAC h).1,ck3 (zAC h).2⟩
section
variable {P:Program} {l:List Ent} {R:Reg} {w:World} {i:Nat} {rest:List Ent}
theorem gm {d : Option Nat} {t : Nat} {ty : TypeId} {p : String} {af : Array Edge} {g : Bool} {v : Value} (j : Nat) (want : Bool) (h : R t = v) (r : Obls P l R w (i + 1) rest) (hk : zHb l i t = true := by exact rfl)
    (hy:(grdF l j).map (fun p=>p.1&&(p.2==want))=some g:=by exact rfl) (ha:af.any (fun e=>bnd e&&Nat.beq e.on j)=true:=by kernel_rfl):Obls P l R w i (⟨⟨d,.move (.tmp t),ty,p,af,some (j,want)⟩,g,.raw v⟩::rest):=
  og j want (fun _ R' w' hw hs hd=>zBd ((hs t hk).trans h)) r rfl hy ha
end
theorem pc {A0:Av} {w:World} (h:AvOK A0 w):∃ w0,w0=w/\∀ b o,A0 b o->b<w0.heap.size:=⟨w,rfl,h⟩
theorem pw {A0:Av} {w:World} (h:AvOK A0 w):∃ w0,w0=w/\Fr w0 w/\∀ b o,A0 b o->b<w0.heap.size:=⟨w,rfl,Fr.refl _,h⟩
theorem pa {A0:Av} {w:World} (h:AvOK A0 w):∃ A,A=A0/\(∀ b o,A0 b o->A b o)/\AvOK A w/\IniOK [] A w:=⟨A0,rfl,fun _ _ h=>h,h,IniOK.nil⟩
theorem pf (w:World):∃ w0,w0=w/\Fr w0 w:=⟨w,rfl,Fr.refl _⟩
theorem fw {w0 w:World} (h:w0=w):Fr w=Fr w0:=h ▸ rfl
theorem fh {w0 w:World} (h:w0=w):w.heap.size=w0.heap.size:=h ▸ rfl
theorem qt {α:Type} {E:Enc α} {A:Av} {x:α} {v:Value} {w:World} (h:(Fact.qtr E A x).ok v w):QRep E A w v x:=h
end Go.Proofs.YtmgiijdejigdhaaGreatDoor

