/- Own texts laid together. No statement of the seat is proved here. -/
import Derived.Test.YtmgiijdejigdhaaGreatZx1
import Derived.Test.YtmgiijdejigdhaaGreatProg
import Derived.Shelf.Slices.In.SortNone
import Derived.Shelf.SlSortCmp.NoneTotal
import Derived.Shelf.Small.Strs
import Derived.Shelf.Sort.Plain
import Derived.Ground.NamesProg
import Derived.Ground.SlsfProg
import Derived.Maps.Own
import Derived.Maps.Views
import Derived.Carry
import Derived.WalkKit
import Derived.Deep.RegionLaw
import Derived.Deep.RegionWith
import Derived.OwnWalk
import Derived.Lib.Walk
import Derived.Lib.SliceRun
import Derived.Laws.IdiomCopy
import Derived.Lib.AppendZerosOnto
import Derived.Lib.AppendZeros
import Derived.Lib.JoinLaws
import Derived.Lib.Overlaps
import Derived.Laws.NewBlocks
namespace Go.Proofs.YtmgiijdejigdhaaGreat
open Go.RowKit
set_option linter.unusedVariables false
abbrev Pin:=Value × List Value
def zIN (w:World) (S:Nat->Prop) (q:Pin):Prop:=∃ b o,q.1=.pointer (some ⟨b,o,none⟩)/\S b/\∀ (j:Nat) u,q.2[j]? = some u->w.cell? ⟨b,o+j,none⟩=some u
def trP {α : Type} (F : OE α) (x : α) (pins : List Pin) : SP where
  P:=fun A w S u=>(∃ cs,u=F.E.val cs/\F.own A w S x cs)/\∀ q,q ∈ pins->zIN w S q
  lt:=fun ⟨⟨_,_,h⟩,_⟩ hk=>F.lt h hk
  stab:=fun ⟨⟨cs,h1,h2⟩,h3⟩ hb hs=>⟨⟨cs,h1,F.stab h2 hb hs⟩,fun q hq=>let ⟨b,o,h4,h5,h6⟩:=h3 q hq;⟨b,o,h4,h5,fun j u hj=>(World.cell?_of_block (hb b h5)).trans (h6 j u hj)⟩⟩
abbrev trR {α:Type} (K:Nat->Prop) (F:OE α) (x:α) (pins:List Pin):Res:=.gen K (trP F x pins)
abbrev geB (B:Nat):Nat->Prop:=fun k=>B<=k
def padd : Value -> Nat -> Value
  | .pointer (some a),k=>.pointer (some ⟨a.block,a.off+k,none⟩)
  | v,_=>v
theorem zCZ (u:Value) (m k:Nat):padd (padd u m) k=padd u (m+k):=by
  cases u with
  | pointer a=>
    cases a with
    | none=>rfl
    | some a=>simp [padd,Nat.add_assoc]
  | _=>rfl
theorem zKB {u:Value} (h:∃ b o,u=.pointer (some ⟨b,o,none⟩)):padd u 0=u:=by
  obtain ⟨b,o,rfl⟩:=h
  rfl
theorem zMJ {α:Type} {E:Enc α} {A:Av} {w:World} {x:α} {cs:List Value} (h:E.rep A w x cs):(E.val cs).cells.toList=cs:=by
  have hl:=E.len h
  cases ha:E.agg with
  | true=>simp [Enc.val,ha,Value.cells]
  | false=>
    have h1:=E.one ha
    rw [h1] at hl
    match cs,hl,h with
    | [c],_,h=>
      have h2:=E.oc h c (by simp)
      have:(Enc.val E [c]).cells = #[c]:=by
        simp only [Enc.val,ha]
        cases c <;> first | rfl | cases h2
      rw [this]
section
variable {α β γ:Type} {F:OE α} {G:OE β} {A A0:Av} {w:World} {S:Nat->Prop}
theorem OE.rep0 (F:OE α) {x:α} {cs:List Value} (h:F.own A w S x cs):F.E.rep av0 w x cs:=F.rep h (fun _ _ h=>h.elim) fun _ _ _ h=>h
theorem OE.cells (F:OE α) {x:α} {cs:List Value} (h:F.own A w S x cs):(F.E.val cs).cells.toList=cs:=zMJ (F.rep0 h)
theorem zAp {x:α} {pins:List Pin} {u:Value} (h:(trP F x pins).P A w S u):zFa F A w S u x (fun z A w S=>(trP F z []).P A w S u):=by
  obtain ⟨⟨cs,rfl,h1⟩,_⟩:=h
  have:=VHole.root h1
  exact ⟨S,cs,rfl,this.own,this.sub,fun A' w' S1' y' k1 k2 k3 k4=>⟨⟨cs,rfl,this.put A' w' S1' y' k1 k2 k3 k4⟩,fun q hq=>by cases hq⟩⟩
theorem zFa.elem [Inhabited α] {T:TypeId} {v:Value} {xs:List α} {Q:List α->Pw} (h:zFa (oSl T F) A w S v xs Q) {i:Int} {m:Nat} (hi:inR i xs.length=true) (hm:i.toNat*F.E.size=m):zEY F A w S (vptr v m) (gtD xs i) (fun z=>Q (xs.set i.toNat z)):=by
  obtain ⟨S1,cs,rfl,h⟩:=h
  obtain ⟨g,n,c,S2,ds,rfl,h2⟩:=h.elem (zJb hi)
  exact ⟨g,m,S2,ds,by show Value.pointer _=_;rw [Nat.zero_add],hm ▸ h2⟩
theorem zFa.len {T:TypeId} {v:Value} {xs:List α} {Q:List α->Pw} (h:zFa (oSl T F) A w S v xs Q):∃ a c,v=.slice a xs.length c/\(0<xs.length->∃ b,a=some ⟨b,0,none⟩):=by
  obtain ⟨S1,cs,rfl,h⟩:=h
  rcases h.own with ⟨rfl,rfl,_⟩ | ⟨g,c,arr,Si,rfl,_⟩
  . exact ⟨none,0,rfl,fun h=>absurd h (by simp)⟩
  . exact ⟨_,c,rfl,fun _=>⟨g,rfl⟩⟩
theorem zEY.fst {a:Value} {y:α × β} {Q:α × β->Pw} (h:zEY (oPr F G) A w S a y Q):zEY F A w S a y.1 (fun z=>Q (z,y.2)):=by
  obtain ⟨b,off,S1,cs,rfl,h⟩:=h
  obtain ⟨Sa,ca,h⟩:=h.fst
  exact ⟨b,off,Sa,ca,rfl,h⟩
theorem zEY.snd {a a':Value} {y:α × β} {Q:α × β->Pw} (h:zEY (oPr F G) A w S a y Q) (ha:padd a F.E.size=a'):zEY G A w S a' y.2 (fun z=>Q (y.1,z)):=by
  obtain ⟨b,off,S1,cs,rfl,h⟩:=h
  obtain ⟨Sa,ca,h⟩:=h.snd
  exact ⟨b,off+F.E.size,Sa,ca,ha.symm,h⟩
theorem zEY.ad {a:Value} {y:α} {Q:α->Pw} (h:zEY F A w S a y Q):∃ b off,a=.pointer (some ⟨b,off,none⟩):=let ⟨b,off,_,_,e,_⟩:=h;⟨b,off,e⟩
theorem zEY.open {a:Value} {y:α} {Q:α->Pw} (h:zEY F A w S a y Q):∃ cs,cs.length=F.E.size/\zIN w S (a,cs):=by
  obtain ⟨b,off,S1,cs,rfl,h⟩:=h
  exact ⟨cs,F.len h.own,b,off,rfl,h.inb,h.at'⟩
theorem zEY.open1 {a:Value} {y:α} {Q:α->Pw} (h:zEY F A w S a y Q) (ha:F.E.agg=false):∃ v,zIN w S (a,[v]):=by
  obtain ⟨cs,hl,hp⟩:=h.open
  rw [F.E.one ha] at hl
  match cs,hl,hp with
  | [c],_,hp=>exact ⟨c,hp⟩
theorem zEY.pinS {a:Value} {y:α} {Q:α->Pw} {S':Nat->Prop} {ds:List Value} (h:zEY F A w S a y Q) (hp:zIN w S' (a,ds)) (hl:ds.length=F.E.size):zFa F A w S (F.E.val ds) y Q:=by
  obtain ⟨b,off,S1,cs,rfl,h⟩:=h
  obtain ⟨b',o',e,_,hc⟩:=hp
  injection e with e
  injection e with e
  injection e with e1 e2
  subst e1 e2
  have hl':=F.len h.own
  have:ds=cs:=by
    apply List.ext_getElem?
    intro j
    by_cases hj:j<ds.length
    . have h1 := hc j _ (List.getElem?_eq_getElem hj)
      have hj':j<cs.length:=by omega
      have h2:=h.at' j _ (List.getElem?_eq_getElem hj')
      rw [List.getElem?_eq_getElem hj,List.getElem?_eq_getElem hj']
      exact h1.symm.trans h2
    . rw [List.getElem?_eq_none (by omega),List.getElem?_eq_none (by omega)]
  subst this
  exact ⟨S1,ds,rfl,h.v⟩
theorem zEY.pin {a v:Value} {y:α} {Q:α->Pw} {S':Nat->Prop} (h:zEY F A w S a y Q) (hp:zIN w S' (a,[v])) (ha:F.E.agg=false):zFa F A w S v y Q:=by
  have:=h.pinS hp (by rw [F.E.one ha];rfl)
  simpa [Enc.val,ha] using this
theorem zFa.ptr {T:TypeId} {u:Value} {y:α} {Q:α->Pw} (h:zFa (oPt T F) A w S u y Q):zEY F A w S u y Q:=by
  obtain ⟨S1,cs,rfl,h⟩:=h
  obtain ⟨b,S2,ds,rfl,h2⟩:=h.ptr
  exact ⟨b,0,S2,ds,rfl,h2⟩
theorem zFa.own {v:Value} {y:α} {Q:α->Pw} (h:zFa F A w S v y Q):∃ S1 cs,v=F.E.val cs/\F.own A w S1 y cs/\(∀ k,S1 k->S k):=let ⟨S1,cs,e,h⟩:=h;⟨S1,cs,e,h.own,h.sub⟩
theorem IniOK.repin {ini:List Ob} (h:IniOK ini A w) (i:Nat) {u:Value} {K:Nat->Prop} {p p':SP} (hi:ini[i]? = some ⟨u,S,.gen K p⟩) (hp:p.P A w S u->p'.P A w S u):IniOK (ini.set i ⟨u,S,.gen K p'⟩) A w:=by
  have hlt:=(List.getElem?_eq_some_iff.1 hi).1
  have hset:∀ (j:Nat) q,(ini.set i ⟨u,S,.gen K p'⟩)[j]? = some q->(j=i/\q=⟨u,S,.gen K p'⟩)\/(j ≠ i/\ini[j]? = some q):=fun j q hq=>by
    by_cases e:j=i
    . subst e
      rw [List.getElem?_set_self hlt] at hq
      injection hq with hq
      exact .inl ⟨rfl,hq.symm⟩
    . rw [List.getElem?_set_ne (Ne.symm e)] at hq
      exact .inr ⟨e,hq⟩
  refine ⟨fun j q hq=>?_,fun j q hq=>?_,fun j j' q q' hq hq' hne=>?_⟩
  . rcases hset j q hq with ⟨rfl, rfl⟩ | ⟨_, hq⟩
    . exact ⟨trivial,(h.ok j _ hi).2⟩
    . exact h.ok j q hq
  . rcases hset j q hq with ⟨rfl, rfl⟩ | ⟨_, hq⟩
    . have := h.own j _ hi
      exact ⟨this.1,hp this.2⟩
    . exact h.own j q hq
  . have key:∀ (j:Nat) q,(ini.set i ⟨u,S,.gen K p'⟩)[j]? = some q->∃ q0,ini[j]? = some q0/\q0.S=q.S:=fun j q hq=>by
      rcases hset j q hq with ⟨rfl,rfl⟩ | ⟨_,hq⟩
      . exact ⟨_,hi,rfl⟩
      . exact ⟨q,hq,rfl⟩
    obtain ⟨q0,h1,h2⟩:=key j q hq
    obtain ⟨q1,h3,h4⟩:=key j' q' hq'
    rw [<- h2,<- h4]
    exact h.dis j j' q0 q1 h1 h3 hne
theorem trP.pin {x:α} {pins:List Pin} {u:Value} {q:Pin} (hq:zIN w S q) (h:(trP F x pins).P A w S u):(trP F x (q::pins)).P A w S u:=
  ⟨h.1,fun q' hq'=>by
    rcases List.mem_cons.1 hq' with rfl | hq'
    . exact hq
    . exact h.2 q' hq'⟩
theorem trP.nopin {x:α} {pins:List Pin} {u:Value} (h:(trP F x pins).P A w S u):(trP F x []).P A w S u:=⟨h.1,fun q hq=>by cases hq⟩
theorem zHo {E:Enc α} {B:Nat} {T:TypeId} {u:Value} {xs:List α} (h:Vec E A B T w u xs) (hT:T ≠ zKO):∃ cs,u=(oSl T (oRd E)).E.val cs/\(oSl T (oRd E)).own A w (zAE u) xs cs:=by
  obtain ⟨cs,hown,hf⟩:=h
  rcases hown.2 with ⟨rfl,h0⟩ | ⟨g,c,arr,rfl,hb,hg,hnc,hcm,hcs,htk⟩
  . obtain rfl : xs = [] := List.eq_nil_of_length_eq_zero h0
    exact ⟨[.slice none 0 0],rfl,.inl ⟨rfl,rfl,fun k hk=>hk⟩⟩
  . refine ⟨[.slice (some ⟨g, 0, none⟩) xs.length c], rfl, .inr ⟨g, c, arr, fun _ _ => False, rfl, hg.plain hT, hnc, hcm, hcs, ⟨fun i x hx => ?_, fun _ _ _ _ _ _ h => h.elim, fun _ _ h => h, fun k => ⟨fun hk => .inl (Eq.symm hk), fun hk => hk.elim (fun e => Eq.symm e) fun ⟨_, _, h⟩ => h.elim⟩⟩⟩⟩
    obtain ⟨ds,h1,h2⟩:=hf.2 i x hx
    refine ⟨ds,⟨fun _ h=>h,h1⟩,fun j u hj=>?_⟩
    have:=h2 j u hj
    rw [<- htk,List.getElem?_take] at this
    show arr[i*E.size+j]? = some u
    split at this
    . simpa using this
    . cases this
theorem zLz {E:Enc α} {B:Nat} {T:TypeId} {v:Value} {xs:List α} {cs:List Value} (h:(oSl T (oRd E)).own A w S xs cs) (hv:v=(oSl T (oRd E)).E.val cs) (hB:∀ k,S k->B<=k):Vec E A B T w v xs/\S=zAE v:=by
  subst hv
  rcases h with ⟨rfl,rfl,h⟩ | ⟨g,c,arr,Si,rfl,h1,h2,h3,h4,h5⟩
  . refine ⟨zKp, ?_⟩
    funext k
    rw [eq_iff_iff]
    exact ⟨fun hk=>(h k hk).elim,fun hk=>hk.elim⟩
  . have hsi:∀ i k,i<xs.length->¬ Si i k:=fun i k hi hk=>by
      obtain ⟨ds,h6,_⟩:=h5.el i _ (List.getElem?_eq_getElem hi)
      exact h6.1 k hk
    refine ⟨⟨arr.toList.take (xs.length*E.size),⟨?_,.inr ⟨g,c,arr,rfl,hB g ((h5.set g).2 (.inl rfl)),BlkM.of h1,h2,h3,h4,rfl⟩⟩,?_,fun i x hx=>?_⟩,?_⟩
    . have := Nat.mul_le_mul_right E.size h2
      have h4':arr.toList.length=c*E.size:=by rw [Array.length_toList];exact h4
      rw [List.length_take,h4']
      exact Nat.min_eq_left this
    . have := Nat.mul_le_mul_right E.size h2
      have h4':arr.toList.length=c*E.size:=by rw [Array.length_toList];exact h4
      rw [List.length_take,h4']
      exact Nat.min_eq_left this
    . obtain ⟨ds, h6, h7⟩ := h5.el i x hx
      refine ⟨ds,h6.2,fun j u hj=>?_⟩
      have hi:=(List.getElem?_eq_some_iff.1 hx).1
      have hj':=(List.getElem?_eq_some_iff.1 hj).1
      rw [E.len h6.2] at hj'
      have:=Nat.mul_le_mul_right E.size (show i+1<=xs.length by omega)
      rw [Nat.add_mul,Nat.one_mul] at this
      rw [List.getElem?_take,if_pos (by omega),Array.getElem?_toList]
      exact h7 j u hj
    . funext k
      rw [eq_iff_iff]
      refine ⟨fun hk=>?_,fun hk=>(h5.set k).2 (.inl (Eq.symm hk))⟩
      rcases (h5.set k).1 hk with rfl | ⟨i,hi,hk⟩
      . exact rfl
      . exact (hsi i k hi hk).elim
theorem zNB {x:α} {pins:List Pin} {u:Value} (h:(trP F x pins).P A w S u) (hA:∀ b o,A0 b o->A b o) (hn:∀ k o,S k->¬ A0 k o):Rep F.E A0 w u x:=
  let ⟨⟨cs,e,h1⟩,_⟩:=h;⟨cs,e,F.rep h1 hA hn⟩
end
section
variable {P:Program} {R:Reg} {w:World} {d:Option Nat} {t:TypeId} {p:String} {af:Array Edge} {g:Option (Nat × Bool)} {A:Av} {α β:Type} {S:Nat->Prop}
variable {E:Enc α} {F:OE α} {x ix:Operand} {T e:TypeId} {K:Nat->Prop} {u a v:Value}
theorem zDY {w':World} {S'':Nat->Prop} (hav:∀ k,S k->∀ o,A k o) (hc:Ch S w w') (hS:∀ k,k<w.heap.size->S'' k->S k):Stp A (zH9 A S S'') w w':=
  ⟨hc.size,fun b o v hv hn=>(World.cell?_of_block (w:=w) (hc.block b (zEV hv) fun h=>hn (hav b h o))).trans hv,fun b o hb h=>h.elim (·.1) fun h=>hav b (hS b hb h) o⟩
theorem zN6 {xs:List α} {Q:List α->Pw} {A':Av} {w0:World} {T':TypeId} (h:zFa (oSl T' F) A' w0 S v xs Q) (hx:zAL R x=v) (hu:P.underlying T=some (.slice e)):OpF P ⟨d,.call ⟨.builtin .len,#[x],#[T]⟩,t,p,af,g⟩ R w (.raw (.int .i64 (xs.length:Int))):=by
  obtain ⟨ad,cap,rfl,_⟩:=h.len
  exact zAS (w':=w) (by simp [execOp,resolve,invoke,builtin,Builtin.len_,hx,underlying,hu,goInt]) ⟨rfl,Fr.refl _⟩
theorem zIs {k : IntKind} {i : Int} {xs : List α} {Q : List α -> Pw} {A' : Av} {w0 : World} {T' : TypeId} {s m : Nat} (h : zFa (oSl T' F) A' w0 S v xs Q) (hx : zAL R x = v) (hi : zAL R ix=.int k i) (hu : P.underlying T = some (.slice e)) (hsz : ∀ w, (sizeOf e).run P w=.ok s w) (hr : inR i xs.length = true) (hm : i.toNat * s = m) :
    OpF P ⟨d,.indexAddr T x ix,t,p,af,g⟩ R w (.raw (vptr v m)):=by
  subst hm
  obtain ⟨ad,cap,rfl,hb⟩:=h.len
  obtain ⟨i0,i1⟩:=zDx.1 hr
  obtain ⟨b,rfl⟩:=hb (by omega)
  refine zAS (v:=.pointer (some ⟨b,0+i.toNat*s,none⟩)) (w':=w) ?_ ⟨rfl,Fr.refl _⟩
  have hin:i<(xs.length:Int):=i1
  simp [execOp,Instr.indexAt,hx,hi,asIntOf,underlying,hu,i0,hin,hsz,zD1]
theorem zAx {sn kn ft off sz : Nat} {a' : Value} (h : ∃ b off, a=.pointer (some ⟨b, off, none⟩)) (hx : zAL R x = a) (hf : FldF P sn kn ft off) (hsz : ∀ w, (sizeOf ft).run P w=.ok sz w) (h0 : sz ≠ 0) (ha : padd a off = a') :
    OpF P ⟨d,.fieldAddr sn x kn,t,p,af,g⟩ R w (.raw a'):=by
  obtain ⟨b,o,rfl⟩:=h
  subst ha
  exact zAS (v:=.pointer (some ⟨b,o+off,none⟩)) (w':=w) (by simp [execOp,zFk (w:=w) hf hsz h0 hx]) ⟨rfl,Fr.refl _⟩
theorem zGf {y:α} {Q:α->Pw} (h:zEY (oRd E) A w S a y Q) (hx:zAL R x=a) (hag:∀ w,(isAgg T).run P w=.ok E.agg w) (hsz:∀ w,(sizeOf T).run P w=.ok E.size w):OpF P ⟨d,.load T x,t,p,af,g⟩ R w (.rep E A y):=by
  obtain ⟨b,off,S1,cs,rfl,h⟩:=h
  obtain ⟨arr,T',hb,_⟩:=h.blk
  exact zAT ⟨b,off,hx,hb.lt,cs,h.own.2,h.at'⟩ hag hsz
theorem zEn (hp:zIN w S (a,[v])) (hx:zAL R x=a) (hag:∀ w,(isAgg T).run P w=.ok false w) (hsz:∀ w,(sizeOf T).run P w=.ok 1 w):OpF P ⟨d,.load T x,t,p,af,g⟩ R w (.raw v):=by
  obtain ⟨b,o,rfl,_,hc⟩:=hp
  refine zAS (v:=v) (w':=w) ?_ ⟨rfl,Fr.refl _⟩
  have:=zEC (P:=P) (w:=w) (b:=b) (o:=o) (cs:=[v]) hag hsz rfl (fun _=>rfl) hc
  simp [execOp,Instr.loadAt,Instr.sureAddr,hx,this]
theorem zKF {ad : Operand} {T' : TypeId} {y y' : α} {Q : α -> Pw} {Sv ST : Nat -> Prop} {cs : List Value} {q : SP} (h : zEY F A w S a y Q) (hv : F.own A w Sv y' cs) (hxv : zAL R x = F.E.val cs) (had : zAL R ad = a) (hd : ∀ k, S k -> ¬ Sv k) (hST : ∀ k, ST k ↔ S k \/ Sv k) (hav : ∀ k, ST k -> ∀ o, A k o)
    (hB:∀ k,ST k->K k) (hsz:∀ w,(sizeOf T').run P w=.ok F.E.size w) (hQ:∀ A w S,Q y' A w S->q.P A w S u):OpR P ⟨none,.store T' ad x,t,p,af,g⟩ R w (zF1 A false u ST (.gen K q) (fun _=>.any) w):=by
  obtain ⟨b,off,S1,es,rfl,h⟩:=h
  obtain ⟨arr,T0,hb,hle⟩:=h.blk
  have hcs:=F.len hv
  have hcl:=F.cells hv
  have hvb:¬ Sv b:=hd b h.inb
  obtain ⟨w',h1,h2,h3⟩:=zEw (P:=P) (o:=off) (v:=zAL R x) hsz (by rw [hxv,hcl];exact F.oc hv) (by rw [hxv,<- Array.length_toList,hcl];exact hcs) hb hle
  rw [hxv,hcl] at h3
  refine zGa (w':=w') ?_ ?_
  . simp only [execOp, Instr.storeAt, Instr.sureAddr, had]
    simp [h1]
  . have hch : Ch ST w w' := (h2.ch).trans (Ch.refl (fun _ => False) w') (fun _ _ h => h.elim) |> fun h => ⟨h.os, h.tape, h.output, h.size, fun k hk hn => h.block k hk fun e => hn ((hST k).2 (.inl (e ▸ ‹Hole F A w S b off y S1 es Q›.inb))), h.drawn⟩
    have hsub:∀ k,k<w.heap.size->((S k/\¬ S1 k)\/Sv k)->ST k:=fun k _ hk=>(hST k).2 (hk.elim (fun h=>.inl h.1) .inr)
    have hst:=zDY hav hch hsub
    have hne:∀ k,Sv k->k ≠ b:=fun k hk e=>hvb (e ▸ hk)
    have hv':F.own (zH9 A ST fun k=>(S k/\¬ S1 k)\/Sv k) w' Sv y' cs:=F.stab hv (fun k hk=>h2.block k (hne k hk)) hst
    have hq:=h.put _ w' Sv y' cs hv' (fun j u hj=>?_) ⟨arr,_,T0,hb,h3,zF4 _ _ _,fun j hj=>?_⟩ (fun k _ _ hk=>h2.block k hk) hst (fun k a b=>(hd k b a).elim)
    . refine ⟨u,fun k=>(S k/\¬ S1 k)\/Sv k,rfl,hch,hsub,hst,trivial,⟨fun k hk=>hB k ((hST k).2 (hk.elim (fun h=>.inl h.1) .inr)),hQ _ _ _ hq⟩,trivial⟩
    . have hjl := (List.getElem?_eq_some_iff.1 hj).1
      rw [h3.cell,zGx _ _ _ _ (by omega),if_pos (by omega),Nat.add_sub_cancel_left]
      exact hj
    . rw [zGx _ _ _ _ (by omega),if_neg (by omega)]
theorem zKo {ad : Operand} {T' : TypeId} {y y' : α} {Q : α -> Pw} {q : SP} (h : zEY (oRd E) A w S a y Q) (hx : Rep E A w (zAL R x) y') (had : zAL R ad = a) (hav : ∀ k, S k -> ∀ o, A k o) (hB : ∀ k, S k -> K k) (hsz : ∀ w, (sizeOf T').run P w=.ok E.size w) (hQ : ∀ A w S, Q y' A w S -> q.P A w S u) :
    OpR P ⟨none,.store T' ad x,t,p,af,g⟩ R w (zF1 A false u S (.gen K q) (fun _=>.any) w):=by
  obtain ⟨cs,hxv,hr⟩:=hx
  exact zKF (F:=oRd E) (Sv:=fun _=>False) (cs:=cs) h ⟨fun _ h=>h,hr⟩ hxv had (fun _ _ h=>h) (fun k=>⟨.inl,fun h=>h.elim id False.elim⟩) hav hB hsz hQ
theorem zCg {zc:Value} {z:α} (hz:∀ w,(zeroValue T).run P w=.ok zc w) (hr:∀ A w,F.own A w (fun _=>False) z zc.cells.toList) (hB:∀ k,w.heap.size<=k->K k):OpR P ⟨d,.alloc T,t,p,af,g⟩ R w (zGB A (trR K (oPt T F) z []) (fun _=>.any) w):=by
  have hf:=Fr.alloc w (.cells zc.cells T)
  refine zAS (v:=.pointer (some ⟨w.heap.size,0,none⟩)) (w':=w.alloc (.cells zc.cells T)) ?_ ⟨fun k=>k=w.heap.size,hf,fun k hk=>Nat.le_of_eq (Eq.symm hk),trivial,⟨fun k hk=>hB k (Nat.le_of_eq (Eq.symm hk)),⟨[.pointer (some ⟨w.heap.size,0,none⟩)],rfl,w.heap.size,zc.cells.toList,fun _=>False,rfl,?_,hr _ _,fun h=>h,fun k=>⟨.inl,fun h=>h.elim id False.elim⟩⟩,fun q hq=>by cases hq⟩,trivial⟩
  . simp [execOp,Instr.alloc,newVar,newRow,hz]
  . have := Blk.new w T zc.cells
    simpa using this
theorem zDa {y : α} {pins : List Pin} {T' : TypeId} (h : (trP (oPt T' F) y pins).P A w S u) (hx : zAL R x = u) (hav : ∀ k, S k -> ∀ o, A k o) (hB : ∀ k, S k -> K k) (hag : ∀ w, (isAgg T).run P w=.ok F.E.agg w) (hsz : ∀ w, (sizeOf T).run P w=.ok F.E.size w) :
    OpR P ⟨d,.load T x,t,p,af,g⟩ R w (zF1 A true u S (trR K F y []) (fun _=>.any) w):=by
  obtain ⟨⟨cs,rfl,b,ds,S1,rfl,h1,h2,h3,h4⟩,_⟩:=h
  have hsub:∀ k,S1 k->S k:=fun k hk=>(h4 k).2 (.inr hk)
  have hst:=zDY (S'':=S1) hav (Ch.refl S w) fun k _ h=>hsub k h
  refine zAS (v:=F.E.val ds) (w':=w) ?_ ⟨F.E.val ds,S1,rfl,Ch.refl S w,fun k _ h=>hsub k h,hst,trivial,⟨fun k hk=>hB k (hsub k hk),⟨ds,rfl,F.stab h2 (fun _ _=>rfl) hst⟩,fun q hq=>by cases hq⟩,trivial⟩
  have:=zEC (P:=P) (w:=w) (b:=b) (o:=0) hag hsz (F.len h2) F.E.one (fun j v hj=>by rw [h1.cell,Nat.zero_add];simpa using hj)
  have hx':zAL R x=.pointer (some ⟨b,0,none⟩):=hx
  simp [execOp,Instr.loadAt,Instr.sureAddr,hx',this,Enc.val]
theorem zB7 {fn:FuncId} {al:List Operand} {aT:Array TypeId} {K:Value->World->Prop} (hc:∀ args w,(callFunc fn args).run P w=.ok (.enter fn args) w) (h:Calls P fn (al.map (zAL R)).toArray w fun ed w'=>∃ v,ed=.returned v/\K v w'):OpR P ⟨d,.call ⟨.value (.func fn),al.toArray,aT⟩,t,p,af,g⟩ R w K:=by
  unfold OpR
  have:(execOp (zAL R) ⟨d,.call ⟨.value (.func fn),al.toArray,aT⟩,t,p,af,g⟩).run P w=.ok (.enter fn (al.map (zAL R)).toArray) w:=by
    simp [execOp,resolve,zAL,Deferred.ofValue,invoke,hc]
  rw [this]
  exact h
theorem zGB.base {K':Nat->Prop} {q:SP} {f:Av->Fact} {v:Value} {w':World} (h:zGB A (.gen K' q) f w v w') (hK:∀ k,K' k->K k):zGB A (.gen K q) f w v w':=
  let ⟨S,h1,h2,h3,h4,h5⟩:=h;⟨S,h1,h2,trivial,⟨fun k hk=>hK k (h4.1 k hk),h4.2⟩,h5⟩
theorem zHe {fn : FuncId} {al : List Operand} {aT : Array TypeId} {q : SP} {f : Av -> Fact} (hc : ∀ args w, (callFunc fn args).run P w=.ok (.enter fn args) w)
    (h:Calls P fn (al.map (zAL R)).toArray w fun ed w'=>∃ v,ed=.returned v/\zGB A (.gen (geB w.heap.size) q) f w v w') (hB:∀ k,w.heap.size<=k->K k):OpR P ⟨d,.call ⟨.value (.func fn),al.toArray,aT⟩,t,p,af,g⟩ R w (zGB A (.gen K q) f w):=
  zB7 hc (Calls.mono h fun ed w' ⟨v,he,h⟩=>⟨v,he,h.base hB⟩)
end
section
variable {P:Program} {R:Reg} {w:World} {d:Option Nat} {t:TypeId} {p:String} {af:Array Edge} {g:Option (Nat × Bool)} {A A0:Av} {α β:Type} {S S0:Nat->Prop}
variable {E:Enc α} {F:OE α} {x ix:Operand} {T e:TypeId} {K:Nat->Prop} {u a v:Value}
theorem zIc {B:Nat} {xs:List α} (h:(Res.vec B T E xs).ok A u w) (hS:(Res.vec B T E xs).own A u S w) (hT:T ≠ zKO:=by decide):∃ cs,u=(oSl T (oRd E)).E.val cs/\(oSl T (oRd E)).own A w S xs cs:=by
  obtain rfl:S=zAE u:=hS
  exact zHo h hT
theorem zNn {B:Nat} {xs:List α} (h:(Res.vec B T E xs).ok A u w) (hS:(Res.vec B T E xs).own A u S w):∀ k,S k->B<=k:=fun k hk=>by
  obtain rfl:S=zAE u:=hS
  exact Res.geB h rfl hk
theorem zCK {ad : Operand} {T' : TypeId} {y y' : α} {Q : α -> Pw} {q : SP} {ρ : Nat -> Value} {σ : Nat -> Nat -> Prop} {c1 c2 : Nat} (hne : Nat.beq c1 c2 = false) (h : zEY F A w (σ c1) a y Q) (hv : ∃ cs, ρ c2 = F.E.val cs /\ F.own A w (σ c2) y' cs) (hx : zAL R x = ρ c2) (had : zAL R ad = a)
    (hav:∀ d,d ∈ [c1,c2]->∀ k,σ d k->∀ o,A k o) (hdd:∀ d d',d ∈ [c1,c2]->d' ∈ [c1,c2]->d ≠ d'->∀ k,σ d k->¬ σ d' k) (hB1:∀ k,σ c1 k->K k) (hB2:∀ k,σ c2 k->K k) (hsz:∀ w,(sizeOf T').run P w=.ok F.E.size w) (hQ:∀ A w S,Q y' A w S->q.P A w S u) :
    OpR P ⟨none,.store T' ad x,t,p,af,g⟩ R w (zF1 A false u (fun k=>∃ d,d ∈ [c1,c2]/\σ d k) (.gen K q) (fun _=>.any) w):=by
  obtain ⟨cs,e,hv⟩:=hv
  have hm1:c1 ∈ [c1,c2]:=.head _
  have hm2:c2 ∈ [c1,c2]:=.tail _ (.head _)
  have hne':c1 ≠ c2:=fun h=>by subst h;simp at hne
  have hST:∀ k,(∃ d,d ∈ [c1,c2]/\σ d k) ↔ σ c1 k\/σ c2 k:=fun k=>by
    constructor
    . rintro ⟨d, hd, hk⟩
      rcases List.mem_cons.1 hd with hd | hd
      . exact .inl (hd ▸ hk)
      . exact .inr (List.mem_singleton.1 hd ▸ hk)
    . exact fun h=>h.elim (fun h=>⟨c1,hm1,h⟩) fun h=>⟨c2,hm2,h⟩
  exact zKF h hv (hx.trans e) had (hdd c1 c2 hm1 hm2 hne') hST (fun k ⟨d,hd,h⟩=>hav d hd k h) (fun k hk=>((hST k).1 hk).elim (hB1 k) (hB2 k)) hsz hQ
theorem AvOK.subS (hA:AvOK A w) (S:Nat->Prop):AvOK (fun b o=>A b o/\¬ S b) w:=fun b o h=>hA b o h.1
theorem zJ1 {w0 : World} {x : α} {pins : List Pin} {f : Av -> Fact} {B r : Nat} {T' : TypeId} (hB : B = w0.heap.size) (hown : (trR (geB B) (oPt T' F) x pins).own A u S w) (hav : ∀ k, S k -> ∀ o, A k o) (hAA : ∀ b o, A0 b o -> A b o) (hF : Fr w0 w) (hR : R r = u) (hag : ∀ w, (isAgg T).run P w=.ok F.E.agg w) (hsz : ∀ w, (sizeOf T).run P w=.ok F.E.size w) (hf : ∀ A v, (f A).ok v w) :
    ∃ v,zKK P R w (.cell r T) v/\zGB A0 (trR (geB w0.heap.size) F x []) f w0 v w:=by
  subst hB
  obtain ⟨hK,⟨cs,e,b,ds,S1,rfl,h1,h2,h3,h4⟩,_⟩:=hown
  have hu:u=.pointer (some ⟨b,0,none⟩):=e
  have hsub:∀ k,S1 k->S k:=fun k hk=>(h4 k).2 (.inr hk)
  refine ⟨F.E.val ds,⟨⟨b,0,none⟩,by rw [hR,hu],?_⟩,S1,hF,fun k hk=>hK k (hsub k hk),trivial,⟨fun k hk=>hK k (hsub k hk),⟨ds,rfl,F.stab h2 (fun _ _=>rfl) (zDV fun b o h=>h.elim (hAA b o) fun h=>hav b (hsub b h) o)⟩,fun q hq=>by cases hq⟩,hf _ _⟩
  have:=zEC (P:=P) (w:=w) (b:=b) (o:=0) hag hsz (F.len h2) F.E.one (fun j v hj=>by rw [h1.cell,Nat.zero_add];simpa using hj)
  simpa [Enc.val] using this
theorem zDN {A:Av} {w:World}:(oSl T F).own A w (fun _=>False) [] [.slice none 0 0]:=.inl ⟨rfl,rfl,fun _ h=>h⟩
theorem zCy {y:α} {cs:List Value} (h:E.rep A w y cs):(oRd E).own A w (fun _=>False) y cs:=⟨fun _ h=>h,h⟩
theorem zD2 {G:OE β} {y:α} {z:β} {c ds:List Value} (h:F.own A w (fun _=>False) y c) (k:G.own A w (fun _=>False) z ds):(oPr F G).own A w (fun _=>False) (y,z) (c++ds):=⟨c,ds,_,_,rfl,h,k,fun _=>⟨fun h=>h.elim,fun h=>h.elim id id⟩,fun _ h=>h.elim⟩
end
abbrev zA3:=(List UInt8) × Int
abbrev zA0:Enc zA3:=ePr eStr (eInt .i64)
theorem zCE:Fld zA0 0 eStr (fun x:zA3=>x.1):=Fld.fst
theorem zHt:FldF Tryz.prog 83 0 9 0:=⟨_,_,Tryz.underlying83,rfl,rfl,rfl⟩
theorem zCi:Fld zA0 1 (eInt .i64) (fun x:zA3=>x.2):=(Fld.snd (Fld.id _))
theorem zGt:FldS zA0 1 (eInt .i64) (fun (x:zA3) y=>(x.1,y)):=(FldS.snd (FldS.id _))
theorem zHh:FldF Tryz.prog 83 1 3 1:=⟨_,_,Tryz.underlying83,rfl,rfl,rfl⟩
abbrev zA4:=Int × (List (List UInt8))
abbrev zA1:Enc zA4:=ePr (eInt .i64) (eSl eStr)
theorem zAU:Fld zA1 0 (eInt .i64) (fun x:zA4=>x.1):=Fld.fst
theorem zDc:FldF Tryz.prog 54 0 3 0:=⟨_,_,Tryz.underlying54,rfl,rfl,rfl⟩
theorem zAg:Fld zA1 1 (eSl eStr) (fun x:zA4=>x.2):=(Fld.snd (Fld.id _))
theorem zEi:FldF Tryz.prog 54 1 28 1:=⟨_,_,Tryz.underlying54,rfl,rfl,rfl⟩
abbrev zA7:=Int × (List zA3) × (List zA4)
abbrev zA2:Enc zA7:=ePr (eInt .i64) (ePr (eSl zA0) (eSl zA1))
theorem zB4:Fld zA2 0 (eInt .i64) (fun x:zA7=>x.1):=Fld.fst
theorem zF0:FldF Tryz.prog 27 0 3 0:=⟨_,_,Tryz.underlying27,rfl,rfl,rfl⟩
theorem zDI:Fld zA2 1 (eSl zA0) (fun x:zA7=>x.2.1):=(Fld.snd Fld.fst)
theorem zIR:FldF Tryz.prog 27 1 24 1:=⟨_,_,Tryz.underlying27,rfl,rfl,rfl⟩
theorem zAJ:Fld zA2 2 (eSl zA1) (fun x:zA7=>x.2.2):=(Fld.snd (Fld.snd (Fld.id _)))
theorem zAv:FldF Tryz.prog 27 2 25 2:=⟨_,_,Tryz.underlying27,rfl,rfl,rfl⟩
abbrev zAK:=Int × Int
abbrev zAF:Enc zAK:=ePr (eInt .i64) (eInt .i64)
theorem zIC:Fld zAF 0 (eInt .i64) (fun x:zAK=>x.1):=Fld.fst
theorem zOM:FldF Tryz.prog 38 0 3 0:=⟨_,_,Tryz.underlying38,rfl,rfl,rfl⟩
theorem zIA:Fld zAF 1 (eInt .i64) (fun x:zAK=>x.2):=(Fld.snd (Fld.id _))
theorem zOH:FldF Tryz.prog 38 1 3 1:=⟨_,_,Tryz.underlying38,rfl,rfl,rfl⟩
theorem zGN {A:Av} {w:World} {v:Value} {x:zAK} (h:Rep zAF A w v x):v=.agg #[.int .i64 x.1,.int .i64 x.2]:=by
  obtain ⟨cs,rfl,h⟩:=h
  obtain ⟨_,_,rfl,rfl,rfl⟩:=h
  rfl
set_option maxHeartbeats 1000000 in
theorem zOr (x y:zAK) (w:World):(binOp .neq 38 (.agg #[.int .i64 x.1,.int .i64 x.2]) (.agg #[.int .i64 y.1,.int .i64 y.2])).run Tryz.prog w=.ok (.bool (!(x==y))) w:=by
  obtain ⟨p0,p1⟩:=x
  obtain ⟨q0,q1⟩:=y
  rw [show (((p0,p1):zAK)==(q0,q1))=((p0==q0)&&(p1==q1)) from rfl]
  cases h0:(p0==q0) <;> cases h1:(p1==q1) <;> simp [go_sem,h0,h1]
abbrev zAI:=(List Int) × Int × Int
abbrev zA5:Enc zAI:=ePr (eSl (eInt .u8)) (ePr (eInt .i64) (eInt .i64))
theorem zGG:Fld zA5 0 (eSl (eInt .u8)) (fun x:zAI=>x.1):=Fld.fst
theorem zMX:FldF Tryz.prog 69 0 22 0:=⟨_,_,Tryz.underlying69,rfl,rfl,rfl⟩
theorem zFC:Fld zA5 1 (eInt .i64) (fun x:zAI=>x.2.1):=(Fld.snd Fld.fst)
theorem zIL:FldS zA5 1 (eInt .i64) (fun (x:zAI) y=>(x.1,y,x.2.2)):=(FldS.snd FldS.fst)
theorem zJX:FldF Tryz.prog 69 1 3 1:=⟨_,_,Tryz.underlying69,rfl,rfl,rfl⟩
theorem zFD:Fld zA5 2 (eInt .i64) (fun x:zAI=>x.2.2):=(Fld.snd (Fld.snd (Fld.id _)))
theorem zIt:FldS zA5 2 (eInt .i64) (fun (x:zAI) y=>(x.1,x.2.1,y)):=(FldS.snd (FldS.snd (FldS.id _)))
theorem zJr:FldF Tryz.prog 69 2 3 2:=⟨_,_,Tryz.underlying69,rfl,rfl,rfl⟩
theorem el_5:ElF Tryz.prog 5 1:=zKm Tryz.zeroValue5 Tryz.sizeOf5 (by kernel_rfl:(Tryz.prog.info? 5).map (·.bytes)=some 1) rfl (by decide) (by decide)
theorem zNL:ElF Tryz.prog 83 2:=zKm Tryz.zeroValue83 Tryz.sizeOf83 (by kernel_rfl:(Tryz.prog.info? 83).map (·.bytes)=some 24) rfl (by decide) (by decide)
theorem zLr:ElF Tryz.prog 54 2:=zKm Tryz.zeroValue54 Tryz.sizeOf54 (by kernel_rfl:(Tryz.prog.info? 54).map (·.bytes)=some 32) rfl (by decide) (by decide)
theorem el_9:ElF Tryz.prog 9 1:=zKm Tryz.zeroValue9 Tryz.sizeOf9 (by kernel_rfl:(Tryz.prog.info? 9).map (·.bytes)=some 16) rfl (by decide) (by decide)
theorem el_3:ElF Tryz.prog 3 1:=zKm Tryz.zeroValue3 Tryz.sizeOf3 (by kernel_rfl:(Tryz.prog.info? 3).map (·.bytes)=some 8) rfl (by decide) (by decide)
theorem zP4:ElF Tryz.prog 38 2:=zKm Tryz.zeroValue38 Tryz.sizeOf38 (by kernel_rfl:(Tryz.prog.info? 38).map (·.bytes)=some 16) rfl (by decide) (by decide)
theorem zPC:ElF Tryz.prog 28 1:=zKm Tryz.zeroValue28 Tryz.sizeOf28 (by kernel_rfl:(Tryz.prog.info? 28).map (·.bytes)=some 24) rfl (by decide) (by decide)
theorem Obls.p {P : Program} {l : List Ent} {R : Reg} {w : World} {i : Nat} {x : Ent} {r : List Ent}
    (h:∀ R' w',Fr w w'->(∀ t,zHy l i t=true->R' t=R t)->Deps l R' w' x.o.after.toList->OpR P x.o R' w' fun v w''=>x.f.ok v w''/\Fr w' w'')
    (t:Obls P l R w (i+1) r) (hg:x.o.guard=none:=by exact rfl) (hx:x.g=true:=by exact rfl):Obls P l R w i (x::r):=⟨Obl.plain hg hx h,t⟩
theorem zE0.p {P : Program} {ini : List Ob} {l : List EntR} {A : Av} {R : Reg} {w : World} {i : Nat} {x : EntR} {r : List EntR}
    (h:∀ A' R' w',Onto ini l A R w i A' R' w'->zGo l A' R' w' x.o.after.toList->OpR P x.o R' w' fun v w''=>(x.f A').ok v w''/\Fr w' w'')
    (t:zE0 P ini l A R w (i+1) r) (hg:x.o.guard=none:=by exact rfl) (hx:x.g=true:=by exact rfl) (hc:x.con = []:=by exact rfl) (hr:x.res=none:=by exact rfl):zE0 P ini l A R w i (x::r):=
  ⟨OblR.plain hg hx hc hr h,t⟩
def depF (l:List Ent) (es:List Edge) (j:Nat):Option (Nat × Fact):=
  match es[j]? with
  | none=>none
  | some e => bif bnd e then (match l[e.on]? with
    | none=>none
    | some x => match x.o.dst with
      | none=>none
      | some d=>bif x.g then some (d,x.f) else none) else none
theorem Deps.g {l:List Ent} {R:Reg} {w:World} {es:List Edge} (h:Deps l R w es) (j:Nat) {d:Nat} {f:Fact} (e:depF l es j=some (d,f)):f.ok (R d) w:=by
  unfold depF at e
  cases h1:es[j]? with
  | none=>rw [h1] at e;cases e
  | some a=>
    rw [h1] at e
    dsimp only at e
    cases h2:bnd a
    . rw [h2] at e;cases e
    rw [h2,cond_true] at e
    cases h3:l[a.on]? with
    | none=>rw [h3] at e;cases e
    | some x=>
      rw [h3] at e
      dsimp only at e
      cases h4:x.o.dst with
      | none=>rw [h4] at e;cases e
      | some d'=>
        rw [h4] at e
        dsimp only at e
        cases h5:x.g
        . rw [h5] at e;cases e
        rw [h5,cond_true] at e
        obtain ⟨rfl,rfl⟩:=Prod.mk.inj (Option.some.inj e)
        exact h j a x _ h1 h2 h3 h4 h5
def zO8 (l:List EntR) (es:List Edge) (j:Nat):Option (Nat × (Av->Fact)):=
  match es[j]? with
  | none=>none
  | some e => bif bnd e then (match l[e.on]? with
    | none=>none
    | some x => match x.o.dst with
      | none=>none
      | some d=>bif x.g then some (d,x.f) else none) else none
theorem zGo.g {l:List EntR} {A:Av} {R:Reg} {w:World} {es:List Edge} (h:zGo l A R w es) (j:Nat) {d:Nat} {f:Av->Fact} (e:zO8 l es j=some (d,f)):(f A).ok (R d) w:=by
  unfold zO8 at e
  cases h1:es[j]? with
  | none=>rw [h1] at e;cases e
  | some a=>
    rw [h1] at e
    dsimp only at e
    cases h2:bnd a
    . rw [h2] at e;cases e
    rw [h2,cond_true] at e
    cases h3:l[a.on]? with
    | none=>rw [h3] at e;cases e
    | some x=>
      rw [h3] at e
      dsimp only at e
      cases h4:x.o.dst with
      | none=>rw [h4] at e;cases e
      | some d'=>
        rw [h4] at e
        dsimp only at e
        cases h5:x.g
        . rw [h5] at e;cases e
        rw [h5,cond_true] at e
        obtain ⟨rfl,rfl⟩:=Prod.mk.inj (Option.some.inj e)
        exact h j a x _ h1 h2 h3 h4 h5
def SG (P:Program) (n:Nat) (ops:List Oper) (k:Nat) (R:Reg) (w:World) (Q:Exit->Reg->World->Prop):Prop:=
  ∀ a:Act,Pl n a->regs a=R->wpOps P ops.toArray (PQ n Q) (List.range' k (ops.length-k)) a w
section
variable {P:Program} {n:Nat} {ops:List Oper} {k:Nat} {R:Reg} {w:World} {Q:Exit->Reg->World->Prop}
theorem SG.of {id:Nat} (h:SG P n ops 0 R w Q):HT P n (.region id ops.toArray false) R w Q:=fun a hpl hR=>by
  refine wp_region ?_
  have:=h a hpl hR
  rw [Nat.sub_zero] at this
  rw [List.range_eq_range']
  simpa using this
theorem zPa (hk:ops.length=k) (h:Q .normal R w):SG P n ops k R w Q:=fun a hpl hR=>by
  rw [hk,Nat.sub_self]
  simp only [List.range'_zero,wpOps]
  exact ⟨hpl,hR ▸ h⟩
theorem SG.step {o:Oper} (ho:ops[k]? = some o) (hg:o.guard=none) (hd:∀ d,o.dst=some d->d<n) (h:OpR P o R w fun v w'=>SG P n ops (k+1) (updO R o.dst v) w' Q):SG P n ops k R w Q:=fun a hpl hR=>by
  have hk:k<ops.length:=(List.getElem?_eq_some_iff.1 ho).1
  rw [show ops.length-k=(ops.length-(k+1))+1 by omega,List.range'_succ,wpOps_cons]
  rw [<- hR] at h
  refine zHF hg h (fun v w' hs=>?_) k (by simpa using ho)
  refine hs _ ⟨by rw [zEl];exact hpl.1,by rw [zGc];exact hpl.2⟩ ?_
  exact zGd _ _ _ fun d hdd=>Nat.lt_of_lt_of_le (hd d hdd) hpl.2
theorem SG.op {o : Oper} (d : Nat) (ho : ops[k]? = some o) (hg : o.guard = none) (hd : o.dst = some d) (hn : Nat.blt d n = true) {K : Value -> World -> Prop} (h : OpR P o R w K)
    (hk:∀ v w',K v w'->∀ R',(∀ t,Nat.beq t d=false->R' t=R t)->R' d=v->SG P n ops (k+1) R' w' Q):SG P n ops k R w Q:=by
  refine SG.step ho hg (fun d' h'=>?_) (h.mono fun v w' hv=>?_)
  . rw [hd] at h'
    injection h' with h'
    subst h'
    simpa using hn
  . rw [hd]
    refine hk v w' hv _ (fun t ht=>?_) (zHN _ _ _)
    show (bif Nat.beq t d then v else R t)=R t
    rw [ht]
    rfl
def Past (A : Av) (R : Reg) (w : World) : Nat -> List EntR -> Prop
  | 0,_=>True
  | _+1,[]=>True
  | k+1,x::l=>(x.g=true/\x.con = []/\x.res=none/\(match x.o.dst with | some d=>(x.f A).ok (R d) w | none=>True))/\Past A R w k l
theorem Past.at {A : Av} : ∀ (l : List EntR) (k : Nat), Past A R w k l -> ∀ (i : Nat) x, i < k -> l[i]? = some x -> x.g = true /\ x.con = [] /\ x.res = none /\ ∀ d, x.o.dst = some d -> (x.f A).ok (R d) w
  | [],k,_,i,x,_,hx=>by simp at hx
  | y::l,0,_,i,x,hi,_=>by omega
  | y::l,k+1,h,0,x,_,hx=>by
    simp only [List.getElem?_cons_zero,Option.some.injEq] at hx
    subst hx
    obtain ⟨⟨h1,h2,h3,h4⟩,_⟩:=h
    refine ⟨h1,h2,h3,fun d hd=>?_⟩
    rw [hd] at h4
    exact h4
  | y::l,k+1,h,i+1,x,hi,hx=>Past.at l k h.2 i x (by omega) (by simpa using hx)
theorem SG.textR {A : Av} {rest : List Oper} (ini : List Ob) (l : List EntR) (k' : Nat) (hops : ops = l.map (·.o) ++ rest) (hk' : l.length = k') (hkk : Nat.ble k k' = true) (hb : zCW 0 (l.map (·.o)) = true) (hs : zFM n (l.map (·.o)) = true) (hw : Wf ini l) (hi : IniOK ini A w) (hA : AvOK A w)
    (hp:Past A R w k l) (ho:zE0 P ini l A R w k (l.drop k)) (ha:zKe ini l A R w (fun R w=>SG P n ops k' R w Q)):SG P n ops k R w Q:=fun a hpl hR=>by
  have hkk:k<=k':=Nat.le_of_ble_eq_true hkk
  have hlen:ops.length=k'+rest.length:=by rw [hops,List.length_append,List.length_map,hk']
  have hopl:∀ (i:Nat) x,l[i]? = some x->ops.toArray[i]? = some x.o:=fun i x hx=>by
    have hlt:=(List.getElem?_eq_some_iff.1 hx).1
    rw [List.getElem?_toArray,hops,List.getElem?_append_left (by rw [List.length_map];exact hlt),List.getElem?_map,hx]
    rfl
  have hmap:∀ (i:Nat) x,l[i]? = some x->(l.map (·.o))[i]? = some x.o:=fun i x hx=>by
    rw [List.getElem?_map,hx]
    rfl
  have hobl:∀ (i:Nat) x,k<=i->l[i]? = some x->OblR P ini l A R w i x:=fun i x hki hx=>by
    have:=zE0.at (l.drop k) k ho (i-k) x (by rw [List.getElem?_drop,show k+(i-k)=i by omega];exact hx)
    rwa [show k+(i-k)=i by omega] at this
  have key : ∀ m j, m + j = l.length -> k <= j -> ∀ (a : Act) (ρ : Nat -> Value) (σ : Nat -> Nat -> Prop) (A' : Av) (w' : World), Pl n a -> InvR ini l A R w (fun i => Nat.blt i j) ρ σ A' (regs a) w' ->
      wpOps P ops.toArray (PQ n Q) (List.range' j (ops.length-j)) a w':=by
    intro m
    induction m with
    | zero=>
      intro j hj hkj a ρ σ A' w' hpl hI
      have:=ha _ ρ σ A' _ _ (fun i hi=>by simpa using (by omega:i<j)) hI a hpl rfl
      rwa [show k'=j by omega] at this
    | succ m ih=>
      intro j hj hkj a ρ σ A' w' hpl hI
      rw [show ops.length-j=(ops.length-(j+1))+1 by omega,List.range'_succ,wpOps_cons]
      have hkl:j<l.length:=by omega
      have hx:l[j]? = some l[j]:=List.getElem?_eq_getElem hkl
      refine zJM (done:=fun i=>Nat.blt i j) hw hopl (fun i x d hx hdd=>zEm hs (hmap i x hx) hdd) hx (hobl j _ hkj hx) (zHD (Nat.le_refl j)) (fun e he hbe=>?_) (fun i y hy hex=>?_) hpl hI (fun a' ρ' σ' A'' w'' hpl' hI'=>ih (j+1) (by omega) (by omega) a' ρ' σ' A'' w'' hpl' ?_)
      . have := zCY _ 0 hb j _ (hmap j _ hx) e he hbe
        show Nat.blt e.on j=true
        simpa using this
      . obtain ⟨e, he, hbe, hon⟩ := hex
        have:=zCY _ 0 hb i _ (hmap i _ hy) e he hbe
        exact zHD (by omega)
      . have:setB (fun i=>Nat.blt i j) j=fun i=>Nat.blt i (j+1):=by
          funext i
          by_cases e:i=j
          . subst e;rw [zDo];simp
          . rw [zDy _ e,Bool.eq_iff_iff];simp;omega
        rw [<- this]
        exact hI'
  refine key (k'-k) k (by omega) (Nat.le_refl k) a (fun id=>((ini[id]?).map (·.u)).getD undef) (fun id=>((ini[id]?).map (·.S)).getD fun _=>False) A w hpl ?_
  have hdn:∀ i,Nat.blt i k=true->i<k:=fun i h=>by simpa using h
  have hlive:∀ id r,zDv ini l id=some r->Live ini l (fun i=>Nat.blt i k) id->id<ini.length:=fun id r hr h=>by
    rcases h.1 with h1 | h1
    . exact h1
    . rcases Nat.lt_or_ge id ini.length with h2 | h2
      . exact h2
      . exfalso
        unfold zDv at hr
        rw [List.getElem?_eq_none h2] at hr
        cases hx:l[id-ini.length]? with
        | none=>rw [hx] at hr;cases hr
        | some x=>
          rw [hx] at hr
          have:=(Past.at l k hp _ x (hdn _ h1) hx).2.2.1
          simp only [Option.bind_some,this] at hr
          cases hr
  have kk:∀ id r,zDv ini l id=some r->Live ini l (fun i=>Nat.blt i k) id->∃ p,ini[id]? = some p/\p.r=r/\((ini[id]?).map (·.u)).getD undef=p.u/\(((ini[id]?).map (·.S)).getD fun _=>False)=p.S:=fun id r hr hl=>by
    obtain ⟨p,hp',hr'⟩:=zFT (l:=l) (hlive id r hr hl)
    rw [hr'] at hr
    injection hr with hr
    exact ⟨p,hp',hr,by rw [hp'];rfl,by rw [hp'];rfl⟩
  rw [<- hR] at hp
  refine ⟨Ch.refl _ _,(Fr.refl w).stp A,hA,hA,fun _ _ h _=>h,fun t _=>by rw [hR],fun i x d hx hd hxd hg=>?_,fun i x d hx hd hxd hg=>?_,fun id r hr hl=>?_,fun id r hr hl q hq o=>?_,fun id id' r r' hr hr' hl hl' hne q hq=>?_,fun id r hr hl q _ hq=>?_,fun id p hp'=>(by rw [hp'];exact ⟨rfl,rfl⟩),fun i x d hx hd hres=>?_,fun i x c hx hd hres=>?_,fun n id r p hd hrt hp'=>?_⟩
  . exact (Past.at l k hp i x (hdn i hd) hx).2.2.2 d hxd
  . have := (Past.at l k hp i x (hdn i hd) hx).1
    rw [this] at hg
    cases hg
  . obtain ⟨p, hp', rfl, he, hs'⟩ := kk id r hr hl
    rw [he,hs']
    exact ⟨(hi.ok id p hp').1,hi.own id p hp'⟩
  . obtain ⟨p, hp', rfl, he, hs'⟩ := kk id r hr hl
    rw [hs'] at hq
    exact (hi.ok id p hp').2 q hq o
  . obtain ⟨p, hp', rfl, he, hs'⟩ := kk id r hr hl
    obtain ⟨p2,hp2,rfl,he2,hs2⟩:=kk id' r' hr' hl'
    rw [hs'] at hq
    rw [hs2]
    exact hi.dis id id' p p2 hp' hp2 hne q hq
  . obtain ⟨p, hp', rfl, he, hs'⟩ := kk id r hr hl
    rw [hs'] at hq
    exact ⟨id,p,hp',hq⟩
  . exact absurd (Past.at l k hp i x (hdn i hd) hx).2.2.1 hres
  . exact absurd (Past.at l k hp i x (hdn i hd) hx).2.2.1 hres
  . cases n with
    | zero=>cases hrt
    | succ n=>
      unfold zHx at hrt
      rcases Nat.lt_or_ge id ini.length with hl | hl
      . rw [List.getElem?_eq_getElem hl] at hrt
        obtain rfl:id=r:=Option.some.inj hrt
        rw [hp']
        rfl
      . rw [List.getElem?_eq_none hl] at hrt
        have hdn':=hdn _ (hd.resolve_left (by omega))
        cases hx:l[id-ini.length]? with
        | none=>rw [hx] at hrt;cases hrt
        | some x=>
          have:=(Past.at l k hp _ x hdn' hx).2.2.1
          rw [hx] at hrt
          simp only [this,Option.isSome_none,Bool.not_false,Bool.or_true,cond_true] at hrt
          cases hrt
end
structure GPost (A0 : Av) (K : Nat -> Prop) (w : World) (obs : List Ob) (A1 : Av) (w' : World) : Prop where
  ini:IniOK obs A1 w'
  avok:AvOK A1 w'
  low:∀ b o,A0 b o->A1 b o
  up:∀ b o,A1 b o->A0 b o\/zFK obs b
  new:∀ k,zFK obs k->w.heap.size<=k\/K k
  ch:Ch K w w'
abbrev subS (A:Av) (S:Nat->Prop):Av:=fun b o=>A b o/\¬ S b
section
variable {ini obs:List Ob} {A A0 A1:Av} {w w':World} {K:Nat->Prop}
theorem IniOK.shrink (h:IniOK ini A w) (h1:∀ b o,A1 b o->A b o) (h2:∀ k,zFK ini k->∀ o,A1 k o):IniOK ini A1 w:=
  ⟨fun i p hp=>⟨(Res.stabS (h.ok i p hp).1 (h.own i p hp) (fun _ _=>rfl) (zDV h1)).1,fun k hk=>h2 k ⟨i,p,hp,hk⟩⟩,fun i p hp=>(Res.stabS (h.ok i p hp).1 (h.own i p hp) (fun _ _=>rfl) (zDV h1)).2,h.dis⟩
theorem GPost.of (hO:IniOK obs A w') (hA:AvOK A w') (hAA:∀ b o,A0 b o->A b o) (hge:∀ k,zFK obs k->w.heap.size<=k\/K k) (hF:Ch K w w'):∃ A1,(∀ b o,A1 b o->A b o)/\GPost A0 K w obs A1 w':=by
  have hsub:∀ b o,(A0 b o\/zFK obs b)->A b o:=fun b o h=>h.elim (hAA b o) fun ⟨i,p,hp,hk⟩=>(hO.ok i p hp).2 b hk o
  exact ⟨fun b o=>A0 b o\/zFK obs b,hsub,hO.shrink hsub fun k hk o=>.inr hk,fun b o h=>hA b o (hsub b o h),fun _ _ h=>.inl h,fun _ _ h=>h,hge,hF⟩
theorem zBO (hA:AvOK A w) (h:GPost (subS A K) K w obs A1 w') (hK:∀ k,K k->∀ o,A k o):Stp A A1 w w':=
  ⟨h.ch.size,fun b o v hv hn=>(World.cell?_of_block (w:=w) (h.ch.block b (zEV hv) fun hk=>hn (hK b hk o))).trans hv,fun b o hb h1=>(h.up b o h1).elim (·.1) fun h2=>(h.new b h2).elim (fun h3=>by omega) fun h3=>hK b h3 o⟩
theorem zPH (hO:IniOK ini A w) (hA:AvOK A w) (i:Nat) {p:Ob} (hp:ini[i]? = some p) (h:GPost (subS A p.S) p.S w obs A1 w'):IniOK (obs++ini.eraseIdx i) A1 w':=by
  have hK:∀ k,p.S k->∀ o,A k o:=(hO.ok i p hp).2
  have hst:=zBO hA h hK
  have hlt:∀ (j:Nat) q,ini[j]? = some q->∀ k,q.S k->k<w.heap.size:=fun j q hq k hk=>Res.ltS (hO.ok j q hq).1 (hO.own j q hq) hk
  have her:∀ (j:Nat) q,(ini.eraseIdx i)[j]? = some q->∃ j',j' ≠ i/\ini[j']? = some q/\(j'=if j<i then j else j+1):=fun j q hq=>by
    rw [List.getElem?_eraseIdx] at hq
    split at hq
    . rename_i hlt;exact ⟨j,by omega,hq,by rw [if_pos hlt]⟩
    . rename_i hlt;exact ⟨j+1,by omega,hq,by rw [if_neg hlt]⟩
  have hrest:∀ (j:Nat) q,(ini.eraseIdx i)[j]? = some q->(q.r.ok A1 q.u w'/\q.r.own A1 q.u q.S w')/\∀ k,q.S k->∀ o,A1 k o:=fun j q hq=>by
    obtain ⟨j',hne,hj',_⟩:=her j q hq
    have hd:∀ k,q.S k->¬ p.S k:=hO.dis j' i q p hj' hp hne
    exact ⟨Res.stabS (hO.ok j' q hj').1 (hO.own j' q hj') (fun k hk=>h.ch.block k (hlt j' q hj' k hk) (hd k hk)) hst,fun k hk o=>h.low k o ⟨(hO.ok j' q hj').2 k hk o,hd k hk⟩⟩
  have hobr:∀ (i' j:Nat) p' q,obs[i']? = some p'->(ini.eraseIdx i)[j]? = some q->∀ k,p'.S k->¬ q.S k:=fun i' j p' q hp' hq k hk hk'=>by
    obtain ⟨j',hne,hj',_⟩:=her j q hq
    rcases h.new k ⟨i',p',hp',hk⟩ with h1 | h1
    . have := hlt j' q hj' k hk'
      omega
    . exact hO.dis j' i q p hj' hp hne k hk' h1
  refine ⟨fun j q hq=>?_,fun j q hq=>?_,fun j j' q q' hq hq' hne k hk=>?_⟩
  . rcases Nat.lt_or_ge j obs.length with hl | hl
    . rw [List.getElem?_append_left hl] at hq
      exact h.ini.ok j q hq
    . rw [List.getElem?_append_right hl] at hq
      exact ⟨(hrest _ q hq).1.1,(hrest _ q hq).2⟩
  . rcases Nat.lt_or_ge j obs.length with hl | hl
    . rw [List.getElem?_append_left hl] at hq
      exact h.ini.own j q hq
    . rw [List.getElem?_append_right hl] at hq
      exact (hrest _ q hq).1.2
  . rcases Nat.lt_or_ge j obs.length with hl | hl <;> rcases Nat.lt_or_ge j' obs.length with hl' | hl'
    . rw [List.getElem?_append_left hl] at hq
      rw [List.getElem?_append_left hl'] at hq'
      exact h.ini.dis j j' q q' hq hq' hne k hk
    . rw [List.getElem?_append_left hl] at hq
      rw [List.getElem?_append_right hl'] at hq'
      exact hobr _ _ _ _ hq hq' k hk
    . rw [List.getElem?_append_right hl] at hq
      rw [List.getElem?_append_left hl'] at hq'
      exact fun hk'=>hobr _ _ _ _ hq' hq k hk' hk
    . rw [List.getElem?_append_right hl] at hq
      rw [List.getElem?_append_right hl'] at hq'
      obtain ⟨a,_,ha,ea⟩:=her _ q hq
      obtain ⟨b,_,hb,eb⟩:=her _ q' hq'
      exact hO.dis a b q q' ha hb (by rw [ea,eb];split <;> split <;> omega) k hk
theorem zPI (hO:IniOK ini A w) (hA:AvOK A w) (h:GPost A (fun _=>False) w obs A1 w'):IniOK (obs++ini) A1 w'/\Stp A A1 w w':=by
  have e:subS A (fun _=>False)=A:=by
    funext b o
    simp [subS]
  have h':GPost (subS A fun _=>False) (fun _=>False) w obs A1 w':=by rw [e];exact h
  have hst:=zBO hA h' fun _ h=>h.elim
  have hlt:∀ (j:Nat) q,ini[j]? = some q->∀ k,q.S k->k<w.heap.size:=fun j q hq k hk=>Res.ltS (hO.ok j q hq).1 (hO.own j q hq) hk
  have hrest:∀ (j:Nat) q,ini[j]? = some q->(q.r.ok A1 q.u w'/\q.r.own A1 q.u q.S w')/\∀ k,q.S k->∀ o,A1 k o:=fun j q hj=>
    ⟨Res.stabS (hO.ok j q hj).1 (hO.own j q hj) (fun k hk=>h.ch.block k (hlt j q hj k hk) fun h=>h) hst,fun k hk o=>h.low k o ((hO.ok j q hj).2 k hk o)⟩
  have hobr:∀ (i' j:Nat) p' q,obs[i']? = some p'->ini[j]? = some q->∀ k,p'.S k->¬ q.S k:=fun i' j p' q hp' hq k hk hk'=>by
    rcases h.new k ⟨i',p',hp',hk⟩ with h1 | h1
    . have := hlt j q hq k hk'
      omega
    . exact h1
  refine ⟨⟨fun j q hq=>?_,fun j q hq=>?_,fun j j' q q' hq hq' hne k hk=>?_⟩,hst⟩
  . rcases Nat.lt_or_ge j obs.length with hl | hl
    . rw [List.getElem?_append_left hl] at hq
      exact h.ini.ok j q hq
    . rw [List.getElem?_append_right hl] at hq
      exact ⟨(hrest _ q hq).1.1,(hrest _ q hq).2⟩
  . rcases Nat.lt_or_ge j obs.length with hl | hl
    . rw [List.getElem?_append_left hl] at hq
      exact h.ini.own j q hq
    . rw [List.getElem?_append_right hl] at hq
      exact (hrest _ q hq).1.2
  . rcases Nat.lt_or_ge j obs.length with hl | hl <;> rcases Nat.lt_or_ge j' obs.length with hl' | hl'
    . rw [List.getElem?_append_left hl] at hq
      rw [List.getElem?_append_left hl'] at hq'
      exact h.ini.dis j j' q q' hq hq' hne k hk
    . rw [List.getElem?_append_left hl] at hq
      rw [List.getElem?_append_right hl'] at hq'
      exact hobr _ _ _ _ hq hq' k hk
    . rw [List.getElem?_append_right hl] at hq
      rw [List.getElem?_append_left hl'] at hq'
      exact fun hk'=>hobr _ _ _ _ hq' hq k hk' hk
    . rw [List.getElem?_append_right hl] at hq
      rw [List.getElem?_append_right hl'] at hq'
      exact hO.dis _ _ q q' hq hq' (by omega) k hk
theorem IniOK.put (h:IniOK ini A w) (i:Nat) {p:Ob} (hi:ini[i]? = some p) (p':Ob) (hok:p'.r.ok A p'.u w) (hown:p'.r.own A p'.u p'.S w) (hS:∀ k,p'.S k->p.S k):IniOK (ini.set i p') A w:=by
  have hl:=(List.getElem?_eq_some_iff.1 hi).1
  have hat:∀ (j:Nat) q,(ini.set i p')[j]? = some q->∃ q0,ini[j]? = some q0/\(∀ k,q.S k->q0.S k)/\(j=i/\q=p'\/j ≠ i/\q0=q):=fun j q hq=>by
    by_cases e:j=i
    . subst e
      rw [List.getElem?_set_self hl] at hq
      injection hq with hq
      subst hq
      exact ⟨_,hi,hS,.inl ⟨rfl,rfl⟩⟩
    . rw [List.getElem?_set_ne (Ne.symm e)] at hq
      exact ⟨q,hq,fun _ h=>h,.inr ⟨e,rfl⟩⟩
  refine ⟨fun j q hq=>?_,fun j q hq=>?_,fun j j' q q' hq hq' hne k hk hk'=>?_⟩
  . obtain ⟨q0, h0, hS', hc⟩ := hat j q hq
    rcases hc with ⟨rfl,rfl⟩ | ⟨_,rfl⟩
    . exact ⟨hok,fun k hk=>(h.ok _ _ h0).2 k (hS' k hk)⟩
    . exact h.ok j _ h0
  . obtain ⟨q0, h0, hS', hc⟩ := hat j q hq
    rcases hc with ⟨rfl,rfl⟩ | ⟨_,rfl⟩
    . exact hown
    . exact h.own j _ h0
  . obtain ⟨q0, h0, hS', _⟩ := hat j q hq
    obtain ⟨q0',h0',hS'',_⟩:=hat j' q' hq'
    exact h.dis j j' q0 q0' h0 h0' hne k (hS' k hk) (hS'' k hk')
theorem IniOK.reK (h:IniOK ini A w) (i:Nat) {u:Value} {S:Nat->Prop} {K K':Nat->Prop} {p:SP} (hi:ini[i]? = some ⟨u,S,.gen K p⟩) (hK:∀ k,K k->K' k):IniOK (ini.set i ⟨u,S,.gen K' p⟩) A w:=
  h.put i hi ⟨u,S,.gen K' p⟩ trivial ⟨fun k hk=>hK k ((h.own i _ hi).1 k hk),(h.own i _ hi).2⟩ fun _ h=>h
theorem IniOK.reV (h:IniOK ini A w) (i:Nat) {u:Value} {S:Nat->Prop} {α:Type} {B B':Nat} {T:TypeId} {E:Enc α} {xs:List α} (hi:ini[i]? = some ⟨u,S,.vec B T E xs⟩) (hB:B'<=B):IniOK (ini.set i ⟨u,S,.vec B' T E xs⟩) A w:=
  h.put i hi ⟨u,S,.vec B' T E xs⟩ (Res.mono (r:=.nul) (h.ok i _ hi).1 hB) (by have:=h.own i _ hi;exact this) fun _ h=>h
theorem IniOK.reX (h:IniOK ini A w) (i:Nat) {u:Value} {S:Nat->Prop} {α:Type} {B B':Nat} {T:TypeId} {E:Enc α} {x:α} (hi:ini[i]? = some ⟨u,S,.box B T E x⟩) (hB:B'<=B):IniOK (ini.set i ⟨u,S,.box B' T E x⟩) A w:=
  h.put i hi ⟨u,S,.box B' T E x⟩ (let ⟨b,h1,h2,h3⟩:=(h.ok i _ hi).1;⟨b,h1,Nat.le_trans hB h2,h3⟩) (by have:=h.own i _ hi;exact this) fun _ h=>h
theorem IniOK.unbox {P : Program} {R : Reg} (h : IniOK ini A w) (i : Nat) {u : Value} {S : Nat -> Prop} {K : Nat -> Prop} {α : Type} {F : OE α} {x : α} {pins : List Pin} {T T' : TypeId} {r : Nat} (hi : ini[i]? = some ⟨u, S, trR K (oPt T' F) x pins⟩) (hR : R r = u) (hag : ∀ w, (isAgg T).run P w=.ok F.E.agg w) (hsz : ∀ w, (sizeOf T).run P w=.ok F.E.size w) :
    ∃ v S1,zKK P R w (.cell r T) v/\IniOK (ini.set i ⟨v,S1,trR K F x []⟩) A w:=by
  obtain ⟨hK,⟨cs,e,b,ds,S1,rfl,h1,h2,h3,h4⟩,_⟩:=h.own i _ hi
  have hu:u=.pointer (some ⟨b,0,none⟩):=e
  have hsub:∀ k,S1 k->S k:=fun k hk=>(h4 k).2 (.inr hk)
  refine ⟨F.E.val ds,S1,⟨⟨b,0,none⟩,by rw [hR,hu],?_⟩,h.put i hi ⟨F.E.val ds,S1,trR K F x []⟩ trivial ⟨fun k hk=>hK k (hsub k hk),⟨ds,rfl,h2⟩,fun q hq=>by cases hq⟩ hsub⟩
  have:=zEC (P:=P) (w:=w) (b:=b) (o:=0) hag hsz (F.len h2) F.E.one (fun j v hj=>by rw [h1.cell,Nat.zero_add];simpa using hj)
  simpa [Enc.val] using this
theorem IniOK.join (h:IniOK ini A w) (L:List (Nat × Ob)) (hL:zHH ini L) (p:Ob) (hok:p.r.ok A p.u w) (hown:p.r.own A p.u p.S w) (hS:∀ k,p.S k->∃ (j:Nat) (q:Ob),ini[j]? = some q/\q.S k/\(L.all fun x=>!Nat.beq x.1 j)=true):IniOK (p::L.map (·.2)) A w:=by
  have hs:=h.sub L hL
  have key:∀ (i:Nat) q,(L.map (·.2))[i]? = some q->∀ k,p.S k->¬ q.S k:=fun i q hq k hk hk'=>by
    rw [List.getElem?_map] at hq
    cases hx:L[i]? with
    | none=>rw [hx] at hq;cases hq
    | some x=>
      rw [hx] at hq
      injection hq with hq
      subst hq
      obtain ⟨j,q',hj,hk2,hall⟩:=hS k hk
      exact h.dis j x.1 q' x.2 hj (zHH.at L hL i x hx) (fun e=>zNC hall (List.mem_of_getElem? hx) e.symm) k hk2 hk'
  refine ⟨fun i q hq=>?_,fun i q hq=>?_,fun i j q q' hq hq' hne k hk=>?_⟩
  . cases i with
    | zero=>
      simp only [List.getElem?_cons_zero,Option.some.injEq] at hq
      subst hq
      exact ⟨hok,fun k hk=>by obtain ⟨j,q',hj,hk2,_⟩:=hS k hk;exact (h.ok j q' hj).2 k hk2⟩
    | succ i=>exact hs.ok i q (by simpa using hq)
  . cases i with
    | zero=>
      simp only [List.getElem?_cons_zero,Option.some.injEq] at hq
      subst hq
      exact hown
    | succ i=>exact hs.own i q (by simpa using hq)
  . cases i with
    | zero=>
      simp only [List.getElem?_cons_zero,Option.some.injEq] at hq
      subst hq
      cases j with
      | zero=>exact (hne rfl).elim
      | succ j=>exact key j q' (by simpa using hq') k hk
    | succ i=>
      cases j with
      | zero=>
        simp only [List.getElem?_cons_zero,Option.some.injEq] at hq'
        subst hq'
        exact fun hk'=>key i q (by simpa using hq) k hk' hk
      | succ j=>exact hs.dis i j q q' (by simpa using hq) (by simpa using hq') (by omega) k hk
theorem zHa {B:Nat} (hAA:∀ b o,A0 b o->A b o) (hA0:∀ b o,A0 b o->b<B) (hge:∀ k,zFK ini k->B<=k) (i:Nat) {p:Ob} (hi:ini[i]? = some p) (h:GPost (subS A p.S) p.S w obs A1 w'):∀ b o,A0 b o->A1 b o:=
  fun b o hb=>h.low b o ⟨hAA b o hb,fun hk=>by have:=hA0 b o hb;have:=hge b ⟨i,p,hi,hk⟩;omega⟩
theorem zBl {B:Nat} (hAA:∀ b o,A0 b o->A b o) (hA0:∀ b o,A0 b o->b<B) (hN:∀ b o,A0 b o->¬ K b) (hge:∀ k,zFK ini k->B<=k\/K k) (i:Nat) {p:Ob} (hi:ini[i]? = some p) (h:GPost (subS A p.S) p.S w obs A1 w'):∀ b o,A0 b o->A1 b o:=
  fun b o hb=>h.low b o ⟨hAA b o hb,fun hk=>(hge b ⟨i,p,hi,hk⟩).elim (fun h=>by have:=hA0 b o hb;omega) fun h=>hN b o hb h⟩
theorem Ch.no {w w':World} (h:Ch (fun _=>False) w w'):Fr w w':=⟨⟨h.os,h.tape,h.output,h.size,fun k hk=>h.block k hk fun h=>h⟩,h.drawn⟩
def zIv {α:Type} (F:OE α):Prop:=∀ {A A' w S x cs},F.own A w S x cs->F.own A' w S x cs
theorem zIp {α:Type} {E:Enc α} (hfl:∀ A A' w x cs,E.rep A w x cs->E.rep A' w x cs):zIv (oRd E):=fun h=>⟨h.1,hfl _ _ _ _ _ h.2⟩
theorem zLH {α β:Type} {F:OE α} {G:OE β} (h:zIv F) (k:zIv G):zIv (oPr F G):=fun ⟨c,d,S1,S2,e,h1,h2,h3⟩=>⟨c,d,S1,S2,e,h h1,k h2,h3⟩
theorem zJZ {α:Type} {T:TypeId} {F:OE α} (h:zIv F):zIv (oSl T F):=fun k=>k.elim .inl fun ⟨g,c,arr,Si,e,h1,h2,h3,h4,h5⟩=>
  .inr ⟨g,c,arr,Si,e,h1,h2,h3,h4,⟨fun i x hx=>let ⟨ds,a,b⟩:=h5.el i x hx;⟨ds,h a,b⟩,h5.dis,h5.out,h5.set⟩⟩
def zNz (p:Ob):Prop:=∀ A A' w,p.r.ok A p.u w->p.r.own A p.u p.S w->p.r.ok A' p.u w/\p.r.own A' p.u p.S w
def zJY : List Ob -> Prop
  | []=>True
  | p::l=>zNz p/\zJY l
theorem zJY.at : ∀ (l : List Ob), zJY l -> ∀ (i : Nat) p, l[i]? = some p -> zNz p
  | [],_,i,p,h=>by simp at h
  | q::l,h,0,p,hp=>by simp at hp;subst hp;exact h.1
  | q::l,h,i+1,p,hp=>zJY.at l h.2 i p (by simpa using hp)
theorem zLZ {P : Program} {R : Reg} {d : Option Nat} {t : TypeId} {p : String} {af : Array Edge} {g : Option (Nat × Bool)} {fn : FuncId} {al : List Operand} {aT : Array TypeId} {α : Type} {B b : Nat} {T : TypeId} {E : Enc α} {x x' : α} {f : Av -> Fact}
    (hc:∀ args w,(callFunc fn args).run P w=.ok (.enter fn args) w) (hok:(Res.box B T E x).ok A (.pointer (some ⟨b,0,none⟩)) w) (hav:∀ k,zAE (.pointer (some ⟨b,0,none⟩)) k->∀ o,A k o) (hA:AvOK A w)
    (h:IniOK [ob (.pointer (some ⟨b,0,none⟩)) (.box B T E x)] A w->Calls P fn (al.map (zAL R)).toArray w fun e w'=>∃ v,e=.returned v/\∃ A1,GPost (subS A (zAE (.pointer (some ⟨b,0,none⟩)))) (zAE (.pointer (some ⟨b,0,none⟩))) w [ob (.pointer (some ⟨b,0,none⟩)) (.box B T E x')] A1 w'/\(f A1).ok v w') :
    OpR P ⟨d,.call ⟨.value (.func fn),al.toArray,aT⟩,t,p,af,g⟩ R w (Took A false (.pointer (some ⟨b,0,none⟩)) (.box B T E x') f w):=by
  have hI:IniOK [ob (.pointer (some ⟨b,0,none⟩)) (.box B T E x)] A w:=by
    refine ⟨fun i q hq=>?_,fun i q hq=>?_,fun i j q q' hq hq' hne=>?_⟩
    . cases i with
      | zero=>simp only [List.getElem?_cons_zero,Option.some.injEq] at hq;subst hq;exact ⟨hok,hav⟩
      | succ i=>simp at hq
    . cases i with
      | zero=>simp only [List.getElem?_cons_zero,Option.some.injEq] at hq;subst hq;rfl
      | succ i=>simp at hq
    . cases i with
      | zero=>
        cases j with
        | zero=>exact (hne rfl).elim
        | succ j=>simp at hq'
      | succ i=>simp at hq
  refine (zB7 hc (h hI)).mono fun v w' ⟨A1,hG,hv⟩=>?_
  have e:A1=zKb A (.pointer (some ⟨b,0,none⟩)) (.pointer (some ⟨b,0,none⟩)):=by
    funext k o
    rw [eq_iff_iff]
    constructor
    . intro h1
      rcases hG.up k o h1 with h2 | ⟨i,q,hq,h2⟩
      . exact .inl h2
      . cases i with
        | zero=>simp only [List.getElem?_cons_zero,Option.some.injEq] at hq;subst hq;exact .inr h2
        | succ i=>simp at hq
    . rintro (h1 | h1)
      . exact hG.low k o h1
      . exact (hG.ini.ok 0 _ rfl).2 k h1 o
  have hst:=zBO hA hG hav
  subst e
  exact ⟨_,rfl,hG.ch,fun k _ h=>h,hst,(hG.ini.ok 0 _ rfl).1,hv⟩
theorem zDL {P:Program} {R:Reg} {d:Option Nat} {t:TypeId} {p:String} {af:Array Edge} {g:Option (Nat × Bool)} {x:Operand} {a:Addr} (hx:zAL R x=.pointer (some a)):OpF P ⟨d,.nilCheck x,t,p,af,g⟩ R w (.raw (.pointer (some a))):=
  zAS (v:=.pointer (some a)) (w':=w) (by simp [execOp,hx]) ⟨rfl,Fr.refl _⟩
theorem zO5 {α β:Type} {F:OE α} {G:OE β} {S1 S2:Nat->Prop} {y:α} {z:β} {c ds:List Value} (h:F.own A w S1 y c) (k:G.own A w S2 z ds) (hd:∀ k,S1 k->¬ S2 k):(oPr F G).own A w (fun k=>S1 k\/S2 k) (y,z) (c++ds):=⟨c,ds,S1,S2,rfl,h,k,fun _=>Iff.rfl,hd⟩
theorem zIi {α β:Type} {F:OE α} {G:OE β} {S2:Nat->Prop} {y:α} {z:β} {c ds:List Value} (h:F.own A w (fun _=>False) y c) (k:G.own A w S2 z ds):(oPr F G).own A w S2 (y,z) (c++ds):=⟨c,ds,_,S2,rfl,h,k,fun _=>⟨.inr,fun h=>h.elim (fun h=>h.elim) id⟩,fun _ h=>h.elim⟩
theorem zH6 {α:Type} {F:OE α} {T:TypeId} {S:Nat->Prop} {xs:List α} {cs:List Value} (h:(oSl T F).own A w S xs cs):∃ a n c,cs = [.slice a n c]:=by
  rcases h with ⟨rfl,_,_⟩ | ⟨g,c,arr,Si,rfl,_⟩
  . exact ⟨_,_,_,rfl⟩
  . exact ⟨_,_,_,rfl⟩
end
end Go.Proofs.YtmgiijdejigdhaaGreat

namespace Go.Proofs.YtmgiijdejigdhaaGreat
open Go.RowKit Go.Sort
set_option linter.unusedVariables false
theorem zOC {w w':World} (hD:DK) (h:Fr w w'):∃ q os,w'=grow (w.drewN q) os:=by
  refine ⟨w'.drawn-w.drawn,w'.heap.extract w.heap.size w'.heap.size,?_⟩
  have hh:w'.heap=w.heap++w'.heap.extract w.heap.size w'.heap.size:=by
    apply Array.ext_getElem?
    intro k
    by_cases hk:k<w.heap.size
    . rw [Array.getElem?_append_left hk]
      exact h.block k hk
    . rw [Array.getElem?_append_right (by omega), Array.getElem?_extract]
      split
      . congr 1
        omega
      . exact Array.getElem?_eq_none (by have:=h.size;omega)
  have hd:w'.drawn=w.drawn+(w'.drawn-w.drawn):=by have:=h.drawn hD;omega
  have h1:=h.os
  have h2:=h.tape
  have h3:=h.output
  obtain ⟨a1,a2,a3,a4,a5⟩:=w
  obtain ⟨b1,b2,b3,b4,b5⟩:=w'
  simp only [World.drewN,grow] at *
  subst h1 h2 h3
  rw [<- hh,<- hd]
section
variable {α β:Type} [Inhabited β]
theorem zIm {enc:β->Value} {w:World} {blk n:Nat} {d:Array β} {os:Array Obj} {u:Value} (hu:zAE u blk):Ch (zAE u) w (grow (putRow enc (Go.Sort.ahead w n) blk 0 d) os):=by
  refine ⟨rfl,rfl,rfl,?_,fun k hk hn=>?_,?_⟩
  . simp [grow,putRow,mapBlock,Go.Sort.ahead]
  . have hne : blk ≠ k := fun e => hn (e ▸ hu)
    simp only [grow,putRow,mapBlock,Go.Sort.ahead]
    rw [Array.getElem?_append_left (by simpa using hk),Array.getElem?_modify,if_neg hne]
  . intro _;simp [grow,putRow,mapBlock,Go.Sort.ahead]
theorem BlkM.putRw {enc:β->Value} {w:World} {g n:Nat} {T:TypeId} {cur:Array Value} {d:Array β} {os:Array Obj} (h:BlkM w g T cur):BlkM (grow (putRow enc (Go.Sort.ahead w n) g 0 d) os) g T (putCells enc 0 d cur):=by
  obtain ⟨fz,h1,h2⟩:=h
  refine ⟨fz,?_,by simpa [putCells] using h2⟩
  have hlt:=(Array.getElem?_eq_some_iff.1 h1).1
  simp only [grow,putRow,mapBlock,Go.Sort.ahead]
  rw [Array.getElem?_append_left (by simpa using hlt),Array.getElem?_modify,if_pos rfl,h1]
  rfl
theorem zKc {E:Enc α} {enc:β->Value} {f:β->α} {A:Av} {B T blk cap:Nat} {w:World} {xs:List α} {d:Array β} (hs:E.size=1) (henc:∀ (b:β) A w cs,E.rep A w (f b) cs->cs = [enc b]) (hd:d.toList.map f=xs) (h:Vec E A B T w (.slice (some ⟨blk,0,none⟩) xs.length cap) xs):Holds enc w blk 0 d:=by
  obtain ⟨cs,hown,hf⟩:=h
  intro j hj
  have hlen:d.size=xs.length:=by rw [<- hd];simp
  have hx:xs[j]? = some (f d[j]!):=by
    rw [<- hd,List.getElem?_map]
    simp [hj]
  obtain ⟨ds,h1,h2⟩:=hf.2 j _ hx
  have h3:=henc _ _ _ _ h1
  subst h3
  have h4:=h2 0 _ rfl
  rw [hs,Nat.mul_one,Nat.add_zero] at h4
  refine ⟨?_,?_⟩
  . have := hown.cells (g := blk) rfl j _ h4
    rwa [zD1] at this
  . rcases hown.2 with ⟨e, _⟩ | ⟨g, cap', cur, e, hb, hg, hnc, _, hcs, _⟩
    . cases e
    . injection e with e1 e2 e3
      injection e1 with e1
      injection e1 with e1
      subst e1
      rw [Nat.zero_add]
      exact hg.frozen j (by rw [hcs,hs];omega)
theorem zMo {E : Enc α} {enc : β -> Value} {f : β -> α} {A : Av} {B T blk cap n : Nat} {w : World} {xs ys : List α} {d : Array β} {os : Array Obj} (hs : E.size = 1) (henc : ∀ (b : β) A w cs, E.rep A w (f b) cs -> cs = [enc b])
    (hrep:∀ A w A' w' x cs,E.rep A w x cs->E.rep A' w' x cs) (hd:d.toList.map f=ys) (hl:ys.length=xs.length) (hsub:∀ y ∈ ys,y ∈ xs) (h:Vec E A B T w (.slice (some ⟨blk,0,none⟩) xs.length cap) xs) :
    Vec E A B T (grow (putRow enc (Go.Sort.ahead w n) blk 0 d) os) (.slice (some ⟨blk,0,none⟩) xs.length cap) ys:=by
  obtain ⟨cs,hown,hf⟩:=h
  have hrow:∀ y ∈ ys,∃ b:β,f b=y/\∀ A w,E.rep A w y [enc b]:=by
    intro y hy
    obtain ⟨b,hb,rfl⟩:=List.mem_map.1 (hd ▸ hy)
    obtain ⟨i,hi⟩:=List.mem_iff_getElem?.1 (hsub _ hy)
    obtain ⟨ds,h1,h2⟩:=hf.2 i _ hi
    have h3:=henc _ _ _ _ h1
    subst h3
    exact ⟨b,rfl,fun A' w'=>hrep _ _ _ _ _ _ h1⟩
  rcases hown.2 with ⟨e,_⟩ | ⟨g,cap',cur,e,hb,hg,hnc,hcm,hcs,htk⟩
  . cases e
  . injection e with e1 e2 e3
    injection e1 with e1
    injection e1 with e1
    subst e1 e3
    have hds:d.size=ys.length:=by rw [<- hd];simp
    have hcur:∀ j,j<ys.length->(putCells enc 0 d cur)[j]? = some (enc d[j]!):=fun j hj=>by
      have hjc:j<cur.size:=by rw [hcs,hs];omega
      simp only [putCells,Array.getElem?_mapIdx]
      rw [Array.getElem?_eq_getElem hjc]
      simp [hds,hj]
    have hlay:(putCells enc 0 d cur).toList.take (ys.length*E.size)=d.toList.map enc:=by
      rw [hs,Nat.mul_one]
      apply List.ext_getElem?
      intro j
      by_cases hj:j<ys.length
      . rw [List.getElem?_take, if_pos hj, Array.getElem?_toList, hcur j hj, List.getElem?_map]
        simp [hds,hj]
      . rw [List.getElem?_take,if_neg hj,List.getElem?_eq_none (by simp [hds];omega)]
    refine ⟨d.toList.map enc,⟨by simp [hds,hs],.inr ⟨blk,cap,putCells enc 0 d cur,by rw [hl],hb,hg.putRw,by rw [hl];exact hnc,hcm,by simp [putCells,hcs],hlay⟩⟩,by simp [hds,hs],fun i y hy=>?_⟩
    . obtain ⟨b, hb', hr⟩ := hrow y (List.mem_of_getElem? hy)
      have hiy:i<ys.length:=(List.getElem?_eq_some_iff.1 hy).1
      have hfd:f d[i]! = y:=by
        rw [<- hd,List.getElem?_map] at hy
        simp [hds,hiy] at hy
        simpa [hds,hiy] using hy
      have h1:=hr A (grow (putRow enc (Go.Sort.ahead w n) blk 0 d) os)
      have h2:=henc d[i]! A w _ (hfd ▸ hr A w)
      injection h2 with h2
      refine ⟨[enc b],h1,fun j u hj=>?_⟩
      cases j with
      | zero=>
        simp at hj
        subst hj
        rw [hs,Nat.mul_one,Nat.add_zero,List.getElem?_map,h2]
        simp [hds,hiy]
      | succ j=>simp at hj
theorem zIl {E:Enc α} {A:Av} {B T:Nat} {w:World} {u:Value} {xs:List α} (h:Vec E A B T w u xs):(u=.slice none 0 0/\xs = [])\/∃ blk cap,u=.slice (some ⟨blk,0,none⟩) xs.length cap/\blk<w.heap.size:=by
  obtain ⟨cs,hown,_⟩:=h
  rcases hown.2 with ⟨e,h0⟩ | ⟨g,cap,cur,e,_,hg,_⟩
  . exact .inl ⟨e,List.eq_nil_of_length_eq_zero h0⟩
  . exact .inr ⟨g,cap,e,hg.lt⟩
end
def zMl {α:Type} [BEq α] (F:α->α->Option Int) (xs:List α):Bool:=
  xs.all fun x => xs.all fun y => (F x y).isSome && !(decide (gv (F x x) < 0)) && (decide (gv (F x y) < 0) || decide (gv (F y x) < 0) || x == y) &&
    xs.all fun z=>(!(decide (gv (F x y)<0)) || !(decide (gv (F y z)<0)) || decide (gv (F x z)<0))&&(decide (gv (F x y)<0) || decide (gv (F y z)<0) || !(decide (gv (F x z)<0)))
def zKs {α:Type} [BEq α] (fu:Nat) (p0:List α) (p1:α->α->Option Int):Option (List α):=ck (zD4 p0.length) (ck (zMl p1 p0) (some (p0.mergeSort fun x y=>!(decide (gv (p1 y x)<0)))))
theorem zLu {f f':FuncId} {c c':List Value} (h:(Value.func (.func f) #[] c.toArray)=.func (.func f') #[] c'.toArray):f=f'/\c=c':=by
  injection h with h1 h2 h3
  injection h1 with h1
  exact ⟨h1,by simpa using h3⟩
end Go.Proofs.YtmgiijdejigdhaaGreat
namespace Go.Proofs
open Go.Shelf
def Tryz.laysSort_ren:Go.Shelf.Ren:=⟨fun | 190=>89 | 125=>101 | 258=>100 | 128=>114 | 129=>115 | 302=>105 | 303=>106 | 304=>107 | 305=>108 | 306=>109 | 307=>110 | 308=>111 | 309=>112 | 310=>113 | 333=>125 | 329=>126 | 330=>127 | 334=>128 | 335=>129 | 336=>130 | 344=>134 | n=>n,fun | 31=>28 | 9=>9 | 3=>3 | 46=>98 | 0=>0 | 51=>119 | 53=>121 | 4=>4 | 183=>112 | 182=>111 | 131=>60 | 5=>5 | 218=>127 | 222=>131 | 228=>135 | 229=>51 | n=>n,fun | n=>n⟩
theorem Tryz.laysSort : Go.Proofs.Lays.n190 Tryz.prog Tryz.laysSort_ren := {
  mixed:=by kernel_rfl
  f125:=Tryz.func101.trans (congrArg some (by kernel_rfl))
  f128:=Tryz.func114.trans (congrArg some (by kernel_rfl))
  f129:=Tryz.func115.trans (congrArg some (by kernel_rfl))
  f190:=Tryz.func89.trans (congrArg some (by kernel_rfl))
  f258:=Tryz.func100.trans (congrArg some (by kernel_rfl))
  f302:=Tryz.func105.trans (congrArg some (by kernel_rfl))
  f303:=Tryz.func106.trans (congrArg some (by kernel_rfl))
  f304:=Tryz.func107.trans (congrArg some (by kernel_rfl))
  f305:=Tryz.func108.trans (congrArg some (by kernel_rfl))
  f306:=Tryz.func109.trans (congrArg some (by kernel_rfl))
  f307:=Tryz.func110.trans (congrArg some (by kernel_rfl))
  f308:=Tryz.func111.trans (congrArg some (by kernel_rfl))
  f309:=Tryz.func112.trans (congrArg some (by kernel_rfl))
  f310:=Tryz.func113.trans (congrArg some (by kernel_rfl))
  f329:=Tryz.func126.trans (congrArg some (by kernel_rfl))
  f330:=Tryz.func127.trans (congrArg some (by kernel_rfl))
  f333:=Tryz.func125.trans (congrArg some (by kernel_rfl))
  f334:=Tryz.func128.trans (congrArg some (by kernel_rfl))
  f335:=Tryz.func129.trans (congrArg some (by kernel_rfl))
  f336:=Tryz.func130.trans (congrArg some (by kernel_rfl))
  f344:=Tryz.func134.trans (congrArg some (by kernel_rfl))
  t0:=Tryz.underlying0
  a0:=Tryz.isAgg0
  z0:=Tryz.sizeOf0
  v0:=Tryz.zeroValue0
  t3:=Tryz.underlying3
  a3:=Tryz.isAgg3
  z3:=Tryz.sizeOf3
  v3:=Tryz.zeroValue3
  t4:=Tryz.underlying4
  a4:=Tryz.isAgg4
  z4:=Tryz.sizeOf4
  v4:=Tryz.zeroValue4
  t5:=Tryz.underlying5
  a5:=Tryz.isAgg5
  z5:=Tryz.sizeOf5
  v5:=Tryz.zeroValue5
  t9:=Tryz.underlying9
  a9:=Tryz.isAgg9
  z9:=Tryz.sizeOf9
  v9:=Tryz.zeroValue9
  t31:=Tryz.underlying28
  a31:=Tryz.isAgg28
  z31:=Tryz.sizeOf28
  v31:=Tryz.zeroValue28
  t46:=Tryz.underlying98
  a46:=Tryz.isAgg98
  z46:=Tryz.sizeOf98
  v46:=Tryz.zeroValue98
  t51:=Tryz.underlying119
  a51:=Tryz.isAgg119
  z51:=Tryz.sizeOf119
  v51:=Tryz.zeroValue119
  t53:=Tryz.underlying121
  a53:=Tryz.isAgg121
  z53:=Tryz.sizeOf121
  v53:=Tryz.zeroValue121
  t131:=Tryz.underlying60
  a131:=Tryz.isAgg60
  z131:=Tryz.sizeOf60
  v131:=Tryz.zeroValue60
  t182:=Tryz.underlying111
  a182:=Tryz.isAgg111
  z182:=Tryz.sizeOf111
  v182:=Tryz.zeroValue111
  t183:=Tryz.underlying112
  a183:=Tryz.isAgg112
  z183:=Tryz.sizeOf112
  v183:=Tryz.zeroValue112
  t218:=Tryz.underlying127
  a218:=Tryz.isAgg127
  z218:=Tryz.sizeOf127
  v218:=Tryz.zeroValue127
  t222:=Tryz.underlying131
  a222:=Tryz.isAgg131
  z222:=Tryz.sizeOf131
  v222:=Tryz.zeroValue131
  t228:=Tryz.underlying135
  a228:=Tryz.isAgg135
  z228:=Tryz.sizeOf135
  v228:=Tryz.zeroValue135
  t229:=Tryz.underlying51
  a229:=Tryz.isAgg51
  z229:=Tryz.sizeOf51
  v229:=Tryz.zeroValue51 }
def Tryz.laysSortG_ren:Go.Shelf.Ren:=⟨fun | 6=>92 | 15=>101 | 14=>102 | 28=>114 | 29=>115 | 20=>116 | 21=>117 | 22=>118 | 23=>119 | 24=>120 | 25=>121 | 26=>122 | 27=>123 | 46=>131 | 47=>126 | 48=>127 | 49=>132 | 50=>133 | 57=>135 | n=>n,fun | 22=>28 | 24=>9 | 25=>105 | 3=>3 | 39=>98 | 0=>0 | 53=>119 | 55=>121 | 4=>4 | 46=>112 | 45=>111 | 50=>60 | 5=>5 | 9=>9 | 66=>127 | 70=>131 | 76=>135 | 77=>51 | n=>n,fun | n=>n⟩
theorem Tryz.laysSortG : Go.Proofs.SlLaysF0.n6 Tryz.prog Tryz.laysSortG_ren := {
  mixed:=by kernel_rfl
  f6:=⟨Tryz.f92.name,by decide,Tryz.func92.trans (congrArg some (by kernel_rfl))⟩
  f14:=⟨Tryz.f102.name,by decide,Tryz.func102.trans (congrArg some (by kernel_rfl))⟩
  f15:=Tryz.func101.trans (congrArg some (by kernel_rfl))
  f20:=⟨Tryz.f116.name,by decide,Tryz.func116.trans (congrArg some (by kernel_rfl))⟩
  f21:=⟨Tryz.f117.name,by decide,Tryz.func117.trans (congrArg some (by kernel_rfl))⟩
  f22:=⟨Tryz.f118.name,by decide,Tryz.func118.trans (congrArg some (by kernel_rfl))⟩
  f23:=⟨Tryz.f119.name,by decide,Tryz.func119.trans (congrArg some (by kernel_rfl))⟩
  f24:=⟨Tryz.f120.name,by decide,Tryz.func120.trans (congrArg some (by kernel_rfl))⟩
  f25:=⟨Tryz.f121.name,by decide,Tryz.func121.trans (congrArg some (by kernel_rfl))⟩
  f26:=⟨Tryz.f122.name,by decide,Tryz.func122.trans (congrArg some (by kernel_rfl))⟩
  f27:=⟨Tryz.f123.name,by decide,Tryz.func123.trans (congrArg some (by kernel_rfl))⟩
  f28:=Tryz.func114.trans (congrArg some (by kernel_rfl))
  f29:=Tryz.func115.trans (congrArg some (by kernel_rfl))
  f46:=⟨Tryz.f131.name,by decide,Tryz.func131.trans (congrArg some (by kernel_rfl))⟩
  f47:=Tryz.func126.trans (congrArg some (by kernel_rfl))
  f48:=Tryz.func127.trans (congrArg some (by kernel_rfl))
  f49:=⟨Tryz.f132.name,by decide,Tryz.func132.trans (congrArg some (by kernel_rfl))⟩
  f50:=⟨Tryz.f133.name,by decide,Tryz.func133.trans (congrArg some (by kernel_rfl))⟩
  f57:=⟨Tryz.f135.name,by decide,Tryz.func135.trans (congrArg some (by kernel_rfl))⟩
  t0:=Tryz.underlying0
  a0:=Tryz.isAgg0
  z0:=Tryz.sizeOf0
  v0:=Tryz.zeroValue0
  t3:=Tryz.underlying3
  a3:=Tryz.isAgg3
  z3:=Tryz.sizeOf3
  v3:=Tryz.zeroValue3
  t4:=Tryz.underlying4
  a4:=Tryz.isAgg4
  z4:=Tryz.sizeOf4
  v4:=Tryz.zeroValue4
  t5:=Tryz.underlying5
  a5:=Tryz.isAgg5
  z5:=Tryz.sizeOf5
  v5:=Tryz.zeroValue5
  t9:=Tryz.underlying9
  a9:=Tryz.isAgg9
  z9:=Tryz.sizeOf9
  v9:=Tryz.zeroValue9
  t22:=Tryz.underlying28
  a22:=Tryz.isAgg28
  z22:=Tryz.sizeOf28
  v22:=Tryz.zeroValue28
  t25:=Tryz.underlying105
  a25:=Tryz.isAgg105
  z25:=Tryz.sizeOf105
  v25:=Tryz.zeroValue105
  t39:=Tryz.underlying98
  a39:=Tryz.isAgg98
  z39:=Tryz.sizeOf98
  v39:=Tryz.zeroValue98
  t45:=Tryz.underlying111
  a45:=Tryz.isAgg111
  z45:=Tryz.sizeOf111
  v45:=Tryz.zeroValue111
  t46:=Tryz.underlying112
  a46:=Tryz.isAgg112
  z46:=Tryz.sizeOf112
  v46:=Tryz.zeroValue112
  t50:=Tryz.underlying60
  a50:=Tryz.isAgg60
  z50:=Tryz.sizeOf60
  v50:=Tryz.zeroValue60
  t53:=Tryz.underlying119
  a53:=Tryz.isAgg119
  z53:=Tryz.sizeOf119
  v53:=Tryz.zeroValue119
  t55:=Tryz.underlying121
  a55:=Tryz.isAgg121
  z55:=Tryz.sizeOf121
  v55:=Tryz.zeroValue121
  t66:=Tryz.underlying127
  a66:=Tryz.isAgg127
  z66:=Tryz.sizeOf127
  v66:=Tryz.zeroValue127
  t70:=Tryz.underlying131
  a70:=Tryz.isAgg131
  z70:=Tryz.sizeOf131
  v70:=Tryz.zeroValue131
  t76:=Tryz.underlying135
  a76:=Tryz.isAgg135
  z76:=Tryz.sizeOf135
  v76:=Tryz.zeroValue135
  t77:=Tryz.underlying51
  a77:=Tryz.isAgg51
  z77:=Tryz.sizeOf51
  v77:=Tryz.zeroValue51 }
def Tryz.laysSortF_ren:Go.Shelf.Ren:=⟨fun | 6=>92 | 15=>101 | 14=>102 | 28=>114 | 29=>115 | 20=>116 | 21=>117 | 22=>118 | 23=>119 | 24=>120 | 25=>121 | 26=>122 | 27=>123 | 46=>131 | 47=>126 | 48=>127 | 49=>132 | 50=>133 | 57=>135 | n=>n,fun | 22=>28 | 24=>9 | 25=>105 | 3=>3 | 39=>98 | 0=>0 | 53=>119 | 55=>121 | 4=>4 | 46=>112 | 45=>111 | 50=>60 | 5=>5 | 9=>9 | 66=>127 | 70=>131 | 76=>135 | 77=>51 | n=>n,fun | n=>n⟩
theorem Tryz.laysSortF : Go.Proofs.SlLaysF.n6 Tryz.prog Tryz.laysSortF_ren := {
  mixed:=by kernel_rfl
  f6:=⟨Tryz.f92.name,by decide,Tryz.func92.trans (congrArg some (by kernel_rfl))⟩
  f14:=⟨Tryz.f102.name,by decide,Tryz.func102.trans (congrArg some (by kernel_rfl))⟩
  f15:=Tryz.func101.trans (congrArg some (by kernel_rfl))
  f20:=⟨Tryz.f116.name,by decide,Tryz.func116.trans (congrArg some (by kernel_rfl))⟩
  f21:=⟨Tryz.f117.name,by decide,Tryz.func117.trans (congrArg some (by kernel_rfl))⟩
  f22:=⟨Tryz.f118.name,by decide,Tryz.func118.trans (congrArg some (by kernel_rfl))⟩
  f23:=⟨Tryz.f119.name,by decide,Tryz.func119.trans (congrArg some (by kernel_rfl))⟩
  f24:=⟨Tryz.f120.name,by decide,Tryz.func120.trans (congrArg some (by kernel_rfl))⟩
  f25:=⟨Tryz.f121.name,by decide,Tryz.func121.trans (congrArg some (by kernel_rfl))⟩
  f26:=⟨Tryz.f122.name,by decide,Tryz.func122.trans (congrArg some (by kernel_rfl))⟩
  f27:=⟨Tryz.f123.name,by decide,Tryz.func123.trans (congrArg some (by kernel_rfl))⟩
  f28:=Tryz.func114.trans (congrArg some (by kernel_rfl))
  f29:=Tryz.func115.trans (congrArg some (by kernel_rfl))
  f46:=⟨Tryz.f131.name,by decide,Tryz.func131.trans (congrArg some (by kernel_rfl))⟩
  f47:=Tryz.func126.trans (congrArg some (by kernel_rfl))
  f48:=Tryz.func127.trans (congrArg some (by kernel_rfl))
  f49:=⟨Tryz.f132.name,by decide,Tryz.func132.trans (congrArg some (by kernel_rfl))⟩
  f50:=⟨Tryz.f133.name,by decide,Tryz.func133.trans (congrArg some (by kernel_rfl))⟩
  f57:=⟨Tryz.f135.name,by decide,Tryz.func135.trans (congrArg some (by kernel_rfl))⟩
  t0:=Tryz.underlying0
  a0:=Tryz.isAgg0
  z0:=Tryz.sizeOf0
  v0:=Tryz.zeroValue0
  t3:=Tryz.underlying3
  a3:=Tryz.isAgg3
  z3:=Tryz.sizeOf3
  v3:=Tryz.zeroValue3
  t4:=Tryz.underlying4
  a4:=Tryz.isAgg4
  z4:=Tryz.sizeOf4
  v4:=Tryz.zeroValue4
  t5:=Tryz.underlying5
  a5:=Tryz.isAgg5
  z5:=Tryz.sizeOf5
  v5:=Tryz.zeroValue5
  t9:=Tryz.underlying9
  a9:=Tryz.isAgg9
  z9:=Tryz.sizeOf9
  v9:=Tryz.zeroValue9
  t22:=Tryz.underlying28
  a22:=Tryz.isAgg28
  z22:=Tryz.sizeOf28
  v22:=Tryz.zeroValue28
  a24:=Tryz.isAgg9
  z24:=Tryz.sizeOf9
  t25:=Tryz.underlying105
  a25:=Tryz.isAgg105
  z25:=Tryz.sizeOf105
  v25:=Tryz.zeroValue105
  t39:=Tryz.underlying98
  a39:=Tryz.isAgg98
  z39:=Tryz.sizeOf98
  v39:=Tryz.zeroValue98
  t45:=Tryz.underlying111
  a45:=Tryz.isAgg111
  z45:=Tryz.sizeOf111
  v45:=Tryz.zeroValue111
  t46:=Tryz.underlying112
  a46:=Tryz.isAgg112
  z46:=Tryz.sizeOf112
  v46:=Tryz.zeroValue112
  t50:=Tryz.underlying60
  a50:=Tryz.isAgg60
  z50:=Tryz.sizeOf60
  v50:=Tryz.zeroValue60
  t53:=Tryz.underlying119
  a53:=Tryz.isAgg119
  z53:=Tryz.sizeOf119
  v53:=Tryz.zeroValue119
  t55:=Tryz.underlying121
  a55:=Tryz.isAgg121
  z55:=Tryz.sizeOf121
  v55:=Tryz.zeroValue121
  t66:=Tryz.underlying127
  a66:=Tryz.isAgg127
  z66:=Tryz.sizeOf127
  v66:=Tryz.zeroValue127
  t70:=Tryz.underlying131
  a70:=Tryz.isAgg131
  z70:=Tryz.sizeOf131
  v70:=Tryz.zeroValue131
  t76:=Tryz.underlying135
  a76:=Tryz.isAgg135
  z76:=Tryz.sizeOf135
  v76:=Tryz.zeroValue135
  t77:=Tryz.underlying51
  a77:=Tryz.isAgg51
  z77:=Tryz.sizeOf51
  v77:=Tryz.zeroValue51 }
def Tryz.laysCmp_ren:Go.Shelf.Ren:=⟨fun | 106=>97 | 213=>104 | 265=>124 | n=>n,fun | 9=>9 | 3=>3 | n=>n,fun | n=>n⟩
theorem Tryz.laysCmp : Go.Proofs.Lays.n106 Tryz.prog Tryz.laysCmp_ren := {
  mixed:=by kernel_rfl
  f106:=Tryz.func97.trans (congrArg some (by kernel_rfl))
  f213:=Tryz.func104.trans (congrArg some (by kernel_rfl))
  f265:=Tryz.func124.trans (congrArg some (by kernel_rfl))
  t3:=Tryz.underlying3
  a3:=Tryz.isAgg3
  z3:=Tryz.sizeOf3
  v3:=Tryz.zeroValue3
  t9:=Tryz.underlying9
  a9:=Tryz.isAgg9
  z9:=Tryz.sizeOf9
  v9:=Tryz.zeroValue9 }
end Go.Proofs
namespace Go.Proofs.YtmgiijdejigdhaaGreat
open Go.RowKit Go.Sort
set_option linter.unusedVariables false
theorem zIK (b:List UInt8) (A:Av) (w:World) (cs:List Value) (h:eStr.rep A w b cs):cs = [encStr b]:=by
  obtain ⟨s,rfl,rfl,_⟩:=h
  rfl
def zHc (fu:Nat) (p0:List (List UInt8)):Option (List (List UInt8)):=ck (zD4 p0.length) (some (p0.mergeSort fun x y=>decide (x<=y)))
theorem zHr {fu : Nat} {A0 : Av} {p0 r : List (List UInt8)} (hr : zHc fu p0 = some r) {w : World} {v0 : Value} {B0 : Nat} (hA : AvOK A0 w) (hN : ∀ b o, A0 b o -> ¬ zAE v0 b) (h0 : (Res.vec B0 9 eStr p0).ok A0 v0 w) :
    Calls Tryz.prog 89 #[v0] w fun e w'=>∃ v,e=.returned v/\(v=.tuple #[]/\(Res.vec B0 9 eStr r).ok A0 v0 w'/\Ch (zAE v0) w w'):=by
  obtain ⟨hlen,hr⟩:=zAG hr
  obtain rfl:=Option.some.inj hr
  rcases zIl h0 with ⟨rfl,rfl⟩ | ⟨blk,cap,rfl,hb⟩
  . refine (Any.slices_Sort_string_none Tryz.laysSort none 0 w).mono ?_
    rintro e w' ⟨he,rfl⟩
    exact ⟨_,he,rfl,by rw [List.mergeSort_nil];exact h0,Ch.refl _ _⟩
  . have hH : Holds encStr w blk 0 p0.toArray := zKc (E := eStr) (f := fun x => x) rfl (fun b A w cs h => zIK b A w cs h) (by simp) h0
    refine (Any.slices_Sort_string Tryz.laysSort blk 0 cap p0 w hH hb (by have:=zGh hlen;omega)).mono ?_
    rintro e w' ⟨he,n,os,rfl⟩
    refine ⟨_,he,rfl,?_,zIm rfl⟩
    have:=zMo (E:=eStr) (enc:=encStr) (f:=fun x=>x) (n:=n) (os:=os) (ys:=p0.mergeSort fun x y=>decide (x<=y)) (d:=(p0.mergeSort fun x y=>decide (x<=y)).toArray) rfl (fun b A w cs h=>zIK b A w cs h) (fun _ _ _ _ _ _ h=>h) (by simp) (by simp) (fun y hy=>(List.mem_mergeSort.1 hy)) h0
    exact this
theorem zKn {fu : Nat} {A0 : Av} {p0 r : List (List UInt8)} {p1 : List UInt8 -> List UInt8 -> Option Int} (hr : zKs fu p0 p1 = some r) {w : World} {v0 v1 : Value} {B0 : Nat} (hA : AvOK A0 w) (hN : ∀ b o, A0 b o -> ¬ zAE v0 b) (h0 : (Res.vec B0 9 eStr p0).ok A0 v0 w)
    (h1:FnK2 Tryz.prog eStr eStr (fun r=>.raw (.int .i64 r)) A0 (zAE v0) w v1 p1) :
    Calls Tryz.prog 92 #[v0,v1] w fun e w'=>∃ v,e=.returned v/\(v=.tuple #[]/\(Res.vec B0 9 eStr r).ok A0 v0 w'/\Ch (zAE v0) w w'):=by
  obtain ⟨hlen,hr⟩:=zAG hr
  obtain ⟨hok,hr⟩:=zAG hr
  obtain rfl:=Option.some.inj hr
  simp only [zMl,List.all_eq_true,Bool.and_eq_true] at hok
  cases hp:p0 with
  | nil=>
    subst hp
    have:∃ p cap,v0=.slice p 0 cap:=by
      rcases zIl h0 with ⟨rfl,_⟩ | ⟨blk,cap,rfl,_⟩
      . exact ⟨_,_,rfl⟩
      . exact ⟨_,_,rfl⟩
    obtain ⟨p,cap,rfl⟩:=this
    refine (AnyF.slices_SortFunc_none Tryz.laysSortG p cap v1 w).mono ?_
    rintro e w' ⟨he,rfl⟩
    refine ⟨_,he,rfl,?_,Ch.refl _ _⟩
    simpa using h0
  | cons x0 t0=>
    rw [<- hp]
    have hx0:x0 ∈ p0:=by rw [hp];simp
    have hrepS:∀ x ∈ p0,∀ A w,Rep eStr A w (encStr x) x:=by
      intro x hx A w
      obtain ⟨cs,hown,hf⟩:=h0
      obtain ⟨i,hi⟩:=List.mem_iff_getElem?.1 hx
      obtain ⟨ds,h2,_⟩:=hf.2 i x hi
      have h3:=zIK _ _ _ _ h2
      subst h3
      exact ⟨_,rfl,h2⟩
    have hsome:∀ x ∈ p0,∀ y ∈ p0,p1 x y=some (gv (p1 x y)):=fun x hx y hy=>zOP (hok x hx y hy).1.1.1
    obtain ⟨g,cb,rfl,hg,_⟩:=h1 x0 x0 _ (hsome x0 hx0 x0 hx0) w (encStr x0) (encStr x0) (Ch.refl _ _) hA (hrepS x0 hx0 A0 w) (hrepS x0 hx0 A0 w)
    rcases zIl h0 with ⟨rfl,e⟩ | ⟨blk,cap,rfl,hb⟩
    . rw [e] at hx0
      cases hx0
    . let β := {x : List UInt8 // x ∈ p0}
      have inst:Inhabited β:=⟨⟨x0,hx0⟩⟩
      let enc:β->Value:=fun b=>encStr b.1
      let cf:β->β->Int:=fun x y=>gv (p1 x.1 y.1)
      let d:Array β:=p0.attach.toArray
      have hdm:d.toList.map (fun b:β=>b.1)=p0:=by show (p0.attach.toArray).toList.map Subtype.val=p0;rw [List.toList_toArray];exact List.attach_map_subtype_val p0
      have hds:d.size=p0.length:=by show (p0.attach.toArray).size=_;rw [List.size_toArray,List.length_attach]
      have hO:SWO (ltOf cf):=by
        refine ⟨fun x=>?_,fun x y z hxy hyz=>?_,fun x y z hxy hyz=>?_⟩
        . have := (hok x.1 x.2 x.1 x.2).1.1.2
          simpa [ltOf,cf] using this
        . have := ((hok x.1 x.2 y.1 y.2).2 z.1 z.2).1
          simp only [ltOf,cf] at hxy hyz ⊢
          rw [hxy,hyz] at this
          simpa using this
        . have := ((hok x.1 x.2 y.1 y.2).2 z.1 z.2).2
          simp only [ltOf,cf] at hxy hyz ⊢
          rw [hxy,hyz] at this
          simpa using this
      have hT:∀ x y,(ltOf cf) x y=false->(ltOf cf) y x=false->x=y:=by
        intro x y hxy hyx
        have:=(hok x.1 x.2 y.1 y.2).1.2
        simp only [ltOf,cf] at hxy hyx
        rw [hxy,hyx] at this
        exact Subtype.ext (by simpa using this)
      have hcmp:CmpLays1 Tryz.prog g cb.toArray enc cf blk 0 d.size w:=by
        intro m os dk hdk x y
        have hch:Ch (zAE (.slice (some ⟨blk,0,none⟩) p0.length cap)) w (sortWorld enc w blk 0 m dk os):=zIm rfl
        obtain ⟨g',cb',e,hg',hc⟩:=h1 x.1 y.1 _ (hsome x.1 x.2 y.1 y.2) (sortWorld enc w blk 0 m dk os) (enc x) (enc y) hch (hA.fr hch.size) (hrepS x.1 x.2 _ _) (hrepS y.1 y.2 _ _)
        obtain ⟨rfl,rfl⟩:=zLu e
        have e2:(#[enc x,enc y]++cb.toArray)=([enc x,enc y]++cb).toArray:=by simp
        rw [e2]
        refine hc.mono ?_
        rintro e w' ⟨u,he,hu,hfr⟩
        obtain rfl:u=.int .i64 (cf x y):=hu
        obtain ⟨q,os',hw⟩:=zOC trivial hfr
        exact ⟨he,q,os',hw⟩
      have hH:Holds enc w blk 0 d:=zKc (E:=eStr) (f:=fun b:β=>b.1) rfl (fun b A w cs h=>zIK b.1 A w cs h) hdm h0
      have key:=Any.slices_SortFunc_total Tryz.laysSortF enc (fun _=>rfl) cf hO g cb.toArray blk 0 cap d w hg hcmp hH hb (by rw [hds];have:=zGh hlen;omega) hT
      rw [hds] at key
      refine key.mono ?_
      rintro e w' ⟨he,n,os,rfl⟩
      refine ⟨_,he,rfl,?_,zIm rfl⟩
      have hmap:(d.toList.mergeSort fun x y=>!(ltOf cf) y x).map (fun b:β=>b.1)=p0.mergeSort fun x y=>!(decide (gv (p1 y x)<0)):=by
        rw [List.map_mergeSort (f:=fun b:β=>b.1) (r:=fun x y=>!(ltOf cf) y x) (s:=fun x y=>!(decide (gv (p1 y x)<0))) (l:=d.toList) (fun a _ b _=>rfl),hdm]
      exact zMo (E:=eStr) (enc:=enc) (f:=fun b:β=>b.1) (n:=n) (os:=os) (d:=(d.toList.mergeSort fun x y=>!(ltOf cf) y x).toArray) rfl (fun b A w cs h=>zIK b.1 A w cs h) (fun _ _ _ _ _ _ h=>h) (by simpa using hmap) (by simp) (fun y hy=>(List.mem_mergeSort.1 hy)) h0
def zJt (fu:Nat) (p0 p1:List UInt8):Option Int:=some (Lib.compareBytes p0 p1)
theorem zKr {fu : Nat} {A : Av} {p0 p1 : List UInt8} {r : Int} (hr : zJt fu p0 p1 = some r) {w : World} {v0 v1 : Value} (hA : AvOK A w) (h0 : Rep eStr A w v0 p0) (h1 : Rep eStr A w v1 p1) :
    Calls Tryz.prog 97 #[v0,v1] w fun e w'=>∃ v,e=.returned v/\(v=.int .i64 r/\Fr w w'):=by
  obtain rfl:=Option.some.inj hr
  obtain ⟨cs,h0,s,rfl,rfl,_⟩:=h0
  obtain ⟨cs,h1,t,rfl,rfl,_⟩:=h1
  obtain rfl:v0=.string s:=h0
  obtain rfl:v1=.string t:=h1
  refine (Any.strings_Compare Tryz.laysCmp s t w).mono ?_
  rintro e w' ⟨he,rfl⟩
  exact ⟨_,he,rfl,Fr.refl _⟩
end Go.Proofs.YtmgiijdejigdhaaGreat

namespace Go.Proofs.YtmgiijdejigdhaaGreat
open Go.RowKit
set_option linter.unusedVariables false
section
variable {P:Program} {n:Nat} {ops:List Oper} {k:Nat} {R:Reg} {w:World} {Q:Exit->Reg->World->Prop}
theorem zLv {j dj:Nat} {y:Oper} {a:Act} (hj:ops[j]? = some y) (hy:y.dst=some dj):yielded ops.toArray a.tmps j=(match regs a dj with | .bool b=>some b | _=>none):=by
  have hj':ops.toArray[j]? = some y:=by simpa using hj
  simp only [yielded,hj',regs]
  simp [hy]
  cases a.tmps[dj]? with
  | none=>rfl
  | some v=>cases v <;> rfl
theorem SG.skipV {o y : Oper} (d j dj : Nat) (want : Bool) (ho : ops[k]? = some o) (hg : o.guard = some (j, want)) (hj : ops[j]? = some y) (hy : y.dst = some dj) (hR : (match R dj with | .bool b => some b | _ => none) ≠ some want) (hd : o.dst = some d) (hn : Nat.blt d n = true)
    (hk:∀ R',(∀ t,Nat.beq t d=false->R' t=R t)->R' d=undef->SG P n ops (k+1) R' w Q):SG P n ops k R w Q:=fun a hpl hRa=>by
  have hkl:k<ops.length:=(List.getElem?_eq_some_iff.1 ho).1
  rw [show ops.length-k=(ops.length-(k+1))+1 by omega,List.range'_succ,wpOps_cons]
  rw [<- hRa] at hR
  have hw:¬ Region.wanted o (yielded ops.toArray a.tmps)=true:=by
    rw [show Region.wanted o (yielded ops.toArray a.tmps)=(yielded ops.toArray a.tmps j==some want) by simp [Region.wanted,hg],zLv hj hy]
    simpa using hR
  have ho':ops.toArray[k]? = some o:=by simpa using ho
  unfold wpOp
  rw [ho']
  dsimp only
  rw [if_neg hw]
  have hdn:d<n:=by simpa using hn
  have hrp:=zGd a o.dst undef fun d' h'=>by rw [hd] at h';injection h' with h';subst h';exact Nat.lt_of_lt_of_le hdn hpl.2
  refine hk (regs (a.put o.dst undef)) (fun t ht=>?_) ?_ _ ⟨by rw [zEl];exact hpl.1,by rw [zGc];exact hpl.2⟩ rfl
  . rw [hrp, hd, hRa]
    show (bif Nat.beq t d then undef else R t)=R t
    rw [ht]
    rfl
  . rw [hrp, hd]
    exact zHN _ _ _
theorem SG.skip {o y : Oper} (d j dj : Nat) (want : Bool) (ho : ops[k]? = some o) (hg : o.guard = some (j, want)) (hj : ops[j]? = some y) (hy : y.dst = some dj) (hR : R dj=.bool !want) (hd : o.dst = some d) (hn : Nat.blt d n = true)
    (hk:∀ R',(∀ t,Nat.beq t d=false->R' t=R t)->R' d=undef->SG P n ops (k+1) R' w Q):SG P n ops k R w Q:=
  SG.skipV d j dj want ho hg hj hy (by rw [hR];cases want <;> simp) hd hn hk
end
def pdP {β : Type} (F : OE β) (a : Value) (Q : β -> Pw) (y : β) : SP where
  P := fun A w S u => ∃ (b off : Nat) (S1 S2 : Nat -> Prop) (cs : List Value), a=.pointer (some ⟨b, off, none⟩) /\ u = F.E.val cs /\ F.own A w S1 y cs /\ (∀ k, S k ↔ S2 k \/ S1 k) /\ (∀ k, S1 k -> ¬ S2 k) /\ S2 b /\ (∃ arr T, Blk w b T arr /\ off + F.E.size <= arr.size) /\ (∀ k, S2 k -> k < w.heap.size) /\
    ∀ (A':Av) (w':World) (S1':Nat->Prop) (y':β) (ds:List Value),F.own A' w' S1' y' ds->(∀ (j:Nat) u,ds[j]? = some u->w'.cell? ⟨b,off+j,none⟩=some u)->Up b off F.E.size w w'->(∀ k,S2 k->k ≠ b->w'.heap[k]? = w.heap[k]?)->Stp A A' w w'->(∀ k,S1' k->¬ S2 k)->Q y' A' w' (fun k=>S2 k\/S1' k)
  lt:=by
    rintro A w S u k ⟨b,off,S1,S2,cs,rfl,rfl,h1,h2,h3,h4,h5,h6,h7⟩ hk
    rcases (h2 k).1 hk with h | h
    . exact h6 k h
    . exact F.lt h1 h
  stab:=by
    rintro A A1 w w1 S u ⟨b,off,S1,S2,cs,rfl,rfl,h1,h2,h3,h4,⟨arr,T,h5,h5'⟩,h6,h7⟩ hb hs
    have hbb:=hb b ((h2 b).2 (.inl h4))
    refine ⟨b,off,S1,S2,cs,rfl,rfl,F.stab h1 (fun k hk=>hb k ((h2 k).2 (.inr hk))) hs,h2,h3,h4,⟨arr,T,hbb.trans h5,h5'⟩,fun k hk=>Nat.lt_of_lt_of_le (h6 k hk) hs.size,fun A' w' S1' y' ds k1 k2 k3 k4 k5 k6=>?_⟩
    obtain ⟨arr0,arr1,T0,j1,j2,j3,j4⟩:=k3
    exact h7 A' w' S1' y' ds k1 k2 ⟨arr0,arr1,T0,hbb.symm.trans j1,j2,j3,j4⟩ (fun k hk hne=>(k4 k hk hne).trans (hb k ((h2 k).2 (.inl hk)))) (hs.trans k5) k6
def fixP (v : Value) (p : SP) : SP where
  P:=fun A w S _=>p.P A w S v
  lt:=fun h hk=>p.lt h hk
  stab:=fun h hb hs=>p.stab h hb hs
section
variable {A A0:Av} {w:World} {ini:List Ob}
theorem IniOK.refix (h:IniOK ini A w) (i:Nat) {u v:Value} {S K:Nat->Prop} {p:SP} (hi:ini[i]? = some ⟨u,S,.gen K (fixP v p)⟩):IniOK (ini.set i ⟨v,S,.gen K p⟩) A w:=
  h.put i hi ⟨v,S,.gen K p⟩ trivial ⟨(h.own i _ hi).1,(h.own i _ hi).2⟩ fun _ h=>h
end
section
variable {P:Program} {R:Reg} {w:World} {d:Option Nat} {t:TypeId} {p:String} {af:Array Edge} {g:Option (Nat × Bool)} {A A0:Av} {α β:Type} {S S0:Nat->Prop}
variable {E:Enc α} {F:OE α} {x ix:Operand} {T e:TypeId} {K:Nat->Prop} {u a v:Value}
theorem zHv {y : Operand} {ty : TypeId} {xs ys : List α} {Q : List α -> Pw} {u0 : Value} {S' : Nat -> Prop} {dd : Nat} (h : zEY (oSl e (oRd E)) A w S a xs Q) (hp : zIN w S' (a, [v])) (hx : zAL R x = v) (hav : ∀ k, S k -> ∀ o, A k o) (hB : ∀ k, S k -> K k) (hBw : ∀ k, w.heap.size <= k -> K k) (hlt : ∀ k, S k -> k < w.heap.size)
    (hy:Rep (eSl E) A w (zAL R y) ys) (ht:P.underlying T=some (.slice e)) (he:ElF P e E.size) (hl:zD4 (xs.length+ys.length)=true) (hT:e ≠ zKO:=by decide) :
    OpR P ⟨some dd,.call ⟨.builtin .append,#[x,y],#[T,T]⟩,ty,p,af,g⟩ R w (zF1 A true u0 S (.gen K (pdP (oSl e (oRd E)) a Q (xs++ys))) (fun _=>.any) w):=by
  obtain ⟨b,off,S1,cs,rfl,h⟩:=h
  obtain ⟨b',o',e0,_,hc⟩:=hp
  injection e0 with e0
  injection e0 with e0
  injection e0 with e1 e2
  subst e1 e2
  have hl1:cs.length=1:=(oSl e (oRd E)).len h.own
  obtain rfl:cs = [v]:=by
    match cs,hl1 with
    | [c],_=>
      have h1:=h.at' 0 c rfl
      have h2:=hc 0 v rfl
      rw [h1] at h2
      injection h2 with h2
      rw [h2]
  obtain ⟨hv,rfl⟩:=zLz (B:=0) (v:=v) h.own rfl (fun _ _=>Nat.zero_le _)
  have hS1:∀ k,zAE v k->S k:=h.sub
  have hbo:¬ zAE v b:=h.out
  refine (zAs (P:=P) (p:=p) (af:=af) (g:=g) (ty:=ty) (dd:=dd) (B:=0) hx hv (fun k hk=>hav k (hS1 k hk)) (Nat.zero_le _) hy ht he hl).mono ?_
  rintro v' w2 ⟨u2,rfl,hch,hsame,hst0,hok,_⟩
  have hch':Ch S w w2:=⟨hch.os,hch.tape,hch.output,hch.size,fun k hk hn=>hch.block k hk fun hk'=>hn (hS1 k hk'),hch.drawn⟩
  have hold:∀ k,S k->¬ zAE v k->w2.heap[k]? = w.heap[k]?:=fun k hk hn=>hch.block k (hlt k hk) hn
  have hsub:∀ k,k<w.heap.size->((S k/\¬ zAE v k)\/zAE u2 k)->S k:=fun k hk hs=>hs.elim (·.1) fun hs=>hS1 k (hsame k hk hs)
  have hst:=zDY (A:=A) hav hch' hsub
  refine ⟨u2,fun k=>(S k/\¬ zAE v k)\/zAE u2 k,rfl,hch',hsub,hst,trivial,⟨fun k hk=>?_,?_⟩,trivial⟩
  . rcases hk with hk | hk
    . exact hB k hk.1
    . rcases Nat.lt_or_ge k w.heap.size with hl2 | hg
      . exact hB k (hS1 k (hsame k hl2 hk))
      . exact hBw k hg
  . obtain ⟨cs2, he2, ho2⟩ := zHo hok hT
    obtain ⟨arr,T0,hblk,hsz⟩:=h.blk
    have hdis:∀ k,zAE u2 k->¬ (S k/\¬ zAE v k):=fun k hk hn=>hn.2 (hsame k (hlt k hn.1) hk)
    have hb2:=hold b h.inb hbo
    refine ⟨b,off,zAE u2,fun k=>S k/\¬ zAE v k,cs2,rfl,he2,OE.stab _ ho2 (fun _ _=>rfl) (zDV fun k o hk=>?_),fun k=>Iff.rfl,hdis,⟨h.inb,hbo⟩,⟨arr,T0,hb2.trans hblk,hsz⟩,fun k hk=>Nat.lt_of_lt_of_le (hlt k hk.1) hch.size,fun A' w' S1' y' ds k1 k2 k3 k4 k5 k6=>?_⟩
    . rcases hk with ⟨h1, h2⟩ | ⟨h1, h2⟩ | h1
      . exact .inl ⟨h1,fun hk=>h2 (hS1 k hk)⟩
      . exact .inl ⟨hav k h1 o,h2⟩
      . exact .inr h1
    . obtain ⟨arr0, arr1, T1, j1, j2, j3, j4⟩ := k3
      exact h.put A' w' S1' y' ds k1 k2 ⟨arr0,arr1,T1,hb2.symm.trans j1,j2,j3,j4⟩ (fun k a1 a2 a3=>(k4 k ⟨a1,a2⟩ a3).trans (hold k a1 a2)) (hst.trans k5) (fun k a1 a2=>Classical.byContradiction fun hn=>k6 k a1 ⟨a2,hn⟩)
theorem zHL {ad : Operand} {T' : TypeId} {y : α} {Q : α -> Pw} {q : SP} (h : (pdP F a Q y).P A w S u) (hx : zAL R x = u) (had : zAL R ad = a) (hav : ∀ k, S k -> ∀ o, A k o) (hB : ∀ k, S k -> K k) (hsz : ∀ w, (sizeOf T').run P w=.ok F.E.size w) (hQ : ∀ A w S, Q y A w S -> q.P A w S u) :
    OpR P ⟨none,.store T' ad x,t,p,af,g⟩ R w (zF1 A false u S (.gen K q) (fun _=>.any) w):=by
  obtain ⟨b,off,S1,S2,cs,rfl,rfl,hv,hS,hd,hb2,⟨arr,T0,hb,hle⟩,hl2,hput⟩:=h
  have hcs:=F.len hv
  have hcl:=F.cells hv
  have hvb:¬ S1 b:=fun h=>hd b h hb2
  obtain ⟨w',h1,h2,h3⟩:=zEw (P:=P) (o:=off) (v:=zAL R x) hsz (by rw [hx,hcl];exact F.oc hv) (by rw [hx,<- Array.length_toList,hcl];exact hcs) hb hle
  rw [hx,hcl] at h3
  refine zGa (w':=w') ?_ ?_
  . simp only [execOp, Instr.storeAt, Instr.sureAddr, had]
    simp [h1]
  . have hch0 := h2.ch
    have hch:Ch S w w':=⟨hch0.os,hch0.tape,hch0.output,hch0.size,fun k hk hn=>hch0.block k hk fun e=>hn ((hS k).2 (.inl (e ▸ hb2))),hch0.drawn⟩
    have hst:=zDY (S'':=S) hav hch fun _ _ h=>h
    have hne:∀ k,S1 k->k ≠ b:=fun k hk e=>hvb (e ▸ hk)
    have hv':F.own (zH9 A S S) w' S1 y cs:=F.stab hv (fun k hk=>h2.block k (hne k hk)) hst
    have hq:=hput _ w' S1 y cs hv' (fun j u hj=>?_) ⟨arr,_,T0,hb,h3,zF4 _ _ _,fun j hj=>?_⟩ (fun k _ hk=>h2.block k hk) hst hd
    . have e : (fun k => S2 k \/ S1 k) = S := by funext k; rw [eq_iff_iff]; exact (hS k).symm
      rw [e] at hq
      exact ⟨_,S,rfl,hch,fun _ _ h=>h,hst,trivial,⟨hB,hQ _ _ _ hq⟩,trivial⟩
    . have hjl := (List.getElem?_eq_some_iff.1 hj).1
      rw [h3.cell,zGx _ _ _ _ (by omega),if_pos (by omega),Nat.add_sub_cancel_left]
      exact hj
    . rw [zGx _ _ _ _ (by omega),if_neg (by omega)]
theorem zIZ {y : α} {pins : List Pin} {T' : TypeId} {lk : Bool} (h : (trP (oPt T' F) y pins).P A w S u) (hx : zAL R x = u) (hav : ∀ k, S k -> ∀ o, A k o) (hag : ∀ w, (isAgg T).run P w=.ok F.E.agg w) (hsz : ∀ w, (sizeOf T).run P w=.ok F.E.size w) :
    OpR P ⟨d,.load T x,t,p,af,g⟩ R w (zF1 A lk u S .nul (fun A=>.rep F.E A y) w):=by
  obtain ⟨⟨cs,e,b,ds,S1,rfl,h1,h2,h3,h4⟩,_⟩:=h
  have hu:u=.pointer (some ⟨b,0,none⟩):=e
  have hst:=zDY (S'':=fun _=>False) hav (Ch.refl S w) fun _ _ h=>h.elim
  refine zAS (v:=F.E.val ds) (w':=w) ?_ ⟨match lk with | true=>_ | false=>_,fun _=>False,by cases lk <;> rfl,Ch.refl _ _,fun _ _ h=>h.elim,hst,trivial,rfl,ds,rfl,F.rep h2 (fun k o hk=>hk.elim (·.1) False.elim) fun k o hk ha=>ha.elim (fun ha=>ha.2 ((h4 k).2 (.inr hk))) False.elim⟩
  have:=zEC (P:=P) (w:=w) (b:=b) (o:=0) hag hsz (F.len h2) F.E.one (fun j v hj=>by rw [h1.cell,Nat.zero_add];simpa using hj)
  simp [execOp,Instr.loadAt,Instr.sureAddr,hx,hu,this,Enc.val]
theorem zKf {o:Oper} {q:SP} {u0:Value} (h:(execOp (zAL R) o).run P w=.ok (.value v) w) (hq:q.P A w S v) (hav:∀ k,S k->∀ o,A k o) (hB:∀ k,S k->K k):OpR P o R w (zF1 A true u0 S (.gen K q) (fun _=>.any) w):=by
  have hst:=zDY (S'':=S) hav (Ch.refl S w) fun _ _ h=>h
  refine zAS h ⟨v,S,rfl,Ch.refl _ _,fun _ _ h=>h,hst,trivial,⟨hB,q.stab hq (fun _ _=>rfl) hst⟩,trivial⟩
theorem zIj {o:Oper} {q:SP} (h:(execOp (zAL R) o).run P w=.ok (.value v) w) (hq:q.P A w (fun _=>False) v) (hB:∀ k,w.heap.size<=k->K k):OpR P o R w (zGB A (.gen K q) (fun _=>.any) w):=by
  refine zAS h ⟨fun _=>False,Fr.refl _,fun _ h=>h.elim,trivial,⟨fun _ h=>h.elim,q.stab hq (fun _ h=>h.elim) (zDV fun b o h=>h.elim id False.elim)⟩,trivial⟩
end
section
variable {α:Type} {F:OE α} {A A0:Av} {w:World} {S K:Nat->Prop}
theorem IniOK.freezeT {T : TypeId} {u : Value} {x : α} {pins : List Pin} {rest : List Ob} {B : Nat} (h : IniOK (⟨u, S, trR K (oPt T F) x pins⟩ :: rest) A w) (hA : AvOK A w) (hAA : ∀ b o, A0 b o -> A b o) (hA0 : ∀ b o, A0 b o -> b < B) (hK : ∀ k, K k -> B <= k) :
    ∃ (A':Av) (b:Nat),u=.pointer (some ⟨b,0,none⟩)/\(∀ b o,A' b o->A b o)/\(∀ b o,A0 b o->A' b o)/\AvOK A' w/\IniOK (ob (.pointer (some ⟨b,0,none⟩)) (.box B T F.E x)::rest) A' w:=by
  have h0:=h.own 0 _ rfl
  obtain ⟨hSK,⟨cs,hu,b,ds,S1,rfl,hb,hF,hnb,hset⟩,_⟩:=h0
  have hu:u=.pointer (some ⟨b,0,none⟩):=hu
  subst hu
  have hSb:S b:=(hset b).2 (.inl rfl)
  refine ⟨fun k o=>A k o/\(S k->k=b),b,rfl,fun _ _ h=>h.1,fun k o hk=>⟨hAA k o hk,fun hs=>?_⟩,fun k o hk=>hA k o hk.1,⟨?_,?_,?_⟩⟩
  . have h1 := hK k (hSK k hs)
    have h2:=hA0 k o hk
    omega
  . intro i p hp
    cases i with
    | zero=>
      obtain rfl:=Option.some.inj hp
      refine ⟨⟨b,rfl,hK b (hSK b hSb),ds,hb,F.rep hF (fun _ _ h=>h.1) fun k o hk h=>?_⟩,fun k hk o=>?_⟩
      . have e : k = b := h.2 ((hset k).2 (.inr hk))
        exact hnb (e ▸ hk)
      . obtain rfl : b = k := hk
        exact ⟨(h.ok 0 _ rfl).2 b hSb o,fun _=>rfl⟩
    | succ i=>
      have hp:rest[i]? = some p:=hp
      have h1:=h.ok (i+1) p hp
      have h2:=h.own (i+1) p hp
      refine ⟨(Res.stabS h1.1 h2 (fun _ _=>rfl) (zDV fun b o h=>h.1)).1,fun k hk o=>⟨h1.2 k hk o,fun hs=>?_⟩⟩
      exact (h.dis (i+1) 0 p _ hp rfl (by omega) k hk hs).elim
  . intro i p hp
    cases i with
    | zero=>
      obtain rfl:=Option.some.inj hp
      exact rfl
    | succ i=>
      have hp:rest[i]? = some p:=hp
      exact (Res.stabS (h.ok (i+1) p hp).1 (h.own (i+1) p hp) (fun _ _=>rfl) (zDV fun b o h=>h.1)).2
  . have hb0:∀ k,zAE (.pointer (some ⟨b,0,none⟩)) k->S k:=fun k hk=>by
      obtain rfl:b=k:=hk
      exact hSb
    intro i j p q hp hq hne k hk hk2
    cases i with
    | zero=>
      obtain rfl:=Option.some.inj hp
      cases j with
      | zero=>exact hne rfl
      | succ j=>exact h.dis 0 (j+1) _ q rfl hq (by omega) k (hb0 k hk) hk2
    | succ i=>
      cases j with
      | zero=>
        obtain rfl:=Option.some.inj hq
        exact h.dis (i+1) 0 p _ hp rfl (by omega) k hk (hb0 k hk2)
      | succ j=>exact h.dis (i+1) (j+1) p q hp hq hne k hk hk2
end
section
variable {α:Type} {F:OE α} {A A0:Av} {w:World} {S K:Nat->Prop}
theorem IniOK.boxR {E : Enc α} {T : TypeId} {x : α} {rest : List Ob} {B b : Nat} (h : IniOK (ob (.pointer (some ⟨b, 0, none⟩)) (.box B T E x) :: rest) A w) :
    IniOK (⟨.pointer (some ⟨b,0,none⟩),zAE (.pointer (some ⟨b,0,none⟩)),trR (geB B) (oPt T (oRd E)) x []⟩::rest) A w:=by
  obtain ⟨b',hu,hB,ds,hb,hr⟩:=(h.ok 0 _ rfl).1
  obtain rfl:b=b':=by injection hu with e;injection e with e;injection e with e
  refine h.put 0 rfl ⟨.pointer (some ⟨b,0,none⟩),zAE (.pointer (some ⟨b,0,none⟩)),trR (geB B) (oPt T (oRd E)) x []⟩ trivial ⟨fun k hk=>?_,⟨[.pointer (some ⟨b,0,none⟩)],rfl,b,ds,fun _=>False,rfl,hb,⟨fun _ h=>h,hr⟩,fun h=>h,fun k=>⟨fun hk=>.inl (Eq.symm hk),fun hk=>hk.elim Eq.symm False.elim⟩⟩,fun q hq=>by cases hq⟩ fun _ h=>h
  obtain rfl:b=k:=hk
  exact hB
theorem IniOK.freezeR {T : TypeId} {u : Value} {x : α} {pins : List Pin} {rest : List Ob} {B : Nat} (h : IniOK (⟨u, S, trR (geB B) (oPt T F) x pins⟩ :: rest) A w) (hA : AvOK A w) (hAA : ∀ b o, A0 b o -> A b o) (hA0 : ∀ b o, A0 b o -> b < B) :
    ∃ (A':Av) (S':Nat->Prop),(∀ b o,A' b o->A b o)/\(∀ b o,A0 b o->A' b o)/\AvOK A' w/\IniOK (⟨u,S',trR (geB B) (oPt T (oRd F.E)) x []⟩::rest) A' w:=by
  obtain ⟨A',b,rfl,h1,h2,h3,h4⟩:=h.freezeT hA hAA hA0 fun _ h=>h
  exact ⟨A',_,h1,h2,h3,h4.boxR⟩
variable {P:Program} {R:Reg} {t:TypeId} {p:String} {af:Array Edge} {g:Option (Nat × Bool)} {x:Operand} {u:Value}
theorem zL6 {β : Type} {E' : Enc β} {ad : Operand} {T' Tb : TypeId} {a0 : β} {y' : α} {Sv ST S0 : Nat -> Prop} {cs : List Value} {pins : List Pin} (h : (trP (oPt Tb (oRd E')) a0 pins).P A w S0 u) (hv : F.own A w Sv y' cs) (hxv : zAL R x = F.E.val cs) (had : zAL R ad = u) (hd : ∀ k, S0 k -> ¬ Sv k) (hST : ∀ k, ST k ↔ S0 k \/ Sv k) (hav : ∀ k, ST k -> ∀ o, A k o)
    (hB:∀ k,ST k->K k) (hsz:∀ w,(sizeOf T').run P w=.ok F.E.size w) (hE:E'.size=F.E.size):OpR P ⟨none,.store T' ad x,t,p,af,g⟩ R w (zF1 A false u ST (trR K (oPt Tb F) y' []) (fun _=>.any) w):=by
  obtain ⟨⟨es,e,b,ds,S1,rfl,hb,⟨hno,hr⟩,h3,h4⟩,_⟩:=h
  have hu:u=.pointer (some ⟨b,0,none⟩):=e
  have hSb:S0 b:=(h4 b).2 (.inl rfl)
  have hcs:=F.len hv
  have hcl:=F.cells hv
  have hvb:¬ Sv b:=hd b hSb
  have hdl:=(E'.len hr).trans hE
  obtain ⟨w',h1,h2,h3'⟩:=zEw (P:=P) (o:=0) (v:=zAL R x) hsz (by rw [hxv,hcl];exact F.oc hv) (by rw [hxv,<- Array.length_toList,hcl];exact hcs) hb (by simp;omega)
  rw [hxv,hcl] at h3'
  refine zGa (w':=w') ?_ ?_
  . simp only [execOp, Instr.storeAt, Instr.sureAddr, had, hu]
    simp [h1]
  . have hch : Ch ST w w' := ⟨h2.ch.os, h2.ch.tape, h2.ch.output, h2.ch.size, fun k hk hn => h2.ch.block k hk fun e => hn ((hST k).2 (.inl (e ▸ hSb))), h2.ch.drawn⟩
    have hsub:∀ k,k<w.heap.size->(k=b\/Sv k)->ST k:=fun k _ hk=>(hST k).2 (hk.elim (fun h=>.inl (h ▸ hSb)) .inr)
    have hst:=zDY hav hch hsub
    have hne:∀ k,Sv k->k ≠ b:=fun k hk e=>hvb (e ▸ hk)
    have hv':F.own (zH9 A ST fun k=>k=b\/Sv k) w' Sv y' cs:=F.stab hv (fun k hk=>h2.block k (hne k hk)) hst
    refine ⟨u,fun k=>k=b\/Sv k,rfl,hch,hsub,hst,trivial,⟨fun k hk=>hB k ((hST k).2 (hk.elim (fun h=>.inl (h ▸ hSb)) .inr)),⟨⟨[.pointer (some ⟨b,0,none⟩)],hu,b,cs,Sv,rfl,?_,hv',hvb,fun k=>Iff.rfl⟩,fun q hq=>by cases hq⟩⟩,trivial⟩
    have e2:lay ds.toArray 0 cs=cs.toArray:=by
      rw [zJk _ _ _ (by omega),List.take_zero,List.nil_append,List.drop_of_length_le (by omega),List.append_nil]
    rw [<- e2]
    exact h3'
theorem zKS {β : Type} {E' : Enc β} {ad : Operand} {T' Tb : TypeId} {a0 : β} {y' : α} {pins : List Pin} {ρ : Nat -> Value} {σ : Nat -> Nat -> Prop} {c1 c2 : Nat} (hne : Nat.beq c1 c2 = false) (h : (trP (oPt Tb (oRd E')) a0 pins).P A w (σ c1) u) (hv : ∃ cs, ρ c2 = F.E.val cs /\ F.own A w (σ c2) y' cs) (hx : zAL R x = ρ c2) (had : zAL R ad = u)
    (hav:∀ d,d ∈ [c1,c2]->∀ k,σ d k->∀ o,A k o) (hdd:∀ d d',d ∈ [c1,c2]->d' ∈ [c1,c2]->d ≠ d'->∀ k,σ d k->¬ σ d' k) (hB1:∀ k,σ c1 k->K k) (hB2:∀ k,σ c2 k->K k) (hsz:∀ w,(sizeOf T').run P w=.ok F.E.size w) (hE:E'.size=F.E.size:=by rfl) :
    OpR P ⟨none,.store T' ad x,t,p,af,g⟩ R w (zF1 A false u (fun k=>∃ d,d ∈ [c1,c2]/\σ d k) (trR K (oPt Tb F) y' []) (fun _=>.any) w):=by
  obtain ⟨cs,e,hv⟩:=hv
  have hm1:c1 ∈ [c1,c2]:=.head _
  have hm2:c2 ∈ [c1,c2]:=.tail _ (.head _)
  have hne':c1 ≠ c2:=fun h=>by subst h;simp at hne
  have hST:∀ k,(∃ d,d ∈ [c1,c2]/\σ d k) ↔ σ c1 k\/σ c2 k:=fun k=>by
    constructor
    . rintro ⟨d, hd, hk⟩
      rcases List.mem_cons.1 hd with hd | hd
      . exact .inl (hd ▸ hk)
      . exact .inr (List.mem_singleton.1 hd ▸ hk)
    . exact fun h=>h.elim (fun h=>⟨c1,hm1,h⟩) fun h=>⟨c2,hm2,h⟩
  exact zL6 h hv (hx.trans e) had (hdd c1 c2 hm1 hm2 hne') hST (fun k ⟨d,hd,h⟩=>hav d hd k h) (fun k hk=>((hST k).1 hk).elim (hB1 k) (hB2 k)) hsz hE
end
section
variable {α:Type} {F:OE α} {A A0:Av} {w:World} {S K:Nat->Prop}
variable {P:Program} {R:Reg} {d:Option Nat} {t T:TypeId} {p:String} {af:Array Edge} {g:Option (Nat × Bool)} {x:Operand} {u v:Value}
end
section
variable {α β:Type} {E:Enc α} {F:Enc β} {A:Av} {w:World} {S:Nat->Prop}
theorem Hole.rdp {b off:Nat} {y:α × β} {S1:Nat->Prop} {cs:List Value} {Q:α × β->Pw} (h:Hole (oRd (ePr E F)) A w S b off y S1 cs Q):Hole (oPr (oRd E) (oRd F)) A w S b off y S1 cs Q:=by
  obtain ⟨hS,c,d,rfl,h1,h2⟩:=h.own
  exact ⟨⟨c, d, fun _ => False, fun _ => False, rfl, ⟨fun _ h => h, h1⟩, ⟨fun _ h => h, h2⟩, fun k => ⟨fun h => (hS k h).elim, fun h => h.elim False.elim False.elim⟩, fun _ h => h.elim⟩, h.at', h.inb, h.out, h.sub, h.blk,
    fun A' w' S1' y' ds k1 k2 k3 k4 k5 k6=>h.put A' w' S1' y' ds (let ⟨c,d,Sa,Sb,e,⟨ha,h1⟩,⟨hb,h2⟩,h3,_⟩:=k1;⟨fun k hk=>((h3 k).1 hk).elim (ha k) (hb k),c,d,e,h1,h2⟩) k2 k3 k4 k5 k6⟩
theorem zEY.rdp {a:Value} {y:α × β} {Q:α × β->Pw} (h:zEY (oRd (ePr E F)) A w S a y Q):zEY (oPr (oRd E) (oRd F)) A w S a y Q:=
  let ⟨b,off,S1,cs,e,h⟩:=h
  ⟨b,off,S1,cs,e,h.rdp⟩
end
end Go.Proofs.YtmgiijdejigdhaaGreat
namespace Go.Proofs.YtmgiijdejigdhaaGreat
open Go.RowKit Go.Maps Go.WideMaps
set_option linter.unusedVariables false
def rdV (v:Value):Option (DataW Value × List MemPlace):=some (.held v,[])
def zIr (P:Program) (k:TypeId) (w:World) (b n:Nat) (f:List UInt8->Option Value):Prop:=
  ∃ D:DataW Value,w.ownsMap P k rdV b n D/\∀ s zd,D.atKey (.string s) zd=(match f s with | none=>zd | some v=>.held v)
variable {P:Program} {k t e:TypeId} {w:World} {b n:Nat} {f:List UInt8->Option Value}
theorem zIr.made (P:Program) (k:TypeId) (w:World):zIr P k (w.alloc (.map #[] 0)) w.heap.size 0 fun _=>none:=
  ⟨_,World.ownsMap_made w P k rdV,fun _ _=>rfl⟩
theorem zIr.lt (h:zIr P k w b n f):b<w.heap.size:=let ⟨_,h,_⟩:=h;h.lt
theorem zIr.lookup (h : zIr P k w b n f) (hk : P.underlying k = some .string) (ht : P.underlying t = some (.map k e)) {z : Value} (hz : (zeroValue e).run P w=.ok z w) {s : ByteArray} (hs : s.size <= maxLen) :
    (Instr.lookup t (.map (some b)) (.string s) false).run P w=.ok ((f s.data.toList).getD z) w:=by
  obtain ⟨D,hD,hf⟩:=h
  obtain ⟨v,ps,hrun,hv⟩:=hD.lookup (Maps.string_keyed hk) ht hz (zd:=.held z) (zp:=[]) rfl (keyOf_string_mk hk hs)
  rw [hf] at hv
  have:v=(f s.data.toList).getD z:=by
    cases hfs:f s.data.toList with
    | none=>rw [hfs] at hv;exact DataW.held.inj (Prod.mk.inj (Option.some.inj hv)).1
    | some u=>rw [hfs] at hv;exact DataW.held.inj (Prod.mk.inj (Option.some.inj hv)).1
  rw [hrun,this]
theorem zIr.same {w':World} (h:zIr P k w b n f) (hb:w'.heap[b]? = w.heap[b]?):zIr P k w' b n f:=by
  obtain ⟨D,⟨es,c,h1,h2⟩,hf⟩:=h
  exact ⟨D,⟨es,c,hb.trans h1,h2⟩,hf⟩
def zJv {α : Type} (P : Program) (k : TypeId) (B : Nat) (T : TypeId) (E : Enc α) (ms : List UInt8 -> List α) (out : List (List UInt8)) (n : Nat) : SP where
  P A w S u := ∃ b f, u=.map (some b) /\ B <= b /\ zIr P k w b n f /\ (∀ i, S i ↔ i = b \/ ∃ s v, s ∉ out /\ f s = some v /\ zAE v i) /\
    (∀ s,s ∉ out->(f s=none->ms s = [])/\∀ v,f s=some v->(Res.vec B T E (ms s)).ok A v w/\¬ zAE v b) /\
    (∀ s s' v v' i,s ∉ out->s' ∉ out->s ≠ s'->f s=some v->f s'=some v'->zAE v i->¬ zAE v' i)
  lt:=by
    rintro A w S u i ⟨b,f,rfl,hB,hm,hS,hr,hd⟩ hi
    rcases (hS i).1 hi with rfl | ⟨s,v,hs,hv,ho⟩
    . exact hm.lt
    . exact Res.lt ((hr s hs).2 v hv).1 rfl ho
  stab:=by
    rintro A A' w w' S u ⟨b,f,rfl,hB,hm,hS,hr,hd⟩ hb hs
    refine ⟨b,f,rfl,hB,hm.same (hb b ((hS b).2 (.inl rfl))),hS,fun s hn=>⟨(hr s hn).1,fun v hv=>⟨?_,((hr s hn).2 v hv).2⟩⟩,hd⟩
    exact Res.stab ((hr s hn).2 v hv).1 (fun i hi=>hb i ((hS i).2 (.inr ⟨s,v,hn,hv,hi⟩))) hs
theorem zJv.made {α : Type} {B : Nat} {T : TypeId} {E : Enc α} {A : Av} (hB : B <= w.heap.size) :
    (zJv P k B T E (fun _=>[]) [] 0).P A (w.alloc (.map #[] 0)) (fun i=>i=w.heap.size) (.map (some w.heap.size)):=
  ⟨_,_,rfl,hB,zIr.made P k w,fun i=>⟨.inl,fun h=>h.elim id fun ⟨s,v,_,h,_⟩=>(by cases h)⟩,fun s _=>⟨fun _=>rfl,fun v h=>(by cases h)⟩,fun s s' v v' i _ _ _ h=>(by cases h)⟩
theorem zJv.lookup {α : Type} {B : Nat} {T : TypeId} {E : Enc α} {A : Av} {ms : List UInt8 -> List α} {out : List (List UInt8)} {S : Nat -> Prop} {u : Value} (h : (zJv P k B T E ms out n).P A w S u)
    (hk:P.underlying k=some .string) (ht:P.underlying t=some (.map k e)) (hz:(zeroValue e).run P w=.ok (.slice none 0 0) w) {s:ByteArray} (hs:s.size<=maxLen) (ho:s.data.toList ∉ out)
    (hnil:(Res.vec B T E ([]:List α)).ok A (.slice none 0 0) w) :
    ∃ v S',(Instr.lookup t u (.string s) false).run P w=.ok v w/\(Res.vec B T E (ms s.data.toList)).ok A v w/\(zJv P k B T E ms (s.data.toList::out) n).P A w S' u/\(∀ i,S i ↔ S' i\/zAE v i)/\∀ i,zAE v i->¬ S' i:=by
  obtain ⟨b,f,rfl,hB,hm,hS,hr,hd⟩:=h
  have hrun:=hm.lookup hk ht hz hs
  refine ⟨(f s.data.toList).getD (.slice none 0 0),fun i=>i=b\/∃ s' v,s' ∉ s.data.toList::out/\f s'=some v/\zAE v i,hrun,?_,⟨b,f,rfl,hB,hm,fun i=>Iff.rfl,fun s' hs'=>hr s' fun h=>hs' (.tail _ h),fun s1 s2 v1 v2 i h1 h2=>hd s1 s2 v1 v2 i (fun h=>h1 (.tail _ h)) fun h=>h2 (.tail _ h)⟩,fun i=>?_,fun i hi h=>?_⟩
  . cases hf : f s.data.toList with
    | none=>rw [(hr _ ho).1 hf];exact hnil
    | some v=>exact ((hr _ ho).2 v hf).1
  . rw [hS i]
    constructor
    . rintro (rfl | ⟨s', v, h1, h2, h3⟩)
      . exact .inl (.inl rfl)
      . by_cases e : s' = s.data.toList
        . subst e;exact .inr (by rw [h2];exact h3)
        . exact .inl (.inr ⟨s',v,fun h=>(List.mem_cons.1 h).elim e h1,h2,h3⟩)
    . rintro ((rfl | ⟨s', v, h1, h2, h3⟩) | h)
      . exact .inl rfl
      . exact .inr ⟨s',v,fun h=>h1 (.tail _ h),h2,h3⟩
      . cases hf : f s.data.toList with
        | none=>rw [hf] at h;exact h.elim
        | some v=>rw [hf] at h;exact .inr ⟨_,v,ho,hf,h⟩
  . cases hf : f s.data.toList with
    | none=>rw [hf] at hi;exact hi.elim
    | some v=>
      rw [hf] at hi
      rcases h with rfl | ⟨s',v',h1,h2,h3⟩
      . exact ((hr _ ho).2 v hf).2 hi
      . exact hd _ s' v v' i ho (fun h=>h1 (.tail _ h)) (fun e=>h1 (e ▸ .head _)) hf h2 hi h3
theorem IniOK.snoc {ini:List Ob} {A:Av} {w:World} (h:IniOK ini A w) (p:Ob) (hok:p.r.ok A p.u w) (hav:∀ k,p.S k->∀ o,A k o) (hown:p.r.own A p.u p.S w) (hd:∀ (j:Nat) q,ini[j]? = some q->∀ k,p.S k->¬ q.S k):IniOK (ini ++ [p]) A w:=by
  have hat:∀ (j:Nat) q,(ini ++ [p])[j]? = some q->ini[j]? = some q\/j=ini.length/\q=p:=fun j q hq=>by
    rcases Nat.lt_or_ge j ini.length with hl | hl
    . rw [List.getElem?_append_left hl] at hq;exact .inl hq
    . rw [List.getElem?_append_right hl] at hq
      cases hj:j-ini.length with
      | zero=>rw [hj] at hq;exact .inr ⟨by omega,(Option.some.inj hq).symm⟩
      | succ m=>rw [hj] at hq;cases hq
  refine ⟨fun j q hq=>?_,fun j q hq=>?_,fun i j q q' hq hq' hne k hk hk'=>?_⟩
  . rcases hat j q hq with h1 | ⟨_, rfl⟩
    . exact h.ok j q h1
    . exact ⟨hok,hav⟩
  . rcases hat j q hq with h1 | ⟨_, rfl⟩
    . exact h.own j q h1
    . exact hown
  . rcases hat i q hq with h1 | ⟨e1, rfl⟩
    . rcases hat j q' hq' with h2 | ⟨_, rfl⟩
      . exact h.dis i j q q' h1 h2 hne k hk hk'
      . exact hd i q h1 k hk' hk
    . rcases hat j q' hq' with h2 | ⟨e2, rfl⟩
      . exact hd j q' h2 k hk hk'
      . exact hne (e1.trans e2.symm)
theorem IniOK.look {α : Type} {ini : List Ob} {A : Av} {K : Nat -> Prop} {B : Nat} {T : TypeId} {E : Enc α} {ms : List UInt8 -> List α} {out : List (List UInt8)} {S : Nat -> Prop} {u : Value} (h : IniOK ini A w) (i : Nat)
    (hi:ini[i]? = some ⟨u,S,.gen K (zJv P k B T E ms out n)⟩) (hk:P.underlying k=some .string) (ht:P.underlying t=some (.map k e)) (hz:(zeroValue e).run P w=.ok (.slice none 0 0) w) {s:ByteArray} (hs:s.size<=maxLen) (ho:s.data.toList ∉ out)
    (hnil:(Res.vec B T E ([]:List α)).ok A (.slice none 0 0) w) :
    ∃ v S',(Instr.lookup t u (.string s) false).run P w=.ok v w/\IniOK (ini.set i ⟨u,S',.gen K (zJv P k B T E ms (s.data.toList::out) n)⟩ ++ [ob v (.vec B T E (ms s.data.toList))]) A w/\(∀ k,zAE v k->S k)/\∀ k,S' k->S k:=by
  obtain ⟨hK,hP⟩:=h.own i _ hi
  obtain ⟨v,S',hrun,hv,hP',hS,hd⟩:=zJv.lookup hP hk ht hz hs ho hnil
  have h1:=h.put i hi ⟨u,S',.gen K (zJv P k B T E ms (s.data.toList::out) n)⟩ trivial ⟨fun j hj=>hK j ((hS j).2 (.inl hj)),hP'⟩ fun j hj=>(hS j).2 (.inl hj)
  refine ⟨v,S',hrun,h1.snoc _ hv (fun j hj=>(h.ok i _ hi).2 j ((hS j).2 (.inr hj))) rfl (fun j q hq m hm hm'=>?_),fun j hj=>(hS j).2 (.inr hj),fun j hj=>(hS j).2 (.inl hj)⟩
  have hl:=(List.getElem?_eq_some_iff.1 hi).1
  by_cases ej:j=i
  . subst ej
    rw [List.getElem?_set_self hl] at hq
    cases hq
    exact hd m hm hm'
  . rw [List.getElem?_set_ne (Ne.symm ej)] at hq
    exact h.dis i j _ q hi hq (Ne.symm ej) m ((hS m).2 (.inr hm)) hm'
section
variable {R:Reg} {m x y:Operand} {d:Option Nat} {ty:TypeId} {pp:String} {af:Array Edge} {A:Av}
end
section
variable {A:Av} {b:Nat} {o:Obj}
end
theorem zKk {R : Reg} {x : Operand} {d : Option Nat} {ty : TypeId} {pp : String} {af : Array Edge} {g : Option (Nat × Bool)} {A : Av} {α : Type} {K Sv : Nat -> Prop} {F : OE α} {y : α} {u z : Value} {pins : List Pin} (h : (trP F y pins).P A w Sv u) (hx : zAL R x = u) (hav : ∀ k, Sv k -> ∀ o, A k o) (hBv : ∀ k, Sv k -> K k) (hB : ∀ k, w.heap.size <= k -> K k)
    (ht:P.underlying t=some (.slice e)) (hsz:∀ w,(sizeOf e).run P w=.ok F.E.size w) (hz:∀ w,(zeroValue e).run P w=.ok z w) (hlim:Nat.ble (1*F.E.size) 16777216=true) :
    OpR P ⟨d,.buildSlice t 1 #[(0,x)],ty,pp,af,g⟩ R w (zF1 A true u Sv (trR K (oSl e F) [y] []) (fun _=>.any) w):=by
  obtain ⟨⟨cs,rfl,h⟩,_⟩:=h
  have hrow:Row F.E av0 w R [x] [y]:=⟨⟨cs,hx,F.rep (A0:=av0) h (fun _ _ h=>h.elim) fun _ _ _ h=>h⟩,trivial⟩
  have hrun:=zGJ (d:=d) (t:=ty) (p:=pp) (af:=af) (g:=g) hrow ht hsz hz (n:=1) rfl hlim
  have hcl:=F.cells h
  have harr:(([x].map (zAL R)).flatMap fun v=>v.cells.toList).toArray=cs.toArray:=by
    show ((zAL R x).cells.toList ++ []).toArray=_
    rw [hx,hcl,List.append_nil]
  rw [harr] at hrun
  have hf:=Fr.alloc w (.cells cs.toArray e)
  have hsub:∀ k,k<w.heap.size->(k=w.heap.size\/Sv k)->Sv k:=fun k hk h=>h.elim (fun e=>absurd e (by omega)) id
  have hst:=zDY (S'':=fun k=>k=w.heap.size\/Sv k) hav (hf.ch Sv) hsub
  refine zAS hrun ⟨_,fun k=>k=w.heap.size\/Sv k,rfl,hf.ch Sv,hsub,hst,trivial,⟨fun k hk=>hk.elim (fun e=>hB k (Nat.le_of_eq (Eq.symm e))) (hBv k),⟨[.slice (some ⟨w.heap.size,0,none⟩) 1 1],rfl,.inr ⟨w.heap.size,1,cs.toArray,fun _=>Sv,rfl,Blk.new w e cs.toArray,Nat.le_refl _,by unfold maxLen;omega,?_,?_,?_,?_,?_⟩⟩,fun q hq=>by cases hq⟩,trivial⟩
  . rw [List.size_toArray,F.len h,Nat.one_mul]
  . intro i y' hy
    cases i with
    | zero=>
      cases hy
      refine ⟨cs,F.stab h (fun k hk=>hf.block k (F.lt h hk)) hst,fun j u hj=>?_⟩
      rw [Nat.zero_mul,Nat.zero_add,List.getElem?_toArray]
      exact hj
    | succ i=>cases hy
  . intro i j k hi hj hne
    have h1:i<1:=hi
    have h2:j<1:=hj
    exact absurd (show i=j by omega) hne
  . intro i _ hk
    exact absurd (F.lt h hk) (Nat.lt_irrefl _)
  . intro k
    exact ⟨fun h=>h.imp id fun h=>⟨0,Nat.zero_lt_one,h⟩,fun h=>h.imp id fun ⟨_,_,h⟩=>h⟩
theorem zL4 {A : Av} {α : Type} {F : OE α} {xs : List α} {y : α} {S1 S2 : Nat -> Prop} {u1 u2 : Value} {ty : TypeId} (h1 : (oSl e F).own A w S1 xs [u1]) (h2 : (oSl e F).own A w S2 [y] [u2]) (hd : ∀ k, S1 k -> ¬ S2 k)
    (ht:P.underlying t=some (.slice e)) (he:ElF P e F.E.size) (hb:e ≠ zKO) (hl:zD4 (xs.length+1)=true) :
    ∃ v' w' S',(Builtin.append_ #[t,t] ty #[u1,u2]).run P w=.ok v' w'/\Ch S1 w w'/\(∀ k,k<w.heap.size->S' k->S1 k\/S2 k)/\∀ A',Stp A A' w w'->(oSl e F).own A' w' S' (xs ++ [y]) [v']:=by
  obtain ⟨inf,z,b,hi,hz,hs,hby,hzs,hs0,hb4⟩:=he
  have hl:=zGh hl
  have hbytes:(xs.length+1)*b<=140737488355328:=by
    have:=Nat.mul_le_mul hl hb4
    omega
  have hm:xs.length+1<=maxLen:=by unfold maxLen;omega
  obtain ⟨h0,_,_⟩ | ⟨g2,c2,arr2,Si2,e2,hk2,_,_,hz2,hE2⟩:=h2
  . exact absurd ‹[y] = []› (by simp)
  obtain rfl:=(List.cons.inj e2).1
  obtain ⟨ds,hds,hat2⟩:=hE2.el 0 y rfl
  have hdl:ds.length=F.E.size:=F.len hds
  have hrow : ∃ (cs : List Value) (Si : Nat -> Nat -> Prop), RowM w 0 e F.E.size u1 xs.length cs /\ (∀ k, zAE u1 k -> S1 k) /\ (∀ i x, xs[i]? = some x -> ∃ ds, F.own A w (Si i) x ds /\ ∀ (j : Nat) u, ds[j]? = some u -> cs[i * F.E.size + j]? = some u) /\
      (∀ i j k,i<xs.length->j<xs.length->i ≠ j->Si i k->¬ Si j k)/\(∀ i k,i<xs.length->Si i k->¬ zAE u1 k)/\(∀ i k,i<xs.length->Si i k->S1 k)/\∀ k,S1 k->zAE u1 k\/∃ i,i<xs.length/\Si i k:=by
    rcases h1 with ⟨e1,rfl,hS⟩ | ⟨g,c,arr,Si,e1,hk,hlc,hcm,hsz,hE⟩
    . obtain rfl := (List.cons.inj e1).1
      exact ⟨[],fun _ _=>False,⟨by simp,.inl ⟨rfl,rfl⟩⟩,fun k h=>h.elim,fun i x h=>by simp at h,fun i j k h=>absurd h (Nat.not_lt_zero _),fun i k h=>absurd h (Nat.not_lt_zero _),fun i k h=>absurd h (Nat.not_lt_zero _),fun k h=>absurd h (hS k)⟩
    . obtain rfl := (List.cons.inj e1).1
      have hle:xs.length*F.E.size<=arr.size:=hsz ▸ Nat.mul_le_mul_right _ hlc
      refine ⟨arr.toList.take (xs.length*F.E.size),Si,⟨by have e0:arr.toList.length=arr.size:=Array.length_toList;rw [List.length_take,e0,Nat.min_eq_left hle],.inr ⟨g,c,arr,rfl,Nat.zero_le _,BlkM.of hk,hlc,hcm,hsz,rfl⟩⟩,fun k hk=>(hE.set k).2 (.inl (Eq.symm hk)),fun i x hx=>?_,hE.dis,fun i k hi hk h=>hE.out i hi (show Si i g from (show g=k from h) ▸ hk),fun i k hi hk=>(hE.set k).2 (.inr ⟨i,hi,hk⟩),fun k hk=>((hE.set k).1 hk).imp (fun h=>(Eq.symm h)) id⟩
      obtain ⟨ds',h3,h4⟩:=hE.el i x hx
      refine ⟨ds',h3,fun j u hj=>?_⟩
      have hil:i<xs.length:=(List.getElem?_eq_some_iff.1 hx).1
      have hjl:j<F.E.size:=by have:=(List.getElem?_eq_some_iff.1 hj).1;rw [F.len h3] at this;exact this
      have hlt:i*F.E.size+j<xs.length*F.E.size:=by
        have:=Nat.mul_le_mul_right F.E.size (show i+1<=xs.length from hil)
        rw [Nat.add_mul,Nat.one_mul] at this
        omega
      rw [List.getElem?_take_of_lt hlt,Array.getElem?_toList]
      exact h4 j u hj
  obtain ⟨cs,Si,hown,hu1,hel,hdis,hout,hin,hcov⟩:=hrow
  obtain ⟨v',w',hrun,hown',hch,hsame⟩:=zHz (P:=P) (T:=t) (ty:=ty) w ht hi hz hs hby hzs hs0 hown ⟨g2,0,none⟩ 1 c2 ds (by rw [hdl,Nat.one_mul]) (fun j v hj=>by
    have:=hat2 j v hj
    rw [Nat.zero_mul,Nat.zero_add] at this
    rw [zD1]
    show w.cell? ⟨g2,0+j,none⟩=_
    rw [Nat.zero_add]
    exact (hk2.cell _).trans this) (F.oc hds) hm hbytes (Nat.zero_le _)
  obtain ⟨hcl,hv⟩:=hown'
  have hcl1:=hown.1
  rcases hv with ⟨_,h⟩ | ⟨g',cap,cur,rfl,_,hk',hnc,hcm',hsz',htk⟩
  . omega
  let Si':Nat->Nat->Prop:=fun i=>if i<xs.length then Si i else Si2 0
  have hS2:∀ k,Si2 0 k->S2 k:=fun k hk=>(hE2.set k).2 (.inr ⟨0,Nat.zero_lt_one,hk⟩)
  have hg':∀ k,k<w.heap.size->k=g'->zAE u1 k:=fun k hk e=>hsame k hk (show g'=k from e.symm)
  have hp:∀ i,i<xs.length->Si' i=Si i:=fun i c=>if_pos c
  have hq:∀ i,¬ i<xs.length->Si' i=Si2 0:=fun i c=>if_neg c
  have hcur:∀ (m:Nat) u,(cs++ds)[m]? = some u->cur[m]? = some u:=fun m u h=>by
    rw [<- htk,List.getElem?_take] at h
    split at h
    . rwa [Array.getElem?_toList] at h
    . cases h
  refine ⟨_,w',fun k=>k=g'\/(∃ i,i<xs.length+1/\Si' i k),hrun,⟨hch.os,hch.tape,hch.output,hch.size,fun k hk hn=>hch.block k hk fun h=>hn (hu1 k h),hch.drawn⟩,fun k hk h=>?_,fun A' hst=>.inr ⟨g',cap,cur,Si',by rw [List.length_append];rfl,hk'.plain hb,by rw [List.length_append];exact hnc,hcm',hsz',⟨fun i x hx=>?_,fun i j k hi hj hne h h'=>?_,fun i hi h=>?_,fun k=>by rw [List.length_append];exact Iff.rfl⟩⟩⟩
  . rcases h with h | ⟨i, _, h⟩
    . exact .inl (hu1 k (hg' k hk h))
    . by_cases c : i < xs.length
      . rw [hp i c] at h;exact .inl (hin i k c h)
      . rw [hq i c] at h;exact .inr (hS2 k h)
  . by_cases c : i < xs.length
    . rw [List.getElem?_append_left c] at hx
      obtain ⟨d1,h3,h4⟩:=hel i x hx
      refine ⟨d1,by rw [hp i c];exact F.stab h3 (fun k hk=>hch.block k (F.lt h3 hk) (hout i k c hk)) hst,fun j u hj=>hcur _ _ ?_⟩
      have h5:=h4 j u hj
      rw [List.getElem?_append_left (List.getElem?_eq_some_iff.1 h5).1]
      exact h5
    . have hi' := (List.getElem?_eq_some_iff.1 hx).1
      rw [List.length_append] at hi'
      have hi'':i<xs.length+1:=hi'
      obtain rfl:i=xs.length:=by omega
      rw [List.getElem?_append_right (Nat.le_refl _),Nat.sub_self] at hx
      cases hx
      refine ⟨ds,by rw [hq _ c];exact F.stab hds (fun k hk=>hch.block k (F.lt hds hk) fun h=>hd k (hu1 k h) (hS2 k hk)) hst,fun j u hj=>hcur _ _ ?_⟩
      rw [List.getElem?_append_right (by rw [hcl1];exact Nat.le_add_right _ _),hcl1,Nat.add_sub_cancel_left]
      exact hj
  . rw [List.length_append] at hi hj
    have hi':i<xs.length+1:=hi
    have hj':j<xs.length+1:=hj
    by_cases ci:i<xs.length
    . rw [hp i ci] at h
      by_cases cj:j<xs.length
      . rw [hp j cj] at h';exact hdis i j k ci cj hne h h'
      . rw [hq j cj] at h';exact hd k (hin i k ci h) (hS2 k h')
    . rw [hq i ci] at h
      by_cases cj:j<xs.length
      . rw [hp j cj] at h';exact hd k (hin j k cj h') (hS2 k h)
      . omega
  . by_cases ci : i < xs.length
    . rw [hp i ci] at h
      obtain ⟨d1,h3,_⟩:=hel i _ (List.getElem?_eq_getElem ci)
      exact hout i g' ci h (hg' g' (F.lt h3 h) rfl)
    . rw [hq i ci] at h
      exact hd g' (hu1 g' (hg' g' (F.lt hds h) rfl)) (hS2 g' h)
end Go.Proofs.YtmgiijdejigdhaaGreat
namespace Go.Proofs.YtmgiijdejigdhaaGreat
open Go.RowKit
set_option linter.unusedVariables false
section
variable {P:Program} {R:Reg} {w:World} {p:String} {af:Array Edge} {g:Option (Nat × Bool)} {A:Av} {α:Type} {F:OE α} {x x':Operand} {T e:TypeId} {K:Nat->Prop} {a v:Value}
end
section
variable {P:Program} {R:Reg} {w:World} {d:Option Nat} {t:TypeId} {p:String} {af:Array Edge} {g:Option (Nat × Bool)} {A:Av} {α:Type} {E:Enc α} {x:Operand} {u:Value}
end
theorem zLR {α : Type} {n : Nat} : ∀ (L : List (List α)) (i j : Nat), (∀ d ∈ L, d.length = n) -> j < n -> L.flatten[i * n + j]? = (L[i]?).bind fun d => d[j]?
  | [],i,j,_,_=>by simp
  | d::L,0,j,h,hj=>by
    have hd:=h d (List.mem_cons_self ..)
    rw [List.flatten_cons,Nat.zero_mul,Nat.zero_add,List.getElem?_append_left (by omega)]
    rfl
  | d::L,i+1,j,h,hj=>by
    have hd:=h d (List.mem_cons_self ..)
    rw [List.flatten_cons,Nat.add_mul,Nat.one_mul,List.getElem?_append_right (by omega),show i*n+n+j-d.length=i*n+j by omega,zLR L i j (fun x hx=>h x (List.mem_cons_of_mem _ hx)) hj]
    rfl
theorem zLX {α : Type} {n : Nat} : ∀ (L : List (List α)), (∀ d ∈ L, d.length = n) -> L.flatten.length = L.length * n
  | [],_=>by simp
  | d::L,h=>by
    have hd:=h d (List.mem_cons_self ..)
    rw [List.flatten_cons,List.length_append,zLX L fun x hx=>h x (List.mem_cons_of_mem _ hx),hd,List.length_cons,Nat.add_mul,Nat.one_mul,Nat.add_comm]
theorem zKN {α : Type} {n : Nat} : ∀ (L : List (List α)) (i : Nat), (∀ d ∈ L, d.length = n) -> (L.take i).flatten = L.flatten.take (i * n)
  | [],i,_=>by simp
  | d::L,0,h=>by simp
  | d::L,i+1,h=>by
    have hd:=h d (List.mem_cons_self ..)
    rw [List.take_succ_cons,List.flatten_cons,List.flatten_cons,zKN L i fun x hx=>h x (List.mem_cons_of_mem _ hx),List.take_append,hd,Nat.add_mul,Nat.one_mul,List.take_of_length_le (l:=d) (by omega),Nat.add_sub_cancel]
theorem zK1 {α : Type} {n : Nat} : ∀ (L : List (List α)) (i : Nat), (∀ d ∈ L, d.length = n) -> (L.drop i).flatten = L.flatten.drop (i * n)
  | [],i,_=>by simp
  | d::L,0,h=>by simp
  | d::L,i+1,h=>by
    have hd:=h d (List.mem_cons_self ..)
    rw [List.drop_succ_cons,List.flatten_cons,zK1 L i fun x hx=>h x (List.mem_cons_of_mem _ hx),List.drop_append,hd,Nat.add_mul,Nat.one_mul,List.drop_of_length_le (l:=d) (by omega),Nat.add_sub_cancel,List.nil_append]
section
variable {α:Type} {F:OE α} {A:Av} {w:World} {T:TypeId} {S:Nat->Prop}
abbrev Prt (α:Type):=α × (Nat->Prop) × List Value
structure EL (F : OE α) (A : Av) (w : World) (L : List (Prt α)) : Prop where
  own:∀ t ∈ L,F.own A w t.2.1 t.1 t.2.2
  dis:L.Pairwise fun s t=>∀ k,s.2.1 k->¬ t.2.1 k
def csOf (L:List (Prt α)):List Value:=(L.map (·.2.2)).flatten
def inL (L:List (Prt α)) (k:Nat):Prop:=∃ t ∈ L,t.2.1 k
theorem EL.clen {L:List (Prt α)} (h:EL F A w L):∀ d ∈ L.map (·.2.2),d.length=F.E.size:=fun d hd=>by
  obtain ⟨t,ht,rfl⟩:=List.mem_map.1 hd
  exact F.len (h.own t ht)
theorem EL.len {L:List (Prt α)} (h:EL F A w L):(csOf L).length=L.length*F.E.size:=by
  unfold csOf
  rw [zLX _ h.clen,List.length_map]
theorem EL.oc {L:List (Prt α)} (h:EL F A w L):∀ c ∈ csOf L,c.oneCell'=true:=fun c hc=>by
  obtain ⟨d,hd,hc⟩:=List.mem_flatten.1 hc
  obtain ⟨t,ht,rfl⟩:=List.mem_map.1 hd
  exact F.oc (h.own t ht) c hc
theorem EL.take {L:List (Prt α)} (h:EL F A w L) (i:Nat):csOf (L.take i)=(csOf L).take (i*F.E.size):=by
  unfold csOf
  rw [<- zKN _ _ h.clen,List.map_take]
theorem EL.drop {L:List (Prt α)} (h:EL F A w L) (i:Nat):csOf (L.drop i)=(csOf L).drop (i*F.E.size):=by
  unfold csOf
  rw [<- zK1 _ _ h.clen,List.map_drop]
theorem zFb (L M:List (Prt α)):csOf (L++M)=csOf L++csOf M:=by
  unfold csOf
  rw [List.map_append,List.flatten_append]
theorem EL.sub {L M:List (Prt α)} (h:EL F A w L) (hs:M.Sublist L):EL F A w M:=⟨fun t ht=>h.own t (hs.subset ht),h.dis.sublist hs⟩
theorem zL7 {L M:List (Prt α)} (hs:M.Sublist L) {k:Nat} (h:inL M k):inL L k:=let ⟨t,ht,hk⟩:=h;⟨t,hs.subset ht,hk⟩
theorem EL.stab {A':Av} {w':World} {L:List (Prt α)} (h:EL F A w L) (hb:∀ k,inL L k->w'.heap[k]? = w.heap[k]?) (hs:Stp A A' w w'):EL F A' w' L:=⟨fun t ht=>F.stab (h.own t ht) (fun k hk=>hb k ⟨t,ht,hk⟩) hs,h.dis⟩
theorem EL.lt {L:List (Prt α)} (h:EL F A w L) {k:Nat} (hk:inL L k):k<w.heap.size:=let ⟨t,ht,hk⟩:=hk;F.lt (h.own t ht) hk
theorem EL.ins {L:List (Prt α)} (h:EL F A w L) (i:Nat) {t:Prt α} (ht:F.own A w t.2.1 t.1 t.2.2) (hd:∀ k,t.2.1 k->¬ inL L k):EL F A w (L.take i++t::L.drop i):=by
  have hp:(L.take i++t::L.drop i).Perm (t::L):=by
    have:=List.perm_middle (a:=t) (l₁:=L.take i) (l₂:=L.drop i)
    rwa [List.take_append_drop] at this
  refine ⟨fun s hs=>?_,(hp.pairwise_iff fun {x y} hxy k hy hx=>hxy k hx hy).2 (List.pairwise_cons.2 ⟨fun s hs k hk hk'=>hd k hk ⟨s,hs,hk'⟩,h.dis⟩)⟩
  rcases List.mem_cons.1 (hp.mem_iff.1 hs) with rfl | hs
  . exact ht
  . exact h.own s hs
theorem zNA {L:List (Prt α)} {i:Nat} {t:Prt α} {k:Nat} (h:inL (L.take i++t::L.drop i) k):t.2.1 k\/inL L k:=by
  obtain ⟨s,hs,hk⟩:=h
  rcases List.mem_append.1 hs with hs | hs
  . exact .inr ⟨s,List.mem_of_mem_take hs,hk⟩
  . rcases List.mem_cons.1 hs with rfl | hs
    . exact .inl hk
    . exact .inr ⟨s,List.mem_of_mem_drop hs,hk⟩
theorem zNV {g:Nat} {arr:Array Value} {xs:List α} {Si:Nat->Nat->Prop} (h:Els F A w S g arr xs Si) (hsz:xs.length*F.E.size<=arr.size):∃ L:List (Prt α),EL F A w L/\L.map (·.1)=xs/\arr.toList.take (L.length*F.E.size)=csOf L/\∀ k,inL L k ↔ ∃ i,i<xs.length/\Si i k:=by
  have key:∀ m,m<=xs.length->∃ L:List (Prt α),L.map (·.1)=xs.take m/\∀ (i:Nat) t,L[i]? = some t->t.2.1=Si i/\F.own A w t.2.1 t.1 t.2.2/\∀ (j:Nat) u,t.2.2[j]? = some u->arr[i*F.E.size+j]? = some u:=by
    intro m
    induction m with
    | zero=>intro _;exact ⟨[],rfl,fun i t h=>by simp at h⟩
    | succ m ih=>
      intro hm
      obtain ⟨L,h1,h2⟩:=ih (by omega)
      have hx:=List.getElem?_eq_getElem (show m<xs.length by omega)
      obtain ⟨ds,h3,h4⟩:=h.el m _ hx
      have hl:L.length=m:=by
        have:=congrArg List.length h1
        rw [List.length_map,List.length_take] at this
        omega
      refine ⟨L ++ [(_,Si m,ds)],by rw [List.map_append,h1,List.take_add_one,hx];rfl,fun i t ht=>?_⟩
      rcases Nat.lt_or_ge i L.length with hi | hi
      . rw [List.getElem?_append_left hi] at ht
        exact h2 i t ht
      . have hi2 := (List.getElem?_eq_some_iff.1 ht).1
        rw [List.length_append] at hi2
        have hi2:i<L.length+1:=hi2
        obtain rfl:i=L.length:=by omega
        rw [List.getElem?_append_right (Nat.le_refl _),Nat.sub_self] at ht
        cases ht
        rw [hl]
        exact ⟨rfl,h3,h4⟩
  obtain ⟨L,h1,h2⟩:=key xs.length (Nat.le_refl _)
  rw [List.take_length] at h1
  have hl:L.length=xs.length:=by rw [<- h1,List.length_map]
  have hEL:EL F A w L:=by
    refine ⟨fun t ht=>?_,List.pairwise_iff_getElem.2 fun i j hi hj hij k hk hk'=>?_⟩
    . obtain ⟨i, hi⟩ := List.getElem?_of_mem ht
      exact (h2 i t hi).2.1
    . rw [(h2 i _ (List.getElem?_eq_getElem hi)).1] at hk
      rw [(h2 j _ (List.getElem?_eq_getElem hj)).1] at hk'
      exact h.dis i j k (by omega) (by omega) (by omega) hk hk'
  refine ⟨L,hEL,h1,?_,fun k=>⟨fun ⟨t,ht,hk⟩=>?_,fun ⟨i,hi,hk⟩=>?_⟩⟩
  . refine List.ext_getElem? fun p => ?_
    have hcl:=hEL.len
    rcases Nat.lt_or_ge p (L.length*F.E.size) with hp | hp
    . rw [List.getElem?_take_of_lt hp, Array.getElem?_toList]
      have hpos:0<F.E.size:=by
        rcases Nat.eq_zero_or_pos F.E.size with e | e
        . rw [e] at hp;omega
        . exact e
      have hdm:=Nat.div_add_mod p F.E.size
      have hmod:=Nat.mod_lt p hpos
      have hdiv:p / F.E.size<L.length:=(Nat.div_lt_iff_lt_mul hpos).2 hp
      have ht:=List.getElem?_eq_getElem hdiv
      obtain ⟨_,h5,h6⟩:=h2 _ _ ht
      have hd:=F.len h5
      have hu:=List.getElem?_eq_getElem (l:=(L[p / F.E.size]).2.2) (show p % F.E.size<_ by omega)
      have e:p=p / F.E.size*F.E.size+p % F.E.size:=by rw [Nat.mul_comm];exact hdm.symm
      unfold csOf
      rw [e,zLR _ _ _ hEL.clen hmod,List.getElem?_map,ht,h6 _ _ hu]
      exact hu.symm
    . rw [List.getElem?_eq_none_iff.2 (by rw [List.length_take];omega),List.getElem?_eq_none_iff.2 (by omega)]
  . obtain ⟨i, hi⟩ := List.getElem?_of_mem ht
    rw [(h2 i t hi).1] at hk
    exact ⟨i,by have:=(List.getElem?_eq_some_iff.1 hi).1;omega,hk⟩
  . have ht := List.getElem?_eq_getElem (show i < L.length by omega)
    refine ⟨_,List.mem_of_getElem? ht,?_⟩
    rw [(h2 i _ ht).1]
    exact hk
theorem zJU {xs : List α} {u : Value} (h : (oSl T F).own A w S xs [u]) : ∃ L : List (Prt α), EL F A w L /\ L.map (·.1) = xs /\ ((u=.slice none 0 0 /\ L = [] /\ ∀ k, ¬ S k) \/
    ∃ g c arr,u=.slice (some ⟨g,0,none⟩) L.length c/\Blk w g T arr/\L.length<=c/\c<=maxLen/\arr.size=c*F.E.size/\arr.toList.take (L.length*F.E.size)=csOf L/\¬ inL L g/\∀ k,S k ↔ k=g\/inL L k):=by
  rcases h with ⟨e,rfl,hS⟩ | ⟨g,c,arr,Si,e,hk,hlc,hcm,hsz,hE⟩
  . obtain rfl := (List.cons.inj e).1
    exact ⟨[],⟨fun t h=>by simp at h,.nil⟩,rfl,.inl ⟨rfl,rfl,hS⟩⟩
  . obtain rfl := (List.cons.inj e).1
    obtain ⟨L,h1,h2,h3,h4⟩:=zNV hE (hsz ▸ Nat.mul_le_mul_right _ hlc)
    have hl:xs.length=L.length:=by rw [<- h2,List.length_map]
    refine ⟨L,h1,h2,.inr ⟨g,c,arr,by rw [hl],hk,by omega,hcm,hsz,h3,fun hg=>?_,fun k=>?_⟩⟩
    . obtain ⟨i, hi, hg⟩ := (h4 g).1 hg
      exact hE.out i hi hg
    . rw [hE.set k,h4 k]
theorem zIH {L : List (Prt α)} {g c : Nat} {arr : Array Value} (h : EL F A w L) (hk : Blk w g T arr) (hlc : L.length <= c) (hcm : c <= maxLen) (hsz : arr.size = c * F.E.size) (hcs : arr.toList.take (L.length * F.E.size) = csOf L) (hg : ¬ inL L g) :
    (oSl T F).own A w (fun k=>k=g\/inL L k) (L.map (·.1)) [.slice (some ⟨g,0,none⟩) L.length c]:=by
  refine .inr ⟨g,c,arr,fun i k=>∃ t,L[i]? = some t/\t.2.1 k,by rw [List.length_map],hk,by rw [List.length_map];exact hlc,hcm,hsz,⟨fun i x hx=>?_,fun i j k hi hj hne h1 h2=>?_,fun i hi h1=>?_,fun k=>?_⟩⟩
  . rw [List.getElem?_map] at hx
    obtain ⟨t,ht,rfl⟩:=Option.map_eq_some_iff.1 hx
    have hm:=h.own t (List.mem_of_getElem? ht)
    have e:(fun k=>∃ t,L[i]? = some t/\t.2.1 k)=t.2.1:=funext fun k=>propext ⟨fun ⟨s,hs,h⟩=>by rw [ht] at hs;cases hs;exact h,fun h=>⟨t,ht,h⟩⟩
    refine ⟨t.2.2,?_,fun j u hj=>?_⟩
    . show F.own A w (fun k => ∃ t, L[i]? = some t /\ t.2.1 k) t.1 t.2.2
      rw [e]
      exact hm
    . have hjl := (List.getElem?_eq_some_iff.1 hj).1
      rw [F.len hm] at hjl
      have hil:=(List.getElem?_eq_some_iff.1 ht).1
      have hlt:i*F.E.size+j<L.length*F.E.size:=by
        have:=Nat.mul_le_mul_right F.E.size (show i+1<=L.length from hil)
        rw [Nat.add_mul,Nat.one_mul] at this
        omega
      have:=congrArg (fun l:List Value=>l[i*F.E.size+j]?) hcs
      rw [List.getElem?_take_of_lt hlt,Array.getElem?_toList] at this
      rw [this]
      unfold csOf
      rw [zLR _ _ _ h.clen hjl,List.getElem?_map,ht]
      exact hj
  . obtain ⟨s, hs, h1⟩ := h1
    obtain ⟨t,ht,h2⟩:=h2
    obtain ⟨hi,rfl⟩:=List.getElem?_eq_some_iff.1 hs
    obtain ⟨hj,rfl⟩:=List.getElem?_eq_some_iff.1 ht
    rcases Nat.lt_or_gt_of_ne hne with hlt | hlt
    . exact List.pairwise_iff_getElem.1 h.dis i j hi hj hlt k h1 h2
    . exact List.pairwise_iff_getElem.1 h.dis j i hj hi hlt k h2 h1
  . obtain ⟨s, hs, h1⟩ := h1
    exact hg ⟨s,List.mem_of_getElem? hs,h1⟩
  . constructor
    . rintro (h1 | ⟨t, ht, h1⟩)
      . exact .inl h1
      . obtain ⟨i, hi⟩ := List.getElem?_of_mem ht
        exact .inr ⟨i,by rw [List.length_map];exact (List.getElem?_eq_some_iff.1 hi).1,t,hi,h1⟩
    . rintro (h1 | ⟨i, _, t, ht, h1⟩)
      . exact .inl h1
      . exact .inr ⟨t,List.mem_of_getElem? ht,h1⟩
end
end Go.Proofs.YtmgiijdejigdhaaGreat
namespace Go.Proofs.YtmgiijdejigdhaaGreat
open Go.RowKit Go.Lib
set_option linter.unusedVariables false
theorem zEo {b : Nat} {T : TypeId} : ∀ (vs : List Value) (o : Nat) {w : World} {arr : Array Value}, Blk w b T arr -> ∃ arr', Blk (w.setCells b o vs) b T arr' /\ arr'.size = arr.size
  | [],o,w,arr,h=>⟨arr,h,rfl⟩
  | v::vs,o,w,arr,h=>by
    obtain ⟨a,h1,h2⟩:=zEo vs (o+1) (h.put o v)
    refine ⟨a,?_,by rw [h2,Array.size_setIfInBounds]⟩
    rw [World.setCells]
    exact h1
theorem zGT (b : Nat) : ∀ (vs : List Value) (o : Nat) (w : World), Wr b w (w.setCells b o vs)
  | [],o,w=>Wr.refl b w
  | v::vs,o,w=>by
    rw [World.setCells]
    exact (Wr.setCell w b o v).trans (zGT b vs (o+1) _)
theorem zP3 {w:World} {b o:Nat} {vs:List Value}:Wr b w (w.setCells b o vs).drew:=by
  have h:=zGT b vs o w
  exact ⟨h.os,h.tape,h.output,h.size,h.block,fun k=>Nat.le_trans (h.drawn k) (Nat.le_succ _)⟩
theorem zK6 {w:World} {b:Nat} {T:TypeId} {arr:Array Value} (h:Blk w b T arr):w.shape? b=some (T,arr.size):=by
  unfold World.shape?
  rw [show w.heap[b]? = _ from h]
abbrev zIS:Value:=.agg #[.int .i64 0,.slice none 0 0]
theorem zHV {P : Program} (w : World) (dT sT ty elem : TypeId) (size : Nat) (b o dLen dCap : Nat) (a : Addr) (sLen sCap : Nat) (cs : List Value)
    (hu:P.underlying dT=some (.slice elem)) (hs:(P.info? elem).map (·.size)=some size) (hn:cs.length=Nat.min sLen dLen*size)
    (hsrc:∀ j v,cs[j]? = some v->w.cell? (a.add j)=some v) (hc:∀ j,j<cs.length->(w.cell? ⟨b,o+j,none⟩).isSome=true) (hf:∀ j,j<cs.length->w.frozen? ⟨b,o+j,none⟩=false) (h1:∀ v ∈ cs,v.oneCell'=true) :
    (Builtin.copy_ #[dT,sT] ty #[.slice (some ⟨b,o,none⟩) dLen dCap,.slice (some a) sLen sCap]).run P w=.ok (goInt (Nat.min sLen dLen)) (w.setCells b o cs):=by
  have hl:=run_loadCells_list (P:=P) w a cs hsrc
  have hst:=run_storeCells_cells (P:=P) b o cs 0 w (by simpa using hc) (by simpa using hf) h1
  cases hq:P.info? elem with
  | none=>simp [hq] at hs
  | some i=>
    have hi:i.size=size:=by simpa [hq] using hs
    simp [Builtin.copy_,run_underlying hu,Builtin.lenOf,Builtin.firstCells,sizeOf,typeInfo,hq,hi,<- hn,hl,hst]
theorem zK8 {P : Program} (w : World) {o : Oper} {a : Act} {K : Act -> World -> Prop} {Q : Exit -> Act -> World -> Prop} (d s : Operand) (t t' : TypeId)
    (ho:o.op=.call { callee:=.builtin .copy,args:=#[d,s],argTypes:=#[t,t'] }) (v u:Value) (hd:a.eval d=v) (hs:a.eval s=u) {v':Value} {w':World}
    (hr:(Builtin.copy_ #[t,t'] o.type #[v,u]).run P w=.ok v' w') (h:K (a.put o.dst v') w'):o.wp P a w K Q:=by
  unfold Oper.wp execOp
  simp only [ho,resolve,invoke,builtin,Sem.run_bind,Sem.run_pure,Result.andThen_ok,List.map_toArray,List.map_cons,List.map_nil,hd,hs,hr]
  exact h
theorem zFw {P : Program} (w : World) {ops : Array Oper} {rest : List Oper} {o : Oper} {a : Act} {Q : Exit -> Act -> World -> Prop} (hgd : o.guard = none) (d s : Operand) (t t' : TypeId)
    (ho:o.op=.call { callee:=.builtin .copy,args:=#[d,s],argTypes:=#[t,t'] }) (v u:Value) (hd:a.eval d=v) (hs:a.eval s=u) {v':Value} {w':World}
    (hr:(Builtin.copy_ #[t,t'] o.type #[v,u]).run P w=.ok v' w') (h:wpList P ops Q rest (a.put o.dst v') w'):wpList P ops Q (o::rest) a w:=
  wpList_plain hgd fun _ hK=>zK8 w d s t t' ho v u hd hs hr (hK _ _ h)
theorem zGw {P : Program} {ops : Array Oper} {o : Oper} {a : Act} {w : World} {K : Act -> World -> Prop} {Q : Exit -> Act -> World -> Prop} {E : Prop}
    (hg:o.guard=none) (d x:Operand) (dT sT:TypeId) (hop:o.op=Op.call { callee:=Callee.builtin Builtin.copy,args:=#[d,x],argTypes:=#[dT,sT] })
    (v u:Value) (hd:a.eval d=v) (hx:a.eval x=u) {v':Value} {w':World} (hr:(Builtin.copy_ #[dT,sT] o.type #[v,u]).run P w=.ok v' w') (hK:K (a.put o.dst v') w') :
    if Region.wanted o (yielded ops a.tmps)=true then Oper.wp P o a w K Q else E:=by
  have hw:Region.wanted o (yielded ops a.tmps)=true:=by simp [Region.wanted,hg]
  rw [if_pos hw]
  unfold Oper.wp
  simp [execOp,hop,resolve,invoke,builtin,hd,hx,hr,Result.andThen]
  exact hK
theorem zOu {w:World} {b o:Nat} {vs:List Value}:Wr b w (w.drew.setCells b o vs):=by
  have h:=zGT b vs o w.drew
  exact ⟨h.os,h.tape,h.output,h.size,h.block,fun k=>Nat.le_trans (Nat.le_succ _) (h.drawn k)⟩
set_option maxHeartbeats 4000000 in
set_option maxRecDepth 100000 in
theorem zMF {w : World} {b n c i vb vc : Nat} {arr varr : Array Value} (hk : Blk w b 54 arr) (hsz : arr.size = c * 2) (hi : i < n) (hroom : n + 1 <= c) (hc : c <= maxLen) (hvk : Blk w vb 54 varr) (hvs : varr.size = vc * 2) (hvc : 1 <= vc) (hvb : vb ≠ b) (hoc : ∀ v ∈ arr.toList.take (n * 2), v.oneCell' = true) (hov : ∀ v ∈ varr.toList.take 2, v.oneCell' = true) :
    Calls Tryz.prog 38 #[.slice (some ⟨b,0,none⟩) n c,.int .i64 (i:Int),.slice (some ⟨vb,0,none⟩) 1 vc] w fun e w'=>e=.returned (.slice (some ⟨b,0,none⟩) (n+1) c)/\∃ W1,W1=w.drew.setCells b ((i+1)*2) ((arr.toList.take (n*2)).drop (i*2))/\w'=W1.setCells b (i*2) (varr.toList.take 2):=by
  have hm:c<=9223372036854775807:=by unfold maxLen at hc;omega
  have hinf:Tryz.prog.info? 54=some Tryz.t54:=by kernel_rfl
  have hss:(Tryz.prog.info? 54).map (·.size)=some 2:=by rw [hinf];rfl
  have e0:arr.toList.length=arr.size:=Array.length_toList
  obtain ⟨vs,hvv⟩:∃ vs,vs=varr.toList.take 2:=⟨_,rfl⟩
  have ev:vs.length=2:=by rw [hvv,List.length_take,Array.length_toList,hvs];omega
  rw [<- hvv] at hov ⊢
  obtain ⟨news,hnews⟩:∃ news,news=(arr.toList.take (n*2)).drop (i*2):=⟨_,rfl⟩
  have hlen:news.length=(n-i)*2:=by rw [hnews,List.length_drop,List.length_take];omega
  have hget:∀ t,t<(n-i)*2->news[t]? = arr[i*2+t]?:=fun t ht=>by
    rw [hnews,List.getElem?_drop,List.getElem?_take_of_lt (by omega),Array.getElem?_toList]
  have hsp:∀ (W:World) (a:Array Value),Blk W b 54 a->a.size=arr.size->∀ k,k<c*2->(W.cell? ⟨b,k,none⟩).isSome=true:=fun W a ha hs k hk=>by
    rw [ha.cell,Array.getElem?_eq_getElem (by omega)];rfl
  have hov2:∀ lb cb,(callFunc 68 #[.slice (some ⟨vb,0,none⟩) 1 vc,.slice (some ⟨b,(i+1)*2,none⟩) lb cb]).run Tryz.prog w=.ok (.value (.bool false)) w:=fun lb cb=>by
    rw [run_callFunc_extern (f := 68) (fn := Tryz.f68) (by kernel_rfl) (by kernel_rfl) (by kernel_rfl) (by kernel_rfl) (e := Extern.SlicesOverlaps.overlaps #[25, 25] #[4]) (by kernel_rfl),
      Lib.run_overlaps_apart w 25 4 54 Tryz.underlying25 2 Tryz.sizeOf54 ⟨vb,0,none⟩ ⟨b,(i+1)*2,none⟩ 1 vc lb cb hvb 54 54 (vc*2) (c*2) (by rw [<- hvs];exact zK6 hvk) (by rw [<- hsz];exact zK6 hk) (by omega) (hvk.frozen _) (hvk.frozen _)]
    rfl
  have hcp1:∀ ty dc sc,(Builtin.copy_ #[25,25] ty #[.slice (some ⟨b,(i+1)*2,none⟩) (n-i) dc,.slice (some ⟨b,i*2,none⟩) (n+1-i) sc]).run Tryz.prog w.drew=.ok (goInt (Nat.min (n+1-i) (n-i))) (w.drew.setCells b ((i+1)*2) news):=fun ty dc sc=>
    zHV w.drew 25 25 ty 54 2 b ((i + 1) * 2) (n - i) dc ⟨b, i * 2, none⟩ (n + 1 - i) sc news Tryz.underlying25 hss (by rw [hlen]; simp only [Nat.min_def]; split <;> omega)
      (fun j v hj=>by
        have hl:=(List.getElem?_eq_some_iff.1 hj).1
        rw [hlen] at hl
        rw [hget j hl] at hj
        rw [Addr.add_lit]
        exact (hk.cell _).trans hj)
      (fun j hj=>by rw [hlen] at hj;exact hsp w arr hk rfl _ (by omega)) (fun j _=>hk.frozen _) (fun v hv=>hoc v (List.mem_of_mem_drop (hnews ▸ hv)))
  obtain ⟨W1,hW1⟩:∃ W1,W1=w.drew.setCells b ((i+1)*2) news:=⟨_,rfl⟩
  have w1:Wr b w.drew W1:=hW1 ▸ zGT b _ _ _
  obtain ⟨a1,k1,z1⟩:=zEo (T:=54) (arr:=arr) news ((i+1)*2) (w:=w.drew) hk
  rw [<- hW1] at k1
  have kv:Blk W1 vb 54 varr:=w1.blk hvb hvk
  have hcp2:∀ ty dc,(Builtin.copy_ #[25,25] ty #[.slice (some ⟨b,i*2,none⟩) (n+1-i) dc,.slice (some ⟨vb,0,none⟩) 1 vc]).run Tryz.prog W1=.ok (goInt (Nat.min 1 (n+1-i))) (W1.setCells b (i*2) vs):=fun ty dc=>
    zHV W1 25 25 ty 54 2 b (i * 2) (n + 1 - i) dc ⟨vb, 0, none⟩ 1 vc vs Tryz.underlying25 hss (by rw [ev]; simp only [Nat.min_def]; split <;> omega)
      (fun j v hj=>by
        have hl:=(List.getElem?_eq_some_iff.1 hj).1
        rw [hvv,List.getElem?_take_of_lt (by omega),Array.getElem?_toList] at hj
        rw [Addr.add_lit,Nat.zero_add]
        exact (kv.cell _).trans hj)
      (fun j hj=>by rw [ev] at hj;exact hsp W1 a1 k1 z1 _ (by omega)) (fun j _=>k1.frozen _) hov
  rw [<- hW1] at hcp1
  have HW:Hid (W1=w.drew.setCells b ((i+1)*2) ((arr.toList.take (n*2)).drop (i*2))):=hnews ▸ hW1
  have hw1:IntKind.i64.wrap ((i:Int)+1)=(i:Int)+1:=by rw [IntKind.wrap_i64];omega
  have hz2:¬ ((i:Int)=(n:Int)):=by omega
  have hb1:(0:Int)<=(i:Int)+1:=by omega
  have hb2:¬ (c=i+1):=by omega
  have hb3:(i:Int)+1<=(n:Int)+1:=by omega
  have hb4:¬ (c=i):=by omega
  have hb5:(i:Int)<=(n:Int)+1:=by omega
  have hin:i<=n:=by omega
  clear hvv hW1 hnews hlen hget hsp k1 kv w1 z1 hk hvk hss
  go_enter Tryz.func38,Tryz.ntmps38
  go_wp2_with (simp only [hov2])
  go_region_law (refine zGw rfl _ _ 25 25 rfl _ _ (by simp [Act.eval,Act.put]) (by simp [Act.eval,Act.put]) (hcp1 _ _ _) ?_)
  go_wp2_with (at_builtin;refine zFw _ rfl _ _ 25 25 rfl _ _ rfl rfl (hcp2 _ _) ?_)
  go_ret
  exact ⟨rfl,W1,HW.out,rfl⟩
set_option maxHeartbeats 4000000 in
set_option maxRecDepth 100000 in
theorem zOQ {w w' : World} {a0 : Option Addr} {n c : Nat} {u2 v' : Value} {a2 : Option Addr} {c2 : Nat} (hu2 : u2=.slice a2 1 c2) (hrun : (Builtin.append_ #[25, 25] 25 #[.slice a0 n c, u2]).run Tryz.prog w=.ok v' w') (h0 : ∀ a, a0 = some a -> ∃ b, a = ⟨b, 0, none⟩) (h1 : a0 = none -> n = 0 /\ c = 0) (hnc : n <= c) :
    Calls Tryz.prog 38 #[.slice a0 n c,.int .i64 (n:Int),u2] w fun e w''=>e=.returned v'/\w''=w':=by
  subst hu2
  go_enter Tryz.func38,Tryz.ntmps38
  cases a0 with
  | none=>
    obtain ⟨rfl,rfl⟩:=h1 rfl
    go_wp2_with (at_builtin;refine Lib.wpList_append_run _ rfl _ _ _ _ rfl _ _ rfl rfl _ _ hrun ?_)
    go_ret
    exact ⟨rfl,rfl⟩
  | some a=>
    obtain ⟨b,rfl⟩:=h0 a rfl
    go_wp2_with (at_builtin;refine Lib.wpList_append_run _ rfl _ _ _ _ rfl _ _ rfl rfl _ _ hrun ?_)
    all_goals (go_ret;exact ⟨rfl,rfl⟩)
set_option maxHeartbeats 4000000 in
set_option maxRecDepth 100000 in
theorem zNd {w : World} {b n c i vb vc : Nat} {arr varr : Array Value} (hk : Blk w b 54 arr) (hsz : arr.size = c * 2) (hi : i < n) (hnc : n <= c) (hroom : c < n + 1) (hbig : (n + 1) * 32 <= 140737488355328) (hvk : Blk w vb 54 varr) (hvs : varr.size = vc * 2) (hvc : 1 <= vc) (hoc : ∀ v ∈ arr.toList.take (n * 2), v.oneCell' = true) (hov : ∀ v ∈ varr.toList.take 2, v.oneCell' = true) :
    Calls Tryz.prog 38 #[.slice (some ⟨b,0,none⟩) n c,.int .i64 (i:Int),.slice (some ⟨vb,0,none⟩) 1 vc] w fun e w'=>∃ G W1 arr1,e=.returned (.slice (some ⟨w.heap.size,0,none⟩) (n+1) G)/\n+1<=G/\G<=maxLen/\W1=w.drew.alloc (.cells arr1 54)/\arr1.size=G*2/\(∀ k,k<i*2->arr1[k]? = arr[k]?)/\w'=((W1.setCells w.heap.size (i*2) (varr.toList.take 2)).drew).setCells w.heap.size ((i+1)*2) ((arr.toList.take (n*2)).drop (i*2)):=by
  have hinf:Tryz.prog.info? 54=some Tryz.t54:=by kernel_rfl
  have hss:(Tryz.prog.info? 54).map (·.size)=some 2:=by rw [hinf];rfl
  have e0:arr.toList.length=arr.size:=Array.length_toList
  obtain ⟨vs,hvv⟩:∃ vs,vs=varr.toList.take 2:=⟨_,rfl⟩
  have ev:vs.length=2:=by rw [hvv,List.length_take,Array.length_toList,hvs];omega
  rw [<- hvv] at hov ⊢
  obtain ⟨news,hnews⟩:∃ news,news=(arr.toList.take (n*2)).drop (i*2):=⟨_,rfl⟩
  have hlen:news.length=(n-i)*2:=by rw [hnews,List.length_drop,List.length_take];omega
  have hget:∀ t,t<(n-i)*2->news[t]? = arr[i*2+t]?:=fun t ht=>by
    rw [hnews,List.getElem?_drop,List.getElem?_take_of_lt (by omega),Array.getElem?_toList]
  obtain ⟨olds,holds⟩:∃ olds,olds=arr.toList.take (i*2):=⟨_,rfl⟩
  have holen:olds.length=i*2:=by rw [holds,List.length_take];omega
  have hold:(Builtin.firstCells Tryz.t54.size i (.slice (some ⟨b,0,none⟩) i c)).run Tryz.prog w.drew=.ok olds.toArray w.drew:=
    run_firstCells_some w.drew 2 i ⟨b,0,none⟩ i c olds holen (fun j v hj=>by
      have hl:=(List.getElem?_eq_some_iff.1 hj).1
      rw [holds,List.getElem?_take_of_lt (by omega),Array.getElem?_toList] at hj
      rw [Addr.add_lit,Nat.zero_add]
      exact (hk.cell _).trans hj)
  have hik:i+(n+1-i)=n+1:=by omega
  have hkk:(n:Int)+1-(i:Int)=((n+1-i:Nat):Int):=by omega
  obtain ⟨G,hG⟩:∃ G,G=grownCap w (n+1) c 54:=⟨_,rfl⟩
  obtain ⟨arr1,harr⟩:∃ arr1:Array Value,arr1=olds.toArray++Builtin.zeroCells zIS.cells (n+1-i)++Builtin.zeroCells zIS.cells (G-(n+1)):=⟨_,rfl⟩
  have hGn:n+1<=G:=by rw [hG];exact grownCap_ge w _ _ _
  have hGm:G<=maxLen:=by rw [hG];exact grownCap_le_maxLen w _ _ _ (by unfold maxLen;omega)
  have hzs:∀ k,(Builtin.zeroCells zIS.cells k).size=k*2:=fun k=>by simp [Builtin.zeroCells,Value.cells]
  have hsz1:arr1.size=G*2:=by
    rw [harr,Array.size_append,Array.size_append,hzs,hzs,List.size_toArray,holen];omega
  have hlow:∀ k,k<i*2->arr1[k]? = arr[k]?:=fun k hk=>by
    rw [harr,Array.getElem?_append_left (by rw [Array.size_append,List.size_toArray];omega),Array.getElem?_append_left (by rw [List.size_toArray];omega),List.getElem?_toArray,holds,List.getElem?_take_of_lt hk,Array.getElem?_toList]
  have hrz : ∀ ty, (Builtin.append_ #[25, 3] ty #[.slice (some ⟨b, 0, none⟩) i c, .int .i64 ((n : Int) + 1 - (i : Int))]).run Tryz.prog w =
      .ok (.slice (some ⟨w.heap.size,0,none⟩) (n+1) G) (w.drew.alloc (.cells arr1 54)):=fun ty=>by
    have h:=Lib.run_append_grow_zeros (P:=Tryz.prog) w 25 3 ty 54 Tryz.t54 zIS .i64 .i64 Tryz.underlying25 Tryz.underlying3 hinf rfl (some ⟨b,0,none⟩) i c olds hold (n+1-i) (by omega) (by decide) (by omega) (by omega) (by show (n+1-i)*32<=_;omega) (by rw [hik];exact growslice_fits hroom hbig)
    rw [hik] at h
    rw [hkk,h,harr,hG]
  obtain ⟨W1,hW1⟩:∃ W1,W1=w.drew.alloc (.cells arr1 54):=⟨_,rfl⟩
  rw [<- hW1] at hrz
  have hbl:=hk.lt
  have hvl:=hvk.lt
  have k1:Blk W1 w.heap.size 54 arr1:=by rw [hW1];exact Blk.new w.drew 54 arr1
  have kb:Blk W1 b 54 arr:=by rw [hW1];exact Blk.alloc (w:=w.drew) hk _
  have kv:Blk W1 vb 54 varr:=by rw [hW1];exact Blk.alloc (w:=w.drew) hvk _
  have hcpA:∀ (W:World),(∀ x,W.cell? x=W1.cell? x)->(∀ x,W.frozen? x=W1.frozen? x)->∀ ty dc,(Builtin.copy_ #[25,25] ty #[.slice (some ⟨w.heap.size,i*2,none⟩) (n+1-i) dc,.slice (some ⟨vb,0,none⟩) 1 vc]).run Tryz.prog W=.ok (goInt (Nat.min 1 (n+1-i))) (W.setCells w.heap.size (i*2) vs):=fun W hWc hWf ty dc=>
    zHV W 25 25 ty 54 2 w.heap.size (i * 2) (n + 1 - i) dc ⟨vb, 0, none⟩ 1 vc vs Tryz.underlying25 hss (by rw [ev]; simp only [Nat.min_def]; split <;> omega)
      (fun j v hj=>by
        have hl:=(List.getElem?_eq_some_iff.1 hj).1
        rw [hvv,List.getElem?_take_of_lt (by omega),Array.getElem?_toList] at hj
        rw [Addr.add_lit,Nat.zero_add,hWc]
        exact (kv.cell _).trans hj)
      (fun j hj=>by rw [ev] at hj;rw [hWc,k1.cell,Array.getElem?_eq_getElem (by omega)];rfl) (fun j _=>by rw [hWf];exact k1.frozen _) hov
  obtain ⟨a2,k2,z2⟩:=zEo (T:=54) (arr:=arr1) vs (i*2) (w:=W1) k1
  have kb2:Blk (W1.setCells w.heap.size (i*2) vs) b 54 arr:=(zGT w.heap.size _ _ _).blk (by omega) kb
  have hcpB:∀ (W:World),(∀ x,W.cell? x=(W1.setCells w.heap.size (i*2) vs).cell? x)->(∀ x,W.frozen? x=(W1.setCells w.heap.size (i*2) vs).frozen? x)->∀ ty dc sc,(Builtin.copy_ #[25,25] ty #[.slice (some ⟨w.heap.size,(i+1)*2,none⟩) (n-i) dc,.slice (some ⟨b,i*2,none⟩) (n-i) sc]).run Tryz.prog W=.ok (goInt (Nat.min (n-i) (n-i))) (W.setCells w.heap.size ((i+1)*2) news):=fun W hWc hWf ty dc sc=>
    zHV W 25 25 ty 54 2 w.heap.size ((i + 1) * 2) (n - i) dc ⟨b, i * 2, none⟩ (n - i) sc news Tryz.underlying25 hss (by rw [hlen]; simp only [Nat.min_def]; split <;> omega)
      (fun j v hj=>by
        have hl:=(List.getElem?_eq_some_iff.1 hj).1
        rw [hlen] at hl
        rw [hget j hl] at hj
        rw [Addr.add_lit,hWc]
        exact (kb2.cell _).trans hj)
      (fun j hj=>by rw [hlen] at hj;rw [hWc,k2.cell,Array.getElem?_eq_getElem (by omega)];rfl) (fun j _=>by rw [hWf];exact k2.frozen _) (fun v hv=>hoc v (List.mem_of_mem_drop (hnews ▸ hv)))
  have hcpB':=hcpB ((W1.setCells w.heap.size (i*2) vs).drew) (fun _=>rfl) (fun _=>rfl)
  have HF:Hid (n+1<=G/\G<=maxLen/\W1=w.drew.alloc (.cells arr1 54)/\arr1.size=G*2/\(∀ k,k<i*2->arr1[k]? = arr[k]?)):=⟨hGn,hGm,hW1,hsz1,hlow⟩
  have HN:Hid (news=(arr.toList.take (n*2)).drop (i*2)):=hnews
  have hg1:¬ (G=i):=by omega
  have hg2:¬ (G=i+1):=by omega
  have hg3:¬ (c=i):=by omega
  have hm:c<=9223372036854775807:=by omega
  have hGm':G<=9223372036854775807:=by unfold maxLen at hGm;omega
  have hw1:IntKind.i64.wrap ((i:Int)+1)=(i:Int)+1:=by rw [IntKind.wrap_i64];omega
  have hz2:¬ ((i:Int)=(n:Int)):=by omega
  have hz3:(c:Int)<(n:Int)+1:=by omega
  have hb1:(0:Int)<=(i:Int)+1:=by omega
  have hb3:(i:Int)+1<=(n:Int)+1:=by omega
  have hb5:(i:Int)<=(n:Int)+1:=by omega
  have hin:i<=n:=by omega
  have hic:i<=c:=by omega
  clear hvv hW1 hnews hlen hget k1 kv kb kb2 k2 hk hvk hss hkk hik hold holds holen hG harr hsz1 hlow hGm
  go_enter Tryz.func38,Tryz.ntmps38
  go_wp2_with (first
    | (at_builtin;refine Lib.wpList_append_run _ rfl _ _ _ _ rfl _ _ rfl rfl _ _ (hrz _) ?_)
    | (at_builtin;refine zFw _ rfl _ _ 25 25 rfl _ _ rfl rfl (hcpA _ (fun _=>rfl) (fun _=>rfl) _ _) ?_))
  go_region_law (refine zGw rfl _ _ 25 25 rfl (.slice (some ⟨w.heap.size,(i+1)*2,none⟩) (n-i) (G-(i+1))) (.slice (some ⟨b,i*2,none⟩) (n-i) (c-i)) (by simp [Act.eval,Act.put]) (by simp [Act.eval,Act.put]) (hcpB' 3 (G-(i+1)) (c-i)) ?_)
  go_wp2
  go_ret
  obtain ⟨q1,q2,q3,q4,q5⟩:=HF.out
  exact ⟨G,W1,arr1,rfl,q1,q2,q3,q4,q5,by rw [HN.out]⟩
theorem Wr.toCh {S:Nat->Prop} {b:Nat} {w w':World} (h:Wr b w w') (hb:S b):Ch S w w':=⟨h.os,h.tape,h.output,by rw [h.size];exact Nat.le_refl _,fun k _ hn=>h.block k fun e=>hn (e ▸ hb),h.drawn⟩
theorem zK0 {w w':World} {b o:Nat} {T:TypeId} {vs:List Value} {arr arr':Array Value} (hk:Blk w b T arr) (e:w'=w.setCells b o vs) (hk':Blk w' b T arr') (hle:o+vs.length<=arr.size) (k:Nat):arr'[k]? = if o<=k/\k<o+vs.length then vs[k-o]? else arr[k]?:=by
  rw [<- hk'.cell,e]
  split
  . next h=>
    have:=World.cell?_setCells_in b vs o w (fun j hj=>by rw [hk.cell,Array.getElem?_eq_getElem (by omega)];rfl) (k-o) (by omega)
    rw [show o+(k-o)=k by omega] at this
    rw [this]
    exact (List.getElem?_eq_getElem _).symm
  . next h=>
    rw [World.cell?_setCells_out _ _ _ _ _ (fun _ _=>by show k<o\/o+vs.length<=k;omega)]
    exact hk.cell k
theorem zKI {cs vs : List Value} {a : Array Value} {n i m : Nat} (hc : cs.length = n * 2) (hv : vs.length = 2) (hi : i <= n) (ha : (n + 1) * 2 <= a.size) (h1 : ∀ k, k < i * 2 -> a[k]? = cs[k]?) (h2 : ∀ k, i * 2 <= k -> k < i * 2 + 2 -> a[k]? = vs[k - i * 2]?) (h3 : ∀ k, i * 2 + 2 <= k -> k < (n + 1) * 2 -> a[k]? = cs[k - 2]?) (hm : m = (n + 1) * 2) :
    a.toList.take m=cs.take (i*2)++(vs++cs.drop (i*2)):=by
  subst hm
  refine List.ext_getElem? fun p=>?_
  rcases Nat.lt_or_ge p ((n+1)*2) with hp | hp
  . rw [List.getElem?_take_of_lt hp, Array.getElem?_toList]
    rcases Nat.lt_or_ge p (i*2) with hpi | hpi
    . rw [h1 p hpi,List.getElem?_append_left (by rw [List.length_take];omega),List.getElem?_take_of_lt hpi]
    . rw [List.getElem?_append_right (by rw [List.length_take]; omega), List.length_take, Nat.min_eq_left (by omega)]
      rcases Nat.lt_or_ge p (i*2+2) with hpv | hpv
      . rw [h2 p hpi hpv,List.getElem?_append_left (by omega)]
      . rw [h3 p hpv hp, List.getElem?_append_right (by omega), List.getElem?_drop]
        congr 1
        omega
  . have e0 : a.toList.length = a.size := Array.length_toList
    rw [List.getElem?_eq_none_iff.2 (by rw [List.length_take];omega),List.getElem?_eq_none_iff.2 (by rw [List.length_append,List.length_append,List.length_take,List.length_drop];omega)]
theorem zNP {α : Type} {F : OE α} {A : Av} {w : World} {S1 S2 : Nat -> Prop} {xs : List α} {y : α} {u1 u2 : Value} (hx : (oSl 54 F).own A w S1 xs [u1]) (hy : (oSl 54 F).own A w S2 [y] [u2]) (hd : ∀ k, S1 k -> ¬ S2 k) (hF : F.E.size = 2) {i : Nat} (hi : i <= xs.length) (hl : zD4 (xs.length + 1) = true) :
    Calls Tryz.prog 38 #[u1,.int .i64 (i:Int),u2] w fun e w'=>∃ v' S',e=.returned v'/\Ch S1 w w'/\(∀ k,k<w.heap.size->S' k->S1 k\/S2 k)/\∀ A',Stp A A' w w'->(oSl 54 F).own A' w' S' (xs.take i++y::xs.drop i) [v']:=by
  have hl2:=zGh hl
  rcases Nat.lt_or_ge i xs.length with hi2 | hi2
  . obtain ⟨L, hE, rfl, hx'⟩ := zJU hx
    obtain ⟨M,hM,hMy,hy'⟩:=zJU hy
    clear hx hy
    rw [List.length_map] at hi hi2 hl2
    have hM1:M.length=1:=by have:=congrArg List.length hMy;rw [List.length_map] at this;exact this
    obtain ⟨t,rfl⟩:∃ t,M = [t]:=List.length_eq_one_iff.1 hM1
    obtain rfl:t.1=y:=by simpa using hMy
    have ht:=hM.own t (List.mem_singleton.2 rfl)
    rcases hy' with ⟨_,h,_⟩ | ⟨vb,vc,varr,rfl,hvk,hvc,hvm,hvs,hvcs,hvg,hS2⟩
    . cases h
    rcases hx' with ⟨_,rfl,_⟩ | ⟨g,c,arr,rfl,hk,hlc,hcm,hsz,hcs,hg,hS⟩
    . exact absurd hi2 (Nat.not_lt_zero _)
    rw [hF] at hsz hcs hvs hvcs
    have hoc:=hE.oc
    have hov:=hM.oc
    rw [<- hcs] at hoc
    rw [<- hvcs] at hov
    have hone:[t].length*2=2:=rfl
    rw [hone] at hov hvcs
    have hvl:t.2.2.length=2:=by rw [F.len ht,hF]
    have hvt:csOf [t]=t.2.2:=by unfold csOf;simp
    rw [hvt] at hvcs
    have hcl:=hE.len
    rw [hF] at hcl
    have hgS:S1 g:=(hS g).2 (.inl rfl)
    have hvb:vb ≠ g:=fun e=>hd g hgS ((hS2 g).2 (.inl e.symm))
    have htS:∀ k,t.2.1 k->S2 k:=fun k h=>(hS2 k).2 (.inr ⟨t,List.mem_singleton.2 rfl,h⟩)
    have hLS:∀ k,inL L k->S1 k:=fun k h=>(hS k).2 (.inr h)
    have hE':=hE.ins i ht (fun k h h'=>hd k (hLS k h') (htS k h))
    have hin:∀ k,inL (L.take i++t::L.drop i) k->S1 k\/S2 k:=fun k h=>(zNA h).elim (fun h=>.inr (htS k h)) fun h=>.inl (hLS k h)
    have hl':(L.take i++t::L.drop i).length=L.length+1:=by rw [List.length_append,List.length_cons,List.length_take,List.length_drop];omega
    have hmap:(L.take i++t::L.drop i).map (·.1)=(L.map (·.1)).take i++t.1::(L.map (·.1)).drop i:=by rw [List.map_append,List.map_cons,List.map_take,List.map_drop]
    have hcat:csOf (L.take i++t::L.drop i)=(csOf L).take (i*2)++(t.2.2++(csOf L).drop (i*2)):=by
      rw [zFb,hE.take,hF,show t::L.drop i = [t]++L.drop i from rfl,zFb,hvt,hE.drop,hF]
    have hnews:((csOf L).drop (i*2)).length=(L.length-i)*2:=by rw [List.length_drop,hcl];omega
    have hcg:∀ k,k<L.length*2->(csOf L)[k]? = arr[k]?:=fun k hk=>by rw [<- hcs,List.getElem?_take_of_lt hk,Array.getElem?_toList]
    have ng:¬ inL (L.take i++t::L.drop i) g:=fun h=>(zNA h).elim (fun h=>hd g hgS (htS g h)) hg
    have hsz2:arr.size=c*2:=hsz
    by_cases hroom:L.length+1<=c
    . refine (zMF (n := L.length) (i := i) hk hsz hi2 hroom hcm hvk hvs hvc hvb hoc hov).mono ?_
      rintro e w' ⟨rfl,W1,e1,e2⟩
      rw [hcs] at e1
      rw [hvcs] at e2
      have h1:Wr g w W1:=e1 ▸ zOu
      have h2:Wr g w w':=h1.trans (e2 ▸ zGT g _ _ _)
      obtain ⟨a1,k1,z1⟩:=zEo (T:=54) (arr:=arr) ((csOf L).drop (i*2)) ((i+1)*2) (w:=w.drew) hk
      rw [<- e1] at k1
      obtain ⟨a2,k2,z2⟩:=zEo (T:=54) (arr:=a1) t.2.2 (i*2) (w:=W1) k1
      rw [<- e2] at k2
      have p1:=zK0 (w:=w.drew) hk e1 k1 (by rw [hnews];omega)
      have p2:=zK0 k1 e2 k2 (by rw [hvl];omega)
      have hcs':a2.toList.take ((L.length+1)*2)=csOf (L.take i++t::L.drop i):=by
        rw [hcat]
        refine zKI (n:=L.length) (i:=i) hcl hvl hi (by omega) (fun k hk=>?_) (fun k k1 k2=>?_) (fun k k1 k2=>?_) rfl
        . rw [p2,if_neg (by omega),p1,if_neg (by omega),hcg k (by omega)]
        . rw [p2,if_pos (by omega)]
        . rw [p2, if_neg (by omega), p1, if_pos (by omega), List.getElem?_drop]
          congr 1
          omega
      refine ⟨_,fun k=>k=g\/inL (L.take i++t::L.drop i) k,rfl,h2.toCh hgS,fun k _ hk'=>hk'.elim (fun e=>.inl (e ▸ hgS)) (hin k),fun A' hst=>?_⟩
      have:=zIH (hE'.stab (fun k hk'=>h2.block k fun e=>ng (e ▸ hk')) hst) k2 (c:=c) (by omega) hcm (by rw [z2,z1,hsz,hF]) (by rw [hl',hF];exact hcs') ng
      rw [hmap,hl'] at this
      exact this
    . refine (zNd (n := L.length) (i := i) hk hsz hi2 hlc (by omega) (by omega) hvk hvs hvc hoc hov).mono ?_
      rintro e w' ⟨G,W1,arr1,rfl,hG1,hG2,hW1,hs1,hlow,e2⟩
      rw [hcs,hvcs] at e2
      have k1:Blk W1 w.heap.size 54 arr1:=by rw [hW1];exact Blk.new w.drew 54 arr1
      obtain ⟨a2,k2,z2⟩:=zEo (T:=54) (arr:=arr1) t.2.2 (i*2) (w:=W1) k1
      obtain ⟨a3,k3,z3⟩:=zEo (T:=54) (arr:=a2) ((csOf L).drop (i*2)) ((i+1)*2) (w:=(W1.setCells w.heap.size (i*2) t.2.2).drew) k2
      rw [<- e2] at k3
      have p1:=zK0 k1 rfl k2 (by rw [hvl];omega)
      have p2:=zK0 (w:=(W1.setCells w.heap.size (i*2) t.2.2).drew) k2 e2 k3 (by rw [hnews];omega)
      have hcs':a3.toList.take ((L.length+1)*2)=csOf (L.take i++t::L.drop i):=by
        rw [hcat]
        refine zKI (n:=L.length) (i:=i) hcl hvl hi (by omega) (fun k hk=>?_) (fun k k1 k2=>?_) (fun k k1 k2=>?_) rfl
        . rw [p2,if_neg (by omega),p1,if_neg (by omega),hlow k hk,hcg k (by omega)]
        . rw [p2,if_neg (by omega),p1,if_pos (by omega)]
        . rw [p2, if_pos (by omega), List.getElem?_drop]
          congr 1
          omega
      have f1:Fr w W1:=by rw [hW1];exact (Fr.drew w).trans (Fr.alloc _ _)
      have w2:Wr w.heap.size W1 w':=(zP3 (b:=w.heap.size)).trans (e2 ▸ zGT w.heap.size _ _ _)
      have hch:Ch S1 w w':=(f1.ch S1).tr (K':=fun k=>w.heap.size=k) w2.ch fun k hk=>.inl (Nat.le_of_eq hk)
      have hold:∀ k,k<w.heap.size->w'.heap[k]? = w.heap[k]?:=fun k hk=>(w2.block k (by omega)).trans (f1.block k hk)
      have hlt:∀ k,inL (L.take i++t::L.drop i) k->k<w.heap.size:=fun k h=>hE'.lt h
      refine ⟨_,fun k=>k=w.heap.size\/inL (L.take i++t::L.drop i) k,rfl,hch,fun k h hk'=>hk'.elim (fun e=>absurd h (by omega)) (hin k),fun A' hst=>?_⟩
      have:=zIH (hE'.stab (fun k hk'=>hold k (hlt k hk')) hst) k3 (c:=G) (by omega) hG2 (by rw [z3,z2,hs1,hF]) (by rw [hl',hF];exact hcs') (fun h=>absurd (hlt _ h) (by omega))
      rw [hmap,hl'] at this
      exact this
  . obtain rfl : i = xs.length := by omega
    have he:ElF Tryz.prog 54 F.E.size:=by rw [hF];exact ⟨Tryz.t54,zIS,_,by kernel_rfl,rfl,rfl,rfl,rfl,by decide,by decide⟩
    obtain ⟨v',w',S',hrun,hch,hsub,hown⟩:=zL4 (ty:=25) (t:=25) hx hy hd Tryz.underlying25 he (by decide) hl
    rw [List.take_length,List.drop_length]
    have hc:∃ a c,u1=.slice a xs.length c/\(∀ q,a=some q->∃ b,q=⟨b,0,none⟩)/\(a=none->xs.length=0/\c=0)/\xs.length<=c:=by
      rcases hx with ⟨e,rfl,_⟩ | ⟨g,c,arr,Si,e,_,h,_⟩
      . obtain rfl := (List.cons.inj e).1
        exact ⟨none,0,rfl,(fun q h=>by cases h),(fun _=>⟨rfl,rfl⟩),Nat.le_refl _⟩
      . obtain rfl := (List.cons.inj e).1
        exact ⟨_,c,rfl,(fun q h=>by cases h;exact ⟨g,rfl⟩),(fun h=>by cases h),h⟩
    obtain ⟨a,c,rfl,h0,h1,hnc⟩:=hc
    have hc2:∃ a2 c2,u2=.slice a2 1 c2:=by
      rcases hy with ⟨_,h,_⟩ | ⟨g,c,arr,Si,e,_⟩
      . cases h
      . exact ⟨_,c,(List.cons.inj e).1⟩
    obtain ⟨a2,c2,hu2⟩:=hc2
    refine (zOQ hu2 hrun h0 h1 hnc).mono ?_
    rintro e w'' ⟨rfl,rfl⟩
    exact ⟨v',S',rfl,hch,hsub,hown⟩
theorem zP5 {P : Program} (w : World) (t e ty : TypeId) (z : Value) (ht : P.underlying t = some (.slice e)) (hv : ∀ w, (zeroValue e).run P w=.ok z w) (h1 : ∀ v ∈ z.cells.toList, v.oneCell' = true) (b o c : Nat)
    (hc:∀ j,j<z.cells.size->(w.cell? ⟨b,o+j,none⟩).isSome=true) (hf:∀ j,j<z.cells.size->w.frozen? ⟨b,o+j,none⟩=false) :
    (Builtin.clear_ #[t] ty #[.slice (some ⟨b,o,none⟩) 1 c]).run P w=.ok (.tuple #[]) (w.setCells b o z.cells.toList):=by
  have hzc:Builtin.zeroCells z.cells 1=z.cells:=by
    simp only [Builtin.zeroCells]
    refine Array.ext (by simp) fun i h1 h2=>?_
    simp [Nat.mod_eq_of_lt h2,getElem!_pos z.cells i h2]
  have hst:=run_storeCells_cells (P:=P) b o z.cells.toList 0 w (by simpa using hc) (by simpa using hf) h1
  simp only [Nat.add_zero] at hst
  simp [Builtin.clear_,run_underlying ht,hv,hzc,hst]
set_option maxHeartbeats 4000000 in
set_option maxRecDepth 100000 in
theorem zMR {w : World} {b n c i : Nat} {arr : Array Value} (hk : Blk w b 54 arr) (hsz : arr.size = c * 2) (hnc : n <= c) (hi : i < n) (hc : c <= maxLen) (hoc : ∀ v ∈ arr.toList.take (n * 2), v.oneCell' = true) :
    Calls Tryz.prog 42 #[.slice (some ⟨b,0,none⟩) n c,.int .i64 (i:Int),.int .i64 ((i:Int)+1)] w fun e w'=>e=.returned (.slice (some ⟨b,0,none⟩) (n-1) c)/\∃ W1,W1=w.drew.setCells b (i*2) ((arr.toList.take (n*2)).drop ((i+1)*2))/\w'=W1.setCells b ((n-1)*2) [.int .i64 0,.slice none 0 0]:=by
  have hm:c<=9223372036854775807:=by unfold maxLen at hc;omega
  obtain ⟨news,hnews⟩:∃ news,news=(arr.toList.take (n*2)).drop ((i+1)*2):=⟨_,rfl⟩
  have e0:arr.toList.length=arr.size:=Array.length_toList
  have hcl:(arr.toList.take (n*2)).length=n*2:=by rw [List.length_take];omega
  have hlen:news.length=(n-(i+1))*2:=by rw [hnews,List.length_drop,hcl];omega
  have hget:∀ t,t<(n-(i+1))*2->news[t]? = arr[(i+1)*2+t]?:=fun t ht=>by
    rw [hnews,List.getElem?_drop,List.getElem?_take_of_lt (by omega),Array.getElem?_toList]
  obtain ⟨A,hA,hsrc⟩:∃ A:Addr,(if c=i+1 then some (⟨b,0,none⟩:Addr) else some ⟨b,(i+1)*2,none⟩)=some A/\Hid (∀ t u,news[t]? = some u->w.drew.cell? (A.add t)=some u):=by
    by_cases h:c=i+1
    . refine ⟨⟨b, 0, none⟩, by simp [h], fun t u hu => ?_⟩
      have:=(List.getElem?_eq_some_iff.1 hu).1
      omega
    . refine ⟨⟨b, (i + 1) * 2, none⟩, by simp [h], fun t u hu => ?_⟩
      have ht:=(List.getElem?_eq_some_iff.1 hu).1
      rw [hlen] at ht
      rw [hget t ht] at hu
      rw [Addr.add_lit]
      exact (hk.cell _).trans hu
  have s1:Hid (news.length=(n-(i+1))*2):=hlen
  have s2:Hid (∀ u ∈ news,u.oneCell'=true):=fun u hu=>hoc u (List.mem_of_mem_drop (hnews ▸ hu))
  have s3:Hid (∀ t,t<news.length->(w.drew.cell? ⟨b,0+i*2+t,none⟩).isSome=true/\w.drew.frozen? ⟨b,0+i*2+t,none⟩=false):=fun t ht=>by
    rw [hlen] at ht
    refine ⟨?_,hk.frozen _⟩
    show (w.cell? _).isSome=true
    rw [hk.cell,Array.getElem?_eq_getElem (by omega)]
    rfl
  obtain ⟨W1,hW1⟩:∃ W1,W1=w.drew.setCells b (0+i*2) news:=⟨_,rfl⟩
  obtain ⟨a1,k1,z1⟩:=zEo (T:=54) (arr:=arr) news (0+i*2) (w:=w.drew) hk
  rw [<- hW1] at k1
  have hcl:∀ ty,(Builtin.clear_ #[25] ty #[.slice (some ⟨b,(i+(n-(i+1)))*2,none⟩) (n-(i+(n-(i+1)))) (c-(i+(n-(i+1))))]).run Tryz.prog W1=.ok (.tuple #[]) (W1.setCells b ((i+(n-(i+1)))*2) [.int .i64 0,.slice none 0 0]):=fun ty=>by
    rw [show n-(i+(n-(i+1)))=1 by omega]
    exact zP5 (P:=Tryz.prog) W1 25 54 ty zIS Tryz.underlying25 Tryz.zeroValue54 (by intro v hv;simp [Value.cells] at hv;rcases hv with rfl | rfl <;> rfl) b _ _ (fun j hj=>by rw [k1.cell,Array.getElem?_eq_getElem (by have:j<2:=hj;omega)];rfl) (fun j _=>k1.frozen _)
  have hW:Hid (W1=w.drew.setCells b (0+i*2) news):=hW1
  have hic:i<=c:=by omega
  have hjc:i+1<=c:=by omega
  have hp3:¬ (c=i+(n-(i+1))):=by omega
  have hp4:i+(n-(i+1))<=n:=by omega
  have hinf:Tryz.prog.info? 54=some Tryz.t54:=by kernel_rfl
  have ha55:=Tryz.isAgg54
  have hp1:(0:Int)<=(i:Int)+1:=by omega
  have hp2:(i:Int)+1<=(n:Int):=by omega
  have hnw:Hid (news=(arr.toList.take (n*2)).drop ((i+1)*2)):=hnews
  clear hW1 hk k1 hget hnews hlen
  go_enter Tryz.func42,Tryz.ntmps42
  go_wp2_with fail
  go_region_law (refine step_append_room rfl (.tmp 22) (.tmp 25) 25 rfl 54 Tryz.t54 2 Tryz.underlying25 hinf rfl b 0 i c (by simp [Act.eval,Act.put]) A (n-(i+1)) (c-(i+1)) news (by simp [Act.eval,Act.put]) s1.out hsrc.out s2.out (by omega) s3.out ?_;rw [<- hW.out])
  go_wp2
  go_ret
  have e:i+(n-(i+1))=n-1:=by omega
  refine ⟨by rw [<- e];rfl,_,rfl,?_⟩
  rw [e,hW.out,hnw.out,Nat.zero_add]
theorem zNG {α : Type} {F : OE α} {A : Av} {w : World} {S : Nat -> Prop} {xs : List α} {u : Value} (h0 : (oSl 54 F).own A w S xs [u]) (hF : F.E.size = 2) {i : Nat} (hi : i < xs.length) :
    Calls Tryz.prog 42 #[u,.int .i64 (i:Int),.int .i64 ((i:Int)+1)] w fun e w'=>∃ v' S',e=.returned v'/\Ch S w w'/\(∀ k,k<w.heap.size->S' k->S k)/\∀ A',Stp A A' w w'->(oSl 54 F).own A' w' S' (xs.eraseIdx i) [v']:=by
  obtain ⟨L,hE,rfl,h⟩:=zJU h0
  clear h0
  rw [List.length_map] at hi
  rcases h with ⟨_,rfl,_⟩ | ⟨g,c,arr,rfl,hk,hlc,hcm,hsz,hcs,hg,hS⟩
  . exact absurd hi (Nat.not_lt_zero _)
  . rw [hF] at hsz hcs
    have hoc:=hE.oc
    rw [<- hcs] at hoc
    refine (zMR (n:=L.length) (i:=i) hk hsz hlc hi hcm hoc).mono ?_
    rintro e w' ⟨rfl,W1,e1,e2⟩
    rw [hcs] at e1
    have h1:Wr g w W1:=e1 ▸ zOu
    have h2:Wr g w w':=h1.trans (e2 ▸ zGT g _ _ _)
    obtain ⟨a1,k1,z1⟩:=zEo (T:=54) (arr:=arr) ((csOf L).drop ((i+1)*2)) (i*2) (w:=w.drew) hk
    rw [<- e1] at k1
    obtain ⟨a2,k2,z2⟩:=zEo (T:=54) (arr:=a1) [.int .i64 0,.slice none 0 0] ((L.length-1)*2) (w:=W1) k1
    rw [<- e2] at k2
    have hcl:=hE.len
    rw [hF] at hcl
    have hsub:(L.eraseIdx i).Sublist L:=List.eraseIdx_sublist ..
    have hl':(L.eraseIdx i).length=L.length-1:=by rw [List.length_eraseIdx,if_pos hi]
    have hdl:((csOf L).drop ((i+1)*2)).length=(L.length-(i+1))*2:=by rw [List.length_drop,hcl];omega
    have hcs':a2.toList.take ((L.length-1)*2)=csOf (L.eraseIdx i):=by
      rw [List.eraseIdx_eq_take_drop_succ,zFb,hE.take,hE.drop,hF]
      refine List.ext_getElem? fun p=>?_
      rcases Nat.lt_or_ge p ((L.length-1)*2) with hp | hp
      . rw [List.getElem?_take_of_lt hp, Array.getElem?_toList, <- k2.cell, e2, World.cell?_setCells_out _ _ _ _ _ (fun _ _ => .inl hp), e1]
        rcases Nat.lt_or_ge p (i*2) with hpi | hpi
        . rw [World.cell?_setCells_out _ _ _ _ _ (fun _ _ => .inl hpi), List.getElem?_append_left (by rw [List.length_take]; omega), List.getElem?_take_of_lt hpi, <- hcs, List.getElem?_take_of_lt (by omega), Array.getElem?_toList]
          exact hk.cell p
        . have:=World.cell?_setCells_in g ((csOf L).drop ((i+1)*2)) (i*2) w.drew (fun j hj=>by
            rw [hdl] at hj
            show (w.cell? _).isSome=true
            rw [hk.cell,Array.getElem?_eq_getElem (by omega)]
            rfl) (p-i*2) (by omega)
          rw [show i*2+(p-i*2)=p by omega] at this
          rw [this,List.getElem?_append_right (by rw [List.length_take];omega),List.length_take,Nat.min_eq_left (by omega)]
          exact (List.getElem?_eq_getElem _).symm
      . rw [List.getElem?_eq_none_iff.2 (by rw [List.length_take];omega),List.getElem?_eq_none_iff.2 (by rw [List.length_append,List.length_take,hdl];omega)]
    have hch:Ch S w w':=⟨h2.os,h2.tape,h2.output,by rw [h2.size];exact Nat.le_refl _,fun k _ hn=>h2.block k fun e=>hn ((hS k).2 (.inl e)),h2.drawn⟩
    refine ⟨_,fun k=>k=g\/inL (L.eraseIdx i) k,rfl,hch,fun k _ hk'=>?_,fun A' hst=>?_⟩
    rotate_left
    . have hE' := (hE.sub hsub).stab (fun k hk' => h2.block k fun e => hg (e ▸ zL7 hsub hk')) hst
      have:=zIH hE' k2 (c:=c) (by omega) hcm (by rw [z2,z1,hsz,hF]) (by rw [hl',hF];exact hcs') (fun h=>hg (zL7 hsub h))
      rw [hl',show (L.eraseIdx i).map (·.1)=(L.map (·.1)).eraseIdx i by rw [List.eraseIdx_eq_take_drop_succ,List.eraseIdx_eq_take_drop_succ,List.map_append,List.map_take,List.map_drop]] at this
      exact this
    . rcases hk' with rfl | hk'
      . exact (hS k).2 (.inl rfl)
      . exact (hS k).2 (.inr (zL7 hsub hk'))
end Go.Proofs.YtmgiijdejigdhaaGreat
namespace Go.Proofs.YtmgiijdejigdhaaGreat
open Go.RowKit
set_option linter.unusedVariables false
section
variable {R:Reg} {w:World} {p:String} {af:Array Edge} {g:Option (Nat × Bool)} {A:Av} {α:Type} {F:OE α} {x x' xi xj:Operand} {K:Nat->Prop} {a v:Value}
theorem zKH {e : TypeId} {xs ys : List α} {Q : List α -> Pw} {S S1 S2 U : Nat -> Prop} {b off : Nat} {u v' : Value} {w' : World} (h : Hole (oSl e F) A w S b off xs S1 [u] Q) (hch : Ch S1 w w') (hSU : ∀ k, S k -> U k) (hlt : ∀ k, S k -> k < w.heap.size) (hdis2 : ∀ k, k < w.heap.size -> S2 k -> S1 k \/ (U k /\ ¬ S k))
    (hst:Stp A (zH9 A U fun k=>(S k/\¬ S1 k)\/S2 k) w w') (hown:(oSl e F).own (zH9 A U fun k=>(S k/\¬ S1 k)\/S2 k) w' S2 ys [v']) :
    (pdP (oSl e F) (.pointer (some ⟨b,off,none⟩)) Q ys).P (zH9 A U fun k=>(S k/\¬ S1 k)\/S2 k) w' (fun k=>(S k/\¬ S1 k)\/S2 k) v':=by
  have hold:∀ k,S k->¬ S1 k->w'.heap[k]? = w.heap[k]?:=fun k hk hn=>hch.block k (hlt k hk) hn
  obtain ⟨arr,T0,hblk,hsz⟩:=h.blk
  have hb2:=hold b h.inb h.out
  refine ⟨b,off,S2,fun k=>S k/\¬ S1 k,[v'],rfl,rfl,hown,fun k=>Iff.rfl,fun k hk hn=>(hdis2 k (hlt k hn.1) hk).elim hn.2 fun h=>h.2 hn.1,⟨h.inb,h.out⟩,⟨arr,T0,hb2.trans hblk,hsz⟩,fun k hk=>Nat.lt_of_lt_of_le (hlt k hk.1) hch.size,fun A' w'' S1' y' ds k1 k2 k3 k4 k5 k6=>?_⟩
  obtain ⟨arr0,arr1,T1,j1,j2,j3,j4⟩:=k3
  exact h.put A' w'' S1' y' ds k1 k2 ⟨arr0,arr1,T1,hb2.symm.trans j1,j2,j3,j4⟩ (fun k a1 a2 a3=>(k4 k ⟨a1,a2⟩ a3).trans (hold k a1 a2)) (hst.trans k5) (fun k a1 a2=>Classical.byContradiction fun hn=>k6 k a1 ⟨a2,hn⟩)
theorem zLa {e:TypeId} {xs:List α} {Q:List α->Pw} {S S1 S':Nat->Prop} {b off:Nat} {cs:List Value} (h:Hole (oSl e F) A w S b off xs S1 cs Q) (hp:zIN w S' (.pointer (some ⟨b,off,none⟩),[v])):cs = [v]:=by
  obtain ⟨b',o',e0,_,hc⟩:=hp
  injection e0 with e0
  injection e0 with e0
  injection e0 with e1 e2
  subst e1 e2
  have hl1:cs.length=1:=(oSl e F).len h.own
  match cs,hl1 with
  | [c],_=>
    have h1:=h.at' 0 c rfl
    have h2:=hc 0 v rfl
    rw [h1] at h2
    injection h2 with h2
    rw [h2]
set_option maxRecDepth 100000 in
theorem zM7 {ty t0 t1 t2 : TypeId} {xs : List α} {y : α} {Q : List α -> Pw} {u0 : Value} {S' : Nat -> Prop} {dd : Nat} {ρ : Nat -> Value} {σ : Nat -> Nat -> Prop} {c1 c2 : Nat} {i : Int} (hne : Nat.beq c1 c2 = false) (h : zEY (oSl 54 F) A w (σ c1) a xs Q) (hp : zIN w S' (a, [v])) (hx : zAL R x = v)
    (h2:(trP (oSl 54 F) [y] []).P A w (σ c2) (ρ c2)) (hxi:zAL R xi=.int .i64 i) (hx':zAL R x'=ρ c2) (hav:∀ d,d ∈ [c1,c2]->∀ k,σ d k->∀ o,A k o) (hdd:∀ d d',d ∈ [c1,c2]->d' ∈ [c1,c2]->d ≠ d'->∀ k,σ d k->¬ σ d' k)
    (hB1:∀ k,σ c1 k->K k) (hB2:∀ k,σ c2 k->K k) (hB:∀ k,w.heap.size<=k->K k) (hlt:∀ k,σ c1 k->k<w.heap.size) (hF:F.E.size=2) (hi:subR i (xs.length:Int) xs.length=true) (hl:zD4 (xs.length+1)=true) :
    OpR Tryz.prog ⟨some dd,.call ⟨.value (.func 38),#[x,xi,x'],#[t0,t1,t2]⟩,ty,p,af,g⟩ R w (zF1 A true u0 (fun k=>∃ d,d ∈ [c1,c2]/\σ d k) (.gen K (pdP (oSl 54 F) a Q (xs.take i.toNat++y::xs.drop i.toNat))) (fun _=>.any) w):=by
  obtain ⟨b,off,S1,cs,rfl,h⟩:=h
  obtain rfl:=zLa h hp
  obtain ⟨⟨cs2,e2,h2⟩,_⟩:=h2
  have hs2:∃ u,cs2 = [u]:=by
    rcases h2 with ⟨h,_⟩ | ⟨_,_,_,_,h,_⟩ <;> exact ⟨_,h⟩
  obtain ⟨u2,rfl⟩:=hs2
  have e2:ρ c2=u2:=e2
  have hm1:c1 ∈ [c1,c2]:=.head _
  have hm2:c2 ∈ [c1,c2]:=.tail _ (.head _)
  have hne':c1 ≠ c2:=fun h=>by subst h;simp at hne
  have hS1:∀ k,S1 k->σ c1 k:=h.sub
  have hi3:=zDM.1 hi
  obtain ⟨n,rfl⟩:=Int.eq_ofNat_of_zero_le (show 0<=i by omega)
  refine zB7 (al:=[x,xi,x']) Tryz.call38 ?_
  show Calls Tryz.prog 38 #[zAL R x,zAL R xi,zAL R x'] w _
  rw [hx,hxi,hx',e2]
  refine (zNP h.own h2 (fun k hk=>hdd c1 c2 hm1 hm2 hne' k (hS1 k hk)) hF (i:=n) (by omega) hl).mono ?_
  rintro ed w' ⟨v',S2',rfl,hch,hsub,hown⟩
  have hch':Ch (fun k=>∃ d,d ∈ [c1,c2]/\σ d k) w w':=⟨hch.os,hch.tape,hch.output,hch.size,fun k hk hn=>hch.block k hk fun h=>hn ⟨c1,hm1,hS1 k h⟩,hch.drawn⟩
  have hsub':∀ k,k<w.heap.size->((σ c1 k/\¬ S1 k)\/S2' k)->∃ d,d ∈ [c1,c2]/\σ d k:=fun k hk h=>h.elim (fun h=>⟨c1,hm1,h.1⟩) fun h=>(hsub k hk h).elim (fun h=>⟨c1,hm1,hS1 k h⟩) fun h=>⟨c2,hm2,h⟩
  have hst:=zDY (S'':=fun k=>(σ c1 k/\¬ S1 k)\/S2' k) (fun k ⟨d,hd,h⟩=>hav d hd k h) hch' hsub'
  refine ⟨v',rfl,v',fun k=>(σ c1 k/\¬ S1 k)\/S2' k,rfl,hch',hsub',hst,trivial,⟨fun k hk=>?_,?_⟩,trivial⟩
  . rcases hk with hk | hk
    . exact hB1 k hk.1
    . rcases Nat.lt_or_ge k w.heap.size with h3 | h3
      . exact (hsub k h3 hk).elim (fun h=>hB1 k (hS1 k h)) (hB2 k)
      . exact hB k h3
  . exact zKH h hch (fun k hk=>⟨c1,hm1,hk⟩) hlt (fun k hk h=>(hsub k hk h).imp id fun h=>⟨⟨c2,hm2,h⟩,fun h'=>hdd c1 c2 hm1 hm2 hne' k h' h⟩) hst (hown _ hst)
set_option maxRecDepth 100000 in
theorem zM4 {ty t0 t1 t2 : TypeId} {xs : List α} {Q : List α -> Pw} {u0 : Value} {S S' : Nat -> Prop} {dd : Nat} {i j : Int} (h : zEY (oSl 54 F) A w S a xs Q) (hp : zIN w S' (a, [v])) (hx : zAL R x = v)
    (hxi:zAL R xi=.int .i64 i) (hxj:zAL R xj=.int .i64 j) (hav:∀ k,S k->∀ o,A k o)
    (hB1:∀ k,S k->K k) (hB:∀ k,w.heap.size<=k->K k) (hlt:∀ k,S k->k<w.heap.size) (hF:F.E.size=2) (hi:inR i xs.length=true) (hj:(j==i+1)=true) :
    OpR Tryz.prog ⟨some dd,.call ⟨.value (.func 42),#[x,xi,xj],#[t0,t1,t2]⟩,ty,p,af,g⟩ R w (zF1 A true u0 S (.gen K (pdP (oSl 54 F) a Q (xs.eraseIdx i.toNat))) (fun _=>.any) w):=by
  obtain ⟨b,off,S1,cs,rfl,h⟩:=h
  obtain rfl:=zLa h hp
  have hS1:∀ k,S1 k->S k:=h.sub
  obtain rfl:j=i+1:=eq_of_beq hj
  have hi3:=zDx.1 hi
  obtain ⟨n,rfl⟩:=Int.eq_ofNat_of_zero_le (show 0<=i by omega)
  refine zB7 (al:=[x,xi,xj]) Tryz.call42 ?_
  show Calls Tryz.prog 42 #[zAL R x,zAL R xi,zAL R xj] w _
  rw [hx,hxi,hxj]
  refine (zNG h.own hF (i:=n) (by omega)).mono ?_
  rintro ed w' ⟨v',S2',rfl,hch,hsub,hown⟩
  have hch':Ch S w w':=⟨hch.os,hch.tape,hch.output,hch.size,fun k hk hn=>hch.block k hk fun h=>hn (hS1 k h),hch.drawn⟩
  have hsub':∀ k,k<w.heap.size->((S k/\¬ S1 k)\/S2' k)->S k:=fun k hk h=>h.elim (fun h=>h.1) fun h=>hS1 k (hsub k hk h)
  have hst:=zDY (S'':=fun k=>(S k/\¬ S1 k)\/S2' k) hav hch' hsub'
  refine ⟨v',rfl,v',fun k=>(S k/\¬ S1 k)\/S2' k,rfl,hch',hsub',hst,trivial,⟨fun k hk=>?_,?_⟩,trivial⟩
  . rcases hk with hk | hk
    . exact hB1 k hk.1
    . rcases Nat.lt_or_ge k w.heap.size with h3 | h3
      . exact hB1 k (hS1 k (hsub k h3 hk))
      . exact hB k h3
  . exact zKH h hch (fun k hk=>hk) hlt (fun k hk h=>.inl (hsub k hk h)) hst (hown _ hst)
end
section
variable {P:Program} {R:Reg} {w:World} {t:TypeId} {p:String} {af:Array Edge} {g:Option (Nat × Bool)} {A:Av} {α β γ:Type} {E1:Enc α} {E2:Enc β} {E3:Enc γ} {x:Operand} {u:Value} {K:Nat->Prop}
theorem zKP {e T' Tb : TypeId} {ad : Operand} {a0 : α × β × List γ} {ys : List γ} {pins : List Pin} {ρ : Nat -> Value} {σ : Nat -> Nat -> Prop} {c1 c2 : Nat} (hne : Nat.beq c1 c2 = false) (h : (trP (oPt Tb (oRd (ePr E1 (ePr E2 (eSl E3))))) a0 pins).P A w (σ c1) u) (hv : ∃ cs, ρ c2 = (oSl e (oRd E3)).E.val cs /\ (oSl e (oRd E3)).own A w (σ c2) ys cs) (hx : zAL R x = ρ c2) (had : zAL R ad = padd u (E1.size + E2.size))
    (hav:∀ d,d ∈ [c1,c2]->∀ k,σ d k->∀ o,A k o) (hdd:∀ d d',d ∈ [c1,c2]->d' ∈ [c1,c2]->d ≠ d'->∀ k,σ d k->¬ σ d' k) (hB1:∀ k,σ c1 k->K k) (hB2:∀ k,σ c2 k->K k) (hsz:∀ w,(sizeOf T').run P w=.ok 1 w) :
    OpR P ⟨none,.store T' ad x,t,p,af,g⟩ R w (zF1 A false u (fun k=>∃ d,d ∈ [c1,c2]/\σ d k) (trR K (oPt Tb (oPr (oRd E1) (oPr (oRd E2) (oSl e (oRd E3))))) (a0.1,a0.2.1,ys) []) (fun _=>.any) w):=by
  obtain ⟨vs,e0,hv⟩:=hv
  obtain ⟨va,vn,vc,rfl⟩:=zH6 hv
  have hxv:zAL R x=.slice va vn vc:=hx.trans e0
  have hm1:c1 ∈ [c1,c2]:=.head _
  have hm2:c2 ∈ [c1,c2]:=.tail _ (.head _)
  have hne':c1 ≠ c2:=fun h=>by subst h;simp at hne
  have hST:∀ k,(∃ d,d ∈ [c1,c2]/\σ d k) ↔ σ c1 k\/σ c2 k:=fun k=>by
    constructor
    . rintro ⟨d, hd, hk⟩
      rcases List.mem_cons.1 hd with hd | hd
      . exact .inl (hd ▸ hk)
      . exact .inr (List.mem_singleton.1 hd ▸ hk)
    . exact fun h=>h.elim (fun h=>⟨c1,hm1,h⟩) fun h=>⟨c2,hm2,h⟩
  obtain ⟨⟨es,e1,b,ds,S1,rfl,hb,⟨hno,hr⟩,h3,h4⟩,_⟩:=h
  have hu:u=.pointer (some ⟨b,0,none⟩):=e1
  have hSb:σ c1 b:=(h4 b).2 (.inl rfl)
  have hvb:¬ σ c2 b:=hdd c1 c2 hm1 hm2 hne' b hSb
  obtain ⟨cs1,cs',rfl,r1,cs2,cs3,rfl,r2,r3⟩:=hr
  obtain ⟨oa,on,oc,rfl,_⟩:=r3
  have l1:=E1.len r1
  have l2:=E2.len r2
  subst hu
  have had:zAL R ad=.pointer (some ⟨b,E1.size+E2.size,none⟩):=by
    rw [had]
    show Value.pointer (some ⟨b,0+(E1.size+E2.size),none⟩)=_
    rw [Nat.zero_add]
  obtain ⟨w',h1,h2,h3'⟩:=zEw (P:=P) (o:=E1.size+E2.size) (v:=zAL R x) hsz (by rw [hxv];intro c hc;simp [Value.cells] at hc;subst hc;rfl) (by rw [hxv];rfl) hb (by simp only [List.size_toArray,List.length_append,List.length_singleton];omega)
  rw [hxv] at h3'
  refine zGa (w':=w') ?_ ?_
  . simp only [execOp, Instr.storeAt, Instr.sureAddr, had]
    simp [h1]
  . have hch : Ch (fun k => ∃ d, d ∈ [c1, c2] /\ σ d k) w w' := ⟨h2.ch.os, h2.ch.tape, h2.ch.output, h2.ch.size, fun k hk hn => h2.ch.block k hk fun e => hn ((hST k).2 (.inl (e ▸ hSb))), h2.ch.drawn⟩
    have hsub:∀ k,k<w.heap.size->(k=b\/σ c2 k)->∃ d,d ∈ [c1,c2]/\σ d k:=fun k _ hk=>(hST k).2 (hk.elim (fun h=>.inl (h ▸ hSb)) .inr)
    have hst:=zDY (S'':=fun k=>k=b\/σ c2 k) (fun k ⟨d,hd,h⟩=>hav d hd k h) hch hsub
    have hneb:∀ k,σ c2 k->k ≠ b:=fun k hk e=>hvb (e ▸ hk)
    have hv':=(oSl e (oRd E3)).stab hv (fun k hk=>h2.block k (hneb k hk)) hst
    have q1:=E1.stp hst r1
    have q2:=E2.stp hst r2
    have hown:(oPr (oRd E1) (oPr (oRd E2) (oSl e (oRd E3)))).own (zH9 A (fun k=>∃ d,d ∈ [c1,c2]/\σ d k) fun k=>k=b\/σ c2 k) w' (σ c2) (a0.1,a0.2.1,ys) (cs1++(cs2 ++ [.slice va vn vc])):=
      zIi (F:=oRd E1) (zCy q1) (zIi (F:=oRd E2) (zCy q2) hv')
    refine ⟨_,fun k=>k=b\/σ c2 k,rfl,hch,hsub,hst,trivial,⟨fun k hk=>hk.elim (fun h=>hB1 k (h ▸ hSb)) (hB2 k),⟨⟨[.pointer (some ⟨b,0,none⟩)],rfl,b,cs1++(cs2 ++ [.slice va vn vc]),σ c2,rfl,?_,hown,hvb,fun k=>Iff.rfl⟩,fun q hq=>by cases hq⟩⟩,trivial⟩
    have e2:lay (cs1++(cs2 ++ [Value.slice oa on oc])).toArray (E1.size+E2.size) [Value.slice va vn vc]=(cs1++(cs2 ++ [Value.slice va vn vc])).toArray:=by
      rw [zJk _ _ _ (by simp only [List.length_append,List.length_singleton];omega),<- List.append_assoc,List.take_left' (by rw [List.length_append];omega),List.drop_of_length_le (by simp only [List.length_append,List.length_singleton];omega),List.append_nil,List.append_assoc]
    rw [<- e2]
    exact h3'
def tupP {F : OE α} (x : α) (b : Bool) : SP where
  P:=fun A w S v=>∃ u,v=.tuple #[u,.bool b]/\(trP F x []).P A w S u
  lt:=fun ⟨_,_,h⟩ hk=>(trP F x []).lt h hk
  stab:=fun ⟨u,e,h⟩ hb hs=>⟨u,e,(trP F x []).stab h hb hs⟩
abbrev tupR (K:Nat->Prop) (F:OE α) (x:α) (b:Bool):Res:=.gen K (tupP (F:=F) x b)
variable {F:OE α} {y:α} {d:Option Nat} {S:Nat->Prop}
theorem zMC {fn : FuncId} {al : List Operand} {aT : Array TypeId} {r : α × Bool} (hc : ∀ args w, (callFunc fn args).run P w=.ok (.enter fn args) w)
    (h:Calls P fn (al.map (zAL R)).toArray w fun ed w'=>∃ v,ed=.returned v/\(∃ (u0:Value) (S0:Nat->Prop) (A1:Av),GPost A (fun _=>False) w [⟨u0,S0,trR (geB w.heap.size) F r.1 []⟩] A1 w'/\(Fact.tup2 (.raw u0) (.raw (.bool r.2))).ok v w')) (hB:∀ k,w.heap.size<=k->K k) :
    OpR P ⟨d,.call ⟨.value (.func fn),al.toArray,aT⟩,t,p,af,g⟩ R w (zGB A (tupR K F r.1 r.2) (fun _=>.tup2 .any (.raw (.bool r.2))) w):=by
  refine zB7 hc (Calls.mono h ?_)
  rintro ed w' ⟨v,he,u0,S0,A1,hG,a,b,rfl,ha,hb⟩
  have ha:a=u0:=ha
  have hb:b=.bool r.2:=hb
  subst ha hb
  have h0:=hG.ini.own 0 _ rfl
  have hS0:∀ k,S0 k->∀ o,A1 k o:=(hG.ini.ok 0 _ rfl).2
  have hge:∀ k,S0 k->w.heap.size<=k:=h0.1
  have e:A1=addS A S0:=by
    funext b o
    refine propext ⟨fun h=>(hG.up b o h).imp id fun ⟨i,q,hq,hk⟩=>?_,fun h=>h.elim (hG.low b o) fun h=>hS0 b h o⟩
    cases i with
    | zero=>cases hq;exact hk
    | succ i=>cases hq
  subst e
  exact ⟨_,he,S0,hG.ch.no,hge,trivial,⟨fun k hk=>hB k (hge k hk),a,rfl,h0.2⟩,⟨a,.bool r.2,rfl,trivial,rfl⟩⟩
theorem zME {b:Bool} {v u0:Value} (h:(tupP (F:=F) y b).P A w S v) (hx:zAL R x=v) (hav:∀ k,S k->∀ o,A k o) (hB:∀ k,S k->K k):OpR P ⟨d,.move x,t,p,af,g⟩ R w (zF1 A true u0 S (tupR K F y b) (fun _=>.tup2 .any (.raw (.bool b))) w):=by
  have hst:=zDY (S'':=S) hav (Ch.refl S w) fun _ _ h=>h
  obtain ⟨u1,e,_⟩:=id h
  refine zAS (v:=v) (w':=w) (by simp [execOp,hx]) ⟨v,S,rfl,Ch.refl _ _,fun _ _ h=>h,hst,trivial,⟨hB,(tupP (F:=F) y b).stab h (fun _ _=>rfl) hst⟩,⟨u1,.bool b,e,trivial,rfl⟩⟩
theorem zMW {b:Bool} {v u0:Value} (h:(tupP (F:=F) y b).P A w S v) (hx:zAL R x=v) (hav:∀ k,S k->∀ o,A k o) (hB:∀ k,S k->K k):OpR P ⟨d,.extract x 0,t,p,af,g⟩ R w (zF1 A true u0 S (trR K F y []) (fun _=>.any) w):=by
  obtain ⟨u1,rfl,h⟩:=h
  exact zKf (v:=u1) (by simp [execOp,hx,Instr.extract]) h hav hB
theorem zKD {γ : Type} {E : Enc γ} {A0 A1 : Av} {K : Nat -> Prop} {w' : World} {ob0 : Ob} {u0 : Value} {B : Nat} {T : TypeId} {xs : List γ} (hA0 : AvOK A0 w) (h : GPost A0 K w [ob0, ob u0 (.vec B T E xs)] A1 w') (hB : w.heap.size <= B) :
    GPost A0 K w [ob0] (subS A1 (zAE u0)) w'/\Rep (eSl E) (subS A1 (zAE u0)) w' u0 xs:=by
  have hv:=(h.ini.ok 1 _ rfl).1
  have hvge:∀ k,zAE u0 k->B<=k:=fun k hk=>by
    obtain ⟨cs,hr,_⟩:=hv
    rcases hr.2 with ⟨e,_⟩ | ⟨g,cap,cur,e,hb,_⟩
    . have e : u0 = _ := e
      rw [e] at hk;exact hk.elim
    . have e : u0 = _ := e
      rw [e] at hk
      have hk:g=k:=hk
      omega
  have hd:=h.ini.dis 0 1 _ _ rfl rfl (by decide)
  refine ⟨⟨?_,fun b o hb=>h.avok b o hb.1,fun b o hb=>⟨h.low b o hb,fun hk=>by have:=hvge b hk;have:=hA0 b o hb;omega⟩,fun b o hb=>?_,fun k hk=>?_,h.ch⟩,Vec.thaw hv (fun b o hb=>hb.1) fun b o hb=>hb.2⟩
  . have hsub : IniOK [ob0] A1 w' := h.ini.sub [(0, ob0)] ⟨rfl, rfl, trivial⟩
    refine hsub.shrink (fun b o hb=>hb.1) fun k ⟨i,q,hq,hk⟩ o=>?_
    cases i with
    | zero=>cases hq;exact ⟨(hsub.ok 0 _ rfl).2 k hk o,fun h=>hd k hk h⟩
    | succ i=>cases hq
  . rcases h.up b o hb.1 with h1 | ⟨i, q, hq, hk⟩
    . exact .inl h1
    . match i, hq with
      | 0,hq=>cases hq;exact .inr ⟨0,ob0,rfl,hk⟩
      | 1,hq=>cases hq;exact absurd hk hb.2
      | i+2,hq=>cases hq
  . obtain ⟨i, q, hq, hk⟩ := hk
    cases i with
    | zero=>cases hq;exact h.new k ⟨0,ob0,rfl,hk⟩
    | succ i=>cases hq
end
abbrev eI {o:Oper} (n:Int):Ent:=⟨o,true,.raw (.int .i64 n)⟩
abbrev eU {o:Oper} (n:Int):Ent:=⟨o,true,.raw (.int .u8 n)⟩
abbrev eB {o:Oper} (b:Bool):Ent:=⟨o,true,.raw (.bool b)⟩
abbrev eR {o:Oper} (v:Value):Ent:=⟨o,true,.raw v⟩
abbrev eF {o:Oper} (f:Fact):Ent:=⟨o,true,f⟩
abbrev eA {o:Oper}:Ent:=⟨o,true,.any⟩
abbrev gI {o:Oper} (g:Bool) (n:Int):Ent:=⟨o,g,.raw (.int .i64 n)⟩
abbrev gU {o:Oper} (g:Bool) (n:Int):Ent:=⟨o,g,.raw (.int .u8 n)⟩
abbrev gB {o:Oper} (g:Bool) (b:Bool):Ent:=⟨o,g,.raw (.bool b)⟩
abbrev gR {o:Oper} (g:Bool) (v:Value):Ent:=⟨o,g,.raw v⟩
abbrev gF {o:Oper} (g:Bool) (f:Fact):Ent:=⟨o,g,f⟩
abbrev rI {o:Oper} (n:Int):EntR:=⟨o,true,[],none,true,fun _=>.raw (.int .i64 n)⟩
abbrev rU {o:Oper} (n:Int):EntR:=⟨o,true,[],none,true,fun _=>.raw (.int .u8 n)⟩
abbrev rB {o:Oper} (b:Bool):EntR:=⟨o,true,[],none,true,fun _=>.raw (.bool b)⟩
abbrev rR {o:Oper} (v:Value):EntR:=⟨o,true,[],none,true,fun _=>.raw v⟩
abbrev rF {o:Oper} (f:Av->Fact):EntR:=⟨o,true,[],none,true,f⟩
abbrev rA {o:Oper}:EntR:=⟨o,true,[],none,true,fun _=>.any⟩
theorem ur {o:Oper} {g:Bool} {con:List Nat} {res:Option Res} {lk:Bool} {u:Value} {l:List EntR} (t:UAll l):UAll (⟨o,g,con,res,lk,fun _=>.raw u⟩::l):=UAll.cons zEA t
theorem ua {o:Oper} {g:Bool} {con:List Nat} {res:Option Res} {lk:Bool} {l:List EntR} (t:UAll l):UAll (⟨o,g,con,res,lk,fun _=>.any⟩::l):=UAll.cons zKt t
theorem up {o:Oper} {g:Bool} {con:List Nat} {res:Option Res} {lk:Bool} {α:Type} {E:Enc α} {y:α} {l:List EntR} (t:UAll l):UAll (⟨o,g,con,res,lk,fun A=>.rep E A y⟩::l):=UAll.cons zE9 t
section
variable {P:Program} {n:Nat} {Q:Exit->Reg->World->Prop} {id:Nat} {l:List Ent} {R R':Reg} {w:World} {i:Nat} {rest:List Ent}
theorem op {x : Ent} (h : ∀ R' w', Fr w w' -> (∀ t, zHy l i t = true -> R' t = R t) -> Deps l R' w' x.o.after.toList -> OpR P x.o R' w' fun v w'' => x.f.ok v w'' /\ Fr w' w'')
    (t:Obls P l R w (i+1) rest) (hg:x.o.guard=none:=by exact rfl) (hx:x.g=true:=by exact rfl):Obls P l R w i (x::rest):=Obls.p h t hg hx
theorem oz:Obls P l R w i []:=Obls.nil
theorem zPT (l:List Ent) (ho:Obls P l R w 0 l) (ha:∀ R' w',Fr w w'->(∀ t,zJ5 l t=true->R' t=R t)->zKx R' w' l->Q .normal R' w') (hb:zCW 0 (l.map (·.o))=true:=by kernel_rfl) (hd:zES l=true:=by kernel_rfl) (hs:zFM n ((l.map fun x:Ent=>x.o)++([]:List Oper))=true:=by kernel_rfl):HT P n (.region id ((l.map fun x:Ent=>x.o)++([]:List Oper)).toArray false) R w Q:=
  zPU hb hd hs ho ha
theorem HT.u {w0:World} {A:Av} (hA:AvOK A w) (hF:Fr w0 w) (l:List Ent) (ho:Obls P l R w 0 l) (ha:∀ R' w',Fr w w'->(∀ t,zJ5 l t=true->R' t=R t)->zKx R' w' l->AvOK A w'->Fr w0 w'->Q .normal R' w') (hb:zCW 0 (l.map (·.o))=true:=by kernel_rfl) (hd:zES l=true:=by kernel_rfl) (hs:zFM n ((l.map fun x:Ent=>x.o)++([]:List Oper))=true:=by kernel_rfl):HT P n (.region id ((l.map fun x:Ent=>x.o)++([]:List Oper)).toArray false) R w Q:=
  zPU hb hd hs ho fun R' w' hw hs hf=>ha R' w' hw hs hf (hA.fr hw.size) (hF.trans hw)
theorem om {d:Option Nat} {t:Nat} {ty:TypeId} {p:String} {af:Array Edge} {v:Value} (h:R t=v) (r:Obls P l R w (i+1) rest) (hk:zHy l i t=true:=by exact rfl):Obls P l R w i (⟨⟨d,.move (.tmp t),ty,p,af,none⟩,true,.raw v⟩::rest):=
  ⟨Obl.plain rfl rfl fun R' w' hw hs hd=>zBI ((hs t hk).trans h),r⟩
theorem ov {d:Option Nat} {t:Nat} {ty:TypeId} {p:String} {af:Array Edge} {v:Value} (r:Obls P l R w (i+1) rest) (hd:depF l af.toList 0=some (t,.raw v):=by exact rfl):Obls P l R w i (⟨⟨d,.move (.tmp t),ty,p,af,none⟩,true,.raw v⟩::rest):=
  ⟨Obl.plain rfl rfl fun R' w' hw hs h=>zBI (h.g 0 hd),r⟩
theorem oa {d:Option Nat} {t:Nat} {ty:TypeId} {p:String} {af:Array Edge} {v:Value} (r:Obls P l R w (i+1) rest) (hd:depF l af.toList 0=some (t,.raw v):=by exact rfl):Obls P l R w i (⟨⟨d,.assign (.tmp t),ty,p,af,none⟩,true,.raw v⟩::rest):=
  ⟨Obl.plain rfl rfl fun R' w' hw hs h=>zA6 (h.g 0 hd),r⟩
def grdF (l : List Ent) (j : Nat) : Option (Bool × Bool) := match l[j]? with
  | none=>none
  | some y => match y.o.dst with
    | none=>none
    | some _ => match y.f with
      | .raw (.bool c)=>some (y.g,c)
      | _=>none
theorem og {x : Ent} (j : Nat) (want : Bool) (h : x.g = true -> ∀ R' w', Fr w w' -> (∀ t, zHy l i t = true -> R' t = R t) -> Deps l R' w' x.o.after.toList -> OpR P x.o R' w' fun v w'' => x.f.ok v w'' /\ Fr w' w'') (r : Obls P l R w (i + 1) rest)
    (hg:x.o.guard=some (j,want):=by exact rfl) (hy:(grdF l j).map (fun p=>p.1&&(p.2==want))=some x.g:=by exact rfl) (ha:x.o.after.any (fun e=>bnd e&&Nat.beq e.on j)=true:=by kernel_rfl):Obls P l R w i (x::rest):=by
  refine ⟨?_,r⟩
  unfold grdF at hy
  cases h1:l[j]? with
  | none=>rw [h1] at hy;cases hy
  | some y=>
    rw [h1] at hy
    dsimp only at hy
    cases h2:y.o.dst with
    | none=>rw [h2] at hy;cases hy
    | some d=>
      rw [h2] at hy
      dsimp only at hy
      split at hy
      . rename_i c hc
        exact Obl.grd j want y c d hg h1 h2 hc (Option.some.inj hy).symm ha h
      . cases hy
def depG (l:List Ent) (es:List Edge) (j:Nat):Option (Nat × Fact × Bool):=
  match es[j]? with
  | none=>none
  | some e => bif bnd e then (match l[e.on]? with
    | none=>none
    | some x => match x.o.dst with
      | none=>none
      | some d=>some (d,x.f,x.g)) else none
theorem Deps.h {es:List Edge} (h:Deps l R w es) (j:Nat) {d:Nat} {f:Fact} {g:Bool} (hg:g=true) (e:depG l es j=some (d,f,g)):f.ok (R d) w:=by
  unfold depG at e
  cases h1:es[j]? with
  | none=>rw [h1] at e;cases e
  | some a=>
    rw [h1] at e
    dsimp only at e
    cases h2:bnd a
    . rw [h2] at e;cases e
    rw [h2,cond_true] at e
    cases h3:l[a.on]? with
    | none=>rw [h3] at e;cases e
    | some x=>
      rw [h3] at e
      dsimp only at e
      cases h4:x.o.dst with
      | none=>rw [h4] at e;cases e
      | some d'=>
        rw [h4] at e
        dsimp only at e
        obtain ⟨rfl,e2⟩:=Prod.mk.inj (Option.some.inj e)
        obtain ⟨rfl,rfl⟩:=Prod.mk.inj e2
        exact h j a x _ h1 h2 h3 h4 hg
def facR (l : List Ent) (i : Nat) : Option (Nat × Value) := match l[i]? with
  | none=>none
  | some x => match x.o.dst with
    | none=>none
    | some d => bif x.g then (match x.f with
      | .raw u=>some (d,u)
      | _=>none) else none
theorem zKx.r (h:zKx R w l) (i:Nat) {d:Nat} {u:Value} (e:facR l i=some (d,u)):R d=u:=by
  unfold facR at e
  cases h1:l[i]? with
  | none=>rw [h1] at e;cases e
  | some x=>
    rw [h1] at e
    dsimp only at e
    cases h2:x.o.dst with
    | none=>rw [h2] at e;cases e
    | some d'=>
      rw [h2] at e
      dsimp only at e
      cases h3:x.g
      . rw [h3] at e;cases e
      rw [h3,cond_true] at e
      split at e
      . rename_i u' hu
        obtain ⟨rfl,rfl⟩:=Prod.mk.inj (Option.some.inj e)
        have:=h i x _ h1 h2 h3
        rw [hu] at this
        exact this
      . cases e
end
section
variable {P:Program} {ini:List Ob} {l:List EntR} {A:Av} {R R':Reg} {w:World} {i:Nat} {rest:List EntR}
theorem rp {x : EntR} (h : ∀ A' R' w', Onto ini l A R w i A' R' w' -> zGo l A' R' w' x.o.after.toList -> OpR P x.o R' w' fun v w'' => (x.f A').ok v w'' /\ Fr w' w'')
    (t:zE0 P ini l A R w (i+1) rest) (hg:x.o.guard=none:=by exact rfl) (hx:x.g=true:=by exact rfl) (hc:x.con = []:=by exact rfl) (hr:x.res=none:=by exact rfl):zE0 P ini l A R w i (x::rest):=zE0.p h t hg hx hc hr
theorem rz:zE0 P ini l A R w i []:=zE0.nil
theorem rc {x:EntR} (h:OblR P ini l A R w i x) (t:zE0 P ini l A R w (i+1) rest):zE0 P ini l A R w i (x::rest):=zE0.cons h t
theorem rm {d:Option Nat} {t:Nat} {ty:TypeId} {p:String} {af:Array Edge} {v:Value} (h:R t=v) (r:zE0 P ini l A R w (i+1) rest) (hk:zLL l i t=true:=by exact rfl):zE0 P ini l A R w i (⟨⟨d,.move (.tmp t),ty,p,af,none⟩,true,[],none,true,fun _=>.raw v⟩::rest):=
  ⟨OblR.plain rfl rfl rfl rfl fun A' R' w' ho hd=>zBI ((ho.old t hk).trans h),r⟩
theorem ra {d:Option Nat} {t:Nat} {ty:TypeId} {p:String} {af:Array Edge} {v:Value} (r:zE0 P ini l A R w (i+1) rest) (hd:zO8 l af.toList 0=some (t,fun _=>.raw v):=by exact rfl):zE0 P ini l A R w i (⟨⟨d,.assign (.tmp t),ty,p,af,none⟩,true,[],none,true,fun _=>.raw v⟩::rest):=
  ⟨OblR.plain rfl rfl rfl rfl fun A' R' w' ho h=>zA6 (h.g 0 hd),r⟩
end
section
variable {q:Nat->Bool} {R R':Reg} {a b c d e f g h:Nat} {s t u v x y z k:Value}
theorem k1 (hs:∀ t,q t=true->R' t=R t) (h1:R a=s) (p1:q a=true:=by exact rfl):R' a=s:=(hs a p1).trans h1
theorem k2 (hs:∀ t,q t=true->R' t=R t) (h1:R a=s) (h2:R b=t) (p1:q a=true:=by exact rfl) (p2:q b=true:=by exact rfl):R' a=s/\R' b=t:=⟨(hs a p1).trans h1,(hs b p2).trans h2⟩
theorem k3 (hs:∀ t,q t=true->R' t=R t) (h1:R a=s) (h2:R b=t) (h3:R c=u) (p1:q a=true:=by exact rfl) (p2:q b=true:=by exact rfl) (p3:q c=true:=by exact rfl):R' a=s/\R' b=t/\R' c=u:=⟨(hs a p1).trans h1,(hs b p2).trans h2,(hs c p3).trans h3⟩
theorem k4 (hs:∀ t,q t=true->R' t=R t) (h1:R a=s) (h2:R b=t) (h3:R c=u) (h4:R d=v) (p1:q a=true:=by exact rfl) (p2:q b=true:=by exact rfl) (p3:q c=true:=by exact rfl) (p4:q d=true:=by exact rfl):R' a=s/\R' b=t/\R' c=u/\R' d=v:=⟨(hs a p1).trans h1,(hs b p2).trans h2,(hs c p3).trans h3,(hs d p4).trans h4⟩
theorem k5 (hs:∀ t,q t=true->R' t=R t) (h1:R a=s) (h2:R b=t) (h3:R c=u) (h4:R d=v) (h5:R e=x) (p1:q a=true:=by exact rfl) (p2:q b=true:=by exact rfl) (p3:q c=true:=by exact rfl) (p4:q d=true:=by exact rfl) (p5:q e=true:=by exact rfl):R' a=s/\R' b=t/\R' c=u/\R' d=v/\R' e=x:=⟨(hs a p1).trans h1,(hs b p2).trans h2,(hs c p3).trans h3,(hs d p4).trans h4,(hs e p5).trans h5⟩
theorem k6 (hs:∀ t,q t=true->R' t=R t) (h1:R a=s) (h2:R b=t) (h3:R c=u) (h4:R d=v) (h5:R e=x) (h6:R f=y) (p1:q a=true:=by exact rfl) (p2:q b=true:=by exact rfl) (p3:q c=true:=by exact rfl) (p4:q d=true:=by exact rfl) (p5:q e=true:=by exact rfl) (p6:q f=true:=by exact rfl):R' a=s/\R' b=t/\R' c=u/\R' d=v/\R' e=x/\R' f=y:=⟨(hs a p1).trans h1,(hs b p2).trans h2,(hs c p3).trans h3,(hs d p4).trans h4,(hs e p5).trans h5,(hs f p6).trans h6⟩
end
section
variable {P:Program} {ini:List Ob} {l:List EntR} {A A':Av} {R R':Reg} {w w':World} {done:Nat->Bool} {ρ:Nat->Value} {σ:Nat->Nat->Prop}
theorem InvR.rg (hI:InvR ini l A R w done ρ σ A' R' w'):∀ t,zKq l t=true->R' t=R t:=fun _ h=>hI.reg h
def zOg (l : List EntR) (i : Nat) : Option (Nat × (Av -> Fact)) := match l[i]? with
  | none=>none
  | some x => match x.o.dst with
    | none=>none
    | some d=>bif x.g then some (d,x.f) else none
theorem InvR.r (hI:InvR ini l A R w done ρ σ A' R' w') (hd:∀ i,i<l.length->done i=true) (i:Nat) {d:Nat} {u:Value} (e:zOg l i=some (d,fun _=>.raw u)):R' d=u:=by
  unfold zOg at e
  cases h1:l[i]? with
  | none=>rw [h1] at e;cases e
  | some x=>
    rw [h1] at e
    dsimp only at e
    cases h2:x.o.dst with
    | none=>rw [h2] at e;cases e
    | some d'=>
      rw [h2] at e
      dsimp only at e
      cases h3:x.g
      . rw [h3] at e;cases e
      rw [h3,cond_true] at e
      obtain ⟨rfl,hu⟩:=Prod.mk.inj (Option.some.inj e)
      have:=hI.fact hd h1 h2 h3
      rw [hu] at this
      exact this
end
section
variable {P:Program} {n:Nat} {Q:Exit->Reg->World->Prop} {id:Nat} {R:Reg} {w:World} {y:Code} {A:Av}
theorem zPR {w0:World} (hA:AvOK A w) (hF:Fr w0 w) (l:List Ent) (ho:Obls P l R w 0 l) (ha:∀ R' w',Fr w w'->(∀ t,zJ5 l t=true->R' t=R t)->zKx R' w' l->AvOK A w'->Fr w0 w'->HT P n y R' w' Q) (hb:zCW 0 (l.map (·.o))=true:=by kernel_rfl) (hd:zES l=true:=by kernel_rfl) (hs:zFM n ((l.map fun x:Ent=>x.o)++([]:List Oper))=true:=by kernel_rfl):HT P n (.seq (.region id ((l.map fun x:Ent=>x.o)++([]:List Oper)).toArray false) y) R w Q:=
  zPQ (HT.u hA hF l ho ha hb hd hs)
theorem zPV (ini:List Ob) (l:List EntR) (hu:UAll l) (hi:IniOK ini A w) (hA:AvOK A w) (ho:zE0 P ini l A R w 0 l) (ha:zKe ini l A R w (fun R w=>Q .normal R w)) (hb:zCW 0 (l.map (·.o))=true:=by kernel_rfl) (hs:zFM n (l.map (·.o))=true:=by kernel_rfl) (h1:zF9 l=true:=by kernel_rfl) (h2:l.all (conB ini.length l)=true:=by kernel_rfl) (h3:zLp l=true:=by kernel_rfl):HT P n (.region id (l.map (·.o)).toArray false) R w Q:=
  HT.textR ini l hb hs (Wf.mk' h1 hu h2 h3) hi hA ho ha
theorem zPS (ini:List Ob) (l:List EntR) (hu:UAll l) (hi:IniOK ini A w) (hA:AvOK A w) (ho:zE0 P ini l A R w 0 l) (ha:zKe ini l A R w (fun R w=>HT P n y R w Q)) (hb:zCW 0 (l.map (·.o))=true:=by kernel_rfl) (hs:zFM n (l.map (·.o))=true:=by kernel_rfl) (h1:zF9 l=true:=by kernel_rfl) (h2:l.all (conB ini.length l)=true:=by kernel_rfl) (h3:zLp l=true:=by kernel_rfl):HT P n (.seq (.region id (l.map (·.o)).toArray false) y) R w Q:=
  zPQ (zPV ini l hu hi hA ho ha hb hs h1 h2 h3)
end
section
variable {ini:List Ob} {l:List EntR} {A:Av} {R:Reg} {w:World} {done:Nat->Bool} {ρ:Nat->Value} {σ:Nat->Nat->Prop} {A':Av} {R':Reg} {w':World}
theorem InvR.s (hI:InvR ini l A R w done ρ σ A' R' w') {A0:Av} {w0:World} (h0:∀ b o,A0 b o->A b o) (hB:∀ b o,A0 b o->b<w0.heap.size) (hF:Fr w0 w) (hO:IniOK ini A w) (h:zHE w0.heap.size ini):(∀ b o,A0 b o->A' b o)/\Fr w0 w'/\AvOK A' w':=
  ⟨hI.low' h0 hB (hO.ge h),hF.tr hI.ch (hO.ge h),hI.avok⟩
theorem InvR.ov (hI:InvR ini l A R w done ρ σ A' R' w') (hd:∀ i,i<l.length->done i=true) {u:Value} (id i:Nat) (e:ρ id=u) {x:EntR} {d:Nat} (hx:l[i]? = some x:=by exact rfl) (hid:id=ini.length+i:=by exact rfl) (hr:x.res.isSome=true:=by exact rfl) (hk:x.lk=true:=by exact rfl) (hxd:x.o.dst=some d:=by exact rfl):R' d=u:=
  (hI.opvR hd id i hx hid hr hk hxd).symm.trans e
theorem InvR.on (hI:InvR ini l A R w done ρ σ A' R' w') (hd:∀ i,i<l.length->done i=true) {u:Value} (id i:Nat) {x:EntR} {c:Nat} (hx:l[i]? = some x) (hid:id=ini.length+i) (hr:x.res.isSome=true) (hk:x.lk=false) (hc:x.con.head? = some c) (e:ρ c=u):ρ id=u:=
  (hI.opnR hd id i hx hid hr hk hc).trans e
end
theorem Z {α:Sort _} {a:α}:a=a:=rfl
theorem N:True:=trivial
theorem nb {n m:Nat} (h:Nat.ble n m=true):n<=m:=Nat.le_of_ble_eq_true h
theorem si {α:Type _} {a b:α} (h:some a=some b):a=b:=Option.some.inj h
theorem ei {α:Sort _} {p:α->Prop} (w:α) (h:p w):Exists p:=Exists.intro w h
theorem ck2 {α:Type} {a b:Bool} {k:Option α} {r:α} (h:ck a (ck b k)=some r):a=true/\b=true/\k=some r:=⟨(zAG h).1,zAG (zAG h).2⟩
theorem ck3 {α:Type} {a b c:Bool} {k:Option α} {r:α} (h:ck a (ck b (ck c k))=some r):a=true/\b=true/\c=true/\k=some r:=⟨(zAG h).1,ck2 (zAG h).2⟩
theorem ck4 {α:Type} {a b c d:Bool} {k:Option α} {r:α} (h:ck a (ck b (ck c (ck d k)))=some r):a=true/\b=true/\c=true/\d=true/\k=some r:=⟨(zAG h).1,ck3 (zAG h).2⟩
section
variable {P:Program} {l:List Ent} {R:Reg} {w:World} {i:Nat} {rest:List Ent}
theorem gm {d : Option Nat} {t : Nat} {ty : TypeId} {p : String} {af : Array Edge} {g : Bool} {v : Value} (j : Nat) (want : Bool) (h : R t = v) (r : Obls P l R w (i + 1) rest) (hk : zHy l i t = true := by exact rfl)
    (hy:(grdF l j).map (fun p=>p.1&&(p.2==want))=some g:=by exact rfl) (ha:af.any (fun e=>bnd e&&Nat.beq e.on j)=true:=by kernel_rfl):Obls P l R w i (⟨⟨d,.move (.tmp t),ty,p,af,some (j,want)⟩,g,.raw v⟩::rest):=
  og j want (fun _ R' w' hw hs hd=>zBI ((hs t hk).trans h)) r rfl hy ha
end
theorem pc {A0:Av} {w:World} (h:AvOK A0 w):∃ w0,w0=w/\∀ b o,A0 b o->b<w0.heap.size:=⟨w,rfl,h⟩
theorem pw {A0:Av} {w:World} (h:AvOK A0 w):∃ w0,w0=w/\Fr w0 w/\∀ b o,A0 b o->b<w0.heap.size:=⟨w,rfl,Fr.refl _,h⟩
theorem pa {A0:Av} {w:World} (h:AvOK A0 w):∃ A,A=A0/\(∀ b o,A0 b o->A b o)/\AvOK A w/\IniOK [] A w:=⟨A0,rfl,fun _ _ h=>h,h,IniOK.nil⟩
theorem pf (w:World):∃ w0,w0=w/\Fr w0 w:=⟨w,rfl,Fr.refl _⟩
theorem fw {w0 w:World} (h:w0=w):Fr w=Fr w0:=h ▸ rfl
theorem fh {w0 w:World} (h:w0=w):w.heap.size=w0.heap.size:=h ▸ rfl
theorem qt {α:Type} {E:Enc α} {A:Av} {x:α} {v:Value} {w:World} (h:(Fact.qtr E A x).ok v w):QRep E A w v x:=h
end Go.Proofs.YtmgiijdejigdhaaGreat

