/- Own texts laid together. No statement of the seat is proved here. -/
import Derived.Test.YtmkgocdgkdglnaaZx1
import Derived.Test.YtmkgocdgkdglnaaProg
import Derived.Shelf.Slices.In.SortNone
import Derived.Shelf.SlSortCmp.NoneTotal
import Derived.Shelf.Small.Strs
import Derived.Shelf.Sort.Plain
import Derived.Ground.NamesProg
import Derived.Ground.SlsfProg
import Derived.Maps.Own
import Derived.Maps.Views
import Derived.Carry
import Derived.Lib.ItoaNum
import Derived.Lib.AtoiAll
import Derived.Lib.Split
import Derived.Lib.Join
import Derived.Shelf.SlSortCmp.WholeK
namespace Go.Proofs.Ytmkgocdgkdglnaa
open Go.RowKit
set_option linter.unusedVariables false
abbrev Pin:=Value × List Value
def zFj (w:World) (S:Nat→Prop) (q:Pin):Prop:=∃ b o,q.1 = .pointer (some ⟨b,o,none⟩)∧S b∧∀ (j:Nat) u,q.2[j]? = some u→w.cell? ⟨b,o+j,none⟩=some u
def trP {α : Type} (F : OE α) (x : α) (pins : List Pin) : SP where
  P:=fun A w S u=>(∃ cs,u=F.E.val cs∧F.own A w S x cs)∧∀ q,q ∈ pins→zFj w S q
  lt:=fun ⟨⟨_,_,h⟩,_⟩ hk=>F.lt h hk
  stab:=fun ⟨⟨cs,h1,h2⟩,h3⟩ hb hs=>⟨⟨cs,h1,F.stab h2 hb hs⟩,fun q hq=>let ⟨b,o,h4,h5,h6⟩:=h3 q hq;⟨b,o,h4,h5,fun j u hj=>(World.cell?_of_block (hb b h5)).trans (h6 j u hj)⟩⟩
abbrev trR {α:Type} (K:Nat→Prop) (F:OE α) (x:α) (pins:List Pin):Res:=.gen K (trP F x pins)
abbrev geB (B:Nat):Nat→Prop:=fun k=>B≤k
def padd : Value → Nat → Value
  | .pointer (some a),k=>.pointer (some ⟨a.block,a.off+k,none⟩)
  | v,_=>v
theorem zBR (u:Value) (m k:Nat):padd (padd u m) k=padd u (m+k):=by
  cases u with
  | pointer a=>
    cases a with
    | none=>rfl
    | some a=>simp [padd,Nat.add_assoc]
  | _=>rfl
theorem zEf {u:Value} (h:∃ b o,u = .pointer (some ⟨b,o,none⟩)):padd u 0=u:=by
  obtain ⟨b,o,rfl⟩:=h
  rfl
theorem zJf {α:Type} {E:Enc α} {A:Av} {w:World} {x:α} {cs:List Value} (h:E.rep A w x cs):(E.val cs).cells.toList=cs:=by
  have hl:=E.len h
  cases ha:E.agg with
  | true=>simp [Enc.val,ha,Value.cells]
  | false=>
    have h1:=E.one ha
    rw [h1] at hl
    match cs,hl,h with
    | [c],_,h=>
      have h2:=E.oc h c (by simp)
      have:(Enc.val E [c]).cells = #[c]:=by
        simp only [Enc.val,ha]
        cases c <;> first | rfl | cases h2
      rw [this]
section
variable {α β γ:Type} {F:OE α} {G:OE β} {A A0:Av} {w:World} {S:Nat→Prop}
theorem OE.rep0 (F:OE α) {x:α} {cs:List Value} (h:F.own A w S x cs):F.E.rep av0 w x cs:=F.rep h (fun _ _ h=>h.elim) fun _ _ _ h=>h
theorem OE.cells (F:OE α) {x:α} {cs:List Value} (h:F.own A w S x cs):(F.E.val cs).cells.toList=cs:=zJf (F.rep0 h)
theorem zAJ {x:α} {pins:List Pin} {u:Value} (h:(trP F x pins).P A w S u):zDi F A w S u x (fun z A w S=>(trP F z []).P A w S u):=by
  obtain ⟨⟨cs,rfl,h1⟩,_⟩:=h
  have:=VHole.root h1
  exact ⟨S,cs,rfl,this.own,this.sub,fun A' w' S1' y' k1 k2 k3 k4=>⟨⟨cs,rfl,this.put A' w' S1' y' k1 k2 k3 k4⟩,fun q hq=>by cases hq⟩⟩
theorem zDi.elem [Inhabited α] {T:TypeId} {v:Value} {xs:List α} {Q:List α→Pw} (h:zDi (oSl T F) A w S v xs Q) {i:Int} {m:Nat} (hi:inR i xs.length=true) (hm:i.toNat*F.E.size=m):zDB F A w S (vptr v m) (gtD xs i) (fun z=>Q (xs.set i.toNat z)):=by
  obtain ⟨S1,cs,rfl,h⟩:=h
  obtain ⟨g,n,c,S2,ds,rfl,h2⟩:=h.elem (zHE hi)
  exact ⟨g,m,S2,ds,by show Value.pointer _=_;rw [Nat.zero_add],hm ▸ h2⟩
theorem zDi.len {T:TypeId} {v:Value} {xs:List α} {Q:List α→Pw} (h:zDi (oSl T F) A w S v xs Q):∃ a c,v = .slice a xs.length c∧(0<xs.length→∃ b,a=some ⟨b,0,none⟩):=by
  obtain ⟨S1,cs,rfl,h⟩:=h
  rcases h.own with ⟨rfl,rfl,_⟩ | ⟨g,c,arr,Si,rfl,_⟩
  · exact ⟨none,0,rfl,fun h=>absurd h (by simp)⟩
  · exact ⟨_,c,rfl,fun _=>⟨g,rfl⟩⟩
theorem zDB.fst {a:Value} {y:α × β} {Q:α × β→Pw} (h:zDB (oPr F G) A w S a y Q):zDB F A w S a y.1 (fun z=>Q (z,y.2)):=by
  obtain ⟨b,off,S1,cs,rfl,h⟩:=h
  obtain ⟨Sa,ca,h⟩:=h.fst
  exact ⟨b,off,Sa,ca,rfl,h⟩
theorem zDB.snd {a a':Value} {y:α × β} {Q:α × β→Pw} (h:zDB (oPr F G) A w S a y Q) (ha:padd a F.E.size=a'):zDB G A w S a' y.2 (fun z=>Q (y.1,z)):=by
  obtain ⟨b,off,S1,cs,rfl,h⟩:=h
  obtain ⟨Sa,ca,h⟩:=h.snd
  exact ⟨b,off+F.E.size,Sa,ca,ha.symm,h⟩
theorem zDB.bx {a:Value} {y:α} {Q:α→Pw} (h:zDB (oBx F) A w S a y Q):zDB F A w S a y Q:=by
  obtain ⟨b,off,S1,cs,rfl,h⟩:=h
  exact ⟨b,off,S1,cs,rfl,h.bx⟩
theorem zDB.ad {a:Value} {y:α} {Q:α→Pw} (h:zDB F A w S a y Q):∃ b off,a = .pointer (some ⟨b,off,none⟩):=let ⟨b,off,_,_,e,_⟩:=h;⟨b,off,e⟩
theorem zDB.open {a:Value} {y:α} {Q:α→Pw} (h:zDB F A w S a y Q):∃ cs,cs.length=F.E.size∧zFj w S (a,cs):=by
  obtain ⟨b,off,S1,cs,rfl,h⟩:=h
  exact ⟨cs,F.len h.own,b,off,rfl,h.inb,h.at'⟩
theorem zDB.open1 {a:Value} {y:α} {Q:α→Pw} (h:zDB F A w S a y Q) (ha:F.E.agg=false):∃ v,zFj w S (a,[v]):=by
  obtain ⟨cs,hl,hp⟩:=h.open
  rw [F.E.one ha] at hl
  match cs,hl,hp with
  | [c],_,hp=>exact ⟨c,hp⟩
theorem zDB.pinS {a:Value} {y:α} {Q:α→Pw} {S':Nat→Prop} {ds:List Value} (h:zDB F A w S a y Q) (hp:zFj w S' (a,ds)) (hl:ds.length=F.E.size):zDi F A w S (F.E.val ds) y Q:=by
  obtain ⟨b,off,S1,cs,rfl,h⟩:=h
  obtain ⟨b',o',e,_,hc⟩:=hp
  injection e with e
  injection e with e
  injection e with e1 e2
  subst e1 e2
  have hl':=F.len h.own
  have:ds=cs:=by
    apply List.ext_getElem?
    intro j
    by_cases hj:j<ds.length
    · have h1 := hc j _ (List.getElem?_eq_getElem hj)
      have hj':j<cs.length:=by omega
      have h2:=h.at' j _ (List.getElem?_eq_getElem hj')
      rw [List.getElem?_eq_getElem hj,List.getElem?_eq_getElem hj']
      exact h1.symm.trans h2
    · rw [List.getElem?_eq_none (by omega),List.getElem?_eq_none (by omega)]
  subst this
  exact ⟨S1,ds,rfl,h.v⟩
theorem zDB.pin {a v:Value} {y:α} {Q:α→Pw} {S':Nat→Prop} (h:zDB F A w S a y Q) (hp:zFj w S' (a,[v])) (ha:F.E.agg=false):zDi F A w S v y Q:=by
  have:=h.pinS hp (by rw [F.E.one ha];rfl)
  simpa [Enc.val,ha] using this
theorem zDi.ptr {T:TypeId} {u:Value} {y:α} {Q:α→Pw} (h:zDi (oPt T F) A w S u y Q):zDB F A w S u y Q:=by
  obtain ⟨S1,cs,rfl,h⟩:=h
  obtain ⟨b,S2,ds,rfl,h2⟩:=h.ptr
  exact ⟨b,0,S2,ds,rfl,h2⟩
theorem zDi.own {v:Value} {y:α} {Q:α→Pw} (h:zDi F A w S v y Q):∃ S1 cs,v=F.E.val cs∧F.own A w S1 y cs∧(∀ k,S1 k→S k):=let ⟨S1,cs,e,h⟩:=h;⟨S1,cs,e,h.own,h.sub⟩
theorem IniOK.repin {ini:List Ob} (h:IniOK ini A w) (i:Nat) {u:Value} {K:Nat→Prop} {p p':SP} (hi:ini[i]? = some ⟨u,S,.gen K p⟩) (hp:p.P A w S u→p'.P A w S u):IniOK (ini.set i ⟨u,S,.gen K p'⟩) A w:=by
  have hlt:=(List.getElem?_eq_some_iff.1 hi).1
  have hset:∀ (j:Nat) q,(ini.set i ⟨u,S,.gen K p'⟩)[j]? = some q→(j=i∧q=⟨u,S,.gen K p'⟩)∨(j ≠ i∧ini[j]? = some q):=fun j q hq=>by
    by_cases e:j=i
    · subst e
      rw [List.getElem?_set_self hlt] at hq
      injection hq with hq
      exact .inl ⟨rfl,hq.symm⟩
    · rw [List.getElem?_set_ne (Ne.symm e)] at hq
      exact .inr ⟨e,hq⟩
  refine ⟨fun j q hq=>?_,fun j q hq=>?_,fun j j' q q' hq hq' hne=>?_⟩
  · rcases hset j q hq with ⟨rfl, rfl⟩ | ⟨_, hq⟩
    · exact ⟨trivial,(h.ok j _ hi).2⟩
    · exact h.ok j q hq
  · rcases hset j q hq with ⟨rfl, rfl⟩ | ⟨_, hq⟩
    · have := h.own j _ hi
      exact ⟨this.1,hp this.2⟩
    · exact h.own j q hq
  · have key:∀ (j:Nat) q,(ini.set i ⟨u,S,.gen K p'⟩)[j]? = some q→∃ q0,ini[j]? = some q0∧q0.S=q.S:=fun j q hq=>by
      rcases hset j q hq with ⟨rfl,rfl⟩ | ⟨_,hq⟩
      · exact ⟨_,hi,rfl⟩
      · exact ⟨q,hq,rfl⟩
    obtain ⟨q0,h1,h2⟩:=key j q hq
    obtain ⟨q1,h3,h4⟩:=key j' q' hq'
    rw [← h2,← h4]
    exact h.dis j j' q0 q1 h1 h3 hne
theorem trP.pin {x:α} {pins:List Pin} {u:Value} {q:Pin} (hq:zFj w S q) (h:(trP F x pins).P A w S u):(trP F x (q::pins)).P A w S u:=
  ⟨h.1,fun q' hq'=>by
    rcases List.mem_cons.1 hq' with rfl | hq'
    · exact hq
    · exact h.2 q' hq'⟩
theorem trP.nopin {x:α} {pins:List Pin} {u:Value} (h:(trP F x pins).P A w S u):(trP F x []).P A w S u:=⟨h.1,fun q hq=>by cases hq⟩
theorem zFx {E:Enc α} {B:Nat} {T:TypeId} {u:Value} {xs:List α} (h:Vec E A B T w u xs) (hT:T ≠ zJ5):∃ cs,u=(oSl T (oRd E)).E.val cs∧(oSl T (oRd E)).own A w (zAV u) xs cs:=by
  obtain ⟨cs,hown,hf⟩:=h
  rcases hown.2 with ⟨rfl,h0⟩ | ⟨g,c,arr,rfl,hb,hg,hnc,hcm,hcs,htk⟩
  · obtain rfl : xs = [] := List.eq_nil_of_length_eq_zero h0
    exact ⟨[.slice none 0 0],rfl,.inl ⟨rfl,rfl,fun k hk=>hk⟩⟩
  · refine ⟨[.slice (some ⟨g, 0, none⟩) xs.length c], rfl, .inr ⟨g, c, arr, fun _ _ => False, rfl, hg.plain hT, hnc, hcm, hcs, ⟨fun i x hx => ?_, fun _ _ _ _ _ _ h => h.elim, fun _ _ h => h, fun k => ⟨fun hk => .inl (Eq.symm hk), fun hk => hk.elim (fun e => Eq.symm e) fun ⟨_, _, h⟩ => h.elim⟩⟩⟩⟩
    obtain ⟨ds,h1,h2⟩:=hf.2 i x hx
    refine ⟨ds,⟨fun _ h=>h,h1⟩,fun j u hj=>?_⟩
    have:=h2 j u hj
    rw [← htk,List.getElem?_take] at this
    show arr[i*E.size+j]? = some u
    split at this
    · simpa using this
    · cases this
theorem zGx {E:Enc α} {B:Nat} {T:TypeId} {v:Value} {xs:List α} {cs:List Value} (h:(oSl T (oRd E)).own A w S xs cs) (hv:v=(oSl T (oRd E)).E.val cs) (hB:∀ k,S k→B≤k):Vec E A B T w v xs∧S=zAV v:=by
  subst hv
  rcases h with ⟨rfl,rfl,h⟩ | ⟨g,c,arr,Si,rfl,h1,h2,h3,h4,h5⟩
  · refine ⟨zIO, ?_⟩
    funext k
    rw [eq_iff_iff]
    exact ⟨fun hk=>(h k hk).elim,fun hk=>hk.elim⟩
  · have hsi:∀ i k,i<xs.length→¬ Si i k:=fun i k hi hk=>by
      obtain ⟨ds,h6,_⟩:=h5.el i _ (List.getElem?_eq_getElem hi)
      exact h6.1 k hk
    refine ⟨⟨arr.toList.take (xs.length*E.size),⟨?_,.inr ⟨g,c,arr,rfl,hB g ((h5.set g).2 (.inl rfl)),BlkM.of h1,h2,h3,h4,rfl⟩⟩,?_,fun i x hx=>?_⟩,?_⟩
    · have := Nat.mul_le_mul_right E.size h2
      have h4':arr.toList.length=c*E.size:=by rw [Array.length_toList];exact h4
      rw [List.length_take,h4']
      exact Nat.min_eq_left this
    · have := Nat.mul_le_mul_right E.size h2
      have h4':arr.toList.length=c*E.size:=by rw [Array.length_toList];exact h4
      rw [List.length_take,h4']
      exact Nat.min_eq_left this
    · obtain ⟨ds, h6, h7⟩ := h5.el i x hx
      refine ⟨ds,h6.2,fun j u hj=>?_⟩
      have hi:=(List.getElem?_eq_some_iff.1 hx).1
      have hj':=(List.getElem?_eq_some_iff.1 hj).1
      rw [E.len h6.2] at hj'
      have:=Nat.mul_le_mul_right E.size (show i+1≤xs.length by omega)
      rw [Nat.add_mul,Nat.one_mul] at this
      rw [List.getElem?_take,if_pos (by omega),Array.getElem?_toList]
      exact h7 j u hj
    · funext k
      rw [eq_iff_iff]
      refine ⟨fun hk=>?_,fun hk=>(h5.set k).2 (.inl (Eq.symm hk))⟩
      rcases (h5.set k).1 hk with rfl | ⟨i,hi,hk⟩
      · exact rfl
      · exact (hsi i k hi hk).elim
theorem zJu {x:α} {pins:List Pin} {u:Value} (h:(trP F x pins).P A w S u) (hA:∀ b o,A0 b o→A b o) (hn:∀ k o,S k→¬ A0 k o):Rep F.E A0 w u x:=
  let ⟨⟨cs,e,h1⟩,_⟩:=h;⟨cs,e,F.rep h1 hA hn⟩
end
section
variable {P:Program} {R:Reg} {w:World} {d:Option Nat} {t:TypeId} {p:String} {af:Array Edge} {g:Option (Nat × Bool)} {A:Av} {α β:Type} {S:Nat→Prop}
variable {E:Enc α} {F:OE α} {x ix:Operand} {T e:TypeId} {K:Nat→Prop} {u a v:Value}
theorem zCa {w':World} {S'':Nat→Prop} (hav:∀ k,S k→∀ o,A k o) (hc:Ch S w w') (hS:∀ k,k<w.heap.size→S'' k→S k):Stp A (zGq A S S'') w w':=
  ⟨hc.size,fun b o v hv hn=>(World.cell?_of_block (w:=w) (hc.block b (zE8 hv) fun h=>hn (hav b h o))).trans hv,fun b o hb h=>h.elim (·.1) fun h=>hav b (hS b hb h) o⟩
theorem zFZ {xs:List α} {Q:List α→Pw} {A':Av} {w0:World} {T':TypeId} (h:zDi (oSl T' F) A' w0 S v xs Q) (hx:zAL R x=v) (hu:P.underlying T=some (.slice e)):OpF P ⟨d,.call ⟨.builtin .len,#[x],#[T]⟩,t,p,af,g⟩ R w (.raw (.int .i64 (xs.length:Int))):=by
  obtain ⟨ad,cap,rfl,_⟩:=h.len
  exact zAY (w':=w) (by simp [execOp,resolve,invoke,builtin,Builtin.len_,hx,underlying,hu,goInt]) ⟨rfl,Fr.refl _⟩
theorem zCT {k : IntKind} {i : Int} {xs : List α} {Q : List α → Pw} {A' : Av} {w0 : World} {T' : TypeId} {s m : Nat} (h : zDi (oSl T' F) A' w0 S v xs Q) (hx : zAL R x = v) (hi : zAL R ix = .int k i) (hu : P.underlying T = some (.slice e)) (hsz : ∀ w, (sizeOf e).run P w = .ok s w) (hr : inR i xs.length = true) (hm : i.toNat * s = m) :
    OpF P ⟨d,.indexAddr T x ix,t,p,af,g⟩ R w (.raw (vptr v m)):=by
  subst hm
  obtain ⟨ad,cap,rfl,hb⟩:=h.len
  obtain ⟨i0,i1⟩:=zDu.1 hr
  obtain ⟨b,rfl⟩:=hb (by omega)
  refine zAY (v:=.pointer (some ⟨b,0+i.toNat*s,none⟩)) (w':=w) ?_ ⟨rfl,Fr.refl _⟩
  have hin:i<(xs.length:Int):=i1
  simp [execOp,Instr.indexAt,hx,hi,asIntOf,underlying,hu,i0,hin,hsz,zCE]
theorem zAb {sn kn ft off sz : Nat} {a' : Value} (h : ∃ b off, a = .pointer (some ⟨b, off, none⟩)) (hx : zAL R x = a) (hf : FldF P sn kn ft off) (hsz : ∀ w, (sizeOf ft).run P w = .ok sz w) (h0 : sz ≠ 0) (ha : padd a off = a') :
    OpF P ⟨d,.fieldAddr sn x kn,t,p,af,g⟩ R w (.raw a'):=by
  obtain ⟨b,o,rfl⟩:=h
  subst ha
  exact zAY (v:=.pointer (some ⟨b,o+off,none⟩)) (w':=w) (by simp [execOp,zEO (w:=w) hf hsz h0 hx]) ⟨rfl,Fr.refl _⟩
theorem zEy {y:α} {Q:α→Pw} (h:zDB (oRd E) A w S a y Q) (hx:zAL R x=a) (hag:∀ w,(isAgg T).run P w = .ok E.agg w) (hsz:∀ w,(sizeOf T).run P w = .ok E.size w):OpF P ⟨d,.load T x,t,p,af,g⟩ R w (.rep E A y):=by
  obtain ⟨b,off,S1,cs,rfl,h⟩:=h
  obtain ⟨arr,T',hb,_⟩:=h.blk
  exact zAv ⟨b,off,hx,hb.lt,cs,h.own.2,h.at'⟩ hag hsz
theorem zBv (hp:zFj w S (a,[v])) (hx:zAL R x=a) (hag:∀ w,(isAgg T).run P w = .ok false w) (hsz:∀ w,(sizeOf T).run P w = .ok 1 w):OpF P ⟨d,.load T x,t,p,af,g⟩ R w (.raw v):=by
  obtain ⟨b,o,rfl,_,hc⟩:=hp
  refine zAY (v:=v) (w':=w) ?_ ⟨rfl,Fr.refl _⟩
  have:=zCB (P:=P) (w:=w) (b:=b) (o:=o) (cs:=[v]) hag hsz rfl (fun _=>rfl) hc
  simp [execOp,Instr.loadAt,Instr.sureAddr,hx,this]
theorem zD6 {cs:List Value} (hp:zFj w S (a,cs)) (hl:cs.length=F.E.size) (hx:zAL R x=a) (hag:∀ w,(isAgg T).run P w = .ok F.E.agg w) (hsz:∀ w,(sizeOf T).run P w = .ok F.E.size w):OpF P ⟨d,.load T x,t,p,af,g⟩ R w (.raw (F.E.val cs)):=by
  obtain ⟨b,o,rfl,_,hc⟩:=hp
  refine zAY (v:=F.E.val cs) (w':=w) ?_ ⟨rfl,Fr.refl _⟩
  have:=zCB (P:=P) (w:=w) (b:=b) (o:=o) (cs:=cs) hag hsz hl F.E.one hc
  simp [execOp,Instr.loadAt,Instr.sureAddr,hx,this,Enc.val]
theorem zHo {ad : Operand} {T' : TypeId} {y y' : α} {Q : α → Pw} {Sv ST : Nat → Prop} {cs : List Value} {q : SP} (h : zDB F A w S a y Q) (hv : F.own A w Sv y' cs) (hxv : zAL R x = F.E.val cs) (had : zAL R ad = a) (hd : ∀ k, S k → ¬ Sv k) (hST : ∀ k, ST k ↔ S k ∨ Sv k) (hav : ∀ k, ST k → ∀ o, A k o)
    (hB:∀ k,ST k→K k) (hsz:∀ w,(sizeOf T').run P w = .ok F.E.size w) (hQ:∀ A w S,Q y' A w S→q.P A w S u):OpR P ⟨none,.store T' ad x,t,p,af,g⟩ R w (zDx A false u ST (.gen K q) (fun _=>.any) w):=by
  obtain ⟨b,off,S1,es,rfl,h⟩:=h
  obtain ⟨arr,T0,hb,hle⟩:=h.blk
  have hcs:=F.len hv
  have hcl:=F.cells hv
  have hvb:¬ Sv b:=hd b h.inb
  obtain ⟨w',h1,h2,h3⟩:=zEt (P:=P) (o:=off) (v:=zAL R x) hsz (by rw [hxv,hcl];exact F.oc hv) (by rw [hxv,← Array.length_toList,hcl];exact hcs) hb hle
  rw [hxv,hcl] at h3
  refine zGE (w':=w') ?_ ?_
  · simp only [execOp, Instr.storeAt, Instr.sureAddr, had]
    simp [h1]
  · have hch : Ch ST w w' := (h2.ch).trans (Ch.refl (fun _ => False) w') (fun _ _ h => h.elim) |> fun h => ⟨h.os, h.tape, h.output, h.size, fun k hk hn => h.block k hk fun e => hn ((hST k).2 (.inl (e ▸ ‹Hole F A w S b off y S1 es Q›.inb))), h.drawn⟩
    have hsub:∀ k,k<w.heap.size→((S k∧¬ S1 k)∨Sv k)→ST k:=fun k _ hk=>(hST k).2 (hk.elim (fun h=>.inl h.1) .inr)
    have hst:=zCa hav hch hsub
    have hne:∀ k,Sv k→k ≠ b:=fun k hk e=>hvb (e ▸ hk)
    have hv':F.own (zGq A ST fun k=>(S k∧¬ S1 k)∨Sv k) w' Sv y' cs:=F.stab hv (fun k hk=>h2.block k (hne k hk)) hst
    have hq:=h.put _ w' Sv y' cs hv' (fun j u hj=>?_) ⟨arr,_,T0,hb,h3,zDk _ _ _,fun j hj=>?_⟩ (fun k _ _ hk=>h2.block k hk) hst (fun k a b=>(hd k b a).elim)
    · refine ⟨u,fun k=>(S k∧¬ S1 k)∨Sv k,rfl,hch,hsub,hst,trivial,⟨fun k hk=>hB k ((hST k).2 (hk.elim (fun h=>.inl h.1) .inr)),hQ _ _ _ hq⟩,trivial⟩
    · have hjl := (List.getElem?_eq_some_iff.1 hj).1
      rw [h3.cell,zF4 _ _ _ _ (by omega),if_pos (by omega),Nat.add_sub_cancel_left]
      exact hj
    · rw [zF4 _ _ _ _ (by omega),if_neg (by omega)]
theorem zFD {ad : Operand} {T' : TypeId} {y y' : α} {Q : α → Pw} {q : SP} (h : zDB (oRd E) A w S a y Q) (hx : Rep E A w (zAL R x) y') (had : zAL R ad = a) (hav : ∀ k, S k → ∀ o, A k o) (hB : ∀ k, S k → K k) (hsz : ∀ w, (sizeOf T').run P w = .ok E.size w) (hQ : ∀ A w S, Q y' A w S → q.P A w S u) :
    OpR P ⟨none,.store T' ad x,t,p,af,g⟩ R w (zDx A false u S (.gen K q) (fun _=>.any) w):=by
  obtain ⟨cs,hxv,hr⟩:=hx
  exact zHo (F:=oRd E) (Sv:=fun _=>False) (cs:=cs) h ⟨fun _ h=>h,hr⟩ hxv had (fun _ _ h=>h) (fun k=>⟨.inl,fun h=>h.elim id False.elim⟩) hav hB hsz hQ
theorem zJJ {y : Operand} {k k' : IntKind} {n : Int} {zc : Value} {z : α} (hx : zAL R x = .int k n) (hy : zAL R y = .int k' n) (hn : mkOK n = true) (ht : P.underlying T = some (.slice e)) (he : ElF P e F.E.size) (hz : ∀ w, (zeroValue e).run P w = .ok zc w) (hzr : ∀ A w, F.own A w (fun _ => False) z zc.cells.toList) (hB : ∀ k, w.heap.size ≤ k → K k) :
    OpR P ⟨d,.makeSlice T x y,t,p,af,g⟩ R w (zDo A (trR K (oSl e F) (List.replicate n.toNat z) []) (fun _=>.any) w):=by
  obtain ⟨i,z',b,hi,hz',hs,hb,hzs,hs0,hb4⟩:=he
  simp only [mkOK,Bool.and_eq_true,decide_eq_true_eq] at hn
  have hzz:z'=zc:=by
    have:=hz w
    simp [zeroValue,typeInfo,hi,hz'] at this
    exact this
  subst hzz
  have hby:(i.bytes:Int)*n≤281474976710656:=by
    have h1:i.bytes*n.toNat≤4096*1048577:=Nat.mul_le_mul (by omega) (by omega)
    have h2:(i.bytes:Int)*n=((i.bytes*n.toNat:Nat):Int):=by
      rw [Int.natCast_mul,Int.toNat_of_nonneg hn.1]
    omega
  have hr:=run_make (P:=P) w T e i z' ht hi hz' k k' n n hn.1 (Int.le_refl _) hby (by omega)
  have hf:=Fr.alloc w (.cells (madeCells z'.cells (n.toNat*i.size)) e)
  have hfl:=zEB (E:=F.E) (A:=av0) (w:=w) (F.rep0 (hzr av0 w)) n.toNat
  refine zAY (v:=.slice (some ⟨w.heap.size,0,none⟩) n.toNat n.toNat) (w':=w.alloc (.cells (madeCells z'.cells (n.toNat*i.size)) e)) (by simp [execOp,hx,hy,hr]) ⟨fun k=>k=w.heap.size,hf,fun k hk=>Nat.le_of_eq (Eq.symm hk),trivial,⟨fun k hk=>hB k (Nat.le_of_eq (Eq.symm hk)),⟨[.slice (some ⟨w.heap.size,0,none⟩) n.toNat n.toNat],rfl,.inr ⟨w.heap.size,n.toNat,_,fun _ _=>False,by simp,heap_alloc_new w _,by simp,by unfold maxLen;omega,by simp [madeCells,hs],⟨fun j y hy=>?_,fun _ _ _ _ _ _ h=>h.elim,fun _ _ h=>h,fun k=>⟨.inl,fun h=>h.elim id fun ⟨_,_,h⟩=>h.elim⟩⟩⟩⟩,fun q hq=>by cases hq⟩,trivial⟩
  obtain ⟨h1,h2⟩:=List.getElem?_eq_some_iff.1 hy
  rw [List.getElem_replicate] at h2
  subst h2
  refine ⟨z'.cells.toList,F.stab (hzr _ w) (fun k hk=>hk.elim) (Fr.stp _ hf),fun q v hq=>?_⟩
  rw [List.length_replicate] at h1
  have hq':=(List.getElem?_eq_some_iff.1 hq).1
  have hl:=F.len (hzr av0 w)
  have:=Nat.mul_le_mul_right F.E.size (show j+1≤n.toNat by omega)
  rw [Nat.add_mul,Nat.one_mul] at this
  have hsz:z'.cells.size=F.E.size:=by simpa using hl
  have hbig:j*F.E.size+q<n.toNat*i.size:=by rw [hs];omega
  have hmod:(j*F.E.size+q) % z'.cells.size=q:=by
    rw [hsz,Nat.mul_comm,Nat.mul_add_mod]
    exact Nat.mod_eq_of_lt (by omega)
  simp [madeCells,hbig,hmod]
  have hq2:z'.cells[q]? = some v:=by simpa using hq
  rw [getElem!_def,hq2]
theorem zCU {zc:Value} {z:α} (hz:∀ w,(zeroValue T).run P w = .ok zc w) (hr:∀ A w,F.own A w (fun _=>False) z zc.cells.toList) (hB:∀ k,w.heap.size≤k→K k):OpR P ⟨d,.alloc T,t,p,af,g⟩ R w (zDo A (trR K (oPt T F) z []) (fun _=>.any) w):=by
  have hf:=Fr.alloc w (.cells zc.cells T)
  refine zAY (v:=.pointer (some ⟨w.heap.size,0,none⟩)) (w':=w.alloc (.cells zc.cells T)) ?_ ⟨fun k=>k=w.heap.size,hf,fun k hk=>Nat.le_of_eq (Eq.symm hk),trivial,⟨fun k hk=>hB k (Nat.le_of_eq (Eq.symm hk)),⟨[.pointer (some ⟨w.heap.size,0,none⟩)],rfl,w.heap.size,zc.cells.toList,fun _=>False,rfl,?_,hr _ _,fun h=>h,fun k=>⟨.inl,fun h=>h.elim id False.elim⟩⟩,fun q hq=>by cases hq⟩,trivial⟩
  · simp [execOp,Instr.alloc,newVar,newRow,hz]
  · have := Blk.new w T zc.cells
    simpa using this
theorem zK8 {y:α} {Sv:Nat→Prop} {pins:List Pin} (h:(trP F y pins).P A w Sv u) (hx:zAL R x=u) (hav:∀ k,Sv k→∀ o,A k o) (hBv:∀ k,Sv k→K k) (hB:∀ k,w.heap.size≤k→K k):OpR P ⟨d,.box T x,t,p,af,g⟩ R w (zDx A true u Sv (trR K (oPt T F) y []) (fun _=>.any) w):=by
  obtain ⟨⟨cs,rfl,h⟩,_⟩:=h
  have hf:=Fr.alloc w (.cells (zAL R x).cells T)
  have hsub:∀ k,k<w.heap.size→(k=w.heap.size∨Sv k)→Sv k:=fun k hk h=>h.elim (fun e=>absurd e (by omega)) id
  have hst:=zCa (S'':=fun k=>k=w.heap.size∨Sv k) hav (hf.ch Sv) hsub
  have hcl:=F.cells h
  refine zAY (v:=.pointer (some ⟨w.heap.size,0,none⟩)) (w':=w.alloc (.cells (zAL R x).cells T)) (by simp [execOp,Instr.box,newVar,newRow]) ⟨.pointer (some ⟨w.heap.size,0,none⟩),fun k=>k=w.heap.size∨Sv k,rfl,hf.ch Sv,hsub,hst,trivial,⟨fun k hk=>hk.elim (fun e=>hB k (Nat.le_of_eq (Eq.symm e))) (hBv k),⟨[.pointer (some ⟨w.heap.size,0,none⟩)],rfl,w.heap.size,cs,Sv,rfl,?_,F.stab h (fun k hk=>hf.block k (F.lt h hk)) hst,fun hk=>absurd (F.lt h hk) (Nat.lt_irrefl _),fun k=>Iff.rfl⟩,fun q hq=>by cases hq⟩,trivial⟩
  have:=Blk.new w T (zAL R x).cells
  have e:cs.toArray=(zAL R x).cells:=by rw [hx];exact (congrArg List.toArray hcl).symm
  rw [e]
  exact this
theorem zJH {o:Oper} {q:SP} (h:(execOp (zAL R) o).run P w = .ok (.value u) w) (hq:q.P A w S u) (hav:∀ k,S k→∀ o,A k o) (hB:∀ k,S k→K k):OpR P o R w (zDx A true u S (.gen K q) (fun _=>.any) w):=by
  have hst:=zCa (S'':=S) hav (Ch.refl S w) fun _ _ h=>h
  exact zAY h ⟨u,S,rfl,Ch.refl S w,fun _ _ h=>h,hst,trivial,⟨hB,q.stab hq (fun _ _=>rfl) hst⟩,trivial⟩
theorem zG0 {q:SP} (hx:zAL R x=u) (hq:q.P A w S u) (hav:∀ k,S k→∀ o,A k o) (hB:∀ k,S k→K k):OpR P ⟨d,.assign x,t,p,af,g⟩ R w (zDx A true u S (.gen K q) (fun _=>.any) w):=zJH (by simp [execOp,hx]) hq hav hB
theorem zH1 {y : α} {pins : List Pin} {T' : TypeId} (h : (trP (oPt T' F) y pins).P A w S u) (hx : zAL R x = u) (hav : ∀ k, S k → ∀ o, A k o) (hB : ∀ k, S k → K k) (hag : ∀ w, (isAgg T).run P w = .ok F.E.agg w) (hsz : ∀ w, (sizeOf T).run P w = .ok F.E.size w) :
    OpR P ⟨d,.load T x,t,p,af,g⟩ R w (zDx A true u S (trR K F y []) (fun _=>.any) w):=by
  obtain ⟨⟨cs,rfl,b,ds,S1,rfl,h1,h2,h3,h4⟩,_⟩:=h
  have hsub:∀ k,S1 k→S k:=fun k hk=>(h4 k).2 (.inr hk)
  have hst:=zCa (S'':=S1) hav (Ch.refl S w) fun k _ h=>hsub k h
  refine zAY (v:=F.E.val ds) (w':=w) ?_ ⟨F.E.val ds,S1,rfl,Ch.refl S w,fun k _ h=>hsub k h,hst,trivial,⟨fun k hk=>hB k (hsub k hk),⟨ds,rfl,F.stab h2 (fun _ _=>rfl) hst⟩,fun q hq=>by cases hq⟩,trivial⟩
  have:=zCB (P:=P) (w:=w) (b:=b) (o:=0) hag hsz (F.len h2) F.E.one (fun j v hj=>by rw [h1.cell,Nat.zero_add];simpa using hj)
  have hx':zAL R x = .pointer (some ⟨b,0,none⟩):=hx
  simp [execOp,Instr.loadAt,Instr.sureAddr,hx',this,Enc.val]
theorem zHK {fn:FuncId} {al:List Operand} {aT:Array TypeId} {K:Value→World→Prop} (hc:∀ args w,(callFunc fn args).run P w = .ok (.enter fn args) w) (h:Calls P fn (al.map (zAL R)).toArray w fun ed w'=>∃ v,ed = .returned v∧K v w'):OpR P ⟨d,.call ⟨.value (.func fn),al.toArray,aT⟩,t,p,af,g⟩ R w K:=by
  unfold OpR
  have:(execOp (zAL R) ⟨d,.call ⟨.value (.func fn),al.toArray,aT⟩,t,p,af,g⟩).run P w = .ok (.enter fn (al.map (zAL R)).toArray) w:=by
    simp [execOp,resolve,zAL,Deferred.ofValue,invoke,hc]
  rw [this]
  exact h
theorem zDo.base {K':Nat→Prop} {q:SP} {f:Av→Fact} {v:Value} {w':World} (h:zDo A (.gen K' q) f w v w') (hK:∀ k,K' k→K k):zDo A (.gen K q) f w v w':=
  let ⟨S,h1,h2,h3,h4,h5⟩:=h;⟨S,h1,h2,trivial,⟨fun k hk=>hK k (h4.1 k hk),h4.2⟩,h5⟩
theorem zFs {fn : FuncId} {al : List Operand} {aT : Array TypeId} {q : SP} {f : Av → Fact} (hc : ∀ args w, (callFunc fn args).run P w = .ok (.enter fn args) w)
    (h:Calls P fn (al.map (zAL R)).toArray w fun ed w'=>∃ v,ed = .returned v∧zDo A (.gen (geB w.heap.size) q) f w v w') (hB:∀ k,w.heap.size≤k→K k):OpR P ⟨d,.call ⟨.value (.func fn),al.toArray,aT⟩,t,p,af,g⟩ R w (zDo A (.gen K q) f w):=
  zHK hc (Calls.mono h fun ed w' ⟨v,he,h⟩=>⟨v,he,h.base hB⟩)
def Gave {α:Type} (F:OE α) (A0:Av) (S:Nat→Prop) (w:World) (v:Value) (y:α) (w':World):Prop:=
  ∃ S',(trP F y []).P (addS A0 S') w' S' v∧(∀ k,k<w.heap.size→S' k→S k)∧Ch S w w'
theorem zCH {fn : FuncId} {al : List Operand} {aT : Array TypeId} {y y' : α} {Q : α → Pw} {q : SP} {f : Fact} (hc : ∀ args w, (callFunc fn args).run P w = .ok (.enter fn args) w)
    (h:zDi F A w S v y Q) (hav:∀ k,S k→∀ o,A k o) (hB:∀ k,S k→K k) (hBw:∀ k,w.heap.size≤k→K k) (hl:∀ k,S k→k<w.heap.size)
    (hcall:∀ S1,(∀ k,S1 k→S k)→(trP F y []).P (addS (fun b o=>A b o∧¬ S1 b) S1) w S1 v→Calls P fn (al.map (zAL R)).toArray w fun ed w'=>∃ z,ed = .returned z∧(f.ok z w'∧Gave F (fun b o=>A b o∧¬ S1 b) S1 w v y' w')) (hQ:∀ A w S,Q y' A w S→q.P A w S u) :
    OpR P ⟨d,.call ⟨.value (.func fn),al.toArray,aT⟩,t,p,af,g⟩ R w (zDx A false u S (.gen K q) (fun _=>f) w):=by
  obtain ⟨S1,cs,rfl,h⟩:=h
  have hA1:∀ b o,addS (fun b o=>A b o∧¬ S1 b) S1 b o ↔ A b o:=fun b o=>by
    constructor
    · rintro (h1 | h1)
      · exact h1.1
      · exact hav b (h.sub b h1) o
    · intro h1
      by_cases h2:S1 b
      · exact .inr h2
      · exact .inl ⟨h1,h2⟩
  refine zHK hc (Calls.mono (hcall S1 h.sub ⟨⟨cs,rfl,F.stab h.own (fun _ _=>rfl) (zCM fun b o h=>(hA1 b o).1 h)⟩,fun q hq=>by cases hq⟩) ?_)
  rintro ed w' ⟨z,he,hf,S1',⟨⟨cs',e,h1⟩,_⟩,h2,h3⟩
  have hcs:cs'=cs:=by
    have a:=F.cells h1
    have b:=F.cells h.own
    rw [← e,b] at a
    exact a.symm
  subst hcs
  have hch:Ch S w w':=⟨h3.os,h3.tape,h3.output,h3.size,fun k hk hn=>h3.block k hk fun hk'=>hn (h.sub k hk'),h3.drawn⟩
  have hlt:∀ k,S1' k→S k→S1 k:=fun k b a=>h2 k (hl k a) b
  have hsub:∀ k,k<w.heap.size→((S k∧¬ S1 k)∨S1' k)→S k:=fun k hk hs=>hs.elim (·.1) fun hs=>h.sub k (h2 k hk hs)
  have hst:=zCa hav hch hsub
  have hown:=F.stab (A':=zGq A S fun k=>(S k∧¬ S1 k)∨S1' k) h1 (fun _ _=>rfl) (zCM fun b o hb=>by
    rcases hb with ⟨a,c⟩ | ⟨a,c⟩ | a
    · exact .inl ⟨a,fun hs=>c (h.sub b hs)⟩
    · exact .inl ⟨hav b a o,c⟩
    · exact .inr a)
  have hq:=h.put _ w' S1' y' hown (fun k a c=>h3.block k (hl k a) c) hst hlt
  refine ⟨z,he,u,fun k=>(S k∧¬ S1 k)∨S1' k,rfl,hch,hsub,hst,trivial,⟨fun k hk=>?_,hQ _ _ _ hq⟩,hf⟩
  rcases hk with hk | hk
  · exact hB k hk.1
  · rcases Nat.lt_or_ge k w.heap.size with hlt' | hge
    · exact hB k (h.sub k (h2 k hlt' hk))
    · exact hBw k hge
end
section
variable {P:Program} {R:Reg} {w:World} {d:Option Nat} {t:TypeId} {p:String} {af:Array Edge} {g:Option (Nat × Bool)} {A A0:Av} {α β:Type} {S S0:Nat→Prop}
variable {E:Enc α} {F:OE α} {x ix:Operand} {T e:TypeId} {K:Nat→Prop} {u a v:Value}
theorem zGg {B:Nat} {xs:List α} (h:(Res.vec B T E xs).ok A u w) (hS:(Res.vec B T E xs).own A u S w) (hT:T ≠ zJ5:=by decide):∃ cs,u=(oSl T (oRd E)).E.val cs∧(oSl T (oRd E)).own A w S xs cs:=by
  obtain rfl:S=zAV u:=hS
  exact zFx h hT
theorem zL4 {B:Nat} {xs:List α} (h:(Res.vec B T E xs).ok A u w) (hS:(Res.vec B T E xs).own A u S w):∀ k,S k→B≤k:=fun k hk=>by
  obtain rfl:S=zAV u:=hS
  exact Res.geB h rfl hk
theorem zCu {ad : Operand} {T' : TypeId} {y y' : α} {Q : α → Pw} {q : SP} {ρ : Nat → Value} {σ : Nat → Nat → Prop} {c1 c2 : Nat} (hne : Nat.beq c1 c2 = false) (h : zDB F A w (σ c1) a y Q) (hv : ∃ cs, ρ c2 = F.E.val cs ∧ F.own A w (σ c2) y' cs) (hx : zAL R x = ρ c2) (had : zAL R ad = a)
    (hav:∀ d,d ∈ [c1,c2]→∀ k,σ d k→∀ o,A k o) (hdd:∀ d d',d ∈ [c1,c2]→d' ∈ [c1,c2]→d ≠ d'→∀ k,σ d k→¬ σ d' k) (hB1:∀ k,σ c1 k→K k) (hB2:∀ k,σ c2 k→K k) (hsz:∀ w,(sizeOf T').run P w = .ok F.E.size w) (hQ:∀ A w S,Q y' A w S→q.P A w S u) :
    OpR P ⟨none,.store T' ad x,t,p,af,g⟩ R w (zDx A false u (fun k=>∃ d,d ∈ [c1,c2]∧σ d k) (.gen K q) (fun _=>.any) w):=by
  obtain ⟨cs,e,hv⟩:=hv
  have hm1:c1 ∈ [c1,c2]:=.head _
  have hm2:c2 ∈ [c1,c2]:=.tail _ (.head _)
  have hne':c1 ≠ c2:=fun h=>by subst h;simp at hne
  have hST:∀ k,(∃ d,d ∈ [c1,c2]∧σ d k) ↔ σ c1 k∨σ c2 k:=fun k=>by
    constructor
    · rintro ⟨d, hd, hk⟩
      rcases List.mem_cons.1 hd with hd | hd
      · exact .inl (hd ▸ hk)
      · exact .inr (List.mem_singleton.1 hd ▸ hk)
    · exact fun h=>h.elim (fun h=>⟨c1,hm1,h⟩) fun h=>⟨c2,hm2,h⟩
  exact zHo h hv (hx.trans e) had (hdd c1 c2 hm1 hm2 hne') hST (fun k ⟨d,hd,h⟩=>hav d hd k h) (fun k hk=>((hST k).1 hk).elim (hB1 k) (hB2 k)) hsz hQ
theorem IniOK.oneT {x:α} (h:(trP F x []).P (addS A S0) w S0 u):IniOK [⟨u,S0,trR (fun k=>w.heap.size≤k∨S0 k) F x []⟩] (addS A S0) w:=by
  refine ⟨fun i p hp=>?_,fun i p hp=>?_,fun i j p q hp hq hne=>?_⟩
  · cases i with
    | zero=>simp at hp;subst hp;exact ⟨trivial,fun k hk o=>.inr hk⟩
    | succ i=>simp at hp
  · cases i with
    | zero=>simp at hp;subst hp;exact ⟨fun k hk=>.inr hk,h⟩
    | succ i=>simp at hp
  · cases i with
    | zero=>
      cases j with
      | zero=>exact absurd rfl hne
      | succ j=>simp at hq
    | succ i=>simp at hp
theorem AvOK.oneT {x:α} (hA:AvOK A w) (h:(trP F x []).P (addS A S0) w S0 u):AvOK (addS A S0) w:=fun b o hb=>hb.elim (hA b o) fun hb=>(trP F x []).lt h hb
theorem AvOK.subS (hA:AvOK A w) (S:Nat→Prop):AvOK (fun b o=>A b o∧¬ S b) w:=fun b o h=>hA b o h.1
theorem zCx {w0:World} {x:α} {pins:List Pin} {B:Nat} (hB:B=w0.heap.size) (hown:(trR (fun k=>B≤k∨S0 k) F x pins).own A u S w) (hav:∀ k,S k→∀ o,A k o) (hAA:∀ b o,A0 b o→A b o) (hF:Ch S0 w0 w):Gave F A0 S0 w0 u x w:=by
  subst hB
  exact ⟨S,(trP F x []).stab (trP.nopin hown.2) (fun _ _=>rfl) (zCM fun b o h=>h.elim (hAA b o) fun h=>hav b h o),fun k hk hs=>(hown.1 k hs).resolve_left (by omega),hF⟩
theorem zGm {B:Nat} {xs ys:List α} {w':World} {f:Fact} {z:Value} (hfl:∀ A A' w x cs,E.rep A w x cs→E.rep A' w x cs) (h:(trP (oSl T (oRd E)) xs []).P A w S v) (hz:f.ok z w'∧(Res.vec B T E ys).ok A0 v w'∧Ch (zAV v) w w') (hS:S=zAV v) (hT:T ≠ zJ5:=by decide):f.ok z w'∧Gave (oSl T (oRd E)) A0 S w v ys w':=by
  subst hS
  obtain ⟨h1,h2,h3⟩:=hz
  refine ⟨h1,zAV v,⟨zFx (Vec.flat h2 hfl) hT,fun q hq=>by cases hq⟩,fun _ _ h=>h,h3⟩
theorem zGf {A0:Av} {xs:List α} (hfl:∀ A A' w x cs,E.rep A w x cs→E.rep A' w x cs) (h:(trP (oSl T (oRd E)) xs []).P A w S v):(Res.vec 0 T E xs).ok A0 v w∧S=zAV v:=by
  obtain ⟨⟨cs,e,h⟩,_⟩:=h
  obtain ⟨h1,h2⟩:=zGx (B:=0) h e fun _ _=>Nat.zero_le _
  exact ⟨Vec.flat h1 hfl,h2⟩
theorem zGJ {xs:List α} (hfl:∀ A A' w x cs,E.rep A w x cs→E.rep A' w x cs) (h:(trP (oSl T (oRd E)) xs []).P A w S v):S=zAV v:=(zGf (A0:=A) hfl h).2
def trB (T : TypeId) (F : OE α) (x : α) (cs : List Value) : SP where
  P:=fun A w S u=>(trP (oPt T F) x []).P A w S u∧zFj w S (u,cs)
  lt:=fun h hk=>(trP (oPt T F) x []).lt h.1 hk
  stab:=fun h hb hs=>⟨(trP (oPt T F) x []).stab h.1 hb hs,let ⟨b,o,h4,h5,h6⟩:=h.2;⟨b,o,h4,h5,fun j u hj=>(World.cell?_of_block (hb b h5)).trans (h6 j u hj)⟩⟩
theorem zI7 {y : α} {Sv : Nat → Prop} {pins : List Pin} {cs : List Value} (h : (trP F y pins).P A w Sv u) (hu : u = F.E.val cs) (hl : cs.length = F.E.size) (hoc : ∀ c ∈ cs, c.oneCell' = true) (hx : zAL R x = u) (hav : ∀ k, Sv k → ∀ o, A k o) (hBv : ∀ k, Sv k → K k) (hB : ∀ k, w.heap.size ≤ k → K k) :
    OpR P ⟨d,.box T x,t,p,af,g⟩ R w (zDx A true u Sv (.gen K (trB T F y cs)) (fun _=>.any) w):=by
  obtain ⟨⟨cs',e,h⟩,_⟩:=h
  have hcs:cs'=cs:=by
    have h1:=F.cells h
    have h2:(F.E.val cs).cells.toList=cs:=by
      cases ha:F.E.agg with
      | true=>simp [Enc.val,ha,Value.cells]
      | false=>
        have h1:=F.E.one ha
        rw [h1] at hl
        match cs,hl,hoc with
        | [c],_,hoc=>
          have h2:=hoc c (by simp)
          have:(Enc.val F.E [c]).cells = #[c]:=by
            simp only [Enc.val,ha]
            cases c <;> first | rfl | cases h2
          rw [this]
    rw [← e,hu,h2] at h1
    exact h1.symm
  subst hcs
  subst e
  have hf:=Fr.alloc w (.cells (zAL R x).cells T)
  have hsub:∀ k,k<w.heap.size→(k=w.heap.size∨Sv k)→Sv k:=fun k hk h=>h.elim (fun e=>absurd e (by omega)) id
  have hst:=zCa (S'':=fun k=>k=w.heap.size∨Sv k) hav (hf.ch Sv) hsub
  have hcl:=F.cells h
  have hb:Blk (w.alloc (.cells (zAL R x).cells T)) w.heap.size T cs'.toArray:=by
    have:=Blk.new w T (zAL R x).cells
    have e:cs'.toArray=(zAL R x).cells:=by rw [hx];exact (congrArg List.toArray hcl).symm
    rw [e]
    exact this
  refine zAY (v:=.pointer (some ⟨w.heap.size,0,none⟩)) (w':=w.alloc (.cells (zAL R x).cells T)) (by simp [execOp,Instr.box,newVar,newRow]) ⟨.pointer (some ⟨w.heap.size,0,none⟩),fun k=>k=w.heap.size∨Sv k,rfl,hf.ch Sv,hsub,hst,trivial,⟨fun k hk=>hk.elim (fun e=>hB k (Nat.le_of_eq (Eq.symm e))) (hBv k),⟨⟨[.pointer (some ⟨w.heap.size,0,none⟩)],rfl,w.heap.size,cs',Sv,rfl,hb,F.stab h (fun k hk=>hf.block k (F.lt h hk)) hst,fun hk=>absurd (F.lt h hk) (Nat.lt_irrefl _),fun k=>Iff.rfl⟩,fun q hq=>by cases hq⟩,⟨w.heap.size,0,rfl,.inl rfl,fun j u hj=>?_⟩⟩,trivial⟩
  rw [hb.cell,Nat.zero_add]
  simpa using hj
theorem zDB.pinK {a v:Value} {y:α} {Q:α→Pw} {S':Nat→Prop} {q:Pin} (h:zDB F A w S a y Q) (hp:zFj w S' (a,[v])) (ha:F.E.agg=false) (hq:zFj w S q) (hb:∃ b o o',a = .pointer (some ⟨b,o,none⟩)∧q.1 = .pointer (some ⟨b,o',none⟩)):zDi F A w S v y (fun z A w S=>Q z A w S∧zFj w S q):=by
  have hh:=h
  obtain ⟨S1,cs,e,h1⟩:=h.pin hp ha
  obtain ⟨b,off,S2,ds,e2,h2⟩:=hh
  obtain ⟨b',o',e3,_,hc⟩:=hp
  have hl':=F.len h2.own
  rw [F.E.one ha] at hl'
  match ds,hl',h2 with
  | [c],_,h2=>
    have hv:v=c:=by
      have h3:=h2.at' 0 c rfl
      obtain ⟨e4,e5⟩:b'=b∧o'=off:=by
        have:=e3.symm.trans e2
        injection this with this
        injection this with this
        injection this with a b
        exact ⟨a,b⟩
      subst e4 e5
      have h4:=hc 0 v rfl
      have:=h4.symm.trans h3
      injection this
    refine ⟨S2,[c],by rw [hv];simp [Enc.val,ha],h2.own,h2.sub,fun A' w' S1' y' k1 k2 k3 k4=>⟨h2.v.put A' w' S1' y' k1 k2 k3 k4,?_⟩⟩
    obtain ⟨b1,o1,o2,e6,e7⟩:=hb
    obtain ⟨b3,o3,e8,h5,h6⟩:=hq
    have eb:b1=b:=by
      have:=e6.symm.trans e2
      injection this with this
      injection this with this
      injection this
    have eb3:b3=b1:=by
      have:=e8.symm.trans e7
      injection this with this
      injection this with this
      injection this
    subst eb eb3
    exact ⟨b3,o3,e8,.inl ⟨h2.inb,h2.out⟩,fun j u hj=>zIG (k2 b3 h2.inb h2.out) (h6 j u hj)⟩
theorem zKr {u:Value} (h:∃ b o,u = .pointer (some ⟨b,o,none⟩)) (k:Nat):∃ b o o',padd u k = .pointer (some ⟨b,o,none⟩)∧u = .pointer (some ⟨b,o',none⟩):=by
  obtain ⟨b,o,rfl⟩:=h
  exact ⟨b,o+k,o,rfl,rfl⟩
theorem zJk {u:Value} (h:∃ b o,u = .pointer (some ⟨b,o,none⟩)):∃ b o o',u = .pointer (some ⟨b,o,none⟩)∧u = .pointer (some ⟨b,o',none⟩):=by
  obtain ⟨b,o,rfl⟩:=h
  exact ⟨b,o,o,rfl,rfl⟩
theorem zFY {w0:World} {x:α} {B:Nat} {T':TypeId} {cs:List Value} (hB:B=w0.heap.size) (hown:(trR (fun k=>B≤k∨S0 k) (oPt T' F) x [(u,cs)]).own A u S w) (hav:∀ k,S k→∀ o,A k o) (hAA:∀ b o,A0 b o→A b o) (hv:v=F.E.val cs) (hl:cs.length=F.E.size) (hF:Ch S0 w0 w):Gave F A0 S0 w0 v x w:=by
  subst hB hv
  obtain ⟨hK,⟨es,e,b,ds,S1,rfl,h1,h2,h3,h4⟩,hp⟩:=hown
  obtain ⟨b',o',e',hb',hc⟩:=hp _ (.head _)
  have hu:u = .pointer (some ⟨b,0,none⟩):=e
  obtain ⟨e4,e5⟩:b=b'∧0=o':=by
    have:=hu.symm.trans e'
    injection this with this
    injection this with this
    injection this with a b
    exact ⟨a,b⟩
  subst e4 e5
  have hdl:=F.len h2
  have:ds=cs:=by
    apply List.ext_getElem?
    intro j
    by_cases hj:j<cs.length
    · have h5 := hc j _ (List.getElem?_eq_getElem hj)
      rw [h1.cell,Nat.zero_add] at h5
      rw [List.getElem?_eq_getElem hj,← h5]
      simp
    · rw [List.getElem?_eq_none (by omega),List.getElem?_eq_none (by omega)]
  subst this
  have hsub:∀ k,S1 k→S k:=fun k hk=>(h4 k).2 (.inr hk)
  exact ⟨S1,⟨⟨ds,rfl,F.stab h2 (fun _ _=>rfl) (zCM fun b o h=>h.elim (hAA b o) fun h=>hav b (hsub b h) o)⟩,fun q hq=>by cases hq⟩,fun k hk hs=>(hK k (hsub k hs)).resolve_left (by omega),hF⟩
theorem zIr {x:α} {pins:List Pin} (h:(trP F x pins).P A w S v):∃ cs,v=F.E.val cs∧cs.length=F.E.size∧∀ c ∈ cs,c.oneCell'=true:=let ⟨⟨cs,e,h1⟩,_⟩:=h;⟨cs,e,F.len h1,F.oc h1⟩
theorem zJr {w0:World} {x:α} {pins:List Pin} {f:Av→Fact} {B:Nat} (hB:B=w0.heap.size) (hown:(trR (geB B) F x pins).own A u S w) (hav:∀ k,S k→∀ o,A k o) (hAA:∀ b o,A0 b o→A b o) (hF:Fr w0 w) (hv:v=u) (hf:(f (addS A0 S)).ok v w):zDo A0 (trR (geB w0.heap.size) F x []) f w0 v w:=by
  subst hB hv
  exact ⟨S,hF,fun k hk=>hown.1 k hk,trivial,⟨hown.1,(trP F x []).stab (trP.nopin hown.2) (fun _ _=>rfl) (zCM fun b o h=>h.elim (hAA b o) fun h=>hav b h o)⟩,hf⟩
theorem zF6 {w0 : World} {x : α} {pins : List Pin} {f : Av → Fact} {B r : Nat} {T' : TypeId} (hB : B = w0.heap.size) (hown : (trR (geB B) (oPt T' F) x pins).own A u S w) (hav : ∀ k, S k → ∀ o, A k o) (hAA : ∀ b o, A0 b o → A b o) (hF : Fr w0 w) (hR : R r = u) (hag : ∀ w, (isAgg T).run P w = .ok F.E.agg w) (hsz : ∀ w, (sizeOf T).run P w = .ok F.E.size w) (hf : ∀ A v, (f A).ok v w) :
    ∃ v,zIA P R w (.cell r T) v∧zDo A0 (trR (geB w0.heap.size) F x []) f w0 v w:=by
  subst hB
  obtain ⟨hK,⟨cs,e,b,ds,S1,rfl,h1,h2,h3,h4⟩,_⟩:=hown
  have hu:u = .pointer (some ⟨b,0,none⟩):=e
  have hsub:∀ k,S1 k→S k:=fun k hk=>(h4 k).2 (.inr hk)
  refine ⟨F.E.val ds,⟨⟨b,0,none⟩,by rw [hR,hu],?_⟩,S1,hF,fun k hk=>hK k (hsub k hk),trivial,⟨fun k hk=>hK k (hsub k hk),⟨ds,rfl,F.stab h2 (fun _ _=>rfl) (zCM fun b o h=>h.elim (hAA b o) fun h=>hav b (hsub b h) o)⟩,fun q hq=>by cases hq⟩,hf _ _⟩
  have:=zCB (P:=P) (w:=w) (b:=b) (o:=0) hag hsz (F.len h2) F.E.one (fun j v hj=>by rw [h1.cell,Nat.zero_add];simpa using hj)
  simpa [Enc.val] using this
theorem zJv {x:α} {B:Nat} {w':World} (h:zDo A (trR (geB B) F x []) (fun _=>.any) w v w') (hA:AvOK A w):Rep F.E A w' v x∧Fr w w':=by
  obtain ⟨S,h1,h2,_,⟨h3,h4⟩,_⟩:=h
  refine ⟨zJu h4 (fun b o h=>.inl h) fun k o hk ha=>?_,h1⟩
  have:=h2 k hk
  have:=hA k o ha
  omega
theorem zII {y:α} {Q:α→Pw} (h:zDi F A w S v y Q) (hA:∀ b o,A0 b o→A b o) (hn:∀ k o,S k→¬ A0 k o):Rep F.E A0 w v y:=
  let ⟨S1,cs,e,h1⟩:=h;⟨cs,e,F.rep h1.own hA fun k o hk=>hn k o (h1.sub k hk)⟩
theorem zDg {A:Av} {w:World}:(oSl T F).own A w (fun _=>False) [] [.slice none 0 0]:=.inl ⟨rfl,rfl,fun _ h=>h⟩
theorem zFz {y:α} {cs:List Value} (h:E.rep A w y cs):(oRd E).own A w (fun _=>False) y cs:=⟨fun _ h=>h,h⟩
theorem zHy {G:OE β} {y:α} {z:β} {c ds:List Value} (h:F.own A w (fun _=>False) y c) (k:G.own A w (fun _=>False) z ds):(oPr F G).own A w (fun _=>False) (y,z) (c++ds):=⟨c,ds,_,_,rfl,h,k,fun _=>⟨fun h=>h.elim,fun h=>h.elim id id⟩,fun _ h=>h.elim⟩
end
end Go.Proofs.Ytmkgocdgkdglnaa
namespace Go.Proofs.Ytmkgocdgkdglnaa
open Go.RowKit
set_option linter.unusedVariables false
abbrev zA7:=Int × Int × Bool
abbrev zA1:Enc zA7:=ePr (eInt .i64) (ePr (eInt .i64) zBK)
theorem zAz:Fld zA1 0 (eInt .i64) (fun x:zA7=>x.1):=Fld.fst
theorem zFB:FldS zA1 0 (eInt .i64) (fun (x:zA7) y=>(y,x.2.1,x.2.2)):=FldS.fst
theorem zCS:FldF Try.prog 82 0 3 0:=⟨_,_,Try.underlying82,rfl,rfl,rfl⟩
theorem zKn:FldF Try.prog 130 0 3 0:=⟨_,_,Try.underlying130,rfl,rfl,rfl⟩
theorem zBH:Fld zA1 1 (eInt .i64) (fun x:zA7=>x.2.1):=(Fld.snd Fld.fst)
theorem zF8:FldS zA1 1 (eInt .i64) (fun (x:zA7) y=>(x.1,y,x.2.2)):=(FldS.snd FldS.fst)
theorem zDX:FldF Try.prog 82 1 3 1:=⟨_,_,Try.underlying82,rfl,rfl,rfl⟩
theorem zKU:FldF Try.prog 130 1 3 1:=⟨_,_,Try.underlying130,rfl,rfl,rfl⟩
theorem zCv:Fld zA1 2 zBK (fun x:zA7=>x.2.2):=(Fld.snd (Fld.snd (Fld.id _)))
theorem zDY:FldS zA1 2 zBK (fun (x:zA7) y=>(x.1,x.2.1,y)):=(FldS.snd (FldS.snd (FldS.id _)))
theorem zEb:FldF Try.prog 82 2 4 2:=⟨_,_,Try.underlying82,rfl,rfl,rfl⟩
theorem zKZ:FldF Try.prog 130 2 4 2:=⟨_,_,Try.underlying130,rfl,rfl,rfl⟩
theorem zCK {A:Av} {w:World} {v:Value} {x:zA7} (h:Rep zA1 A w v x):v = .agg #[.int .i64 x.1,.int .i64 x.2.1,.bool x.2.2]:=by
  obtain ⟨cs,rfl,h⟩:=h
  obtain ⟨_,_,rfl,rfl,⟨_,_,rfl,rfl,rfl⟩⟩:=h
  rfl
set_option maxHeartbeats 1000000 in
theorem zKu (x y:zA7) (w:World):(binOp .eql 82 (.agg #[.int .i64 x.1,.int .i64 x.2.1,.bool x.2.2]) (.agg #[.int .i64 y.1,.int .i64 y.2.1,.bool y.2.2])).run Try.prog w = .ok (.bool ((x==y))) w:=by
  obtain ⟨p0,p1,p2⟩:=x
  obtain ⟨q0,q1,q2⟩:=y
  rw [show (((p0,p1,p2):zA7)==(q0,q1,q2))=((p0==q0)&&((p1==q1)&&(p2==q2))) from rfl]
  cases h0:(p0==q0) <;> cases h1:(p1==q1) <;> cases h2:(p2==q2) <;> simp [go_sem,h0,h1,h2]
set_option maxHeartbeats 1000000 in
theorem zME (x y:zA7) (w:World):(binOp .neq 82 (.agg #[.int .i64 x.1,.int .i64 x.2.1,.bool x.2.2]) (.agg #[.int .i64 y.1,.int .i64 y.2.1,.bool y.2.2])).run Try.prog w = .ok (.bool (!(x==y))) w:=by
  obtain ⟨p0,p1,p2⟩:=x
  obtain ⟨q0,q1,q2⟩:=y
  rw [show (((p0,p1,p2):zA7)==(q0,q1,q2))=((p0==q0)&&((p1==q1)&&(p2==q2))) from rfl]
  cases h0:(p0==q0) <;> cases h1:(p1==q1) <;> cases h2:(p2==q2) <;> simp [go_sem,h0,h1,h2]
abbrev zBg:=(List zA7)
abbrev zAW:Enc zBg:=eBx (eSl zA1)
theorem zF7:Fld zAW 0 (eSl zA1) (fun x:zBg=>x):=Fld.bx
theorem zKC:FldF Try.prog 90 0 88 0:=⟨_,_,Try.underlying90,rfl,rfl,rfl⟩
abbrev zBo:=(List zBg)
abbrev zAE:Enc zBo:=eBx (eSl zAW)
theorem zEG:Fld zAE 0 (eSl zAW) (fun x:zBo=>x):=Fld.bx
theorem zJX:FldF Try.prog 24 0 22 0:=⟨_,_,Try.underlying24,rfl,rfl,rfl⟩
abbrev zAO:=(List zA7)
abbrev zAC:Enc zAO:=eBx (eSl zA1)
theorem zBM:Fld zAC 0 (eSl zA1) (fun x:zAO=>x):=Fld.bx
theorem zDV:FldF Try.prog 79 0 65 0:=⟨_,_,Try.underlying79,rfl,rfl,rfl⟩
abbrev zAH:=(List zAO)
abbrev zA2:Enc zAH:=eBx (eSl zAC)
theorem zAg:Fld zA2 0 (eSl zAC) (fun x:zAH=>x):=Fld.bx
theorem zCl:FldF Try.prog 29 0 27 0:=⟨_,_,Try.underlying29,rfl,rfl,rfl⟩
abbrev zA3:=Int × Int × Int × Int
abbrev zA0:Enc zA3:=ePr (eInt .i64) (ePr (eInt .i64) (ePr (eInt .i64) (eInt .i64)))
theorem zCZ:Fld zA0 0 (eInt .i64) (fun x:zA3=>x.1):=Fld.fst
theorem zEk:FldS zA0 0 (eInt .i64) (fun (x:zA3) y=>(y,x.2.1,x.2.2.1,x.2.2.2)):=FldS.fst
theorem zHa:FldF Try.prog 99 0 3 0:=⟨_,_,Try.underlying99,rfl,rfl,rfl⟩
theorem zCh:Fld zA0 1 (eInt .i64) (fun x:zA3=>x.2.1):=(Fld.snd Fld.fst)
theorem zEl:FldS zA0 1 (eInt .i64) (fun (x:zA3) y=>(x.1,y,x.2.2.1,x.2.2.2)):=(FldS.snd FldS.fst)
theorem zHA:FldF Try.prog 99 1 3 1:=⟨_,_,Try.underlying99,rfl,rfl,rfl⟩
theorem zCd:Fld zA0 2 (eInt .i64) (fun x:zA3=>x.2.2.1):=(Fld.snd (Fld.snd Fld.fst))
theorem zEj:FldS zA0 2 (eInt .i64) (fun (x:zA3) y=>(x.1,x.2.1,y,x.2.2.2)):=(FldS.snd (FldS.snd FldS.fst))
theorem zHO:FldF Try.prog 99 2 3 2:=⟨_,_,Try.underlying99,rfl,rfl,rfl⟩
theorem zCX:Fld zA0 3 (eInt .i64) (fun x:zA3=>x.2.2.2):=(Fld.snd (Fld.snd (Fld.snd (Fld.id _))))
theorem zEh:FldS zA0 3 (eInt .i64) (fun (x:zA3) y=>(x.1,x.2.1,x.2.2.1,y)):=(FldS.snd (FldS.snd (FldS.snd (FldS.id _))))
theorem zHB:FldF Try.prog 99 3 3 3:=⟨_,_,Try.underlying99,rfl,rfl,rfl⟩
theorem zCC {A:Av} {w:World} {v:Value} {x:zA3} (h:Rep zA0 A w v x):v = .agg #[.int .i64 x.1,.int .i64 x.2.1,.int .i64 x.2.2.1,.int .i64 x.2.2.2]:=by
  obtain ⟨cs,rfl,h⟩:=h
  obtain ⟨_,_,rfl,rfl,⟨_,_,rfl,rfl,⟨_,_,rfl,rfl,rfl⟩⟩⟩:=h
  rfl
set_option maxHeartbeats 1000000 in
theorem zL1 (x y:zA3) (w:World):(binOp .eql 99 (.agg #[.int .i64 x.1,.int .i64 x.2.1,.int .i64 x.2.2.1,.int .i64 x.2.2.2]) (.agg #[.int .i64 y.1,.int .i64 y.2.1,.int .i64 y.2.2.1,.int .i64 y.2.2.2])).run Try.prog w = .ok (.bool ((x==y))) w:=by
  obtain ⟨p0,p1,p2,p3⟩:=x
  obtain ⟨q0,q1,q2,q3⟩:=y
  rw [show (((p0,p1,p2,p3):zA3)==(q0,q1,q2,q3))=((p0==q0)&&((p1==q1)&&((p2==q2)&&(p3==q3)))) from rfl]
  cases h0:(p0==q0) <;> cases h1:(p1==q1) <;> cases h2:(p2==q2) <;> cases h3:(p3==q3) <;> simp [go_sem,h0,h1,h2,h3]
abbrev zAR:=Int × (List zA3)
abbrev zA8:Enc zAR:=ePr (eInt .i64) (eSl zA0)
theorem zEF:Fld zA8 0 (eInt .i64) (fun x:zAR=>x.1):=Fld.fst
theorem zIQ:FldF Try.prog 41 0 3 0:=⟨_,_,Try.underlying41,rfl,rfl,rfl⟩
theorem zDQ:Fld zA8 1 (eSl zA0) (fun x:zAR=>x.2):=(Fld.snd (Fld.id _))
theorem zEU:FldF Try.prog 41 1 39 1:=⟨_,_,Try.underlying41,rfl,rfl,rfl⟩
abbrev zB2:=zAH × (List zA7) × (List Bool) × (List zA3)
abbrev zAm:Enc zB2:=ePr zA2 (ePr (eSl zA1) (ePr (eSl zBK) (eSl zA0)))
theorem zGB:Fld zAm 1 (eSl zA1) (fun x:zB2=>x.2.1):=(Fld.snd Fld.fst)
theorem zHM:FldF Try.prog 71 1 65 1:=⟨_,_,Try.underlying71,rfl,rfl,rfl⟩
theorem zG6:Fld zAm 2 (eSl zBK) (fun x:zB2=>x.2.2.1):=(Fld.snd (Fld.snd Fld.fst))
theorem zIY:FldF Try.prog 71 2 69 2:=⟨_,_,Try.underlying71,rfl,rfl,rfl⟩
theorem zGj:FldF Try.prog 71 3 39 3:=⟨_,_,Try.underlying71,rfl,rfl,rfl⟩
theorem zMN:ElF Try.prog 79 1:=zJd Try.zeroValue79 Try.sizeOf79 (by kernel_rfl:(Try.prog.info? 79).map (·.bytes)=some 24) rfl (by decide) (by decide)
theorem el_3:ElF Try.prog 3 1:=zJd Try.zeroValue3 Try.sizeOf3 (by kernel_rfl:(Try.prog.info? 3).map (·.bytes)=some 8) rfl (by decide) (by decide)
theorem zM2:ElF Try.prog 99 4:=zJd Try.zeroValue99 Try.sizeOf99 (by kernel_rfl:(Try.prog.info? 99).map (·.bytes)=some 32) rfl (by decide) (by decide)
theorem zLB:ElF Try.prog 82 3:=zJd Try.zeroValue82 Try.sizeOf82 (by kernel_rfl:(Try.prog.info? 82).map (·.bytes)=some 24) rfl (by decide) (by decide)
theorem el_4:ElF Try.prog 4 1:=zJd Try.zeroValue4 Try.sizeOf4 (by kernel_rfl:(Try.prog.info? 4).map (·.bytes)=some 1) rfl (by decide) (by decide)
end Go.Proofs.Ytmkgocdgkdglnaa
namespace Go.Proofs.Ytmkgocdgkdglnaa
open Go.RowKit
set_option linter.unusedVariables false
theorem Obls.p {P : Program} {l : List Ent} {R : Reg} {w : World} {i : Nat} {x : Ent} {r : List Ent}
    (h:∀ R' w',Fr w w'→(∀ t,zIi l i t=true→R' t=R t)→Deps l R' w' x.o.after.toList→OpR P x.o R' w' fun v w''=>x.f.ok v w''∧Fr w' w'')
    (t:Obls P l R w (i+1) r) (hg:x.o.guard=none:=by exact rfl) (hx:x.g=true:=by exact rfl):Obls P l R w i (x::r):=⟨Obl.plain hg hx h,t⟩
theorem zA9.p {P : Program} {ini : List Ob} {l : List EntR} {A : Av} {R : Reg} {w : World} {i : Nat} {x : EntR} {r : List EntR}
    (h:∀ A' R' w',Onto ini l A R w i A' R' w'→zFT l A' R' w' x.o.after.toList→OpR P x.o R' w' fun v w''=>(x.f A').ok v w''∧Fr w' w'')
    (t:zA9 P ini l A R w (i+1) r) (hg:x.o.guard=none:=by exact rfl) (hx:x.g=true:=by exact rfl) (hc:x.con = []:=by exact rfl) (hr:x.res=none:=by exact rfl):zA9 P ini l A R w i (x::r):=
  ⟨OblR.plain hg hx hc hr h,t⟩
def depF (l:List Ent) (es:List Edge) (j:Nat):Option (Nat × Fact):=
  match es[j]? with
  | none=>none
  | some e => bif bnd e then (match l[e.on]? with
    | none=>none
    | some x => match x.o.dst with
      | none=>none
      | some d=>bif x.g then some (d,x.f) else none) else none
theorem Deps.g {l:List Ent} {R:Reg} {w:World} {es:List Edge} (h:Deps l R w es) (j:Nat) {d:Nat} {f:Fact} (e:depF l es j=some (d,f)):f.ok (R d) w:=by
  unfold depF at e
  cases h1:es[j]? with
  | none=>rw [h1] at e;cases e
  | some a=>
    rw [h1] at e
    dsimp only at e
    cases h2:bnd a
    · rw [h2] at e;cases e
    rw [h2,cond_true] at e
    cases h3:l[a.on]? with
    | none=>rw [h3] at e;cases e
    | some x=>
      rw [h3] at e
      dsimp only at e
      cases h4:x.o.dst with
      | none=>rw [h4] at e;cases e
      | some d'=>
        rw [h4] at e
        dsimp only at e
        cases h5:x.g
        · rw [h5] at e;cases e
        rw [h5,cond_true] at e
        obtain ⟨rfl,rfl⟩:=Prod.mk.inj (Option.some.inj e)
        exact h j a x _ h1 h2 h3 h4 h5
def zLr (l:List EntR) (es:List Edge) (j:Nat):Option (Nat × (Av→Fact)):=
  match es[j]? with
  | none=>none
  | some e => bif bnd e then (match l[e.on]? with
    | none=>none
    | some x => match x.o.dst with
      | none=>none
      | some d=>bif x.g then some (d,x.f) else none) else none
theorem zFT.g {l:List EntR} {A:Av} {R:Reg} {w:World} {es:List Edge} (h:zFT l A R w es) (j:Nat) {d:Nat} {f:Av→Fact} (e:zLr l es j=some (d,f)):(f A).ok (R d) w:=by
  unfold zLr at e
  cases h1:es[j]? with
  | none=>rw [h1] at e;cases e
  | some a=>
    rw [h1] at e
    dsimp only at e
    cases h2:bnd a
    · rw [h2] at e;cases e
    rw [h2,cond_true] at e
    cases h3:l[a.on]? with
    | none=>rw [h3] at e;cases e
    | some x=>
      rw [h3] at e
      dsimp only at e
      cases h4:x.o.dst with
      | none=>rw [h4] at e;cases e
      | some d'=>
        rw [h4] at e
        dsimp only at e
        cases h5:x.g
        · rw [h5] at e;cases e
        rw [h5,cond_true] at e
        obtain ⟨rfl,rfl⟩:=Prod.mk.inj (Option.some.inj e)
        exact h j a x _ h1 h2 h3 h4 h5
end Go.Proofs.Ytmkgocdgkdglnaa
namespace Go.Proofs.Ytmkgocdgkdglnaa
open Go.RowKit
set_option linter.unusedVariables false
def SG (P:Program) (n:Nat) (ops:List Oper) (k:Nat) (R:Reg) (w:World) (Q:Exit→Reg→World→Prop):Prop:=
  ∀ a:Act,Pl n a→regs a=R→wpOps P ops.toArray (PQ n Q) (List.range' k (ops.length-k)) a w
section
variable {P:Program} {n:Nat} {ops:List Oper} {k:Nat} {R:Reg} {w:World} {Q:Exit→Reg→World→Prop}
theorem SG.of {id:Nat} (h:SG P n ops 0 R w Q):HT P n (.region id ops.toArray false) R w Q:=fun a hpl hR=>by
  refine wp_region ?_
  have:=h a hpl hR
  rw [Nat.sub_zero] at this
  rw [List.range_eq_range']
  simpa using this
theorem SG.fin (hk:ops.length=k) (h:Q .normal R w):SG P n ops k R w Q:=fun a hpl hR=>by
  rw [hk,Nat.sub_self]
  simp only [List.range'_zero,wpOps]
  exact ⟨hpl,hR ▸ h⟩
theorem SG.step {o:Oper} (ho:ops[k]? = some o) (hg:o.guard=none) (hd:∀ d,o.dst=some d→d<n) (h:OpR P o R w fun v w'=>SG P n ops (k+1) (updO R o.dst v) w' Q):SG P n ops k R w Q:=fun a hpl hR=>by
  have hk:k<ops.length:=(List.getElem?_eq_some_iff.1 ho).1
  rw [show ops.length-k=(ops.length-(k+1))+1 by omega,List.range'_succ,wpOps_cons]
  rw [← hR] at h
  refine zFJ hg h (fun v w' hs=>?_) k (by simpa using ho)
  refine hs _ ⟨by rw [zDP];exact hpl.1,by rw [zEz];exact hpl.2⟩ ?_
  exact zEv _ _ _ fun d hdd=>Nat.lt_of_lt_of_le (hd d hdd) hpl.2
theorem SG.op {o : Oper} (d : Nat) (ho : ops[k]? = some o) (hg : o.guard = none) (hd : o.dst = some d) (hn : Nat.blt d n = true) {K : Value → World → Prop} (h : OpR P o R w K)
    (hk:∀ v w',K v w'→∀ R',(∀ t,Nat.beq t d=false→R' t=R t)→R' d=v→SG P n ops (k+1) R' w' Q):SG P n ops k R w Q:=by
  refine SG.step ho hg (fun d' h'=>?_) (h.mono fun v w' hv=>?_)
  · rw [hd] at h'
    injection h' with h'
    subst h'
    simpa using hn
  · rw [hd]
    refine hk v w' hv _ (fun t ht=>?_) (zFc _ _ _)
    show (bif Nat.beq t d then v else R t)=R t
    rw [ht]
    rfl
def Past (A : Av) (R : Reg) (w : World) : Nat → List EntR → Prop
  | 0,_=>True
  | _+1,[]=>True
  | k+1,x::l=>(x.g=true∧x.con = []∧x.res=none∧(match x.o.dst with | some d=>(x.f A).ok (R d) w | none=>True))∧Past A R w k l
theorem Past.at {A : Av} : ∀ (l : List EntR) (k : Nat), Past A R w k l → ∀ (i : Nat) x, i < k → l[i]? = some x → x.g = true ∧ x.con = [] ∧ x.res = none ∧ ∀ d, x.o.dst = some d → (x.f A).ok (R d) w
  | [],k,_,i,x,_,hx=>by simp at hx
  | y::l,0,_,i,x,hi,_=>by omega
  | y::l,k+1,h,0,x,_,hx=>by
    simp only [List.getElem?_cons_zero,Option.some.injEq] at hx
    subst hx
    obtain ⟨⟨h1,h2,h3,h4⟩,_⟩:=h
    refine ⟨h1,h2,h3,fun d hd=>?_⟩
    rw [hd] at h4
    exact h4
  | y::l,k+1,h,i+1,x,hi,hx=>Past.at l k h.2 i x (by omega) (by simpa using hx)
theorem SG.textR {A : Av} {rest : List Oper} (ini : List Ob) (l : List EntR) (k' : Nat) (hops : ops = l.map (·.o) ++ rest) (hk' : l.length = k') (hkk : Nat.ble k k' = true) (hb : zCD 0 (l.map (·.o)) = true) (hs : zF2 n (l.map (·.o)) = true) (hw : Wf ini l) (hi : IniOK ini A w) (hA : AvOK A w)
    (hp:Past A R w k l) (ho:zA9 P ini l A R w k (l.drop k)) (ha:zJy ini l A R w (fun R w=>SG P n ops k' R w Q)):SG P n ops k R w Q:=fun a hpl hR=>by
  have hkk:k≤k':=Nat.le_of_ble_eq_true hkk
  have hlen:ops.length=k'+rest.length:=by rw [hops,List.length_append,List.length_map,hk']
  have hopl:∀ (i:Nat) x,l[i]? = some x→ops.toArray[i]? = some x.o:=fun i x hx=>by
    have hlt:=(List.getElem?_eq_some_iff.1 hx).1
    rw [List.getElem?_toArray,hops,List.getElem?_append_left (by rw [List.length_map];exact hlt),List.getElem?_map,hx]
    rfl
  have hmap:∀ (i:Nat) x,l[i]? = some x→(l.map (·.o))[i]? = some x.o:=fun i x hx=>by
    rw [List.getElem?_map,hx]
    rfl
  have hobl:∀ (i:Nat) x,k≤i→l[i]? = some x→OblR P ini l A R w i x:=fun i x hki hx=>by
    have:=zA9.at (l.drop k) k ho (i-k) x (by rw [List.getElem?_drop,show k+(i-k)=i by omega];exact hx)
    rwa [show k+(i-k)=i by omega] at this
  have key : ∀ m j, m + j = l.length → k ≤ j → ∀ (a : Act) (ρ : Nat → Value) (σ : Nat → Nat → Prop) (A' : Av) (w' : World), Pl n a → InvR ini l A R w (fun i => Nat.blt i j) ρ σ A' (regs a) w' →
      wpOps P ops.toArray (PQ n Q) (List.range' j (ops.length-j)) a w':=by
    intro m
    induction m with
    | zero=>
      intro j hj hkj a ρ σ A' w' hpl hI
      have:=ha _ ρ σ A' _ _ (fun i hi=>by simpa using (by omega:i<j)) hI a hpl rfl
      rwa [show k'=j by omega] at this
    | succ m ih=>
      intro j hj hkj a ρ σ A' w' hpl hI
      rw [show ops.length-j=(ops.length-(j+1))+1 by omega,List.range'_succ,wpOps_cons]
      have hkl:j<l.length:=by omega
      have hx:l[j]? = some l[j]:=List.getElem?_eq_getElem hkl
      refine zGw (done:=fun i=>Nat.blt i j) hw hopl (fun i x d hx hdd=>zDS hs (hmap i x hx) hdd) hx (hobl j _ hkj hx) (zFN (Nat.le_refl j)) (fun e he hbe=>?_) (fun i y hy hex=>?_) hpl hI (fun a' ρ' σ' A'' w'' hpl' hI'=>ih (j+1) (by omega) (by omega) a' ρ' σ' A'' w'' hpl' ?_)
      · have := zBp _ 0 hb j _ (hmap j _ hx) e he hbe
        show Nat.blt e.on j=true
        simpa using this
      · obtain ⟨e, he, hbe, hon⟩ := hex
        have:=zBp _ 0 hb i _ (hmap i _ hy) e he hbe
        exact zFN (by omega)
      · have:setB (fun i=>Nat.blt i j) j=fun i=>Nat.blt i (j+1):=by
          funext i
          by_cases e:i=j
          · subst e;rw [zCc];simp
          · rw [zCk _ e,Bool.eq_iff_iff];simp;omega
        rw [← this]
        exact hI'
  refine key (k'-k) k (by omega) (Nat.le_refl k) a (fun id=>((ini[id]?).map (·.u)).getD undef) (fun id=>((ini[id]?).map (·.S)).getD fun _=>False) A w hpl ?_
  have hdn:∀ i,Nat.blt i k=true→i<k:=fun i h=>by simpa using h
  have hlive:∀ id r,zCs ini l id=some r→Live ini l (fun i=>Nat.blt i k) id→id<ini.length:=fun id r hr h=>by
    rcases h.1 with h1 | h1
    · exact h1
    · rcases Nat.lt_or_ge id ini.length with h2 | h2
      · exact h2
      · exfalso
        unfold zCs at hr
        rw [List.getElem?_eq_none h2] at hr
        cases hx:l[id-ini.length]? with
        | none=>rw [hx] at hr;cases hr
        | some x=>
          rw [hx] at hr
          have:=(Past.at l k hp _ x (hdn _ h1) hx).2.2.1
          simp only [Option.bind_some,this] at hr
          cases hr
  have kk:∀ id r,zCs ini l id=some r→Live ini l (fun i=>Nat.blt i k) id→∃ p,ini[id]? = some p∧p.r=r∧((ini[id]?).map (·.u)).getD undef=p.u∧(((ini[id]?).map (·.S)).getD fun _=>False)=p.S:=fun id r hr hl=>by
    obtain ⟨p,hp',hr'⟩:=zEK (l:=l) (hlive id r hr hl)
    rw [hr'] at hr
    injection hr with hr
    exact ⟨p,hp',hr,by rw [hp'];rfl,by rw [hp'];rfl⟩
  rw [← hR] at hp
  refine ⟨Ch.refl _ _,(Fr.refl w).stp A,hA,hA,fun _ _ h _=>h,fun t _=>by rw [hR],fun i x d hx hd hxd hg=>?_,fun i x d hx hd hxd hg=>?_,fun id r hr hl=>?_,fun id r hr hl q hq o=>?_,fun id id' r r' hr hr' hl hl' hne q hq=>?_,fun id r hr hl q _ hq=>?_,fun id p hp'=>(by rw [hp'];exact ⟨rfl,rfl⟩),fun i x d hx hd hres=>?_,fun i x c hx hd hres=>?_,fun n id r p hd hrt hp'=>?_⟩
  · exact (Past.at l k hp i x (hdn i hd) hx).2.2.2 d hxd
  · have := (Past.at l k hp i x (hdn i hd) hx).1
    rw [this] at hg
    cases hg
  · obtain ⟨p, hp', rfl, he, hs'⟩ := kk id r hr hl
    rw [he,hs']
    exact ⟨(hi.ok id p hp').1,hi.own id p hp'⟩
  · obtain ⟨p, hp', rfl, he, hs'⟩ := kk id r hr hl
    rw [hs'] at hq
    exact (hi.ok id p hp').2 q hq o
  · obtain ⟨p, hp', rfl, he, hs'⟩ := kk id r hr hl
    obtain ⟨p2,hp2,rfl,he2,hs2⟩:=kk id' r' hr' hl'
    rw [hs'] at hq
    rw [hs2]
    exact hi.dis id id' p p2 hp' hp2 hne q hq
  · obtain ⟨p, hp', rfl, he, hs'⟩ := kk id r hr hl
    rw [hs'] at hq
    exact ⟨id,p,hp',hq⟩
  · exact absurd (Past.at l k hp i x (hdn i hd) hx).2.2.1 hres
  · exact absurd (Past.at l k hp i x (hdn i hd) hx).2.2.1 hres
  · cases n with
    | zero=>cases hrt
    | succ n=>
      unfold zG3 at hrt
      rcases Nat.lt_or_ge id ini.length with hl | hl
      · rw [List.getElem?_eq_getElem hl] at hrt
        obtain rfl:id=r:=Option.some.inj hrt
        rw [hp']
        rfl
      · rw [List.getElem?_eq_none hl] at hrt
        have hdn':=hdn _ (hd.resolve_left (by omega))
        cases hx:l[id-ini.length]? with
        | none=>rw [hx] at hrt;cases hrt
        | some x=>
          have:=(Past.at l k hp _ x hdn' hx).2.2.1
          rw [hx] at hrt
          simp only [this,Option.isSome_none,Bool.not_false,Bool.or_true,cond_true] at hrt
          cases hrt
end
structure GPost (A0 : Av) (K : Nat → Prop) (w : World) (obs : List Ob) (A1 : Av) (w' : World) : Prop where
  ini:IniOK obs A1 w'
  avok:AvOK A1 w'
  low:∀ b o,A0 b o→A1 b o
  up:∀ b o,A1 b o→A0 b o∨zDw obs b
  new:∀ k,zDw obs k→w.heap.size≤k∨K k
  ch:Ch K w w'
abbrev subS (A:Av) (S:Nat→Prop):Av:=fun b o=>A b o∧¬ S b
section
variable {ini obs:List Ob} {A A0 A1:Av} {w w':World} {K:Nat→Prop}
theorem IniOK.shrink (h:IniOK ini A w) (h1:∀ b o,A1 b o→A b o) (h2:∀ k,zDw ini k→∀ o,A1 k o):IniOK ini A1 w:=
  ⟨fun i p hp=>⟨(Res.stabS (h.ok i p hp).1 (h.own i p hp) (fun _ _=>rfl) (zCM h1)).1,fun k hk=>h2 k ⟨i,p,hp,hk⟩⟩,fun i p hp=>(Res.stabS (h.ok i p hp).1 (h.own i p hp) (fun _ _=>rfl) (zCM h1)).2,h.dis⟩
theorem GPost.of (hO:IniOK obs A w') (hA:AvOK A w') (hAA:∀ b o,A0 b o→A b o) (hge:∀ k,zDw obs k→w.heap.size≤k∨K k) (hF:Ch K w w'):∃ A1,(∀ b o,A1 b o→A b o)∧GPost A0 K w obs A1 w':=by
  have hsub:∀ b o,(A0 b o∨zDw obs b)→A b o:=fun b o h=>h.elim (hAA b o) fun ⟨i,p,hp,hk⟩=>(hO.ok i p hp).2 b hk o
  exact ⟨fun b o=>A0 b o∨zDw obs b,hsub,hO.shrink hsub fun k hk o=>.inr hk,fun b o h=>hA b o (hsub b o h),fun _ _ h=>.inl h,fun _ _ h=>h,hge,hF⟩
theorem zIs (hA:AvOK A w) (h:GPost (subS A K) K w obs A1 w') (hK:∀ k,K k→∀ o,A k o):Stp A A1 w w':=
  ⟨h.ch.size,fun b o v hv hn=>(World.cell?_of_block (w:=w) (h.ch.block b (zE8 hv) fun hk=>hn (hK b hk o))).trans hv,fun b o hb h1=>(h.up b o h1).elim (·.1) fun h2=>(h.new b h2).elim (fun h3=>by omega) fun h3=>hK b h3 o⟩
theorem GPost.next (hO:IniOK ini A w) (hA:AvOK A w) (i:Nat) {p:Ob} (hp:ini[i]? = some p) (h:GPost (subS A p.S) p.S w obs A1 w'):IniOK (obs++ini.eraseIdx i) A1 w':=by
  have hK:∀ k,p.S k→∀ o,A k o:=(hO.ok i p hp).2
  have hst:=zIs hA h hK
  have hlt:∀ (j:Nat) q,ini[j]? = some q→∀ k,q.S k→k<w.heap.size:=fun j q hq k hk=>Res.ltS (hO.ok j q hq).1 (hO.own j q hq) hk
  have her:∀ (j:Nat) q,(ini.eraseIdx i)[j]? = some q→∃ j',j' ≠ i∧ini[j']? = some q∧(j'=if j<i then j else j+1):=fun j q hq=>by
    rw [List.getElem?_eraseIdx] at hq
    split at hq
    · rename_i hlt;exact ⟨j,by omega,hq,by rw [if_pos hlt]⟩
    · rename_i hlt;exact ⟨j+1,by omega,hq,by rw [if_neg hlt]⟩
  have hrest:∀ (j:Nat) q,(ini.eraseIdx i)[j]? = some q→(q.r.ok A1 q.u w'∧q.r.own A1 q.u q.S w')∧∀ k,q.S k→∀ o,A1 k o:=fun j q hq=>by
    obtain ⟨j',hne,hj',_⟩:=her j q hq
    have hd:∀ k,q.S k→¬ p.S k:=hO.dis j' i q p hj' hp hne
    exact ⟨Res.stabS (hO.ok j' q hj').1 (hO.own j' q hj') (fun k hk=>h.ch.block k (hlt j' q hj' k hk) (hd k hk)) hst,fun k hk o=>h.low k o ⟨(hO.ok j' q hj').2 k hk o,hd k hk⟩⟩
  have hobr:∀ (i' j:Nat) p' q,obs[i']? = some p'→(ini.eraseIdx i)[j]? = some q→∀ k,p'.S k→¬ q.S k:=fun i' j p' q hp' hq k hk hk'=>by
    obtain ⟨j',hne,hj',_⟩:=her j q hq
    rcases h.new k ⟨i',p',hp',hk⟩ with h1 | h1
    · have := hlt j' q hj' k hk'
      omega
    · exact hO.dis j' i q p hj' hp hne k hk' h1
  refine ⟨fun j q hq=>?_,fun j q hq=>?_,fun j j' q q' hq hq' hne k hk=>?_⟩
  · rcases Nat.lt_or_ge j obs.length with hl | hl
    · rw [List.getElem?_append_left hl] at hq
      exact h.ini.ok j q hq
    · rw [List.getElem?_append_right hl] at hq
      exact ⟨(hrest _ q hq).1.1,(hrest _ q hq).2⟩
  · rcases Nat.lt_or_ge j obs.length with hl | hl
    · rw [List.getElem?_append_left hl] at hq
      exact h.ini.own j q hq
    · rw [List.getElem?_append_right hl] at hq
      exact (hrest _ q hq).1.2
  · rcases Nat.lt_or_ge j obs.length with hl | hl <;> rcases Nat.lt_or_ge j' obs.length with hl' | hl'
    · rw [List.getElem?_append_left hl] at hq
      rw [List.getElem?_append_left hl'] at hq'
      exact h.ini.dis j j' q q' hq hq' hne k hk
    · rw [List.getElem?_append_left hl] at hq
      rw [List.getElem?_append_right hl'] at hq'
      exact hobr _ _ _ _ hq hq' k hk
    · rw [List.getElem?_append_right hl] at hq
      rw [List.getElem?_append_left hl'] at hq'
      exact fun hk'=>hobr _ _ _ _ hq' hq k hk' hk
    · rw [List.getElem?_append_right hl] at hq
      rw [List.getElem?_append_right hl'] at hq'
      obtain ⟨a,_,ha,ea⟩:=her _ q hq
      obtain ⟨b,_,hb,eb⟩:=her _ q' hq'
      exact hO.dis a b q q' ha hb (by rw [ea,eb];split <;> split <;> omega) k hk
theorem GPost.next0 (hO:IniOK ini A w) (hA:AvOK A w) (h:GPost A (fun _=>False) w obs A1 w'):IniOK (obs++ini) A1 w'∧Stp A A1 w w':=by
  have e:subS A (fun _=>False)=A:=by
    funext b o
    simp [subS]
  have h':GPost (subS A fun _=>False) (fun _=>False) w obs A1 w':=by rw [e];exact h
  have hst:=zIs hA h' fun _ h=>h.elim
  have hlt:∀ (j:Nat) q,ini[j]? = some q→∀ k,q.S k→k<w.heap.size:=fun j q hq k hk=>Res.ltS (hO.ok j q hq).1 (hO.own j q hq) hk
  have hrest:∀ (j:Nat) q,ini[j]? = some q→(q.r.ok A1 q.u w'∧q.r.own A1 q.u q.S w')∧∀ k,q.S k→∀ o,A1 k o:=fun j q hj=>
    ⟨Res.stabS (hO.ok j q hj).1 (hO.own j q hj) (fun k hk=>h.ch.block k (hlt j q hj k hk) fun h=>h) hst,fun k hk o=>h.low k o ((hO.ok j q hj).2 k hk o)⟩
  have hobr:∀ (i' j:Nat) p' q,obs[i']? = some p'→ini[j]? = some q→∀ k,p'.S k→¬ q.S k:=fun i' j p' q hp' hq k hk hk'=>by
    rcases h.new k ⟨i',p',hp',hk⟩ with h1 | h1
    · have := hlt j q hq k hk'
      omega
    · exact h1
  refine ⟨⟨fun j q hq=>?_,fun j q hq=>?_,fun j j' q q' hq hq' hne k hk=>?_⟩,hst⟩
  · rcases Nat.lt_or_ge j obs.length with hl | hl
    · rw [List.getElem?_append_left hl] at hq
      exact h.ini.ok j q hq
    · rw [List.getElem?_append_right hl] at hq
      exact ⟨(hrest _ q hq).1.1,(hrest _ q hq).2⟩
  · rcases Nat.lt_or_ge j obs.length with hl | hl
    · rw [List.getElem?_append_left hl] at hq
      exact h.ini.own j q hq
    · rw [List.getElem?_append_right hl] at hq
      exact (hrest _ q hq).1.2
  · rcases Nat.lt_or_ge j obs.length with hl | hl <;> rcases Nat.lt_or_ge j' obs.length with hl' | hl'
    · rw [List.getElem?_append_left hl] at hq
      rw [List.getElem?_append_left hl'] at hq'
      exact h.ini.dis j j' q q' hq hq' hne k hk
    · rw [List.getElem?_append_left hl] at hq
      rw [List.getElem?_append_right hl'] at hq'
      exact hobr _ _ _ _ hq hq' k hk
    · rw [List.getElem?_append_right hl] at hq
      rw [List.getElem?_append_left hl'] at hq'
      exact fun hk'=>hobr _ _ _ _ hq' hq k hk' hk
    · rw [List.getElem?_append_right hl] at hq
      rw [List.getElem?_append_right hl'] at hq'
      exact hO.dis _ _ q q' hq hq' (by omega) k hk
theorem IniOK.put (h:IniOK ini A w) (i:Nat) {p:Ob} (hi:ini[i]? = some p) (p':Ob) (hok:p'.r.ok A p'.u w) (hown:p'.r.own A p'.u p'.S w) (hS:∀ k,p'.S k→p.S k):IniOK (ini.set i p') A w:=by
  have hl:=(List.getElem?_eq_some_iff.1 hi).1
  have hat:∀ (j:Nat) q,(ini.set i p')[j]? = some q→∃ q0,ini[j]? = some q0∧(∀ k,q.S k→q0.S k)∧(j=i∧q=p'∨j ≠ i∧q0=q):=fun j q hq=>by
    by_cases e:j=i
    · subst e
      rw [List.getElem?_set_self hl] at hq
      injection hq with hq
      subst hq
      exact ⟨_,hi,hS,.inl ⟨rfl,rfl⟩⟩
    · rw [List.getElem?_set_ne (Ne.symm e)] at hq
      exact ⟨q,hq,fun _ h=>h,.inr ⟨e,rfl⟩⟩
  refine ⟨fun j q hq=>?_,fun j q hq=>?_,fun j j' q q' hq hq' hne k hk hk'=>?_⟩
  · obtain ⟨q0, h0, hS', hc⟩ := hat j q hq
    rcases hc with ⟨rfl,rfl⟩ | ⟨_,rfl⟩
    · exact ⟨hok,fun k hk=>(h.ok _ _ h0).2 k (hS' k hk)⟩
    · exact h.ok j _ h0
  · obtain ⟨q0, h0, hS', hc⟩ := hat j q hq
    rcases hc with ⟨rfl,rfl⟩ | ⟨_,rfl⟩
    · exact hown
    · exact h.own j _ h0
  · obtain ⟨q0, h0, hS', _⟩ := hat j q hq
    obtain ⟨q0',h0',hS'',_⟩:=hat j' q' hq'
    exact h.dis j j' q0 q0' h0 h0' hne k (hS' k hk) (hS'' k hk')
theorem IniOK.reK (h:IniOK ini A w) (i:Nat) {u:Value} {S:Nat→Prop} {K K':Nat→Prop} {p:SP} (hi:ini[i]? = some ⟨u,S,.gen K p⟩) (hK:∀ k,K k→K' k):IniOK (ini.set i ⟨u,S,.gen K' p⟩) A w:=
  h.put i hi ⟨u,S,.gen K' p⟩ trivial ⟨fun k hk=>hK k ((h.own i _ hi).1 k hk),(h.own i _ hi).2⟩ fun _ h=>h
theorem IniOK.unbox {P : Program} {R : Reg} (h : IniOK ini A w) (i : Nat) {u : Value} {S : Nat → Prop} {K : Nat → Prop} {α : Type} {F : OE α} {x : α} {pins : List Pin} {T T' : TypeId} {r : Nat} (hi : ini[i]? = some ⟨u, S, trR K (oPt T' F) x pins⟩) (hR : R r = u) (hag : ∀ w, (isAgg T).run P w = .ok F.E.agg w) (hsz : ∀ w, (sizeOf T).run P w = .ok F.E.size w) :
    ∃ v S1,zIA P R w (.cell r T) v∧IniOK (ini.set i ⟨v,S1,trR K F x []⟩) A w:=by
  obtain ⟨hK,⟨cs,e,b,ds,S1,rfl,h1,h2,h3,h4⟩,_⟩:=h.own i _ hi
  have hu:u = .pointer (some ⟨b,0,none⟩):=e
  have hsub:∀ k,S1 k→S k:=fun k hk=>(h4 k).2 (.inr hk)
  refine ⟨F.E.val ds,S1,⟨⟨b,0,none⟩,by rw [hR,hu],?_⟩,h.put i hi ⟨F.E.val ds,S1,trR K F x []⟩ trivial ⟨fun k hk=>hK k (hsub k hk),⟨ds,rfl,h2⟩,fun q hq=>by cases hq⟩ hsub⟩
  have:=zCB (P:=P) (w:=w) (b:=b) (o:=0) hag hsz (F.len h2) F.E.one (fun j v hj=>by rw [h1.cell,Nat.zero_add];simpa using hj)
  simpa [Enc.val] using this
theorem Ch.no {w w':World} (h:Ch (fun _=>False) w w'):Fr w w':=⟨⟨h.os,h.tape,h.output,h.size,fun k hk=>h.block k hk fun h=>h⟩,h.drawn⟩
def zGY {α:Type} (F:OE α):Prop:=∀ {A A' w S x cs},F.own A w S x cs→F.own A' w S x cs
theorem zJh {α:Type} {E:Enc α} (hfl:∀ A A' w x cs,E.rep A w x cs→E.rep A' w x cs):zGY (oRd E):=fun h=>⟨h.1,hfl _ _ _ _ _ h.2⟩
theorem zLp {α β:Type} {F:OE α} {G:OE β} (h:zGY F) (k:zGY G):zGY (oPr F G):=fun ⟨c,d,S1,S2,e,h1,h2,h3⟩=>⟨c,d,S1,S2,e,h h1,k h2,h3⟩
theorem zLY {α:Type} {T:TypeId} {F:OE α} (h:zGY F):zGY (oSl T F):=fun k=>k.elim .inl fun ⟨g,c,arr,Si,e,h1,h2,h3,h4,h5⟩=>
  .inr ⟨g,c,arr,Si,e,h1,h2,h3,h4,⟨fun i x hx=>let ⟨ds,a,b⟩:=h5.el i x hx;⟨ds,h a,b⟩,h5.dis,h5.out,h5.set⟩⟩
def zJe (p:Ob):Prop:=∀ A A' w,p.r.ok A p.u w→p.r.own A p.u p.S w→p.r.ok A' p.u w∧p.r.own A' p.u p.S w
theorem zJn {α:Type} {u:Value} {S K:Nat→Prop} {F:OE α} {x:α} (h:zGY F):zJe ⟨u,S,trR K F x []⟩:=fun A A' w _ k=>⟨trivial,k.1,⟨let ⟨cs,e,a⟩:=k.2.1;⟨cs,e,h a⟩,fun q hq=>by cases hq⟩⟩
def zFQ : List Ob → Prop
  | []=>True
  | p::l=>zJe p∧zFQ l
theorem zFQ.at : ∀ (l : List Ob), zFQ l → ∀ (i : Nat) p, l[i]? = some p → zJe p
  | [],_,i,p,h=>by simp at h
  | q::l,h,0,p,hp=>by simp at hp;subst hp;exact h.1
  | q::l,h,i+1,p,hp=>zFQ.at l h.2 i p (by simpa using hp)
theorem GPost.next0P (hO:IniOK ini A w) (hA:AvOK A w) (h:GPost A0 (fun _=>False) w obs A1 w') (hp:zFQ obs):∃ A2,(∀ b o,A b o→A2 b o)∧IniOK (obs++ini) A2 w'∧Stp A A2 w w'∧AvOK A2 w':=by
  have hlow:∀ b o,A b o→A b o∨zDw obs b:=fun b o h=>.inl h
  have hg:GPost A (fun _=>False) w obs (fun b o=>A b o∨zDw obs b) w':=by
    refine ⟨⟨fun i p hi=>?_,fun i p hi=>?_,h.ini.dis⟩,fun b o hb=>?_,hlow,fun b o h=>h,h.new,h.ch⟩
    · exact ⟨(zFQ.at obs hp i p hi _ _ _ (h.ini.ok i p hi).1 (h.ini.own i p hi)).1,fun k hk o=>.inr ⟨i,p,hi,hk⟩⟩
    · exact (zFQ.at obs hp i p hi _ _ _ (h.ini.ok i p hi).1 (h.ini.own i p hi)).2
    · rcases hb with hb | ⟨i, p, hi, hk⟩
      · exact Nat.lt_of_lt_of_le (hA b o hb) h.ch.size
      · exact Res.ltS (h.ini.ok i p hi).1 (h.ini.own i p hi) hk
  have:=hg.next0 hO hA
  exact ⟨_,hlow,this.1,this.2,hg.avok⟩
theorem zIT {P:Program} {R:Reg} {d:Option Nat} {t:TypeId} {p:String} {af:Array Edge} {g:Option (Nat × Bool)} {x:Operand} {a:Addr} (hx:zAL R x = .pointer (some a)):OpF P ⟨d,.nilCheck x,t,p,af,g⟩ R w (.raw (.pointer (some a))):=
  zAY (v:=.pointer (some a)) (w':=w) (by simp [execOp,hx]) ⟨rfl,Fr.refl _⟩
theorem zLa {α β:Type} {F:OE α} {G:OE β} {S1:Nat→Prop} {y:α} {z:β} {c ds:List Value} (h:F.own A w S1 y c) (k:G.own A w (fun _=>False) z ds):(oPr F G).own A w S1 (y,z) (c++ds):=⟨c,ds,S1,_,rfl,h,k,fun _=>⟨.inl,fun h=>h.elim id fun h=>h.elim⟩,fun _ _ h=>h⟩
theorem zIa {α β:Type} {F:OE α} {G:OE β} {S2:Nat→Prop} {y:α} {z:β} {c ds:List Value} (h:F.own A w (fun _=>False) y c) (k:G.own A w S2 z ds):(oPr F G).own A w S2 (y,z) (c++ds):=⟨c,ds,_,S2,rfl,h,k,fun _=>⟨.inr,fun h=>h.elim (fun h=>h.elim) id⟩,fun _ h=>h.elim⟩
theorem zGO {α:Type} {F:OE α} {T:TypeId} {S:Nat→Prop} {xs:List α} {cs:List Value} (h:(oSl T F).own A w S xs cs):∃ a n c,cs = [.slice a n c]:=by
  rcases h with ⟨rfl,_,_⟩ | ⟨g,c,arr,Si,rfl,_⟩
  · exact ⟨_,_,_,rfl⟩
  · exact ⟨_,_,_,rfl⟩
end
end Go.Proofs.Ytmkgocdgkdglnaa
namespace Go.Proofs.Ytmkgocdgkdglnaa
open Go.RowKit
set_option linter.unusedVariables false
def pdP {β : Type} (F : OE β) (a : Value) (Q : β → Pw) (y : β) : SP where
  P := fun A w S u => ∃ (b off : Nat) (S1 S2 : Nat → Prop) (cs : List Value), a = .pointer (some ⟨b, off, none⟩) ∧ u = F.E.val cs ∧ F.own A w S1 y cs ∧ (∀ k, S k ↔ S2 k ∨ S1 k) ∧ (∀ k, S1 k → ¬ S2 k) ∧ S2 b ∧ (∃ arr T, Blk w b T arr ∧ off + F.E.size ≤ arr.size) ∧ (∀ k, S2 k → k < w.heap.size) ∧
    ∀ (A':Av) (w':World) (S1':Nat→Prop) (y':β) (ds:List Value),F.own A' w' S1' y' ds→(∀ (j:Nat) u,ds[j]? = some u→w'.cell? ⟨b,off+j,none⟩=some u)→Up b off F.E.size w w'→(∀ k,S2 k→k ≠ b→w'.heap[k]? = w.heap[k]?)→Stp A A' w w'→(∀ k,S1' k→¬ S2 k)→Q y' A' w' (fun k=>S2 k∨S1' k)
  lt:=by
    rintro A w S u k ⟨b,off,S1,S2,cs,rfl,rfl,h1,h2,h3,h4,h5,h6,h7⟩ hk
    rcases (h2 k).1 hk with h | h
    · exact h6 k h
    · exact F.lt h1 h
  stab:=by
    rintro A A1 w w1 S u ⟨b,off,S1,S2,cs,rfl,rfl,h1,h2,h3,h4,⟨arr,T,h5,h5'⟩,h6,h7⟩ hb hs
    have hbb:=hb b ((h2 b).2 (.inl h4))
    refine ⟨b,off,S1,S2,cs,rfl,rfl,F.stab h1 (fun k hk=>hb k ((h2 k).2 (.inr hk))) hs,h2,h3,h4,⟨arr,T,hbb.trans h5,h5'⟩,fun k hk=>Nat.lt_of_lt_of_le (h6 k hk) hs.size,fun A' w' S1' y' ds k1 k2 k3 k4 k5 k6=>?_⟩
    obtain ⟨arr0,arr1,T0,j1,j2,j3,j4⟩:=k3
    exact h7 A' w' S1' y' ds k1 k2 ⟨arr0,arr1,T0,hbb.symm.trans j1,j2,j3,j4⟩ (fun k hk hne=>(k4 k hk hne).trans (hb k ((h2 k).2 (.inl hk)))) (hs.trans k5) k6
def fixP (v : Value) (p : SP) : SP where
  P:=fun A w S _=>p.P A w S v
  lt:=fun h hk=>p.lt h hk
  stab:=fun h hb hs=>p.stab h hb hs
section
variable {A A0:Av} {w:World} {ini:List Ob}
theorem IniOK.refix (h:IniOK ini A w) (i:Nat) {u v:Value} {S K:Nat→Prop} {p:SP} (hi:ini[i]? = some ⟨u,S,.gen K (fixP v p)⟩):IniOK (ini.set i ⟨v,S,.gen K p⟩) A w:=
  h.put i hi ⟨v,S,.gen K p⟩ trivial ⟨(h.own i _ hi).1,(h.own i _ hi).2⟩ fun _ h=>h
end
section
variable {P:Program} {R:Reg} {w:World} {d:Option Nat} {t:TypeId} {p:String} {af:Array Edge} {g:Option (Nat × Bool)} {A A0:Av} {α β:Type} {S S0:Nat→Prop}
variable {E:Enc α} {F:OE α} {x ix:Operand} {T e:TypeId} {K:Nat→Prop} {u a v:Value}
theorem zG1 {y : Operand} {ty : TypeId} {xs ys : List α} {Q : List α → Pw} {u0 : Value} {S' : Nat → Prop} {dd : Nat} (h : zDB (oSl e (oRd E)) A w S a xs Q) (hp : zFj w S' (a, [v])) (hx : zAL R x = v) (hav : ∀ k, S k → ∀ o, A k o) (hB : ∀ k, S k → K k) (hBw : ∀ k, w.heap.size ≤ k → K k) (hlt : ∀ k, S k → k < w.heap.size)
    (hy:Rep (eSl E) A w (zAL R y) ys) (ht:P.underlying T=some (.slice e)) (he:ElF P e E.size) (hl:zFo (xs.length+ys.length)=true) (hT:e ≠ zJ5:=by decide) :
    OpR P ⟨some dd,.call ⟨.builtin .append,#[x,y],#[T,T]⟩,ty,p,af,g⟩ R w (zDx A true u0 S (.gen K (pdP (oSl e (oRd E)) a Q (xs++ys))) (fun _=>.any) w):=by
  obtain ⟨b,off,S1,cs,rfl,h⟩:=h
  obtain ⟨b',o',e0,_,hc⟩:=hp
  injection e0 with e0
  injection e0 with e0
  injection e0 with e1 e2
  subst e1 e2
  have hl1:cs.length=1:=(oSl e (oRd E)).len h.own
  obtain rfl:cs = [v]:=by
    match cs,hl1 with
    | [c],_=>
      have h1:=h.at' 0 c rfl
      have h2:=hc 0 v rfl
      rw [h1] at h2
      injection h2 with h2
      rw [h2]
  obtain ⟨hv,rfl⟩:=zGx (B:=0) (v:=v) h.own rfl (fun _ _=>Nat.zero_le _)
  have hS1:∀ k,zAV v k→S k:=h.sub
  have hbo:¬ zAV v b:=h.out
  refine (zEQ (P:=P) (p:=p) (af:=af) (g:=g) (ty:=ty) (dd:=dd) (B:=0) hx hv (fun k hk=>hav k (hS1 k hk)) (Nat.zero_le _) hy ht he hl).mono ?_
  rintro v' w2 ⟨u2,rfl,hch,hsame,hst0,hok,_⟩
  have hch':Ch S w w2:=⟨hch.os,hch.tape,hch.output,hch.size,fun k hk hn=>hch.block k hk fun hk'=>hn (hS1 k hk'),hch.drawn⟩
  have hold:∀ k,S k→¬ zAV v k→w2.heap[k]? = w.heap[k]?:=fun k hk hn=>hch.block k (hlt k hk) hn
  have hsub:∀ k,k<w.heap.size→((S k∧¬ zAV v k)∨zAV u2 k)→S k:=fun k hk hs=>hs.elim (·.1) fun hs=>hS1 k (hsame k hk hs)
  have hst:=zCa (A:=A) hav hch' hsub
  refine ⟨u2,fun k=>(S k∧¬ zAV v k)∨zAV u2 k,rfl,hch',hsub,hst,trivial,⟨fun k hk=>?_,?_⟩,trivial⟩
  · rcases hk with hk | hk
    · exact hB k hk.1
    · rcases Nat.lt_or_ge k w.heap.size with hl2 | hg
      · exact hB k (hS1 k (hsame k hl2 hk))
      · exact hBw k hg
  · obtain ⟨cs2, he2, ho2⟩ := zFx hok hT
    obtain ⟨arr,T0,hblk,hsz⟩:=h.blk
    have hdis:∀ k,zAV u2 k→¬ (S k∧¬ zAV v k):=fun k hk hn=>hn.2 (hsame k (hlt k hn.1) hk)
    have hb2:=hold b h.inb hbo
    refine ⟨b,off,zAV u2,fun k=>S k∧¬ zAV v k,cs2,rfl,he2,OE.stab _ ho2 (fun _ _=>rfl) (zCM fun k o hk=>?_),fun k=>Iff.rfl,hdis,⟨h.inb,hbo⟩,⟨arr,T0,hb2.trans hblk,hsz⟩,fun k hk=>Nat.lt_of_lt_of_le (hlt k hk.1) hch.size,fun A' w' S1' y' ds k1 k2 k3 k4 k5 k6=>?_⟩
    · rcases hk with ⟨h1, h2⟩ | ⟨h1, h2⟩ | h1
      · exact .inl ⟨h1,fun hk=>h2 (hS1 k hk)⟩
      · exact .inl ⟨hav k h1 o,h2⟩
      · exact .inr h1
    · obtain ⟨arr0, arr1, T1, j1, j2, j3, j4⟩ := k3
      exact h.put A' w' S1' y' ds k1 k2 ⟨arr0,arr1,T1,hb2.symm.trans j1,j2,j3,j4⟩ (fun k a1 a2 a3=>(k4 k ⟨a1,a2⟩ a3).trans (hold k a1 a2)) (hst.trans k5) (fun k a1 a2=>Classical.byContradiction fun hn=>k6 k a1 ⟨a2,hn⟩)
theorem zHq {ad : Operand} {T' : TypeId} {y : α} {Q : α → Pw} {q : SP} (h : (pdP F a Q y).P A w S u) (hx : zAL R x = u) (had : zAL R ad = a) (hav : ∀ k, S k → ∀ o, A k o) (hB : ∀ k, S k → K k) (hsz : ∀ w, (sizeOf T').run P w = .ok F.E.size w) (hQ : ∀ A w S, Q y A w S → q.P A w S u) :
    OpR P ⟨none,.store T' ad x,t,p,af,g⟩ R w (zDx A false u S (.gen K q) (fun _=>.any) w):=by
  obtain ⟨b,off,S1,S2,cs,rfl,rfl,hv,hS,hd,hb2,⟨arr,T0,hb,hle⟩,hl2,hput⟩:=h
  have hcs:=F.len hv
  have hcl:=F.cells hv
  have hvb:¬ S1 b:=fun h=>hd b h hb2
  obtain ⟨w',h1,h2,h3⟩:=zEt (P:=P) (o:=off) (v:=zAL R x) hsz (by rw [hx,hcl];exact F.oc hv) (by rw [hx,← Array.length_toList,hcl];exact hcs) hb hle
  rw [hx,hcl] at h3
  refine zGE (w':=w') ?_ ?_
  · simp only [execOp, Instr.storeAt, Instr.sureAddr, had]
    simp [h1]
  · have hch0 := h2.ch
    have hch:Ch S w w':=⟨hch0.os,hch0.tape,hch0.output,hch0.size,fun k hk hn=>hch0.block k hk fun e=>hn ((hS k).2 (.inl (e ▸ hb2))),hch0.drawn⟩
    have hst:=zCa (S'':=S) hav hch fun _ _ h=>h
    have hne:∀ k,S1 k→k ≠ b:=fun k hk e=>hvb (e ▸ hk)
    have hv':F.own (zGq A S S) w' S1 y cs:=F.stab hv (fun k hk=>h2.block k (hne k hk)) hst
    have hq:=hput _ w' S1 y cs hv' (fun j u hj=>?_) ⟨arr,_,T0,hb,h3,zDk _ _ _,fun j hj=>?_⟩ (fun k _ hk=>h2.block k hk) hst hd
    · have e : (fun k => S2 k ∨ S1 k) = S := by funext k; rw [eq_iff_iff]; exact (hS k).symm
      rw [e] at hq
      exact ⟨_,S,rfl,hch,fun _ _ h=>h,hst,trivial,⟨hB,hQ _ _ _ hq⟩,trivial⟩
    · have hjl := (List.getElem?_eq_some_iff.1 hj).1
      rw [h3.cell,zF4 _ _ _ _ (by omega),if_pos (by omega),Nat.add_sub_cancel_left]
      exact hj
    · rw [zF4 _ _ _ _ (by omega),if_neg (by omega)]
theorem zI0 {y : α} {pins : List Pin} {T' : TypeId} {lk : Bool} (h : (trP (oPt T' F) y pins).P A w S u) (hx : zAL R x = u) (hav : ∀ k, S k → ∀ o, A k o) (hag : ∀ w, (isAgg T).run P w = .ok F.E.agg w) (hsz : ∀ w, (sizeOf T).run P w = .ok F.E.size w) :
    OpR P ⟨d,.load T x,t,p,af,g⟩ R w (zDx A lk u S .nul (fun A=>.rep F.E A y) w):=by
  obtain ⟨⟨cs,e,b,ds,S1,rfl,h1,h2,h3,h4⟩,_⟩:=h
  have hu:u = .pointer (some ⟨b,0,none⟩):=e
  have hst:=zCa (S'':=fun _=>False) hav (Ch.refl S w) fun _ _ h=>h.elim
  refine zAY (v:=F.E.val ds) (w':=w) ?_ ⟨match lk with | true=>_ | false=>_,fun _=>False,by cases lk <;> rfl,Ch.refl _ _,fun _ _ h=>h.elim,hst,trivial,rfl,ds,rfl,F.rep h2 (fun k o hk=>hk.elim (·.1) False.elim) fun k o hk ha=>ha.elim (fun ha=>ha.2 ((h4 k).2 (.inr hk))) False.elim⟩
  have:=zCB (P:=P) (w:=w) (b:=b) (o:=0) hag hsz (F.len h2) F.E.one (fun j v hj=>by rw [h1.cell,Nat.zero_add];simpa using hj)
  simp [execOp,Instr.loadAt,Instr.sureAddr,hx,hu,this,Enc.val]
theorem zI6 {o:Oper} {q:SP} {u0:Value} (h:(execOp (zAL R) o).run P w = .ok (.value v) w) (hq:q.P A w S v) (hav:∀ k,S k→∀ o,A k o) (hB:∀ k,S k→K k):OpR P o R w (zDx A true u0 S (.gen K q) (fun _=>.any) w):=by
  have hst:=zCa (S'':=S) hav (Ch.refl S w) fun _ _ h=>h
  refine zAY h ⟨v,S,rfl,Ch.refl _ _,fun _ _ h=>h,hst,trivial,⟨hB,q.stab hq (fun _ _=>rfl) hst⟩,trivial⟩
theorem zI2 {o:Oper} {q:SP} (h:(execOp (zAL R) o).run P w = .ok (.value v) w) (hq:q.P A w (fun _=>False) v) (hB:∀ k,w.heap.size≤k→K k):OpR P o R w (zDo A (.gen K q) (fun _=>.any) w):=by
  refine zAY h ⟨fun _=>False,Fr.refl _,fun _ h=>h.elim,trivial,⟨fun _ h=>h.elim,q.stab hq (fun _ h=>h.elim) (zCM fun b o h=>h.elim id False.elim)⟩,trivial⟩
end
end Go.Proofs.Ytmkgocdgkdglnaa
namespace Go.Proofs.Ytmkgocdgkdglnaa
open Go.RowKit
set_option linter.unusedVariables false
section
variable {P:Program} {n:Nat} {ops:List Oper} {k:Nat} {R:Reg} {w:World} {Q:Exit→Reg→World→Prop}
theorem zJR {j dj:Nat} {y:Oper} {a:Act} (hj:ops[j]? = some y) (hy:y.dst=some dj):yielded ops.toArray a.tmps j=(match regs a dj with | .bool b=>some b | _=>none):=by
  have hj':ops.toArray[j]? = some y:=by simpa using hj
  simp only [yielded,hj',regs]
  simp [hy]
  cases a.tmps[dj]? with
  | none=>rfl
  | some v=>cases v <;> rfl
theorem SG.skipV {o y : Oper} (d j dj : Nat) (want : Bool) (ho : ops[k]? = some o) (hg : o.guard = some (j, want)) (hj : ops[j]? = some y) (hy : y.dst = some dj) (hR : (match R dj with | .bool b => some b | _ => none) ≠ some want) (hd : o.dst = some d) (hn : Nat.blt d n = true)
    (hk:∀ R',(∀ t,Nat.beq t d=false→R' t=R t)→R' d=undef→SG P n ops (k+1) R' w Q):SG P n ops k R w Q:=fun a hpl hRa=>by
  have hkl:k<ops.length:=(List.getElem?_eq_some_iff.1 ho).1
  rw [show ops.length-k=(ops.length-(k+1))+1 by omega,List.range'_succ,wpOps_cons]
  rw [← hRa] at hR
  have hw:¬ Region.wanted o (yielded ops.toArray a.tmps)=true:=by
    rw [show Region.wanted o (yielded ops.toArray a.tmps)=(yielded ops.toArray a.tmps j==some want) by simp [Region.wanted,hg],zJR hj hy]
    simpa using hR
  have ho':ops.toArray[k]? = some o:=by simpa using ho
  unfold wpOp
  rw [ho']
  dsimp only
  rw [if_neg hw]
  have hdn:d<n:=by simpa using hn
  have hrp:=zEv a o.dst undef fun d' h'=>by rw [hd] at h';injection h' with h';subst h';exact Nat.lt_of_lt_of_le hdn hpl.2
  refine hk (regs (a.put o.dst undef)) (fun t ht=>?_) ?_ _ ⟨by rw [zDP];exact hpl.1,by rw [zEz];exact hpl.2⟩ rfl
  · rw [hrp, hd, hRa]
    show (bif Nat.beq t d then undef else R t)=R t
    rw [ht]
    rfl
  · rw [hrp, hd]
    exact zFc _ _ _
theorem SG.skip {o y : Oper} (d j dj : Nat) (want : Bool) (ho : ops[k]? = some o) (hg : o.guard = some (j, want)) (hj : ops[j]? = some y) (hy : y.dst = some dj) (hR : R dj = .bool !want) (hd : o.dst = some d) (hn : Nat.blt d n = true)
    (hk:∀ R',(∀ t,Nat.beq t d=false→R' t=R t)→R' d=undef→SG P n ops (k+1) R' w Q):SG P n ops k R w Q:=
  SG.skipV d j dj want ho hg hj hy (by rw [hR];cases want <;> simp) hd hn hk
end
theorem zJZ {P : Program} {R : Reg} {w : World} {d : Option Nat} {t : TypeId} {p : String} {af : Array Edge} {A A0 : Av} {α : Type} {S : Nat → Prop} {F : OE α} {x : Operand} {T T' : TypeId} {u : Value} {y : α} {pins : List Pin}
    (h:(trP (oPt T' F) y pins).P A w S u) (hx:zAL R x=u) (hAA:∀ b o,A0 b o→A b o) (hn:∀ k o,S k→¬ A0 k o) (hag:∀ w,(isAgg T).run P w = .ok F.E.agg w) (hsz:∀ w,(sizeOf T).run P w = .ok F.E.size w) :
    OpR P ⟨d,.load T x,t,p,af,none⟩ R w fun v w'=>w'=w∧Rep F.E A0 w v y:=by
  obtain ⟨⟨cs,rfl,b,ds,S1,rfl,h1,h2,h3,h4⟩,_⟩:=h
  have hsub:∀ k,S1 k→S k:=fun k hk=>(h4 k).2 (.inr hk)
  refine zAY (v:=F.E.val ds) (w':=w) ?_ ⟨rfl,ds,rfl,F.rep h2 hAA fun k o hk=>hn k o (hsub k hk)⟩
  have:=zCB (P:=P) (w:=w) (b:=b) (o:=0) hag hsz (F.len h2) F.E.one (fun j v hj=>by rw [h1.cell,Nat.zero_add];simpa using hj)
  have hx':zAL R x = .pointer (some ⟨b,0,none⟩):=hx
  simp [execOp,Instr.loadAt,Instr.sureAddr,hx',this,Enc.val]
end Go.Proofs.Ytmkgocdgkdglnaa
namespace Go.Proofs.Ytmkgocdgkdglnaa
open Go.RowKit
set_option linter.unusedVariables false
section
variable {α β:Type} {E:Enc α} {F:OE α} {A A0:Av} {w:World} {S:Nat→Prop}
end
section
variable {P:Program} {R:Reg} {w:World} {d:Option Nat} {t:TypeId} {p:String} {af:Array Edge} {g:Option (Nat × Bool)} {A A0:Av} {α β:Type} {S S0:Nat→Prop}
variable {E:Enc α} {F:OE α} {x ix:Operand} {T e:TypeId} {K:Nat→Prop} {u a v:Value}
end
end Go.Proofs.Ytmkgocdgkdglnaa
namespace Go.Proofs.Ytmkgocdgkdglnaa
open Go.RowKit Go.Sort
set_option linter.unusedVariables false
theorem zLX {w w':World} (hD:DK) (h:Fr w w'):∃ q os,w'=grow (w.drewN q) os:=by
  refine ⟨w'.drawn-w.drawn,w'.heap.extract w.heap.size w'.heap.size,?_⟩
  have hh:w'.heap=w.heap++w'.heap.extract w.heap.size w'.heap.size:=by
    apply Array.ext_getElem?
    intro k
    by_cases hk:k<w.heap.size
    · rw [Array.getElem?_append_left hk]
      exact h.block k hk
    · rw [Array.getElem?_append_right (by omega), Array.getElem?_extract]
      split
      · congr 1
        omega
      · exact Array.getElem?_eq_none (by have:=h.size;omega)
  have hd:w'.drawn=w.drawn+(w'.drawn-w.drawn):=by have:=h.drawn hD;omega
  have h1:=h.os
  have h2:=h.tape
  have h3:=h.output
  obtain ⟨a1,a2,a3,a4,a5⟩:=w
  obtain ⟨b1,b2,b3,b4,b5⟩:=w'
  simp only [World.drewN,grow] at *
  subst h1 h2 h3
  rw [← hh,← hd]
section
variable {α β:Type} [Inhabited β]
theorem zHp {enc:β→Value} {w:World} {blk n:Nat} {d:Array β} {os:Array Obj} {u:Value} (hu:zAV u blk):Ch (zAV u) w (grow (putRow enc (Go.Sort.ahead w n) blk 0 d) os):=by
  refine ⟨rfl,rfl,rfl,?_,fun k hk hn=>?_,?_⟩
  · simp [grow,putRow,mapBlock,Go.Sort.ahead]
  · have hne : blk ≠ k := fun e => hn (e ▸ hu)
    simp only [grow,putRow,mapBlock,Go.Sort.ahead]
    rw [Array.getElem?_append_left (by simpa using hk),Array.getElem?_modify,if_neg hne]
  · intro _;simp [grow,putRow,mapBlock,Go.Sort.ahead]
theorem BlkM.putRw {enc:β→Value} {w:World} {g n:Nat} {T:TypeId} {cur:Array Value} {d:Array β} {os:Array Obj} (h:BlkM w g T cur):BlkM (grow (putRow enc (Go.Sort.ahead w n) g 0 d) os) g T (putCells enc 0 d cur):=by
  obtain ⟨fz,h1,h2⟩:=h
  refine ⟨fz,?_,by simpa [putCells] using h2⟩
  have hlt:=(Array.getElem?_eq_some_iff.1 h1).1
  simp only [grow,putRow,mapBlock,Go.Sort.ahead]
  rw [Array.getElem?_append_left (by simpa using hlt),Array.getElem?_modify,if_pos rfl,h1]
  rfl
theorem zHh {E:Enc α} {A:Av} {B T:Nat} {w:World} {u:Value} {xs:List α} (h:Vec E A B T w u xs):(u = .slice none 0 0∧xs = [])∨∃ blk cap,u = .slice (some ⟨blk,0,none⟩) xs.length cap∧blk<w.heap.size:=by
  obtain ⟨cs,hown,_⟩:=h
  rcases hown.2 with ⟨e,h0⟩ | ⟨g,cap,cur,e,_,hg,_⟩
  · exact .inl ⟨e,List.eq_nil_of_length_eq_zero h0⟩
  · exact .inr ⟨g,cap,e,hg.lt⟩
end
def zK6 {α:Type} [BEq α] (F:α→α→Option Int) (xs:List α):Bool:=
  xs.all fun x => xs.all fun y => (F x y).isSome && !(decide (gv (F x x) < 0)) && (decide (gv (F x y) < 0) || decide (gv (F y x) < 0) || x == y) &&
    xs.all fun z=>(!(decide (gv (F x y)<0)) || !(decide (gv (F y z)<0)) || decide (gv (F x z)<0))&&(decide (gv (F x y)<0) || decide (gv (F y z)<0) || !(decide (gv (F x z)<0)))
def zHX {α:Type} [BEq α] (fu:Nat) (p0:List α) (p1:α→α→Option Int):Option (List α):=ck (zFo p0.length) (ck (zK6 p1 p0) (some (p0.mergeSort fun x y=>!(decide (gv (p1 y x)<0)))))
theorem zJ7 {f f':FuncId} {c c':List Value} (h:(Value.func (.func f) #[] c.toArray) = .func (.func f') #[] c'.toArray):f=f'∧c=c':=by
  injection h with h1 h2 h3
  injection h1 with h1
  exact ⟨h1,by simpa using h3⟩
end Go.Proofs.Ytmkgocdgkdglnaa
namespace Go.Proofs
open Go.Shelf
def Try.laysSortT_ren:Go.Shelf.Ren:=⟨fun | 6=>72 | 15=>94 | 14=>95 | 28=>118 | 29=>119 | 20=>120 | 21=>121 | 22=>122 | 23=>123 | 24=>124 | 25=>125 | 26=>126 | 27=>127 | 46=>136 | 47=>132 | 48=>133 | 49=>137 | 50=>138 | 57=>143 | n=>n,fun | 22=>65 | 24=>82 | 25=>103 | 3=>3 | 39=>121 | 0=>0 | 53=>142 | 55=>144 | 4=>4 | 46=>134 | 45=>133 | 50=>139 | 5=>5 | 9=>9 | 66=>155 | 70=>159 | 76=>166 | 77=>167 | n=>n,fun | n=>n⟩
theorem Try.laysSortT : Go.Proofs.SlLaysF0.n6 Try.prog Try.laysSortT_ren := {
  mixed:=by kernel_rfl
  f6:=⟨Try.f72.name,by decide,Try.func72.trans (congrArg some (by kernel_rfl))⟩
  f14:=⟨Try.f95.name,by decide,Try.func95.trans (congrArg some (by kernel_rfl))⟩
  f15:=Try.func94.trans (congrArg some (by kernel_rfl))
  f20:=⟨Try.f120.name,by decide,Try.func120.trans (congrArg some (by kernel_rfl))⟩
  f21:=⟨Try.f121.name,by decide,Try.func121.trans (congrArg some (by kernel_rfl))⟩
  f22:=⟨Try.f122.name,by decide,Try.func122.trans (congrArg some (by kernel_rfl))⟩
  f23:=⟨Try.f123.name,by decide,Try.func123.trans (congrArg some (by kernel_rfl))⟩
  f24:=⟨Try.f124.name,by decide,Try.func124.trans (congrArg some (by kernel_rfl))⟩
  f25:=⟨Try.f125.name,by decide,Try.func125.trans (congrArg some (by kernel_rfl))⟩
  f26:=⟨Try.f126.name,by decide,Try.func126.trans (congrArg some (by kernel_rfl))⟩
  f27:=⟨Try.f127.name,by decide,Try.func127.trans (congrArg some (by kernel_rfl))⟩
  f28:=Try.func118.trans (congrArg some (by kernel_rfl))
  f29:=Try.func119.trans (congrArg some (by kernel_rfl))
  f46:=⟨Try.f136.name,by decide,Try.func136.trans (congrArg some (by kernel_rfl))⟩
  f47:=Try.func132.trans (congrArg some (by kernel_rfl))
  f48:=Try.func133.trans (congrArg some (by kernel_rfl))
  f49:=⟨Try.f137.name,by decide,Try.func137.trans (congrArg some (by kernel_rfl))⟩
  f50:=⟨Try.f138.name,by decide,Try.func138.trans (congrArg some (by kernel_rfl))⟩
  f57:=⟨Try.f143.name,by decide,Try.func143.trans (congrArg some (by kernel_rfl))⟩
  t0:=Try.underlying0
  a0:=Try.isAgg0
  z0:=Try.sizeOf0
  v0:=Try.zeroValue0
  t3:=Try.underlying3
  a3:=Try.isAgg3
  z3:=Try.sizeOf3
  v3:=Try.zeroValue3
  t4:=Try.underlying4
  a4:=Try.isAgg4
  z4:=Try.sizeOf4
  v4:=Try.zeroValue4
  t5:=Try.underlying5
  a5:=Try.isAgg5
  z5:=Try.sizeOf5
  v5:=Try.zeroValue5
  t9:=Try.underlying9
  a9:=Try.isAgg9
  z9:=Try.sizeOf9
  v9:=Try.zeroValue9
  t22:=Try.underlying65
  a22:=Try.isAgg65
  z22:=Try.sizeOf65
  v22:=Try.zeroValue65
  t25:=Try.underlying103
  a25:=Try.isAgg103
  z25:=Try.sizeOf103
  v25:=Try.zeroValue103
  t39:=Try.underlying121
  a39:=Try.isAgg121
  z39:=Try.sizeOf121
  v39:=Try.zeroValue121
  t45:=Try.underlying133
  a45:=Try.isAgg133
  z45:=Try.sizeOf133
  v45:=Try.zeroValue133
  t46:=Try.underlying134
  a46:=Try.isAgg134
  z46:=Try.sizeOf134
  v46:=Try.zeroValue134
  t50:=Try.underlying139
  a50:=Try.isAgg139
  z50:=Try.sizeOf139
  v50:=Try.zeroValue139
  t53:=Try.underlying142
  a53:=Try.isAgg142
  z53:=Try.sizeOf142
  v53:=Try.zeroValue142
  t55:=Try.underlying144
  a55:=Try.isAgg144
  z55:=Try.sizeOf144
  v55:=Try.zeroValue144
  t66:=Try.underlying155
  a66:=Try.isAgg155
  z66:=Try.sizeOf155
  v66:=Try.zeroValue155
  t70:=Try.underlying159
  a70:=Try.isAgg159
  z70:=Try.sizeOf159
  v70:=Try.zeroValue159
  t76:=Try.underlying166
  a76:=Try.isAgg166
  z76:=Try.sizeOf166
  v76:=Try.zeroValue166
  t77:=Try.underlying167
  a77:=Try.isAgg167
  z77:=Try.sizeOf167
  v77:=Try.zeroValue167 }
end Go.Proofs
namespace Go.Proofs.Ytmkgocdgkdglnaa
open Go.RowKit Go.Sort
set_option linter.unusedVariables false
end Go.Proofs.Ytmkgocdgkdglnaa

namespace Go.Proofs.Ytmkgocdgkdglnaa
open Go.RowKit
set_option linter.unusedVariables false
section
variable {α:Type} {F:OE α} {A A0:Av} {w:World} {S K:Nat→Prop}
end
section
variable {α:Type} {F:OE α} {A A0:Av} {w:World} {S K:Nat→Prop}
variable {P:Program} {R:Reg} {t:TypeId} {p:String} {af:Array Edge} {g:Option (Nat × Bool)} {x:Operand} {u:Value}
end
section
variable {α:Type} {F:OE α} {A A0:Av} {w:World} {S K:Nat→Prop}
variable {P:Program} {R:Reg} {d:Option Nat} {t T:TypeId} {p:String} {af:Array Edge} {g:Option (Nat × Bool)} {x:Operand} {u v:Value}
end
section
variable {α β:Type} {E:Enc α} {F:Enc β} {A:Av} {w:World} {S:Nat→Prop}
end
end Go.Proofs.Ytmkgocdgkdglnaa
namespace Go.Proofs.Ytmkgocdgkdglnaa
open Go.RowKit Go.Maps Go.WideMaps
set_option linter.unusedVariables false
def rdV (v:Value):Option (DataW Value × List MemPlace):=some (.held v,[])
def zGZ (P:Program) (k:TypeId) (w:World) (b n:Nat) (f:List UInt8→Option Value):Prop:=
  ∃ D:DataW Value,w.ownsMap P k rdV b n D∧∀ s zd,D.atKey (.string s) zd=(match f s with | none=>zd | some v=>.held v)
variable {P:Program} {k t e:TypeId} {w:World} {b n:Nat} {f:List UInt8→Option Value}
theorem zGZ.made (P:Program) (k:TypeId) (w:World):zGZ P k (w.alloc (.map #[] 0)) w.heap.size 0 fun _=>none:=
  ⟨_,World.ownsMap_made w P k rdV,fun _ _=>rfl⟩
theorem zGZ.lt (h:zGZ P k w b n f):b<w.heap.size:=let ⟨_,h,_⟩:=h;h.lt
theorem zGZ.lookup (h : zGZ P k w b n f) (hk : P.underlying k = some .string) (ht : P.underlying t = some (.map k e)) {z : Value} (hz : (zeroValue e).run P w = .ok z w) {s : ByteArray} (hs : s.size ≤ maxLen) :
    (Instr.lookup t (.map (some b)) (.string s) false).run P w = .ok ((f s.data.toList).getD z) w:=by
  obtain ⟨D,hD,hf⟩:=h
  obtain ⟨v,ps,hrun,hv⟩:=hD.lookup (Maps.string_keyed hk) ht hz (zd:=.held z) (zp:=[]) rfl (keyOf_string_mk hk hs)
  rw [hf] at hv
  have:v=(f s.data.toList).getD z:=by
    cases hfs:f s.data.toList with
    | none=>rw [hfs] at hv;exact DataW.held.inj (Prod.mk.inj (Option.some.inj hv)).1
    | some u=>rw [hfs] at hv;exact DataW.held.inj (Prod.mk.inj (Option.some.inj hv)).1
  rw [hrun,this]
theorem zGZ.same {w':World} (h:zGZ P k w b n f) (hb:w'.heap[b]? = w.heap[b]?):zGZ P k w' b n f:=by
  obtain ⟨D,⟨es,c,h1,h2⟩,hf⟩:=h
  exact ⟨D,⟨es,c,hb.trans h1,h2⟩,hf⟩
def zHI {α : Type} (P : Program) (k : TypeId) (B : Nat) (T : TypeId) (E : Enc α) (ms : List UInt8 → List α) (out : List (List UInt8)) (n : Nat) : SP where
  P A w S u := ∃ b f, u = .map (some b) ∧ B ≤ b ∧ zGZ P k w b n f ∧ (∀ i, S i ↔ i = b ∨ ∃ s v, s ∉ out ∧ f s = some v ∧ zAV v i) ∧
    (∀ s,s ∉ out→(f s=none→ms s = [])∧∀ v,f s=some v→(Res.vec B T E (ms s)).ok A v w∧¬ zAV v b) ∧
    (∀ s s' v v' i,s ∉ out→s' ∉ out→s ≠ s'→f s=some v→f s'=some v'→zAV v i→¬ zAV v' i)
  lt:=by
    rintro A w S u i ⟨b,f,rfl,hB,hm,hS,hr,hd⟩ hi
    rcases (hS i).1 hi with rfl | ⟨s,v,hs,hv,ho⟩
    · exact hm.lt
    · exact Res.lt ((hr s hs).2 v hv).1 rfl ho
  stab:=by
    rintro A A' w w' S u ⟨b,f,rfl,hB,hm,hS,hr,hd⟩ hb hs
    refine ⟨b,f,rfl,hB,hm.same (hb b ((hS b).2 (.inl rfl))),hS,fun s hn=>⟨(hr s hn).1,fun v hv=>⟨?_,((hr s hn).2 v hv).2⟩⟩,hd⟩
    exact Res.stab ((hr s hn).2 v hv).1 (fun i hi=>hb i ((hS i).2 (.inr ⟨s,v,hn,hv,hi⟩))) hs
theorem zHI.made {α : Type} {B : Nat} {T : TypeId} {E : Enc α} {A : Av} (hB : B ≤ w.heap.size) :
    (zHI P k B T E (fun _=>[]) [] 0).P A (w.alloc (.map #[] 0)) (fun i=>i=w.heap.size) (.map (some w.heap.size)):=
  ⟨_,_,rfl,hB,zGZ.made P k w,fun i=>⟨.inl,fun h=>h.elim id fun ⟨s,v,_,h,_⟩=>(by cases h)⟩,fun s _=>⟨fun _=>rfl,fun v h=>(by cases h)⟩,fun s s' v v' i _ _ _ h=>(by cases h)⟩
theorem zHI.lookup {α : Type} {B : Nat} {T : TypeId} {E : Enc α} {A : Av} {ms : List UInt8 → List α} {out : List (List UInt8)} {S : Nat → Prop} {u : Value} (h : (zHI P k B T E ms out n).P A w S u)
    (hk:P.underlying k=some .string) (ht:P.underlying t=some (.map k e)) (hz:(zeroValue e).run P w = .ok (.slice none 0 0) w) {s:ByteArray} (hs:s.size≤maxLen) (ho:s.data.toList ∉ out)
    (hnil:(Res.vec B T E ([]:List α)).ok A (.slice none 0 0) w) :
    ∃ v S',(Instr.lookup t u (.string s) false).run P w = .ok v w∧(Res.vec B T E (ms s.data.toList)).ok A v w∧(zHI P k B T E ms (s.data.toList::out) n).P A w S' u∧(∀ i,S i ↔ S' i∨zAV v i)∧∀ i,zAV v i→¬ S' i:=by
  obtain ⟨b,f,rfl,hB,hm,hS,hr,hd⟩:=h
  have hrun:=hm.lookup hk ht hz hs
  refine ⟨(f s.data.toList).getD (.slice none 0 0),fun i=>i=b∨∃ s' v,s' ∉ s.data.toList::out∧f s'=some v∧zAV v i,hrun,?_,⟨b,f,rfl,hB,hm,fun i=>Iff.rfl,fun s' hs'=>hr s' fun h=>hs' (.tail _ h),fun s1 s2 v1 v2 i h1 h2=>hd s1 s2 v1 v2 i (fun h=>h1 (.tail _ h)) fun h=>h2 (.tail _ h)⟩,fun i=>?_,fun i hi h=>?_⟩
  · cases hf : f s.data.toList with
    | none=>rw [(hr _ ho).1 hf];exact hnil
    | some v=>exact ((hr _ ho).2 v hf).1
  · rw [hS i]
    constructor
    · rintro (rfl | ⟨s', v, h1, h2, h3⟩)
      · exact .inl (.inl rfl)
      · by_cases e : s' = s.data.toList
        · subst e;exact .inr (by rw [h2];exact h3)
        · exact .inl (.inr ⟨s',v,fun h=>(List.mem_cons.1 h).elim e h1,h2,h3⟩)
    · rintro ((rfl | ⟨s', v, h1, h2, h3⟩) | h)
      · exact .inl rfl
      · exact .inr ⟨s',v,fun h=>h1 (.tail _ h),h2,h3⟩
      · cases hf : f s.data.toList with
        | none=>rw [hf] at h;exact h.elim
        | some v=>rw [hf] at h;exact .inr ⟨_,v,ho,hf,h⟩
  · cases hf : f s.data.toList with
    | none=>rw [hf] at hi;exact hi.elim
    | some v=>
      rw [hf] at hi
      rcases h with rfl | ⟨s',v',h1,h2,h3⟩
      · exact ((hr _ ho).2 v hf).2 hi
      · exact hd _ s' v v' i ho (fun h=>h1 (.tail _ h)) (fun e=>h1 (e ▸ .head _)) hf h2 hi h3
theorem IniOK.snoc {ini:List Ob} {A:Av} {w:World} (h:IniOK ini A w) (p:Ob) (hok:p.r.ok A p.u w) (hav:∀ k,p.S k→∀ o,A k o) (hown:p.r.own A p.u p.S w) (hd:∀ (j:Nat) q,ini[j]? = some q→∀ k,p.S k→¬ q.S k):IniOK (ini ++ [p]) A w:=by
  have hat:∀ (j:Nat) q,(ini ++ [p])[j]? = some q→ini[j]? = some q∨j=ini.length∧q=p:=fun j q hq=>by
    rcases Nat.lt_or_ge j ini.length with hl | hl
    · rw [List.getElem?_append_left hl] at hq;exact .inl hq
    · rw [List.getElem?_append_right hl] at hq
      cases hj:j-ini.length with
      | zero=>rw [hj] at hq;exact .inr ⟨by omega,(Option.some.inj hq).symm⟩
      | succ m=>rw [hj] at hq;cases hq
  refine ⟨fun j q hq=>?_,fun j q hq=>?_,fun i j q q' hq hq' hne k hk hk'=>?_⟩
  · rcases hat j q hq with h1 | ⟨_, rfl⟩
    · exact h.ok j q h1
    · exact ⟨hok,hav⟩
  · rcases hat j q hq with h1 | ⟨_, rfl⟩
    · exact h.own j q h1
    · exact hown
  · rcases hat i q hq with h1 | ⟨e1, rfl⟩
    · rcases hat j q' hq' with h2 | ⟨_, rfl⟩
      · exact h.dis i j q q' h1 h2 hne k hk hk'
      · exact hd i q h1 k hk' hk
    · rcases hat j q' hq' with h2 | ⟨e2, rfl⟩
      · exact hd j q' h2 k hk hk'
      · exact hne (e1.trans e2.symm)
theorem IniOK.look {α : Type} {ini : List Ob} {A : Av} {K : Nat → Prop} {B : Nat} {T : TypeId} {E : Enc α} {ms : List UInt8 → List α} {out : List (List UInt8)} {S : Nat → Prop} {u : Value} (h : IniOK ini A w) (i : Nat)
    (hi:ini[i]? = some ⟨u,S,.gen K (zHI P k B T E ms out n)⟩) (hk:P.underlying k=some .string) (ht:P.underlying t=some (.map k e)) (hz:(zeroValue e).run P w = .ok (.slice none 0 0) w) {s:ByteArray} (hs:s.size≤maxLen) (ho:s.data.toList ∉ out)
    (hnil:(Res.vec B T E ([]:List α)).ok A (.slice none 0 0) w) :
    ∃ v S',(Instr.lookup t u (.string s) false).run P w = .ok v w∧IniOK (ini.set i ⟨u,S',.gen K (zHI P k B T E ms (s.data.toList::out) n)⟩ ++ [ob v (.vec B T E (ms s.data.toList))]) A w∧(∀ k,zAV v k→S k)∧∀ k,S' k→S k:=by
  obtain ⟨hK,hP⟩:=h.own i _ hi
  obtain ⟨v,S',hrun,hv,hP',hS,hd⟩:=zHI.lookup hP hk ht hz hs ho hnil
  have h1:=h.put i hi ⟨u,S',.gen K (zHI P k B T E ms (s.data.toList::out) n)⟩ trivial ⟨fun j hj=>hK j ((hS j).2 (.inl hj)),hP'⟩ fun j hj=>(hS j).2 (.inl hj)
  refine ⟨v,S',hrun,h1.snoc _ hv (fun j hj=>(h.ok i _ hi).2 j ((hS j).2 (.inr hj))) rfl (fun j q hq m hm hm'=>?_),fun j hj=>(hS j).2 (.inr hj),fun j hj=>(hS j).2 (.inl hj)⟩
  have hl:=(List.getElem?_eq_some_iff.1 hi).1
  by_cases ej:j=i
  · subst ej
    rw [List.getElem?_set_self hl] at hq
    cases hq
    exact hd m hm hm'
  · rw [List.getElem?_set_ne (Ne.symm ej)] at hq
    exact h.dis i j _ q hi hq (Ne.symm ej) m ((hS m).2 (.inr hm)) hm'
section
variable {R:Reg} {m x y:Operand} {d:Option Nat} {ty:TypeId} {pp:String} {af:Array Edge} {A:Av}
end
section
variable {A:Av} {b:Nat} {o:Obj}
end
end Go.Proofs.Ytmkgocdgkdglnaa
namespace Go.Proofs.Ytmkgocdgkdglnaa
open Go.RowKit
set_option linter.unusedVariables false
section
variable {P:Program} {R:Reg} {w:World} {p:String} {af:Array Edge} {g:Option (Nat × Bool)} {A:Av} {α:Type} {F:OE α} {x x':Operand} {T e:TypeId} {K:Nat→Prop} {a v:Value}
end
section
variable {P:Program} {R:Reg} {w:World} {d:Option Nat} {t:TypeId} {p:String} {af:Array Edge} {g:Option (Nat × Bool)} {A:Av} {α:Type} {E:Enc α} {x:Operand} {u:Value}
theorem zB4 (h:∃ b off,u = .pointer (some ⟨b,off,none⟩)) (hx:zAL R x=u):OpF P ⟨d,.nilCheck x,t,p,af,g⟩ R w (.raw u):=by
  obtain ⟨b,off,rfl⟩:=h
  exact zIT hx
theorem zFb {y:α} (h:Rep (ePt E) A w (zAL R x) y):OpF P ⟨d,.nilCheck x,t,p,af,g⟩ R w (.qtr E A y):=by
  obtain ⟨cs,e,b,rfl,hb,hq⟩:=h
  have e:zAL R x = .pointer (some ⟨b,0,none⟩):=e
  exact zAY (v:=.pointer (some ⟨b,0,none⟩)) (w':=w) (by simp [execOp,e]) ⟨⟨b,0,rfl,hb,hq⟩,Fr.refl _⟩
theorem zJE {F : OE α} {T : TypeId} {K S : Nat → Prop} {a : Value} {y : α} {Q : α → Pw} (h : zDB F A w S a y Q) (hx : zAL R x = a) (hav : ∀ k, S k → ∀ o, A k o) (hB : ∀ k, S k → K k) (hag : ∀ w, (isAgg T).run P w = .ok F.E.agg w) (hsz : ∀ w, (sizeOf T).run P w = .ok F.E.size w) :
    OpR P ⟨d,.load T x,t,p,af,g⟩ R w (zDx A true u S (trR K F y []) (fun _=>.any) w):=by
  obtain ⟨b,off,S1,cs,rfl,h⟩:=h
  obtain ⟨arr,T',hb,hle⟩:=h.blk
  have hst:=zCa (S'':=S1) hav (Ch.refl S w) fun k _ h'=>h.sub k h'
  refine zAY (v:=F.E.val cs) (w':=w) ?_ ⟨F.E.val cs,S1,rfl,Ch.refl S w,fun k _ h'=>h.sub k h',hst,trivial,⟨fun k hk=>hB k (h.sub k hk),⟨cs,rfl,F.stab h.own (fun _ _=>rfl) hst⟩,fun q hq=>by cases hq⟩,trivial⟩
  have:=zCB (P:=P) (w:=w) (b:=b) (o:=off) hag hsz (F.len h.own) F.E.one (fun j v hj=>h.at' j v hj)
  simp [execOp,Instr.loadAt,Instr.sureAddr,hx,this,Enc.val]
theorem zJ6 {A:Av} {w:World} {v:Value} {x:List α} (h:Rep (eBx (eSl E)) A w v x):∃ a n c,v = .agg #[.slice a n c]∧(eBx (eSl E)).rep A w x [.slice a n c]:=by
  obtain ⟨cs,hv,hr⟩:=h
  have hr':(eSl E).rep A w x cs:=hr
  obtain ⟨a,n,c,rfl,h1⟩:=hr'
  exact ⟨a,n,c,hv,hr⟩
end
end Go.Proofs.Ytmkgocdgkdglnaa
namespace Go.Proofs.Ytmkgocdgkdglnaa
open Go.RowKit
end Go.Proofs.Ytmkgocdgkdglnaa

namespace Go.Proofs.Ytmkgocdgkdglnaa
open Go.RowKit Go.Sort
set_option linter.unusedVariables false
section
variable {α β:Type} [Inhabited β]
theorem zJb {enc:β→List Value} {k:Nat} {d:Array β} {i j:Nat} (hk:∀ x,(enc x).length=k) (hi:i<d.size) (hj:j<k):(flatK enc k d)[i*k+j]! = (enc d[i]!)[j]!:=by
  have h1:i*k+j<d.size*k:=by
    have:=Nat.mul_le_mul_right k (show i+1≤d.size from hi)
    rw [Nat.add_mul,Nat.one_mul] at this
    omega
  rw [get_flatK _ _ _ _ h1,Nat.mul_comm i k,Nat.mul_add_div (by omega),Nat.div_eq_of_lt hj,Nat.mul_add_mod,Nat.mod_eq_of_lt hj,Nat.add_zero]
theorem some_get! {xs:List Value} {j:Nat} (h:j<xs.length):xs[j]? = some xs[j]!:=by
  rw [List.getElem?_eq_getElem h,getElem!_pos xs j h]
theorem zJ9 {E:Enc α} {enc:β→List Value} {f:β→α} {A:Av} {B T blk cap:Nat} {w:World} {xs:List α} {d:Array β} (hk:∀ b,(enc b).length=E.size) (henc:∀ (b:β) A w cs,E.rep A w (f b) cs→cs=enc b) (hd:d.toList.map f=xs) (h:Vec E A B T w (.slice (some ⟨blk,0,none⟩) xs.length cap) xs):HoldsK enc E.size w blk 0 d:=by
  obtain ⟨cs,hown,hf⟩:=h
  intro t ht
  rw [size_flatK] at ht
  have hlen:d.size=xs.length:=by rw [← hd];simp
  have k0:0<E.size:=Nat.pos_of_ne_zero fun h=>by rw [h] at ht;simp at ht
  have hi:t / E.size<d.size:=(Nat.div_lt_iff_lt_mul k0).2 ht
  have hj:t % E.size<E.size:=Nat.mod_lt _ k0
  have hx:xs[t / E.size]? = some (f d[t / E.size]!):=by
    rw [← hd,List.getElem?_map]
    simp [hi]
  obtain ⟨ds,h1,h2⟩:=hf.2 _ _ hx
  have h3:=henc _ _ _ _ h1
  subst h3
  have h4:=h2 (t % E.size) _ (some_get! (by rw [hk];exact hj))
  rw [Nat.div_add_mod'] at h4
  refine ⟨?_,?_⟩
  · have := hown.cells (g := blk) rfl t _ h4
    rw [zCE] at this
    rw [get_flatK _ _ _ _ ht]
    exact this
  · rcases hown.2 with ⟨e, _⟩ | ⟨g, cap', cur, e, hb, hg, hnc, _, hcs, _⟩
    · cases e
    · injection e with e1 e2 e3
      injection e1 with e1
      injection e1 with e1
      subst e1
      rw [Nat.zero_add]
      exact hg.frozen t (by rw [hcs];exact Nat.lt_of_lt_of_le ht (by rw [hlen];exact Nat.mul_le_mul_right _ hnc))
theorem zKS {E : Enc α} {enc : β → List Value} {f : β → α} {A : Av} {B T blk cap n : Nat} {w : World} {xs ys : List α} {d : Array β} {os : Array Obj} (hk : ∀ b, (enc b).length = E.size) (henc : ∀ (b : β) A w cs, E.rep A w (f b) cs → cs = enc b)
    (hrep:∀ A w A' w' x cs,E.rep A w x cs→E.rep A' w' x cs) (hd:d.toList.map f=ys) (hl:ys.length=xs.length) (hsub:∀ y ∈ ys,y ∈ xs) (h:Vec E A B T w (.slice (some ⟨blk,0,none⟩) xs.length cap) xs) :
    Vec E A B T (grow (putRow id (Go.Sort.ahead w n) blk 0 (flatK enc E.size d)) os) (.slice (some ⟨blk,0,none⟩) xs.length cap) ys:=by
  obtain ⟨cs,hown,hf⟩:=h
  have hrow:∀ b ∈ d.toList,∀ A w,E.rep A w (f b) (enc b):=by
    intro b hb A' w'
    obtain ⟨i,hi⟩:=List.mem_iff_getElem?.1 (hsub _ (hd ▸ List.mem_map_of_mem hb))
    obtain ⟨ds,h1,h2⟩:=hf.2 i _ hi
    have h3:=henc _ _ _ _ h1
    subst h3
    exact hrep _ _ _ _ _ _ h1
  rcases hown.2 with ⟨e,_⟩ | ⟨g,cap',cur,e,hb,hg,hnc,hcm,hcs,htk⟩
  · cases e
  · injection e with e1 e2 e3
    injection e1 with e1
    injection e1 with e1
    subst e1 e3
    have hds:d.size=ys.length:=by rw [← hd];simp
    have hFs:(flatK enc E.size d).size=ys.length*E.size:=by rw [size_flatK,hds]
    generalize hF:flatK enc E.size d=F at *
    have hcl:ys.length*E.size≤cur.size:=by
      rw [hcs]
      exact Nat.mul_le_mul_right _ (by omega)
    have hcur:∀ j,j<ys.length*E.size→(putCells id 0 F cur)[j]? = some F[j]!:=fun j hj=>by
      have hjc:j<cur.size:=by omega
      simp only [putCells,Array.getElem?_mapIdx]
      rw [Array.getElem?_eq_getElem hjc]
      simp [hFs,hj]
    have hlay:(putCells id 0 F cur).toList.take (ys.length*E.size)=F.toList:=by
      apply List.ext_getElem?
      intro j
      by_cases hj:j<ys.length*E.size
      · have hjF : j < F.size := by omega
        rw [List.getElem?_take,if_pos hj,Array.getElem?_toList,hcur j hj,Array.getElem?_toList,Array.getElem?_eq_getElem hjF,getElem!_pos F j hjF]
      · rw [List.getElem?_take,if_neg hj,List.getElem?_eq_none (by rw [Array.length_toList];omega)]
    refine ⟨F.toList,⟨by rw [Array.length_toList,hFs],.inr ⟨blk,cap,putCells id 0 F cur,by rw [hl],hb,hg.putRw,by rw [hl];exact hnc,hcm,by simp [putCells,hcs],hlay⟩⟩,by rw [Array.length_toList,hFs],fun i y hy=>?_⟩
    · have hiy : i < ys.length := (List.getElem?_eq_some_iff.1 hy).1
      have hid:i<d.size:=by omega
      have hfd:f d[i]! = y:=by
        rw [← hd,List.getElem?_map] at hy
        simp [hid] at hy
        simpa [hid] using hy
      have hm:d[i]! ∈ d.toList:=by
        rw [getElem!_pos d i hid]
        exact Array.getElem_mem_toList hid
      refine ⟨enc d[i]!,hfd ▸ hrow _ hm _ _,fun j u hj=>?_⟩
      have hjk:j<E.size:=by rw [← hk d[i]!];exact (List.getElem?_eq_some_iff.1 hj).1
      have hij:i*E.size+j<F.size:=by
        have:=Nat.mul_le_mul_right E.size (show i+1≤ys.length from hiy)
        rw [Nat.add_mul,Nat.one_mul] at this
        omega
      rw [Array.getElem?_toList,Array.getElem?_eq_getElem hij,← getElem!_pos F _ hij,← hF,zJb hk hid hjk,← hj]
      exact (some_get! (by rw [hk];exact hjk)).symm
end
def encT (x:zA7):List Value:=[.int .i64 x.1,.int .i64 x.2.1,.bool x.2.2]
theorem zLU (b:zA7) (A:Av) (w:World) (cs:List Value) (h:zA1.rep A w b cs):cs=encT b:=by
  obtain ⟨_,_,rfl,rfl,⟨_,_,rfl,rfl,rfl⟩⟩:=h
  rfl
theorem zLF (A:Av) (w:World) (b:zA7):zA1.rep A w b (encT b):=zBr zAe (zBr zAe zCr)
theorem repT (A:Av) (w:World) (b:zA7):Rep zA1 A w (.agg (encT b).toArray) b:=⟨_,rfl,zLF A w b⟩
theorem zIf {fu : Nat} {A0 : Av} {p0 r : List zA7} {p1 : zA7 → zA7 → Option Int} (hr : zHX fu p0 p1 = some r) {w : World} {v0 v1 : Value} {B0 : Nat} (hA : AvOK A0 w) (hN : ∀ b o, A0 b o → ¬ zAV v0 b) (h0 : (Res.vec B0 82 zA1 p0).ok A0 v0 w)
    (h1:FnK2 Try.prog zA1 zA1 (fun r=>.raw (.int .i64 r)) A0 (zAV v0) w v1 p1) :
    Calls Try.prog 72 #[v0,v1] w fun e w'=>∃ v,e = .returned v∧(v = .tuple #[]∧(Res.vec B0 82 zA1 r).ok A0 v0 w'∧Ch (zAV v0) w w'):=by
  obtain ⟨hlen,hr⟩:=zAF hr
  obtain ⟨hok,hr⟩:=zAF hr
  obtain rfl:=Option.some.inj hr
  simp only [zK6,List.all_eq_true,Bool.and_eq_true] at hok
  cases hp:p0 with
  | nil=>
    subst hp
    have:∃ p cap,v0 = .slice p 0 cap:=by
      rcases zHh h0 with ⟨rfl,_⟩ | ⟨blk,cap,rfl,_⟩
      · exact ⟨_,_,rfl⟩
      · exact ⟨_,_,rfl⟩
    obtain ⟨p,cap,rfl⟩:=this
    refine (AnyF.slices_SortFunc_none Try.laysSortT p cap v1 w).mono ?_
    rintro e w' ⟨he,rfl⟩
    refine ⟨_,he,rfl,?_,Ch.refl _ _⟩
    simpa using h0
  | cons x0 t0=>
    rw [← hp]
    have hx0:x0 ∈ p0:=by rw [hp];simp
    have hsome:∀ x ∈ p0,∀ y ∈ p0,p1 x y=some (gv (p1 x y)):=fun x hx y hy=>zLG (hok x hx y hy).1.1.1
    obtain ⟨g,cb,rfl,hg,_⟩:=h1 x0 x0 _ (hsome x0 hx0 x0 hx0) w (.agg (encT x0).toArray) (.agg (encT x0).toArray) (Ch.refl _ _) hA (repT A0 w x0) (repT A0 w x0)
    rcases zHh h0 with ⟨rfl,e⟩ | ⟨blk,cap,rfl,hb⟩
    · rw [e] at hx0
      cases hx0
    · let β := {x : zA7 // x ∈ p0}
      have inst:Inhabited β:=⟨⟨x0,hx0⟩⟩
      let enc:β→List Value:=fun b=>encT b.1
      let cf:β→β→Int:=fun x y=>gv (p1 x.1 y.1)
      let d:Array β:=p0.attach.toArray
      have hdm:d.toList.map (fun b:β=>b.1)=p0:=by show (p0.attach.toArray).toList.map Subtype.val=p0;rw [List.toList_toArray];exact List.attach_map_subtype_val p0
      have hds:d.size=p0.length:=by show (p0.attach.toArray).size=_;rw [List.size_toArray,List.length_attach]
      have hO:SWO (ltOf cf):=by
        refine ⟨fun x=>?_,fun x y z hxy hyz=>?_,fun x y z hxy hyz=>?_⟩
        · have := (hok x.1 x.2 x.1 x.2).1.1.2
          simpa [ltOf,cf] using this
        · have := ((hok x.1 x.2 y.1 y.2).2 z.1 z.2).1
          simp only [ltOf,cf] at hxy hyz ⊢
          rw [hxy,hyz] at this
          simpa using this
        · have := ((hok x.1 x.2 y.1 y.2).2 z.1 z.2).2
          simp only [ltOf,cf] at hxy hyz ⊢
          rw [hxy,hyz] at this
          simpa using this
      have hT:∀ x y,(ltOf cf) x y=false→(ltOf cf) y x=false→x=y:=by
        intro x y hxy hyx
        have:=(hok x.1 x.2 y.1 y.2).1.2
        simp only [ltOf,cf] at hxy hyx
        rw [hxy,hyx] at this
        exact Subtype.ext (by simpa using this)
      have hcmp:CmpLays Try.prog g cb.toArray enc 3 cf blk 0 d.size w:=by
        intro m os dk hdk x y
        have hch:Ch (zAV (.slice (some ⟨blk,0,none⟩) p0.length cap)) w (sortWorldK enc 3 w blk 0 m dk os):=zHp rfl
        obtain ⟨g',cb',e,hg',hc⟩:=h1 x.1 y.1 _ (hsome x.1 x.2 y.1 y.2) (sortWorldK enc 3 w blk 0 m dk os) (.agg (enc x).toArray) (.agg (enc y).toArray) hch (hA.fr hch.size) (repT _ _ x.1) (repT _ _ y.1)
        obtain ⟨rfl,rfl⟩:=zJ7 e
        have e2:((#[Value.agg (enc x).toArray,Value.agg (enc y).toArray]:Array Value)++cb.toArray)=([Value.agg (enc x).toArray,Value.agg (enc y).toArray]++cb).toArray:=by simp
        rw [e2]
        refine hc.mono ?_
        rintro e w' ⟨u,he,hu,hfr⟩
        obtain rfl:u = .int .i64 (cf x y):=hu
        obtain ⟨q,os',hw⟩:=zLX trivial hfr
        exact ⟨he,q,os',hw⟩
      have hH:HoldsK enc 3 w blk 0 d:=zJ9 (E:=zA1) (f:=fun b:β=>b.1) (fun _=>rfl) (fun b A w cs h=>zLU b.1 A w cs h) hdm h0
      have key:=AnyQ.slices_SortFunc_total Try.laysSortT 3 Try.isAgg82 Try.sizeOf82 enc (fun _=>rfl) (fun x v hv=>zA1.oc (zLF (fun _ _=>False) w x.1) v hv) cf hO g cb.toArray blk 0 cap d w hg hcmp hH hb (by rw [hds];have:=zJ2 hlen;omega) hT
      rw [hds] at key
      refine key.mono ?_
      rintro e w' ⟨he,n,os,rfl⟩
      refine ⟨_,he,rfl,?_,zHp rfl⟩
      have hmap:(d.toList.mergeSort fun x y=>!(ltOf cf) y x).map (fun b:β=>b.1)=p0.mergeSort fun x y=>!(decide (gv (p1 y x)<0)):=by
        rw [List.map_mergeSort (f:=fun b:β=>b.1) (r:=fun x y=>!(ltOf cf) y x) (s:=fun x y=>!(decide (gv (p1 y x)<0))) (l:=d.toList) (fun a _ b _=>rfl),hdm]
      exact zKS (E:=zA1) (enc:=enc) (f:=fun b:β=>b.1) (n:=n) (os:=os) (d:=(d.toList.mergeSort fun x y=>!(ltOf cf) y x).toArray) (fun _=>rfl) (fun b A w cs h=>zLU b.1 A w cs h) (fun _ _ _ _ _ _ h=>by have:=zLU _ _ _ _ h;subst this;exact zLF _ _ _) (by simpa using hmap) (by simp) (fun y hy=>(List.mem_mergeSort.1 hy)) h0
end Go.Proofs.Ytmkgocdgkdglnaa

