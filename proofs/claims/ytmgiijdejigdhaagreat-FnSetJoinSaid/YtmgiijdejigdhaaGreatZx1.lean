/- Own texts laid together. No statement of the seat is proved here. -/
import Derived.WalkKit
import Derived.WalkSpells
import Derived.WalkLawsBesides
import Derived.BigQuiet
import Derived.Deep.QuietTactic
import Derived.Lib.Hide
import Derived.ProofKit
import Derived.OpenShut
import Derived.Deep.Slices
import Derived.Deep.Fields
import Derived.ChangeSame
import Derived.Test.YtmgiijdejigdhaaGreatRows
import Derived.ChangeOld
import Derived.Carry
import Derived.Orders
import Derived.Deep.Draws
import Derived.Deep.LoopGhost
import Derived.IntWalk
import Derived.Laws.BytesArg
import Derived.Laws.Strings
namespace Go.Proofs.YtmgiijdejigdhaaGreat
open Go.RowKit
def Blk (w:World) (g:Nat) (t:TypeId) (cs:Array Value):Prop:=w.heap[g]? = some (.cells cs t (0,0))
section
variable {w w':World} {g:Nat} {t:TypeId} {cs:Array Value}
theorem Blk.lt (h:Blk w g t cs):g<w.heap.size:=by
  rcases Nat.lt_or_ge g w.heap.size with hlt | hge
  . exact hlt
  . unfold Blk at h
    rw [Array.getElem?_eq_none hge] at h
    cases h
theorem Blk.cell (h:Blk w g t cs) (i:Nat):w.cell? ⟨g,i,none⟩=cs[i]?:=cell_of_row w g i cs t (0,0) h
theorem Blk.frozen (h:Blk w g t cs) (i:Nat):w.frozen? ⟨g,i,none⟩=false:=by
  unfold Blk at h
  simp [World.frozen?,h]
theorem Blk.new (w:World) (t:TypeId) (cs:Array Value):Blk (w.alloc (.cells cs t)) w.heap.size t cs:=heap_alloc_new w _
theorem Blk.drew (h:Blk w g t cs):Blk w.drew g t cs:=h
theorem Blk.drewN (h:Blk w g t cs) (n:Nat):Blk (w.drewN n) g t cs:=h
theorem Blk.alloc (h:Blk w g t cs) (o:Obj):Blk (w.alloc o) g t cs:=(Below.heap_alloc w o g h.lt).trans h
theorem Blk.put (h:Blk w g t cs) (i:Nat) (u:Value):Blk (w.setCell ⟨g,i,none⟩ u) g t (cs.setIfInBounds i u):=by
  unfold Blk at h ⊢
  simp [World.setCell,Array.getElem?_modify,h]
theorem Blk.below {B:Nat} (h:Blk w g t cs) (hb:Below B w w') (hg:g<B):Blk w' g t cs:=(hb.block g hg).trans h
end
def Rd (w:World) (B sz:Nat) (A:Option Addr) (n:Nat) (xs:List Value):Prop:=
  xs.length=n*sz/\(0<n->∃ b off,A=some ⟨b,off,none⟩/\b<B/\∀ j u,xs[j]? = some u->w.cell? ⟨b,off+j,none⟩=some u)
section
variable {w w':World} {B B' sz n:Nat} {A:Option Addr} {xs:List Value}
theorem Rd.keep (h:Rd w B sz A n xs) (hk:∀ p:Addr,p.block<B->w'.cell? p=w.cell? p):Rd w' B sz A n xs:=
  ⟨h.1,fun hn=>by
    obtain ⟨b,off,e,hb,hc⟩:=h.2 hn
    exact ⟨b,off,e,hb,fun j u hu=>(hk _ hb).trans (hc j u hu)⟩⟩
theorem Rd.more (h:Rd w B sz A n xs) (hB:B<=B'):Rd w B' sz A n xs:=
  ⟨h.1,fun hn=>by
    obtain ⟨b,off,e,hb,hc⟩:=h.2 hn
    exact ⟨b,off,e,by omega,hc⟩⟩
theorem Rd.below (h:Rd w B sz A n xs) (hb:Below B w w'):Rd w' B sz A n xs:=h.keep fun _ hp=>hb.cell hp
theorem Rd.drewN (h:Rd w B sz A n xs) (k:Nat):Rd (w.drewN k) B sz A n xs:=h
end
end Go.Proofs.YtmgiijdejigdhaaGreat
namespace Go.Proofs.YtmgiijdejigdhaaGreat
open Go.RowKit Go.ChangeShapes Go.WideShapes Go.Deep
abbrev Rel (α:Type):=World->Nat->α->List Value->Prop
def U8 (n:Int):Prop:=(Lit.int .u8 n).wf=true
def zOZ:Rel Int:=fun _ _ n cs=>cs = [.int .u8 n]/\U8 n
def slR {α:Type} (k:Nat) (R:Rel α):Rel (List α):=fun w B l cs=>
  ∃ (A : Option Addr) (n c : Nat) (es : List (List Value)), cs = [.slice A n c] /\ n = l.length /\ n <= c /\ c <= maxLen /\ es.length = l.length /\ Rd w B k A n es.flatten /\
    ∀ (i:Nat) x e,l[i]? = some x->es[i]? = some e->e.length=k/\R w B x e
def zNM {α:Type} (P:Program) (t:TypeId) (R:Rel α):Prop:=
  ∀ {H:Type} (enc:TypeId × Value->H) (w:World) (fuel:Nat) (cs:List Value) (x:DataW H × List MemPlace),DataW.trod enc P w 0 (fun _=>true) true fuel t cs=some x->∃ a,R w w.heap.size a cs
section
variable {P:Program}
theorem zM3 {t:TypeId} (ht:P.underlying t=some (.int .u8)):zNM P t zOZ:=fun enc w fuel cs x h=>by
  obtain ⟨n,h1,_,h2⟩:=DataW.trod_int ht h
  exact ⟨n,h1,h2⟩
theorem zON {w:World} {a:Addr} {v:Value} (h:w.cell? a=some v):a.block<w.heap.size:=by
  rcases Nat.lt_or_ge a.block w.heap.size with hlt | hge
  . exact hlt
  . unfold World.cell? at h
    rw [Array.getElem?_eq_none hge] at h
    cases h
theorem zL5 {α : Type} (n : Nat) (Q : Nat -> List Value -> α -> Prop) (h : ∀ i, i < n -> ∃ cs a, Q i cs a) :
    ∃ (es:List (List Value)) (l:List α),es.length=n/\l.length=n/\∀ i x e,l[i]? = some x->es[i]? = some e->Q i e x:=by
  induction n with
  | zero=>exact ⟨[],[],rfl,rfl,fun i x e h=>by simp at h⟩
  | succ n ih=>
    obtain ⟨es,l,h1,h2,h3⟩:=ih fun i hi=>h i (by omega)
    obtain ⟨cs,a,hq⟩:=h n (by omega)
    refine ⟨es ++ [cs],l ++ [a],by simp [h1],by simp [h2],fun i x e hx he=>?_⟩
    by_cases hi:i<n
    . rw [List.getElem?_append_left (by omega)] at hx he
      exact h3 i x e hx he
    . by_cases hn : i = n
      . subst hn
        rw [List.getElem?_append_right (by omega)] at hx he
        simp [h1,h2] at hx he
        subst hx he
        exact hq
      . rw [List.getElem?_eq_none (by simp [h2]; omega)] at hx
        cases hx
theorem zJP {k : Nat} (hk : 0 < k) : ∀ (es : List (List Value)), (∀ e ∈ es, e.length = k) -> ∀ j, es.flatten[j]? = (es[j / k]?).bind fun e => e[j % k]?
  | [],_,j=>by simp
  | e::es,he,j=>by
    have hl:=he e (by simp)
    rw [List.flatten_cons]
    by_cases hj:j<k
    . rw [List.getElem?_append_left (by omega), Nat.div_eq_of_lt hj, Nat.mod_eq_of_lt hj]
      rfl
    . rw [List.getElem?_append_right (by omega), hl, zJP hk es (fun e h => he e (by simp [h])) (j - k)]
      have h1:j / k=(j-k) / k+1:=by
        rw [Nat.div_eq_sub_div hk (by omega)]
      have h2:j % k=(j-k) % k:=by
        rw [Nat.mod_eq_sub_mod (by omega)]
      rw [h1,h2]
      rfl
theorem zFP {k : Nat} : ∀ (es : List (List Value)), (∀ e ∈ es, e.length = k) -> es.flatten.length = es.length * k
  | [],_=>by simp
  | e::es,he=>by
    rw [List.flatten_cons,List.length_append,zFP es (fun e h=>he e (by simp [h])),he e (by simp),List.length_cons,Nat.add_mul,Nat.one_mul,Nat.add_comm]
theorem zLD {α:Type} {t e:TypeId} {k:Nat} {R:Rel α} (ht:P.underlying t=some (.slice e)) (hC:P.cellsOf e=k) (hk:0<k) (hR:zNM P e R):zNM P t (slR k R):=fun enc w fuel cs x h=>by
  rcases open_slice ht h with ⟨rfl,_⟩ | ⟨a,len,cap,m,n,D,Pl,rfl,_,hl,hm,hmm,_,hi⟩
  . exact ⟨[],none,0,0,[],rfl,rfl,Nat.le_refl _,Nat.zero_le _,rfl,⟨by simp,fun h=>absurd h (by omega)⟩,fun i x e h=>by simp at h⟩
  . simp only [if_true] at hmm
    subst hmm
    rw [hC] at hi
    obtain ⟨es,l,h1,h2,h3⟩:=zL5 len (fun i cs x=>cs.length=k/\(∀ j,j<k->w.cell? ((a.add (i*k)).add j)=cs[j]?)/\R w w.heap.size x cs) fun i hlt=>by
      obtain ⟨cs',hc,ht'⟩:=hi i (by omega)
      obtain ⟨_,hcl,hat⟩:=World.cells?_some hc
      obtain ⟨x,hx⟩:=hR enc w n cs' _ ht'
      exact ⟨cs',x,hcl,hat,hx⟩
    have hall:∀ e ∈ es,e.length=k:=fun e he=>by
      obtain ⟨i,hi',he'⟩:=List.getElem_of_mem he
      exact (h3 i (l[i]'(by omega)) e (List.getElem?_eq_getElem (by omega)) (by rw [<- he'];exact List.getElem?_eq_getElem hi')).1
    refine ⟨l,some a,len,m,es,rfl,h2.symm,hl,hm,by omega,⟨by rw [zFP es hall,h1],fun hn=>?_⟩,fun i x e hx he=>⟨(h3 i x e hx he).1,(h3 i x e hx he).2.2⟩⟩
    obtain ⟨b,off,spot⟩:=a
    have key:∀ j u,es.flatten[j]? = some u->w.cell? ((⟨b,off,spot⟩:Addr).add j)=some u:=by
      intro j u hu
      rw [zJP hk es hall] at hu
      have hjl:j / k<es.length:=by
        rcases Nat.lt_or_ge (j / k) es.length with h | h
        . exact h
        . rw [List.getElem?_eq_none h] at hu
          simp at hu
      rw [List.getElem?_eq_getElem hjl] at hu
      have hq:=h3 (j / k) (l[j / k]'(by omega)) es[j / k] (List.getElem?_eq_getElem (by omega)) (List.getElem?_eq_getElem hjl)
      have hm:=hq.2.1 (j % k) (Nat.mod_lt _ hk)
      rw [Go.Deep.add_add] at hm
      rw [Nat.mul_comm,Nat.div_add_mod] at hm
      rw [hm]
      exact hu
    have h0:∃ u,es.flatten[0]? = some u:=by
      have hlen:=zFP es hall
      have:0<es.flatten.length:=by rw [hlen,h1];exact Nat.mul_pos hn hk
      exact ⟨_,List.getElem?_eq_getElem this⟩
    obtain ⟨u0,hu0⟩:=h0
    have hc0:=key 0 u0 hu0
    have hspot:spot=none:=by simpa [Addr.add] using World.cell?_spot hc0
    subst hspot
    refine ⟨b,off,rfl,by simpa [Addr.add] using zON hc0,fun j u hu=>?_⟩
    have:=key j u hu
    unfold Addr.add at this
    split at this
    . next hj=>subst hj;simpa using this
    . exact this
theorem zMj {α : Type} {H : Type} {enc : TypeId × Value -> H} {r : Reach} {b0 : Nat} {w : World} {t e : TypeId} {k : Nat} {R : Rel α} {v : Value} {d : DataW H} {p : List MemPlace} (ht : P.underlying t = some (.slice e)) (ho : zNM P t (slR k R))
    (hv:Value.okWide P w r b0 t v) (h:DataW.Trod enc P w 0 (fun _=>true) true t v d p) :
    ∃ A n c l,v=.slice A n c/\slR k R w w.heap.size l [.slice A n c]:=by
  obtain ⟨A,n,c,rfl⟩:=okWide_slice ht hv
  obtain ⟨fuel,hf⟩:=h
  obtain ⟨l,hl⟩:=ho enc w fuel _ _ hf
  exact ⟨A,n,c,l,rfl,by simpa [Value.cells] using hl⟩
end
end Go.Proofs.YtmgiijdejigdhaaGreat
namespace Go.Proofs.YtmgiijdejigdhaaGreat
theorem own:ownKnob Tryz.prog.godebug=none:=by kernel_rfl
theorem zOI:laidOutB Tryz.prog=true:=by kernel_rfl
abbrev DK:Prop:=True
end Go.Proofs.YtmgiijdejigdhaaGreat
namespace Go.Proofs.YtmgiijdejigdhaaGreat
open Go.RowKit
set_option linter.unusedVariables false
abbrev DLe (w w':World):Prop:=DK->w.drawn<=w'.drawn
theorem DLe.refl (w:World):DLe w w:=fun _=>Nat.le_refl _
theorem DLe.trans {a b c:World} (h:DLe a b) (k:DLe b c):DLe a c:=fun d=>Nat.le_trans (h d) (k d)
structure Fr (w w' : World) : Prop extends Below w.heap.size w w' where
  drawn:DLe w w'
theorem Fr.cell {w w':World} (h:Fr w w') {p:Addr} (hp:p.block<w.heap.size):w'.cell? p=w.cell? p:=h.toBelow.cell hp
theorem Fr.refl (w:World):Fr w w:=⟨Below.refl _ _,DLe.refl _⟩
theorem Fr.trans {a b c:World} (h:Fr a b) (k:Fr b c):Fr a c:=⟨Below.trans h.toBelow (k.toBelow.mono h.size),DLe.trans h.drawn k.drawn⟩
theorem Fr.under {B:Nat} {a b c:World} (h:Below B a b) (k:Fr b c) (hB:B<=b.heap.size):Below B a c:=h.trans (k.toBelow.mono hB)
theorem Fr.alloc (w:World) (o:Obj):Fr w (w.alloc o):=⟨(Below.refl _ _).alloc (Nat.le_refl _) o,DLe.refl _⟩
theorem Fr.drew (w:World):Fr w { w with drawn:=w.drawn+1 }:=⟨⟨rfl,rfl,rfl,Nat.le_refl _,fun _ _=>rfl⟩,fun _=>Nat.le_succ _⟩
abbrev Av:=Nat->Nat->Prop
abbrev av0:Av:=fun _ _=>False
def AvOK (A:Av) (w:World):Prop:=∀ b o,A b o->b<w.heap.size
theorem AvOK.fr {A:Av} {w w':World} (h:AvOK A w) (hf:w.heap.size<=w'.heap.size):AvOK A w':=fun b o hb=>Nat.lt_of_lt_of_le (h b o hb) hf
structure Stp (A A' : Av) (w w' : World) : Prop where
  size:w.heap.size<=w'.heap.size
  cell:∀ b o v,w.cell? ⟨b,o,none⟩=some v->¬ A b o->w'.cell? ⟨b,o,none⟩=some v
  av:∀ b o,b<w.heap.size->A' b o->A b o
theorem zEV {w:World} {b o:Nat} {s:Option Nat} {v:Value} (h:w.cell? ⟨b,o,s⟩=some v):b<w.heap.size:=by
  rcases Nat.lt_or_ge b w.heap.size with hlt | hge
  . exact hlt
  . unfold World.cell? at h
    rw [Array.getElem?_eq_none hge] at h
    cases h
theorem Fr.stp {w w':World} (A:Av) (h:Fr w w'):Stp A A w w':=
  ⟨h.size,fun b o v hv _=>(h.cell (p:=⟨b,o,none⟩) (zEV hv)).trans hv,fun _ _ _ h=>h⟩
theorem Stp.trans {A A' A'':Av} {a b c:World} (h:Stp A A' a b) (k:Stp A' A'' b c):Stp A A'' a c:=
  ⟨Nat.le_trans h.size k.size, fun x o v hv hn => k.cell x o v (h.cell x o v hv hn) fun hA => hn (h.av x o (zEV hv) hA),
   fun x o hx hA=>h.av x o hx (k.av x o (Nat.lt_of_lt_of_le hx h.size) hA)⟩
structure Enc (α : Type) where
  size:Nat
  agg:Bool
  rep:Av->World->α->List Value->Prop
  len:∀ {A w x cs},rep A w x cs->cs.length=size
  one:agg=false->size=1
  oc:∀ {A w x cs},rep A w x cs->∀ c ∈ cs,c.oneCell'=true
  stp:∀ {A A' w w' x cs},Stp A A' w w'->rep A w x cs->rep A' w' x cs
section
variable {α β:Type}
def Enc.val (E:Enc α) (cs:List Value):Value:=if E.agg then .agg cs.toArray else cs.headD undef
def Rep (E:Enc α) (A:Av) (w:World) (v:Value) (x:α):Prop:=∃ cs,v=E.val cs/\E.rep A w x cs
def PAt (E:Enc α) (A:Av) (w:World) (b o:Nat) (x:α):Prop:=∃ cs,E.rep A w x cs/\∀ j u,cs[j]? = some u->w.cell? ⟨b,o+j,none⟩=some u
def QAt (E:Enc α) (A:Av) (w:World) (b o:Nat) (x:α):Prop:=PAt E A w b o x/\∀ j,j<E.size->¬ A b (o+j)
def PRep (E:Enc α) (A:Av) (w:World) (v:Value) (x:α):Prop:=∃ b o,v=.pointer (some ⟨b,o,none⟩)/\b<w.heap.size/\PAt E A w b o x
def QRep (E:Enc α) (A:Av) (w:World) (v:Value) (x:α):Prop:=∃ b o,v=.pointer (some ⟨b,o,none⟩)/\b<w.heap.size/\QAt E A w b o x
theorem Rep.stp {E:Enc α} {A A':Av} {w w':World} {v:Value} {x:α} (h:Rep E A w v x) (hs:Stp A A' w w'):Rep E A' w' v x:=
  let ⟨cs,h1,h2⟩:=h;⟨cs,h1,E.stp hs h2⟩
theorem Rep.fr {E:Enc α} {A:Av} {w w':World} {v:Value} {x:α} (h:Rep E A w v x) (hs:Fr w w'):Rep E A w' v x:=h.stp (hs.stp A)
theorem PAt.fr {E:Enc α} {A:Av} {w w':World} {b o:Nat} {x:α} (h:PAt E A w b o x) (hb:b<w.heap.size) (hs:Fr w w'):PAt E A w' b o x:=
  let ⟨cs,h1,h2⟩:=h;⟨cs,E.stp (hs.stp A) h1,fun j u hu=>(hs.cell (p:=⟨b,o+j,none⟩) hb).trans (h2 j u hu)⟩
theorem PRep.fr {E:Enc α} {A:Av} {w w':World} {v:Value} {x:α} (h:PRep E A w v x) (hs:Fr w w'):PRep E A w' v x:=
  let ⟨b,o,h1,h2,h3⟩:=h;⟨b,o,h1,Nat.lt_of_lt_of_le h2 hs.size,h3.fr h2 hs⟩
theorem QAt.stp {E:Enc α} {A A':Av} {w w':World} {b o:Nat} {x:α} (h:QAt E A w b o x) (hb:b<w.heap.size) (hs:Stp A A' w w'):QAt E A' w' b o x:=by
  obtain ⟨⟨cs,h1,h2⟩,h3⟩:=h
  refine ⟨⟨cs,E.stp hs h1,fun j u hu=>hs.cell _ _ _ (h2 j u hu) (h3 j ?_)⟩,fun j hj hA=>h3 j hj (hs.av _ _ hb hA)⟩
  rw [<- E.len h1]
  exact (List.getElem?_eq_some_iff.1 hu).1
theorem QRep.stp {E:Enc α} {A A':Av} {w w':World} {v:Value} {x:α} (h:QRep E A w v x) (hs:Stp A A' w w'):QRep E A' w' v x:=
  let ⟨b,o,h1,h2,h3⟩:=h;⟨b,o,h1,Nat.lt_of_lt_of_le h2 hs.size,h3.stp h2 hs⟩
theorem QRep.ptr {E:Enc α} {A:Av} {w:World} {v:Value} {x:α} (h:QRep E A w v x):PRep E A w v x:=let ⟨b,o,h1,h2,h3,_⟩:=h;⟨b,o,h1,h2,h3⟩
def eInt (k : IntKind) : Enc Int where
  size:=1
  agg:=false
  rep:=fun _ _ x cs=>cs = [.int k x]
  len:=by intro A w x cs h;subst h;rfl
  one:=fun _=>rfl
  oc:=by intro A w x cs h c hc;subst h;simp at hc;subst hc;rfl
  stp:=fun _ h=>h
def zOt : Enc Bool where
  size:=1
  agg:=false
  rep:=fun _ _ x cs=>cs = [.bool x]
  len:=by intro A w x cs h;subst h;rfl
  one:=fun _=>rfl
  oc:=by intro A w x cs h c hc;subst h;simp at hc;subst hc;rfl
  stp:=fun _ h=>h
def eStr : Enc (List UInt8) where
  size:=1
  agg:=false
  rep:=fun _ _ x cs=>∃ s:ByteArray,cs = [.string s]/\s.data.toList=x/\s.size<=maxLen
  len:=by rintro A w x cs ⟨s,rfl,_⟩;rfl
  one:=fun _=>rfl
  oc:=by rintro A w x cs ⟨s,rfl,_⟩ c hc;simp at hc;subst hc;rfl
  stp:=fun _ h=>h
def eSl (E : Enc α) : Enc (List α) where
  size:=1
  agg:=false
  rep := fun A w xs cs => ∃ (a : Option Addr) (n c : Nat), cs = [.slice a n c] /\ xs.length = n /\ n <= c /\ c <= maxLen /\
    (0<n->∃ b off,a=some ⟨b,off,none⟩/\b<w.heap.size/\∀ i x,xs[i]? = some x->QAt E A w b (off+i*E.size) x)
  len:=by rintro A w x cs ⟨a,n,c,rfl,_⟩;rfl
  one:=fun _=>rfl
  oc:=by rintro A w x cs ⟨a,n,c,rfl,_⟩ c hc;simp at hc;subst hc;rfl
  stp:=by
    rintro A A' w w' x cs hs ⟨a,n,c,rfl,h1,h2,h3,h4⟩
    refine ⟨a,n,c,rfl,h1,h2,h3,fun hn=>?_⟩
    obtain ⟨b,off,e,hb,h⟩:=h4 hn
    exact ⟨b,off,e,Nat.lt_of_lt_of_le hb hs.size,fun i y hy=>(h i y hy).stp hb hs⟩
def ePr (E : Enc α) (F : Enc β) : Enc (α × β) where
  size:=E.size+F.size
  agg:=true
  rep:=fun A w x cs=>∃ c d,cs=c++d/\E.rep A w x.1 c/\F.rep A w x.2 d
  len:=by rintro A w x cs ⟨c,d,rfl,h1,h2⟩;rw [List.length_append,E.len h1,F.len h2]
  one:=fun h=>by cases h
  oc:=by
    rintro A w x cs ⟨c,d,rfl,h1,h2⟩ v hv
    rcases List.mem_append.1 hv with h | h
    . exact E.oc h1 v h
    . exact F.oc h2 v h
  stp:=by
    rintro A A' w w' x cs hs ⟨c,d,rfl,h1,h2⟩
    exact ⟨c,d,rfl,E.stp hs h1,F.stp hs h2⟩
structure Fld (E : Enc α) (off : Nat) (F : Enc β) (p : α -> β) : Prop where
  le:off+F.size<=E.size
  get:∀ {A w x cs},E.rep A w x cs->F.rep A w (p x) ((cs.drop off).take F.size)
theorem Fld.id (E:Enc α):Fld E 0 E fun x=>x:=⟨by simp,fun {A w x cs} h=>by rw [List.drop_zero,List.take_of_length_le (by rw [E.len h];exact Nat.le_refl _)];exact h⟩
theorem Fld.fst {E:Enc α} {F:Enc β}:Fld (ePr E F) 0 E Prod.fst:=
  ⟨by simp [ePr], by rintro A w x cs ⟨c, d, rfl, h1, h2⟩; rw [List.drop_zero, <- E.len h1, List.take_left']; · exact h1
                     . rfl⟩
theorem Fld.snd {γ:Type} {E:Enc α} {F:Enc β} {G:Enc γ} {o:Nat} {p:β->γ} (h:Fld F o G p):Fld (ePr E F) (E.size+o) G fun x=>p x.2:=
  ⟨by have := h.le; simp [ePr]; omega, by
    rintro A w x cs ⟨c,d,rfl,h1,h2⟩
    have e:(c++d).drop (E.size+o)=d.drop o:=by
      rw [<- E.len h1,List.drop_append,List.drop_eq_nil_of_le (by omega),List.nil_append]
      congr 1
      omega
    rw [e]
    exact h.get h2⟩
end
abbrev Reg:=Nat->Value
def zAL (R : Reg) : Operand -> Value
  | .tmp t=>R t
  | .const v=>v
  | .global g=>.pointer (some ⟨g,0,none⟩)
  | .func f=>.func (.func f) #[] #[]
def upd (R:Reg) (d:Nat) (v:Value):Reg:=fun t=>bif Nat.beq t d then v else R t
def updO (R : Reg) : Option Nat -> Value -> Reg
  | some d,v=>upd R d v
  | none,_=>R
theorem zJh {a b:Nat} (h:a ≠ b):Nat.beq a b=false:=by
  cases hb:Nat.beq a b
  . rfl
  . exact absurd (Nat.eq_of_beq_eq_true hb) h
theorem zHD {a b:Nat} (h:b<=a):Nat.blt a b=false:=by
  cases hb:Nat.blt a b
  . rfl
  . have := Nat.blt_eq ▸ hb
    omega
theorem zHN (R:Reg) (d:Nat) (v:Value):upd R d v d=v:=by simp [upd]
theorem zKC (R:Reg) (d:Nat) (v:Value) (t:Nat) (h:t ≠ d):upd R d v t=R t:=by
  have:Nat.beq t d=false:=zJh h
  simp [upd,this]
def OpK (P : Program) (K : Value -> World -> Prop) : Result Next -> Prop
  | .ok (.value v) w'=>K v w'
  | .ok .skip w'=>K undef w'
  | .ok (.enter f args) w'=>Calls P f args w' fun e w''=>∃ v,e=.returned v/\K v w''
  | _=>False
theorem OpK.elim {P : Program} {K : Value -> World -> Prop} {C : Result Next -> Prop} {r : Result Next} (h : OpK P K r) (c1 : ∀ v w', K v w' -> C (.ok (.value v) w')) (c2 : ∀ w', K undef w' -> C (.ok .skip w'))
    (c3:∀ f args w',(Calls P f args w' fun e w''=>∃ v,e=.returned v/\K v w'')->C (.ok (.enter f args) w')):C r:=by
  cases r with
  | ok n w'=>
    cases n
    case value v=>exact c1 _ _ h
    case skip=>exact c2 _ h
    case enter f args=>exact c3 _ _ _ h
    all_goals exact False.elim h
  | halt x w'=>exact False.elim h
def OpR (P:Program) (o:Oper) (R:Reg) (w:World) (K:Value->World->Prop):Prop:=OpK P K ((execOp (zAL R) o).run P w)
theorem OpR.mono {P:Program} {o:Oper} {R:Reg} {w:World} {K K':Value->World->Prop} (h:OpR P o R w K) (hk:∀ v w',K v w'->K' v w'):OpR P o R w K':=
  OpK.elim (C:=OpK P K') h (fun v w' h=>hk v w' h) (fun w' h=>hk _ _ h) fun f args w' h=>Calls.mono h fun e w'' ⟨v,he,hK⟩=>⟨v,he,hk _ _ hK⟩
def regs (a:Act):Reg:=fun t=>a.tmps.getD t undef
theorem zHW (a:Act):a.eval=zAL (regs a):=by
  funext x
  cases x <;> rfl
theorem zGd (a:Act) (dst:Option Nat) (v:Value) (h:∀ d,dst=some d->d<a.tmps.size):regs (a.put dst v)=updO (regs a) dst v:=by
  cases dst with
  | none=>rfl
  | some d=>
    funext t
    have hd:=h d rfl
    by_cases e:t=d
    . subst e
      simp [regs,Act.put,updO,upd,hd]
    . have : Nat.beq t d = false := zJh e
      simp [regs,Act.put,updO,upd,this,Array.getElem?_setIfInBounds_ne (Ne.symm e)]
theorem zGc (a:Act) (dst:Option Nat) (v:Value):(a.put dst v).tmps.size=a.tmps.size:=by
  cases dst <;> simp [Act.put]
theorem zEl (a:Act) (dst:Option Nat) (v:Value):(a.put dst v).defers=a.defers:=by
  cases dst <;> rfl
def Pl (n:Nat) (a:Act):Prop:=a.defers = []/\n<=a.tmps.size
def PQ (n:Nat) (Q:Exit->Reg->World->Prop):Exit->Act->World->Prop:=fun e a w=>Pl n a/\Q e (regs a) w
def HT (P:Program) (n:Nat) (c:Code) (R:Reg) (w:World) (Q:Exit->Reg->World->Prop):Prop:=
  ∀ a:Act,Pl n a->regs a=R->c.wp P (PQ n Q) a w
section
variable {P:Program} {n:Nat} {R:Reg} {w:World} {Q:Exit->Reg->World->Prop}
theorem HT.mono {c:Code} {Q':Exit->Reg->World->Prop} (h:HT P n c R w Q) (hq:∀ e R w,Q e R w->Q' e R w):HT P n c R w Q':=
  fun a ha hR=>wp_mono (h a ha hR) fun e a' w' ⟨h1,h2⟩=>⟨h1,hq _ _ _ h2⟩
def thn (next : Reg -> World -> Prop) (Q : Exit -> Reg -> World -> Prop) : Exit -> Reg -> World -> Prop
  | .normal,R,w=>next R w
  | e,R,w=>Q e R w
def blk (id : Nat) (Q : Exit -> Reg -> World -> Prop) : Exit -> Reg -> World -> Prop
  | .exit id',R,w=>bif Nat.beq id' id then Q .normal R w else Q (.exit id') R w
  | e,R,w=>Q e R w
theorem zPQ {x y:Code} (h:HT P n x R w (thn (fun R' w'=>HT P n y R' w' Q) Q)):HT P n (.seq x y) R w Q:=fun a ha hR=>
  wp_seq (wp_mono (h a ha hR) fun e a' w' ⟨h1,h2⟩=>by
    cases e <;> first | exact h2 a' h1 rfl | exact ⟨h1,h2⟩)
theorem zPK {x y:Code} (M:Reg->World->Prop) (h:HT P n x R w (thn M Q)) (k:∀ R' w',M R' w'->HT P n y R' w' Q):HT P n (.seq x y) R w Q:=
  zPQ (h.mono fun e R' w' hq=>by cases e <;> first | exact k _ _ hq | exact hq)
theorem HT.skip (h:Q .normal R w):HT P n .skip R w Q:=fun a ha hR=>wp_skip ⟨ha,hR ▸ h⟩
theorem HT.ret (h:Q .ret R w):HT P n .ret R w Q:=fun a ha hR=>wp_ret ⟨ha,hR ▸ h⟩
theorem zPO {id:Nat} (h:Q (.exit id) R w):HT P n (.exit id) R w Q:=fun a ha hR=>wp_exit ⟨ha,hR ▸ h⟩
theorem zPJ {c:Operand} {x y:Code} (b:Bool) (hb:zAL R c=.bool b) (h:b=true->HT P n x R w Q) (h':b=false->HT P n y R w Q):HT P n (.cond c x y) R w Q:=fun a ha hR=>by
  have:a.eval c=.bool b:=by rw [zHW,hR,hb]
  exact wp_cond_split this (fun e=>h e a ha hR) (fun e=>h' e a ha hR)
theorem HT.block {id:Nat} {c:Code} (h:HT P n c R w (blk id Q)):HT P n (.block id c) R w Q:=fun a ha hR=>
  wp_block (wp_mono (h a ha hR) fun e a' w' ⟨h1,h2⟩=>by
    cases e <;> first
      | exact ⟨h1,h2⟩
      | (simp only [Exit.inBlock]
         simp only [blk] at h2
         split
         . rename_i h;subst h;simp at h2;exact ⟨h1,h2⟩
         . rename_i h;rw [zJh h] at h2;exact ⟨h1,h2⟩))
theorem zPP {c:Code} (I:Nat->Reg->World->Prop) (k:Nat) (h:I k R w) (round:∀ k R w,I k R w->HT P n c R w (thn (fun R' w'=>∃ k',k'<k/\I k' R' w') Q)):HT P n (.loop c) R w Q:=fun a ha hR=>
  wp_loop_ghost (fun k a w=>Pl n a/\I k (regs a) w) k ⟨ha,hR ▸ h⟩ fun k a w ⟨ha,hI⟩=>
    wp_mono (round k _ w hI a ha rfl) fun e a' w' ⟨h1,h2⟩=>by
      cases e <;> first
        | exact ⟨h1,h2⟩
        | (obtain ⟨k', hk, hI'⟩ := h2
           exact ⟨k',hk,h1,hI'⟩)
end
def zHY {α:Type} (E:Enc α) (A:Av) (w:World) (b:Nat) (T:TypeId) (x:α):Prop:=∃ cs,Blk w b T cs.toArray/\E.rep A w x cs
section
variable {α:Type} {E:Enc α} {A:Av} {w w':World} {b:Nat} {T:TypeId} {x:α}
theorem zHY.lt (h:zHY E A w b T x):b<w.heap.size:=let ⟨_,h1,_⟩:=h;h1.lt
theorem zHY.fr (h:zHY E A w b T x) (hf:Fr w w'):zHY E A w' b T x:=let ⟨cs,h1,h2⟩:=h;⟨cs,h1.below hf.toBelow h1.lt,E.stp (hf.stp A) h2⟩
theorem zHY.at (h:zHY E A w b T x):PAt E A w b 0 x:=by
  obtain ⟨cs,h1,h2⟩:=h
  refine ⟨cs,h2,fun j u hu=>?_⟩
  rw [h1.cell,Nat.zero_add]
  simpa using hu
theorem zHY.ptr (h:zHY E A w b T x) {v:Value} (hv:v=.pointer (some ⟨b,0,none⟩)):PRep E A w v x:=⟨b,0,hv,h.lt,h.at⟩
theorem Rep.cells {v:Value} (h:Rep E A w v x):E.rep A w x v.cells.toList:=by
  obtain ⟨cs,rfl,h⟩:=h
  have hl:=E.len h
  cases ha:E.agg with
  | true=>simpa [Enc.val,ha,Value.cells] using h
  | false=>
    have h1:=E.one ha
    rw [h1] at hl
    match cs,hl,h with
    | [c],_,h=>
      have h2:=E.oc h c (by simp)
      have:(Enc.val E [c]).cells = #[c]:=by
        simp only [Enc.val,ha]
        cases c <;> first | rfl | cases h2
      rw [this]
      exact h
theorem zHY.new {v:Value} (h:Rep E A w v x):zHY E A (w.alloc (.cells v.cells T)) w.heap.size T x:=by
  refine ⟨v.cells.toList,?_,E.stp ((Fr.alloc w _).stp A) h.cells⟩
  have:=Blk.new w T v.cells
  simpa using this
end
inductive Fact : Type 1
  | any
  | raw (u:Value)
  | rep {α:Type} (E:Enc α) (A:Av) (x:α)
  | ptr {α:Type} (E:Enc α) (A:Av) (x:α)
  | qtr {α:Type} (E:Enc α) (A:Av) (x:α)
  | tup2 (f g:Fact)
  | tup3 (f g h:Fact)
  | tup4 (f g h k:Fact)
  | box {α:Type} (B:Nat) (T:TypeId) (E:Enc α) (A:Av) (x:α)
def Fact.ok : Fact -> Value -> World -> Prop
  | .any,_,_=>True
  | .raw u,v,_=>v=u
  | .rep E A x,v,w=>Rep E A w v x
  | .ptr E A x,v,w=>PRep E A w v x
  | .qtr E A x,v,w=>QRep E A w v x
  | .tup2 f g,v,w=>∃ a b,v=.tuple #[a,b]/\f.ok a w/\g.ok b w
  | .tup3 f g h,v,w=>∃ a b c,v=.tuple #[a,b,c]/\f.ok a w/\g.ok b w/\h.ok c w
  | .tup4 f g h k,v,w=>∃ a b c d,v=.tuple #[a,b,c,d]/\f.ok a w/\g.ok b w/\h.ok c w/\k.ok d w
  | .box B T E A x,v,w=>∃ b,v=.pointer (some ⟨b,0,none⟩)/\B<=b/\zHY E A w b T x
theorem Fact.fr {f:Fact} {v:Value} {w w':World} (h:f.ok v w) (hf:Fr w w'):f.ok v w':=by
  induction f generalizing v with
  | any=>trivial
  | raw u=>exact h
  | rep E A x=>exact Rep.fr h hf
  | ptr E A x=>exact PRep.fr h hf
  | qtr E A x=>exact QRep.stp h (hf.stp A)
  | tup2 f g hf' hg=>obtain ⟨a,b,h1,h2,h3⟩:=h;exact ⟨a,b,h1,hf' h2,hg h3⟩
  | tup3 f g k hf' hg hk=>obtain ⟨a,b,c,h1,h2,h3,h4⟩:=h;exact ⟨a,b,c,h1,hf' h2,hg h3,hk h4⟩
  | tup4 f g k l hf' hg hk hl=>obtain ⟨a,b,c,d,h1,h2,h3,h4,h5⟩:=h;exact ⟨a,b,c,d,h1,hf' h2,hg h3,hk h4,hl h5⟩
  | box B T E A x=>obtain ⟨b,h1,h2,h3⟩:=h;exact ⟨b,h1,h2,h3.fr hf⟩
structure Ent where
  o:Oper
  g:Bool
  f:Fact
def Ent.isDst (x:Ent) (t:Nat):Bool:=match x.o.dst with | some d=>Nat.beq d t | none=>false
def bnd (e:Edge):Bool:=Region.binds .any e
def zGi (i t : Nat) : Nat -> List Ent -> Bool
  | _,[]=>true
  | j,x::l=>(!x.isDst t || Nat.beq j i || x.o.after.toList.any (fun e=>bnd e&&Nat.beq e.on i))&&zGi i t (j+1) l
def zHy (l:List Ent) (i t:Nat):Bool:=zGi i t 0 l
def zJ5 (l:List Ent) (t:Nat):Bool:=l.all fun x=>!x.isDst t
def Deps (l:List Ent) (R:Reg) (w:World) (es:List Edge):Prop:=
  ∀ (i:Nat) e x d,es[i]? = some e->bnd e=true->l[e.on]? = some x->x.o.dst=some d->x.g=true->x.f.ok (R d) w
def zNk (l : List Ent) (x : Ent) : Prop := match x.o.guard with
  | none=>x.g=true
  | some (j,want)=>∃ y c d,l[j]? = some y/\y.o.dst=some d/\y.f=.raw (.bool c)/\x.g=(y.g&&(c==want))/\x.o.after.any (fun e=>bnd e&&Nat.beq e.on j)=true
def Obl (P:Program) (l:List Ent) (R:Reg) (w:World) (i:Nat) (x:Ent):Prop:=
  zNk l x/\(x.g=true->∀ R' w',Fr w w'->(∀ t,zHy l i t=true->R' t=R t)->Deps l R' w' x.o.after.toList->OpR P x.o R' w' fun v w''=>x.f.ok v w''/\Fr w' w'')
def Obls (P : Program) (l : List Ent) (R : Reg) (w : World) : Nat -> List Ent -> Prop
  | _,[]=>True
  | i,x::r=>Obl P l R w i x/\Obls P l R w (i+1) r
def zKx (R:Reg) (w:World) (l:List Ent):Prop:=∀ (i:Nat) x d,l[i]? = some x->x.o.dst=some d->x.g=true->x.f.ok (R d) w
def seqR (P : Program) : List Oper -> Reg -> World -> (Reg -> World -> Prop) -> Prop
  | [],R,w,K=>K R w
  | o::os,R,w,K=>o.guard=none/\OpR P o R w fun v w'=>seqR P os (updO R o.dst v) w' K
theorem Obls.at {P : Program} {l : List Ent} {R : Reg} {w : World} : ∀ (r : List Ent) (k : Nat), Obls P l R w k r -> ∀ i x, r[i]? = some x -> Obl P l R w (k + i) x
  | [],_,_,i,x,hx=>by simp at hx
  | y::r,k,h,0,x,hx=>by simp at hx;subst hx;exact h.1
  | y::r,k,h,i+1,x,hx=>by
    have:=Obls.at r (k+1) h.2 i x (by simpa using hx)
    rwa [show k+1+i=k+(i+1) by omega] at this
structure Inv (l : List Ent) (R : Reg) (w : World) (done : Nat -> Bool) (R' : Reg) (w' : World) : Prop where
  fr:Fr w w'
  old:∀ t,(∀ i x,l[i]? = some x->x.isDst t=true->done i=false)->R' t=R t
  yes:∀ i x d,l[i]? = some x->done i=true->x.o.dst=some d->x.g=true->x.f.ok (R' d) w'
  no:∀ i x d,l[i]? = some x->done i=true->x.o.dst=some d->x.g=false->R' d=undef
def setB (f:Nat->Bool) (i:Nat):Nat->Bool:=fun j=>bif Nat.beq j i then true else f j
theorem zDo (f:Nat->Bool) (i:Nat):setB f i i=true:=by simp [setB]
theorem zDy (f:Nat->Bool) {i j:Nat} (h:j ≠ i):setB f i j=f j:=by
  have:Nat.beq j i=false:=zJh h
  simp [setB,this]
def zES : List Ent -> Bool
  | []=>true
  | x::r=>(match x.o.dst with | some d=>r.all (fun y=>!y.isDst d) | none=>true)&&zES r
theorem zK2 {x:Ent} {t:Nat}:x.isDst t=true ↔ x.o.dst=some t:=by
  unfold Ent.isDst
  cases x.o.dst <;> simp
theorem zFs : ∀ (l : List Ent), zES l = true -> ∀ (i j : Nat) x y d, l[i]? = some x -> l[j]? = some y -> x.o.dst = some d -> y.o.dst = some d -> i = j
  | [],_,i,_,x,_,_,hx,_,_,_=>by simp at hx
  | z::l,h,i,j,x,y,d,hx,hy,hd,hd'=>by
    simp only [zES,Bool.and_eq_true] at h
    obtain ⟨h1,h2⟩:=h
    have key:∀ (k:Nat) (y:Ent),l[k]? = some y->y.o.dst=some d->z.o.dst=some d->False:=fun k y hy hd' hz=>by
      rw [hz] at h1
      simp only [List.all_eq_true] at h1
      have:=h1 y (List.mem_of_getElem? hy)
      rw [Bool.not_eq_true',Bool.eq_false_iff] at this
      exact this (zK2.2 hd')
    cases i with
    | zero=>
      cases j with
      | zero=>rfl
      | succ j=>
        simp at hx hy
        subst hx
        exact (key j y hy hd' hd).elim
    | succ i=>
      cases j with
      | zero=>
        simp at hx hy
        subst hy
        exact (key i x hx hd hd').elim
      | succ j=>
        simp at hx hy
        rw [zFs l h2 i j x y d hx hy hd hd']
theorem Inv.put {l : List Ent} (hd : zES l = true) {R R' : Reg} {w w' w'' : World} {done : Nat -> Bool} (h : Inv l R w done R' w') {i : Nat} {x : Ent} (hx : l[i]? = some x)
    (hf:Fr w' w'') {v:Value} (hy:x.g=true->x.f.ok v w'') (hn:x.g=false->v=undef):Inv l R w (setB done i) (updO R' x.o.dst v) w'':=by
  refine ⟨h.fr.trans hf,fun t ht=>?_,fun j y d hj hdn hyd hg=>?_,fun j y d hj hdn hyd hg=>?_⟩
  . have h1:x.o.dst ≠ some t:=fun e=>by
      have:=ht i x hx (zK2.2 e)
      rw [zDo] at this
      cases this
    have h2:updO R' x.o.dst v t=R' t:=by
      cases hxd:x.o.dst with
      | none=>rfl
      | some d=>exact zKC _ _ _ _ fun e=>h1 (by rw [hxd,e])
    rw [h2]
    refine h.old t fun j y hj hy=>?_
    have:=ht j y hj hy
    by_cases e:j=i
    . subst e;rw [zDo] at this;cases this
    . rwa [zDy _ e] at this
  . by_cases e : j = i
    . subst e
      rw [hx] at hj
      injection hj with hj
      subst hj
      rw [hyd]
      show x.f.ok (upd R' d v d) w''
      rw [zHN]
      exact hy hg
    . rw [zDy _ e] at hdn
      have h1:updO R' x.o.dst v d=R' d:=by
        cases hxd:x.o.dst with
        | none=>rfl
        | some d'=>exact zKC _ _ _ _ fun e'=>e (zFs l hd j i y x d hj hx hyd (by rw [hxd,e']))
      rw [h1]
      exact Fact.fr (h.yes j y d hj hdn hyd hg) hf
  . by_cases e : j = i
    . subst e
      rw [hx] at hj
      injection hj with hj
      subst hj
      rw [hyd]
      show upd R' d v d=undef
      rw [zHN]
      exact hn hg
    . rw [zDy _ e] at hdn
      have h1:updO R' x.o.dst v d=R' d:=by
        cases hxd:x.o.dst with
        | none=>rfl
        | some d'=>exact zKC _ _ _ _ fun e'=>e (zFs l hd j i y x d hj hx hyd (by rw [hxd,e']))
      rw [h1]
      exact h.no j y d hj hdn hyd hg
theorem zGV {i t : Nat} : ∀ (l : List Ent) (k : Nat), zGi i t k l = true -> ∀ j x, l[j]? = some x -> x.isDst t = true -> k + j = i \/ ∃ e ∈ x.o.after, bnd e = true /\ e.on = i
  | [],_,_,j,x,hx,_=>by simp at hx
  | y::l,k,h,j,x,hx,ht=>by
    simp only [zGi,Bool.and_eq_true] at h
    cases j with
    | zero=>
      simp at hx
      subst hx
      rw [ht] at h
      simp at h
      rcases h.1 with h | h
      . left;omega
      . right
        obtain ⟨m,hm,h2,h3⟩:=h
        exact ⟨_,Array.getElem_mem hm,h2,h3⟩
    | succ j=>
      rcases zGV l (k+1) h.2 j x (by simpa using hx) ht with h | h
      . left;omega
      . right;exact h
theorem zOA {l:List Ent} {R:Reg} {w:World} (es:List Edge) (h:∀ e ∈ es,bnd e=true->∀ x d,l[e.on]? = some x->x.o.dst=some d->x.g=true->x.f.ok (R d) w):Deps l R w es:=
  fun i e x d he hb=>h e (List.mem_of_getElem? he) hb x d
theorem zLc {P : Program} {n : Nat} {l : List Ent} {ops : Array Oper} {R : Reg} {w : World} (hops : ∀ (i : Nat) x, l[i]? = some x -> ops[i]? = some x.o) (hd : zES l = true)
    (hsz:∀ (i:Nat) x d,l[i]? = some x->x.o.dst=some d->d<n) (ho:Obls P l R w 0 l) {done:Nat->Bool} {i:Nat} {x:Ent} (hx:l[i]? = some x) (hnd:done i=false)
    (hdep:∀ e ∈ x.o.after,bnd e=true->done e.on=true) (hlate:∀ (j:Nat) y,l[j]? = some y->(∃ e ∈ y.o.after,bnd e=true/\e.on=i)->done j=false)
    {a:Act} {w':World} (ha:Pl n a) (hI:Inv l R w done (regs a) w') {Q:Exit->Act->World->Prop} {K:Act->World->Prop}
    (hK:∀ a' w'',Pl n a'->Inv l R w (setB done i) (regs a') w''->K a' w''):wpOp P ops Q i K a w':=by
  unfold wpOp
  rw [hops i x hx]
  dsimp only
  have hob:=Obls.at l 0 ho i x hx
  rw [Nat.zero_add] at hob
  obtain ⟨hg,hob⟩:=hob
  have hput:∀ (v:Value) (w'':World),Fr w' w''->(x.g=true->x.f.ok v w'')->(x.g=false->v=undef)->K (a.put x.o.dst v) w'':=fun v w'' hf h1 h2=>by
    refine hK _ _ ⟨by rw [zEl];exact ha.1,by rw [zGc];exact ha.2⟩ ?_
    rw [zGd _ _ _ fun d hdd=>Nat.lt_of_lt_of_le (hsz i x d hx hdd) ha.2]
    exact hI.put hd hx hf h1 h2
  have hrun:x.g=true->x.o.wp P a w' K Q:=fun hgt=>by
    have h1:=hob hgt (regs a) w' hI.fr (fun t ht=>hI.old t fun j y hj hy=>by
      rcases zGV l 0 ht j y hj hy with h | h
      . rw [Nat.zero_add] at h
        rw [h]
        exact hnd
      . exact hlate j y hj h) (zOA _ fun e he hb y d hy hyd hyg=>hI.yes e.on y d hy (hdep e (Array.mem_toList_iff.1 he) hb) hyd hyg)
    unfold Oper.wp
    rw [zHW]
    refine OpK.elim (C:=Oper.upon P x.o a K Q) h1 (fun v w'' h1=>?_) (fun w'' h1=>?_) fun f args w'' h1=>?_
    . rw [Oper.upon_value]
      exact hput v w'' h1.2 (fun _=>h1.1) (fun h=>by simp [hgt] at h)
    . rw [Oper.upon_skip]
      exact hput undef w'' h1.2 (fun _=>h1.1) fun _=>rfl
    . rw [Oper.upon_enter]
      refine Calls.mono h1 ?_
      rintro e w3 ⟨v,rfl,hf,hfr⟩
      exact hput v w3 hfr (fun _=>hf) (fun h=>by simp [hgt] at h)
  unfold zNk at hg
  cases hgd:x.o.guard with
  | none=>
    rw [hgd] at hg
    rw [if_pos (by simp [Region.wanted,hgd])]
    exact .inl (hrun hg)
  | some p=>
    obtain ⟨j,want⟩:=p
    rw [hgd] at hg
    obtain ⟨y,c,d,hy,hyd,hyf,hxg,haf⟩:=hg
    simp only [Array.any_eq_true,Bool.and_eq_true] at haf
    obtain ⟨k,hk,hb,hon⟩:=haf
    have hdone:done j=true:=by
      have:=hdep x.o.after[k] (Array.getElem_mem hk) hb
      rwa [Nat.eq_of_beq_eq_true hon] at this
    have hyo:=hops j y hy
    have hyl:yielded ops a.tmps j=(match regs a d with | .bool b=>some b | _=>none):=by
      simp only [yielded,hyo,regs]
      simp [hyd]
      cases a.tmps[d]? with
      | none=>rfl
      | some v=>cases v <;> rfl
    cases hyg:y.g with
    | true=>
      have h1:=hI.yes j y d hy hdone hyd hyg
      rw [hyf] at h1
      have h2:regs a d=.bool c:=h1
      rw [h2] at hyl
      rw [hyg,Bool.true_and] at hxg
      by_cases hcw:c=want
      . subst hcw
        rw [if_pos (by simp [Region.wanted,hgd,hyl])]
        exact .inl (hrun (by rw [hxg];simp))
      . rw [if_neg (by simp [Region.wanted, hgd, hyl, hcw])]
        exact hput undef w' (Fr.refl _) (fun h=>by rw [hxg] at h;simp at h;exact (hcw h).elim) fun _=>rfl
    | false=>
      have h1:=hI.no j y d hy hdone hyd hyg
      rw [h1] at hyl
      rw [hyg,Bool.false_and] at hxg
      rw [if_neg (by simp [Region.wanted,hgd,hyl,undef])]
      exact hput undef w' (Fr.refl _) (fun h=>by rw [hxg] at h;cases h) fun _=>rfl
def zCW : Nat -> List Oper -> Bool
  | _,[]=>true
  | i,o::r=>o.after.all (fun e=>!bnd e || Nat.blt e.on i)&&zCW (i+1) r
def zEs : Nat -> List Oper -> Bool
  | _,[]=>true
  | i,o::r=>(List.range i).all (fun j=>o.after.any fun e=>bnd e&&Nat.beq e.on j)&&zEs (i+1) r
theorem zCY : ∀ (l : List Oper) (k : Nat), zCW k l = true -> ∀ i o, l[i]? = some o -> ∀ e ∈ o.after, bnd e = true -> e.on < k + i
  | [],_,_,i,o,h=>by simp at h
  | y::l,k,h,0,o,ho=>by
    simp at ho
    subst ho
    intro e he hb
    simp only [zCW,Bool.and_eq_true,Array.all_eq_true'] at h
    have:=h.1 e he
    simpa [hb] using this
  | y::l,k,h,i+1,o,ho=>by
    simp only [zCW,Bool.and_eq_true] at h
    intro e he hb
    have:=zCY l (k+1) h.2 i o (by simpa using ho) e he hb
    omega
theorem zFN : ∀ (l : List Oper) (k : Nat), zEs k l = true -> ∀ i o, l[i]? = some o -> ∀ j, j < k + i -> ∃ e ∈ o.after, bnd e = true /\ e.on = j
  | [],_,_,i,o,h=>by simp at h
  | y::l,k,h,0,o,ho=>by
    simp at ho
    subst ho
    intro j hj
    simp only [zEs,Bool.and_eq_true,List.all_eq_true] at h
    have:=h.1 j (List.mem_range.2 hj)
    simp only [Array.any_eq_true,Bool.and_eq_true] at this
    obtain ⟨m,hm,h1,h2⟩:=this
    exact ⟨_,Array.getElem_mem hm,h1,Nat.eq_of_beq_eq_true h2⟩
  | y::l,k,h,i+1,o,ho=>by
    simp only [zEs,Bool.and_eq_true] at h
    intro j hj
    exact zFN l (k+1) h.2 i o (by simpa using ho) j (by omega)
def zFM (n:Nat) (l:List Oper):Bool:=l.all fun o=>match o.dst with | some d=>Nat.blt d n | none=>true
theorem zEm {n:Nat} {l:List Oper} (h:zFM n l=true) {i:Nat} {o:Oper} {d:Nat} (ho:l[i]? = some o) (hd:o.dst=some d):d<n:=by
  simp only [zFM,List.all_eq_true] at h
  have:=h o (List.mem_of_getElem? ho)
  rw [hd] at this
  simpa using this
section
variable {P:Program} {n:Nat} {ops:Array Oper} {Q:Exit->Reg->World->Prop}
theorem zHF {o : Oper} {a : Act} {w : World} {K' : Value -> World -> Prop} {K : Act -> World -> Prop} {Q' : Exit -> Act -> World -> Prop} (hg : o.guard = none) (h : OpR P o (regs a) w K') (hk : ∀ v w', K' v w' -> K (a.put o.dst v) w') :
    ∀ i,ops[i]? = some o->wpOp P ops Q' i K a w:=by
  intro i hi
  unfold wpOp
  rw [hi]
  dsimp only
  rw [if_pos (by simp [Region.wanted,hg])]
  refine .inl ?_
  unfold Oper.wp
  rw [zHW]
  refine OpK.elim (C:=Oper.upon P o a K Q') h (fun v w' h=>?_) (fun w' h=>?_) fun f args w' h=>?_
  . rw [Oper.upon_value]
    exact hk _ _ h
  . rw [Oper.upon_skip]
    exact hk _ _ h
  . rw [Oper.upon_enter]
    refine Calls.mono h ?_
    rintro e w3 ⟨v,rfl,h3⟩
    exact hk _ _ h3
theorem zKU {K : Reg -> World -> Prop} (hK : ∀ R w, K R w -> Q .normal R w) : ∀ (tl : List Oper) (k : Nat), (∀ j, tl[j]? = ops[k + j]?) -> zFM n tl = true -> ∀ (a : Act) (w : World), Pl n a -> seqR P tl (regs a) w K ->
    wpOps P ops (PQ n Q) (List.range' k tl.length) a w
  | [],_,_,_,a,w,ha,h=>by
    simp only [List.length_nil,List.range'_zero,wpOps]
    exact ⟨ha,hK _ _ h⟩
  | o::tl,k,hops,hd,a,w,ha,h=>by
    rw [List.length_cons,List.range'_succ,wpOps_cons]
    obtain ⟨hg,h⟩:=h
    have h0:ops[k]? = some o:=by have:=hops 0;simpa using this.symm
    refine zHF hg h (fun v w' hs=>?_) k h0
    have hd2:∀ d,o.dst=some d->d<a.tmps.size:=fun d hdd=>Nat.lt_of_lt_of_le (zEm hd (i:=0) rfl hdd) ha.2
    refine zKU hK tl (k+1) (fun j=>?_) (by simp only [zFM,List.all_cons,Bool.and_eq_true] at hd;exact hd.2) _ _ ⟨by rw [zEl];exact ha.1,by rw [zGc];exact ha.2⟩ (by rw [zGd _ _ _ hd2];exact hs)
    have:=hops (j+1)
    rw [show k+1+j=k+(j+1) by omega,<- this]
    simp
def zNh (P:Program) (l:List Ent) (tl:List Oper) (R:Reg) (w:World) (K:Reg->World->Prop):Prop:=
  ∀ R' w',Fr w w'->(∀ t,zJ5 l t=true->R' t=R t)->zKx R' w' l->seqR P tl R' w' K
theorem zNI {R:Reg} {w:World} (l:List Ent) (h:∀ (i:Nat) x d,l[i]? = some x->x.o.dst=some d->x.g=true->x.f.ok (R d) w):zKx R w l:=h
theorem zKu {l:List Ent} {t:Nat} (h:zJ5 l t=true) {i:Nat} {x:Ent} (hx:l[i]? = some x):x.isDst t ≠ true:=by
  simp only [zJ5,List.all_eq_true] at h
  have:=h x (List.mem_of_getElem? hx)
  intro e
  rw [e] at this
  cases this
theorem Inv.after {l:List Ent} {tl:List Oper} {R:Reg} {w:World} {K:Reg->World->Prop} (h:zNh P l tl R w K) {done:Nat->Bool} (hd:∀ i,i<l.length->done i=true) {R':Reg} {w':World} (hI:Inv l R w done R' w'):seqR P tl R' w' K:=
  h R' w' hI.fr (fun t ht=>hI.old t fun i x hx hy=>(zKu ht hx hy).elim) (zNI l fun i x d hx hxd hg=>hI.yes i x d hx (hd i (List.getElem?_eq_some_iff.1 hx).1) hxd hg)
theorem zK7 {l:List Ent} {tl:List Oper} {i:Nat} {x:Ent} (hx:l[i]? = some x):(l.map (·.o)++tl)[i]? = some x.o:=by
  rw [List.getElem?_append_left (by rw [List.length_map];exact (List.getElem?_eq_some_iff.1 hx).1),List.getElem?_map,hx]
  rfl
theorem zPU {id : Nat} {l : List Ent} {tl : List Oper} {R : Reg} {w : World} (hb : zCW 0 (l.map (·.o)) = true) (hd : zES l = true) (hs : zFM n (l.map (·.o) ++ tl) = true)
    (ho:Obls P l R w 0 l) (ha:zNh P l tl R w (fun R w=>Q .normal R w)):HT P n (.region id (l.map (·.o)++tl).toArray false) R w Q:=fun a hpl hR=>by
  refine wp_region ?_
  have hsize:(l.map (·.o)++tl).toArray.size=l.length+tl.length:=by simp
  rw [hsize,List.range_eq_range',]
  have htl:zFM n tl=true:=by
    simp only [zFM,List.all_append,Bool.and_eq_true] at hs
    exact hs.2
  have key : ∀ m k, m + k = l.length -> ∀ (a : Act) (w' : World), Pl n a -> Inv l R w (fun i => Nat.blt i k) (regs a) w' ->
      wpOps P (l.map (·.o)++tl).toArray (PQ n Q) (List.range' k (m+tl.length)) a w':=by
    intro m
    induction m with
    | zero=>
      intro k hk a w' hpl hI
      rw [Nat.zero_add]
      refine zKU (fun _ _ h=>h) tl k (fun j=>?_) htl a w' hpl (hI.after ha fun i hi=>by simpa using (by omega:i<k))
      simp only [List.getElem?_toArray]
      rw [List.getElem?_append_right (by simp;omega)]
      congr 1
      simp
      omega
    | succ m ih=>
      intro k hk a w' hpl hI
      rw [show m+1+tl.length=(m+tl.length)+1 by omega,List.range'_succ,wpOps_cons]
      have hkl:k<l.length:=by omega
      have hx:l[k]? = some l[k]:=List.getElem?_eq_getElem hkl
      refine zLc (done:=fun i=>Nat.blt i k) (fun i x hx=>by simp only [List.getElem?_toArray];exact zK7 hx) hd (fun i x d hx hdd=>zEm hs (zK7 hx) hdd) ho hx (zHD (Nat.le_refl k)) (fun e he hbe=>?_) (fun j y hy hex=>?_) hpl hI (fun a' w'' hpl' hI'=>ih (k+1) (by omega) a' w'' hpl' ?_)
      . have := zCY _ 0 hb k _ (by rw [List.getElem?_map, hx]; rfl) e he hbe
        show Nat.blt e.on k=true
        simpa using this
      . obtain ⟨e, he, hbe, hon⟩ := hex
        have:=zCY _ 0 hb j _ (by rw [List.getElem?_map,hy];rfl) e he hbe
        exact zHD (by omega)
      . have:setB (fun i=>Nat.blt i k) k=fun i=>Nat.blt i (k+1):=by
          funext i
          by_cases e:i=k
          . subst e;rw [zDo];simp
          . rw [zDy _ e,Bool.eq_iff_iff];simp;omega
        rw [<- this]
        exact hI'
  refine key l.length 0 (by omega) a w hpl ⟨Fr.refl _,fun t _=>by rw [hR],fun i x d _ h=>by simp at h,fun i x d _ h=>by simp at h⟩
theorem zF5 {listed:Array Bool} {i:Nat} (h:i<listed.size) (d:Bool):(listed.setIfInBounds i true).getD i d=true:=by
  simp [h]
theorem zKJ {K : Reg -> World -> Prop} (hK : ∀ R w, K R w -> Q .normal R w) : ∀ (tl : List Oper) (k : Nat), ops.size = k + tl.length -> (∀ j, tl[j]? = ops[k + j]?) -> zFM n tl = true -> zEs k tl = true -> zCW k tl = true ->
    ∀ (listed:Array Bool) (a:Act) (w:World),listed.size=ops.size->(∀ j,j<ops.size->listed.getD j false=decide (j<k))->Pl n a->seqR P tl (regs a) w K ->
    wpAny P .any ops (PQ n Q) tl.length listed a w
  | [],k,hz,_,_,_,_,listed,a,w,hls,hl,ha,h=>by
    refine ⟨?_,ha,hK _ _ h⟩
    cases hr:Region.ready .any ops listed with
    | nil=>rfl
    | cons j r=>
      have hj:j ∈ Region.ready .any ops listed:=by rw [hr];simp
      obtain ⟨h1,o,ho,_⟩:=mem_ready.1 hj
      have hlt:j<ops.size:=(Array.getElem?_eq_some_iff.1 ho).1
      have h2:=hl j hlt
      rw [decide_eq_true (by simp at hz;omega)] at h2
      simp [hls ▸ hlt] at h1 h2
      rw [h1] at h2
      cases h2
  | o::tl,k,hz,hops,hd,hw,hb,listed,a,w,hls,hl,ha,h=>by
    have h0:ops[k]? = some o:=by have:=hops 0;simpa using this.symm
    have hkl:k<ops.size:=(Array.getElem?_eq_some_iff.1 h0).1
    have hopt:∀ j,(o::tl)[j]? = ops[k+j]?:=hops
    have honly:∀ j,j ∈ Region.ready .any ops listed->j=k:=fun j hj=>by
      obtain ⟨h1,o',ho',hall⟩:=mem_ready.1 hj
      have hlt:j<ops.size:=(Array.getElem?_eq_some_iff.1 ho').1
      have h2:=hl j hlt
      have hge:¬ j<k:=fun hlt'=>by
        rw [decide_eq_true hlt'] at h2
        simp [hls ▸ hlt] at h1 h2
        rw [h1] at h2
        cases h2
      rcases Nat.lt_or_ge k j with hkj | hkj
      . have h3 := hopt (j - k)
        rw [show k+(j-k)=j by omega,ho'] at h3
        obtain ⟨e,he,hbe,hon⟩:=zFN (o::tl) k hw (j-k) o' h3 k (by omega)
        have h4:=hall e he hbe
        rw [hon,hl k hkl,decide_eq_false (by omega)] at h4
        cases h4
      . omega
    have hmem:k ∈ Region.ready .any ops listed:=by
      refine mem_ready.2 ⟨?_,o,h0,fun e he hbe=>?_⟩
      . have := hl k hkl
        rw [decide_eq_false (by omega)] at this
        simp [hls ▸ hkl] at this ⊢
        exact this
      . have := zCY (o :: tl) k hb 0 o rfl e he hbe
        rw [hl e.on (by omega)]
        simpa using this
    refine ⟨fun hr=>(by rw [hr] at hmem;cases hmem),fun j hj=>?_⟩
    obtain rfl:=honly j hj
    obtain ⟨hg,h⟩:=h
    refine zHF hg h (fun v w' hs=>?_) j h0
    have hd2:∀ d,o.dst=some d->d<a.tmps.size:=fun d hdd=>Nat.lt_of_lt_of_le (zEm hd (i:=0) rfl hdd) ha.2
    simp only [zFM,List.all_cons,Bool.and_eq_true] at hd
    simp only [zEs,Bool.and_eq_true] at hw
    simp only [zCW,Bool.and_eq_true] at hb
    refine zKJ hK tl (j+1) (by simp at hz;omega) (fun i=>?_) hd.2 hw.2 hb.2 _ _ _ (by simpa using hls) (fun i hi=>?_) ⟨by rw [zEl];exact ha.1,by rw [zGc];exact ha.2⟩ (by rw [zGd _ _ _ hd2];exact hs)
    . have := hops (i + 1)
      rw [show j+1+i=j+(i+1) by omega,<- this]
      simp
    . by_cases e : i = j
      . subst e
        rw [zF5 (by omega),decide_eq_true (by omega)]
      . rw [getD_set_ne false (Ne.symm e), hl i hi]
        rw [decide_eq_decide]
        omega
def left (listed : Array Bool) : Nat -> Nat
  | 0=>0
  | m+1=>left listed m+(if listed.getD m false then 0 else 1)
theorem zJl {listed : Array Bool} {i : Nat} (hi : i < listed.size) (h : listed.getD i false = false) : ∀ m, left listed m = left (listed.setIfInBounds i true) m + (if i < m then 1 else 0)
  | 0=>by simp [left]
  | m+1=>by
    simp only [left]
    rw [zJl hi h m]
    by_cases e:m=i
    . subst e
      rw [h,zF5 hi]
      simp
    . rw [getD_set_ne false (Ne.symm e)]
      have:(i<m+1)=(i<m):=by rw [eq_iff_iff];omega
      simp only [this]
      omega
theorem zGE {listed : Array Bool} : ∀ m, left listed m = 0 -> ∀ i, i < m -> listed.getD i false = true
  | 0,_,i,hi=>by omega
  | m+1,h,i,hi=>by
    simp only [left] at h
    by_cases e:i=m
    . subst e
      split at h
      . assumption
      . omega
    . exact zGE m (by omega) i (by omega)
theorem zJf {listed : Array Bool} : ∀ m, 0 < left listed m -> ∃ i, i < m /\ listed.getD i false = false /\ ∀ j, j < i -> listed.getD j false = true
  | 0,h=>by simp [left] at h
  | m+1,h=>by
    rcases Nat.eq_zero_or_pos (left listed m) with h0 | h0
    . refine ⟨m, by omega, ?_, zGE m h0⟩
      simp only [left,h0] at h
      cases hm:listed.getD m false
      . rfl
      . rw [hm] at h;simp at h
    . obtain ⟨i, h1, h2⟩ := zJf m h0
      exact ⟨i,by omega,h2⟩
theorem zJy (N : Nat) : ∀ m, m <= N -> left (Array.replicate N false) m = m
  | 0,_=>rfl
  | m+1,h=>by
    simp only [left]
    rw [zJy N m (by omega)]
    simp [show m<N by omega]
theorem HT.draws {id : Nat} {l : List Ent} {tl : List Oper} {R : Reg} {w : World} (hm : P.follows .mixedOrders = true) (hb : zCW 0 (l.map (·.o) ++ tl) = true) (hw : zEs l.length tl = true) (hd : zES l = true) (hs : zFM n (l.map (·.o) ++ tl) = true)
    (ho:Obls P l R { w with drawn:=w.drawn+1 } 0 l) (ha:zNh P l tl R { w with drawn:=w.drawn+1 } (fun R w=>Q .normal R w)):HT P n (.region id (l.map (·.o)++tl).toArray true) R w Q:=fun a hpl hR=>by
  refine wp_region_any hm ?_
  have hsize:(l.map (·.o)++tl).toArray.size=l.length+tl.length:=by simp
  have htl:zFM n tl=true:=by
    simp only [zFM,List.all_append,Bool.and_eq_true] at hs
    exact hs.2
  have hbs:=zCY _ 0 hb
  have hbt:zCW l.length tl=true:=by
    have:∀ (l1:List Oper) (k:Nat),zCW k (l1++tl)=true->zCW (k+l1.length) tl=true:=by
      intro l1
      induction l1 with
      | nil=>intro k h;simpa using h
      | cons y l1 ih=>
        intro k h
        simp only [List.cons_append,zCW,Bool.and_eq_true] at h
        have:=ih (k+1) h.2
        rwa [show k+1+l1.length=k+(y::l1).length by simp;omega] at this
    have:=this _ 0 hb
    simpa using this
  have hopsl:∀ (i:Nat) x,l[i]? = some x->(l.map (·.o)++tl).toArray[i]? = some x.o:=fun i x hx=>by
    simp only [List.getElem?_toArray]
    exact zK7 hx
  have hopst:∀ j,tl[j]? = (l.map (·.o)++tl).toArray[l.length+j]?:=fun j=>by
    simp only [List.getElem?_toArray]
    rw [List.getElem?_append_right (by simp)]
    congr 1
    simp
  generalize hops:(l.map (·.o)++tl).toArray=ops at *
  have key : ∀ f (listed : Array Bool) (a : Act) (w' : World), listed.size = ops.size -> left listed l.length = f -> (∀ j, l.length <= j -> listed.getD j false = false) -> (∀ (k : Nat) y, l[k]? = some y -> listed.getD k false = true -> ∀ e ∈ y.o.after, bnd e = true -> listed.getD e.on false = true) -> Pl n a ->
      Inv l R { w with drawn:=w.drawn+1 } (fun i=>listed.getD i false) (regs a) w'->wpAny P .any ops (PQ n Q) (f+tl.length) listed a w':=by
    intro f
    induction f with
    | zero=>
      intro listed a w' hls hf hge hcl hpl hI
      rw [Nat.zero_add]
      refine zKJ (fun _ _ h=>h) tl l.length hsize hopst htl hw hbt listed a w' hls (fun j hj=>?_) hpl (hI.after ha (zGE _ hf))
      by_cases e:j<l.length
      . rw [zGE _ hf j e,decide_eq_true e]
      . rw [hge j (by omega),decide_eq_false e]
    | succ f ih=>
      intro listed a w' hls hf hge hcl hpl hI
      rw [show f+1+tl.length=(f+tl.length)+1 by omega]
      obtain ⟨i,hi,hi0,hmin⟩:=zJf (listed:=listed) l.length (by omega)
      have hmem:i ∈ Region.ready .any ops listed:=by
        have hx:l[i]? = some l[i]:=List.getElem?_eq_getElem hi
        refine mem_ready.2 ⟨?_,_,hopsl i _ hx,fun e he hbe=>?_⟩
        . have : i < listed.size := by omega
          simp [this] at hi0 ⊢
          exact hi0
        . have := hbs i _ (zK7 hx) e he hbe
          exact hmin e.on (by omega)
      refine ⟨fun hr=>(by rw [hr] at hmem;cases hmem),fun j hj=>?_⟩
      obtain ⟨hj0,o,hoj,hall⟩:=mem_ready.1 hj
      have hjs:j<ops.size:=(Array.getElem?_eq_some_iff.1 hoj).1
      have hj0':listed.getD j false=false:=by
        simp [hls ▸ hjs] at hj0 ⊢
        exact hj0
      have hjl:j<l.length:=by
        rcases Nat.lt_or_ge j l.length with h | h
        . exact h
        . exfalso
          have h3:=hopst (j-l.length)
          rw [show l.length+(j-l.length)=j by omega,hoj] at h3
          obtain ⟨e,he,hbe,hon⟩:=zFN tl l.length hw (j-l.length) o h3 i (by omega)
          have h4:=hall e he hbe
          rw [hon,hi0] at h4
          cases h4
      have hx:l[j]? = some l[j]:=List.getElem?_eq_getElem hjl
      have hoe:o=l[j].o:=by
        have:=hopsl j _ hx
        rw [hoj] at this
        injection this
      subst hoe
      refine zLc (done:=fun i=>listed.getD i false) hopsl hd (fun i x d hx hdd=>zEm hs (zK7 hx) hdd) ho hx hj0' hall (fun k y hy hex=>?_) hpl hI (fun a' w'' hpl' hI'=>ih (listed.setIfInBounds j true) a' w'' (by simpa using hls) ?_ (fun k hk=>?_) (fun k y hy hk e he hbe=>?_) hpl' ?_)
      . obtain ⟨e, he, hbe, hon⟩ := hex
        cases hk:listed.getD k false
        . rfl
        . have := hcl k y hy hk e he hbe
          rw [hon,hj0'] at this
          cases this
      . have := zJl (i := j) (by omega) hj0' l.length
        rw [if_pos hjl] at this
        omega
      . rw [getD_set_ne false (by omega),hge k hk]
      . by_cases e2 : k = j
        . subst e2
          rw [hx] at hy
          injection hy with hy
          subst hy
          exact getD_set_true (hall e he hbe)
        . rw [getD_set_ne false (Ne.symm e2)] at hk
          exact getD_set_true (hcl k y hy hk e he hbe)
      . have:setB (fun i=>listed.getD i false) j=fun i=>(listed.setIfInBounds j true).getD i false:=by
          funext k
          by_cases e:k=j
          . subst e;rw [zDo,zF5 (by omega)]
          . rw [zDy _ e,getD_set_ne false (Ne.symm e)]
        rw [<- this]
        exact hI'
  have hrep:∀ j,(Array.replicate ops.size false).getD j false=false:=fun j=>by
    by_cases h:j<ops.size <;> simp [h]
  rw [hsize]
  rw [hsize] at hrep key
  exact key l.length (Array.replicate (l.length + tl.length) false) a _ (by simp) (zJy _ _ (by omega)) (fun j _ => hrep j) (fun k y _ hk => absurd ((hrep k).symm.trans hk) Bool.false_ne_true) hpl
    ⟨Fr.refl _,fun t _=>by rw [hR],fun i x d _ h=>absurd ((hrep i).symm.trans h) Bool.false_ne_true,fun i x d _ h=>absurd ((hrep i).symm.trans h) Bool.false_ne_true⟩
theorem Obls.from {l : List Ent} {R : Reg} {w w' : World} (hw : Fr w w') : ∀ (r : List Ent) (i : Nat), Obls P l R w i r -> Obls P l R w' i r
  | [],_,_=>trivial
  | x::r,i,h=>⟨⟨h.1.1,fun hg R' w'' hf=>h.1.2 hg R' w'' (hw.trans hf)⟩,Obls.from hw r (i+1) h.2⟩
theorem zPM {id : Nat} {l : List Ent} {tl : List Oper} {R : Reg} {w : World} (hm : P.follows .mixedOrders = true) (hb : zCW 0 (l.map (·.o) ++ tl) = true) (hw : zEs l.length tl = true) (hd : zES l = true) (hs : zFM n (l.map (·.o) ++ tl) = true)
    (ho:Obls P l R w 0 l) (ha:zNh P l tl R w (fun R w=>Q .normal R w)):HT P n (.region id (l.map (·.o)++tl).toArray true) R w Q:=
  HT.draws hm hb hw hd hs (ho.from (Fr.drew w) l 0) fun R' w' hf=>ha R' w' ((Fr.drew w).trans hf)
theorem Obls.nil {l:List Ent} {R:Reg} {w:World} {i:Nat}:Obls P l R w i []:=trivial
theorem Obls.cons {l:List Ent} {R:Reg} {w:World} {i:Nat} {x:Ent} {r:List Ent} (h:Obl P l R w i x) (t:Obls P l R w (i+1) r):Obls P l R w i (x::r):=⟨h,t⟩
theorem Obl.plain {l : List Ent} {R : Reg} {w : World} {i : Nat} {x : Ent} (hg : x.o.guard = none) (hx : x.g = true)
    (h:∀ R' w',Fr w w'->(∀ t,zHy l i t=true->R' t=R t)->Deps l R' w' x.o.after.toList->OpR P x.o R' w' fun v w''=>x.f.ok v w''/\Fr w' w''):Obl P l R w i x:=
  ⟨by unfold zNk;rw [hg];exact hx,fun _=>h⟩
theorem Obl.grd {l : List Ent} {R : Reg} {w : World} {i : Nat} {x : Ent} (j : Nat) (want : Bool) (y : Ent) (c : Bool) (d : Nat) (hg : x.o.guard = some (j, want)) (hy : l[j]? = some y) (hyd : y.o.dst = some d) (hyf : y.f=.raw (.bool c)) (hx : x.g = (y.g && (c == want)))
    (ha:x.o.after.any (fun e=>bnd e&&Nat.beq e.on j)=true)
    (h:x.g=true->∀ R' w',Fr w w'->(∀ t,zHy l i t=true->R' t=R t)->Deps l R' w' x.o.after.toList->OpR P x.o R' w' fun v w''=>x.f.ok v w''/\Fr w' w''):Obl P l R w i x:=
  ⟨by unfold zNk;rw [hg];exact ⟨y,c,d,hy,hyd,hyf,hx,ha⟩,h⟩
theorem Rep.to {α:Type} {E:Enc α} {A:Av} {w w':World} {v v':Value} {x:α} (h:Rep E A w v x) (hw:Fr w w') (e:v'=v):Rep E A w' v' x:=e ▸ h.fr hw
theorem PRep.to {α:Type} {E:Enc α} {A:Av} {w w':World} {v v':Value} {x:α} (h:PRep E A w v x) (hw:Fr w w') (e:v'=v):PRep E A w' v' x:=e ▸ h.fr hw
theorem Rep.eq {α:Type} {E:Enc α} {A:Av} {w:World} {v v':Value} {x:α} (h:Rep E A w v x) (e:v'=v):Rep E A w v' x:=e ▸ h
def bd {α β:Type} (e:α) (k:α->Option β):Option β:=k e
theorem zAO {α β:Type} {e:α} {k:α->Option β} {r:β} (h:bd e k=some r):∃ x,x=e/\k x=some r:=⟨e,rfl,h⟩
def cl {α β:Type} [Inhabited α] (g:Bool) (o:Option α) (k:α->Option β):Option β:=bif g then o.bind k else k default
theorem zA9 {α β:Type} [Inhabited α] {g:Bool} {o:Option α} {k:α->Option β} {r:β} (h:cl g o k=some r):∃ x,(g=true->o=some x)/\k x=some r:=by
  cases g with
  | false=>exact ⟨default,fun h=>absurd h Bool.false_ne_true,h⟩
  | true=>
    have h':o.bind k=some r:=h
    cases o with
    | none=>cases h'
    | some x=>exact ⟨x,fun _=>rfl,h'⟩
theorem zAe {α:Type} {b:Bool} {x y:Option α} {r:α} (hb:b=true) (h:(bif b then x else y)=some r):x=some r:=by subst hb;exact h
theorem zAd {α:Type} {b:Bool} {x y:Option α} {r:α} (hb:b=false) (h:(bif b then x else y)=some r):y=some r:=by subst hb;exact h
inductive Ex (ρ σ : Type) where
  | ret (r:ρ)
  | go (s:σ)
def exM {ρ σ γ : Type} (x : Ex ρ σ) (f : ρ -> Option γ) (g : σ -> Option γ) : Option γ := match x with
  | .ret r=>f r
  | .go s=>g s
instance {ρ σ:Type} [Inhabited σ]:Inhabited (Ex ρ σ):=⟨.go default⟩
theorem zEK {ρ σ γ:Type} {s:σ} {f:ρ->Option γ} {g:σ->Option γ} {r:γ} (h:exM (.go s) f g=some r):g s=some r:=h
theorem zBJ {g b:Bool} (h:g=true) (k:b=true):(g&&b)=true:=by rw [h,k];rfl
theorem zAf {c d:Bool} (h:c=d):(c==d)=true:=by subst h;simp
theorem zPL {x:Code} {R:Reg} {w:World} {Q:Exit->Reg->World->Prop} (M:Reg->World->Prop) (h:HT P n x R w (thn M Q)) (k:∀ R' w',M R' w'->Q .normal R' w'):HT P n x R w Q:=
  h.mono fun e R' w' hq=>by cases e <;> first | exact k _ _ hq | exact hq
theorem zBD {α:Type} {E:Enc α} {A:Av} {w:World}:(eSl E).rep A w [] [.slice none 0 0]:=⟨none,0,0,rfl,rfl,Nat.le_refl _,Nat.zero_le _,fun h=>absurd h (by omega)⟩
theorem zIn {α:Type} {E:Enc α} {A:Av} {w:World}:Rep (eSl E) A w (.slice none 0 0) []:=⟨_,rfl,zBD⟩
theorem zAm {k:IntKind} {A:Av} {w:World} {x:Int}:(eInt k).rep A w x [.int k x]:=rfl
theorem zCo {α β:Type} {E:Enc α} {F:Enc β} {A:Av} {w:World} {x:α} {y:β} {c d:List Value} (h:E.rep A w x c) (k:F.rep A w y d):(ePr E F).rep A w (x,y) (c++d):=⟨c,d,rfl,h,k⟩
end
def i64B (x:Int):Bool:=decide (-9223372036854775808<=x)&&decide (x<=9223372036854775807)
theorem zHJ {x:Int} (h:i64B x=true):IntKind.i64.wrap x=x:=by
  simp only [i64B,Bool.and_eq_true,decide_eq_true_eq] at h
  exact IntWalk.i64_in x h
def inR (i:Int) (n:Nat):Bool:=decide (0<=i)&&decide (i<n)
theorem zDx {i:Int} {n:Nat}:inR i n=true ↔ 0<=i/\i<n:=by simp [inR]
def gtD {α:Type} [Inhabited α] (xs:List α) (i:Int):α:=xs.getD i.toNat default
def bAt (x:List UInt8) (i:Int):Int:=((x.getD i.toNat 0).toNat:Int)
def ck {α:Type} (b:Bool) (k:Option α):Option α:=bif b then k else none
def gv {α:Type} [Inhabited α] (o:Option α):α:=o.getD default
theorem zAG {α:Type} {b:Bool} {k:Option α} {r:α} (h:ck b k=some r):b=true/\k=some r:=by
  cases b
  . cases h
  . exact ⟨rfl,h⟩
theorem zOP {α:Type} [Inhabited α] {o:Option α} (h:o.isSome=true):o=some (gv o):=by
  cases o
  . cases h
  . rfl
theorem gd {g b:Bool} (h:(!g || b)=true) (hg:g=true):b=true:=by
  subst hg
  simpa using h
theorem zJb {α:Type} [Inhabited α] {xs:List α} {i:Int} (h:inR i xs.length=true):xs[i.toNat]? = some (gtD xs i):=by
  obtain ⟨h1,h2⟩:=zDx.1 h
  have:i.toNat<xs.length:=by omega
  simp [gtD,this]
abbrev OpF (P:Program) (o:Oper) (R:Reg) (w:World) (f:Fact):Prop:=OpR P o R w fun v w'=>f.ok v w'/\Fr w w'
section
variable {P:Program} {R:Reg} {w:World} {f:Fact} {d:Option Nat} {t:TypeId} {p:String} {af:Array Edge} {g:Option (Nat × Bool)} {A:Av} {α β:Type}
theorem zAS {o:Oper} {K:Value->World->Prop} {v:Value} {w':World} (h:(execOp (zAL R) o).run P w=.ok (.value v) w') (hk:K v w'):OpR P o R w K:=by
  unfold OpR
  rw [h]
  exact hk
theorem zGa {o:Oper} {K:Value->World->Prop} {w':World} (h:(execOp (zAL R) o).run P w=.ok .skip w') (hk:K undef w'):OpR P o R w K:=by
  unfold OpR
  rw [h]
  exact hk
theorem zBI {x:Operand} (h:f.ok (zAL R x) w):OpF P ⟨d,.move x,t,p,af,g⟩ R w f:=zAS rfl ⟨h,Fr.refl _⟩
theorem zA6 {x:Operand} (h:f.ok (zAL R x) w):OpF P ⟨d,.assign x,t,p,af,g⟩ R w f:=zAS rfl ⟨h,Fr.refl _⟩
theorem zAR {c x y:Operand} (b:Bool) (hc:zAL R c=.bool b) (h1:b=true->f.ok (zAL R x) w) (h2:b=false->f.ok (zAL R y) w):OpF P ⟨d,.pick c x y,t,p,af,g⟩ R w f:=by
  cases b
  . exact zAS (v:=zAL R y) (w':=w) (by simp [execOp,hc,go_sem]) ⟨h2 rfl,Fr.refl _⟩
  . exact zAS (v:=zAL R x) (w':=w) (by simp [execOp,hc,go_sem]) ⟨h1 rfl,Fr.refl _⟩
section ints
variable {x y:Operand} {T T':TypeId} {k:IntKind} {a b:Int}
theorem zB8 (hx:zAL R x=.int k a) (hy:zAL R y=.int k b):OpF P ⟨d,.binOp .lss T x y T',t,p,af,g⟩ R w (.raw (.bool (decide (a<b)))):=
  zAS (w':=w) (by simp [execOp,hx,hy,go_sem]) ⟨rfl,Fr.refl _⟩
theorem zGL (hx:zAL R x=.int k a) (hy:zAL R y=.int k b):OpF P ⟨d,.binOp .leq T x y T',t,p,af,g⟩ R w (.raw (.bool (decide (a<=b)))):=
  zAS (w':=w) (by simp [execOp,hx,hy,go_sem]) ⟨rfl,Fr.refl _⟩
theorem zEH (hx:zAL R x=.int k a) (hy:zAL R y=.int k b):OpF P ⟨d,.binOp .gtr T x y T',t,p,af,g⟩ R w (.raw (.bool (decide (b<a)))):=
  zAS (w':=w) (by simp [execOp,hx,hy,go_sem]) ⟨rfl,Fr.refl _⟩
theorem zFI (hx:zAL R x=.int k a) (hy:zAL R y=.int k b):OpF P ⟨d,.binOp .geq T x y T',t,p,af,g⟩ R w (.raw (.bool (decide (b<=a)))):=
  zAS (w':=w) (by simp [execOp,hx,hy,go_sem]) ⟨rfl,Fr.refl _⟩
theorem zEt (hx:zAL R x=.int k a) (hy:zAL R y=.int k b):OpF P ⟨d,.binOp .eql T x y T',t,p,af,g⟩ R w (.raw (.bool (a==b))):=
  zAS (w':=w) (by simp [execOp,hx,hy,go_sem]) ⟨rfl,Fr.refl _⟩
theorem zKQ (hx:zAL R x=.int k a) (hy:zAL R y=.int k b):OpF P ⟨d,.binOp .neq T x y T',t,p,af,g⟩ R w (.raw (.bool (a != b))):=
  zAS (w':=w) (by simp [execOp,hx,hy,go_sem]) ⟨rfl,Fr.refl _⟩
theorem zAi (hx:zAL R x=.int .i64 a) (hy:zAL R y=.int .i64 b) (h:i64B (a+b)=true):OpF P ⟨d,.binOp .add T x y T',t,p,af,g⟩ R w (.raw (.int .i64 (a+b))):=
  zAS (w':=w) (v:=.int .i64 (IntKind.i64.wrap (a+b))) (by simp [execOp,hx,hy,go_sem]) ⟨by rw [zHJ h];rfl,Fr.refl _⟩
theorem zDf (hx:zAL R x=.int .i64 a) (hy:zAL R y=.int .i64 b) (h:i64B (a-b)=true):OpF P ⟨d,.binOp .sub T x y T',t,p,af,g⟩ R w (.raw (.int .i64 (a-b))):=
  zAS (w':=w) (v:=.int .i64 (IntKind.i64.wrap (a-b))) (by simp [execOp,hx,hy,go_sem]) ⟨by rw [zHJ h];rfl,Fr.refl _⟩
theorem zFx (hx:zAL R x=.int .i64 a) (hy:zAL R y=.int .i64 b) (h:i64B (a*b)=true):OpF P ⟨d,.binOp .mul T x y T',t,p,af,g⟩ R w (.raw (.int .i64 (a*b))):=
  zAS (w':=w) (v:=.int .i64 (IntKind.i64.wrap (a*b))) (by simp [execOp,hx,hy,go_sem]) ⟨by rw [zHJ h];rfl,Fr.refl _⟩
theorem zLd (hx:zAL R x=.int .i64 a) (hy:zAL R y=.int .i64 b) (h0:(b != 0)=true) (h:i64B (a.tdiv b)=true):OpF P ⟨d,.binOp .quo T x y T',t,p,af,g⟩ R w (.raw (.int .i64 (a.tdiv b))):=by
  have h0':b ≠ 0:=by simpa using h0
  exact zAS (w':=w) (v:=.int .i64 (IntKind.i64.wrap (a.tdiv b))) (by simp [execOp,hx,hy,h0',go_sem]) ⟨by rw [zHJ h];rfl,Fr.refl _⟩
theorem zNl (hx:zAL R x=.int .i64 a) (hy:zAL R y=.int .i64 b) (h0:(b != 0)=true):OpF P ⟨d,.binOp .rem T x y T',t,p,af,g⟩ R w (.raw (.int .i64 (a.tmod b))):=by
  have h0':b ≠ 0:=by simpa using h0
  exact zAS (w':=w) (v:=.int .i64 (a.tmod b)) (by simp [execOp,hx,hy,h0',go_sem]) ⟨rfl,Fr.refl _⟩
end ints
theorem zBY {x:Operand} {T:TypeId} {b:Bool} (hx:zAL R x=.bool b):OpF P ⟨d,.unOp .not T x,t,p,af,g⟩ R w (.raw (.bool (!b))):=
  zAS (w':=w) (by simp [execOp,hx,go_sem]) ⟨rfl,Fr.refl _⟩
section memory
variable {E:Enc α} {F:Enc β} {q:α->β} {x ix:Operand} {T e:TypeId} {a:α} {xs:List α}
theorem zEC {b o s : Nat} {ag : Bool} {cs : List Value} (hag : ∀ w, (isAgg T).run P w=.ok ag w) (hsz : ∀ w, (sizeOf T).run P w=.ok s w) (hl : cs.length = s) (h1 : ag = false -> s = 1) (hc : ∀ j u, cs[j]? = some u -> w.cell? ⟨b, o + j, none⟩ = some u) :
    (loadVar T ⟨b,o,none⟩).run P w=.ok (if ag then .agg cs.toArray else cs.headD undef) w:=by
  have hadd:∀ j,(⟨b,o,none⟩:Addr).add j=⟨b,o+j,none⟩:=fun j=>by
    unfold Addr.add
    split
    . rename_i h;subst h;rfl
    . rfl
  cases ag with
  | true=>
    have:=run_loadCells_list (P:=P) w ⟨b,o,none⟩ cs (fun j v hv=>by rw [hadd];exact hc j v hv)
    rw [hl] at this
    simp [loadVar,hag,hsz,this]
  | false=>
    rw [h1 rfl] at hl
    match cs,hl,hc with
    | [c],_,hc=>
      have:=hc 0 c rfl
      rw [Nat.add_zero] at this
      simp [loadVar,hag,this]
theorem zAT (h:PRep E A w (zAL R x) a) (hag:∀ w,(isAgg T).run P w=.ok E.agg w) (hsz:∀ w,(sizeOf T).run P w=.ok E.size w):OpF P ⟨d,.load T x,t,p,af,g⟩ R w (.rep E A a):=by
  obtain ⟨b,o,hv,hb,cs,hr,hc⟩:=h
  refine zAS (v:=E.val cs) (w':=w) ?_ ⟨⟨cs,rfl,hr⟩,Fr.refl _⟩
  have:=zEC (P:=P) (w:=w) hag hsz (E.len hr) E.one hc
  simp [execOp,Instr.loadAt,Instr.sureAddr,hv,this,Enc.val]
theorem zLq {k:IntKind} {n:Int} {v:Value} (h:Rep (eInt k) A w v n):v=.int k n:=by
  obtain ⟨cs,rfl,h⟩:=h
  subst h
  rfl
theorem zL0 {b:Bool} {v:Value} (h:Rep zOt A w v b):v=.bool b:=by
  obtain ⟨cs,rfl,h⟩:=h
  subst h
  rfl
theorem zBa {k:IntKind} {n:Int}:Rep (eInt k) A w (.int k n) n:=⟨_,rfl,rfl⟩
theorem OpF.int {o:Oper} {k:IntKind} {n:Int} (h:OpF P o R w (.rep (eInt k) A n)):OpF P o R w (.raw (.int k n)):=OpR.mono h fun v w' ⟨h1,h2⟩=>⟨zLq h1,h2⟩
theorem OpF.bool {o:Oper} {n:Bool} (h:OpF P o R w (.rep zOt A n)):OpF P o R w (.raw (.bool n)):=OpR.mono h fun v w' ⟨h1,h2⟩=>⟨zL0 h1,h2⟩
def FldF (P:Program) (s k ft off:Nat):Prop:=∃ fs f,(P.underlying s=some (.struct fs))/\fs[k]? = some f/\f.type=ft/\f.offset=off
theorem zFk {s k ft off sz b o : Nat} {v : Value} (hf : FldF P s k ft off) (hsz : ∀ w, (sizeOf ft).run P w=.ok sz w) (h0 : sz ≠ 0) (hv : v=.pointer (some ⟨b, o, none⟩)) :
    (Instr.fieldAt s v k).run P w=.ok (.pointer (some ⟨b,o+off,none⟩)) w:=by
  obtain ⟨fs,f,h1,h2,rfl,rfl⟩:=hf
  subst hv
  have hadd:(⟨b,o,none⟩:Addr).add f.offset=⟨b,o+f.offset,none⟩:=by
    unfold Addr.add
    split
    . rename_i h;rw [h];rfl
    . rfl
  simp [Instr.fieldAt,underlying,h1,h2,Instr.sureAddr,fieldPlace,hsz,h0,hadd]
theorem PAt.fld {b o off:Nat} (h:PAt E A w b o a) (fl:Fld E off F q):PAt F A w b (o+off) (q a):=by
  obtain ⟨cs,hr,hc⟩:=h
  refine ⟨_,fl.get hr,fun j u hu=>?_⟩
  rw [List.getElem?_take] at hu
  split at hu
  . rw [List.getElem?_drop] at hu
    rw [Nat.add_assoc]
    exact hc _ _ hu
  . cases hu
theorem QAt.fld {b o off:Nat} (h:QAt E A w b o a) (fl:Fld E off F q):QAt F A w b (o+off) (q a):=
  ⟨h.1.fld fl,fun j hj=>by have:=h.2 (off+j) (by have:=fl.le;omega);rwa [<- Nat.add_assoc] at this⟩
theorem zAX {s k ft off:Nat} (h:QRep E A w (zAL R x) a) (hf:FldF P s k ft off) (hsz:∀ w,(sizeOf ft).run P w=.ok F.size w) (h0:F.size ≠ 0) (fl:Fld E off F q) {y:β} (hy:q a=y):OpF P ⟨d,.fieldAddr s x k,t,p,af,g⟩ R w (.qtr F A y):=by
  subst hy
  obtain ⟨b,o,hv,hb,h⟩:=h
  refine zAS (v:=.pointer (some ⟨b,o+off,none⟩)) (w':=w) ?_ ⟨⟨b,o+off,rfl,hb,h.fld fl⟩,Fr.refl _⟩
  simp [execOp,zFk (w:=w) hf hsz h0 hv]
theorem zA8 {s k ft off sz b o o':Nat} (h:zAL R x=.pointer (some ⟨b,o,none⟩)) (hf:FldF P s k ft off) (hsz:∀ w,(sizeOf ft).run P w=.ok sz w) (h0:sz ≠ 0) (ho:o+off=o'):OpF P ⟨d,.fieldAddr s x k,t,p,af,g⟩ R w (.raw (.pointer (some ⟨b,o',none⟩))):=by
  subst ho
  refine zAS (w':=w) ?_ ⟨rfl,Fr.refl _⟩
  simp [execOp,zFk (w:=w) hf hsz h0 h]
theorem zAC [Inhabited α] {k : IntKind} {i : Int} (h : Rep (eSl E) A w (zAL R x) xs) (hi : zAL R ix=.int k i) (hu : P.underlying T = some (.slice e)) (hsz : ∀ w, (sizeOf e).run P w=.ok E.size w) (hr : inR i xs.length = true) :
    OpF P ⟨d,.indexAddr T x ix,t,p,af,g⟩ R w (.qtr E A (gtD xs i)):=by
  obtain ⟨cs,hv,ad,n,c,rfl,hl,hnc,hcm,h4⟩:=h
  obtain ⟨i0,i1⟩:=zDx.1 hr
  obtain ⟨b,off,rfl,hb,hall⟩:=h4 (by omega)
  refine zAS (v:=.pointer (some ⟨b,off+i.toNat*E.size,none⟩)) (w':=w) ?_ ⟨⟨b,_,rfl,hb,hall i.toNat _ (zJb hr)⟩,Fr.refl _⟩
  have hadd:∀ j,(⟨b,off,none⟩:Addr).add j=⟨b,off+j,none⟩:=fun j=>by
    unfold Addr.add
    split
    . rename_i h;subst h;rfl
    . rfl
  have hv':zAL R x=.slice (some ⟨b,off,none⟩) n c:=hv
  have hin:i<(n:Int):=by omega
  simp [execOp,Instr.indexAt,hv',hi,asIntOf,underlying,hu,i0,hin,hsz,hadd]
theorem zFg {k : IntKind} {i : Int} {s : List UInt8} (h : Rep eStr A w (zAL R x) s) (hi : zAL R ix=.int k i) (hu : P.underlying T = some .string) (hr : inR i s.length = true) :
    OpF P ⟨d,.index T x ix,t,p,af,g⟩ R w (.raw (.int .u8 (bAt s i))):=by
  obtain ⟨cs,hv,sb,rfl,rfl,hm⟩:=h
  obtain ⟨i0,i1⟩:=zDx.1 hr
  have hlt:i.toNat<sb.size:=by
    have:sb.data.toList.length=sb.size:=Array.length_toList
    omega
  have hv':zAL R x=.string sb:=hv
  obtain ⟨u,hg,hd⟩:∃ u,sb[i.toNat]? = some u/\sb.data.toList.getD i.toNat 0=u:=by
    refine ⟨sb[i.toNat],getElem?_pos sb _ hlt,?_⟩
    have hlt':i.toNat<sb.data.size:=hlt
    rw [List.getD_eq_getElem?_getD,Array.getElem?_toList,Array.getElem?_eq_getElem hlt']
    rfl
  refine zAS (v:=.int .u8 (u.toNat)) (w':=w) ?_ ⟨?_,Fr.refl _⟩
  . clear hd
    simp [execOp,Instr.index,hv',hi,asIntOf,underlying,hu,i0,hg]
  . show Value.int .u8 _ = Value.int .u8 (bAt sb.data.toList i)
    unfold bAt
    rw [hd]
theorem zAN {aT:Array TypeId} (h:Rep (eSl E) A w (zAL R x) xs) (hu:P.underlying T=some (.slice e)):OpF P ⟨d,.call ⟨.builtin .len,#[x],#[T]⟩,t,p,af,g⟩ R w (.raw (.int .i64 (xs.length:Int))):=by
  obtain ⟨cs,hv,ad,n,c,rfl,rfl,_⟩:=h
  have hv':zAL R x=.slice ad xs.length c:=hv
  exact zAS (w':=w) (by simp [execOp,resolve,invoke,builtin,Builtin.len_,hv',underlying,hu,goInt]) ⟨rfl,Fr.refl _⟩
theorem zHi {s:List UInt8} (h:Rep eStr A w (zAL R x) s) (hu:P.underlying T=some .string):OpF P ⟨d,.call ⟨.builtin .len,#[x],#[T]⟩,t,p,af,g⟩ R w (.raw (.int .i64 (s.length:Int))):=by
  obtain ⟨cs,hv,sb,rfl,rfl,hm⟩:=h
  have hv':zAL R x=.string sb:=hv
  refine zAS (v:=.int .i64 (sb.size:Int)) (w':=w) (by simp [execOp,resolve,invoke,builtin,Builtin.len_,hv',underlying,hu,goInt]) ⟨?_,Fr.refl _⟩
  show Value.int .i64 _=Value.int .i64 _
  rw [Array.length_toList]
  rfl
theorem zAM {fn : FuncId} {al : List Operand} {aT : Array TypeId} (hc : ∀ args w, (callFunc fn args).run P w=.ok (.enter fn args) w) (h : Calls P fn (al.map (zAL R)).toArray w fun e w' => ∃ v, e=.returned v /\ (f.ok v w' /\ Fr w w')) :
    OpF P ⟨d,.call ⟨.value (.func fn),al.toArray,aT⟩,t,p,af,g⟩ R w f:=by
  unfold OpF OpR
  have:(execOp (zAL R) ⟨d,.call ⟨.value (.func fn),al.toArray,aT⟩,t,p,af,g⟩).run P w=.ok (.enter fn (al.map (zAL R)).toArray) w:=by
    simp [execOp,resolve,zAL,Deferred.ofValue,invoke,hc]
  rw [this]
  exact h
structure Wr (b : Nat) (w w' : World) : Prop where
  os:w'.os=w.os
  tape:w'.tape=w.tape
  output:w'.output=w.output
  size:w'.heap.size=w.heap.size
  block:∀ k,k ≠ b->w'.heap[k]? = w.heap[k]?
  drawn:DLe w w'
theorem Wr.refl (b:Nat) (w:World):Wr b w w:=⟨rfl,rfl,rfl,rfl,fun _ _=>rfl,DLe.refl _⟩
theorem Wr.trans {b:Nat} {u v w:World} (h:Wr b u v) (k:Wr b v w):Wr b u w:=
  ⟨k.os.trans h.os,k.tape.trans h.tape,k.output.trans h.output,k.size.trans h.size,fun i hi=>(k.block i hi).trans (h.block i hi),DLe.trans h.drawn k.drawn⟩
theorem Wr.setCell (w:World) (b o:Nat) (u:Value):Wr b w (w.setCell ⟨b,o,none⟩ u):=
  ⟨rfl,rfl,rfl,by simp [World.setCell],fun k hk=>Below.heap_setCell _ _ _ _ hk,fun _=>Nat.le_refl _⟩
theorem Wr.below {b B:Nat} {w w':World} (h:Wr b w w') (hB:B<=b):Below B w w':=⟨h.os,h.tape,h.output,by rw [h.size];exact Nat.le_refl _,fun k hk=>h.block k (by omega)⟩
theorem Wr.blk {b k:Nat} {w w':World} {T:TypeId} {cs:Array Value} (h:Wr b w w') (hk:k ≠ b) (hb:Blk w k T cs):Blk w' k T cs:=(h.block k hk).trans hb
theorem Wr.stp {b:Nat} {w w':World} (h:Wr b w w') {A:Av} (hA:∀ o,A b o):Stp A A w w':=
  ⟨by rw [h.size];exact Nat.le_refl _,fun k o v hv hn=>by
    by_cases e:k=b
    . subst e;exact absurd (hA o) hn
    . exact (World.cell?_of_block (h.block k e)).trans hv,fun _ _ _ h=>h⟩
theorem zD1 (b o j:Nat):(⟨b,o,none⟩:Addr).add j=⟨b,o+j,none⟩:=by
  unfold Addr.add
  split
  . rename_i h;subst h;rfl
  . rfl
def lay (cs : Array Value) (o : Nat) : List Value -> Array Value
  | []=>cs
  | v::vs=>lay (cs.setIfInBounds o v) (o+1) vs
theorem zF4 : ∀ (vs : List Value) (cs : Array Value) (o : Nat), (lay cs o vs).size = cs.size
  | [],_,_=>rfl
  | v::vs,cs,o=>by rw [lay,zF4 vs];simp
theorem zGx : ∀ (vs : List Value) (cs : Array Value) (o j : Nat), o + vs.length <= cs.size -> (lay cs o vs)[j]? = if o <= j /\ j < o + vs.length then vs[j - o]? else cs[j]?
  | [],cs,o,j,_=>by
    rw [if_neg (by simp)]
    rfl
  | v::vs,cs,o,j,h=>by
    simp only [List.length_cons] at h
    rw [lay,zGx vs _ _ _ (by simp;omega)]
    by_cases h1:j=o
    . subst h1
      rw [if_neg (by omega),if_pos (by simp)]
      simp [show j<cs.size by omega]
    . by_cases h2 : o <= j /\ j < o + (vs.length + 1)
      . rw [if_pos (by omega), if_pos (by simpa using h2), show j - o = (j - (o + 1)) + 1 by omega]
        rfl
      . rw [if_neg (by omega),if_neg (by simpa using h2),Array.getElem?_setIfInBounds_ne (by omega)]
theorem zGy {b : Nat} {T : TypeId} : ∀ (vs : List Value) (cs : Array Value) (o i : Nat) (w : World), (∀ v ∈ vs, v.oneCell' = true) -> Blk w b T cs -> o + i + vs.length <= cs.size ->
    ∃ w',(storeCells ⟨b,o,none⟩ vs i).run P w=.ok () w'/\Wr b w w'/\Blk w' b T (lay cs (o+i) vs)
  | [],cs,o,i,w,_,hb,_=>⟨w,rfl,Wr.refl _ _,hb⟩
  | v::vs,cs,o,i,w,h1,hb,hl=>by
    simp only [List.length_cons] at hl
    have hc:w.cell? ⟨b,o+i,none⟩=some cs[o+i]:=by rw [hb.cell];exact Array.getElem?_eq_getElem (by omega)
    obtain ⟨w',hr,hw,hb'⟩:=zGy vs (cs.setIfInBounds (o+i) v) o (i+1) (w.setCell ⟨b,o+i,none⟩ v) (fun u hu=>h1 u (by simp [hu])) (hb.put _ _) (by simp;omega)
    refine ⟨w',?_,(Wr.setCell _ _ _ _).trans hw,hb'⟩
    have hst:=run_store P w ((⟨b,o,none⟩:Addr).add i) v .plain (h1 v (by simp))
    rw [zD1,hc] at hst
    simp only [hb.frozen,Bool.false_eq_true,if_false] at hst
    simp only [storeCells,Sem.run_bind,zD1,hst,Result.andThen_ok,hr]
theorem zEw {b o s : Nat} {T' : TypeId} {v : Value} {cs : Array Value} (hsz : ∀ w, (sizeOf T').run P w=.ok s w) (h1 : ∀ u ∈ v.cells.toList, u.oneCell' = true) (hs : v.cells.size = s) (hb : Blk w b T cs) (hl : o + s <= cs.size) :
    ∃ w',(storeVar T' ⟨b,o,none⟩ v).run P w=.ok () w'/\Wr b w w'/\Blk w' b T (lay cs o v.cells.toList):=by
  obtain ⟨w',h2,h3,h4⟩:=zGy (P:=P) v.cells.toList cs o 0 w h1 hb (by simp;omega)
  refine ⟨w',?_,h3,h4⟩
  simp [storeVar,hsz,hs,h2]
theorem Fr.trans' {b:Nat} {u v w:World} (h:Fr u v) (k:Wr b v w) (hb:u.heap.size<=b):Fr u w:=⟨Below.trans h.toBelow (k.below hb),DLe.trans h.drawn k.drawn⟩
theorem zJw {y : Operand} {T' : TypeId} {v u : Array Value} {b : Bool} (hg : P.eqGuardType P.depth T = false) (hx : zAL R x=.agg v) (hy : zAL R y=.agg u) (he : (binOp .neq T (.agg v) (.agg u)).run P w=.ok (.bool b) w) :
    OpF P ⟨d,.binOp .neq T x y T',t,p,af,g⟩ R w (.raw (.bool b)):=
  zAS (w':=w) (by simp [execOp,hx,hy,eqGuard,hg,he]) ⟨rfl,Fr.refl _⟩
end memory
end
def zAE : Value -> Nat -> Prop
  | .pointer (some a),k=>a.block=k
  | .slice (some a) _ _,k=>a.block=k
  | _,_=>False
def Flat {α:Type} (E:Enc α) (A:Av) (w:World) (cs:List Value) (xs:List α):Prop:=
  cs.length=xs.length*E.size/\∀ (i:Nat) x,xs[i]? = some x->∃ ds,E.rep A w x ds/\∀ (j:Nat) d,ds[j]? = some d->cs[i*E.size+j]? = some d
def zKO:TypeId:=5
def zOl (t:TypeId) (n:Nat) (fz:Nat × Nat):Prop:=fz=(0,0)\/(t=zKO/\n<=fz.1)
def BlkM (w:World) (g:Nat) (t:TypeId) (cs:Array Value):Prop:=∃ fz,w.heap[g]? = some (.cells cs t fz)/\zOl t cs.size fz
theorem BlkM.of {w:World} {g:Nat} {t:TypeId} {cs:Array Value} (h:Blk w g t cs):BlkM w g t cs:=⟨_,h,.inl rfl⟩
theorem BlkM.plain {w:World} {g:Nat} {t:TypeId} {cs:Array Value} (h:BlkM w g t cs) (ht:t ≠ zKO):Blk w g t cs:=by
  obtain ⟨fz,h1,rfl | h2⟩:=h
  . exact h1
  . exact absurd h2.1 ht
theorem BlkM.lt {w:World} {g:Nat} {t:TypeId} {cs:Array Value} (h:BlkM w g t cs):g<w.heap.size:=by
  obtain ⟨fz,h1,_⟩:=h
  exact (Array.getElem?_eq_some_iff.1 h1).1
theorem BlkM.stay {w w':World} {g:Nat} {t:TypeId} {cs:Array Value} (h:BlkM w g t cs) (he:w'.heap[g]? = w.heap[g]?):BlkM w' g t cs:=by
  obtain ⟨fz,h1,h2⟩:=h
  exact ⟨fz,he.trans h1,h2⟩
theorem BlkM.cell {w:World} {g:Nat} {t:TypeId} {cs:Array Value} (h:BlkM w g t cs) (i:Nat):w.cell? ⟨g,i,none⟩=cs[i]?:=by
  obtain ⟨fz,h1,_⟩:=h
  exact cell_of_row w g i cs t fz h1
theorem BlkM.frozen {w:World} {g:Nat} {t:TypeId} {cs:Array Value} (h:BlkM w g t cs) (i:Nat) (hi:i<cs.size):w.frozen? ⟨g,i,none⟩=false:=by
  obtain ⟨fz,h1,rfl | h2⟩:=h
  . exact Blk.frozen h1 i
  . obtain ⟨lo, hi'⟩ := fz
    have h3:cs.size<=lo:=h2.2
    simp only [World.frozen?,h1,Bool.and_eq_false_iff,decide_eq_false_iff_not]
    left
    omega
theorem BlkM.put {w:World} {g:Nat} {t:TypeId} {cs:Array Value} (h:BlkM w g t cs) (i:Nat) (u:Value):BlkM (w.setCell ⟨g,i,none⟩ u) g t (cs.setIfInBounds i u):=by
  obtain ⟨fz,h1,h2⟩:=h
  refine ⟨fz,?_,by rwa [Array.size_setIfInBounds]⟩
  simp only [World.setCell]
  rw [Array.getElem?_modify,if_pos rfl,h1]
  rfl
def RowM (w:World) (B:Nat) (T:TypeId) (size:Nat) (u:Value) (n:Nat) (cs:List Value):Prop:=
  cs.length=n*size/\((u=.slice none 0 0/\n=0)\/∃ g cap cur,u=.slice (some ⟨g,0,none⟩) n cap/\B<=g/\BlkM w g T cur/\n<=cap/\cap<=maxLen/\cur.size=cap*size/\cur.toList.take (n*size)=cs)
theorem RowM.of {w:World} {B:Nat} {T:TypeId} {size:Nat} {u:Value} {n:Nat} {cs:List Value} (h:w.ownsRow B T size u n cs):RowM w B T size u n cs:=by
  refine ⟨h.1,?_⟩
  rcases h.2 with h | ⟨g,cap,cur,h1,h2,h3,h4⟩
  . exact .inl h
  . exact .inr ⟨g,cap,cur,h1,h2,BlkM.of h3,h4⟩
theorem RowM.cells {w:World} {B:Nat} {T:TypeId} {size:Nat} {u:Value} {n:Nat} {cs:List Value} (h:RowM w B T size u n cs) {g:Nat} (hg:u.ownBlock=some g):∀ j v,cs[j]? = some v->w.cell? ((⟨g,0,none⟩:Addr).add j)=some v:=by
  intro j v hv
  rcases h.2 with ⟨rfl,_⟩ | ⟨g',cap,cur,rfl,_,hgg,_,_,_,htk⟩
  . cases hg
  . injection hg with hg
    subst hg
    have hadd:(⟨g',0,none⟩:Addr).add j=⟨g',j,none⟩:=by unfold Addr.add;split <;> simp_all
    rw [hadd,hgg.cell]
    rw [<- htk,List.getElem?_take] at hv
    split at hv
    . simpa using hv
    . cases hv
def Vec {α:Type} (E:Enc α) (A:Av) (B:Nat) (T:TypeId) (w:World) (u:Value) (xs:List α):Prop:=
  ∃ cs,RowM w B T E.size u xs.length cs/\Flat E A w cs xs
structure SP where
  P:Av->World->(Nat->Prop)->Value->Prop
  lt:∀ {A w S u k},P A w S u->S k->k<w.heap.size
  stab:∀ {A A' w w' S u},P A w S u->(∀ k,S k->w'.heap[k]? = w.heap[k]?)->Stp A A' w w'->P A' w' S u
inductive Res : Type 1
  | box {α:Type} (B:Nat) (T:TypeId) (E:Enc α) (x:α)
  | vec {α:Type} (B:Nat) (T:TypeId) (E:Enc α) (xs:List α)
  | gen (K:Nat->Prop) (p:SP)
  | nul
def Res.own : Res -> Av -> Value -> (Nat -> Prop) -> World -> Prop
  | .gen K p,A,u,S,w=>(∀ k,S k->K k)/\p.P A w S u
  | .nul,_,_,S,_=>S=fun _=>False
  | .box ..,_,u,S,_=>S=zAE u
  | .vec ..,_,u,S,_=>S=zAE u
def Res.isB : Res -> Bool
  | .gen ..=>false
  | .nul=>false
  | _=>true
def Res.ok : Res -> Av -> Value -> World -> Prop
  | .box B T E x,A,u,w=>∃ b,u=.pointer (some ⟨b,0,none⟩)/\B<=b/\zHY E A w b T x
  | .vec B T E xs,A,u,w=>Vec E A B T w u xs
  | .gen ..,_,_,_=>True
  | .nul,_,_,_=>True
theorem Res.own_iff {r:Res} (h:r.isB=true) {A:Av} {u:Value} {S:Nat->Prop} {w:World}:r.own A u S w ↔ S=zAE u:=by
  cases r <;> first | exact Iff.rfl | cases h
theorem Res.own_mk {r:Res} (h:r.isB=true) {A:Av} {u:Value} {w:World}:r.own A u (zAE u) w:=(Res.own_iff h).2 rfl
theorem Flat.stp {α:Type} {E:Enc α} {A A':Av} {w w':World} {cs:List Value} {xs:List α} (h:Flat E A w cs xs) (hs:Stp A A' w w'):Flat E A' w' cs xs:=
  ⟨h.1,fun i x hx=>let ⟨ds,h1,h2⟩:=h.2 i x hx;⟨ds,E.stp hs h1,h2⟩⟩
theorem Res.lt {r:Res} {A:Av} {u:Value} {w:World} (h:r.ok A u w) (hB:r.isB=true) {k:Nat} (hk:zAE u k):k<w.heap.size:=by
  cases r with
  | gen B p=>cases hB
  | nul=>cases hB
  | box B T E x=>
    obtain ⟨b,rfl,_,h⟩:=h
    have:b=k:=hk
    subst this
    exact h.lt
  | vec B T E xs=>
    obtain ⟨cs,⟨_,h⟩,_⟩:=h
    rcases h with ⟨rfl,_⟩ | ⟨b,c,cur,rfl,_,h,_⟩
    . exact hk.elim
    . have : b = k := hk
      subst this
      exact h.lt
theorem Res.ltS {r:Res} {A:Av} {u:Value} {S:Nat->Prop} {w:World} (h:r.ok A u w) (ho:r.own A u S w) {k:Nat} (hk:S k):k<w.heap.size:=by
  cases r with
  | gen B p=>exact p.lt ho.2 hk
  | nul=>obtain rfl:=ho;exact hk.elim
  | box B T E x=>obtain rfl:=ho;exact Res.lt h rfl hk
  | vec B T E xs=>obtain rfl:=ho;exact Res.lt h rfl hk
theorem Res.stab {r:Res} {A A':Av} {u:Value} {w w':World} (h:r.ok A u w) (hb:∀ k,zAE u k->w'.heap[k]? = w.heap[k]?) (hs:Stp A A' w w'):r.ok A' u w':=by
  cases r with
  | gen B p=>trivial
  | nul=>trivial
  | box B T E x=>
    obtain ⟨b,rfl,h1,cs,h2,h3⟩:=h
    exact ⟨b,rfl,h1,cs,(hb b rfl).trans h2,E.stp hs h3⟩
  | vec B T E xs=>
    obtain ⟨cs,⟨h0,h⟩,hf⟩:=h
    rcases h with ⟨rfl,h⟩ | ⟨b,c,cur,rfl,h1,h2,h3⟩
    . exact ⟨cs,⟨h0,.inl ⟨rfl,h⟩⟩,hf.stp hs⟩
    . exact ⟨cs,⟨h0,.inr ⟨b,c,cur,rfl,h1,h2.stay (hb b rfl),h3⟩⟩,hf.stp hs⟩
theorem Res.stabS {r:Res} {A A':Av} {u:Value} {S:Nat->Prop} {w w':World} (h:r.ok A u w) (ho:r.own A u S w) (hb:∀ k,S k->w'.heap[k]? = w.heap[k]?) (hs:Stp A A' w w'):r.ok A' u w'/\r.own A' u S w':=by
  cases r with
  | gen B p=>exact ⟨trivial,ho.1,p.stab ho.2 hb hs⟩
  | nul=>exact ⟨trivial,ho⟩
  | box B T E x=>obtain rfl:=ho;exact ⟨Res.stab h hb hs,rfl⟩
  | vec B T E xs=>obtain rfl:=ho;exact ⟨Res.stab h hb hs,rfl⟩
structure Ch (K : Nat -> Prop) (w w' : World) : Prop where
  os:w'.os=w.os
  tape:w'.tape=w.tape
  output:w'.output=w.output
  size:w.heap.size<=w'.heap.size
  block:∀ k,k<w.heap.size->¬ K k->w'.heap[k]? = w.heap[k]?
  drawn:DLe w w'
theorem Ch.refl (K:Nat->Prop) (w:World):Ch K w w:=⟨rfl,rfl,rfl,Nat.le_refl _,fun _ _ _=>rfl,DLe.refl _⟩
theorem Fr.ch {w w':World} (h:Fr w w') (K:Nat->Prop):Ch K w w':=⟨h.os,h.tape,h.output,h.size,fun k hk _=>h.block k hk,h.drawn⟩
theorem Wr.ch {b:Nat} {w w':World} (h:Wr b w w'):Ch (fun k=>b=k) w w':=⟨h.os,h.tape,h.output,by rw [h.size];exact Nat.le_refl _,fun k _ hn=>h.block k (fun e=>hn e.symm),h.drawn⟩
theorem Ch.trans {K K':Nat->Prop} {a b c:World} (h:Ch K a b) (k:Ch K' b c) (hK:∀ i,i<a.heap.size->K' i->K i):Ch K a c:=
  ⟨k.os.trans h.os,k.tape.trans h.tape,k.output.trans h.output,Nat.le_trans h.size k.size,fun i hi hn=>(k.block i (Nat.lt_of_lt_of_le hi h.size) fun h'=>hn (hK i hi h')).trans (h.block i hi hn),DLe.trans h.drawn k.drawn⟩
theorem Ch.below {K:Nat->Prop} {B:Nat} {w w':World} (h:Ch K w w') (hB:B<=w.heap.size) (hK:∀ k,K k->B<=k):Below B w w':=
  ⟨h.os,h.tape,h.output,h.size,fun k hk=>h.block k (by omega) fun h'=>by have:=hK k h';omega⟩
theorem Fr.tr {K:Nat->Prop} {a b c:World} (h:Fr a b) (k:Ch K b c) (hK:∀ i,K i->a.heap.size<=i):Fr a c:=⟨Below.trans h.toBelow (k.below h.size hK),DLe.trans h.drawn k.drawn⟩
theorem Ch.tr {K K':Nat->Prop} {a b c:World} (h:Ch K a b) (k:Ch K' b c) (hK:∀ i,K' i->a.heap.size<=i\/K i):Ch K a c:=h.trans k fun i hi hk=>(hK i hk).resolve_left (by omega)
structure Ob where
  u:Value
  S:Nat->Prop
  r:Res
abbrev ob (u:Value) (r:Res):Ob:=⟨u,zAE u,r⟩
structure EntR where
  o:Oper
  g:Bool
  con:List Nat
  res:Option Res
  lk:Bool
  f:Av->Fact
def EntR.isDst (x:EntR) (t:Nat):Bool:=match x.o.dst with | some d=>Nat.beq d t | none=>false
def zFp (i t : Nat) : Nat -> List EntR -> Bool
  | _,[]=>true
  | j,x::l=>(!x.isDst t || Nat.beq j i || x.o.after.toList.any (fun e=>bnd e&&Nat.beq e.on i))&&zFp i t (j+1) l
def zLL (l:List EntR) (i t:Nat):Bool:=zFp i t 0 l
def zKq (l:List EntR) (t:Nat):Bool:=l.all fun x=>!x.isDst t
def zGo (l:List EntR) (A:Av) (R:Reg) (w:World) (es:List Edge):Prop:=
  ∀ (i:Nat) e x d,es[i]? = some e->bnd e=true->l[e.on]? = some x->x.o.dst=some d->x.g=true->(x.f A).ok (R d) w
def zJR (l : List EntR) (x : EntR) : Prop := match x.o.guard with
  | none=>x.g=true
  | some (j,want)=>x.con = []/\x.res=none/\∃ y c d,l[j]? = some y/\y.o.dst=some d/\(∀ A,y.f A=.raw (.bool c))/\x.g=(y.g&&(c==want))/\x.o.after.toList.any (fun e=>bnd e&&Nat.beq e.on j)=true
def zDv (ini : List Ob) (l : List EntR) (id : Nat) : Option Res := match ini[id]? with
  | some p=>some p.r
  | none=>(l[id-ini.length]?).bind (·.res)
def zFK (ini:List Ob) (k:Nat):Prop:=∃ (i:Nat) (p:Ob),ini[i]? = some p/\p.S k
abbrev zH9 (A:Av) (S S':Nat->Prop):Av:=fun b o=>(A b o/\¬ S b)\/S' b
abbrev addS (A:Av) (S:Nat->Prop):Av:=fun b o=>A b o\/S b
abbrev zKb (A:Av) (u u':Value):Av:=zH9 A (zAE u) (zAE u')
abbrev addA (A:Av) (u:Value):Av:=addS A (zAE u)
def zFu (l:List EntR) (i id:Nat):Bool:=l.all fun y=>(y.con.all fun c=>!Nat.beq c id) || y.o.after.toList.any (fun e=>bnd e&&Nat.beq e.on i)
def zHx (ini : List Ob) (l : List EntR) : Nat -> Nat -> Option Nat
  | 0,_=>none
  | n + 1, id => match ini[id]? with
    | some _=>some id
    | none => match l[id - ini.length]? with
      | some y => bif y.lk || !y.res.isSome then none else (match y.con with
        | c::_=>zHx ini l n c
        | []=>none)
      | none=>none
def Took (A:Av) (lk:Bool) (u:Value) (r:Res) (f:Av->Fact) (w:World) (v:Value) (w'':World):Prop:=
  ∃ u'',(match lk with | true=>u''=v | false=>u''=u)/\Ch (zAE u) w w''/\(∀ k,k<w.heap.size->zAE u'' k->zAE u k)/\Stp A (zKb A u u'') w w''/\r.ok (zKb A u u'') u'' w''/\(f (zKb A u u'')).ok v w''
def Made (A:Av) (r:Res) (f:Av->Fact) (w:World) (v:Value) (w'':World):Prop:=Fr w w''/\(∀ k,zAE v k->w.heap.size<=k)/\r.ok (addA A v) v w''/\(f (addA A v)).ok v w''
def zF1 (A:Av) (lk:Bool) (u:Value) (S:Nat->Prop) (r:Res) (f:Av->Fact) (w:World) (v:Value) (w'':World):Prop:=
  ∃ u'' S'',(match lk with | true=>u''=v | false=>u''=u)/\Ch S w w''/\(∀ k,k<w.heap.size->S'' k->S k)/\Stp A (zH9 A S S'') w w''/\r.ok (zH9 A S S'') u'' w''/\r.own (zH9 A S S'') u'' S'' w''/\(f (zH9 A S S'')).ok v w''
def zGB (A:Av) (r:Res) (f:Av->Fact) (w:World) (v:Value) (w'':World):Prop:=
  ∃ S,Fr w w''/\(∀ k,S k->w.heap.size<=k)/\r.ok (addS A S) v w''/\r.own (addS A S) v S w''/\(f (addS A S)).ok v w''
theorem Took.toS {A:Av} {lk:Bool} {u:Value} {r:Res} {f:Av->Fact} {w:World} {v:Value} {w'':World} (h:Took A lk u r f w v w'') (hB:r.isB=true):zF1 A lk u (zAE u) r f w v w'':=
  by obtain ⟨u'',h1,h2,h3,h4,h5,h6⟩:=h;cases lk <;> exact ⟨u'',zAE u'',h1,h2,h3,h4,h5,Res.own_mk hB,h6⟩
theorem Made.toS {A:Av} {r:Res} {f:Av->Fact} {w:World} {v:Value} {w'':World} (h:Made A r f w v w'') (hB:r.isB=true):zGB A r f w v w'':=
  let ⟨h1,h2,h3,h4⟩:=h;⟨zAE v,h1,h2,h3,Res.own_mk hB,h4⟩
def OblR (P:Program) (ini:List Ob) (l:List EntR) (A:Av) (R:Reg) (w:World) (i:Nat) (x:EntR):Prop:=
  zJR l x /\ (x.g = true -> ∀ A' R' w', Ch (zFK ini) w w' -> Stp A A' w w' -> AvOK A' w' -> (∀ t, zLL l i t = true -> R' t = R t) -> zGo l A' R' w' x.o.after.toList -> (∀ (id : Nat) p, ini[id]? = some p -> zFu l i id = true -> p.r.ok A' p.u w' /\ p.r.own A' p.u p.S w') -> (∀ b o, A b o -> ¬ zFK ini b -> A' b o) ->
    match x.con,x.res with
    | [],none=>OpR P x.o R' w' fun v w''=>(x.f A').ok v w''/\Fr w' w''
    | [],some r=>OpR P x.o R' w' (zGB A' r x.f w')
    | c :: cs, some r => ∀ (ρ : Nat -> Value) (σ : Nat -> Nat -> Prop), (∀ d, d ∈ c :: cs -> ∀ rc, zDv ini l d = some rc -> rc.ok A' (ρ d) w' /\ rc.own A' (ρ d) (σ d) w') -> (∀ d, d ∈ c :: cs -> ∀ k, σ d k -> ∀ o, A' k o) -> (∀ d, d ∈ c :: cs -> ∀ p, ini[d]? = some p -> ρ d = p.u /\ σ d = p.S) ->
        (∀ d,d ∈ c::cs->∀ y t,ini[d]? = none->l[d-ini.length]? = some y->y.lk=true->y.o.dst=some t->ρ d=R' t)->(∀ d,d ∈ c::cs->∀ (id:Nat) p,ini[id]? = some p->id ≠ d->zFu l i id=true->∀ k,σ d k->¬ p.S k)->(∀ d d',d ∈ c::cs->d' ∈ c::cs->d ≠ d'->∀ k,σ d k->¬ σ d' k)->(∀ d,d ∈ c::cs->∀ (n r:Nat) p,zHx ini l n d=some r->ini[r]? = some p->ρ d=p.u) ->
        OpR P x.o R' w' (zF1 A' x.lk (ρ c) (fun k=>∃ d,d ∈ c::cs/\σ d k) r x.f w')
    | _::_,none=>False)
def zE0 (P : Program) (ini : List Ob) (l : List EntR) (A : Av) (R : Reg) (w : World) : Nat -> List EntR -> Prop
  | _,[]=>True
  | i,x::r=>OblR P ini l A R w i x/\zE0 P ini l A R w (i+1) r
theorem zE0.at {P : Program} {ini : List Ob} {l : List EntR} {A : Av} {R : Reg} {w : World} : ∀ (r : List EntR) (k : Nat), zE0 P ini l A R w k r -> ∀ i x, r[i]? = some x -> OblR P ini l A R w (k + i) x
  | [],_,_,i,x,hx=>by simp at hx
  | y::r,k,h,0,x,hx=>by simp at hx;subst hx;exact h.1
  | y::r,k,h,i+1,x,hx=>by
    have:=zE0.at r (k+1) h.2 i x (by simpa using hx)
    rwa [show k+1+i=k+(i+1) by omega] at this
def Live (ini:List Ob) (l:List EntR) (done:Nat->Bool) (id:Nat):Prop:=
  (id<ini.length\/done (id-ini.length)=true)/\∀ (j:Nat) y,l[j]? = some y->id ∈ y.con->done j=false
structure InvR (ini : List Ob) (l : List EntR) (A : Av) (R : Reg) (w : World) (done : Nat -> Bool) (ρ : Nat -> Value) (σ : Nat -> Nat -> Prop) (A' : Av) (R' : Reg) (w' : World) : Prop where
  ch:Ch (zFK ini) w w'
  stp:Stp A A' w w'
  avok:AvOK A' w'
  av0:AvOK A w
  low:∀ b o,A b o->¬ zFK ini b->A' b o
  old:∀ t,(∀ i x,l[i]? = some x->x.isDst t=true->done i=false)->R' t=R t
  yes:∀ i x d,l[i]? = some x->done i=true->x.o.dst=some d->x.g=true->(x.f A').ok (R' d) w'
  no:∀ i x d,l[i]? = some x->done i=true->x.o.dst=some d->x.g=false->R' d=undef
  own:∀ id r,zDv ini l id=some r->Live ini l done id->r.ok A' (ρ id) w'/\r.own A' (ρ id) (σ id) w'
  av:∀ id r,zDv ini l id=some r->Live ini l done id->∀ k,σ id k->∀ o,A' k o
  dis:∀ id id' r r',zDv ini l id=some r->zDv ini l id'=some r'->Live ini l done id->Live ini l done id'->id ≠ id'->∀ k,σ id k->¬ σ id' k
  was:∀ id r,zDv ini l id=some r->Live ini l done id->∀ k,k<w.heap.size->σ id k->zFK ini k
  iniv:∀ id p,ini[id]? = some p->ρ id=p.u/\σ id=p.S
  opv:∀ i x d,l[i]? = some x->done i=true->x.res ≠ none->x.lk=true->x.o.dst=some d->ρ (ini.length+i)=R' d
  opn:∀ i x c,l[i]? = some x->done i=true->x.res ≠ none->x.lk=false->x.con.head? = some c->ρ (ini.length+i)=ρ c
  root:∀ (n id r:Nat) p,(id<ini.length\/done (id-ini.length)=true)->zHx ini l n id=some r->ini[r]? = some p->ρ id=p.u
def zF9 : List EntR -> Bool
  | []=>true
  | x::r=>(match x.o.dst with | some d=>r.all (fun y=>!y.isDst d) | none=>true)&&zF9 r
theorem zJS {x:EntR} {t:Nat}:x.isDst t=true ↔ x.o.dst=some t:=by
  unfold EntR.isDst
  cases x.o.dst <;> simp
theorem zGv : ∀ (l : List EntR), zF9 l = true -> ∀ (i j : Nat) x y d, l[i]? = some x -> l[j]? = some y -> x.o.dst = some d -> y.o.dst = some d -> i = j
  | [],_,i,_,x,_,_,hx,_,_,_=>by simp at hx
  | z::l,h,i,j,x,y,d,hx,hy,hd,hd'=>by
    simp only [zF9,Bool.and_eq_true] at h
    obtain ⟨h1,h2⟩:=h
    have key:∀ (k:Nat) (y:EntR),l[k]? = some y->y.o.dst=some d->z.o.dst=some d->False:=fun k y hy hd' hz=>by
      rw [hz] at h1
      simp only [List.all_eq_true] at h1
      have:=h1 y (List.mem_of_getElem? hy)
      rw [Bool.not_eq_true',Bool.eq_false_iff] at this
      exact this (zJS.2 hd')
    cases i with
    | zero=>
      cases j with
      | zero=>rfl
      | succ j=>
        simp at hx hy
        subst hx
        exact (key j y hy hd' hd).elim
    | succ i=>
      cases j with
      | zero=>
        simp at hx hy
        subst hy
        exact (key i x hx hd hd').elim
      | succ j=>
        simp at hx hy
        rw [zGv l h2 i j x y d hx hy hd hd']
theorem zFy {i t : Nat} : ∀ (l : List EntR) (k : Nat), zFp i t k l = true -> ∀ j x, l[j]? = some x -> x.isDst t = true -> k + j = i \/ ∃ e ∈ x.o.after, bnd e = true /\ e.on = i
  | [],_,_,j,x,hx,_=>by simp at hx
  | y::l,k,h,j,x,hx,ht=>by
    simp only [zFp,Bool.and_eq_true] at h
    cases j with
    | zero=>
      simp at hx
      subst hx
      rw [ht] at h
      simp at h
      rcases h.1 with h | h
      . left;omega
      . right
        obtain ⟨m,hm,h2,h3⟩:=h
        exact ⟨_,Array.getElem_mem hm,h2,h3⟩
    | succ j=>
      rcases zFy l (k+1) h.2 j x (by simpa using hx) ht with h | h
      . left;omega
      . right;exact h
def zH1 (f:Av->Fact):Prop:=∀ A A' w w' v,Stp A A' w w'->(f A).ok v w->(f A').ok v w'
structure Wf (ini : List Ob) (l : List EntR) : Prop where
  dist:zF9 l=true
  ust:∀ (i:Nat) x,l[i]? = some x->zH1 x.f
  con:∀ (j:Nat) y c,l[j]? = some y->c ∈ y.con->y.o.guard=none/\(∃ rc,zDv ini l c=some rc)/\(c<ini.length\/∃ e ∈ y.o.after,bnd e=true/\e.on=c-ini.length)
  one:∀ (j j':Nat) y y' c,l[j]? = some y->l[j']? = some y'->c ∈ y.con->c ∈ y'.con->j=j'
  dst:∀ (j:Nat) y,l[j]? = some y->y.con = []->y.res ≠ none->y.lk=true
section
variable {ini:List Ob} {l:List EntR} {A:Av} {R:Reg} {w:World}
theorem Live.back {done:Nat->Bool} {i:Nat} {x:EntR} (hx:l[i]? = some x) {id:Nat} (hid:id ≠ ini.length+i) (h:Live ini l (setB done i) id):Live ini l done id:=by
  refine ⟨?_,fun j y hj hy=>?_⟩
  . rcases h.1 with h1 | h1
    . exact .inl h1
    . by_cases e : id < ini.length
      . exact .inl e
      . right
        rwa [zDy _ (by omega)] at h1
  . have := h.2 j y hj hy
    by_cases e:j=i
    . subst e;rw [zDo] at this;cases this
    . rwa [zDy _ e] at this
theorem zHR {i:Nat} {x:EntR} (hx:l[i]? = some x):zDv ini l (ini.length+i)=x.res:=by
  unfold zDv
  rw [List.getElem?_eq_none (by omega)]
  simp only [Nat.add_sub_cancel_left,hx]
  rfl
theorem zFT {id:Nat} (h:id<ini.length):∃ p,ini[id]? = some p/\zDv ini l id=some p.r:=by
  refine ⟨ini[id],List.getElem?_eq_getElem h,?_⟩
  unfold zDv
  rw [List.getElem?_eq_getElem h]
theorem Fr.stp_addS {w' w'':World} {A':Av} {S:Nat->Prop} (h:Fr w' w'') (hv:∀ k,S k->w'.heap.size<=k):Stp A' (addS A' S) w' w'':=
  ⟨h.size,fun b o u hu _=>(h.cell (p:=⟨b,o,none⟩) (zEV hu)).trans hu,fun b o hb ha=>ha.elim id fun h'=>by have:=hv b h';omega⟩
theorem Fr.stp_add {w' w'':World} {A':Av} {v:Value} (h:Fr w' w'') (hv:∀ k,zAE v k->w'.heap.size<=k):Stp A' (addA A' v) w' w'':=h.stp_addS hv
theorem InvR.put {P : Program} (hw : Wf ini l) {done : Nat -> Bool} {ρ : Nat -> Value} {σ : Nat -> Nat -> Prop} {A' A'' : Av} {R' : Reg} {w' w'' : World} (h : InvR ini l A R w done ρ σ A' R' w') {i : Nat} {x : EntR} (hx : l[i]? = some x) (hnd : done i = false)
    {v:Value} {u'':Value} {S'':Nat->Prop} (hs:Stp A' A'' w' w'') (hch:Ch (fun k=>∃ c,c ∈ x.con/\σ c k) w' w'') (hav:AvOK A'' w'') (hy:x.g=true->(x.f A'').ok v w'') (hn:x.g=false->v=undef)
    (hlc:∀ c,c ∈ x.con->Live ini l done c)
    (hA:∀ k o,A' k o->(∀ c,c ∈ x.con->¬ σ c k)->A'' k o)
    (hr:∀ r,x.res=some r->(r.ok A'' u'' w''/\r.own A'' u'' S'' w'')/\(∀ k,S'' k->∀ o,A'' k o)/\(∀ k,k<w'.heap.size->S'' k->∃ c,c ∈ x.con/\σ c k)/\(∀ d,x.lk=true->x.o.dst=some d->u''=v)/\(∀ c,x.lk=false->x.con.head? = some c->u''=ρ c))
    (hxr:∀ c,c ∈ x.con->x.res ≠ none) (hco:∀ (j:Nat) y c,l[j]? = some y->done j=true->c ∈ y.con->c ≠ ini.length+i) :
    InvR ini l A R w (setB done i) (fun id=>if id=ini.length+i then u'' else ρ id) (fun id=>if id=ini.length+i then S'' else σ id) A'' (updO R' x.o.dst v) w'':=by
  have hsame:∀ (j:Nat) y d,l[j]? = some y->y.o.dst=some d->j ≠ i->updO R' x.o.dst v d=R' d:=fun j y d hj hyd e=>by
    cases hxd:x.o.dst with
    | none=>rfl
    | some d'=>exact zKC _ _ _ _ fun e'=>e (zGv l hw.dist j i y x d hj hx hyd (by rw [hxd,e']))
  have hself:∀ d,x.o.dst=some d->updO R' x.o.dst v d=v:=fun d hd=>by rw [hd];exact zHN _ _ _
  have heq:∀ (y:EntR),l[i]? = some y->y=x:=fun y hy'=>by rw [hx] at hy';injection hy' with e;exact e.symm
  have hcdone:∀ c,c ∈ x.con->Live ini l (setB done i) c->False:=fun c hc hl=>by
    have:=hl.2 i x hx hc
    rw [zDo] at this
    cases this
  have hcold:∀ c,c ∈ x.con->c ≠ ini.length+i:=fun c hc e=>by
    rcases (hlc c hc).1 with h1 | h1
    . omega
    . rw [e, Nat.add_sub_cancel_left, hnd] at h1
      cases h1
  have hlt:∀ id r,zDv ini l id=some r->Live ini l done id->∀ k,σ id k->k<w'.heap.size:=fun id r hr' hl k hk=>Res.ltS (h.own id r hr' hl).1 (h.own id r hr' hl).2 hk
  have hblk:∀ id r,zDv ini l id=some r->Live ini l done id->(∀ c,c ∈ x.con->id ≠ c)->∀ k,σ id k->w''.heap[k]? = w'.heap[k]?:=fun id r hr' hl hne k hk=>
    hch.block k (hlt id r hr' hl k hk) fun ⟨c,hc,hk'⟩=>by
      obtain ⟨_,⟨rc,hrc⟩,_⟩:=hw.con i x c hx hc
      exact h.dis id c r rc hr' hrc hl (hlc c hc) (hne c hc) k hk hk'
  refine ⟨h.ch.trans hch ?_,h.stp.trans hs,hav,h.av0,fun b o hb hn=>hA b o (h.low b o hb hn) fun c hc hk'=>?_,fun t ht=>?_,fun j y d hj hdn hyd hg=>?_,fun j y d hj hdn hyd hg=>?_,fun id r hr' hl=>?_,fun id r hr' hl k hk o=>?_,fun id id' r r' hr1 hr2 hl1 hl2 hne k hk=>?_,fun id r hr' hl k hk hown=>?_,fun id p hp=>?_,fun j y d hj hdn hres hlk hyd=>?_,fun j y c hj hdn hres hyd hc=>?_,fun n id r p hd hrt hp=>?_⟩
  . rintro k hk ⟨c, hc, hk'⟩
    obtain ⟨_,⟨rc,hrc⟩,_⟩:=hw.con i x c hx hc
    exact h.was c rc hrc (hlc c hc) k hk hk'
  . obtain ⟨_, ⟨rc, hrc⟩, _⟩ := hw.con i x c hx hc
    exact hn (h.was c rc hrc (hlc c hc) b (h.av0 b o hb) hk')
  . have h1:x.o.dst ≠ some t:=fun e=>by
      have:=ht i x hx (zJS.2 e)
      rw [zDo] at this
      cases this
    have h2:updO R' x.o.dst v t=R' t:=by
      cases hxd:x.o.dst with
      | none=>rfl
      | some d=>exact zKC _ _ _ _ fun e=>h1 (by rw [hxd,e])
    rw [h2]
    refine h.old t fun j y hj hy=>?_
    have:=ht j y hj hy
    by_cases e:j=i
    . subst e;rw [zDo] at this;cases this
    . rwa [zDy _ e] at this
  . by_cases e : j = i
    . subst e
      obtain rfl:=heq y hj
      rw [hself d hyd]
      exact hy hg
    . rw [zDy _ e] at hdn
      rw [hsame j y d hj hyd e]
      exact hw.ust j y hj _ _ _ _ _ hs (h.yes j y d hj hdn hyd hg)
  . by_cases e : j = i
    . subst e
      obtain rfl:=heq y hj
      rw [hself d hyd]
      exact hn hg
    . rw [zDy _ e] at hdn
      rw [hsame j y d hj hyd e]
      exact h.no j y d hj hdn hyd hg
  . by_cases e : id = ini.length + i
    . rw [if_pos e, if_pos e]
      rw [e,zHR hx] at hr'
      exact (hr r hr').1
    . rw [if_neg e, if_neg e]
      have hl':=hl.back hx e
      exact Res.stabS (h.own id r hr' hl').1 (h.own id r hr' hl').2 (hblk id r hr' hl' fun c hc e'=>hcdone c hc (e' ▸ hl)) hs
  . by_cases e : id = ini.length + i
    . rw [if_pos e] at hk
      rw [e,zHR hx] at hr'
      exact (hr r hr').2.1 k hk o
    . rw [if_neg e] at hk
      have hl':=hl.back hx e
      refine hA k o (h.av id r hr' hl' k hk o) fun c hc hk'=>?_
      obtain ⟨_,⟨rc,hrc⟩,_⟩:=hw.con i x c hx hc
      exact h.dis id c r rc hr' hrc hl' (hlc c hc) (fun e'=>hcdone c hc (e' ▸ hl)) k hk hk'
  . have key:∀ (id':Nat) r',zDv ini l id'=some r'->Live ini l (setB done i) id'->id' ≠ ini.length+i->x.res ≠ none->∀ k,S'' k->σ id' k->False:=fun id' r' hr2 hl2 e2 hxn k hk hk2=>by
      obtain ⟨r0,hr0⟩:=Option.ne_none_iff_exists'.1 hxn
      have hl':=hl2.back hx e2
      have hlt2:=hlt id' r' hr2 hl' k hk2
      obtain ⟨c,hc,hk3⟩:=(hr r0 hr0).2.2.1 k hlt2 hk
      obtain ⟨_,⟨rc,hrc⟩,_⟩:=hw.con i x c hx hc
      exact h.dis id' c r' rc hr2 hrc hl' (hlc c hc) (fun e'=>hcdone c hc (e' ▸ hl2)) k hk2 hk3
    by_cases e1:id=ini.length+i
    . have e2 : id' ≠ ini.length + i := fun e => hne (e1.trans e.symm)
      rw [if_pos e1] at hk
      rw [if_neg e2]
      intro hk2
      rw [e1,zHR hx] at hr1
      exact key id' r' hr2 hl2 e2 (by rw [hr1];simp) k hk hk2
    . rw [if_neg e1] at hk
      by_cases e2:id'=ini.length+i
      . rw [if_pos e2]
        intro hk2
        rw [e2,zHR hx] at hr2
        exact key id r hr1 hl1 e1 (by rw [hr2];simp) k hk2 hk
      . rw [if_neg e2]
        exact h.dis id id' r r' hr1 hr2 (hl1.back hx e1) (hl2.back hx e2) hne k hk
  . by_cases e : id = ini.length + i
    . rw [if_pos e] at hown
      rw [e,zHR hx] at hr'
      obtain ⟨c,hc,hk3⟩:=(hr r hr').2.2.1 k (Nat.lt_of_lt_of_le hk h.ch.size) hown
      obtain ⟨_,⟨rc,hrc⟩,_⟩:=hw.con i x c hx hc
      exact h.was c rc hrc (hlc c hc) k hk hk3
    . rw [if_neg e] at hown
      exact h.was id r hr' (hl.back hx e) k hk hown
  . have : id < ini.length := (List.getElem?_eq_some_iff.1 hp).1
    rw [if_neg (by omega),if_neg (by omega)]
    exact h.iniv id p hp
  . by_cases e : j = i
    . subst e
      obtain rfl:=heq y hj
      rw [if_pos rfl,hself d hyd]
      obtain ⟨r0,hr0⟩:=Option.ne_none_iff_exists'.1 hres
      exact (hr r0 hr0).2.2.2.1 d hlk hyd
    . rw [zDy _ e] at hdn
      rw [if_neg (by omega),hsame j y d hj hyd e]
      exact h.opv j y d hj hdn hres hlk hyd
  . by_cases e : j = i
    . subst e
      obtain rfl:=heq y hj
      rw [if_pos rfl,if_neg (hcold c (List.mem_of_head? hc))]
      obtain ⟨r0,hr0⟩:=Option.ne_none_iff_exists'.1 hres
      exact (hr r0 hr0).2.2.2.2 c hyd hc
    . rw [zDy _ e] at hdn
      have hcc:c ≠ ini.length+i:=hco j y c hj hdn (List.mem_of_head? hc)
      rw [if_neg (by omega),if_neg hcc]
      exact h.opn j y c hj hdn hres hyd hc
  . by_cases e : id = ini.length + i
    . rw [if_pos e]
      subst e
      cases n with
      | zero=>cases hrt
      | succ n=>
        unfold zHx at hrt
        rw [List.getElem?_eq_none (Nat.le_add_right _ _)] at hrt
        simp only [Nat.add_sub_cancel_left,hx] at hrt
        cases hlk:x.lk with
        | true=>rw [hlk] at hrt;cases hrt
        | false=>
          cases hres:x.res with
          | none=>rw [hlk,hres] at hrt;cases hrt
          | some r0=>
            cases hcn:x.con with
            | nil=>rw [hlk,hres,hcn] at hrt;cases hrt
            | cons c cs=>
              rw [hlk,hres,hcn] at hrt
              have hm:c ∈ x.con:=by rw [hcn];exact .head _
              rw [(hr r0 hres).2.2.2.2 c hlk (by rw [hcn];rfl)]
              exact h.root n c r p (hlc c hm).1 hrt hp
    . rw [if_neg e]
      refine h.root n id r p ?_ hrt hp
      rcases hd with hd | hd
      . exact .inl hd
      . by_cases hl : id < ini.length
        . exact .inl hl
        . exact .inr (by rwa [zDy _ (by omega)] at hd)
theorem zNe {R:Reg} {w:World} {A:Av} (es:List Edge) (h:∀ e ∈ es,bnd e=true->∀ x d,l[e.on]? = some x->x.o.dst=some d->x.g=true->(x.f A).ok (R d) w):zGo l A R w es:=
  fun i e x d he hb=>h e (List.mem_of_getElem? he) hb x d
theorem zJM {P : Program} {n : Nat} {ops : Array Oper} (hw : Wf ini l) (hops : ∀ (i : Nat) x, l[i]? = some x -> ops[i]? = some x.o)
    (hsz:∀ (i:Nat) x d,l[i]? = some x->x.o.dst=some d->d<n) {done:Nat->Bool} {i:Nat} {x:EntR} (hx:l[i]? = some x) (hob:OblR P ini l A R w i x) (hnd:done i=false)
    (hdep:∀ e ∈ x.o.after,bnd e=true->done e.on=true) (hlate:∀ (j:Nat) y,l[j]? = some y->(∃ e ∈ y.o.after,bnd e=true/\e.on=i)->done j=false)
    {a:Act} {ρ:Nat->Value} {σ:Nat->Nat->Prop} {A':Av} {w':World} (ha:Pl n a) (hI:InvR ini l A R w done ρ σ A' (regs a) w') {Q:Exit->Act->World->Prop} {K:Act->World->Prop}
    (hK:∀ a' ρ' σ' A'' w'',Pl n a'->InvR ini l A R w (setB done i) ρ' σ' A'' (regs a') w''->K a' w''):wpOp P ops Q i K a w':=by
  unfold wpOp
  rw [hops i x hx]
  dsimp only
  obtain ⟨hg,hob⟩:=hob
  have hco:∀ (j:Nat) y c,l[j]? = some y->done j=true->c ∈ y.con->c ≠ ini.length+i:=fun j y c hj hdn hc e=>by
    obtain ⟨_,_,h3⟩:=hw.con j y c hj hc
    rcases h3 with h3 | ⟨e',he',hb',hon⟩
    . omega
    . have := hlate j y hj ⟨e', he', hb', by omega⟩
      rw [hdn] at this
      cases this
  have hlc:∀ c,c ∈ x.con->Live ini l done c:=fun c hc=>by
    obtain ⟨_,_,h3⟩:=hw.con i x c hx hc
    refine ⟨?_,fun j y hj hy=>?_⟩
    . rcases h3 with h3 | ⟨e, he, hb, hon⟩
      . exact .inl h3
      . right
        rw [<- hon]
        exact hdep e he hb
    . rw [hw.one j i y x c hj hx hy hc]
      exact hnd
  have hput : ∀ (v u'' : Value) (S'' : Nat -> Prop) (A'' : Av) (w'' : World), Stp A' A'' w' w'' -> Ch (fun k => ∃ c, c ∈ x.con /\ σ c k) w' w'' -> AvOK A'' w'' -> (x.g = true -> (x.f A'').ok v w'') -> (x.g = false -> v = undef) ->
      (∀ k o,A' k o->(∀ c,c ∈ x.con->¬ σ c k)->A'' k o) ->
      (∀ r,x.res=some r->(r.ok A'' u'' w''/\r.own A'' u'' S'' w'')/\(∀ k,S'' k->∀ o,A'' k o)/\(∀ k,k<w'.heap.size->S'' k->∃ c,c ∈ x.con/\σ c k)/\(∀ d,x.lk=true->x.o.dst=some d->u''=v)/\(∀ c,x.lk=false->x.con.head? = some c->u''=ρ c)) ->
      (∀ c,c ∈ x.con->x.res ≠ none)->K (a.put x.o.dst v) w'':=fun v u'' S'' A'' w'' h1 h2 h3 h4 h5 h6 h7 h8=>by
    refine hK (a.put x.o.dst v) (fun id=>if id=ini.length+i then u'' else ρ id) (fun id=>if id=ini.length+i then S'' else σ id) A'' w'' ⟨by rw [zEl];exact ha.1,by rw [zGc];exact ha.2⟩ ?_
    rw [zGd _ _ _ fun d hdd=>Nat.lt_of_lt_of_le (hsz i x d hx hdd) ha.2]
    exact hI.put (P:=P) hw hx hnd h1 h2 h3 h4 h5 hlc h6 h7 h8 hco
  have hskip:x.g=false->x.con = []->x.res=none->K (a.put x.o.dst undef) w':=fun h1 h2 h3=>
    hput undef undef (fun _=>False) A' w' ((Fr.refl _).stp A') (Ch.refl _ _) hI.avok (fun h=>by rw [h1] at h;cases h) (fun _=>rfl) (fun k o h _=>h) (fun r hr=>by rw [h3] at hr;cases hr) (fun c hc=>by rw [h2] at hc;cases hc)
  have hrun:x.g=true->x.o.wp P a w' K Q:=fun hgt=>by
    have h1:=hob hgt A' (regs a) w' hI.ch hI.stp hI.avok (fun t ht=>hI.old t fun j y hj hy=>by
      rcases zFy l 0 ht j y hj hy with h | h
      . rw [Nat.zero_add] at h
        rw [h]
        exact hnd
      . exact hlate j y hj h) (zNe _ fun e he hb y d hy hyd hyg=>hI.yes e.on y d hy (hdep e (Array.mem_toList_iff.1 he) hb) hyd hyg) (fun id q hq hrk=>by
      have hid:id<ini.length:=(List.getElem?_eq_some_iff.1 hq).1
      obtain ⟨q',hq',hr⟩:=zFT (l:=l) hid
      rw [hq] at hq'
      injection hq' with hq'
      subst hq'
      have:=hI.own id q.r hr ⟨.inl hid,fun j y hj hy=>?_⟩
      . rwa [(hI.iniv id q hq).1,(hI.iniv id q hq).2] at this
      . simp only [zFu, List.all_eq_true] at hrk
        have h2:=hrk y (List.mem_of_getElem? hj)
        rw [Bool.or_eq_true] at h2
        rcases h2 with h2 | h2
        . have h3 := List.all_eq_true.1 h2 id hy
          simp at h3
        . simp at h2
          obtain ⟨m,hm,h3,h4⟩:=h2
          exact hlate j y hj ⟨_,Array.getElem_mem hm,h3,h4⟩) hI.low
    have hfin:∀ (C:Value->World->Prop),OpR P x.o (regs a) w' C->(∀ v w'',C v w''->K (a.put x.o.dst v) w'')->x.o.wp P a w' K Q:=fun C hC hk=>by
      unfold Oper.wp
      rw [zHW]
      refine OpK.elim (C:=Oper.upon P x.o a K Q) hC (fun v w'' h1=>?_) (fun w'' h1=>?_) fun f args w'' h1=>?_
      . rw [Oper.upon_value]
        exact hk _ _ h1
      . rw [Oper.upon_skip]
        exact hk _ _ h1
      . rw [Oper.upon_enter]
        refine Calls.mono h1 ?_
        rintro e w3 ⟨v,rfl,h2⟩
        exact hk _ _ h2
    cases hc:x.con with
    | nil=>
      cases hr:x.res with
      | none=>
        rw [hc,hr] at h1
        refine hfin _ h1 fun v w'' ⟨h2,h3⟩=>hput v undef (fun _=>False) A' w'' (h3.stp A') (h3.ch _) (hI.avok.fr h3.size) (fun _=>h2) (fun h=>by rw [hgt] at h;cases h) (fun k o h _=>h) (fun r hr'=>by rw [hr] at hr';cases hr') (fun c hc'=>by rw [hc] at hc';cases hc')
      | some r=>
        rw [hc,hr] at h1
        refine hfin _ h1 fun v w'' ⟨S,h2,h3,h4,h4',h5⟩=>hput v v S (addS A' S) w'' (h2.stp_addS h3) (h2.ch _) (fun b o hb=>hb.elim (fun h=>Nat.lt_of_lt_of_le (hI.avok b o h) h2.size) fun h=>Res.ltS h4 h4' h) (fun _=>h5) (fun h=>by rw [hgt] at h;cases h) (fun k o h _=>.inl h) (fun r' hr'=>?_) (fun c hc'=>by rw [hc] at hc';cases hc')
        rw [hr] at hr'
        injection hr' with hr'
        subst hr'
        exact ⟨⟨h4,h4'⟩,fun k hk o=>.inr hk,fun k hk hk'=>by have:=h3 k hk';omega,fun _ _ _=>rfl,fun c _ hc'=>by rw [hc] at hc';cases hc'⟩
    | cons c cs=>
      have hin:∀ d,d ∈ c::cs->d ∈ x.con:=fun d hd=>by rw [hc];exact hd
      have hres:∀ d,d ∈ c::cs->∃ rc,zDv ini l d=some rc:=fun d hd=>(hw.con i x d hx (hin d hd)).2.1
      cases hr:x.res with
      | none=>
        rw [hc,hr] at h1
        exact h1.elim
      | some r=>
        rw [hc,hr] at h1
        have hset:(fun k=>∃ d,d ∈ x.con/\σ d k)=fun k=>∃ d,d ∈ c::cs/\σ d k:=by rw [hc]
        refine hfin _ (h1 ρ σ (fun d hd rc hrc=>hI.own d rc hrc (hlc d (hin d hd))) (fun d hd k hk o=>?_) (fun d hd p hp=>hI.iniv d p hp) (fun d hd y t hci hy hlk hyd=>?_) (fun d hd id p hp hne hrk k hk hk'=>?_) (fun d d' hd hd' hne k hk hk'=>?_) (fun d hd n r p hrt hp=>hI.root n d r p (hlc d (hin d hd)).1 hrt hp)) fun v w'' ⟨u'',S'',h2,h3,h4,h5,h6,h6',h7⟩=>hput v u'' S'' (zH9 A' (fun k=>∃ d,d ∈ c::cs/\σ d k) S'') w'' h5 (by rw [hset];exact h3) (fun b o hb=>hb.elim (fun h=>Nat.lt_of_lt_of_le (hI.avok b o h.1) h3.size) fun h=>Res.ltS h6 h6' h) (fun _=>h7) (fun h=>by rw [hgt] at h;cases h) (fun k o h hn=>.inl ⟨h,fun ⟨d,hd,hk⟩=>hn d (hin d hd) hk⟩) (fun r' hr'=>?_) (fun c' _=>by rw [hr];simp)
        . obtain ⟨rc, hrc⟩ := hres d hd
          exact hI.av d rc hrc (hlc d (hin d hd)) k hk o
        . obtain ⟨rc, hrc⟩ := hres d hd
          have hge:ini.length<=d:=by
            rcases Nat.lt_or_ge d ini.length with h | h
            . rw [List.getElem?_eq_getElem h] at hci;cases hci
            . exact h
          have hd':done (d-ini.length)=true:=(hlc d (hin d hd)).1.resolve_left (by omega)
          have := hI.opv (d - ini.length) y t hy hd' (by
            unfold zDv at hrc
            rw [hci] at hrc
            simp only [hy] at hrc
            intro e
            rw [Option.bind_some,e] at hrc
            cases hrc) hlk hyd
          rwa [show ini.length+(d-ini.length)=d by omega] at this
        . obtain ⟨rc, hrc⟩ := hres d hd
          have hid:id<ini.length:=(List.getElem?_eq_some_iff.1 hp).1
          obtain ⟨q',hq',hrq⟩:=zFT (l:=l) hid
          rw [hp] at hq'
          injection hq' with hq'
          subst hq'
          have hlv:Live ini l done id:=⟨.inl hid,fun j y hj hy=>by
            simp only [zFu,List.all_eq_true] at hrk
            have h2:=hrk y (List.mem_of_getElem? hj)
            rw [Bool.or_eq_true] at h2
            rcases h2 with h2 | h2
            . have h3 := List.all_eq_true.1 h2 id hy
              simp at h3
            . simp at h2
              obtain ⟨m,hm,h3,h4⟩:=h2
              exact hlate j y hj ⟨_,Array.getElem_mem hm,h3,h4⟩⟩
          refine hI.dis d id rc p.r hrc hrq (hlc d (hin d hd)) hlv (Ne.symm hne) k hk ?_
          rw [(hI.iniv id p hp).2]
          exact hk'
        . obtain ⟨rc, hrc⟩ := hres d hd
          obtain ⟨rc',hrc'⟩:=hres d' hd'
          exact hI.dis d d' rc rc' hrc hrc' (hlc d (hin d hd)) (hlc d' (hin d' hd')) hne k hk hk'
        . rw [hr] at hr'
          injection hr' with hr'
          subst hr'
          refine ⟨⟨h6,h6'⟩,fun k hk o=>.inr hk,fun k hk hk'=>?_,fun d hd _=>?_,fun c' hd hc'=>?_⟩
          . obtain ⟨d, hd, h⟩ := h4 k hk hk'
            exact ⟨d,hin d hd,h⟩
          . rw [hd] at h2;exact h2
          . rw [hc] at hc'
            injection hc' with hc'
            subst hc'
            rw [hd] at h2
            exact h2
  unfold zJR at hg
  cases hgd:x.o.guard with
  | none=>
    rw [hgd] at hg
    rw [if_pos (by simp [Region.wanted,hgd])]
    exact .inl (hrun hg)
  | some p=>
    obtain ⟨j,want⟩:=p
    rw [hgd] at hg
    obtain ⟨hcn,hrn,y,c,d,hy,hyd,hyf,hxg,haf⟩:=hg
    simp only [List.any_eq_true,Bool.and_eq_true] at haf
    obtain ⟨e0,he0,hb,hon⟩:=haf
    have hdone:done j=true:=by
      have:=hdep e0 (Array.mem_toList_iff.1 he0) hb
      rwa [Nat.eq_of_beq_eq_true hon] at this
    have hyo:=hops j y hy
    have hyl:yielded ops a.tmps j=(match regs a d with | .bool b=>some b | _=>none):=by
      simp only [yielded,hyo,regs]
      simp [hyd]
      cases a.tmps[d]? with
      | none=>rfl
      | some v=>cases v <;> rfl
    cases hyg:y.g with
    | true=>
      have h1:=hI.yes j y d hy hdone hyd hyg
      rw [hyf] at h1
      have h2:regs a d=.bool c:=h1
      rw [h2] at hyl
      rw [hyg,Bool.true_and] at hxg
      by_cases hcw:c=want
      . subst hcw
        rw [if_pos (by simp [Region.wanted,hgd,hyl])]
        exact .inl (hrun (by rw [hxg];simp))
      . rw [if_neg (by simp [Region.wanted, hgd, hyl, hcw])]
        exact hskip (by rw [hxg];simpa using hcw) hcn hrn
    | false=>
      have h1:=hI.no j y d hy hdone hyd hyg
      rw [h1] at hyl
      rw [hyg,Bool.false_and] at hxg
      rw [if_neg (by simp [Region.wanted,hgd,hyl,undef])]
      exact hskip hxg hcn hrn
theorem zKV {P : Program} {n : Nat} {ops : Array Oper} (hw : Wf ini l) (hops : ∀ (i : Nat) x, l[i]? = some x -> ops[i]? = some x.o)
    (hsz:∀ (i:Nat) x d,l[i]? = some x->x.o.dst=some d->d<n) (ho:zE0 P ini l A R w 0 l) {done:Nat->Bool} {i:Nat} {x:EntR} (hx:l[i]? = some x) (hnd:done i=false)
    (hdep:∀ e ∈ x.o.after,bnd e=true->done e.on=true) (hlate:∀ (j:Nat) y,l[j]? = some y->(∃ e ∈ y.o.after,bnd e=true/\e.on=i)->done j=false)
    {a:Act} {ρ:Nat->Value} {σ:Nat->Nat->Prop} {A':Av} {w':World} (ha:Pl n a) (hI:InvR ini l A R w done ρ σ A' (regs a) w') {Q:Exit->Act->World->Prop} {K:Act->World->Prop}
    (hK:∀ a' ρ' σ' A'' w'',Pl n a'->InvR ini l A R w (setB done i) ρ' σ' A'' (regs a') w''->K a' w''):wpOp P ops Q i K a w':=
  zJM hw hops hsz hx (by have:=zE0.at l 0 ho i x hx;rwa [Nat.zero_add] at this) hnd hdep hlate ha hI hK
structure IniOK (ini : List Ob) (A : Av) (w : World) : Prop where
  ok:∀ (i:Nat) p,ini[i]? = some p->p.r.ok A p.u w/\∀ k,p.S k->∀ o,A k o
  own:∀ (i:Nat) p,ini[i]? = some p->p.r.own A p.u p.S w
  dis:∀ (i j:Nat) p q,ini[i]? = some p->ini[j]? = some q->i ≠ j->∀ k,p.S k->¬ q.S k
theorem InvR.start (hi:IniOK ini A w) (hA:AvOK A w) {w1:World} (hf:Fr w w1):InvR ini l A R w (fun _=>false) (fun id=>((ini[id]?).map (·.u)).getD undef) (fun id=>((ini[id]?).map (·.S)).getD fun _=>False) A R w1:=by
  have hlive:∀ id,Live ini l (fun _=>false) id->id<ini.length:=fun id h=>h.1.resolve_right Bool.false_ne_true
  have key:∀ id r,zDv ini l id=some r->Live ini l (fun _=>false) id->∃ p,ini[id]? = some p/\p.r=r/\((ini[id]?).map (·.u)).getD undef=p.u/\(((ini[id]?).map (·.S)).getD fun _=>False)=p.S:=fun id r hr hl=>by
    obtain ⟨p,hp,hr'⟩:=zFT (l:=l) (hlive id hl)
    rw [hr'] at hr
    injection hr with hr
    exact ⟨p,hp,hr,by rw [hp];rfl,by rw [hp];rfl⟩
  refine ⟨hf.ch _,hf.stp A,hA.fr hf.size,hA,fun _ _ h _=>h,fun _ _=>rfl,fun i x d _ h=>absurd h Bool.false_ne_true,fun i x d _ h=>absurd h Bool.false_ne_true,fun id r hr hl=>?_,fun id r hr hl k hk o=>?_,fun id id' r r' hr hr' hl hl' hne k hk=>?_,fun id r hr hl k _ hk=>?_,fun id p hp=>(by rw [hp];exact ⟨rfl,rfl⟩),fun i x d _ h=>absurd h Bool.false_ne_true,fun i x c _ h=>absurd h Bool.false_ne_true,fun n id r p hd hrt hp=>?_⟩
  . obtain ⟨p, hp, rfl, he, hs⟩ := key id r hr hl
    rw [he,hs]
    exact Res.stabS (hi.ok id p hp).1 (hi.own id p hp) (fun k hk=>hf.block k (Res.ltS (hi.ok id p hp).1 (hi.own id p hp) hk)) (hf.stp A)
  . obtain ⟨p, hp, rfl, he, hs⟩ := key id r hr hl
    rw [hs] at hk
    exact (hi.ok id p hp).2 k hk o
  . obtain ⟨p, hp, rfl, he, hs⟩ := key id r hr hl
    obtain ⟨q,hq,rfl,he',hs'⟩:=key id' r' hr' hl'
    rw [hs] at hk
    rw [hs']
    exact hi.dis id id' p q hp hq hne k hk
  . obtain ⟨p, hp, rfl, he, hs⟩ := key id r hr hl
    rw [hs] at hk
    exact ⟨id,p,hp,hk⟩
  . have hl : id < ini.length := hd.resolve_right Bool.false_ne_true
    cases n with
    | zero=>cases hrt
    | succ n=>
      unfold zHx at hrt
      rw [List.getElem?_eq_getElem hl] at hrt
      obtain rfl:id=r:=Option.some.inj hrt
      rw [hp]
      rfl
def zKe (ini:List Ob) (l:List EntR) (A:Av) (R:Reg) (w:World) (K:Reg->World->Prop):Prop:=
  ∀ done ρ σ A' R' w',(∀ i,i<l.length->done i=true)->InvR ini l A R w done ρ σ A' R' w'->K R' w'
theorem HT.textR {P : Program} {n : Nat} {Q : Exit -> Reg -> World -> Prop} {id : Nat} (ini : List Ob) (l : List EntR) (hb : zCW 0 (l.map (·.o)) = true) (hs : zFM n (l.map (·.o)) = true) (hw : Wf ini l) (hi : IniOK ini A w) (hA : AvOK A w)
    (ho:zE0 P ini l A R w 0 l) (ha:zKe ini l A R w (fun R w=>Q .normal R w)):HT P n (.region id (l.map (·.o)).toArray false) R w Q:=fun a hpl hR=>by
  refine wp_region ?_
  have hsize:(l.map (·.o)).toArray.size=l.length:=by simp
  rw [hsize,List.range_eq_range']
  have hops:∀ (i:Nat) x,l[i]? = some x->(l.map (·.o)).toArray[i]? = some x.o:=fun i x hx=>by
    simp only [List.getElem?_toArray,List.getElem?_map,hx]
    rfl
  have hmap:∀ (i:Nat) x,l[i]? = some x->(l.map (·.o))[i]? = some x.o:=fun i x hx=>by
    rw [List.getElem?_map,hx]
    rfl
  have key : ∀ m k, m + k = l.length -> ∀ (a : Act) (ρ : Nat -> Value) (σ : Nat -> Nat -> Prop) (A' : Av) (w' : World), Pl n a -> InvR ini l A R w (fun i => Nat.blt i k) ρ σ A' (regs a) w' ->
      wpOps P (l.map (·.o)).toArray (PQ n Q) (List.range' k m) a w':=by
    intro m
    induction m with
    | zero=>
      intro k hk a ρ σ A' w' hpl hI
      simp only [List.range'_zero,wpOps]
      exact ⟨hpl,ha _ ρ σ A' _ _ (fun i hi=>by simpa using (by omega:i<k)) hI⟩
    | succ m ih=>
      intro k hk a ρ σ A' w' hpl hI
      rw [List.range'_succ,wpOps_cons]
      have hkl:k<l.length:=by omega
      have hx:l[k]? = some l[k]:=List.getElem?_eq_getElem hkl
      refine zKV (done:=fun i=>Nat.blt i k) hw hops (fun i x d hx hdd=>zEm hs (hmap i x hx) hdd) ho hx (zHD (Nat.le_refl k)) (fun e he hbe=>?_) (fun j y hy hex=>?_) hpl hI (fun a' ρ' σ' A'' w'' hpl' hI'=>ih (k+1) (by omega) a' ρ' σ' A'' w'' hpl' ?_)
      . have := zCY _ 0 hb k _ (hmap k _ hx) e he hbe
        show Nat.blt e.on k=true
        simpa using this
      . obtain ⟨e, he, hbe, hon⟩ := hex
        have:=zCY _ 0 hb j _ (hmap j _ hy) e he hbe
        exact zHD (by omega)
      . have:setB (fun i=>Nat.blt i k) k=fun i=>Nat.blt i (k+1):=by
          funext i
          by_cases e:i=k
          . subst e;rw [zDo];simp
          . rw [zDy _ e,Bool.eq_iff_iff];simp;omega
        rw [<- this]
        exact hI'
  have h0:=InvR.start (l:=l) (R:=R) hi hA (Fr.refl w)
  rw [<- hR] at h0 ha ho key
  refine key l.length 0 (by omega) a (fun id=>((ini[id]?).map (·.u)).getD undef) (fun id=>((ini[id]?).map (·.S)).getD fun _=>False) A w hpl ?_
  have:(fun i=>Nat.blt i 0)=fun _=>false:=by
    funext i
    exact zHD (Nat.zero_le i)
  rw [this]
  exact h0
theorem zPN {P : Program} {n : Nat} {Q : Exit -> Reg -> World -> Prop} {id : Nat} (ini : List Ob) (l : List EntR) (hm : P.follows .mixedOrders = true) (hb : zCW 0 (l.map (·.o)) = true) (hs : zFM n (l.map (·.o)) = true) (hw : Wf ini l) (hi : IniOK ini A w) (hA : AvOK A w)
    (ho:zE0 P ini l A R w 0 l) (ha:zKe ini l A R w (fun R w=>Q .normal R w)):HT P n (.region id (l.map (·.o)).toArray true) R w Q:=fun a hpl hR=>by
  refine wp_region_any hm ?_
  have hsize:(l.map (·.o)).toArray.size=l.length:=by simp
  have hmap:∀ (i:Nat) x,l[i]? = some x->(l.map (·.o))[i]? = some x.o:=fun i x hx=>by
    rw [List.getElem?_map,hx]
    rfl
  have hbs:=zCY _ 0 hb
  have hopsl:∀ (i:Nat) x,l[i]? = some x->(l.map (·.o)).toArray[i]? = some x.o:=fun i x hx=>by
    simp only [List.getElem?_toArray]
    exact hmap i x hx
  generalize hops:(l.map (·.o)).toArray=ops at *
  have key : ∀ f (listed : Array Bool) (a : Act) (ρ : Nat -> Value) (σ : Nat -> Nat -> Prop) (A' : Av) (w' : World), listed.size = ops.size -> left listed l.length = f -> (∀ (k : Nat) y, l[k]? = some y -> listed.getD k false = true -> ∀ e ∈ y.o.after, bnd e = true -> listed.getD e.on false = true) -> Pl n a ->
      InvR ini l A R w (fun i=>listed.getD i false) ρ σ A' (regs a) w'->wpAny P .any ops (PQ n Q) f listed a w':=by
    intro f
    induction f with
    | zero=>
      intro listed a ρ σ A' w' hls hf hcl hpl hI
      have hall:=zGE _ hf
      refine ⟨?_,hpl,ha _ ρ σ A' _ _ hall hI⟩
      cases hr:Region.ready .any ops listed with
      | nil=>rfl
      | cons j r=>
        have hj:j ∈ Region.ready .any ops listed:=by rw [hr];simp
        obtain ⟨h1,o,ho',_⟩:=mem_ready.1 hj
        have hlt:j<ops.size:=(Array.getElem?_eq_some_iff.1 ho').1
        have h2:=hall j (by omega)
        simp [hls ▸ hlt] at h1 h2
        rw [h1] at h2
        cases h2
    | succ f ih=>
      intro listed a ρ σ A' w' hls hf hcl hpl hI
      obtain ⟨i,hi',hi0,hmin⟩:=zJf (listed:=listed) l.length (by omega)
      have hmem:i ∈ Region.ready .any ops listed:=by
        have hx:l[i]? = some l[i]:=List.getElem?_eq_getElem hi'
        refine mem_ready.2 ⟨?_,_,hopsl i _ hx,fun e he hbe=>?_⟩
        . have : i < listed.size := by omega
          simp [this] at hi0 ⊢
          exact hi0
        . have := hbs i _ (hmap i _ hx) e he hbe
          exact hmin e.on (by omega)
      refine ⟨fun hr=>(by rw [hr] at hmem;cases hmem),fun j hj=>?_⟩
      obtain ⟨hj0,o,hoj,hall⟩:=mem_ready.1 hj
      have hjs:j<ops.size:=(Array.getElem?_eq_some_iff.1 hoj).1
      have hj0':listed.getD j false=false:=by
        simp [hls ▸ hjs] at hj0 ⊢
        exact hj0
      have hjl:j<l.length:=by omega
      have hx:l[j]? = some l[j]:=List.getElem?_eq_getElem hjl
      have hoe:o=l[j].o:=by
        have:=hopsl j _ hx
        rw [hoj] at this
        injection this
      subst hoe
      refine zKV (done:=fun i=>listed.getD i false) hw hopsl (fun i x d hx hdd=>zEm hs (hmap i x hx) hdd) ho hx hj0' hall (fun k y hy hex=>?_) hpl hI (fun a' ρ' σ' A'' w'' hpl' hI'=>ih (listed.setIfInBounds j true) a' ρ' σ' A'' w'' (by simpa using hls) ?_ (fun k y hy hk e he hbe=>?_) hpl' ?_)
      . obtain ⟨e, he, hbe, hon⟩ := hex
        cases hk:listed.getD k false
        . rfl
        . have := hcl k y hy hk e he hbe
          rw [hon,hj0'] at this
          cases this
      . have := zJl (i := j) (by omega) hj0' l.length
        rw [if_pos hjl] at this
        omega
      . by_cases e2 : k = j
        . subst e2
          rw [hx] at hy
          injection hy with hy
          subst hy
          exact getD_set_true (hall e he hbe)
        . rw [getD_set_ne false (Ne.symm e2)] at hk
          exact getD_set_true (hcl k y hy hk e he hbe)
      . have:setB (fun i=>listed.getD i false) j=fun i=>(listed.setIfInBounds j true).getD i false:=by
          funext k
          by_cases e:k=j
          . subst e;rw [zDo,zF5 (by omega)]
          . rw [zDy _ e,getD_set_ne false (Ne.symm e)]
        rw [<- this]
        exact hI'
  have hrep:∀ j,(Array.replicate ops.size false).getD j false=false:=fun j=>by
    by_cases h:j<ops.size <;> simp [h]
  have h0:=InvR.start (l:=l) (R:=R) hi hA (Fr.drew w)
  rw [<- hR] at h0 key
  rw [hsize]
  rw [hsize] at hrep key
  refine key l.length (Array.replicate l.length false) a (fun id=>((ini[id]?).map (·.u)).getD undef) (fun id=>((ini[id]?).map (·.S)).getD fun _=>False) A _ (by simp) (zJy _ _ (by omega)) (fun k y _ hk=>absurd ((hrep k).symm.trans hk) Bool.false_ne_true) hpl ?_
  have:(fun i=>(Array.replicate l.length false).getD i false)=fun _=>false:=funext hrep
  rw [this]
  exact h0
end
section
variable {α β:Type}
structure FldS (E : Enc α) (off : Nat) (F : Enc β) (s : α -> β -> α) : Prop where
  le:off+F.size<=E.size
  put:∀ {A w x y cs ds},E.rep A w x cs->F.rep A w y ds->E.rep A w (s x y) (cs.take off++ds++cs.drop (off+F.size))
theorem FldS.id (E:Enc α):FldS E 0 E fun _ y=>y:=⟨by simp,fun {A w x y cs ds} h k=>by
  rw [List.take_zero,List.nil_append,List.drop_eq_nil_of_le (by rw [E.len h];omega),List.append_nil]
  exact k⟩
theorem FldS.fst {E:Enc α} {F:Enc β}:FldS (ePr E F) 0 E fun x y=>(y,x.2):=
  ⟨by simp [ePr], by
    rintro A w x y cs ds ⟨c,d,rfl,h1,h2⟩ k
    refine ⟨ds,d,?_,k,h2⟩
    rw [List.take_zero,List.nil_append,Nat.zero_add,<- E.len h1,List.drop_left']
    rfl⟩
theorem FldS.snd {γ:Type} {E:Enc α} {F:Enc β} {G:Enc γ} {o:Nat} {s:β->γ->β} (h:FldS F o G s):FldS (ePr E F) (E.size+o) G fun x y=>(x.1,s x.2 y):=
  ⟨by have := h.le; simp [ePr]; omega, by
    rintro A w x y cs ds ⟨c,d,rfl,h1,h2⟩ k
    refine ⟨c,_,?_,h1,h.put h2 k⟩
    have hl:=E.len h1
    rw [List.take_append,List.drop_append,List.take_of_length_le (by omega),List.drop_eq_nil_of_le (by omega),List.nil_append,hl,show E.size+o-E.size=o by omega,show E.size+o+G.size-E.size=o+G.size by omega]
    simp⟩
end
theorem zJk (cs:List Value) (o:Nat) (ds:List Value) (h:o+ds.length<=cs.length):lay cs.toArray o ds=(cs.take o++ds++cs.drop (o+ds.length)).toArray:=by
  apply Array.ext_getElem?
  intro j
  rw [zGx _ _ _ _ (by simpa using h)]
  simp only [List.getElem?_toArray]
  by_cases h1:j<o
  . rw [if_neg (by omega),List.append_assoc,List.getElem?_append_left (by simp;omega),List.getElem?_take,if_pos h1]
  . by_cases h2 : j < o + ds.length
    . rw [if_pos (by omega), List.append_assoc, List.getElem?_append_right (by simp; omega), List.getElem?_append_left (by simp; omega)]
      congr 1
      simp
      omega
    . rw [if_neg (by omega), List.getElem?_append_right (by simp; omega), List.getElem?_drop]
      congr 1
      simp
      omega
theorem zDG {A:Av} {u:Value} {w w':World} (hav:∀ k,zAE u k->∀ o,A k o) (hc:Ch (zAE u) w w'):Stp A (zKb A u u) w w':=
  ⟨hc.size,fun b o v hv hn=>(World.cell?_of_block (w:=w) (hc.block b (zEV hv) fun h=>hn (hav b h o))).trans hv,fun b o _ h=>h.elim (·.1) fun h=>hav b h o⟩
section
variable {P:Program} {R:Reg} {w:World} {d:Option Nat} {t:TypeId} {p:String} {af:Array Edge} {g:Option (Nat × Bool)} {A:Av} {α β:Type}
variable {E:Enc α} {F:Enc β} {x:Operand} {T e:TypeId} {a:α} {xs:List α} {B:Nat}
theorem zCI {z:Value} (hz:∀ w,(zeroValue T).run P w=.ok z w) (hr:∀ A w,E.rep A w a z.cells.toList) (hB:B<=w.heap.size):OpR P ⟨d,.alloc T,t,p,af,g⟩ R w (Made A (.box B T E a) (fun _=>.any) w):=by
  refine zAS (v:=.pointer (some ⟨w.heap.size,0,none⟩)) (w':=w.alloc (.cells z.cells T)) ?_ ⟨Fr.alloc _ _,fun k hk=>?_,⟨_,rfl,hB,z.cells.toList,?_,hr _ _⟩,trivial⟩
  . simp [execOp,Instr.alloc,newVar,newRow,hz]
  . have : w.heap.size = k := hk
    omega
  . have := Blk.new w T z.cells
    simpa using this
theorem zD0 (hx:Rep E A w (zAL R x) a) (hB:B<=w.heap.size):OpR P ⟨d,.box T x,t,p,af,g⟩ R w (Made A (.box B T E a) (fun _=>.any) w):=by
  have hf:=Fr.alloc w (.cells (zAL R x).cells T)
  have hv:∀ k,zAE (.pointer (some ⟨w.heap.size,0,none⟩)) k->w.heap.size<=k:=fun k hk=>by
    have:w.heap.size=k:=hk
    omega
  refine zAS (v:=.pointer (some ⟨w.heap.size,0,none⟩)) (w':=w.alloc (.cells (zAL R x).cells T)) (by simp [execOp,Instr.box,newVar,newRow]) ⟨hf,hv,⟨_,rfl,hB,(zAL R x).cells.toList,?_,E.stp (hf.stp_add hv) hx.cells⟩,trivial⟩
  have:=Blk.new w T (zAL R x).cells
  simpa using this
theorem zBX {ad : Operand} {T' : TypeId} {u : Value} {b off : Nat} {s : α -> β -> α} {y : β} {a' : α} (hx : Rep F A w (zAL R x) y) (had : zAL R ad=.pointer (some ⟨b, off, none⟩)) (hu : u=.pointer (some ⟨b, 0, none⟩)) (hok : (Res.box B T E a).ok A u w) (hav : ∀ k, zAE u k -> ∀ o, A k o)
    (fs:FldS E off F s) (hsz:∀ w,(sizeOf T').run P w=.ok F.size w) (hs:s a y=a'):OpR P ⟨none,.store T' ad x,t,p,af,g⟩ R w (Took A false u (.box B T E a') (fun _=>.any) w):=by
  obtain ⟨b',hu',hB,cs,hb,hr⟩:=hok
  subst hu
  obtain rfl:b'=b:=by injection hu' with h;injection h with h;injection h with h;exact h.symm
  have hc:=hx.cells
  have hcl:=F.len hc
  have hle:=fs.le
  obtain ⟨w',h1,h2,h3⟩:=zEw (P:=P) (o:=off) hsz (F.oc hc) (by simpa using hcl) hb (by simp [E.len hr];omega)
  refine zGa (w':=w') ?_ ?_
  . simp only [execOp, Instr.storeAt, Instr.sureAddr, had]
    simp [h1]
  . have hch : Ch (zAE (.pointer (some ⟨b', 0, none⟩))) w w' := h2.ch
    have hst:=zDG hav hch
    refine ⟨_,rfl,hch,fun k _ h=>h,hst,⟨b',rfl,hB,_,?_,hs ▸ fs.put (E.stp hst hr) (F.stp hst hc)⟩,trivial⟩
    rw [zJk _ _ _ (by rw [E.len hr];omega),hcl] at h3
    exact h3
theorem zFj {A:Av} {w:World}:Flat E A w [] []:=⟨by simp,fun i x h=>by simp at h⟩
theorem zK9 {A:Av} {w:World} {cs ds:List Value} {xs:List α} {x:α} (h:Flat E A w cs xs) (hd:E.rep A w x ds):Flat E A w (cs++ds) (xs ++ [x]):=by
  refine ⟨by rw [List.length_append,h.1,E.len hd,List.length_append,Nat.add_mul];simp,fun i y hy=>?_⟩
  by_cases hi:i<xs.length
  . rw [List.getElem?_append_left hi] at hy
    obtain ⟨es,h1,h2⟩:=h.2 i y hy
    refine ⟨es,h1,fun j d hj=>?_⟩
    have:=h2 j d hj
    rw [List.getElem?_append_left (List.getElem?_eq_some_iff.1 this).1]
    exact this
  . have hlt := (List.getElem?_eq_some_iff.1 hy).1
    simp at hlt
    obtain rfl:i=xs.length:=by omega
    rw [List.getElem?_append_right (Nat.le_refl _)] at hy
    simp at hy
    subst hy
    refine ⟨ds,hd,fun j d hj=>?_⟩
    rw [List.getElem?_append_right (by rw [h.1];omega),h.1]
    simpa using hj
theorem zIG {A:Av} {w:World} {cs ds:List Value} {xs ys:List α} (h:Flat E A w cs xs) (k:Flat E A w ds ys):Flat E A w (cs++ds) (xs++ys):=by
  refine ⟨by rw [List.length_append,h.1,k.1,List.length_append,Nat.add_mul],fun i y hy=>?_⟩
  by_cases hi:i<xs.length
  . rw [List.getElem?_append_left hi] at hy
    obtain ⟨es,h1,h2⟩:=h.2 i y hy
    refine ⟨es,h1,fun j d hj=>?_⟩
    have:=h2 j d hj
    rw [List.getElem?_append_left (List.getElem?_eq_some_iff.1 this).1]
    exact this
  . rw [List.getElem?_append_right (by omega)] at hy
    obtain ⟨es,h1,h2⟩:=k.2 _ y hy
    refine ⟨es,h1,fun j d hj=>?_⟩
    have e:i*E.size+j=xs.length*E.size+((i-xs.length)*E.size+j):=by
      rw [Nat.sub_mul]
      have:=Nat.mul_le_mul_right E.size (show xs.length<=i by omega)
      omega
    rw [e,List.getElem?_append_right (by rw [h.1];omega),h.1,Nat.add_sub_cancel_left]
    exact h2 j d hj
theorem zMU {A : Av} {w : World} {b : Nat} : ∀ (ys : List α) (o : Nat), (∀ (i : Nat) y, ys[i]? = some y -> QAt E A w b (o + i * E.size) y) ->
    ∃ news,Flat E A w news ys/\(∀ (j:Nat) u,news[j]? = some u->w.cell? ⟨b,o+j,none⟩=some u)/\∀ u ∈ news,u.oneCell'=true
  | [],o,_=>⟨[],zFj,fun j u h=>by simp at h,fun u h=>by simp at h⟩
  | y::ys,o,h=>by
    obtain ⟨⟨ds,h1,h2⟩,_⟩:=h 0 y rfl
    rw [Nat.zero_mul,Nat.add_zero] at h2
    obtain ⟨news,h3,h4,h5⟩:=zMU ys (o+E.size) fun i z hz=>by
      have:=h (i+1) z (by simpa using hz)
      rwa [show o+(i+1)*E.size=o+E.size+i*E.size by rw [Nat.add_mul];omega] at this
    refine ⟨ds++news,?_,fun j u hj=>?_,fun u hu=>?_⟩
    . have := zIG (zK9 zFj h1) h3
      simpa using this
    . by_cases hlt : j < ds.length
      . rw [List.getElem?_append_left hlt] at hj
        exact h2 j u hj
      . rw [List.getElem?_append_right (by omega)] at hj
        have:=h4 _ u hj
        rwa [E.len h1,show o+E.size+(j-E.size)=o+j by rw [E.len h1] at hlt;omega] at this
    . rcases List.mem_append.1 hu with hu | hu
      . exact E.oc h1 u hu
      . exact h5 u hu
theorem zKp {A:Av} {w:World}:Vec E A B T w (.slice none 0 0) ([]:List α):=⟨[],RowM.of (World.ownsRow_nil w B T E.size),zFj⟩
theorem zDt {A A0:Av} {w:World} {u:Value} {xs:List α} (h:Vec E A B T w u xs) (hA:∀ b o,A0 b o->A b o) (hB:∀ b o,A0 b o->b<B):Rep (eSl E) A0 w u xs:=by
  obtain ⟨cs,hown,hf⟩:=h
  have hst:Stp A A0 w w:=⟨Nat.le_refl _,fun _ _ _ h _=>h,fun b o _ h=>hA b o h⟩
  rcases hown.2 with ⟨rfl,h0⟩ | ⟨g,cap,cur,rfl,hbg,hg,hnc,hcm,hcs,htake⟩
  . have : xs = [] := List.eq_nil_of_length_eq_zero h0
    subst this
    exact zIn
  . refine ⟨_, rfl, some ⟨g, 0, none⟩, xs.length, cap, rfl, rfl, hnc, hcm, fun _ => ⟨g, 0, rfl, hg.lt, fun i x hx => ?_⟩⟩
    obtain ⟨ds,h1,h2⟩:=hf.2 i x hx
    refine ⟨⟨ds,E.stp hst h1,fun j u hj=>?_⟩,fun j _ hA0=>by have:=hB _ _ hA0;omega⟩
    have:=hown.cells (g:=g) rfl (i*E.size+j) u (h2 j u hj)
    rwa [zD1,<- Nat.add_assoc] at this
theorem zIb {A:Av} {w:World} {u:Value} {xs:List α} (h:Vec E A B T w u xs):∃ ad cap,u=.slice ad xs.length cap/\(0<xs.length->∃ b,ad=some ⟨b,0,none⟩/\B<=b):=by
  obtain ⟨cs,hown,hf⟩:=h
  rcases hown.2 with ⟨rfl,h0⟩ | ⟨g,cap,cur,rfl,hbg,_⟩
  . exact ⟨none,0,by rw [h0],fun h=>by omega⟩
  . exact ⟨_,cap,rfl,fun _=>⟨g,rfl,hbg⟩⟩
def LIM:Nat:=4294967296
def zD4 (n:Nat):Bool:=Nat.ble n LIM
theorem zGh {n:Nat} (h:zD4 n=true):n<=4294967296:=Nat.le_of_ble_eq_true h
def ElF (P:Program) (e:TypeId) (s:Nat):Prop:=∃ (i:TypeInfo) (z:Value) (b:Nat),P.info? e=some i/\i.zero=some z/\i.size=s/\i.bytes=b/\z.cells.size=s/\0<s/\b<=4096
theorem zEX {b : Nat} {T : TypeId} : ∀ (vs : List Value) (cs : Array Value) (o i : Nat) (w : World), (∀ v ∈ vs, v.oneCell' = true) -> BlkM w b T cs -> o + i + vs.length <= cs.size ->
    ∃ w',(storeCells ⟨b,o,none⟩ vs i).run P w=.ok () w'/\Wr b w w'/\BlkM w' b T (lay cs (o+i) vs)
  | [],cs,o,i,w,_,hb,_=>⟨w,rfl,Wr.refl _ _,hb⟩
  | v::vs,cs,o,i,w,h1,hb,hl=>by
    simp only [List.length_cons] at hl
    have hc:w.cell? ⟨b,o+i,none⟩=some cs[o+i]:=by rw [hb.cell];exact Array.getElem?_eq_getElem (by omega)
    obtain ⟨w',hr,hw,hb'⟩:=zEX vs (cs.setIfInBounds (o+i) v) o (i+1) (w.setCell ⟨b,o+i,none⟩ v) (fun u hu=>h1 u (by simp [hu])) (hb.put _ _) (by simp;omega)
    refine ⟨w',?_,(Wr.setCell _ _ _ _).trans hw,hb'⟩
    have hst:=run_store P w ((⟨b,o,none⟩:Addr).add i) v .plain (h1 v (by simp))
    rw [zD1,hc] at hst
    simp only [hb.frozen (o+i) (by omega),Bool.false_eq_true,if_false] at hst
    simp only [storeCells,Sem.run_bind,zD1,hst,Result.andThen_ok,hr]
theorem zJu {b o s : Nat} {T' : TypeId} {v : Value} {cs : Array Value} (hsz : ∀ w, (sizeOf T').run P w=.ok s w) (h1 : ∀ u ∈ v.cells.toList, u.oneCell' = true) (hs : v.cells.size = s) (hb : BlkM w b T cs) (hl : o + s <= cs.size) :
    ∃ w',(storeVar T' ⟨b,o,none⟩ v).run P w=.ok () w'/\Wr b w w'/\BlkM w' b T (lay cs o v.cells.toList):=by
  obtain ⟨w',h2,h3,h4⟩:=zEX (P:=P) v.cells.toList cs o 0 w h1 hb (by simp;omega)
  refine ⟨w',?_,h3,h4⟩
  simp [storeVar,hsz,hs,h2]
theorem zHz (w : World) {i : TypeInfo} {z : Value} {ty : TypeId} {size bytes : Nat} (ht : P.underlying T = some (.slice e)) (hi : P.info? e = some i) (hz : i.zero = some z) (hsize : i.size = size) (hby : i.bytes = bytes) (hzs : z.cells.size = size) (hsz : 0 < size)
    {u:Value} {n:Nat} {cs:List Value} (hown:RowM w B e size u n cs) (a:Addr) (m c:Nat) (news:List Value) (hl:news.length=m*size) (hnews:∀ j v,news[j]? = some v->w.cell? (a.add j)=some v) (h1:∀ v ∈ news,v.oneCell'=true)
    (h63:n+m<=maxLen) (hbytes:(n+m)*bytes<=140737488355328) (hbase:B<=w.heap.size) :
    ∃ v' w',(Builtin.append_ #[T,T] ty #[u,.slice (some a) m c]).run P w=.ok v' w'/\RowM w' B e size v' (n+m) (cs++news)/\Ch (zAE u) w w'/\∀ k,k<w.heap.size->zAE v' k->zAE u k:=by
  subst hsize
  subst hby
  have hsmall:n+m<=9223372036854775807:=by simp only [maxLen] at h63;omega
  have hlen:(cs++news).length=(n+m)*i.size:=by rw [List.length_append,hown.1,hl,Nat.add_mul]
  have grown : ∀ (old : Nat), old < n + m -> ∀ (S : Nat -> Prop),
      RowM (w.drew.alloc (.cells (cs.toArray ++ news.toArray ++ Builtin.zeroCells z.cells (grownCap w (n + m) old e - (n + m))) e)) B e i.size
        (.slice (some ⟨w.heap.size,0,none⟩) (n+m) (grownCap w (n+m) old e)) (n+m) (cs++news) /\
      Ch S w (w.drew.alloc (.cells (cs.toArray++news.toArray++Builtin.zeroCells z.cells (grownCap w (n+m) old e-(n+m))) e)):=by
    intro old ho S
    have hge:=grownCap_ge w (n+m) old e
    have hcm:grownCap w (n+m) old e<=maxLen:=grownCap_le_maxLen w (n+m) old e h63
    refine ⟨⟨hlen,.inr ⟨w.heap.size,_,_,rfl,hbase,BlkM.of (heap_alloc_new w.drew _),hge,hcm,?_,?_⟩⟩,⟨rfl,rfl,rfl,by simp,fun k hk _=>heap_alloc_old w.drew _ hk,fun _=>Nat.le_succ _⟩⟩
    . simp only [Array.size_append, List.size_toArray, size_zeroCells, hzs, hown.1, hl, <- Nat.add_mul]
      congr 1
      omega
    . simp only [Array.toList_append, List.append_assoc]
      rw [<- List.append_assoc,<- hlen]
      exact List.take_left
  have hnew:∀ {N C:Nat} {k:Nat},k<w.heap.size->zAE (.slice (some ⟨w.heap.size,0,none⟩) N C) k->False:=fun {N C k} hk hk'=>by
    have:w.heap.size=k:=hk'
    omega
  rcases hown.2 with ⟨rfl,rfl⟩ | ⟨g,cap,cur,rfl,hbg,hg,hnc,hcm,hcs,htake⟩
  . have hx : cs = [] := List.eq_nil_of_length_eq_zero (by simpa using hown.1)
    subst hx
    by_cases hm:m=0
    . subst hm
      have hn:news = []:=List.eq_nil_of_length_eq_zero (by simpa using hl)
      subst hn
      refine ⟨.slice none 0 0,w,?_,RowM.of (World.ownsRow_nil w B e i.size),Ch.refl _ _,fun k _ h=>h⟩
      simp [Builtin.append_,run_underlying ht,sizeOf,typeInfo,hi,Builtin.lenOf,Builtin.firstCells,loadCells,loadCellsFrom]
    . have hr := run_append_nil (P := P) w T ty e i z ht hi hz a m c news hl hnews (by omega) (by omega) (by have hb := hbytes; simp only [Nat.zero_add] at hb; omega)
      have hgr:=grown 0 (by omega) (zAE (.slice none 0 0))
      simp only [Nat.zero_add,List.nil_append,Array.empty_append] at hgr ⊢
      exact ⟨_,_,hr,hgr.1,hgr.2,fun k hk hk'=>(hnew hk hk').elim⟩
  . by_cases hroom : n + m <= cap
    . have hfit : n * i.size + news.length <= cur.size := by rw [hl, hcs, <- Nat.add_mul]; exact Nat.mul_le_mul_right _ hroom
      have hf:=run_firstCells_some (P:=P) w i.size m a m c news hl hnews
      obtain ⟨w',hst,hwr,hbk⟩:=zEX (P:=P) news cur (n*i.size) 0 w h1 hg (by simpa using hfit)
      rw [Nat.add_zero] at hbk
      refine ⟨.slice (some ⟨g,0,none⟩) (n+m) cap,w',?_,⟨hlen,.inr ⟨g,cap,_,rfl,hbg,hbk,hroom,hcm,by rw [zF4];exact hcs,?_⟩⟩,hwr.ch,fun k _ h=>h⟩
      . simp [Builtin.append_,run_underlying ht,sizeOf,typeInfo,hi,Builtin.lenOf,hroom,hf,Addr.add_lit,hst]
      . have hcl := hown.1
        apply List.ext_getElem?
        intro j
        by_cases hj:j<(n+m)*i.size
        . rw [List.getElem?_take, if_pos hj, Array.getElem?_toList, zGx _ _ _ _ hfit]
          by_cases hj1:j<n*i.size
          . rw [if_neg (by omega),List.getElem?_append_left (by omega),<- htake,List.getElem?_take,if_pos hj1,Array.getElem?_toList]
          . rw [if_pos (by rw [hl,<- Nat.add_mul];omega),List.getElem?_append_right (by omega),hcl]
        . rw [List.getElem?_take,if_neg hj,List.getElem?_eq_none (by rw [hlen];omega)]
    . have holds : ∀ j v, cs[j]? = some v -> w.cell? ((⟨g, 0, none⟩ : Addr).add j) = some v := hown.cells (g := g) rfl
      have hr:=run_append_grow (P:=P) w T ty e i z ht hi hz ⟨g,0,none⟩ n cap cs hown.1 holds a m c news hl hnews (by omega) (by omega) (growslice_fits (by omega) hbytes)
      have hgr:=grown cap (by omega) (zAE (.slice (some ⟨g,0,none⟩) n cap))
      exact ⟨_,_,hr,hgr.1,hgr.2,fun k hk hk'=>(hnew hk hk').elim⟩
theorem zEv {y : Operand} {ty : TypeId} {ys : List α} {u : Value} {dd : Nat} (hx : zAL R x = u) (hok : (Res.vec B e E xs).ok A u w) (hav : ∀ k, zAE u k -> ∀ o, A k o) (hB : B <= w.heap.size) {A1 : Av} (hy : Rep (eSl E) A1 w (zAL R y) ys) (ht : P.underlying T = some (.slice e)) (he : ElF P e E.size) (hl : zD4 (xs.length + ys.length) = true) (hcv : ∀ x cs, E.rep A1 w x cs -> E.rep A w x cs) :
    OpR P ⟨some dd,.call ⟨.builtin .append,#[x,y],#[T,T]⟩,ty,p,af,g⟩ R w (Took A true u (.vec B e E (xs++ys)) (fun _=>.any) w):=by
  obtain ⟨i,z,b,hi,hz,hs,hb,hzs,hs0,hb4⟩:=he
  have hl:=zGh hl
  have hby:(xs.length+ys.length)*b<=140737488355328:=by
    have:=Nat.mul_le_mul hl hb4
    omega
  have hm:xs.length+ys.length<=maxLen:=by unfold maxLen;omega
  obtain ⟨cs,hown,hf⟩:=hok
  obtain ⟨vc,hv,ad,n,c,rfl,hyl,hnc,hcm,h4⟩:=hy
  have hv':zAL R y=.slice ad n c:=hv
  have fin : ∀ (v' : Value) (w' : World) (news : List Value), (Builtin.append_ #[T, T] ty #[u, .slice ad n c]).run P w=.ok v' w' -> RowM w' B e E.size v' (xs.length + ys.length) (cs ++ news) -> Ch (zAE u) w w' -> Flat E A w news ys -> (∀ k, k < w.heap.size -> zAE v' k -> zAE u k) ->
      OpR P ⟨some dd,.call ⟨.builtin .append,#[x,y],#[T,T]⟩,ty,p,af,g⟩ R w (Took A true u (.vec B e E (xs++ys)) (fun _=>.any) w):=fun v' w' news hrun hown' hch hfl hsame=>by
    have hst:Stp A (zKb A u v') w w':=⟨hch.size,fun b o v hv hn=>(World.cell?_of_block (w:=w) (hch.block b (zEV hv) fun h=>hn (hav b h o))).trans hv,fun b o hb' h=>h.elim (·.1) fun h=>hav b (hsame b hb' h) o⟩
    refine zAS (v:=v') (w':=w') ?_ ⟨v',rfl,hch,hsame,hst,⟨cs++news,?_,(zIG hf hfl).stp hst⟩,trivial⟩
    . simp [execOp,resolve,invoke,builtin,hx,hv',hrun]
    . rw [List.length_append]
      exact hown'
  have hsrc:∃ (a0:Addr) (news:List Value),(ad=some a0\/ys = [])/\Flat E A w news ys/\(∀ (j:Nat) v,news[j]? = some v->w.cell? (a0.add j)=some v)/\∀ v ∈ news,v.oneCell'=true:=by
    rcases Nat.eq_zero_or_pos n with h0 | h0
    . have hyn : ys = [] := List.eq_nil_of_length_eq_zero (by omega)
      subst hyn
      exact ⟨⟨0,0,none⟩,[],.inr rfl,zFj,fun j v h=>by simp at h,fun v h=>by simp at h⟩
    . obtain ⟨b', off, rfl, _, hall⟩ := h4 h0
      obtain ⟨news,h1,h2,h3⟩:=zMU ys off hall
      exact ⟨_,news,.inl rfl,⟨h1.1,fun i x hx=>let ⟨ds,k1,k2⟩:=h1.2 i x hx;⟨ds,hcv _ _ k1,k2⟩⟩,fun j v hj=>by rw [zD1];exact h2 j v hj,h3⟩
  obtain ⟨a0,news,had,hfl,hcell,hone⟩:=hsrc
  have hnl:news.length=ys.length*E.size:=hfl.1
  subst hyl
  cases ad with
  | none=>
    have hyn:ys = []:=had.resolve_left (by simp)
    subst hyn
    have hn0:news = []:=List.eq_nil_of_length_eq_zero (by rw [hnl];simp)
    subst hn0
    have hrun:(Builtin.append_ #[T,T] ty #[u,.slice none ([]:List α).length c]).run P w=.ok u w:=by
      rcases hown.2 with ⟨rfl,h0⟩ | ⟨g',cap,cur,rfl,_,_,hnc',_⟩
      . simp [Builtin.append_,run_underlying ht,sizeOf,typeInfo,hi,Builtin.lenOf,Builtin.firstCells]
      . simp [Builtin.append_,run_underlying ht,sizeOf,typeInfo,hi,Builtin.lenOf,Builtin.firstCells,hnc',storeCells]
    refine fin u w [] hrun ?_ (Ch.refl _ _) zFj (fun k _ h=>h)
    simpa using hown
  | some a1=>
    have hcell':∀ (j:Nat) v,news[j]? = some v->w.cell? (a1.add j)=some v:=by
      rcases had with h | h
      . injection h with h
        subst h
        exact hcell
      . subst h
        have hn0:news = []:=List.eq_nil_of_length_eq_zero (by rw [hnl];simp)
        subst hn0
        intro j v h
        simp at h
    obtain ⟨v',w',hrun,hown',hch,hsame⟩:=zHz (P:=P) (ty:=ty) w ht hi hz hs hb hzs hs0 hown a1 ys.length c news hnl hcell' hone hm hby hB
    exact fin v' w' news hrun hown' hch hfl hsame
theorem zAs {y : Operand} {ty : TypeId} {ys : List α} {u : Value} {dd : Nat} (hx : zAL R x = u) (hok : (Res.vec B e E xs).ok A u w) (hav : ∀ k, zAE u k -> ∀ o, A k o) (hB : B <= w.heap.size) (hy : Rep (eSl E) A w (zAL R y) ys) (ht : P.underlying T = some (.slice e)) (he : ElF P e E.size) (hl : zD4 (xs.length + ys.length) = true) :
    OpR P ⟨some dd,.call ⟨.builtin .append,#[x,y],#[T,T]⟩,ty,p,af,g⟩ R w (Took A true u (.vec B e E (xs++ys)) (fun _=>.any) w):=
  zEv hx hok hav hB hy ht he hl (fun _ _ h=>h)
theorem zJ0 {A:Av} {w:World} {zc:Array Value} {z:α} (hz:E.rep A w z zc.toList) (n:Nat):Flat E A w (madeCells zc (n*E.size)).toList (List.replicate n z):=by
  have hl:zc.size=E.size:=by simpa using E.len hz
  refine ⟨by simp [madeCells],fun i x hx=>?_⟩
  have hi:=(List.getElem?_eq_some_iff.1 hx).1
  simp at hi
  have:x=z:=by
    rw [List.getElem?_replicate,if_pos hi] at hx
    injection hx with hx
    exact hx.symm
  subst this
  refine ⟨zc.toList,hz,fun j d hj=>?_⟩
  have hjl:j<E.size:=by
    have:=(List.getElem?_eq_some_iff.1 hj).1
    simp at this
    omega
  have hlt:i*E.size+j<n*E.size:=by
    have:=Nat.mul_le_mul_right E.size (show i+1<=n by omega)
    rw [Nat.add_mul] at this
    omega
  simp only [madeCells,Array.getElem?_toList]
  rw [Array.getElem?_map,Array.getElem?_range,if_pos hlt]
  simp only [Option.map_some,hl]
  rw [show (i*E.size+j) % E.size=j by rw [Nat.mul_comm,Nat.mul_add_mod,Nat.mod_eq_of_lt hjl]]
  rw [<- hj]
  simp only [Array.getElem?_toList]
  rw [Array.getElem?_eq_getElem (by omega),getElem!_pos zc j (by omega)]
theorem zLe : ∀ (vs : List Value) (k : Nat) (cells : Array Value) (off : Nat), ((vs.zipIdx k).foldl (fun cs (c, j) => cs.setIfInBounds (off + j) c) cells) = lay cells (off + k) vs
  | [],_,_,_=>rfl
  | v::vs,k,cells,off=>by
    rw [List.zipIdx_cons,List.foldl_cons,zLe vs (k+1)]
    rfl
theorem zLm {s : Nat} : ∀ (vs : List Value) (k : Nat) (cells : Array Value), (∀ v ∈ vs, v.cells.size = s) -> (k + vs.length) * s <= cells.size ->
    Instr.fill (fun i=>some (i*s,s)) cells ((vs.zipIdx k).map fun q=>(q.2,q.1))=some (lay cells (k*s) (vs.flatMap fun v=>v.cells.toList))
  | [],_,_,_,_=>rfl
  | v::vs,k,cells,hv,hl=>by
    have h1:=hv v (by simp)
    have h2:(k+1)*s<=cells.size:=Nat.le_trans (Nat.mul_le_mul_right s (by simp only [List.length_cons];omega)) hl
    rw [Nat.add_mul,Nat.one_mul] at h2
    have hlay:∀ (a b:List Value) (c:Array Value) (o:Nat),lay (lay c o a) (o+a.length) b=lay c o (a++b):=by
      intro a
      induction a with
      | nil=>intro b c o;rfl
      | cons x a ih=>
        intro b c o
        rw [List.cons_append,lay,lay,<- ih,List.length_cons]
        congr 1
        omega
    rw [List.zipIdx_cons,List.map_cons]
    unfold Instr.fill
    simp only [h1]
    rw [if_neg (by simp;omega)]
    have hf:(v.cells.zipIdx.foldl (fun cs (x:Value × Nat)=>cs.setIfInBounds (k*s+x.2) x.1) cells)=lay cells (k*s) v.cells.toList:=by
      have:=zLe v.cells.toList 0 cells (k*s)
      rw [<- Array.foldl_toList,Array.toList_zipIdx]
      exact this
    rw [hf,zLm vs (k+1) _ (fun u hu=>hv u (by simp [hu])) (by rw [zF4];simp only [List.length_cons] at hl;rwa [show k+1+vs.length=k+(vs.length+1) by omega])]
    rw [List.flatMap_cons,<- hlay,Nat.add_mul,Nat.one_mul,Array.length_toList,h1]
theorem zJ2 {vs : List Value} {n s : Nat} {z : Value} (ht : P.underlying T = some (.slice e)) (hsz : ∀ w, (sizeOf e).run P w=.ok s w) (hz : ∀ w, (zeroValue e).run P w=.ok z w) (hn : n = vs.length) (hv : ∀ v ∈ vs, v.cells.size = s) (hlim : n * s <= 16777216) :
    (Instr.buildSlice T n ((vs.zipIdx).map fun q=>(q.2,q.1)).toArray).run P w=.ok (.slice (some ⟨w.heap.size,0,none⟩) n n) (w.alloc (.cells (vs.flatMap fun v=>v.cells.toList).toArray e)):=by
  subst hn
  have hl:(vs.flatMap fun v=>v.cells.toList).length=vs.length*s:=by
    clear hlim
    induction vs with
    | nil=>simp
    | cons v vs ih=>rw [List.flatMap_cons,List.length_append,ih (fun u hu=>hv u (by simp [hu])),List.length_cons,Nat.add_mul,Nat.one_mul,Array.length_toList,hv v (by simp),Nat.add_comm]
  have key:∀ (cells:Array Value),cells.size=vs.length*s->Instr.fill (fun i=>some (i*s,s)) cells ((vs.zipIdx).map fun q=>(q.2,q.1))=some (vs.flatMap fun v=>v.cells.toList).toArray:=fun cells hc=>by
    rw [zLm vs 0 cells hv (by rw [hc];simp)]
    congr 1
    apply Array.ext_getElem?
    intro j
    rw [zGx _ _ _ _ (by rw [hl,hc];simp)]
    by_cases hj:j<vs.length*s
    . rw [if_pos (by rw [hl]; omega)]
      simp
    . rw [if_neg (by rw [hl];omega),Array.getElem?_eq_none (by omega),Array.getElem?_eq_none (by simp only [List.size_toArray];omega)]
  simp only [Instr.buildSlice,Sem.run_bind,run_underlying ht,Result.andThen_ok,hsz]
  rw [if_neg (by omega)]
  by_cases h0:vs.length*s=0
  . have := key ((Array.range 0).map fun _ => default) (by rw [h0]; simp)
    simp [h0,newRow,this]
  . have := key ((Array.range (vs.length * s)).map (z.cells[· % z.cells.size]!)) (by simp)
    simp [h0,hz,this,newRow]
def Row (E : Enc α) (A : Av) (w : World) (R : Reg) : List Operand -> List α -> Prop
  | [],[]=>True
  | o::os,y::ys=>Rep E A w (zAL R o) y/\Row E A w R os ys
  | _,_=>False
theorem Row.vals {A : Av} {w : World} : ∀ (os : List Operand) (ys : List α), Row E A w R os ys -> os.length = ys.length /\ (∀ v ∈ os.map (zAL R), v.cells.size = E.size) /\ Flat E A w ((os.map (zAL R)).flatMap fun v => v.cells.toList) ys
  | [],[],_=>⟨rfl,fun v h=>by simp at h,zFj⟩
  | o::os,y::ys,h=>by
    obtain ⟨h1,h2,h3⟩:=Row.vals os ys h.2
    have hc:=h.1.cells
    refine ⟨by simp [h1],fun v hv=>?_,?_⟩
    . rw [List.map_cons] at hv
      rcases List.mem_cons.1 hv with h | h
      . subst h
        simpa using E.len hc
      . exact h2 v h
    . rw [List.map_cons, List.flatMap_cons]
      exact zIG (zK9 zFj hc) h3
  | [],_::_,h=>h.elim
  | _::_,[],h=>h.elim
theorem zGJ {os : List Operand} {n : Nat} {ys : List α} {z : Value} (hrow : Row E A w R os ys) (ht : P.underlying T = some (.slice e)) (hsz : ∀ w, (sizeOf e).run P w=.ok E.size w) (hz : ∀ w, (zeroValue e).run P w=.ok z w) (hn : n = os.length) (hlim : Nat.ble (n * E.size) 16777216 = true) :
    (execOp (zAL R) ⟨d,.buildSlice T n (os.zipIdx.map fun q=>(q.2,q.1)).toArray,t,p,af,g⟩).run P w=.ok (.value (.slice (some ⟨w.heap.size,0,none⟩) n n)) (w.alloc (.cells ((os.map (zAL R)).flatMap fun v=>v.cells.toList).toArray e)):=by
  obtain ⟨h1,h2,h3⟩:=Row.vals os ys hrow
  have hr:=zJ2 (P:=P) (w:=w) (n:=n) (vs:=os.map (zAL R)) ht hsz hz (by rw [List.length_map];exact hn) h2 (Nat.le_of_ble_eq_true hlim)
  have e1:((os.zipIdx.map fun q=>(q.2,q.1)).toArray.map fun (q:Nat × Operand)=>(q.1,zAL R q.2))=((os.map (zAL R)).zipIdx.map fun q=>(q.2,q.1)).toArray:=by
    simp only [List.map_toArray,List.map_map,List.zipIdx_map]
    rfl
  simp only [execOp,Sem.run_bind]
  rw [show ((os.zipIdx.map fun q=>(q.2,q.1)).toArray.map fun (x:Nat × Operand)=>match x with | (i,x)=>(i,zAL R x))=((os.map (zAL R)).zipIdx.map fun q=>(q.2,q.1)).toArray from e1,hr]
  rfl
theorem zC7 (os : List Operand) {n : Nat} {ys : List α} {z : Value} (hrow : Row E A w R os ys) (ht : P.underlying T = some (.slice e)) (hsz : ∀ w, (sizeOf e).run P w=.ok E.size w) (hz : ∀ w, (zeroValue e).run P w=.ok z w) (hn : n = os.length) (hlim : Nat.ble (n * E.size) 16777216 = true) (hlen : Nat.ble n 16777216 = true) (hA : AvOK A w) :
    OpF P ⟨d,.buildSlice T n (os.zipIdx.map fun q=>(q.2,q.1)).toArray,t,p,af,g⟩ R w (.rep (eSl E) A ys):=by
  obtain ⟨h1,h2,h3⟩:=Row.vals os ys hrow
  have hf:=Fr.alloc w (.cells ((os.map (zAL R)).flatMap fun v=>v.cells.toList).toArray e)
  refine zAS (zGJ hrow ht hsz hz hn hlim) ⟨⟨_,rfl,some ⟨w.heap.size,0,none⟩,n,n,rfl,by omega,Nat.le_refl _,?_,fun _=>⟨w.heap.size,0,rfl,by simp,fun i x hx=>?_⟩⟩,hf⟩
  . have h4 := Nat.le_of_ble_eq_true hlen
    unfold maxLen
    omega
  . obtain ⟨ds, h4, h5⟩ := (h3.stp (hf.stp A)).2 i x hx
    refine ⟨⟨ds,h4,fun j u hj=>?_⟩,fun j _ hA'=>?_⟩
    . rw [(Blk.new w e _).cell]
      have:=h5 j u hj
      rw [Nat.zero_add]
      simpa using this
    . have := hA _ _ hA'
      omega
theorem zBM (os : List Operand) {n : Nat} {ys : List α} {z : Value} (hrow : Row E A w R os ys) (ht : P.underlying T = some (.slice e)) (hsz : ∀ w, (sizeOf e).run P w=.ok E.size w) (hz : ∀ w, (zeroValue e).run P w=.ok z w) (hn : n = os.length) (hlim : Nat.ble (n * E.size) 16777216 = true) (hlen : Nat.ble n 16777216 = true) (hB : B <= w.heap.size) :
    OpR P ⟨d,.buildSlice T n (os.zipIdx.map fun q=>(q.2,q.1)).toArray,t,p,af,g⟩ R w (Made A (.vec B e E ys) (fun _=>.any) w):=by
  obtain ⟨h1,h2,h3⟩:=Row.vals os ys hrow
  have hf:=Fr.alloc w (.cells ((os.map (zAL R)).flatMap fun v=>v.cells.toList).toArray e)
  have hv:∀ k,zAE (.slice (some ⟨w.heap.size,0,none⟩) n n) k->w.heap.size<=k:=fun k hk=>by
    have:w.heap.size=k:=hk
    omega
  have hl:=h3.1
  refine zAS (zGJ hrow ht hsz hz hn hlim) ⟨hf,hv,⟨_,⟨?_,.inr ⟨w.heap.size,n,_,by rw [<- h1,<- hn],hB,BlkM.of (heap_alloc_new w _),by omega,?_,?_,?_⟩⟩,h3.stp (hf.stp_add hv)⟩,trivial⟩
  . rw [hl]
  . have h4 := Nat.le_of_ble_eq_true hlen
    unfold maxLen
    omega
  . simp only [List.size_toArray]
    rw [hl,<- h1,<- hn]
  . simp only []
    rw [<- hl,List.take_of_length_le (Nat.le_refl _)]
def vptr : Value -> Nat -> Value
  | .slice (some a) _ _,k=>.pointer (some ⟨a.block,a.off+k,none⟩)
  | _,_=>.pointer none
theorem zAr {ix : Operand} {k : IntKind} {i : Int} {u : Value} {w0 : World} {A0 : Av} {s m : Nat} (hV : Vec E A0 B e w0 u xs) (hx : zAL R x = u) (hi : zAL R ix=.int k i) (hu : P.underlying T = some (.slice e)) (hsz : ∀ w, (sizeOf e).run P w=.ok s w) (hr : inR i xs.length = true) (hm : i.toNat * s = m) :
    OpF P ⟨d,.indexAddr T x ix,t,p,af,g⟩ R w (.raw (vptr u m)):=by
  subst hm
  obtain ⟨ad,cap,rfl,hb⟩:=zIb hV
  obtain ⟨i0,i1⟩:=zDx.1 hr
  obtain ⟨b,rfl,_⟩:=hb (by omega)
  refine zAS (v:=.pointer (some ⟨b,0+i.toNat*s,none⟩)) (w':=w) ?_ ⟨rfl,Fr.refl _⟩
  have hin:i<(xs.length:Int):=i1
  simp [execOp,Instr.indexAt,hx,hi,asIntOf,underlying,hu,i0,hin,hsz,zD1]
theorem zFt {u : Value} {w0 : World} {A0 : Av} {m sn kn ft off sz m' : Nat} (hV : Vec E A0 B e w0 u xs) (hn : xs.length ≠ 0) (hx : zAL R x = vptr u m) (hf : FldF P sn kn ft off) (hsz : ∀ w, (sizeOf ft).run P w=.ok sz w) (h0 : sz ≠ 0) (hm : m + off = m') :
    OpF P ⟨d,.fieldAddr sn x kn,t,p,af,g⟩ R w (.raw (vptr u m')):=by
  subst hm
  obtain ⟨ad,cap,rfl,hb⟩:=zIb hV
  obtain ⟨b,rfl,_⟩:=hb (by omega)
  refine zAS (v:=.pointer (some ⟨b,0+m+off,none⟩)) (w':=w) ?_ ⟨?_,Fr.refl _⟩
  . simp [execOp,zFk (w:=w) hf hsz h0 hx]
  . show Value.pointer _ = Value.pointer _
    rw [Nat.add_assoc]
theorem zC0 [Inhabited α] {u : Value} {m off : Nat} {i : Int} {q : α -> β} {y : β} (hok : (Res.vec B e E xs).ok A u w) (hx : zAL R x = vptr u m) (hr : inR i xs.length = true) (hm : m = i.toNat * E.size + off) (fl : Fld E off F q) (hy : q (gtD xs i) = y) (hag : ∀ w, (isAgg T).run P w=.ok F.agg w) (hsz : ∀ w, (sizeOf T).run P w=.ok F.size w) :
    OpF P ⟨d,.load T x,t,p,af,g⟩ R w (.rep F A y):=by
  subst hy hm
  obtain ⟨cs,hown,hf⟩:=hok
  obtain ⟨ds,h1,h2⟩:=hf.2 _ _ (zJb hr)
  obtain ⟨i0,i1⟩:=zDx.1 hr
  rcases hown.2 with ⟨rfl,h0⟩ | ⟨g',cap,cur,rfl,hbg,hg',_⟩
  . omega
  . refine zAT ⟨g', 0 + (i.toNat * E.size + off), hx, hg'.lt, ?_⟩ hag hsz
    have hp:PAt E A w g' (0+i.toNat*E.size) (gtD xs i):=⟨ds,h1,fun j u hj=>by
      have:=hown.cells (g:=g') rfl _ u (h2 j u hj)
      rwa [zD1,<- Nat.add_assoc] at this⟩
    have:=hp.fld fl
    rwa [Nat.add_assoc] at this
theorem zNj {cs ds:List Value} {x':α} {i:Nat} {A:Av} {w:World} (h:Flat E A w cs xs) (hi:i<xs.length) (hd:E.rep A w x' ds):Flat E A w (cs.take (i*E.size)++ds++cs.drop (i*E.size+E.size)) (xs.set i x'):=by
  have hl:=E.len hd
  have h1:=Nat.mul_le_mul_right E.size (show i+1<=xs.length by omega)
  rw [Nat.add_mul,Nat.one_mul,<- h.1] at h1
  refine ⟨?_,fun j y hy=>?_⟩
  . rw [List.length_append, List.length_append, List.length_take, List.length_drop, hl, List.length_set, <- h.1]
    omega
  . by_cases e : i = j
    . subst e
      rw [List.getElem?_set_self hi] at hy
      injection hy with hy
      subst hy
      refine ⟨ds,hd,fun k d hk=>?_⟩
      have hk':=(List.getElem?_eq_some_iff.1 hk).1
      rw [List.append_assoc,List.getElem?_append_right (by simp;omega),List.getElem?_append_left (by simp;omega)]
      rw [<- hk]
      congr 1
      simp
      omega
    . rw [List.getElem?_set_ne e] at hy
      obtain ⟨es,h2,h3⟩:=h.2 j y hy
      refine ⟨es,h2,fun k d hk=>?_⟩
      have hk':=(List.getElem?_eq_some_iff.1 hk).1
      rw [E.len h2] at hk'
      have h4:=h3 k d hk
      rcases Nat.lt_or_ge j i with hj | hj
      . have h5 := Nat.mul_le_mul_right E.size (show j + 1 <= i by omega)
        rw [Nat.add_mul,Nat.one_mul] at h5
        rw [List.append_assoc,List.getElem?_append_left (by simp;omega),List.getElem?_take,if_pos (by omega)]
        exact h4
      . have h5 := Nat.mul_le_mul_right E.size (show i + 1 <= j by omega)
        rw [Nat.add_mul,Nat.one_mul] at h5
        rw [List.getElem?_append_right (by simp;omega),List.getElem?_drop]
        rw [<- h4]
        congr 1
        simp
        omega
theorem zH8 [Inhabited α] {ad : Operand} {T' : TypeId} {u : Value} {m off : Nat} {i : Int} {s : α -> β -> α} {y : β} {ys : List α} (hx : Rep F A w (zAL R x) y) (hok : (Res.vec B e E xs).ok A u w) (hav : ∀ k, zAE u k -> ∀ o, A k o) (had : zAL R ad = vptr u m) (hr : inR i xs.length = true) (hm : m = i.toNat * E.size + off)
    (fs:FldS E off F s) (hsz:∀ w,(sizeOf T').run P w=.ok F.size w) (hs:xs.set i.toNat (s (gtD xs i) y)=ys):OpR P ⟨none,.store T' ad x,t,p,af,g⟩ R w (Took A false u (.vec B e E ys) (fun _=>.any) w):=by
  subst hs hm
  obtain ⟨cs,hown,hf⟩:=hok
  obtain ⟨ds,hd1,hd2⟩:=hf.2 _ _ (zJb hr)
  obtain ⟨i0,i1⟩:=zDx.1 hr
  have hi:i.toNat<xs.length:=by omega
  have hc:=hx.cells
  have hcl:=F.len hc
  have hle:=fs.le
  have hdl:=E.len hd1
  rcases hown.2 with ⟨rfl,h0⟩ | ⟨g',cap,cur,rfl,hbg,hg',hnc,hcm,hcs,htk⟩
  . omega
  . have hmul := Nat.mul_le_mul_right E.size (show i.toNat + 1 <= xs.length by omega)
    have hmul2:=Nat.mul_le_mul_right E.size hnc
    rw [Nat.add_mul,Nat.one_mul] at hmul
    obtain ⟨w',h1,h2,h3⟩:=zJu (P:=P) (o:=i.toNat*E.size+off) hsz (F.oc hc) (by simpa using hcl) hg' (by omega)
    have had':zAL R ad=.pointer (some ⟨g',i.toNat*E.size+off,none⟩):=by rw [had];show Value.pointer _=_;rw [Nat.zero_add]
    refine zGa (w':=w') ?_ ?_
    . simp only [execOp, Instr.storeAt, Instr.sureAddr, had']
      simp [h1]
    . have hch : Ch (zAE (.slice (some ⟨g', 0, none⟩) xs.length cap)) w w' := h2.ch
      have hst:=zDG hav hch
      have hput:=fs.put (E.stp hst hd1) (F.stp hst hc)
      refine ⟨_,rfl,hch,fun k _ h=>h,hst,⟨_,⟨?_,.inr ⟨g',cap,_,by rw [List.length_set],hbg,h3,by rw [List.length_set];exact hnc,hcm,by rw [zF4];exact hcs,rfl⟩⟩,?_⟩,trivial⟩
      . have hll:(lay cur (i.toNat*E.size+off) (zAL R x).cells.toList).toList.length=cap*E.size:=by
          rw [Array.length_toList,zF4,hcs]
        rw [List.length_take,List.length_set,hll]
        exact Nat.min_eq_left hmul2
      . have hfl := zNj (hf.stp hst) hi hput
        have hcslen:=hf.1
        have hcz:(zAL R x).cells.size=F.size:=by simpa using hcl
        have e1:((lay cur (i.toNat*E.size+off) (zAL R x).cells.toList).toList.take ((xs.set i.toNat (s (gtD xs i) y)).length*E.size))=cs.take (i.toNat*E.size)++(ds.take off++(zAL R x).cells.toList++ds.drop (off+F.size))++cs.drop (i.toNat*E.size+E.size):=by
          rw [List.length_set]
          apply List.ext_getElem?
          intro j
          have hcur:∀ j,j<xs.length*E.size->cur[j]? = cs[j]?:=fun j hj=>by
            rw [<- htk,List.getElem?_take,if_pos hj,Array.getElem?_toList]
          have hds:∀ j,j<E.size->cs[i.toNat*E.size+j]? = ds[j]?:=fun j hj=>by
            have:j<ds.length:=by omega
            rw [List.getElem?_eq_getElem this]
            exact hd2 j _ (List.getElem?_eq_getElem this)
          by_cases hj:j<xs.length*E.size
          . rw [List.getElem?_take, if_pos hj, Array.getElem?_toList, zGx _ _ _ _ (by rw [hcl, hcs]; omega), hcl]
            by_cases hj1:j<i.toNat*E.size
            . rw [if_neg (by omega),hcur j hj,List.append_assoc,List.getElem?_append_left (by simp;omega),List.getElem?_take,if_pos hj1]
            . by_cases hj2 : j < i.toNat * E.size + E.size
              . rw [List.append_assoc, List.getElem?_append_right (by simp; omega), List.getElem?_append_left (by simp [hcz]; omega)]
                have e2:j-(cs.take (i.toNat*E.size)).length=j-i.toNat*E.size:=by
                  simp
                  omega
                rw [e2]
                by_cases hj3:i.toNat*E.size+off<=j/\j<i.toNat*E.size+off+F.size
                . rw [if_pos hj3, List.append_assoc, List.getElem?_append_right (by simp; omega), List.getElem?_append_left (by simp [hcz]; omega)]
                  congr 1
                  simp
                  omega
                . rw [if_neg hj3, hcur j hj]
                  have:=hds (j-i.toNat*E.size) (by omega)
                  rw [show i.toNat*E.size+(j-i.toNat*E.size)=j by omega] at this
                  rw [this]
                  by_cases hj4:j<i.toNat*E.size+off
                  . rw [List.append_assoc,List.getElem?_append_left (by simp;omega),List.getElem?_take,if_pos (by omega)]
                  . rw [List.getElem?_append_right (by simp [hcz]; omega), List.getElem?_drop]
                    congr 1
                    simp [hcz]
                    omega
              . rw [if_neg (by omega), hcur j hj, List.getElem?_append_right (by simp [hcz]; omega), List.getElem?_drop]
                congr 1
                simp [hcz]
                omega
          . rw [List.getElem?_take,if_neg hj,List.getElem?_eq_none (by simp [hcz];omega)]
        rw [e1]
        exact hfl
end
section
variable {P:Program} {ini:List Ob} {l:List EntR} {A:Av} {R:Reg} {w:World} {i:Nat} {x:EntR}
theorem zE0.nil:zE0 P ini l A R w i []:=trivial
theorem zE0.cons {r:List EntR} (h:OblR P ini l A R w i x) (t:zE0 P ini l A R w (i+1) r):zE0 P ini l A R w i (x::r):=⟨h,t⟩
structure Onto (ini : List Ob) (l : List EntR) (A : Av) (R : Reg) (w : World) (i : Nat) (A' : Av) (R' : Reg) (w' : World) : Prop where
  ch:Ch (zFK ini) w w'
  stp:Stp A A' w w'
  av:AvOK A' w'
  old:∀ t,zLL l i t=true->R' t=R t
  rd:∀ (id:Nat) p,ini[id]? = some p->zFu l i id=true->p.r.ok A' p.u w'
  rdo:∀ (id:Nat) p,ini[id]? = some p->zFu l i id=true->p.r.own A' p.u p.S w'
  low:∀ b o,A b o->¬ zFK ini b->A' b o
theorem Onto.low' {A':Av} {R':Reg} {w':World} (h:Onto ini l A R w i A' R' w') {A0:Av} {B:Nat} (h0:∀ b o,A0 b o->A b o) (hB:∀ b o,A0 b o->b<B) (hge:∀ k,zFK ini k->B<=k):∀ b o,A0 b o->A' b o:=
  fun b o hb=>h.low b o (h0 b o hb) fun hi=>by have:=hge b hi;have:=hB b o hb;omega
theorem Onto.lowK {A':Av} {R':Reg} {w':World} (h:Onto ini l A R w i A' R' w') {A0:Av} {B:Nat} {K:Nat->Prop} (h0:∀ b o,A0 b o->A b o) (hB:∀ b o,A0 b o->b<B) (hN:∀ b o,A0 b o->¬ K b) (hge:∀ k,zFK ini k->B<=k\/K k):∀ b o,A0 b o->A' b o:=
  fun b o hb=>h.low b o (h0 b o hb) fun hi=>(hge b hi).elim (fun h=>by have:=hB b o hb;omega) (hN b o hb)
theorem OblR.plain (hg : x.o.guard = none) (hx : x.g = true) (hc : x.con = []) (hr : x.res = none)
    (h:∀ A' R' w',Onto ini l A R w i A' R' w'->zGo l A' R' w' x.o.after.toList->OpR P x.o R' w' fun v w''=>(x.f A').ok v w''/\Fr w' w''):OblR P ini l A R w i x:=
  ⟨by unfold zJR;rw [hg];exact hx,fun _ A' R' w' h1 h2 h3 h4 h5 h6 h7=>by rw [hc,hr];exact h A' R' w' ⟨h1,h2,h3,h4,fun id p hp hr=>(h6 id p hp hr).1,fun id p hp hr=>(h6 id p hp hr).2,h7⟩ h5⟩
theorem OblR.grd (j : Nat) (want : Bool) (y : EntR) (c : Bool) (d : Nat) (hg : x.o.guard = some (j, want)) (hc : x.con = []) (hr : x.res = none) (hy : l[j]? = some y) (hyd : y.o.dst = some d) (hyf : ∀ A, y.f A=.raw (.bool c)) (hx : x.g = (y.g && (c == want)))
    (ha:x.o.after.toList.any (fun e=>bnd e&&Nat.beq e.on j)=true)
    (h:x.g=true->∀ A' R' w',Onto ini l A R w i A' R' w'->zGo l A' R' w' x.o.after.toList->OpR P x.o R' w' fun v w''=>(x.f A').ok v w''/\Fr w' w''):OblR P ini l A R w i x:=
  ⟨by unfold zJR;rw [hg];exact ⟨hc,hr,y,c,d,hy,hyd,hyf,hx,ha⟩,fun hgt A' R' w' h1 h2 h3 h4 h5 h6 h7=>by rw [hc,hr];exact h hgt A' R' w' ⟨h1,h2,h3,h4,fun id p hp hr=>(h6 id p hp hr).1,fun id p hp hr=>(h6 id p hp hr).2,h7⟩ h5⟩
theorem OpR.made {o:Oper} {f:Av->Fact} {r:Res} (h:OpR P o R w (Made A r f w)) (hB:r.isB=true):OpR P o R w (zGB A r f w):=h.mono fun v w' h=>h.toS hB
theorem OpR.took {o:Oper} {f:Av->Fact} {r:Res} {u:Value} {lk:Bool} (h:OpR P o R w (Took A lk u r f w)) (hB:r.isB=true):OpR P o R w (zF1 A lk u (zAE u) r f w):=h.mono fun v w' h=>h.toS hB
theorem zPX (r : Res) (hg : x.o.guard = none) (hx : x.g = true) (hc : x.con = []) (hr : x.res = some r)
    (h:∀ A' R' w',Onto ini l A R w i A' R' w'->zGo l A' R' w' x.o.after.toList->OpR P x.o R' w' (zGB A' r x.f w')):OblR P ini l A R w i x:=
  ⟨by unfold zJR;rw [hg];exact hx,fun _ A' R' w' h1 h2 h3 h4 h5 h6 h7=>by rw [hc,hr];exact h A' R' w' ⟨h1,h2,h3,h4,fun id p hp hr=>(h6 id p hp hr).1,fun id p hp hr=>(h6 id p hp hr).2,h7⟩ h5⟩
theorem OblR.made (r : Res) (hg : x.o.guard = none) (hx : x.g = true) (hc : x.con = []) (hr : x.res = some r)
    (h:∀ A' R' w',Onto ini l A R w i A' R' w'->zGo l A' R' w' x.o.after.toList->OpR P x.o R' w' (Made A' r x.f w')) (hB:r.isB=true:=by rfl):OblR P ini l A R w i x:=
  zPX r hg hx hc hr fun A' R' w' h1 h2=>(h A' R' w' h1 h2).made hB
theorem OblR.tookMN (c : Nat) (cs : List Nat) (r : Res) (hg : x.o.guard = none) (hx : x.g = true) (hc : x.con = c :: cs) (hr : x.res = some r)
    (h : ∀ A' R' w', Onto ini l A R w i A' R' w' -> zGo l A' R' w' x.o.after.toList -> ∀ (ρ : Nat -> Value) (σ : Nat -> Nat -> Prop), (∀ d, d ∈ c :: cs -> ∀ rc, zDv ini l d = some rc -> rc.ok A' (ρ d) w' /\ rc.own A' (ρ d) (σ d) w') -> (∀ d, d ∈ c :: cs -> ∀ k, σ d k -> ∀ o, A' k o) -> (∀ d, d ∈ c :: cs -> ∀ p, ini[d]? = some p -> ρ d = p.u /\ σ d = p.S) ->
        (∀ d,d ∈ c::cs->∀ y t,ini[d]? = none->l[d-ini.length]? = some y->y.lk=true->y.o.dst=some t->ρ d=R' t)->(∀ d,d ∈ c::cs->∀ (id:Nat) p,ini[id]? = some p->id ≠ d->zFu l i id=true->∀ k,σ d k->¬ p.S k)->(∀ d d',d ∈ c::cs->d' ∈ c::cs->d ≠ d'->∀ k,σ d k->¬ σ d' k)->(∀ d,d ∈ c::cs->∀ (n r:Nat) p,zHx ini l n d=some r->ini[r]? = some p->ρ d=p.u) ->
        OpR P x.o R' w' (zF1 A' x.lk (ρ c) (fun k=>∃ d,d ∈ c::cs/\σ d k) r x.f w')):OblR P ini l A R w i x:=
  ⟨by unfold zJR;rw [hg];exact hx,fun _ A' R' w' h1 h2 h3 h4 h5 h6 h7=>by
    rw [hc,hr]
    exact h A' R' w' ⟨h1,h2,h3,h4,fun id p hp hr=>(h6 id p hp hr).1,fun id p hp hr=>(h6 id p hp hr).2,h7⟩ h5⟩
theorem zPY (c : Nat) (cs : List Nat) (r : Res) (hg : x.o.guard = none) (hx : x.g = true) (hc : x.con = c :: cs) (hr : x.res = some r)
    (h : ∀ A' R' w', Onto ini l A R w i A' R' w' -> zGo l A' R' w' x.o.after.toList -> ∀ (ρ : Nat -> Value) (σ : Nat -> Nat -> Prop), (∀ d, d ∈ c :: cs -> ∀ rc, zDv ini l d = some rc -> rc.ok A' (ρ d) w' /\ rc.own A' (ρ d) (σ d) w') -> (∀ d, d ∈ c :: cs -> ∀ k, σ d k -> ∀ o, A' k o) -> (∀ d, d ∈ c :: cs -> ∀ p, ini[d]? = some p -> ρ d = p.u /\ σ d = p.S) ->
        (∀ d,d ∈ c::cs->∀ y t,ini[d]? = none->l[d-ini.length]? = some y->y.lk=true->y.o.dst=some t->ρ d=R' t)->(∀ d,d ∈ c::cs->∀ (id:Nat) p,ini[id]? = some p->id ≠ d->zFu l i id=true->∀ k,σ d k->¬ p.S k)->(∀ d d',d ∈ c::cs->d' ∈ c::cs->d ≠ d'->∀ k,σ d k->¬ σ d' k) ->
        OpR P x.o R' w' (zF1 A' x.lk (ρ c) (fun k=>∃ d,d ∈ c::cs/\σ d k) r x.f w')):OblR P ini l A R w i x:=
  OblR.tookMN c cs r hg hx hc hr fun A' R' w' h1 h2 ρ σ a1 a2 a3 a4 a5 a6 _=>h A' R' w' h1 h2 ρ σ a1 a2 a3 a4 a5 a6
theorem zPZ (c : Nat) (r rc : Res) (hg : x.o.guard = none) (hx : x.g = true) (hc : x.con = [c]) (hr : x.res = some r) (hrc : zDv ini l c = some rc)
    (h : ∀ A' R' w', Onto ini l A R w i A' R' w' -> zGo l A' R' w' x.o.after.toList -> ∀ u S, rc.ok A' u w' -> rc.own A' u S w' -> (∀ k, S k -> ∀ o, A' k o) -> (∀ p, ini[c]? = some p -> u = p.u /\ S = p.S) -> (∀ y d, ini[c]? = none -> l[c - ini.length]? = some y -> y.lk = true -> y.o.dst = some d -> u = R' d) -> (∀ (id : Nat) p, ini[id]? = some p -> id ≠ c -> zFu l i id = true -> ∀ k, S k -> ¬ p.S k) ->
      OpR P x.o R' w' (zF1 A' x.lk u S r x.f w')):OblR P ini l A R w i x:=
  zPY c [] r hg hx hc hr fun A' R' w' h1 h2 ρ σ hok hav hi ho hds _=>by
    have hm:c ∈ [c]:=List.mem_singleton.2 rfl
    have hset:(fun k=>∃ d,d ∈ [c]/\σ d k)=σ c:=by
      funext k
      rw [eq_iff_iff]
      exact ⟨fun ⟨d,hd,h⟩=>(List.mem_singleton.1 hd) ▸ h,fun h=>⟨c,hm,h⟩⟩
    rw [hset]
    exact h A' R' w' h1 h2 (ρ c) (σ c) (hok c hm rc hrc).1 (hok c hm rc hrc).2 (hav c hm) (hi c hm) (fun y d=>ho c hm y d) (hds c hm)
theorem OblR.tookN (c : Nat) (r rc : Res) (hg : x.o.guard = none) (hx : x.g = true) (hc : x.con = [c]) (hr : x.res = some r) (hrc : zDv ini l c = some rc)
    (h : ∀ A' R' w', Onto ini l A R w i A' R' w' -> zGo l A' R' w' x.o.after.toList -> ∀ u S, rc.ok A' u w' -> rc.own A' u S w' -> (∀ k, S k -> ∀ o, A' k o) -> (∀ p, ini[c]? = some p -> u = p.u /\ S = p.S) -> (∀ y d, ini[c]? = none -> l[c - ini.length]? = some y -> y.lk = true -> y.o.dst = some d -> u = R' d) -> (∀ (id : Nat) p, ini[id]? = some p -> id ≠ c -> zFu l i id = true -> ∀ k, S k -> ¬ p.S k) -> (∀ (n r : Nat) p, zHx ini l n c = some r -> ini[r]? = some p -> u = p.u) ->
      OpR P x.o R' w' (zF1 A' x.lk u S r x.f w')):OblR P ini l A R w i x:=
  OblR.tookMN c [] r hg hx hc hr fun A' R' w' h1 h2 ρ σ hok hav hi ho hds _ hrt=>by
    have hm:c ∈ [c]:=List.mem_singleton.2 rfl
    have hset:(fun k=>∃ d,d ∈ [c]/\σ d k)=σ c:=by
      funext k
      rw [eq_iff_iff]
      exact ⟨fun ⟨d,hd,h⟩=>(List.mem_singleton.1 hd) ▸ h,fun h=>⟨c,hm,h⟩⟩
    rw [hset]
    exact h A' R' w' h1 h2 (ρ c) (σ c) (hok c hm rc hrc).1 (hok c hm rc hrc).2 (hav c hm) (hi c hm) (fun y d=>ho c hm y d) (hds c hm) (hrt c hm)
theorem OblR.took (c : Nat) (r rc : Res) (hg : x.o.guard = none) (hx : x.g = true) (hc : x.con = [c]) (hr : x.res = some r) (hrc : zDv ini l c = some rc)
    (h : ∀ A' R' w', Onto ini l A R w i A' R' w' -> zGo l A' R' w' x.o.after.toList -> ∀ u, rc.ok A' u w' -> (∀ k, zAE u k -> ∀ o, A' k o) -> (∀ p, ini[c]? = some p -> u = p.u) -> (∀ y d, ini[c]? = none -> l[c - ini.length]? = some y -> y.lk = true -> y.o.dst = some d -> u = R' d) -> (∀ (id : Nat) p, ini[id]? = some p -> id ≠ c -> zFu l i id = true -> ∀ k, zAE u k -> ¬ p.S k) ->
      OpR P x.o R' w' (Took A' x.lk u r x.f w')) (hB:rc.isB=true:=by rfl) (hB':r.isB=true:=by rfl):OblR P ini l A R w i x:=
  zPZ c r rc hg hx hc hr hrc fun A' R' w' h1 h2 u S hok hown hav hi ho hds=>by
    obtain rfl:=(Res.own_iff hB).1 hown
    exact (h A' R' w' h1 h2 u hok hav (fun p hp=>(hi p hp).1) ho hds).took hB'
theorem zPW (c : Nat) (rc : Res) (hg : x.o.guard = none) (hx : x.g = true) (hc : x.con = [c]) (hr : x.res = some .nul) (hrc : zDv ini l c = some rc)
    (h : ∀ A' R' w', Onto ini l A R w i A' R' w' -> zGo l A' R' w' x.o.after.toList -> ∀ u, rc.ok A' u w' -> (∀ k, zAE u k -> ∀ o, A' k o) -> (∀ p, ini[c]? = some p -> u = p.u) -> (∀ y d, ini[c]? = none -> l[c - ini.length]? = some y -> y.lk = true -> y.o.dst = some d -> u = R' d) -> (∀ (id : Nat) p, ini[id]? = some p -> id ≠ c -> zFu l i id = true -> ∀ k, zAE u k -> ¬ p.S k) ->
      OpR P x.o R' w' (zF1 A' x.lk u (zAE u) .nul x.f w')) (hB:rc.isB=true:=by rfl):OblR P ini l A R w i x:=
  zPZ c .nul rc hg hx hc hr hrc fun A' R' w' h1 h2 u S hok hown hav hi ho hds=>by
    obtain rfl:=(Res.own_iff hB).1 hown
    exact h A' R' w' h1 h2 u hok hav (fun p hp=>(hi p hp).1) ho hds
theorem zKt:zH1 fun _=>.any:=fun _ _ _ _ _ _ _=>trivial
theorem zEA {u:Value}:zH1 fun _=>.raw u:=fun _ _ _ _ _ _ h=>h
theorem zE9 {α:Type} {E:Enc α} {y:α}:zH1 fun A=>.rep E A y:=fun _ _ _ _ _ hs h=>Rep.stp h hs
theorem zCM {α:Type} {E:Enc α} {y:α}:zH1 fun A=>.qtr E A y:=fun _ _ _ _ _ hs h=>QRep.stp h hs
theorem zE8 {f g:Av->Fact} (hf:zH1 f) (hg:zH1 g):zH1 fun A=>.tup2 (f A) (g A):=fun _ _ _ _ _ hs ⟨a,b,h1,h2,h3⟩=>⟨a,b,h1,hf _ _ _ _ _ hs h2,hg _ _ _ _ _ hs h3⟩
theorem zLf {f g k:Av->Fact} (hf:zH1 f) (hg:zH1 g) (hk:zH1 k):zH1 fun A=>.tup3 (f A) (g A) (k A):=fun _ _ _ _ _ hs ⟨a,b,c,h1,h2,h3,h4⟩=>⟨a,b,c,h1,hf _ _ _ _ _ hs h2,hg _ _ _ _ _ hs h3,hk _ _ _ _ _ hs h4⟩
def UAll : List EntR -> Prop
  | []=>True
  | x::r=>zH1 x.f/\UAll r
theorem UAll.nil:UAll []:=trivial
theorem UAll.cons {r:List EntR} (h:zH1 x.f) (t:UAll r):UAll (x::r):=⟨h,t⟩
theorem UAll.at : ∀ (l : List EntR), UAll l -> ∀ (i : Nat) x, l[i]? = some x -> zH1 x.f
  | [],_,i,x,h=>by simp at h
  | y::l,h,0,x,hx=>by simp at hx;subst hx;exact h.1
  | y::l,h,i+1,x,hx=>UAll.at l h.2 i x (by simpa using hx)
def zOn (m : Nat) (l : List EntR) (y : EntR) (c : Nat) : Bool := Nat.blt c m || (match l[c - m]? with
      | some z=>z.res.isSome&&y.o.after.toList.any (fun e=>bnd e&&Nat.beq e.on (c-m))
      | none=>false)
def conB (m : Nat) (l : List EntR) (y : EntR) : Bool := match y.con with
  | []=>!y.res.isSome || y.lk
  | c::cs=>y.o.guard.isNone&&y.res.isSome&&(c::cs).all (zOn m l y)
def zLp : List EntR -> Bool
  | []=>true
  | y::r=>y.con.all (fun c=>r.all (fun z=>z.con.all fun c'=>!Nat.beq c' c))&&zLp r
theorem zJQ : ∀ (l : List EntR), zLp l = true -> ∀ (j j' : Nat) y y' c, l[j]? = some y -> l[j']? = some y' -> c ∈ y.con -> c ∈ y'.con -> j = j'
  | [],_,j,_,y,_,_,h,_,_,_=>by simp at h
  | z::l,h,j,j',y,y',c,hy,hy',hc,hc'=>by
    simp only [zLp,Bool.and_eq_true] at h
    have key:∀ (k:Nat) (v:EntR),l[k]? = some v->c ∈ v.con->c ∈ z.con->False:=fun k v hv hvc hz=>by
      have h1:=List.all_eq_true.1 (List.all_eq_true.1 (List.all_eq_true.1 h.1 c hz) v (List.mem_of_getElem? hv)) c hvc
      simp at h1
    cases j with
    | zero=>
      cases j' with
      | zero=>rfl
      | succ j'=>
        simp at hy hy'
        subst hy
        exact (key j' y' hy' hc' hc).elim
    | succ j=>
      cases j' with
      | zero=>
        simp at hy hy'
        subst hy'
        exact (key j y hy hc hc').elim
      | succ j'=>
        simp at hy hy'
        rw [zJQ l h.2 j j' y y' c hy hy' hc hc']
theorem Wf.mk' (hd:zF9 l=true) (hu:UAll l) (hc:l.all (conB ini.length l)=true) (ho:zLp l=true):Wf ini l:=by
  have hc':∀ (j:Nat) y,l[j]? = some y->conB ini.length l y=true:=fun j y hy=>List.all_eq_true.1 hc y (List.mem_of_getElem? hy)
  refine ⟨hd,UAll.at l hu,fun j y c hj hy=>?_,zJQ l ho,fun j y hj hn hr=>?_⟩
  . have h := hc' j y hj
    unfold conB at h
    split at h
    . rename_i hy'
      rw [hy'] at hy
      cases hy
    . rename_i c0 cs hy'
      rw [hy'] at hy
      rw [Bool.and_eq_true,Bool.and_eq_true] at h
      obtain ⟨⟨h1,h2⟩,h3⟩:=h
      have h3:=List.all_eq_true.1 h3 c hy
      unfold zOn at h3
      rw [Bool.or_eq_true] at h3
      refine ⟨by simpa using h1,?_,?_⟩
      . rcases h3 with h3 | h3
        . have hlt : c < ini.length := by simpa using h3
          obtain ⟨p,_,hp⟩:=zFT (l:=l) hlt
          exact ⟨_,hp⟩
        . by_cases hlt : c < ini.length
          . obtain ⟨p, _, hp⟩ := zFT (l := l) hlt
            exact ⟨_,hp⟩
          . split at h3
            . rename_i z hz
              rw [Bool.and_eq_true] at h3
              obtain ⟨r,hr⟩:=Option.isSome_iff_exists.1 h3.1
              refine ⟨r,?_⟩
              unfold zDv
              rw [List.getElem?_eq_none (by omega)]
              simp only [hz]
              exact hr
            . cases h3
      . rcases h3 with h3 | h3
        . left;simpa using h3
        . right
          split at h3
          . rw [Bool.and_eq_true] at h3
            simp only [List.any_eq_true,Bool.and_eq_true] at h3
            obtain ⟨_,e,he,hb,hon⟩:=h3
            exact ⟨e,Array.mem_toList_iff.1 he,hb,Nat.eq_of_beq_eq_true hon⟩
          . cases h3
  . have h := hc' j y hj
    unfold conB at h
    rw [hn] at h
    obtain ⟨r,hr'⟩:=Option.ne_none_iff_exists'.1 hr
    rw [hr'] at h
    simpa using h
def zJ8 (l:List EntR) (id:Nat):Bool:=l.all fun y=>y.con.all fun c=>!Nat.beq c id
variable {done:Nat->Bool} {ρ:Nat->Value} {σ:Nat->Nat->Prop} {A':Av} {R':Reg} {w':World}
theorem InvR.reg (hI:InvR ini l A R w done ρ σ A' R' w') {t:Nat} (h:zKq l t=true):R' t=R t:=hI.old t fun i x hx hy=>by
  simp only [zKq,List.all_eq_true] at h
  have:=h x (List.mem_of_getElem? hx)
  rw [hy] at this
  cases this
theorem InvR.fact (hI:InvR ini l A R w done ρ σ A' R' w') (hd:∀ i,i<l.length->done i=true) {i:Nat} {x:EntR} {d:Nat} (hx:l[i]? = some x) (hxd:x.o.dst=some d) (hg:x.g=true):(x.f A').ok (R' d) w':=
  hI.yes i x d hx (hd i (List.getElem?_eq_some_iff.1 hx).1) hxd hg
theorem InvR.live (hd:∀ i,i<l.length->done i=true) {id:Nat} {r:Res} (h:zDv ini l id=some r) (hn:zJ8 l id=true):Live ini l done id:=by
  refine ⟨?_,fun j y hj hy=>?_⟩
  . by_cases hlt : id < ini.length
    . exact .inl hlt
    . right
      unfold zDv at h
      rw [List.getElem?_eq_none (by omega)] at h
      simp only [] at h
      cases hl:l[id-ini.length]? with
      | none=>rw [hl] at h;cases h
      | some x=>exact hd _ (List.getElem?_eq_some_iff.1 hl).1
  . simp only [zJ8, List.all_eq_true] at hn
    have:=hn y (List.mem_of_getElem? hj) id hy
    simp at this
theorem InvR.low' (hI:InvR ini l A R w done ρ σ A' R' w') {A0:Av} {B:Nat} (h0:∀ b o,A0 b o->A b o) (hB:∀ b o,A0 b o->b<B) (hge:∀ k,zFK ini k->B<=k):∀ b o,A0 b o->A' b o:=
  fun b o h=>hI.low b o (h0 b o h) fun hi=>by have:=hge b hi;have:=hB b o h;omega
theorem InvR.lowK (hI:InvR ini l A R w done ρ σ A' R' w') {A0:Av} {B:Nat} {K:Nat->Prop} (h0:∀ b o,A0 b o->A b o) (hB:∀ b o,A0 b o->b<B) (hN:∀ b o,A0 b o->¬ K b) (hge:∀ k,zFK ini k->B<=k\/K k):∀ b o,A0 b o->A' b o:=
  fun b o hb=>hI.low b o (h0 b o hb) fun hi=>(hge b hi).elim (fun h=>by have:=hB b o hb;omega) (hN b o hb)
theorem InvR.opvR (hI:InvR ini l A R w done ρ σ A' R' w') (hd:∀ i,i<l.length->done i=true) {x:EntR} {d:Nat} (id i:Nat) (hx:l[i]? = some x) (hid:id=ini.length+i) (hr:x.res.isSome=true) (hk:x.lk=true) (hxd:x.o.dst=some d):ρ id=R' d:=by
  subst hid
  exact hI.opv i x d hx (hd i (List.getElem?_eq_some_iff.1 hx).1) (by intro e;rw [e] at hr;cases hr) hk hxd
theorem InvR.opnR (hI:InvR ini l A R w done ρ σ A' R' w') (hd:∀ i,i<l.length->done i=true) {x:EntR} {c:Nat} (id i:Nat) (hx:l[i]? = some x) (hid:id=ini.length+i) (hr:x.res.isSome=true) (hk:x.lk=false) (hc:x.con.head? = some c):ρ id=ρ c:=by
  subst hid
  exact hI.opn i x c hx (hd i (List.getElem?_eq_some_iff.1 hx).1) (by intro e;rw [e] at hr;cases hr) hk hc
theorem InvR.inivR (hI:InvR ini l A R w done ρ σ A' R' w') {u:Value} {r:Res} (id:Nat) {S:Nat->Prop} (h:ini[id]? = some ⟨u,S,r⟩):ρ id=u:=(hI.iniv id _ h).1
theorem InvR.inisR (hI:InvR ini l A R w done ρ σ A' R' w') {u:Value} {r:Res} (id:Nat) {S:Nat->Prop} (h:ini[id]? = some ⟨u,S,r⟩):σ id=S:=(hI.iniv id _ h).2
theorem zNC {β:Type 1} {rest:List (Nat × β)} {i:Nat} (h:rest.all (fun q=>!Nat.beq q.1 i)=true) {q:Nat × β} (hq:q ∈ rest):q.1 ≠ i:=by
  simp only [List.all_eq_true] at h
  have:=h q hq
  intro e
  rw [e] at this
  simp at this
theorem InvR.boxv (hI:InvR ini l A R w done ρ σ A' R' w') (hd:∀ i,i<l.length->done i=true) {α:Type} {B:Nat} {T:TypeId} {E:Enc α} {y:α} (id:Nat) (h:zDv ini l id=some (.box B T E y)) (hn:zJ8 l id=true):∃ b,ρ id=.pointer (some ⟨b,0,none⟩):=by
  obtain ⟨⟨b,hb,_⟩,_⟩:=hI.own id _ h (InvR.live hd h hn)
  exact ⟨b,hb⟩
theorem InvR.geK (hI:InvR ini l A R w done ρ σ A' R' w') (hd:∀ i,i<l.length->done i=true) {u:Value} {r:Res} (id:Nat) (h:zDv ini l id=some r) (hn:zJ8 l id=true) (hB:r.isB=true) (e:ρ id=u) {B:Nat} {K:Nat->Prop} (hge:∀ k,zFK ini k->B<=k\/K k) (hw:B<=w.heap.size):∀ k,zAE u k->B<=k\/K k:=fun k hk=>by
  have hl:=InvR.live hd h hn
  have h1:=(Res.own_iff hB).1 (hI.own _ _ h hl).2
  rcases Nat.lt_or_ge k w.heap.size with h2 | h2
  . refine hge k (hI.was _ _ h hl k h2 ?_)
    rw [h1,e]
    exact hk
  . exact .inl (Nat.le_trans hw h2)
def Left (ini : List Ob) (l : List EntR) (ρ : Nat -> Value) (σ : Nat -> Nat -> Prop) : List (Nat × Ob) -> Prop
  | []=>True
  | (id,p)::rest=>zDv ini l id=some p.r/\zJ8 l id=true/\ρ id=p.u/\(match p.r.isB with | true=>p.S=zAE p.u | false=>σ id=p.S)/\rest.all (fun q=>!Nat.beq q.1 id)=true/\Left ini l ρ σ rest
theorem Left.at : ∀ (L : List (Nat × Ob)), Left ini l ρ σ L -> ∀ (i : Nat) q, L[i]? = some q -> zDv ini l q.1 = some q.2.r /\ zJ8 l q.1 = true /\ ρ q.1 = q.2.u /\ (match q.2.r.isB with | true => q.2.S = zAE q.2.u | false => σ q.1 = q.2.S)
  | [],_,i,q,h=>by simp at h
  | (id,p)::L,h,0,q,hq=>by simp at hq;subst hq;exact ⟨h.1,h.2.1,h.2.2.1,h.2.2.2.1⟩
  | (id,p)::L,h,i+1,q,hq=>Left.at L h.2.2.2.2.2 i q (by simpa using hq)
theorem Left.ne : ∀ (L : List (Nat × Ob)), Left ini l ρ σ L -> ∀ (i j : Nat) p q, L[i]? = some p -> L[j]? = some q -> i ≠ j -> p.1 ≠ q.1
  | [],_,i,_,p,_,h,_,_=>by simp at h
  | (id,r)::L,h,i,j,p,q,hp,hq,hne=>by
    cases i with
    | zero=>
      cases j with
      | zero=>exact absurd rfl hne
      | succ j=>
        simp at hp hq
        subst hp
        exact (zNC h.2.2.2.2.1 (List.mem_of_getElem? hq)).symm
    | succ i=>
      cases j with
      | zero=>
        simp at hp hq
        subst hq
        exact zNC h.2.2.2.2.1 (List.mem_of_getElem? hp)
      | succ j=>
        simp at hp hq
        exact Left.ne L h.2.2.2.2.2 i j p q hp hq (by omega)
theorem InvR.left (hI:InvR ini l A R w done ρ σ A' R' w') (hd:∀ i,i<l.length->done i=true) (L:List (Nat × Ob)) (h:Left ini l ρ σ L):IniOK (L.map (·.2)) A' w':=by
  have hat:∀ (i:Nat) p,(L.map (·.2))[i]? = some p->∃ q,L[i]? = some q/\q.2=p:=fun i p hp=>by
    rw [List.getElem?_map] at hp
    cases hl:L[i]? with
    | none=>rw [hl] at hp;cases hp
    | some q=>rw [hl] at hp;injection hp with hp;exact ⟨q,rfl,hp⟩
  have hset:∀ (i:Nat) q,L[i]? = some q->σ q.1=q.2.S:=fun i q hq=>by
    obtain ⟨h1,h2,h3,h4⟩:=Left.at L h i q hq
    have h5:=(hI.own _ _ h1 (InvR.live hd h1 h2)).2
    cases hb:q.2.r.isB with
    | true=>
      rw [hb] at h4
      rw [(Res.own_iff hb).1 h5,h3]
      exact h4.symm
    | false=>
      rw [hb] at h4
      exact h4
  refine ⟨fun i p hp=>?_,fun i p hp=>?_,fun i j p q hp hq hne k hk hk'=>?_⟩
  . obtain ⟨q, hq, rfl⟩ := hat i p hp
    obtain ⟨h1,h2,h3,_⟩:=Left.at L h i q hq
    have hl:=InvR.live hd h1 h2
    have h4:=(hI.own _ _ h1 hl).1
    have h5:=hI.av _ _ h1 hl
    rw [h3] at h4
    rw [hset i q hq] at h5
    exact ⟨h4,h5⟩
  . obtain ⟨q, hq, rfl⟩ := hat i p hp
    obtain ⟨h1,h2,h3,_⟩:=Left.at L h i q hq
    have h4:=(hI.own _ _ h1 (InvR.live hd h1 h2)).2
    rw [h3,hset i q hq] at h4
    exact h4
  . obtain ⟨p', hp', rfl⟩ := hat i p hp
    obtain ⟨q',hq',rfl⟩:=hat j q hq
    obtain ⟨h1,h2,_⟩:=Left.at L h i p' hp'
    obtain ⟨h4,h5,_⟩:=Left.at L h j q' hq'
    rw [<- hset i p' hp'] at hk
    rw [<- hset j q' hq'] at hk'
    exact hI.dis _ _ _ _ h1 h4 (InvR.live hd h1 h2) (InvR.live hd h4 h5) (Left.ne L h i j p' q' hp' hq' hne) k hk hk'
end
section
variable {ini:List Ob} {A:Av} {w w':World}
theorem IniOK.nil:IniOK [] A w:=⟨fun i p h=>by simp at h,fun i p h=>by simp at h,fun i j p q h=>by simp at h⟩
theorem IniOK.fr (h:IniOK ini A w) (hf:Fr w w'):IniOK ini A w':=
  have key:=fun (i:Nat) p (hp:ini[i]? = some p)=>Res.stabS (h.ok i p hp).1 (h.own i p hp) (fun k hk=>hf.block k (Res.ltS (h.ok i p hp).1 (h.own i p hp) hk)) (hf.stp A)
  ⟨fun i p hp=>⟨(key i p hp).1,(h.ok i p hp).2⟩,fun i p hp=>(key i p hp).2,h.dis⟩
def zHH (ini : List Ob) : List (Nat × Ob) -> Prop
  | []=>True
  | (i,p)::rest=>ini[i]? = some p/\rest.all (fun q=>!Nat.beq q.1 i)=true/\zHH ini rest
theorem zHH.at : ∀ (L : List (Nat × Ob)), zHH ini L -> ∀ (i : Nat) q, L[i]? = some q -> ini[q.1]? = some q.2
  | [],_,i,q,h=>by simp at h
  | (id,p)::L,h,0,q,hq=>by simp at hq;subst hq;exact h.1
  | (id,p)::L,h,i+1,q,hq=>zHH.at L h.2.2 i q (by simpa using hq)
theorem zHH.ne : ∀ (L : List (Nat × Ob)), zHH ini L -> ∀ (i j : Nat) p q, L[i]? = some p -> L[j]? = some q -> i ≠ j -> p.1 ≠ q.1
  | [],_,i,_,p,_,h,_,_=>by simp at h
  | (id,u)::L,h,i,j,p,q,hp,hq,hne=>by
    cases i with
    | zero=>
      cases j with
      | zero=>exact absurd rfl hne
      | succ j=>
        simp at hp hq
        subst hp
        exact (zNC h.2.1 (List.mem_of_getElem? hq)).symm
    | succ i=>
      cases j with
      | zero=>
        simp at hp hq
        subst hq
        exact zNC h.2.1 (List.mem_of_getElem? hp)
      | succ j=>
        simp at hp hq
        exact zHH.ne L h.2.2 i j p q hp hq (by omega)
theorem IniOK.sub (h:IniOK ini A w) (L:List (Nat × Ob)) (hL:zHH ini L):IniOK (L.map (·.2)) A w:=by
  have hat:∀ (i:Nat) p,(L.map (·.2))[i]? = some p->∃ q,L[i]? = some q/\q.2=p:=fun i p hp=>by
    rw [List.getElem?_map] at hp
    cases hl:L[i]? with
    | none=>rw [hl] at hp;cases hp
    | some q=>rw [hl] at hp;injection hp with hp;exact ⟨q,rfl,hp⟩
  refine ⟨fun i p hp=>?_,fun i p hp=>?_,fun i j p q hp hq hne k hk hk'=>?_⟩
  . obtain ⟨q, hq, rfl⟩ := hat i p hp
    exact h.ok _ _ (zHH.at L hL i q hq)
  . obtain ⟨q, hq, rfl⟩ := hat i p hp
    exact h.own _ _ (zHH.at L hL i q hq)
  . obtain ⟨p', hp', rfl⟩ := hat i p hp
    obtain ⟨q',hq',rfl⟩:=hat j q hq
    exact h.dis _ _ _ _ (zHH.at L hL i p' hp') (zHH.at L hL j q' hq') (zHH.ne L hL i j p' q' hp' hq' hne) k hk hk'
def Res.base : Res -> Nat
  | .box B ..=>B
  | .vec B ..=>B
  | .gen _ _=>0
  | .nul=>0
theorem Res.geB {r:Res} {u:Value} (h:r.ok A u w) (hB:r.isB=true) {k:Nat} (hk:zAE u k):r.base<=k:=by
  cases r with
  | gen B p=>cases hB
  | nul=>cases hB
  | box B T E x=>
    obtain ⟨b,rfl,hB,_⟩:=h
    have:b=k:=hk
    subst this
    exact hB
  | vec B T E xs=>
    obtain ⟨cs,⟨_,h⟩,_⟩:=h
    rcases h with ⟨rfl,_⟩ | ⟨b,c,cur,rfl,hB,_⟩
    . exact hk.elim
    . have : b = k := hk
      subst this
      exact hB
theorem Res.geS {r:Res} {u:Value} {S:Nat->Prop} (h:r.ok A u w) (ho:r.own A u S w) {k:Nat} (hk:S k):r.base<=k:=by
  cases r with
  | gen B p=>exact Nat.zero_le _
  | nul=>exact Nat.zero_le _
  | box B T E x=>obtain rfl:=ho;exact Res.geB h rfl hk
  | vec B T E xs=>obtain rfl:=ho;exact Res.geB h rfl hk
def Res.frB (r : Res) (B : Nat) : Prop := match r with
  | .gen K _=>∀ k,K k->B<=k
  | r=>r.base=B
theorem Res.frB_ge {r:Res} {B:Nat} {u:Value} {S:Nat->Prop} (h:r.ok A u w) (ho:r.own A u S w) (hB:r.frB B) {k:Nat} (hk:S k):B<=k:=by
  cases r with
  | gen K p=>exact hB k (ho.1 k hk)
  | nul=>obtain rfl:=ho;exact hk.elim
  | box B' T E x=>exact (show B'=B from hB) ▸ Res.geS h ho hk
  | vec B' T E x=>exact (show B'=B from hB) ▸ Res.geS h ho hk
def zHE (B : Nat) : List Ob -> Prop
  | []=>True
  | p::r=>p.r.frB B/\zHE B r
theorem zHE.at {B : Nat} : ∀ (ini : List Ob), zHE B ini -> ∀ (i : Nat) p, ini[i]? = some p -> p.r.frB B
  | [],_,i,p,h=>by simp at h
  | q::L,h,0,p,hp=>by simp at hp;subst hp;exact h.1
  | q::L,h,i+1,p,hp=>zHE.at L h.2 i p (by simpa using hp)
theorem IniOK.ge {B:Nat} (h:IniOK ini A w) (hB:zHE B ini):∀ k,zFK ini k->B<=k:=fun k ⟨i,p,hp,hk⟩=>
  Res.frB_ge (h.ok i p hp).1 (h.own i p hp) (zHE.at ini hB i p hp) hk
def Ob.inBK (p : Ob) (B : Nat) (K : Nat -> Prop) : Prop := match p.r with
  | .gen K' _=>∀ k,K' k->B<=k\/K k
  | r=>r.base=B\/∀ k,p.S k->B<=k\/K k
theorem Ob.inBK_ge {p:Ob} {B:Nat} {K:Nat->Prop} (h:p.r.ok A p.u w) (ho:p.r.own A p.u p.S w) (hB:p.inBK B K) {k:Nat} (hk:p.S k):B<=k\/K k:=by
  obtain ⟨u,S,r⟩:=p
  cases r with
  | gen K' p=>exact hB k (ho.1 k hk)
  | nul=>obtain rfl:=ho;exact hk.elim
  | box B' T E x=>exact Or.elim hB (fun e=>.inl ((show B'=B from e) ▸ Res.geS h ho hk)) fun h=>h k hk
  | vec B' T E x=>exact Or.elim hB (fun e=>.inl ((show B'=B from e) ▸ Res.geS h ho hk)) fun h=>h k hk
def zIu (B : Nat) (K : Nat -> Prop) : List Ob -> Prop
  | []=>True
  | p::r=>p.inBK B K/\zIu B K r
theorem zIu.at {B : Nat} {K : Nat -> Prop} : ∀ (ini : List Ob), zIu B K ini -> ∀ (i : Nat) p, ini[i]? = some p -> p.inBK B K
  | [],_,i,p,h=>by simp at h
  | q::L,h,0,p,hp=>by simp at hp;subst hp;exact h.1
  | q::L,h,i+1,p,hp=>zIu.at L h.2 i p (by simpa using hp)
theorem IniOK.geK {B:Nat} {K:Nat->Prop} (h:IniOK ini A w) (hB:zIu B K ini):∀ k,zFK ini k->B<=k\/K k:=fun k ⟨i,p,hp,hk⟩=>
  Ob.inBK_ge (h.ok i p hp).1 (h.own i p hp) (zIu.at ini hB i p hp) hk
theorem zAA {P : Program} {R : Reg} {d : Option Nat} {t : TypeId} {p : String} {af : Array Edge} {g : Option (Nat × Bool)} {α β : Type} {E : Enc α} {F : Enc β} {x : Operand} {B b off : Nat} {T T' : TypeId} {a : α} {y : β} {q : α -> β}
    (hok:(Res.box B T E a).ok A (.pointer (some ⟨b,0,none⟩)) w) (hx:zAL R x=.pointer (some ⟨b,off,none⟩)) (fl:Fld E off F q) (hy:q a=y) (hag:∀ w,(isAgg T').run P w=.ok F.agg w) (hsz:∀ w,(sizeOf T').run P w=.ok F.size w) :
    OpF P ⟨d,.load T' x,t,p,af,g⟩ R w (.rep F A y):=by
  subst hy
  obtain ⟨b',e,hB,hb⟩:=hok
  obtain rfl:b'=b:=by injection e with h;injection h with h;injection h with h;exact h.symm
  refine zAT ⟨b',off,hx,hb.lt,?_⟩ hag hsz
  have:=hb.at.fld fl
  rwa [Nat.zero_add] at this
def zKK (P : Program) (R : Reg) (w : World) : ResultVar -> Value -> Prop
  | .tmp t,v=>v=R t
  | .cell a T,v=>∃ ad,R a=.pointer (some ad)/\(loadVar T ad).run P w=.ok v w
def zLP (P : Program) (R : Reg) (w : World) : List ResultVar -> List Value -> Prop
  | [],[]=>True
  | r::rs,v::vs=>zKK P R w r v/\zLP P R w rs vs
  | _,_=>False
def zLE : List Value -> Value
  | [v]=>v
  | vs=>.tuple vs.toArray
theorem zIW {P:Program} (fn:Func) (a:Act) (w:World):∀ (rs:List ResultVar) (vs:List Value),rs.length<=4->fn.results=rs.toArray->zLP P (regs a) w rs vs->(results fn a.tmps).run P w=.ok (zLE vs) w:=by
  have key:∀ (r:ResultVar) (v:Value),zKK P (regs a) w r v->(∃ t,r=.tmp t/\a.tmps[t]?.getD undef=v)\/∃ t T ad,r=.cell t T/\a.tmps[t]?.getD undef=.pointer (some ad)/\(loadVar T ad).run P w=.ok v w:=fun r v h=>by
    cases r with
    | tmp t=>exact .inl ⟨t,rfl,by rw [show v=regs a t from h];simp [regs]⟩
    | cell b t=>
      obtain ⟨ad,he,hl⟩:=h
      exact .inr ⟨b,t,ad,rfl,by rw [<- he];simp [regs],hl⟩
  intro rs vs hl hres hv
  match rs,vs,hv with
  | [],[],_=>simp [results,hres,zLE]
  | [r0],[v0],hv=>
    unfold results
    rw [hres]
    obtain ⟨k0,_⟩:=hv
    rcases key r0 v0 k0 with ⟨t0,rfl,e0⟩ | ⟨t0,T0,ad0,rfl,e0,l0⟩
    all_goals simp [*,asAddr,zLE]
  | [r0,r1],[v0,v1],hv=>
    unfold results
    rw [hres]
    obtain ⟨k0,k1,_⟩:=hv
    rcases key r0 v0 k0 with ⟨t0,rfl,e0⟩ | ⟨t0,T0,ad0,rfl,e0,l0⟩
    all_goals rcases key r1 v1 k1 with ⟨t1,rfl,e1⟩ | ⟨t1,T1,ad1,rfl,e1,l1⟩
    all_goals simp [*,asAddr,zLE]
  | [r0,r1,r2],[v0,v1,v2],hv=>
    unfold results
    rw [hres]
    obtain ⟨k0,k1,k2,_⟩:=hv
    rcases key r0 v0 k0 with ⟨t0,rfl,e0⟩ | ⟨t0,T0,ad0,rfl,e0,l0⟩
    all_goals rcases key r1 v1 k1 with ⟨t1,rfl,e1⟩ | ⟨t1,T1,ad1,rfl,e1,l1⟩
    all_goals rcases key r2 v2 k2 with ⟨t2,rfl,e2⟩ | ⟨t2,T2,ad2,rfl,e2,l2⟩
    all_goals simp [*,asAddr,zLE]
  | [r0,r1,r2,r3],[v0,v1,v2,v3],hv=>
    unfold results
    rw [hres]
    obtain ⟨k0,k1,k2,k3,_⟩:=hv
    rcases key r0 v0 k0 with ⟨t0,rfl,e0⟩ | ⟨t0,T0,ad0,rfl,e0,l0⟩
    all_goals rcases key r1 v1 k1 with ⟨t1,rfl,e1⟩ | ⟨t1,T1,ad1,rfl,e1,l1⟩
    all_goals rcases key r2 v2 k2 with ⟨t2,rfl,e2⟩ | ⟨t2,T2,ad2,rfl,e2,l2⟩
    all_goals rcases key r3 v3 k3 with ⟨t3,rfl,e3⟩ | ⟨t3,T3,ad3,rfl,e3,l3⟩
    all_goals simp [*,asAddr,zLE]
  | _::_::_::_::_::_,_,_=>simp at hl
theorem zAB {P : Program} {f : FuncId} {fn : Func} {c : Code} {args : Array Value} {w : World} {K : Value -> World -> Prop} {N : Nat} (rs : List ResultVar)
    (hf:P.funcs[f]? = some fn) (hN:fn.ntmps=N) (hrs:rs.length<=4) (hres:fn.results=rs.toArray) (hb:fn.body=some c) (hn:args.size<=N)
    (h:∀ R,(∀ (i:Nat) v,args[i]? = some v->R i=v)->HT P N c R w (fun e R w'=>(e=.normal\/e=.ret)/\∃ vs,zLP P R w' rs vs/\K (zLE vs) w')) :
    Calls P f args w fun e w'=>∃ v,e=.returned v/\K v w':=by
  subst hN
  refine calls_of_wp hf hb (wp_mono (h _ (fun i v hv=>?_) _ ⟨rfl,by simp;omega⟩ rfl) fun e a' w' ⟨⟨h1,h2⟩,h3,vs,h4,h5⟩=>?_)
  . have hlt : i < args.size := (Array.getElem?_eq_some_iff.1 hv).1
    simp only [regs,Array.getD_eq_getD_getElem?]
    rw [Array.getElem?_append_left hlt,hv]
    rfl
  . rcases h3 with rfl | rfl
    . exact ⟨h1,_,zIW fn a' w' rs vs hrs hres h4,_,rfl,h5⟩
    . exact ⟨h1,_,zIW fn a' w' rs vs hrs hres h4,_,rfl,h5⟩
theorem zDV {A0:Av} (h:∀ b o,A0 b o->A b o):Stp A A0 w w:=⟨Nat.le_refl _,fun _ _ _ h _=>h,fun b o _ h'=>h b o h'⟩
theorem zHX {P : Program} {R : Reg} {α : Type} {E : Enc α} {B b : Nat} {T : TypeId} {x : α} {A0 : Av} {r : Nat} (hok : (Res.box B T E x).ok A (.pointer (some ⟨b, 0, none⟩)) w) (hR : R r=.pointer (some ⟨b, 0, none⟩)) (hag : ∀ w, (isAgg T).run P w=.ok E.agg w) (hsz : ∀ w, (sizeOf T).run P w=.ok E.size w) (h0 : ∀ b o, A0 b o -> A b o) :
    ∃ v,zKK P R w (.cell r T) v/\Rep E A0 w v x:=by
  obtain ⟨b',e,hB,cs,hb,hr⟩:=hok
  obtain rfl:b'=b:=by injection e with h;injection h with h;injection h with h;exact h.symm
  refine ⟨E.val cs,⟨_,hR,?_⟩,cs,rfl,E.stp (zDV h0) hr⟩
  have:=zEC (P:=P) (w:=w) (b:=b') (o:=0) hag hsz (E.len hr) E.one (fun j u hu=>by rw [hb.cell,Nat.zero_add];simpa using hu)
  simpa [Enc.val] using this
theorem Rep.down {α:Type} {E:Enc α} {A0:Av} {v:Value} {x:α} (h:Rep E A w v x) (h0:∀ b o,A0 b o->A b o):Rep E A0 w v x:=h.stp (zDV h0)
section
variable {P:Program} {R:Reg} {d:Option Nat} {t:TypeId} {p:String} {af:Array Edge} {g:Option (Nat × Bool)} {x:Operand} {f f' f'':Fact}
theorem zBv (h:(Fact.tup2 f f').ok (zAL R x) w):OpF P ⟨d,.extract x 0,t,p,af,g⟩ R w f:=by
  obtain ⟨a,b,h1,h2,h3⟩:=h
  exact zAS (v:=a) (w':=w) (by simp [execOp,h1,Instr.extract]) ⟨h2,Fr.refl _⟩
theorem zBj (h:(Fact.tup2 f f').ok (zAL R x) w):OpF P ⟨d,.extract x 1,t,p,af,g⟩ R w f':=by
  obtain ⟨a,b,h1,h2,h3⟩:=h
  exact zAS (v:=b) (w':=w) (by simp [execOp,h1,Instr.extract]) ⟨h3,Fr.refl _⟩
theorem zJz (h:(Fact.tup3 f f' f'').ok (zAL R x) w):OpF P ⟨d,.extract x 0,t,p,af,g⟩ R w f:=by
  obtain ⟨a,b,c,h1,h2,h3,h4⟩:=h
  exact zAS (v:=a) (w':=w) (by simp [execOp,h1,Instr.extract]) ⟨h2,Fr.refl _⟩
theorem zJj (h:(Fact.tup3 f f' f'').ok (zAL R x) w):OpF P ⟨d,.extract x 1,t,p,af,g⟩ R w f':=by
  obtain ⟨a,b,c,h1,h2,h3,h4⟩:=h
  exact zAS (v:=b) (w':=w) (by simp [execOp,h1,Instr.extract]) ⟨h3,Fr.refl _⟩
theorem zJW (h:(Fact.tup3 f f' f'').ok (zAL R x) w):OpF P ⟨d,.extract x 2,t,p,af,g⟩ R w f'':=by
  obtain ⟨a,b,c,h1,h2,h3,h4⟩:=h
  exact zAS (v:=c) (w':=w) (by simp [execOp,h1,Instr.extract]) ⟨h4,Fr.refl _⟩
theorem zJ3 {T:TypeId} {a b:Bool} (hu:P.underlying T=some .bool):(Op.equal T (.bool a) (.bool b)).run P w=.ok (a==b) w:=by
  unfold Op.equal
  rw [show Op.maxDepth=9999+1 from rfl,Op.equalIn]
  simp only [Sem.run_bind,run_underlying hu,Result.andThen_ok,Sem.run_pure]
theorem zO9 {T T':TypeId} {y:Operand} {a b:Bool} (hu:P.underlying T=some .bool) (hx:zAL R x=.bool a) (hy:zAL R y=.bool b):OpF P ⟨d,.binOp .neq T x y T',t,p,af,g⟩ R w (.raw (.bool (a != b))):=by
  refine zAS (v:=.bool (a != b)) (w':=w) ?_ ⟨rfl,Fr.refl _⟩
  simp only [execOp,hx,hy,eqGuard,binOp,Sem.run_bind,zJ3 hu,Result.andThen_ok,Sem.run_pure]
  simp [bne]
theorem Res.mono {r:Res} {u:Value} {α:Type} {B B':Nat} {T:TypeId} {E:Enc α} {xs:List α} (h:(Res.vec B T E xs).ok A u w) (hB:B'<=B):(Res.vec B' T E xs).ok A u w:=by
  obtain ⟨cs,⟨h0,h⟩,hf⟩:=h
  refine ⟨cs,⟨h0,?_⟩,hf⟩
  rcases h with h | ⟨b,c,cur,h1,h2,h3⟩
  . exact .inl h
  . exact .inr ⟨b,c,cur,h1,by omega,h3⟩
theorem zNy {α:Type} {i:Int} {xs:List α} (h:inR i xs.length=true):xs.length ≠ 0:=by
  obtain ⟨h1,h2⟩:=zDx.1 h
  omega
theorem IniOK.nilcons {ini:List Ob} (h:IniOK ini A w) {u:Value} (hu:u=.slice none 0 0) {α:Type} (B:Nat) (T:TypeId) (E:Enc α):IniOK (ob u (.vec B T E [])::ini) A w:=by
  subst hu
  refine ⟨fun i p hp=>?_,fun i p hp=>(by cases i with | zero=>(simp at hp;subst hp;rfl) | succ i=>exact h.own i p (by simpa using hp)),fun i j p q hp hq hne k hk hk'=>?_⟩
  . cases i with
    | zero=>simp at hp;subst hp;exact ⟨zKp,fun k hk=>hk.elim⟩
    | succ i=>exact h.ok i p (by simpa using hp)
  . cases i with
    | zero=>simp at hp;subst hp;exact hk.elim
    | succ i=>
      cases j with
      | zero=>simp at hq;subst hq;exact hk'.elim
      | succ j=>exact h.dis i j p q (by simpa using hp) (by simpa using hq) (by omega) k hk hk'
theorem zN9 {P:Program} {o:Oper} {R:Reg} {u:Value} {r:Res} (h:(execOp (zAL R) o).run P w=.ok (.value u) w) (hok:r.ok A u w) (hav:∀ k,zAE u k->∀ o,A k o):OpR P o R w (Took A true u r (fun _=>.any) w):=by
  have hc:=Ch.refl (zAE u) w
  have hst:=zDG hav hc
  exact zAS h ⟨u,rfl,hc,fun k _ h=>h,hst,Res.stab hok (fun _ _=>rfl) hst,trivial⟩
theorem zAP {u:Value} {r:Res} (hx:zAL R x=u) (hok:r.ok A u w) (hav:∀ k,zAE u k->∀ o,A k o):OpR P ⟨d,.assign x,t,p,af,g⟩ R w (Took A true u r (fun _=>.any) w):=zN9 (by simp [execOp,hx]) hok hav
theorem zDq {α:Type} {E:Enc α} {B:Nat} {e T:TypeId} {u:Value} {xs:List α} {w0:World} {A0:Av} (hok:(Res.vec B e E xs).ok A0 u w0) (hx:zAL R x=u) (hu:P.underlying T=some (.slice e)):OpF P ⟨d,.call ⟨.builtin .len,#[x],#[T]⟩,t,p,af,g⟩ R w (.raw (.int .i64 (xs.length:Int))):=by
  obtain ⟨ad,cap,rfl,_⟩:=zIb hok
  exact zAS (w':=w) (by simp [execOp,resolve,invoke,builtin,Builtin.len_,hx,underlying,hu,goInt]) ⟨rfl,Fr.refl _⟩
theorem zBk {α:Type} {E:Enc α} {A0:Av} {B:Nat} {T:TypeId} {u v:Value} {xs:List α} (h:(Res.vec B T E xs).ok A u w/\∀ k,zAE u k->∀ o,A k o) (h0:∀ b o,A0 b o->A b o) (hv:v=u):(Res.vec B T E xs).ok (addA A0 v) v w:=by
  subst hv
  exact Res.stab h.1 (fun _ _=>rfl) ⟨Nat.le_refl _,fun _ _ _ h _=>h,fun b o _ h'=>h'.elim (h0 b o) fun h'=>h.2 b h' o⟩
theorem zEy {α : Type} {E : Enc α} {B : Nat} {e : TypeId} {xs : List α} {fn : FuncId} {al : List Operand} {aT : Array TypeId} (hc : ∀ args w, (callFunc fn args).run P w=.ok (.enter fn args) w)
    (h:Calls P fn (al.map (zAL R)).toArray w fun ed w'=>∃ v,ed=.returned v/\((Res.vec w.heap.size e E xs).ok (addA A v) v w'/\Fr w w')) (hB:B<=w.heap.size) :
    OpR P ⟨d,.call ⟨.value (.func fn),al.toArray,aT⟩,t,p,af,g⟩ R w (Made A (.vec B e E xs) (fun _=>.any) w):=by
  unfold OpR
  have:(execOp (zAL R) ⟨d,.call ⟨.value (.func fn),al.toArray,aT⟩,t,p,af,g⟩).run P w=.ok (.enter fn (al.map (zAL R)).toArray) w:=by
    simp [execOp,resolve,zAL,Deferred.ofValue,invoke,hc]
  rw [this]
  refine Calls.mono h ?_
  rintro ed w' ⟨v,he,hv,hf⟩
  exact ⟨v,he,hf,fun k hk=>Res.geB hv rfl hk,Res.mono (r:=.vec B e E xs) hv hB,trivial⟩
end
end
theorem zKm {P:Program} {e s b:Nat} {z:Value} (hz:∀ w,(zeroValue e).run P w=.ok z w) (hs:∀ w,(sizeOf e).run P w=.ok s w) (hb:(P.info? e).map (·.bytes)=some b) (h1:z.cells.size=s) (h2:0<s) (h3:b<=4096):ElF P e s:=by
  cases hi:P.info? e with
  | none=>rw [hi] at hb;cases hb
  | some i=>
    rw [hi] at hb
    injection hb with hb
    have h4:=hz default
    have h5:=hs default
    simp only [zeroValue,sizeOf,typeInfo,Sem.run_bind,run_program,Result.andThen_ok,hi,Sem.run_pure] at h4 h5
    cases hz':i.zero with
    | none=>rw [hz'] at h4;simp at h4
    | some z'=>
      rw [hz'] at h4
      simp only [Sem.run_pure] at h4
      injection h4 with h4
      injection h5 with h5
      subst h4
      exact ⟨i,z',b,hi,hz',h5,hb,h1,h2,h3⟩
def subR (lo hi:Int) (n:Nat):Bool:=decide (0<=lo)&&decide (lo<=hi)&&decide (hi<=n)
def subL {α:Type} (xs:List α) (lo hi:Int):List α:=(xs.drop lo.toNat).take (hi.toNat-lo.toNat)
theorem zDM {lo hi:Int} {n:Nat}:subR lo hi n=true ↔ 0<=lo/\lo<=hi/\hi<=n:=by simp [subR,and_assoc]
theorem zIa {α:Type} {xs:List α} {lo hi:Int} (h:subR lo hi xs.length=true):(subL xs lo hi).length=hi.toNat-lo.toNat:=by
  obtain ⟨h1,h2,h3⟩:=zDM.1 h
  unfold subL
  rw [List.length_take,List.length_drop]
  omega
theorem zNW {α:Type} {xs:List α} {lo hi:Int} {i:Nat} {x:α} (h:(subL xs lo hi)[i]? = some x):xs[lo.toNat+i]? = some x:=by
  unfold subL at h
  rw [List.getElem?_take] at h
  split at h
  . rwa [List.getElem?_drop] at h
  . cases h
theorem zOz {m n c:Nat} {lo hi:Int} (h1:0<=lo) (h3:hi<=(m:Int)) (hl:m=n) (hnc:n<=c) (hn:0<hi.toNat-lo.toNat):c ≠ lo.toNat:=by omega
section
variable {α:Type} {E:Enc α} {P:Program} {R:Reg} {A:Av} {w:World} {d:Option Nat} {t T:TypeId} {p:String} {af:Array Edge} {g:Option (Nat × Bool)} {x:Operand} {xs:List α}
theorem zL9 {ad : Option Addr} {n c : Nat} {lo hi : Int} (hl : xs.length = n) (hnc : n <= c) (hcm : c <= maxLen)
    (h4:0<n->∃ b off,ad=some ⟨b,off,none⟩/\b<w.heap.size/\∀ i x,xs[i]? = some x->QAt E A w b (off+i*E.size) x) (hr:subR lo hi xs.length=true) :
    Rep (eSl E) A w (.slice (if c=lo.toNat then ad else ad.map (·.add (lo.toNat*E.size))) (hi.toNat-lo.toNat) (c-lo.toNat)) (subL xs lo hi):=by
  obtain ⟨h1,h2,h3⟩:=zDM.1 hr
  refine ⟨_,rfl,_,_,_,rfl,zIa hr,by omega,by omega,fun hn=>?_⟩
  obtain ⟨b,off,rfl,hb,hall⟩:=h4 (by omega)
  have hne:c ≠ lo.toNat:=zOz h1 h3 hl hnc hn
  rw [if_neg hne]
  refine ⟨b,off+lo.toNat*E.size,by rw [Option.map_some,zD1],hb,fun i y hy=>?_⟩
  have:=hall _ y (zNW hy)
  rwa [Nat.add_mul,<- Nat.add_assoc] at this
theorem zDb {l : Operand} {lo : Int} {k : IntKind} {e : TypeId} (hx : Rep (eSl E) A w (zAL R x) xs) (hlo : zAL R l=.int k lo) (hu : P.underlying T = some (.slice e)) (hsz : ∀ w, (sizeOf e).run P w=.ok E.size w) (hr : subR lo xs.length xs.length = true) :
    OpF P ⟨d,.slice T x (some l) none none,t,p,af,g⟩ R w (.rep (eSl E) A (subL xs lo xs.length)):=by
  obtain ⟨cs,hv,ad,n,c,rfl,hl,hnc,hcm,h4⟩:=hx
  obtain ⟨h1,h2,h3⟩:=zDM.1 hr
  refine zAS (w':=w) ?_ ⟨zL9 hl hnc hcm h4 hr,Fr.refl _⟩
  have hv':zAL R x=.slice ad n c:=hv
  obtain ⟨m,rfl⟩:=Int.eq_ofNat_of_zero_le h1
  have b1:m<=n:=by omega
  simp [execOp,Instr.sliceAt,Instr.slice,Instr.sliceBounds,Instr.sliceBound,asIntOf,hv',hlo,underlying,hu,hsz,b1,hl,go_sem]
theorem zFO {h : Operand} {hi : Int} {k' : IntKind} {e : TypeId} (hx : Rep (eSl E) A w (zAL R x) xs) (hhi : zAL R h=.int k' hi) (hu : P.underlying T = some (.slice e)) (hsz : ∀ w, (sizeOf e).run P w=.ok E.size w) (hr : subR 0 hi xs.length = true) :
    OpF P ⟨d,.slice T x none (some h) none,t,p,af,g⟩ R w (.rep (eSl E) A (subL xs 0 hi)):=by
  obtain ⟨cs,hv,ad,n,c,rfl,hl,hnc,hcm,h4⟩:=hx
  obtain ⟨h1,h2,h3⟩:=zDM.1 hr
  refine zAS (w':=w) ?_ ⟨zL9 hl hnc hcm h4 hr,Fr.refl _⟩
  have hv':zAL R x=.slice ad n c:=hv
  obtain ⟨q,rfl⟩:=Int.eq_ofNat_of_zero_le h2
  have b2:q<=c:=by omega
  simp [execOp,Instr.sliceAt,Instr.slice,Instr.sliceBounds,Instr.sliceBound,asIntOf,hv',hhi,underlying,hu,hsz,b2,go_sem]
end
structure Br {α β : Type} (R : Rel α) (E : Enc β) (f : α -> β) (Q : β -> Prop) : Prop where
  get:∀ {w:World} {x:α} {cs:List Value},R w w.heap.size x cs->E.rep av0 w (f x) cs/\Q (f x)
def qU (n:Int):Prop:=0<=n/\n<=255
def qS {α:Type} (Q:α->Prop) (l:List α):Prop:=l.length<=maxLen/\∀ x ∈ l,Q x
def f2 {α β γ δ:Type} (f:α->γ) (g:β->δ) (x:α × β):γ × δ:=(f x.1,g x.2)
theorem zOT : Br zOZ (eInt .u8) id qU := Br.mk fun {w x cs} h => ⟨h.1, by
  have:=h.2
  unfold U8 at this
  have a:IntKind.u8.min=0:=by decide
  have b:IntKind.u8.max=255:=by decide
  simp [Lit.wf] at this
  unfold qU id
  omega⟩
theorem zIx {α : Type} {k : Nat} : ∀ {es : List (List α)}, (∀ e ∈ es, e.length = k) -> ∀ (i j : Nat) e u, es[i]? = some e -> e[j]? = some u -> es.flatten[i * k + j]? = some u
  | [],_,i,j,e,u,h,_=>by simp at h
  | e0::es,hk,0,j,e,u,h,hu=>by
    obtain rfl:e0=e:=by simpa using h
    rw [List.flatten_cons,Nat.zero_mul,Nat.zero_add,List.getElem?_append_left (List.getElem?_eq_some_iff.1 hu).1]
    exact hu
  | e0::es,hk,i+1,j,e,u,h,hu=>by
    have h0:e0.length=k:=hk e0 (List.mem_cons_self ..)
    have h':es[i]? = some e:=by simpa using h
    have:=zIx (fun e he=>hk e (List.mem_cons_of_mem _ he)) i j e u h' hu
    have hs:(i+1)*k+j=k+(i*k+j):=by rw [Nat.add_mul,Nat.one_mul];omega
    rw [List.flatten_cons,List.getElem?_append_right (by omega),hs,h0,Nat.add_sub_cancel_left]
    exact this
theorem zPF {α β:Type} {k:Nat} {R:Rel α} {E:Enc β} {f:α->β} {Q:β->Prop} (h:Br R E f Q) (hk:E.size=k):Br (slR k R) (eSl E) (fun l=>l.map f) (qS Q):=by
  refine ⟨?_⟩
  rintro w x cs ⟨A,n,c,es,rfl,h1,h2,h3,h4,h5,h6⟩
  have hes:∀ e ∈ es,e.length=k:=fun e he=>by
    obtain ⟨i,hi,rfl⟩:=List.getElem_of_mem he
    exact (h6 i _ _ (List.getElem?_eq_getElem (h4 ▸ hi)) (List.getElem?_eq_getElem hi)).1
  refine ⟨⟨A,n,c,rfl,by rw [List.length_map,h1],h2,h3,fun hn=>?_⟩,?_,?_⟩
  . obtain ⟨b, off, e, hb, hc⟩ := h5.2 hn
    refine ⟨b,off,e,hb,fun i y hy=>?_⟩
    rw [List.getElem?_map] at hy
    obtain ⟨x',hx',rfl⟩:=Option.map_eq_some_iff.1 hy
    have hi:i<es.length:=by rw [h4];exact (List.getElem?_eq_some_iff.1 hx').1
    obtain ⟨hl,hr⟩:=h6 i _ _ hx' (List.getElem?_eq_getElem hi)
    refine ⟨⟨es[i],(h.get hr).1,fun j u hu=>?_⟩,fun j _=>id⟩
    have:=hc _ u (zIx hes i j _ u (List.getElem?_eq_getElem hi) hu)
    rw [hk]
    rwa [Nat.add_assoc]
  . show (x.map f).length <= maxLen
    rw [List.length_map]
    omega
  . intro y hy
    obtain ⟨x',hx',rfl⟩:=List.mem_map.1 hy
    obtain ⟨i,hi,rfl⟩:=List.getElem_of_mem hx'
    have hi':i<es.length:=by omega
    exact (h.get (h6 i _ _ (List.getElem?_eq_getElem hi) (List.getElem?_eq_getElem hi')).2).2
theorem Br.cell {α β:Type} {R:Rel α} {E:Enc β} {f:α->β} {Q:β->Prop} (h:Br R E f Q) (ha:E.agg=false) {w:World} {x:α} {v:Value} (hr:R w w.heap.size x [v]):Rep E av0 w v (f x):=
  ⟨[v],by unfold Enc.val;rw [ha];rfl,(h.get hr).1⟩
theorem zOc (w:World):AvOK av0 w:=fun _ _ h=>h.elim
theorem zOe {P:Program} {fn:FuncId} {args:Array Value} {w:World} (h:Calls P fn args w fun e w'=>∃ v,e=.returned v/\(v=.bool true/\Fr w w')):Calls P fn args w fun e w'=>e=.returned (.bool true)/\Below w.heap.size w w':=
  h.mono fun e w' ⟨v,he,hv,hf⟩=>⟨by rw [he,hv],hf.toBelow⟩
def zJF (P:Program) (v:Value) (args:List Value) (w:World) (φ:Value->World->Prop):Prop:=
  ∃ (f:FuncId) (cap:List Value),v=.func (.func f) #[] cap.toArray/\(∀ args w,(callFunc f args).run P w=.ok (.enter f args) w)/\Calls P f (args++cap).toArray w fun e w'=>∃ u,e=.returned u/\φ u w'
theorem zJF.mono {P:Program} {v:Value} {args:List Value} {w:World} {φ ψ:Value->World->Prop} (h:zJF P v args w φ) (k:∀ u w',φ u w'->ψ u w'):zJF P v args w ψ:=by
  obtain ⟨f,cap,h1,h2,h3⟩:=h
  exact ⟨f,cap,h1,h2,h3.mono fun e w' ⟨u,he,hu⟩=>⟨u,he,k u w' hu⟩⟩
section
variable {P:Program} {R:Reg} {A A0:Av} {w w0:World} {d:Option Nat} {t:TypeId} {p:String} {af:Array Edge} {g:Option (Nat × Bool)}
theorem zIF {x : Operand} {v : Value} {al : List Operand} {aT : Array TypeId} {f : Fact} (hv : zAL R x = v) (h : zJF P v (al.map (zAL R)) w fun u w' => f.ok u w' /\ Fr w w') :
    OpF P ⟨d,.call ⟨.value x,al.toArray,aT⟩,t,p,af,g⟩ R w f:=by
  obtain ⟨fn,cap,e,hc,h⟩:=h
  unfold OpF OpR
  have:(execOp (zAL R) ⟨d,.call ⟨.value x,al.toArray,aT⟩,t,p,af,g⟩).run P w=.ok (.enter fn (al.map (zAL R)++cap).toArray) w:=by
    simp [execOp,resolve,hv,e,Deferred.ofValue,invoke,hc]
  rw [this]
  exact h
theorem zIP {fn:FuncId} {cap:List Operand} {c:List Value} (h:cap.map (zAL R)=c):OpF P ⟨d,.makeFunc (.func fn) #[] cap.toArray,t,p,af,g⟩ R w (.raw (.func (.func fn) #[] c.toArray)):=by
  subst h
  exact zAS (w':=w) (by simp [execOp,Instr.makeFunc]) ⟨rfl,Fr.refl _⟩
variable {α β ρ:Type} {E:Enc α} {G:Enc β} {φ:ρ->Fact} {v:Value}
abbrev noB:Nat->Prop:=fun _=>False
theorem Ch.fr0 {a b:World} (h:Ch noB a b):Fr a b:=⟨⟨h.os,h.tape,h.output,h.size,fun k hk=>h.block k hk fun h=>h⟩,h.drawn⟩
def FnK1 (P:Program) (E:Enc α) (φ:ρ->Fact) (A:Av) (K:Nat->Prop) (w0:World) (v:Value) (F:α->Option ρ):Prop:=
  ∀ (x:α) (r:ρ),F x=some r->∀ (w:World) (a:Value),Ch K w0 w->AvOK A w->Rep E A w a x->zJF P v [a] w fun u w'=>(φ r).ok u w'/\Fr w w'
def FnK2 (P:Program) (E:Enc α) (G:Enc β) (φ:ρ->Fact) (A:Av) (K:Nat->Prop) (w0:World) (v:Value) (F:α->β->Option ρ):Prop:=
  ∀ (x:α) (y:β) (r:ρ),F x y=some r->∀ (w:World) (a b:Value),Ch K w0 w->AvOK A w->Rep E A w a x->Rep G A w b y->zJF P v [a,b] w fun u w'=>(φ r).ok u w'/\Fr w w'
abbrev FnB1 (P:Program) (E:Enc α) (φ:ρ->Fact) (A:Av) (w0:World) (v:Value) (F:α->Option ρ):Prop:=FnK1 P E φ A noB w0 v F
abbrev FnB2 (P:Program) (E:Enc α) (G:Enc β) (φ:ρ->Fact) (A:Av) (w0:World) (v:Value) (F:α->β->Option ρ):Prop:=FnK2 P E G φ A noB w0 v F
theorem Rep.less {v:Value} {x:α} (h:Rep E A w v x) (hAA:∀ b o,A0 b o->A b o):Rep E A0 w v x:=h.stp ⟨Nat.le_refl _,fun _ _ _ h _=>h,fun b o _ h=>hAA b o h⟩
theorem FnK1.on {K K':Nat->Prop} {F:α->Option ρ} (h:FnK1 P E φ A0 K w0 v F) (hF:Ch K w0 w) (hK:∀ k,k<w0.heap.size->K' k->K k) (hAA:∀ b o,A0 b o->A b o):FnK1 P E φ A K' w v F:=
  fun _ _ hr _ _ hf hA ha=>h _ _ hr _ _ (hF.trans hf hK) (fun b o hb=>hA b o (hAA b o hb)) (ha.less hAA)
theorem FnK2.on {K K':Nat->Prop} {F:α->β->Option ρ} (h:FnK2 P E G φ A0 K w0 v F) (hF:Ch K w0 w) (hK:∀ k,k<w0.heap.size->K' k->K k) (hAA:∀ b o,A0 b o->A b o):FnK2 P E G φ A K' w v F:=
  fun _ _ _ hr _ _ _ hf hA ha hb=>h _ _ _ hr _ _ _ (hF.trans hf hK) (fun b o hb=>hA b o (hAA b o hb)) (ha.less hAA) (hb.less hAA)
theorem FnB1.on {F:α->Option ρ} (h:FnB1 P E φ A0 w0 v F) (hF:Fr w0 w) (hAA:∀ b o,A0 b o->A b o):FnB1 P E φ A w v F:=FnK1.on h (hF.ch _) (fun _ _ h=>h) hAA
theorem FnB2.on {F:α->β->Option ρ} (h:FnB2 P E G φ A0 w0 v F) (hF:Fr w0 w) (hAA:∀ b o,A0 b o->A b o):FnB2 P E G φ A w v F:=FnK2.on h (hF.ch _) (fun _ _ h=>h) hAA
theorem FnK1.eq {K:Nat->Prop} {F:α->Option ρ} {v':Value} (h:FnK1 P E φ A K w v F) (e:v'=v):FnK1 P E φ A K w v' F:=e ▸ h
theorem FnK2.eq {K:Nat->Prop} {F:α->β->Option ρ} {v':Value} (h:FnK2 P E G φ A K w v F) (e:v'=v):FnK2 P E G φ A K w v' F:=e ▸ h
theorem FnB1.eq {F:α->Option ρ} {v':Value} (h:FnB1 P E φ A w v F) (e:v'=v):FnB1 P E φ A w v' F:=e ▸ h
theorem FnB2.eq {F:α->β->Option ρ} {v':Value} (h:FnB2 P E G φ A w v F) (e:v'=v):FnB2 P E G φ A w v' F:=e ▸ h
theorem zO7 {f : FuncId} {F : α -> β -> Option ρ} (cap : List Value) (hv : v=.func (.func f) #[] cap.toArray) (hc : ∀ args w, (callFunc f args).run P w=.ok (.enter f args) w)
    (h:∀ x y r,F x y=some r->∀ w a b,Fr w0 w->AvOK A w->Rep E A w a x->Rep G A w b y->Calls P f (a::b::cap).toArray w fun e w'=>∃ u,e=.returned u/\((φ r).ok u w'/\Fr w w')):FnB2 P E G φ A w0 v F:=
  fun x y r hr w a b hF hA ha hb=>⟨f,cap,hv,hc,h x y r hr w a b hF.fr0 hA ha hb⟩
theorem zOJ {K : Nat -> Prop} {f : FuncId} {F : α -> Option ρ} (cap : List Value) (hv : v=.func (.func f) #[] cap.toArray) (hc : ∀ args w, (callFunc f args).run P w=.ok (.enter f args) w)
    (h:∀ x r,F x=some r->∀ w a,Ch K w0 w->AvOK A w->Rep E A w a x->Calls P f (a::cap).toArray w fun e w'=>∃ u,e=.returned u/\((φ r).ok u w'/\Fr w w')):FnK1 P E φ A K w0 v F:=
  fun x r hr w a hF hA ha=>⟨f,cap,hv,hc,h x r hr w a hF hA ha⟩
theorem zO2 {K : Nat -> Prop} {f : FuncId} {F : α -> β -> Option ρ} (cap : List Value) (hv : v=.func (.func f) #[] cap.toArray) (hc : ∀ args w, (callFunc f args).run P w=.ok (.enter f args) w)
    (h:∀ x y r,F x y=some r->∀ w a b,Ch K w0 w->AvOK A w->Rep E A w a x->Rep G A w b y->Calls P f (a::b::cap).toArray w fun e w'=>∃ u,e=.returned u/\((φ r).ok u w'/\Fr w w')):FnK2 P E G φ A K w0 v F:=
  fun x y r hr w a b hF hA ha hb=>⟨f,cap,hv,hc,h x y r hr w a b hF hA ha hb⟩
theorem zM5 {k:IntKind} {n:Int} (h:Rep (eInt k) A w v n):v=.int k n:=by
  obtain ⟨cs,h1,h2⟩:=h
  rw [h1,h2]
  rfl
def CRep (E:Enc α) (A:Av) (w:World) (B:Nat) (v:Value) (x:α):Prop:=∃ b o,v=.pointer (some ⟨b,o,none⟩)/\b<B/\b<w.heap.size/\PAt E A w b o x
theorem CRep.mk' {x:α} (h:PRep E A w v x):CRep E A w w.heap.size v x:=let ⟨b,o,h1,h2,h3⟩:=h;⟨b,o,h1,h2,h2,h3⟩
theorem CRep.ptr {B:Nat} {x:α} {v':Value} (h:CRep E A w B v x) (e:v'=v):PRep E A w v' x:=let ⟨b,o,h1,_,h2,h3⟩:=h;⟨b,o,e.trans h1,h2,h3⟩
theorem CRep.fr {B:Nat} {x:α} {w':World} (h:CRep E A w B v x) (hs:Fr w w'):CRep E A w' B v x:=let ⟨b,o,h1,h0,h2,h3⟩:=h;⟨b,o,h1,h0,Nat.lt_of_lt_of_le h2 hs.size,h3.fr h2 hs⟩
theorem CRep.stp {B:Nat} {x:α} {w':World} {A':Av} (h:CRep E A w B v x) (hs:Stp A A' w w') (hb:Below B w w'):CRep E A' w' B v x:=by
  obtain ⟨b,o,h1,h0,h2,cs,h3,h4⟩:=h
  exact ⟨b,o,h1,h0,Nat.lt_of_lt_of_le h2 hs.size,cs,E.stp hs h3,fun j u hu=>(hb.cell (p:=⟨b,o+j,none⟩) h0).trans (h4 j u hu)⟩
end
section
variable {P:Program} {R:Reg} {A:Av} {w:World} {d:Option Nat} {t:TypeId} {p:String} {af:Array Edge} {g:Option (Nat × Bool)} {α:Type} {E:Enc α} {x:α}
theorem zDn {T:TypeId} {parts:Array (Nat × Operand)} {v:Value} (h:(execOp (zAL R) ⟨d,.build T parts,t,p,af,g⟩).run P w=.ok (.value v) w) (hr:Rep E A w v x):OpF P ⟨d,.build T parts,t,p,af,g⟩ R w (.rep E A x):=
  zAS (w':=w) h ⟨hr,Fr.refl _⟩
theorem zFh {S D:TypeId} {y:Operand} {k k':IntKind} {a:Int} (hx:zAL R y=.int k a) (hs:P.underlying S=some (.int k)) (hd:P.underlying D=some (.int k')):OpF P ⟨d,.convert S D y,t,p,af,g⟩ R w (.raw (.int k' (k'.wrap a))):=
  zAS (w':=w) (by simp [execOp,convert,hx,hs,hd,underlying,go_sem]) ⟨rfl,Fr.refl _⟩
theorem zMG {T T':TypeId} {y z:Operand} {k k':IntKind} {a b:Int} (hx:zAL R y=.int k a) (hy:zAL R z=.int k' b) (h0:decide (0<=b)=true):OpF P ⟨d,.binOp .shr T y z T',t,p,af,g⟩ R w (.raw (.int k (a / 2 ^ min b.toNat k.bits))):=by
  have h0:=of_decide_eq_true h0
  exact zAS (w':=w) (by simp [execOp,hx,hy,go_sem,h0]) ⟨rfl,Fr.refl _⟩
end
section
variable {P:Program} {R:Reg} {w:World} {d:Option Nat} {t:TypeId} {p:String} {af:Array Edge} {g:Option (Nat × Bool)} {A:Av} {α β:Type} {x y:Operand} {T T':TypeId}
section ints
variable {k k':IntKind} {a b c e:Int}
theorem zIE (hx:zAL R x=.int k a) (hy:zAL R y=.int k b):OpF P ⟨d,.binOp .add T x y T',t,p,af,g⟩ R w (.raw (.int k (k.wrap (a+b)))):=
  zAS (w':=w) (by simp [execOp,hx,hy,go_sem]) ⟨rfl,Fr.refl _⟩
theorem zNi (hx:zAL R x=.int k a) (hy:zAL R y=.int k b):OpF P ⟨d,.binOp .mul T x y T',t,p,af,g⟩ R w (.raw (.int k (k.wrap (a*b)))):=
  zAS (w':=w) (by simp [execOp,hx,hy,go_sem]) ⟨rfl,Fr.refl _⟩
def bitI (f:{n:Nat}->BitVec n->BitVec n->BitVec n) (k:IntKind) (a b:Int):Int:=k.wrap (f (BitVec.ofInt k.bits a) (BitVec.ofInt k.bits b)).toNat
theorem zND (hx:zAL R x=.int k a) (hy:zAL R y=.int k b):OpF P ⟨d,.binOp .and T x y T',t,p,af,g⟩ R w (.raw (.int k (bitI (fun u v=>u &&& v) k a b))):=
  zAS (w':=w) (by simp [execOp,hx,hy,go_sem,bitI];rfl) ⟨rfl,Fr.refl _⟩
theorem zP8 (hx:zAL R x=.int k a) (hy:zAL R y=.int k b):OpF P ⟨d,.binOp .xor T x y T',t,p,af,g⟩ R w (.raw (.int k (bitI (fun u v=>u ^^^ v) k a b))):=
  zAS (w':=w) (by simp [execOp,hx,hy,go_sem,bitI];rfl) ⟨rfl,Fr.refl _⟩
end ints
def bLt (a b:List UInt8):Bool:=Op.bytesLess a b
theorem zII {A:Av} {w:World} {s:ByteArray} {x:List UInt8} (hx:s.data.toList=x) (h:s.size<=maxLen):eStr.rep A w x [.string s]:=⟨s,rfl,hx,h⟩
theorem zL1 {A:Av} {w:World} {v:Value} {x:List UInt8} (h:Rep eStr A w v x):∃ s,v=.string s/\eStr.rep A w x [.string s]:=by
  obtain ⟨cs,hv,s,rfl,h1,h2⟩:=h
  exact ⟨s,hv,s,rfl,h1,h2⟩
theorem zF7 {E:Enc α} {A:Av} {w:World} {v:Value} {x:List α} (h:Rep (eSl E) A w v x):∃ a n c,v=.slice a n c/\(eSl E).rep A w x [.slice a n c]:=by
  obtain ⟨cs,hv,a,n,c,rfl,h1⟩:=h
  exact ⟨a,n,c,hv,a,n,c,rfl,h1⟩
section strs
variable {a b:List UInt8}
theorem zFQ (hx:Rep eStr A w (zAL R x) a):∃ s:ByteArray,zAL R x=.string s/\s.toList=a/\s.size<=maxLen:=by
  obtain ⟨cs,hv,s,rfl,rfl,hm⟩:=hx
  exact ⟨s,hv,ByteArray.toList_eq s,hm⟩
theorem zFc (hx:Rep eStr A w (zAL R x) a) (hy:Rep eStr A w (zAL R y) b):OpF P ⟨d,.binOp .eql T x y T',t,p,af,g⟩ R w (.raw (.bool (a==b))):=by
  obtain ⟨s,hs,rfl,_⟩:=zFQ hx
  obtain ⟨u,hu,rfl,_⟩:=zFQ hy
  exact zAS (w':=w) (by simp [execOp,hs,hu,go_sem]) ⟨rfl,Fr.refl _⟩
theorem zMm (hx:Rep eStr A w (zAL R x) a) (hy:Rep eStr A w (zAL R y) b):OpF P ⟨d,.binOp .neq T x y T',t,p,af,g⟩ R w (.raw (.bool (!(a==b)))):=by
  obtain ⟨s,hs,rfl,_⟩:=zFQ hx
  obtain ⟨u,hu,rfl,_⟩:=zFQ hy
  exact zAS (w':=w) (by simp [execOp,hs,hu,go_sem]) ⟨rfl,Fr.refl _⟩
theorem zLS (hx:Rep eStr A w (zAL R x) a) (hy:Rep eStr A w (zAL R y) b):OpF P ⟨d,.binOp .lss T x y T',t,p,af,g⟩ R w (.raw (.bool (bLt a b))):=by
  obtain ⟨s,hs,rfl,_⟩:=zFQ hx
  obtain ⟨u,hu,rfl,_⟩:=zFQ hy
  exact zAS (w':=w) (by simp [execOp,hs,hu,go_sem,bLt]) ⟨rfl,Fr.refl _⟩
theorem zOU (hx:Rep eStr A w (zAL R x) a) (hy:Rep eStr A w (zAL R y) b):OpF P ⟨d,.binOp .gtr T x y T',t,p,af,g⟩ R w (.raw (.bool (!(bLt a b || a==b)))):=by
  obtain ⟨s,hs,rfl,_⟩:=zFQ hx
  obtain ⟨u,hu,rfl,_⟩:=zFQ hy
  exact zAS (w':=w) (by simp [execOp,hs,hu,go_sem,bLt]) ⟨rfl,Fr.refl _⟩
theorem zJn (hx:Rep eStr A w (zAL R x) a) (hy:Rep eStr A w (zAL R y) b):OpF P ⟨d,.binOp .geq T x y T',t,p,af,g⟩ R w (.raw (.bool (!(bLt a b)))):=by
  obtain ⟨s,hs,rfl,_⟩:=zFQ hx
  obtain ⟨u,hu,rfl,_⟩:=zFQ hy
  exact zAS (w':=w) (by simp [execOp,hs,hu,go_sem,bLt]) ⟨rfl,Fr.refl _⟩
end strs
section
variable {a b c:Int}
theorem zOV {al:Array TypeId} (hx:zAL R x=.int .i64 a) (hy:zAL R y=.int .i64 b):OpF P ⟨d,.call ⟨.builtin .min,#[x,y],al⟩,t,p,af,g⟩ R w (.raw (.int .i64 (min a b))):=by
  refine zAS (v:=.int .i64 (min a b)) (w':=w) ?_ ⟨rfl,Fr.refl _⟩
  simp [hx,hy,go_sem]
  split <;> omega
end
def strB (xs:List Int):List UInt8:=xs.map fun n=>UInt8.ofNat n.toNat
theorem zJp {S D e : TypeId} {xs : List Int} {A1 : Av} (hx : Rep (eSl (eInt .u8)) A1 w (zAL R y) xs) (hs : P.underlying S = some (.slice e)) (he : P.underlying e = some (.int .u8)) (hd : P.underlying D = some .string) :
    OpF P ⟨d,.convert S D y,t,p,af,g⟩ R w (.rep eStr A (strB xs)):=by
  obtain ⟨cs,hv,ad,n,c,rfl,hl,hnc,hcm,h4⟩:=hx
  have hv':zAL R y=.slice ad n c:=hv
  rcases Nat.eq_zero_or_pos n with h0 | h0
  . have hnil : xs = [] := List.eq_nil_of_length_eq_zero (by omega)
    subst hnil
    refine zAS (v:=.string ByteArray.empty) (w':=w) ?_ ⟨⟨_,rfl,_,rfl,rfl,Nat.zero_le _⟩,Fr.refl _⟩
    have:(convert S D (.slice ad n c)).run P w=.ok (.string ByteArray.empty) w:=by
      rw [run_convert_bytes_string w S D e ad n c hs he hd,h0]
      cases ad with
      | none=>simp [Conv.bytesToString]
      | some a => 
        have:=run_bytesToString (P:=P) w a 0 c [] (by simp [loadCells,loadCellsFrom])
        simpa using this
    simp [execOp,hv',this]
  . obtain ⟨b, off, rfl, hb, hall⟩ := h4 h0
    have hc:=run_convert_bytes_arg (P:=P) w S e hs he b off n c xs hl (fun i hi=>by
      have hx:xs[i]? = some xs[i]:=List.getElem?_eq_getElem (by omega)
      obtain ⟨⟨cs,h1,h2⟩,_⟩:=hall i _ hx
      obtain rfl:=h1
      have:=h2 0 _ rfl
      simp only [eInt,Nat.mul_one,Nat.add_zero] at this
      rw [this]
      simp [List.getD,hx]) D hd
    refine zAS (v:=.string (strOfNums xs)) (w':=w) (by simp [execOp,hv',hc]) ⟨⟨_,rfl,_,rfl,?_,?_⟩,Fr.refl _⟩
    . simp [strOfNums,strB]
    . have : (strOfNums xs).size = xs.length := by simp [strOfNums, ByteArray.size]
      omega
def zI5 : Value -> Bool
  | .slice none _ _=>true
  | _=>false
section
variable {E:Enc α} {xs:List α} {u:Value} {e:TypeId}
theorem zHs (h:Rep (eSl E) A w u xs) (hn:zI5 u=true):xs = []:=by
  obtain ⟨cs,rfl,ad,n,c,rfl,hl,hnc,hcm,h4⟩:=h
  rcases Nat.eq_zero_or_pos n with h0 | h0
  . exact List.eq_nil_of_length_eq_zero (by omega)
  . obtain ⟨b, off, rfl, _⟩ := h4 h0
    cases hn
theorem zHf (hx:zAL R x=u) (h:Rep (eSl E) A w u xs) (hy:zAL R y=.slice none 0 0) (hu:P.underlying T=some (.slice e)):OpF P ⟨d,.binOp .eql T x y T',t,p,af,g⟩ R w (.raw (.bool (zI5 u))):=by
  obtain ⟨cs,rfl,ad,n,c,rfl,hl,hnc,hcm,h4⟩:=h
  have hx':zAL R x=.slice ad n c:=hx
  cases ad with
  | none=>exact zAS (v:=.bool true) (w':=w) (by simp [execOp,hx',hy,eqGuard];simp [binOp,Op.equal,Op.maxDepth,Lib.run_equalIn_slice_nil w 9999 T e none n c 0 0 hu]) ⟨rfl,Fr.refl _⟩
  | some a=>exact zAS (v:=.bool false) (w':=w) (by simp [execOp,hx',hy,eqGuard];simp [binOp,Op.equal,Op.maxDepth,Lib.run_equalIn_slice_nil w 9999 T e (some a) n c 0 0 hu]) ⟨rfl,Fr.refl _⟩
end
def vsub (u : Value) (lo n s : Nat) : Value := match u with
  | .slice a _ c=>.slice (if c=lo then a else a.map (·.add (lo*s))) n (c-lo)
  | v=>v
section
variable {E:Enc α} {xs:List α} {u:Value} {e:TypeId} {B:Nat} {w0:World} {A0:Av} {k:IntKind} {lo i:Int} {n s:Nat}
theorem zIe {l : Operand} (hV : Vec E A0 B e w0 u xs) (hx : zAL R x = u) (hlo : zAL R l=.int k lo) (hu : P.underlying T = some (.slice e)) (hsz : ∀ w, (sizeOf e).run P w=.ok s w) (hr : subR lo xs.length xs.length = true) :
    OpF P ⟨d,.slice T x (some l) none none,t,p,af,g⟩ R w (.raw (vsub u lo.toNat (xs.length-lo.toNat) s)):=by
  obtain ⟨ad,cap,rfl,_⟩:=zIb hV
  obtain ⟨h1,h2,h3⟩:=zDM.1 hr
  refine zAS (w':=w) ?_ ⟨rfl,Fr.refl _⟩
  obtain ⟨m,rfl⟩:=Int.eq_ofNat_of_zero_le h1
  have b1:m<=xs.length:=by omega
  simp [execOp,Instr.sliceAt,Instr.slice,Instr.sliceBounds,Instr.sliceBound,asIntOf,hx,hlo,underlying,hu,hsz,b1,go_sem,vsub]
theorem zJL {h : Operand} {hi : Int} {k' : IntKind} (hV : Vec E A0 B e w0 u xs) (hx : zAL R x = u) (hhi : zAL R h=.int k' hi) (hu : P.underlying T = some (.slice e)) (hsz : ∀ w, (sizeOf e).run P w=.ok s w) (hr : subR 0 hi xs.length = true) :
    OpF P ⟨d,.slice T x none (some h) none,t,p,af,g⟩ R w (.raw (vsub u (0:Int).toNat (hi.toNat-(0:Int).toNat) s)):=by
  obtain ⟨cs,hown,hf⟩:=hV
  obtain ⟨h1,h2,h3⟩:=zDM.1 hr
  obtain ⟨q,rfl⟩:=Int.eq_ofNat_of_zero_le h2
  rcases hown.2 with ⟨rfl,hz⟩ | ⟨b,cap,cur,rfl,_,_,hnc,_⟩
  . have hq : q = 0 := by omega
    subst hq
    refine zAS (w':=w) ?_ ⟨rfl,Fr.refl _⟩
    simp [execOp,Instr.sliceAt,Instr.slice,Instr.sliceBounds,Instr.sliceBound,asIntOf,hx,hhi,underlying,hu,hsz,go_sem,vsub]
  . have b2 : q <= cap := by omega
    refine zAS (w':=w) ?_ ⟨rfl,Fr.refl _⟩
    simp [execOp,Instr.sliceAt,Instr.slice,Instr.sliceBounds,Instr.sliceBound,asIntOf,hx,hhi,underlying,hu,hsz,b2,go_sem,vsub]
theorem zLk (hV:Vec E A0 B e w0 u xs):∃ a c,vsub u lo.toNat n s=.slice a n c:=by
  obtain ⟨ad,cap,rfl,_⟩:=zIb hV
  exact ⟨_,_,rfl⟩
theorem zLC (hV:Vec E A0 B e w0 u xs) (hx:zAL R x=vsub u lo.toNat n s) (hu:P.underlying T=some (.slice e)):OpF P ⟨d,.call ⟨.builtin .len,#[x],#[T]⟩,t,p,af,g⟩ R w (.raw (.int .i64 (n:Int))):=by
  obtain ⟨a,c,h⟩:=zLk (lo:=lo) (n:=n) (s:=s) hV
  rw [h] at hx
  exact zAS (w':=w) (by simp [execOp,resolve,invoke,builtin,Builtin.len_,hx,underlying,hu,goInt]) ⟨rfl,Fr.refl _⟩
theorem zEk {ix : Operand} {m : Nat} (hV : Vec E A0 B e w0 u xs) (hx : zAL R x = vsub u lo.toNat n s) (hi : zAL R ix=.int k i) (hu : P.underlying T = some (.slice e)) (hsz : ∀ w, (sizeOf e).run P w=.ok s w) (hr : inR i n = true) (h0 : decide (0 <= lo) = true) (hr' : inR (lo + i) xs.length = true) (hm : (lo + i).toNat * s = m) :
    OpF P ⟨d,.indexAddr T x ix,t,p,af,g⟩ R w (.raw (vptr u m)):=by
  subst hm
  obtain ⟨cs,hown,_⟩:=hV
  obtain ⟨i0,i1⟩:=zDx.1 hr
  obtain ⟨j0,j1⟩:=zDx.1 hr'
  have h0:=of_decide_eq_true h0
  rcases hown.2 with ⟨rfl,hz⟩ | ⟨b,cap,cur,rfl,_,_,hnc,_⟩
  . omega
  . have hne : cap ≠ lo.toNat := by omega
    have hx':zAL R x=.slice (some ⟨b,lo.toNat*s,none⟩) n (cap-lo.toNat):=by
      rw [hx]
      simp [vsub,hne,zD1]
    refine zAS (v:=.pointer (some ⟨b,lo.toNat*s+i.toNat*s,none⟩)) (w':=w) ?_ ⟨?_,Fr.refl _⟩
    . simp [execOp,Instr.indexAt,hx',hi,asIntOf,underlying,hu,i0,i1,hsz,zD1]
    . show Value.pointer _ = Value.pointer _
      rw [show (lo+i).toNat=lo.toNat+i.toNat by omega,Nat.add_mul,Nat.zero_add]
theorem zH3 {h : Operand} {hi : Int} {ys : List α} (hx : zAL R x = u) (hok : (Res.vec B e E xs).ok A u w) (hav : ∀ k, zAE u k -> ∀ o, A k o) (hh : zAL R h=.int k hi) (hu : P.underlying T = some (.slice e)) (hsz : ∀ w, (sizeOf e).run P w=.ok s w) (hr : subR 0 hi xs.length = true) (hy : subL xs 0 hi = ys) :
    OpR P ⟨d,.slice T x none (some h) none,t,p,af,g⟩ R w (Took A true u (.vec B e E ys) (fun _=>.any) w):=by
  subst hy
  obtain ⟨cs,hown,hf⟩:=hok
  obtain ⟨h1,h2,h3⟩:=zDM.1 hr
  obtain ⟨q,rfl⟩:=Int.eq_ofNat_of_zero_le h2
  have hlen:(subL xs 0 (q:Int)).length=q:=by rw [zIa hr];simp
  have hsub:subL xs 0 (q:Int)=xs.take q:=by simp [subL]
  have hflat:Flat E A w (cs.take (q*E.size)) (xs.take q):=by
    have hq:q<=xs.length:=by omega
    have hm:=Nat.mul_le_mul_right E.size hq
    refine ⟨by rw [List.length_take,List.length_take,hf.1,Nat.min_eq_left hm,Nat.min_eq_left hq],fun i y hy=>?_⟩
    rw [List.getElem?_take] at hy
    split at hy
    . obtain ⟨ds, k1, k2⟩ := hf.2 i y hy
      refine ⟨ds,k1,fun j d hj=>?_⟩
      have hjl:=(List.getElem?_eq_some_iff.1 hj).1
      rw [E.len k1] at hjl
      have hmm:=Nat.mul_le_mul_right E.size (show i+1<=q by omega)
      rw [Nat.add_mul,Nat.one_mul] at hmm
      rw [List.getElem?_take,if_pos (by omega)]
      exact k2 j d hj
    . cases hy
  rw [hsub] at hlen ⊢
  rcases hown.2 with ⟨rfl,hz⟩ | ⟨b,cap,cur,rfl,hBb,hb,hnc,hcm,hcs,htk⟩
  . have hq0 : q = 0 := by omega
    subst hq0
    have hc:=Ch.refl (zAE (.slice none 0 0)) w
    refine zAS (v:=.slice none 0 0) (w':=w) ?_ ⟨_,rfl,hc,fun k _ h=>h,zDG hav hc,?_,trivial⟩
    . simp [execOp,Instr.sliceAt,Instr.slice,Instr.sliceBounds,Instr.sliceBound,asIntOf,hx,hh,underlying,hu,hsz,go_sem]
    . rw [List.take_zero]
      exact zKp
  . have b2 : q <= cap := by omega
    have hrun:(execOp (zAL R) ⟨d,.slice T x none (some h) none,t,p,af,g⟩).run P w=.ok (.value (.slice (some ⟨b,0,none⟩) q cap)) w:=by
      have e0:(⟨b,0,none⟩:Addr).add (0*s)=⟨b,0,none⟩:=by rw [zD1];simp
      have e1:(if cap=0 then some (⟨b,0,none⟩:Addr) else some ((⟨b,0,none⟩:Addr).add (0*s)))=some ⟨b,0,none⟩:=by rw [e0];split <;> rfl
      simp [execOp,Instr.sliceAt,Instr.slice,Instr.sliceBounds,Instr.sliceBound,asIntOf,hx,hh,underlying,hu,hsz,b2,go_sem]
    have hc:=Ch.refl (zAE (.slice (some ⟨b,0,none⟩) xs.length cap)) w
    have hst:=zDG hav hc
    refine zAS hrun ⟨.slice (some ⟨b,0,none⟩) q cap,rfl,hc,fun k _ h=>h,hst,⟨cs.take (q*E.size),⟨by rw [hflat.1],.inr ⟨b,cap,cur,by rw [hlen],hBb,hb,by omega,hcm,hcs,?_⟩⟩,hflat.stp hst⟩,trivial⟩
    rw [hlen,<- htk,List.take_take,Nat.min_eq_left (Nat.mul_le_mul_right _ (by omega))]
end
theorem zJN {A:Av} {u:Value} (hav:∀ k,zAE u k->∀ o,A k o):zKb A u u=A:=by
  funext b o
  apply propext
  constructor
  . rintro (⟨h, _⟩ | h)
    . exact h
    . exact hav b h o
  . intro h
    by_cases hb:zAE u b
    . exact .inr hb
    . exact .inl ⟨h,hb⟩
abbrev subA (A:Av) (u:Value):Av:=fun b o=>A b o/\¬ zAE u b
theorem AvOK.sub {A:Av} (h:AvOK A w) (u:Value):AvOK (subA A u) w:=fun b o hb=>h b o hb.1
theorem zNc {A:Av} {u:Value} (hav:∀ k,zAE u k->∀ o,A k o):addA (subA A u) u=A:=by
  funext b o
  apply propext
  constructor
  . rintro (⟨h, _⟩ | h)
    . exact h
    . exact hav b h o
  . intro h
    by_cases hb:zAE u b
    . exact .inr hb
    . exact .inl ⟨h,hb⟩
theorem zNa {E:Enc α} {B B':Nat} {e:TypeId} {u:Value} {xs:List α} {A:Av} (hB:B'<=B) (h:(Res.vec B e E xs).ok A u w):(Res.vec B' e E xs).ok A u w:=
  let ⟨cs,h1,h2⟩:=h;⟨cs,⟨h1.1,h1.2.imp id fun ⟨g,cap,cur,e1,hb,r⟩=>⟨g,cap,cur,e1,Nat.le_trans hB hb,r⟩⟩,h2⟩
theorem Vec.flat {E:Enc α} {B:Nat} {e:TypeId} {u:Value} {xs:List α} {A A':Av} (h:(Res.vec B e E xs).ok A u w) (hfl:∀ A A' w x cs,E.rep A w x cs->E.rep A' w x cs):(Res.vec B e E xs).ok A' u w:=
  let ⟨cs,h1,h2,h3⟩:=h;⟨cs,h1,h2,fun i x hx=>let ⟨ds,h4,h5⟩:=h3 i x hx;⟨ds,hfl _ _ _ _ _ h4,h5⟩⟩
theorem FnK1.flat {ρ:Type} {E:Enc α} {φ:ρ->Fact} {K:Nat->Prop} {v:Value} {F:α->Option ρ} {A A':Av} (h:FnK1 P E φ A K w v F) (hA:AvOK A w) (hfl:∀ A A' w x cs,E.rep A w x cs->E.rep A' w x cs):FnK1 P E φ A' K w v F:=
  fun x r hr w' a hch _ ha=>h x r hr w' a hch (hA.fr hch.size) (let ⟨cs,h1,h2⟩:=ha;⟨cs,h1,hfl _ _ _ _ _ h2⟩)
theorem FnK1.mono {ρ:Type} {E:Enc α} {φ:ρ->Fact} {K K':Nat->Prop} {v:Value} {F:α->Option ρ} (h:FnK1 P E φ A K w v F) (hK:∀ k,K' k->K k):FnK1 P E φ A K' w v F:=
  fun x r hr w' a hch hA ha=>h x r hr w' a ⟨hch.os,hch.tape,hch.output,hch.size,fun k hk hn=>hch.block k hk fun h'=>hn (hK k h'),hch.drawn⟩ hA ha
theorem IniOK.one {E:Enc α} {B:Nat} {e:TypeId} {u:Value} {xs:List α} {A:Av} (h:(Res.vec B e E xs).ok A u w) (hfl:∀ A A' w x cs,E.rep A w x cs->E.rep A' w x cs):IniOK [ob u (.vec B e E xs)] (addA A u) w:=by
  refine ⟨fun i p hp=>?_,fun i p hp=>?_,fun i j p q hp hq hne k hk hk'=>?_⟩
  . cases i with
    | zero=>simp at hp;subst hp;exact ⟨Vec.flat h hfl,fun k hk o=>.inr hk⟩
    | succ i=>simp at hp
  . cases i with
    | zero=>simp at hp;subst hp;rfl
    | succ i=>simp at hp
  . cases i with
    | zero=>
      cases j with
      | zero=>exact hne rfl
      | succ j=>simp at hq
    | succ i=>simp at hp
theorem AvOK.one {E:Enc α} {B:Nat} {e:TypeId} {u:Value} {xs:List α} {A:Av} (hA:AvOK A w) (h:(Res.vec B e E xs).ok A u w):AvOK (addA A u) w:=
  fun b o hb=>hb.elim (hA b o) fun hb=>Res.lt h rfl hb
theorem zFF {E : Enc α} {B : Nat} {e : TypeId} {u v : Value} {ys : List α} {A A' : Av} {w' : World} (hav : ∀ k, zAE u k -> ∀ o, A k o) (hch : Ch (zAE u) w w') (hv : (Res.vec B e E ys).ok A' v w') (hge : ∀ k, zAE v k -> w.heap.size <= k \/ zAE u k) (hfl : ∀ A A' w x cs, E.rep A w x cs -> E.rep A' w x cs) :
    Took A true u (.vec B e E ys) (fun _=>.any) w v w':=
  ⟨v,rfl,hch,fun k hk h=>(hge k h).resolve_left (by omega),⟨hch.size,fun b o x hx hn=>(World.cell?_of_block (w:=w) (hch.block b (zEV hx) fun h=>hn (hav b h o))).trans hx,fun b o hb h=>h.elim (·.1) fun h=>hav b ((hge b h).resolve_left (by omega)) o⟩,Vec.flat hv hfl,trivial⟩
theorem IniOK.own_ge {ini:List Ob} {A:Av} {B:Nat} {K:Nat->Prop} (h:IniOK ini A w) (hB:zIu B K ini) {i:Nat} {u:Value} {r:Res} (hi:ini[i]? = some (ob u r)):∀ k,zAE u k->B<=k\/K k:=
  fun k hk=>h.geK hB k ⟨i,_,hi,hk⟩
theorem zKX {E:Enc α} {B b:Nat} {T:TypeId} {a:α} {A:Av} {u:Value} {w':World} (h:(Res.box B T E a).ok A (.pointer (some ⟨b,0,none⟩)) w) (hch:Ch (zAE u) w w') (hav:∀ k,zAE u k->∀ o,A k o) (hn:¬ zAE u b):PRep E (subA A u) w' (.pointer (some ⟨b,0,none⟩)) a:=by
  obtain ⟨b',e,hB,hb⟩:=h
  obtain rfl:b'=b:=by injection e with h;injection h with h;injection h with h;exact h.symm
  obtain ⟨cs,h1,h2⟩:=hb
  have hst:Stp A (subA A u) w w':=⟨hch.size,fun b o x hx hn=>(World.cell?_of_block (w:=w) (hch.block b (zEV hx) fun h=>hn (hav b h o))).trans hx,fun b o _ h=>h.1⟩
  have hb':zHY E (subA A u) w' b' T a:=⟨cs,(hch.block b' h1.lt hn).trans h1,E.stp hst h2⟩
  exact ⟨b',0,rfl,hb'.lt,hb'.at⟩
theorem CRep.less {E:Enc α} {B:Nat} {a:α} {A A':Av} {v:Value} (h:CRep E A w B v a) (hAA:∀ b o,A' b o->A b o):CRep E A' w B v a:=
  let ⟨b,o,h1,h2,h3,cs,h4,h5⟩:=h;⟨b,o,h1,h2,h3,cs,E.stp (zDV hAA) h4,h5⟩
theorem IniOK.freeze {E : Enc α} {B : Nat} {e : TypeId} {u : Value} {xs : List α} {A A0 : Av} {rest : List Ob} (h : IniOK (ob u (.vec B e E xs) :: rest) A w) (hA : AvOK A w) (hAA : ∀ b o, A0 b o -> A b o) (hA0 : ∀ b o, A0 b o -> b < B) :
    ∃ A':Av,(∀ b o,A' b o->A b o)/\(∀ b o,A0 b o->A' b o)/\AvOK A' w/\IniOK rest A' w/\Rep (eSl E) A' w u xs:=by
  have hv:=(h.ok 0 _ rfl).1
  refine ⟨subA A u,fun b o h=>h.1,fun b o h'=>⟨hAA b o h',fun hb=>?_⟩,hA.sub u,⟨fun i p hp=>?_,fun i p hp=>(Res.stabS (h.ok (i+1) p (by simpa using hp)).1 (h.own (i+1) p (by simpa using hp)) (fun _ _=>rfl) (zDV fun b o h=>h.1)).2,fun i j p q hp hq hne=>h.dis (i+1) (j+1) p q (by simpa using hp) (by simpa using hq) (by omega)⟩,?_⟩
  . have h1 := Res.geB hv rfl hb
    have h2:=hA0 b o h'
    have:B<=b:=h1
    omega
  . have h1 := h.ok (i + 1) p (by simpa using hp)
    have h2:=h.own (i+1) p (by simpa using hp)
    refine ⟨(Res.stabS h1.1 h2 (fun _ _=>rfl) (zDV fun b o h=>h.1)).1,fun k hk o=>⟨h1.2 k hk o,fun hu=>?_⟩⟩
    exact h.dis (i+1) 0 p _ (by simpa using hp) rfl (by omega) k hk hu
  . obtain ⟨cs, hown, hf⟩ := hv
    have hst:Stp A (subA A u) w w:=zDV fun b o h=>h.1
    rcases hown.2 with ⟨rfl,h0⟩ | ⟨g,cap,cur,rfl,hbg,hg,hnc,hcm,hcs,htake⟩
    . have : xs = [] := List.eq_nil_of_length_eq_zero h0
      subst this
      exact zIn
    . refine ⟨_, rfl, some ⟨g, 0, none⟩, xs.length, cap, rfl, rfl, hnc, hcm, fun _ => ⟨g, 0, rfl, hg.lt, fun i x hx => ?_⟩⟩
      obtain ⟨ds,h1,h2⟩:=hf.2 i x hx
      refine ⟨⟨ds,E.stp hst h1,fun j u hj=>?_⟩,fun j _ hA0=>hA0.2 rfl⟩
      have:=hown.cells (g:=g) rfl (i*E.size+j) u (h2 j u hj)
      rwa [zD1,<- Nat.add_assoc] at this
theorem zHT {E : Enc α} {e : TypeId} {ys : List α} {B : Nat} {u : Value} {f : Fact} {fn : FuncId} {al : List Operand} {aT : Array TypeId} (hc : ∀ args w, (callFunc fn args).run P w=.ok (.enter fn args) w) (hav : ∀ k, zAE u k -> ∀ o, A k o) (hfl : ∀ A A' w x cs, E.rep A w x cs -> E.rep A' w x cs)
    (h:Calls P fn (al.map (zAL R)).toArray w fun ed w'=>∃ v,ed=.returned v/\(f.ok v w'/\(Res.vec B e E ys).ok (subA A u) u w'/\Ch (zAE u) w w')) :
    OpR P ⟨d,.call ⟨.value (.func fn),al.toArray,aT⟩,t,p,af,g⟩ R w (Took A false u (.vec B e E ys) (fun _=>f) w):=by
  unfold OpR
  have:(execOp (zAL R) ⟨d,.call ⟨.value (.func fn),al.toArray,aT⟩,t,p,af,g⟩).run P w=.ok (.enter fn (al.map (zAL R)).toArray) w:=by
    simp [execOp,resolve,zAL,Deferred.ofValue,invoke,hc]
  rw [this]
  refine Calls.mono h ?_
  rintro ed w' ⟨v,he,hf,hok,hch⟩
  refine ⟨v,he,u,rfl,hch,fun k _ h=>h,zDG hav hch,?_,hf⟩
  exact Vec.flat hok hfl
theorem zEg {E : Enc α} {e : TypeId} {ys : List α} {B : Nat} {u : Value} {fn : FuncId} {al : List Operand} {aT : Array TypeId} {dd : Nat} (hc : ∀ args w, (callFunc fn args).run P w=.ok (.enter fn args) w) (hav : ∀ k, zAE u k -> ∀ o, A k o)
    (h:Calls P fn (al.map (zAL R)).toArray w fun ed w'=>∃ v,ed=.returned v/\Took (addA (subA A u) u) true u (.vec B e E ys) (fun _=>.any) w v w') :
    OpR P ⟨some dd,.call ⟨.value (.func fn),al.toArray,aT⟩,t,p,af,g⟩ R w (Took A true u (.vec B e E ys) (fun _=>.any) w):=by
  unfold OpR
  have:(execOp (zAL R) ⟨some dd,.call ⟨.value (.func fn),al.toArray,aT⟩,t,p,af,g⟩).run P w=.ok (.enter fn (al.map (zAL R)).toArray) w:=by
    simp [execOp,resolve,zAL,Deferred.ofValue,invoke,hc]
  rw [this]
  rw [zNc hav] at h
  exact h
theorem zJI {E : Enc α} {xs ys : List α} {u : Value} {e : TypeId} {B : Nat} {lo : Int} {n s : Nat} {zc : Value} {z : α} (hx : zAL R x = vsub u lo.toNat n s) (hok : (Res.vec B e E xs).ok A u w) (hav : ∀ k, zAE u k -> ∀ o, A k o) (hu : P.underlying T = some (.slice e)) (hs : s = E.size)
    (hz:∀ w,(zeroValue e).run P w=.ok zc w) (hzr:∀ A w,E.rep A w z zc.cells.toList) (hr:subR lo xs.length xs.length=true) (hn:(n==xs.length-lo.toNat)=true) (hy:xs.take lo.toNat++List.replicate (xs.length-lo.toNat) z=ys) :
    OpR P ⟨none,.call ⟨.builtin .clear,#[x],#[T]⟩,t,p,af,g⟩ R w (Took A false u (.vec B e E ys) (fun _=>.any) w):=by
  subst hy hs
  obtain rfl:=of_decide_eq_true hn
  obtain ⟨h1,h2,h3⟩:=zDM.1 hr
  obtain ⟨q,rfl⟩:=Int.eq_ofNat_of_zero_le h1
  have hq:q<=xs.length:=by omega
  simp only [Int.toNat_natCast] at hx ⊢
  have hlen:(xs.take q++List.replicate (xs.length-q) z).length=xs.length:=by simp;omega
  have hcu:=Ch.refl (zAE u) w
  by_cases hq0:xs.length-q=0
  . obtain ⟨a, c, he⟩ := zLk (lo := (q : Int)) (n := xs.length - q) (s := E.size) hok
    rw [Int.toNat_natCast] at he
    rw [he,hq0] at hx
    refine zAS (v:=.tuple #[]) (w':=w) ?_ ⟨u,rfl,hcu,fun k _ h=>h,zDG hav hcu,?_,trivial⟩
    . cases a <;> simp [execOp,resolve,invoke,builtin,Builtin.clear_,hx,run_underlying hu]
    . rw [zJN hav, hq0, List.replicate_zero, List.append_nil, List.take_of_length_le (by omega)]
      exact hok
  . obtain ⟨cs, hown, hf⟩ := hok
    rcases hown.2 with ⟨rfl,hz0⟩ | ⟨b,cap,cur,rfl,hBb,hb,hnc,hcm,hcs,htk⟩
    . omega
    . have hne : cap ≠ q := by omega
      have hx':zAL R x=.slice (some ⟨b,q*E.size,none⟩) (xs.length-q) (cap-q):=by
        rw [hx]
        simp [vsub,hne,zD1]
      have hzl:zc.cells.size=E.size:=by simpa using E.len (hzr A w)
      have hzone:∀ v ∈ (Builtin.zeroCells zc.cells (xs.length-q)).toList,v.oneCell'=true:=by
        intro v hv
        simp only [Builtin.zeroCells,Array.toList_map,List.mem_map,Array.toList_range,List.mem_range] at hv
        obtain ⟨i,hi,rfl⟩:=hv
        have hpos:0<zc.cells.size:=by
          rcases Nat.eq_zero_or_pos zc.cells.size with h | h
          . rw [h,Nat.mul_zero] at hi;omega
          . exact h
        have hm:=Nat.mod_lt i hpos
        rw [getElem!_pos zc.cells _ hm]
        exact E.oc (hzr A w) _ (by simp)
      have hzsz:(Builtin.zeroCells zc.cells (xs.length-q)).toList.length=(xs.length-q)*E.size:=by
        simp [Builtin.zeroCells,hzl]
      have hm1:=Nat.mul_le_mul_right E.size hq
      have hm2:=Nat.mul_le_mul_right E.size hnc
      obtain ⟨w',hr1,hr2,hr3⟩:=zEX (P:=P) (b:=b) (T:=e) (Builtin.zeroCells zc.cells (xs.length-q)).toList cur (q*E.size) 0 w hzone hb (by rw [hzsz,Nat.sub_mul,hcs];omega)
      have hch:Ch (zAE (.slice (some ⟨b,0,none⟩) xs.length cap)) w w':=hr2.ch
      have hst:=zDG hav hch
      refine zAS (v:=.tuple #[]) (w':=w') ?_ ⟨_,rfl,hch,fun k _ h=>h,hst,?_,trivial⟩
      . obtain ⟨m, hm⟩ : ∃ m, xs.length - q = m + 1 := ⟨xs.length - q - 1, by omega⟩
        rw [hm] at hx' hr1
        simp [execOp,resolve,invoke,builtin,Builtin.clear_,hx',run_underlying hu,hz,hr1]
      . rw [zJN hav] at hst ⊢
        have hfl0:Flat E A w' (cs.take (q*E.size)) (xs.take q):=by
          refine ⟨by rw [List.length_take,List.length_take,hf.1,Nat.min_eq_left hm1,Nat.min_eq_left hq],fun i y hy=>?_⟩
          rw [List.getElem?_take] at hy
          split at hy
          . obtain ⟨ds, k1, k2⟩ := (hf.stp hst).2 i y hy
            refine ⟨ds,k1,fun j d hj=>?_⟩
            have hjl:=(List.getElem?_eq_some_iff.1 hj).1
            rw [E.len k1] at hjl
            have hmm:=Nat.mul_le_mul_right E.size (show i+1<=q by omega)
            rw [Nat.add_mul,Nat.one_mul] at hmm
            rw [List.getElem?_take,if_pos (by omega)]
            exact k2 j d hj
          . cases hy
        have hfl1:Flat E A w' (Builtin.zeroCells zc.cells (xs.length-q)).toList (List.replicate (xs.length-q) z):=by
          have:=zJ0 (hzr A w') (xs.length-q) (E:=E)
          have e1:(madeCells zc.cells ((xs.length-q)*E.size))=Builtin.zeroCells zc.cells (xs.length-q):=by
            simp [madeCells,Builtin.zeroCells,hzl]
          rwa [e1] at this
        refine ⟨_,⟨?_,.inr ⟨b,cap,_,by rw [hlen],hBb,hr3,by rw [hlen];exact hnc,hcm,by rw [zF4];exact hcs,rfl⟩⟩,?_⟩
        . have hll : (lay cur (q * E.size + 0) (Builtin.zeroCells zc.cells (xs.length - q)).toList).toList.length = cap * E.size := by rw [Array.length_toList, zF4, hcs]
          rw [List.length_take,hlen,hll]
          exact Nat.min_eq_left hm2
        . have e2:((lay cur (q*E.size+0) (Builtin.zeroCells zc.cells (xs.length-q)).toList).toList.take ((xs.take q++List.replicate (xs.length-q) z).length*E.size))=cs.take (q*E.size)++(Builtin.zeroCells zc.cells (xs.length-q)).toList:=by
            rw [hlen]
            have hcsl:=hf.1
            apply List.ext_getElem?
            intro j
            by_cases hj:j<xs.length*E.size
            . rw [List.getElem?_take, if_pos hj, Array.getElem?_toList, zGx _ _ _ _ (by rw [hzsz, Nat.sub_mul, hcs]; omega), hzsz, Nat.add_zero]
              by_cases hj1:j<q*E.size
              . rw [if_neg (by omega),List.getElem?_append_left (by simp;omega),List.getElem?_take,if_pos hj1,<- htk,List.getElem?_take,if_pos hj,Array.getElem?_toList]
              . rw [if_pos (by rw [Nat.sub_mul]; omega), List.getElem?_append_right (by simp; omega)]
                congr 1
                simp
                omega
            . rw [List.getElem?_take,if_neg hj,List.getElem?_eq_none (by rw [List.length_append,hzsz,List.length_take,Nat.sub_mul];omega)]
          rw [e2]
          exact zIG hfl0 hfl1
theorem Vec.thaw {E:Enc α} {B:Nat} {e:TypeId} {u:Value} {xs:List α} {A A':Av} (h:Vec E A B e w u xs) (hAA:∀ b o,A' b o->A b o) (hn:∀ b o,A' b o->¬ zAE u b):Rep (eSl E) A' w u xs:=by
  obtain ⟨cs,hown,hf⟩:=h
  have hst:Stp A A' w w:=zDV hAA
  rcases hown.2 with ⟨rfl,h0⟩ | ⟨g,cap,cur,rfl,hbg,hg,hnc,hcm,hcs,htake⟩
  . have : xs = [] := List.eq_nil_of_length_eq_zero h0
    subst this
    exact zIn
  . refine ⟨_, rfl, some ⟨g, 0, none⟩, xs.length, cap, rfl, rfl, hnc, hcm, fun _ => ⟨g, 0, rfl, hg.lt, fun i x hx => ?_⟩⟩
    obtain ⟨ds,h1,h2⟩:=hf.2 i x hx
    refine ⟨⟨ds,E.stp hst h1,fun j u hj=>?_⟩,fun j _ hA0=>hn _ _ hA0 rfl⟩
    have:=hown.cells (g:=g) rfl (i*E.size+j) u (h2 j u hj)
    rwa [zD1,<- Nat.add_assoc] at this
theorem OpR.thaw {o:Oper} {E:Enc α} {B:Nat} {e:TypeId} {u:Value} {xs:List α} {lk:Bool} (h:OpR P o R w (Took A true u (.vec B e E xs) (fun _=>.any) w)) (hA:AvOK A w) (hav:∀ k,zAE u k->∀ o,A k o):OpR P o R w (zF1 A lk u (zAE u) .nul (fun A=>.rep (eSl E) A xs) w):=
  h.mono fun v w' h=>by
    obtain ⟨u'',hu,hch,hs,hst,hok,_⟩:=h
    subst hu
    have hAA:∀ b o,zH9 A (zAE u) (fun _=>False) b o->zKb A u u'' b o:=fun b o h=>h.elim .inl fun h=>h.elim
    refine ⟨bif lk then u'' else u,fun _=>False,by cases lk <;> rfl,hch,fun k _ h=>h.elim,⟨hst.size,fun b o v hv hn=>hst.cell b o v hv hn,fun b o hb h=>h.elim (·.1) fun h=>h.elim⟩,trivial,rfl,?_⟩
    refine Vec.thaw hok hAA fun b o h hb=>?_
    rcases h with ⟨h1,h2⟩ | h
    . exact h2 (hs b (hA b o h1) hb)
    . exact h
theorem zIJ {E:Enc α} {u:Value} {xs:List α} {A0:Av} {lo hi:Int} {n s:Nat} (h:Rep (eSl E) A0 w u xs) (hr:subR lo hi xs.length=true) (hn:n=hi.toNat-lo.toNat) (hs:s=E.size):Rep (eSl E) A0 w (vsub u lo.toNat n s) (subL xs lo hi):=by
  subst hn hs
  obtain ⟨cs,hv,ad,n,c,rfl,hl,hnc,hcm,h4⟩:=h
  obtain rfl:u=.slice ad n c:=hv
  exact zL9 hl hnc hcm h4 hr
theorem zJc {E:Enc α} {B B':Nat} {e:TypeId} {u:Value} {xs:List α} {A A0:Av} {K:Nat->Prop} (h:Vec E A B e w u xs) (hAA:∀ b o,A0 b o->A b o) (h0:∀ b o,A0 b o->b<B') (hN:∀ b o,A0 b o->¬ K b) (hK:∀ k,zAE u k->B'<=k\/K k):Rep (eSl E) A0 w u xs:=
  Vec.thaw h hAA fun b o h hb=>(hK b hb).elim (fun h'=>by have:=h0 b o h;omega) (hN b o h)
end
structure OE (α : Type) where
  E:Enc α
  own:Av->World->(Nat->Prop)->α->List Value->Prop
  lt:∀ {A w S x cs k},own A w S x cs->S k->k<w.heap.size
  stab:∀ {A A' w w' S x cs},own A w S x cs->(∀ k,S k->w'.heap[k]? = w.heap[k]?)->Stp A A' w w'->own A' w' S x cs
  rep:∀ {A A0 w S x cs},own A w S x cs->(∀ b o,A0 b o->A b o)->(∀ k o,S k->¬ A0 k o)->E.rep A0 w x cs
section
variable {α β γ:Type}
theorem OE.len (F:OE α) {A:Av} {w:World} {S:Nat->Prop} {x:α} {cs:List Value} (h:F.own A w S x cs):cs.length=F.E.size:=
  F.E.len (F.rep (A0:=av0) h (fun _ _ h=>h.elim) fun _ _ _ h=>h)
theorem OE.oc (F:OE α) {A:Av} {w:World} {S:Nat->Prop} {x:α} {cs:List Value} (h:F.own A w S x cs):∀ c ∈ cs,c.oneCell'=true:=
  F.E.oc (F.rep (A0:=av0) h (fun _ _ h=>h.elim) fun _ _ _ h=>h)
def oRd (E : Enc α) : OE α where
  E:=E
  own:=fun A w S x cs=>(∀ k,¬ S k)/\E.rep A w x cs
  lt:=fun h hk=>(h.1 _ hk).elim
  stab:=fun h _ hs=>⟨h.1,E.stp hs h.2⟩
  rep:=fun h hA _=>E.stp (zDV hA) h.2
def oPr (F : OE α) (G : OE β) : OE (α × β) where
  E:=ePr F.E G.E
  own:=fun A w S x cs=>∃ c d S1 S2,cs=c++d/\F.own A w S1 x.1 c/\G.own A w S2 x.2 d/\(∀ k,S k ↔ S1 k\/S2 k)/\∀ k,S1 k->¬ S2 k
  lt:=by
    rintro A w S x cs k ⟨c,d,S1,S2,rfl,h1,h2,h3,h4⟩ hk
    rcases (h3 k).1 hk with h | h
    . exact F.lt h1 h
    . exact G.lt h2 h
  stab:=by
    rintro A A' w w' S x cs ⟨c,d,S1,S2,rfl,h1,h2,h3,h4⟩ hb hs
    exact ⟨c,d,S1,S2,rfl,F.stab h1 (fun k hk=>hb k ((h3 k).2 (.inl hk))) hs,G.stab h2 (fun k hk=>hb k ((h3 k).2 (.inr hk))) hs,h3,h4⟩
  rep:=by
    rintro A A0 w S x cs ⟨c,d,S1,S2,rfl,h1,h2,h3,h4⟩ hA hn
    exact ⟨c,d,rfl,F.rep h1 hA fun k o hk=>hn k o ((h3 k).2 (.inl hk)),G.rep h2 hA fun k o hk=>hn k o ((h3 k).2 (.inr hk))⟩
structure Els (F : OE α) (A : Av) (w : World) (S : Nat -> Prop) (g : Nat) (arr : Array Value) (xs : List α) (Si : Nat -> Nat -> Prop) : Prop where
  el:∀ (i:Nat) x,xs[i]? = some x->∃ ds,F.own A w (Si i) x ds/\∀ (j:Nat) u,ds[j]? = some u->arr[i*F.E.size+j]? = some u
  dis:∀ i j k,i<xs.length->j<xs.length->i ≠ j->Si i k->¬ Si j k
  out:∀ i,i<xs.length->¬ Si i g
  set:∀ k,S k ↔ k=g\/∃ i,i<xs.length/\Si i k
def oSl (T : TypeId) (F : OE α) : OE (List α) where
  E:=eSl F.E
  own := fun A w S xs cs => (cs = [.slice none 0 0] /\ xs = [] /\ ∀ k, ¬ S k) \/
    ∃ g c arr Si,cs = [.slice (some ⟨g,0,none⟩) xs.length c]/\Blk w g T arr/\xs.length<=c/\c<=maxLen/\arr.size=c*F.E.size/\Els F A w S g arr xs Si
  lt:=by
    rintro A w S xs cs k (⟨_,_,h⟩ | ⟨g,c,arr,Si,rfl,h1,h2,h3,h4,h5⟩) hk
    . exact (h k hk).elim
    . rcases (h5.set k).1 hk with rfl | ⟨i, hi, hk⟩
      . exact h1.lt
      . obtain ⟨ds, h6, _⟩ := h5.el i _ (List.getElem?_eq_getElem hi)
        exact F.lt h6 hk
  stab:=by
    rintro A A' w w' S xs cs (⟨h0,h0',h⟩ | ⟨g,c,arr,Si,rfl,h1,h2,h3,h4,h5⟩) hb hs
    . exact .inl ⟨h0,h0',h⟩
    . refine .inr ⟨g, c, arr, Si, rfl, (hb g ((h5.set g).2 (.inl rfl))).trans h1, h2, h3, h4, ⟨fun i x hx => ?_, h5.dis, h5.out, h5.set⟩⟩
      obtain ⟨ds,h6,h7⟩:=h5.el i x hx
      exact ⟨ds,F.stab h6 (fun k hk=>hb k ((h5.set k).2 (.inr ⟨i,(List.getElem?_eq_some_iff.1 hx).1,hk⟩))) hs,h7⟩
  rep:=by
    rintro A A0 w S xs cs (⟨rfl,rfl,h⟩ | ⟨g,c,arr,Si,rfl,h1,h2,h3,h4,h5⟩) hA hn
    . exact zBD
    . refine ⟨some ⟨g, 0, none⟩, xs.length, c, rfl, rfl, h2, h3, fun _ => ⟨g, 0, rfl, h1.lt, fun i x hx => ?_⟩⟩
      obtain ⟨ds,h6,h7⟩:=h5.el i x hx
      refine ⟨⟨ds,F.rep h6 hA fun k o hk=>hn k o ((h5.set k).2 (.inr ⟨i,(List.getElem?_eq_some_iff.1 hx).1,hk⟩)),fun j u hj=>?_⟩,fun j hj=>hn g _ ((h5.set g).2 (.inl rfl))⟩
      rw [h1.cell,Nat.zero_add]
      exact h7 j u hj
def ePt (E : Enc α) : Enc α where
  size:=1
  agg:=false
  rep:=fun A w x cs=>∃ b,cs = [.pointer (some ⟨b,0,none⟩)]/\b<w.heap.size/\QAt E A w b 0 x
  len:=by rintro A w x cs ⟨b,rfl,_⟩;rfl
  one:=fun _=>rfl
  oc:=by rintro A w x cs ⟨b,rfl,_⟩ c hc;simp at hc;subst hc;rfl
  stp:=by
    rintro A A' w w' x cs hs ⟨b,rfl,h1,h2⟩
    exact ⟨b,rfl,Nat.lt_of_lt_of_le h1 hs.size,h2.stp h1 hs⟩
def oPt (T : TypeId) (F : OE α) : OE α where
  E:=ePt F.E
  own:=fun A w S x cs=>∃ b ds S1,cs = [.pointer (some ⟨b,0,none⟩)]/\Blk w b T ds.toArray/\F.own A w S1 x ds/\¬ S1 b/\∀ k,S k ↔ k=b\/S1 k
  lt:=by
    rintro A w S x cs k ⟨b,ds,S1,rfl,h1,h2,h3,h4⟩ hk
    rcases (h4 k).1 hk with rfl | h
    . exact h1.lt
    . exact F.lt h2 h
  stab:=by
    rintro A A' w w' S x cs ⟨b,ds,S1,rfl,h1,h2,h3,h4⟩ hb hs
    exact ⟨b,ds,S1,rfl,(hb b ((h4 b).2 (.inl rfl))).trans h1,F.stab h2 (fun k hk=>hb k ((h4 k).2 (.inr hk))) hs,h3,h4⟩
  rep:=by
    rintro A A0 w S x cs ⟨b,ds,S1,rfl,h1,h2,h3,h4⟩ hA hn
    refine ⟨b,rfl,h1.lt,⟨ds,F.rep h2 hA fun k o hk=>hn k o ((h4 k).2 (.inr hk)),fun j u hj=>?_⟩,fun j hj=>hn b _ ((h4 b).2 (.inl rfl))⟩
    rw [h1.cell,Nat.zero_add]
    simpa using hj
abbrev Pw:=Av->World->(Nat->Prop)->Prop
def Up (b off n:Nat) (w w':World):Prop:=∃ arr arr' T,Blk w b T arr/\Blk w' b T arr'/\arr'.size=arr.size/\∀ j,(j<off\/off+n<=j)->arr'[j]? = arr[j]?
structure Hole (F : OE β) (A : Av) (w : World) (S : Nat -> Prop) (b off : Nat) (y : β) (S1 : Nat -> Prop) (cs : List Value) (Q : β -> Pw) : Prop where
  own:F.own A w S1 y cs
  at':∀ (j:Nat) u,cs[j]? = some u->w.cell? ⟨b,off+j,none⟩=some u
  inb:S b
  out:¬ S1 b
  sub:∀ k,S1 k->S k
  blk:∃ arr T,Blk w b T arr/\off+F.E.size<=arr.size
  put:∀ A' w' S1' y' ds,F.own A' w' S1' y' ds->(∀ (j:Nat) u,ds[j]? = some u->w'.cell? ⟨b,off+j,none⟩=some u)->Up b off F.E.size w w'->(∀ k,S k->¬ S1 k->k ≠ b->w'.heap[k]? = w.heap[k]?)->Stp A A' w w'->(∀ k,S1' k->S k->S1 k)->Q y' A' w' (fun k=>(S k/\¬ S1 k)\/S1' k)
structure VHole (F : OE β) (A : Av) (w : World) (S : Nat -> Prop) (cs : List Value) (y : β) (S1 : Nat -> Prop) (Q : β -> Pw) : Prop where
  own:F.own A w S1 y cs
  sub:∀ k,S1 k->S k
  put:∀ A' w' S1' y',F.own A' w' S1' y' cs->(∀ k,S k->¬ S1 k->w'.heap[k]? = w.heap[k]?)->Stp A A' w w'->(∀ k,S1' k->S k->S1 k)->Q y' A' w' (fun k=>(S k/\¬ S1 k)\/S1' k)
def zEY (F:OE β) (A:Av) (w:World) (S:Nat->Prop) (a:Value) (y:β) (Q:β->Pw):Prop:=∃ b off S1 cs,a=.pointer (some ⟨b,off,none⟩)/\Hole F A w S b off y S1 cs Q
def zFa (F:OE β) (A:Av) (w:World) (S:Nat->Prop) (v:Value) (y:β) (Q:β->Pw):Prop:=∃ S1 cs,v=F.E.val cs/\VHole F A w S cs y S1 Q
theorem zNo {S S1 Sa Sb Sa':Nat->Prop} (h:∀ k,S1 k ↔ Sa k\/Sb k) (hs:∀ k,S1 k->S k) (hd:∀ k,Sa k->¬ Sb k):(fun k=>(S k/\¬ S1 k)\/(Sa' k\/Sb k))=fun k=>(S k/\¬ Sa k)\/Sa' k:=by
  funext k
  rw [eq_iff_iff]
  have h1:=h k
  have h2:=hs k
  have h3:=hd k
  constructor
  . rintro (⟨a, b⟩ | a | a)
    . exact .inl ⟨a,fun h=>b (h1.2 (.inl h))⟩
    . exact .inr a
    . exact .inl ⟨h2 (h1.2 (.inr a)),fun h=>h3 h a⟩
  . rintro (⟨a, b⟩ | a)
    . by_cases hb : Sb k
      . exact .inr (.inr hb)
      . exact .inl ⟨a,fun h=>(h1.1 h).elim b hb⟩
    . exact .inr (.inl a)
section
variable {F:OE α} {G:OE β} {A:Av} {w:World} {S:Nat->Prop}
theorem VHole.root {cs:List Value} {x:α} (h:F.own A w S x cs):VHole F A w S cs x S (fun z A' w' S'=>F.own A' w' S' z cs):=
  ⟨h,fun _ h=>h,fun A' w' S1' y' h1 _ _ _=>by
    have:(fun k=>(S k/\¬ S k)\/S1' k)=S1':=by
      funext k
      rw [eq_iff_iff]
      exact ⟨fun h=>h.elim (fun h=>absurd h.1 h.2) id,.inr⟩
    rw [this]
    exact h1⟩
theorem zMg {w':World} {b o:Nat} {u:Value} (hb:w'.heap[b]? = w.heap[b]?) (h:w.cell? ⟨b,o,none⟩=some u):w'.cell? ⟨b,o,none⟩=some u:=(World.cell?_of_block (w:=w) hb).trans h
theorem Hole.v {b off:Nat} {y:α} {S1:Nat->Prop} {cs:List Value} {Q:α->Pw} (h:Hole F A w S b off y S1 cs Q):VHole F A w S cs y S1 Q:=by
  refine ⟨h.own,h.sub,fun A' w' S1' y' h1 h2 h3 h4=>?_⟩
  have hb:=h2 b h.inb h.out
  obtain ⟨arr,T,h5,h6⟩:=h.blk
  exact h.put A' w' S1' y' cs h1 (fun j u hj=>zMg hb (h.at' j u hj)) ⟨arr,arr,T,h5,hb.trans h5,rfl,fun _ _=>rfl⟩ (fun k h1 h2' _=>h2 k h1 h2') h3 h4
theorem Hole.fst {b off:Nat} {y:α × β} {S1:Nat->Prop} {cs:List Value} {Q:α × β->Pw} (h:Hole (oPr F G) A w S b off y S1 cs Q):∃ Sa ca,Hole F A w S b off y.1 Sa ca (fun z=>Q (z,y.2)):=by
  obtain ⟨c,d,Sa,Sb,rfl,h1,h2,h3,h4⟩:=h.own
  have hlc:=F.len h1
  have hld:=G.len h2
  refine ⟨Sa,c,h1,fun j u hj=>h.at' j u (by rw [List.getElem?_append_left (List.getElem?_eq_some_iff.1 hj).1];exact hj),h.inb,fun hb=>h.out ((h3 b).2 (.inl hb)),fun k hk=>h.sub k ((h3 k).2 (.inl hk)),?_,fun A' w' S1' y' ds k1 k2 k3 k4 k5 k6=>?_⟩
  . obtain ⟨arr, T, h5, h6⟩ := h.blk
    have h6:off+(F.E.size+G.E.size)<=arr.size:=h6
    exact ⟨arr,T,h5,by omega⟩
  . obtain ⟨arr, arr', T, k7, k8, k9, k10⟩ := k3
    have hSb:∀ k,Sb k->S k:=fun k hk=>h.sub k ((h3 k).2 (.inr hk))
    have hbb:∀ k,Sb k->k ≠ b:=fun k hk e=>h.out ((h3 b).2 (.inr (e ▸ hk)))
    have hG:G.own A' w' Sb y.2 d:=G.stab h2 (fun k hk=>k4 k (hSb k hk) (fun ha=>h4 k ha hk) (hbb k hk)) k5
    have hldd:=F.len k1
    have:=h.put A' w' (fun k=>S1' k\/Sb k) (y',y.2) (ds++d) ⟨ds,d,S1',Sb,rfl,k1,hG,fun k=>Iff.rfl,fun k hk hb=>h4 k (k6 k hk (hSb k hb)) hb⟩ (fun j u hj=>?_) ⟨arr,arr',T,k7,k8,k9,fun j hj=>k10 j ?_⟩ (fun k a1 a2 a3=>k4 k a1 (fun ha=>a2 ((h3 k).2 (.inl ha))) a3) k5 (fun k a1 a2=>a1.elim (fun a=>(h3 k).2 (.inl (k6 k a a2))) fun a=>(h3 k).2 (.inr a))
    . rw [zNo h3 h.sub h4] at this
      exact this
    . by_cases hjl : j < ds.length
      . rw [List.getElem?_append_left hjl] at hj
        exact k2 j u hj
      . rw [List.getElem?_append_right (by omega)] at hj
        have hc:=h.at' j u (by rw [List.getElem?_append_right (by omega),hlc,<- hldd];exact hj)
        rw [k7.cell] at hc
        rw [k8.cell,k10 (off+j) (.inr (by omega))]
        exact hc
    . have hj : j < off \/ off + (F.E.size + G.E.size) <= j := hj
      omega
theorem Hole.snd {b off:Nat} {y:α × β} {S1:Nat->Prop} {cs:List Value} {Q:α × β->Pw} (h:Hole (oPr F G) A w S b off y S1 cs Q):∃ Sb cb,Hole G A w S b (off+F.E.size) y.2 Sb cb (fun z=>Q (y.1,z)):=by
  obtain ⟨c,d,Sa,Sb,rfl,h1,h2,h3,h4⟩:=h.own
  have hlc:=F.len h1
  have hld:=G.len h2
  refine ⟨Sb,d,h2,fun j u hj=>?_,h.inb,fun hb=>h.out ((h3 b).2 (.inr hb)),fun k hk=>h.sub k ((h3 k).2 (.inr hk)),?_,fun A' w' S1' y' ds k1 k2 k3 k4 k5 k6=>?_⟩
  . have := h.at' (F.E.size + j) u (by rw [List.getElem?_append_right (by omega), hlc, Nat.add_sub_cancel_left]; exact hj)
    rwa [<- Nat.add_assoc] at this
  . obtain ⟨arr, T, h5, h6⟩ := h.blk
    have h6:off+(F.E.size+G.E.size)<=arr.size:=h6
    exact ⟨arr,T,h5,by omega⟩
  . obtain ⟨arr, arr', T, k7, k8, k9, k10⟩ := k3
    have hSa:∀ k,Sa k->S k:=fun k hk=>h.sub k ((h3 k).2 (.inl hk))
    have hba:∀ k,Sa k->k ≠ b:=fun k hk e=>h.out ((h3 b).2 (.inl (e ▸ hk)))
    have hF:F.own A' w' Sa y.1 c:=F.stab h1 (fun k hk=>k4 k (hSa k hk) (fun hb=>h4 k hk hb) (hba k hk)) k5
    have hldd:=G.len k1
    have:=h.put A' w' (fun k=>S1' k\/Sa k) (y.1,y') (c++ds) ⟨c,ds,Sa,S1',rfl,hF,k1,fun k=>Or.comm,fun k hk hb=>h4 k hk (k6 k hb (hSa k hk))⟩ (fun j u hj=>?_) ⟨arr,arr',T,k7,k8,k9,fun j hj=>k10 j ?_⟩ (fun k a1 a2 a3=>k4 k a1 (fun ha=>a2 ((h3 k).2 (.inr ha))) a3) k5 (fun k a1 a2=>a1.elim (fun a=>(h3 k).2 (.inr (k6 k a a2))) fun a=>(h3 k).2 (.inl a))
    . rw [zNo (fun k => (h3 k).trans Or.comm) h.sub (fun k a b => h4 k b a)] at this
      exact this
    . by_cases hjl : j < c.length
      . rw [List.getElem?_append_left hjl] at hj
        have hc:=h.at' j u (by rw [List.getElem?_append_left hjl];exact hj)
        rw [k7.cell] at hc
        rw [k8.cell,k10 (off+j) (.inl (by omega))]
        exact hc
      . rw [List.getElem?_append_right (by omega)] at hj
        have:=k2 (j-c.length) u hj
        rwa [show off+F.E.size+(j-c.length)=off+j by omega] at this
    . have hj : j < off \/ off + (F.E.size + G.E.size) <= j := hj
      omega
theorem VHole.elem {T : TypeId} {xs : List α} {S1 : Nat -> Prop} {cs : List Value} {Q : List α -> Pw} (h : VHole (oSl T F) A w S cs xs S1 Q) {i : Nat} {x : α} (hx : xs[i]? = some x) :
    ∃ g n c S2 ds,cs = [.slice (some ⟨g,0,none⟩) n c]/\Hole F A w S g (i*F.E.size) x S2 ds (fun z=>Q (xs.set i z)):=by
  have hi:=(List.getElem?_eq_some_iff.1 hx).1
  rcases h.own with ⟨_,rfl,_⟩ | ⟨g,c,arr,Si,rfl,h1,h2,h3,h4,h5⟩
  . simp at hi
  . obtain ⟨ds, h6, h7⟩ := h5.el i x hx
    have hSi:∀ j k,j<xs.length->Si j k->S1 k:=fun j k hj hk=>(h5.set k).2 (.inr ⟨j,hj,hk⟩)
    have hgS:S1 g:=(h5.set g).2 (.inl rfl)
    have hrow:∀ j,j<xs.length->j*F.E.size+F.E.size<=arr.size:=fun j hj=>by
      rw [h4]
      have:=Nat.mul_le_mul_right F.E.size (show j+1<=c by omega)
      rwa [Nat.add_mul,Nat.one_mul] at this
    refine ⟨g,xs.length,c,Si i,ds,rfl,h6,fun j u hj=>?_,h.sub g hgS,h5.out i hi,fun k hk=>h.sub k (hSi i k hi hk),⟨arr,T,h1,hrow i hi⟩,fun A' w' S1' y' es k1 k2 k3 k4 k5 k6=>?_⟩
    . rw [h1.cell]
      exact h7 j u hj
    . obtain ⟨arr0, arr', T', k7, k8, k9, k10⟩ := k3
      obtain ⟨rfl,rfl⟩:arr=arr0/\T=T':=by
        have:=h1.symm.trans k7
        injection this with this
        injection this with e1 e2
        exact ⟨e1,e2⟩
      have hes:=F.len k1
      let Sj:Nat->Nat->Prop:=fun j=>if j=i then S1' else Si j
      have hset:(fun k=>(S k/\¬ Si i k)\/S1' k)=fun k=>(S k/\¬ S1 k)\/(k=g\/∃ j,j<xs.length/\Sj j k):=by
        funext k
        rw [eq_iff_iff]
        constructor
        . rintro (⟨a, b⟩ | a)
          . by_cases hs1 : S1 k
            . rcases (h5.set k).1 hs1 with e | ⟨j, hj, hk⟩
              . exact .inr (.inl e)
              . have hne : j ≠ i := fun e => b (e ▸ hk)
                exact .inr (.inr ⟨j,hj,by simp only [Sj,if_neg hne];exact hk⟩)
            . exact .inl ⟨a,hs1⟩
          . exact .inr (.inr ⟨i,hi,by simp only [Sj,if_pos];exact a⟩)
        . rintro (⟨a, b⟩ | a | ⟨j, hj, a⟩)
          . exact .inl ⟨a,fun hk=>b (hSi i k hi hk)⟩
          . exact .inl ⟨a ▸ h.sub g hgS,fun hk=>h5.out i hi (a ▸ hk)⟩
          . by_cases e : j = i
            . simp only [Sj, if_pos e] at a
              exact .inr a
            . simp only [Sj, if_neg e] at a
              exact .inl ⟨h.sub k (hSi j k hj a),fun hk=>h5.dis j i k hj hi e a hk⟩
      rw [hset]
      refine h.put A' w' _ (xs.set i y') (.inr ⟨g,c,arr',Sj,by rw [List.length_set],k8,by rw [List.length_set];exact h2,h3,by rw [k9];exact h4,⟨fun j z hz=>?_,fun j j' k hj hj' hne a b=>?_,fun j hj=>?_,fun k=>?_⟩⟩) (fun k a b=>?_) k5 (fun k a b=>?_)
      . have hj : j < xs.length := by have := (List.getElem?_eq_some_iff.1 hz).1; rwa [List.length_set] at this
        by_cases e:j=i
        . subst e
          rw [List.getElem?_set_self hi] at hz
          injection hz with hz
          subst hz
          refine ⟨es,by simp only [Sj,if_pos];exact k1,fun q u hq=>?_⟩
          have:=k2 q u hq
          rwa [k8.cell] at this
        . rw [List.getElem?_set_ne (Ne.symm e)] at hz
          obtain ⟨fs,a1,a2⟩:=h5.el j z hz
          have hfs:=F.len a1
          refine ⟨fs,?_,fun q u hq=>?_⟩
          . simp only [Sj, if_neg e]
            refine F.stab a1 (fun k hk=>k4 k (h.sub k (hSi j k hj hk)) (fun hk'=>h5.dis j i k hj hi e hk hk') fun e'=>h5.out j hj (e' ▸ hk)) k5
          . have hq' := (List.getElem?_eq_some_iff.1 hq).1
            rw [k10 _ ?_]
            . exact a2 q u hq
            . rcases Nat.lt_or_ge j i with hlt | hge
              . left
                have:=Nat.mul_le_mul_right F.E.size (show j+1<=i by omega)
                rw [Nat.add_mul,Nat.one_mul] at this
                omega
              . right
                have:=Nat.mul_le_mul_right F.E.size (show i+1<=j by omega)
                rw [Nat.add_mul,Nat.one_mul] at this
                omega
      . rw [List.length_set] at hj hj'
        simp only [Sj] at a b
        split at a <;> split at b
        . omega
        . rename_i e1 e2
          exact h5.dis j' i k hj' hi e2 b (k6 k a (h.sub k (hSi j' k hj' b)))
        . rename_i e1 e2
          exact h5.dis j i k hj hi e1 a (k6 k b (h.sub k (hSi j k hj a)))
        . exact h5.dis j j' k hj hj' hne a b
      . rw [List.length_set] at hj
        simp only [Sj]
        split
        . exact fun hg=>h5.out i hi (k6 g hg (h.sub g hgS))
        . exact h5.out j hj
      . rw [List.length_set]
      . exact k4 k a (fun hk=>b (hSi i k hi hk)) fun e=>b (e ▸ hgS)
      . rcases a with rfl | ⟨j, hj, a⟩
        . exact hgS
        . simp only [Sj] at a
          split at a
          . exact hSi i k hi (k6 k a b)
          . exact hSi j k hj a
theorem VHole.ptr {T : TypeId} {x : α} {S1 : Nat -> Prop} {cs : List Value} {Q : α -> Pw} (h : VHole (oPt T F) A w S cs x S1 Q) :
    ∃ b S2 ds,cs = [.pointer (some ⟨b,0,none⟩)]/\Hole F A w S b 0 x S2 ds Q:=by
  obtain ⟨b,ds,S2,rfl,h1,h2,h3,h4⟩:=h.own
  have hl:=F.len h2
  have hb1:S1 b:=(h4 b).2 (.inl rfl)
  refine ⟨b,S2,ds,rfl,h2,fun j u hj=>?_,h.sub b hb1,h3,fun k hk=>h.sub k ((h4 k).2 (.inr hk)),⟨_,T,h1,by simp [hl]⟩,fun A' w' S1' y' es k1 k2 k3 k4 k5 k6=>?_⟩
  . rw [h1.cell, Nat.zero_add]
    simpa using hj
  . obtain ⟨arr0, arr', T', k7, k8, k9, k10⟩ := k3
    obtain ⟨e1,rfl⟩:ds.toArray=arr0/\T=T':=by
      have:=h1.symm.trans k7
      injection this with this
      injection this with e1 e2
      exact ⟨e1,e2⟩
    subst e1
    have hes:=F.len k1
    have harr:arr'=es.toArray:=by
      apply Array.ext_getElem?
      intro j
      by_cases hj:j<es.length
      . have := k2 j _ (List.getElem?_eq_getElem hj)
        rw [k8.cell,Nat.zero_add] at this
        rw [this]
        simp [hj]
      . rw [Array.getElem?_eq_none (by rw [k9];simp;omega),Array.getElem?_eq_none (by simp;omega)]
    have hset:(fun k=>(S k/\¬ S2 k)\/S1' k)=fun k=>(S k/\¬ S1 k)\/(k=b\/S1' k):=by
      funext k
      rw [eq_iff_iff]
      constructor
      . rintro (⟨a, c⟩ | a)
        . by_cases e : k = b
          . exact .inr (.inl e)
          . exact .inl ⟨a,fun h=>((h4 k).1 h).elim e c⟩
        . exact .inr (.inr a)
      . rintro (⟨a, c⟩ | a | a)
        . exact .inl ⟨a,fun h=>c ((h4 k).2 (.inr h))⟩
        . exact .inl ⟨a ▸ h.sub b hb1,fun h=>h3 (a ▸ h)⟩
        . exact .inr a
    rw [hset]
    refine h.put A' w' _ y' ⟨b,es,S1',rfl,harr ▸ k8,k1,fun hb=>h3 (k6 b hb (h.sub b hb1)),fun k=>Iff.rfl⟩ (fun k a c=>k4 k a (fun hk=>c ((h4 k).2 (.inr hk))) fun e=>c (e ▸ hb1)) k5 (fun k a c=>?_)
    rcases a with rfl | a
    . exact hb1
    . exact (h4 k).2 (.inr (k6 k a c))
end
end
end Go.Proofs.YtmgiijdejigdhaaGreat
