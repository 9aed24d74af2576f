/- Own texts laid together. No statement of the seat is proved here. -/
import Derived.Test.YtmkgocdgkdglnaaZx7
namespace Go.Proofs.Ytmkgocdgkdglnaa
open Go.RowKit
set_option linter.unusedVariables false
set_option linter.unusedSimpArgs false
theorem zH6 {α β : Type} {f : α → β} : ∀ (l : List α) (a : List β), l.foldl (fun a t => a ++ [f t]) a = a ++ l.map f
  | [],a=>by simp
  | x::l,a=>by rw [List.foldl_cons,zH6 l,List.map_cons,List.append_assoc];rfl
theorem zLg {fu : Nat} {n : Int} {xs : List Int} {acc : List TTst} (hf : 1048577 ≤ fu) (h0 : 1 ≤ xs.length) (h1 : xs.length ≤ 1000) (h2 : acc.length ≤ 1000) :
    zAU fu n xs fu (1:Int) acc=some (acc++(xs.drop 1).map fun t=>(n,t,false)):=by
  have h:=zDr (xs:=xs.drop 1) (g:=fun (a:List TTst) t=>a ++ [(n,t,false)]) (Inv:=fun i a=>a.length≤1000+i) (L:=fun k i a=>zAU fu n xs k (i+1) a) (fun k i a t ht ha=>by
    have ht':xs[i+1]? = some t:=by rw [List.getElem?_drop] at ht;rwa [Nat.add_comm] at ht
    have hi:=zCj ht'
    show zAU fu n xs (k+1) ((i+1:Nat):Int) a=zAU fu n xs k ((i+1+1:Nat):Int) (a ++ [(n,t,false)])
    rw [zAU,lt_t hi,cond_true,ck_t (zBe hi),zAk ht',ck_t (zEn (by rw [List.length_singleton];omega)),ck_t (zD5 (by omega)),zBn]) (fun i a t ht ha=>by
    show (a ++ [(n,t,false)]).length≤_
    rw [List.length_append,List.length_singleton]
    omega) (fun k a ha=>by
    show zAU fu n xs (k+1) (((xs.drop 1).length:Int)+1) a=_
    rw [List.length_drop,show (((xs.length-1:Nat):Int)+1)=(xs.length:Int) by omega,zAU,lt_f];rfl) (a:=acc) (by omega) (show (xs.drop 1).length<fu by rw [List.length_drop];omega)
  have h3:zAU fu n xs fu (1:Int) acc=_:=h.1
  rw [h3,zH6]
theorem zJ0 {α β : Type} {f : α → List β} : ∀ (l : List α) (a : List β), l.foldl (fun a t => a ++ f t) a = a ++ l.flatMap f
  | [],a=>by simp
  | x::l,a=>by rw [List.foldl_cons,zJ0 l,List.flatMap_cons,List.append_assoc]
def zKW (r:List (List TTst)):List TTst:=six.flatMap fun n=>((lev r n).drop 1).map fun t=>(n,t,false)
theorem zJL {fu:Nat} {r:List (List TTst)} (hf:1048577≤fu) (hr:RsOK r):zBA fu r=some (bif rsB r then zKW r else []):=by
  unfold zBA
  cases hv:rsB r
  · obtain ⟨k, rfl⟩ : ∃ k, fu = k + 1 := ⟨fu - 1, by omega⟩
    rw [zAi,zHC hf hr,hv]
    rfl
  · obtain ⟨h1, h2⟩ := zHV hv
    have hfl:=zGI (n:=3) fun l hl=>(h2 l hl).1
    have hlev:∀ n,(lev r n).length≤10:=fun n=>by
      have:=zHJ n r.flatten [0]
      unfold lev
      simp only [List.length_singleton] at this
      omega
    have hlev1:∀ n,1≤(lev r n).length:=fun n=>List.length_pos_of_mem (((zGG n r.flatten [0] (List.pairwise_singleton ..)).2 0).2 (.inl (List.mem_singleton.2 rfl)))
    have h:=zDr (xs:=six) (g:=fun (a:List TTst) n=>a++((lev r n).drop 1).map fun t=>(n,t,false)) (Inv:=fun i a=>a.length≤10*i) (L:=zAi fu r) (fun k i a n hn ha=>by
      have hi:i<6:=by have:=zCj hn;simpa [six] using this
      obtain rfl:(i:Int)=n:=by
        unfold six at hn
        rw [List.getElem?_map,List.getElem?_range hi] at hn
        exact Option.some.inj hn
      rw [zAi,decide_eq_true (show (i:Int)<6 by omega),zHC hf hr,hv]
      simp only [zK9,zG5,Bool.and_self,cond_true]
      rw [zKb hf h1 fun l hl=>(h2 l hl).1,zAS,zLg hf (hlev1 _) (by have:=hlev (i:Int);omega) (by omega),zAS,ck_t (zD5 (by omega)),zBn]
      rfl) (fun i a n hn ha=>by
      have:=hlev n
      rw [List.length_append,List.length_map,List.length_drop]
      omega) (fun k a ha=>by
      rw [zAi]
      rfl) (a:=[]) (Nat.zero_le _) (show six.length<fu by have:six.length=6:=rfl;omega)
    rw [h.1,zAS,zJ0,List.nil_append]
    rfl
theorem zHF {r:List (List TTst)} {n:Int} (h:∀ l ∈ r,∀ t ∈ l,1≤t.2.1):zDH iLt ((lev r n).drop 1)∧∀ y,y ∈ (lev r n).drop 1 ↔ ∃ t ∈ r.flatten,t.1=n∧t.2.1=y:=by
  obtain ⟨h1,h2⟩:=zGG n r.flatten [0] (List.pairwise_singleton ..)
  have hge:∀ t ∈ r.flatten,1≤t.2.1:=fun t ht=>by
    obtain ⟨l,hl,ht⟩:=List.mem_flatten.1 ht
    exact h l hl t ht
  change zDH iLt (lev r n) at h1
  change ∀ y,y ∈ lev r n ↔ _ at h2
  cases hd:lev r n with
  | nil=>
    have:=(h2 0).2 (.inl (List.mem_singleton.2 rfl))
    rw [hd] at this
    cases this
  | cons z m=>
    rw [hd] at h1 h2
    obtain ⟨h3,h4⟩:=List.pairwise_cons.1 h1
    have hz:z=0:=by
      rcases List.mem_cons.1 ((h2 0).2 (.inl (List.mem_singleton.2 rfl))) with e | e
      · exact e.symm
      · have h5 : z < 0 := by simpa [iLt] using h3 0 e
        rcases (h2 z).1 (List.mem_cons_self ..) with e | ⟨t,ht,_,e⟩
        · exact List.mem_singleton.1 e
        · have := hge t ht
          omega
    subst hz
    refine ⟨h4,fun y=>?_⟩
    show y ∈ m ↔ _
    constructor
    · intro hy
      rcases (h2 y).1 (List.mem_cons_of_mem _ hy) with e | e
      · have := h3 y hy
        rw [List.mem_singleton.1 e] at this
        cases this
      · exact e
    · rintro ⟨t, ht, e1, e2⟩
      rcases List.mem_cons.1 ((h2 y).2 (.inr ⟨t,ht,e1,e2⟩)) with e | e
      · have := hge t ht
        omega
      · exact e
theorem zKo {r:List (List TTst)} (hv:rsB r=true):zKW r=varL r:=by
  obtain ⟨h1,h2⟩:=zHV hv
  have hge:∀ l ∈ r,∀ t ∈ l,1≤t.2.1:=fun l hl t ht=>((h2 l hl).2 t ht).2.1
  unfold varL
  rw [hv,cond_true]
  refine zGk zGS ?_ (zGb zGS (zGL zGS _)) fun x=>?_
  · unfold zKW
    refine List.pairwise_flatMap.2 ⟨fun n hn=>?_,?_⟩
    · rw [List.pairwise_map]
      exact (zHF hge).1.imp fun {a b} h=>by
        rw [zI1]
        exact .inr ⟨rfl,.inl (by simpa [iLt] using h)⟩
    · have : six.Pairwise fun a b => a < b := by decide
      refine this.imp fun {a b} h x hx y hy=>?_
      obtain ⟨u,_,rfl⟩:=List.mem_map.1 hx
      obtain ⟨v,_,rfl⟩:=List.mem_map.1 hy
      rw [zI1]
      exact .inl h
  · rw [zIp, List.mem_mergeSort]
    unfold zKW
    rw [List.mem_flatMap]
    constructor
    · rintro ⟨n, hn, hx⟩
      obtain ⟨y,hy,rfl⟩:=List.mem_map.1 hx
      obtain ⟨t,ht,e1,e2⟩:=((zHF hge).2 y).1 hy
      subst e1 e2
      exact List.mem_map.2 ⟨t,ht,rfl⟩
    · intro hx
      obtain ⟨t,ht,rfl⟩:=List.mem_map.1 hx
      obtain ⟨l,hl,htl⟩:=List.mem_flatten.1 ht
      have hb:=((h2 l hl).2 t htl).1
      refine ⟨t.1,?_,List.mem_map.2 ⟨t.2.1,((zHF hge).2 _).2 ⟨t,ht,rfl,rfl⟩,rfl⟩⟩
      unfold six
      exact List.mem_map.2 ⟨t.1.toNat,List.mem_range.2 (by omega),by omega⟩
theorem zK4 {fu:Nat} {r:List (List TTst)} (hf:1048577≤fu) (hr:RsOK r):zBA fu r=some (varL r):=by
  rw [zJL hf hr]
  cases hv:rsB r
  · unfold varL
    rw [hv]
    rfl
  · rw [cond_true,zKo hv]
theorem zMH {α:Type} {f:α→Nat} {xs:List α} (h:wL f xs≤1048576):xs.length≤1048576∧∀ x ∈ xs,f x≤1048576:=by
  unfold wL at h
  exact ⟨by omega,fun x hx=>Nat.le_trans (zEm hx) (by omega)⟩
theorem zMQ {r:List (List TTst)} (h:zC0 r≤1048576):RsOK r:=by
  unfold zC0 zDO at h
  have k1:=zMH (f:=zDJ) h
  refine ⟨k1.1,fun l hl=>?_⟩
  have:=k1.2 l hl
  unfold zDJ zDW at this
  exact (zMH (f:=zEH) this).1
theorem zIZ {l:List TTst}:(cmpL l).length≤l.length:=by
  cases l with
  | nil=>exact Nat.le_refl _
  | cons x xs=>
    have:=zGl (p:=x) (l:=xs)
    simp [cmpL]
    omega
end Go.Proofs.Ytmkgocdgkdglnaa
namespace Go.Proofs.Ytmkgocdgkdglnaa
open Go.RowKit
set_option linter.unusedVariables false
set_option linter.unusedSimpArgs false
def zCi : List Bool → Nat
  | []=>0
  | b::l=>(bif b then 1 else 0)+2*zCi l
theorem zHc : ∀ l : List Bool, zCi l < 2 ^ l.length
  | []=>by simp [zCi]
  | b::l=>by
    have:=zHc l
    rw [zCi,List.length_cons,Nat.pow_succ]
    cases b <;> simp <;> omega
theorem zHl : ∀ (l : List Bool) (v : Nat), (zCi l).testBit v = l.getD v false
  | [],v=>by simp [zCi]
  | b::l,0=>by
    rw [zCi,Nat.testBit_zero]
    cases b <;> simp <;> omega
  | b::l,v+1=>by
    rw [zCi,Nat.testBit_succ,List.getD_cons_succ,← zHl l v]
    congr 1
    cases b <;> simp <;> omega
theorem zGW : ∀ (l : List Bool) (b : Bool), zCi (l ++ [b]) = zCi l + (bif b then 2 ^ l.length else 0)
  | [],b=>by cases b <;> rfl
  | c::l,b=>by
    rw [List.cons_append,zCi,zCi,zGW l b,List.length_cons,Nat.pow_succ]
    cases b <;> cases c <;> simp <;> omega
theorem zMK {a n:Nat} (h:a<2 ^ n):a ||| 2 ^ n=a+2 ^ n:=by
  rw [Nat.add_comm]
  have:=Nat.two_pow_add_eq_or_of_lt h 1
  rw [Nat.mul_one] at this
  rw [this,Nat.or_comm]
theorem zIq {a:Nat}:(BitVec.ofInt IntKind.i64.bits (a:Int))=BitVec.ofNat IntKind.i64.bits a:=by
  rw [BitVec.ofInt_natCast]
theorem zHT {a:Nat} (h:a≤9223372036854775807):IntKind.i64.wrap (a:Int)=(a:Int):=zFV (zCY (by omega) (by omega))
theorem zLd {a b:Nat} (ha:a<2 ^ 30) (hb:b<2 ^ 30):bitI (fun u v=>u ||| v) .i64 (a:Int) (b:Int)=((a ||| b:Nat):Int):=by
  unfold bitI
  rw [zIq,zIq,BitVec.toNat_or,BitVec.toNat_ofNat,BitVec.toNat_ofNat,Nat.mod_eq_of_lt,Nat.mod_eq_of_lt]
  · exact zHT (by have:=Nat.or_lt_two_pow ha hb;omega)
  · exact Nat.lt_of_lt_of_le hb (by decide)
  · exact Nat.lt_of_lt_of_le ha (by decide)
theorem zKV {a b:Nat} (ha:a<2 ^ 30) (hb:b<2 ^ 30):bitI (fun u v=>u &&& v) .i64 (a:Int) (b:Int)=((a &&& b:Nat):Int):=by
  unfold bitI
  rw [zIq,zIq,BitVec.toNat_and,BitVec.toNat_ofNat,BitVec.toNat_ofNat,Nat.mod_eq_of_lt,Nat.mod_eq_of_lt]
  · exact zHT (by have:=Nat.and_lt_two_pow a hb;omega)
  · exact Nat.lt_of_lt_of_le hb (by decide)
  · exact Nat.lt_of_lt_of_le ha (by decide)
theorem zKM {l:List Bool} (h:l.length≤9):bitI (fun u v=>u ||| v) .i64 (zCi l:Int) (IntKind.i64.wrap ((1:Int)*2 ^ min (l.length:Int).toNat 64))=(zCi (l ++ [true]):Int):=by
  have h1:=zHc l
  have h3:2 ^ l.length≤2 ^ 9:=Nat.pow_le_pow_right (by omega) h
  rw [Int.toNat_natCast,Nat.min_eq_left (by omega),Int.one_mul,show ((2:Int) ^ l.length)=((2 ^ l.length:Nat):Int) by simp,zHT (by omega),zLd (by omega) (by omega),zMK h1,zGW]
  rfl
theorem zKk {l:List Bool} (h:l.length≤9) {v:Nat} (hv:v≤9):((bitI (fun u v=>u &&& v) .i64 ((zCi l:Int) / 2 ^ min (v:Int).toNat 64) (1:Int))==(1:Int))=l.getD v false:=by
  have h1:=zHc l
  have h3:2 ^ l.length≤2 ^ 9:=Nat.pow_le_pow_right (by omega) h
  rw [Int.toNat_natCast, Nat.min_eq_left (by omega), show ((zCi l : Int) / 2 ^ v) = ((zCi l / 2 ^ v : Nat) : Int) by simp, show (1 : Int) = ((1 : Nat) : Int) from rfl,
    zKV (Nat.lt_of_le_of_lt (Nat.div_le_self ..) (by omega)) (by omega),← zHl,Nat.and_one_is_mod,Nat.testBit_eq_decide_div_mod_eq,Bool.eq_iff_iff,beq_iff_eq,decide_eq_true_iff]
  omega
end Go.Proofs.Ytmkgocdgkdglnaa
namespace Go.Proofs.Ytmkgocdgkdglnaa
open Go.RowKit
set_option linter.unusedVariables false
set_option linter.unusedSimpArgs false
abbrev LRu:=List (List TTst)
structure VarsOK (r : LRu) (vs : List TTst) : Prop where
  n:r.length≤3
  m:∀ l ∈ r,l.length≤3
  rng:∀ l ∈ r,∀ t ∈ l,(0≤t.1∧t.1≤5)∧1≤t.2.1∧t.2.1≤1000
  len:vs.length≤9
  srt:zDH tT vs
  mem:∀ x,x ∈ vs ↔ ∃ t ∈ r.flatten,nob t=x
theorem zIS {r:LRu} (hv:rsB r=true):VarsOK r (varL r):=by
  obtain ⟨h1,h2⟩:=zHV hv
  have hfl:=zGI (n:=3) fun l hl=>(h2 l hl).1
  refine ⟨h1,fun l hl=>(h2 l hl).1,fun l hl=>(h2 l hl).2,?_,?_,fun x=>?_⟩
  · unfold varL
    rw [hv,cond_true]
    have:=zIZ (l:=(r.flatten.map nob).mergeSort fun x y=>!(tT y x))
    rw [List.length_mergeSort,List.length_map] at this
    omega
  · unfold varL
    rw [hv,cond_true]
    exact zGb zGS (zGL zGS _)
  · unfold varL
    rw [hv,cond_true,zIp,List.mem_mergeSort,List.mem_map]
def idx (vs:List TTst) (x:TTst):Nat:=(ixI 0 (vs.map fun y=>x==y)).getD 0
theorem zJY {l:List TTst} (h:zDH tT l) {i j:Nat} {x:TTst} (hi:l[i]? = some x) (hj:l[j]? = some x):i=j:=by
  have irr:tT x x=false:=by
    cases e:tT x x
    · rfl
    · have := zGS.asy e
      rw [e] at this
      cases this
  obtain ⟨h1,h2⟩:=List.getElem?_eq_some_iff.1 hi
  obtain ⟨h3,h4⟩:=List.getElem?_eq_some_iff.1 hj
  rcases Nat.lt_trichotomy i j with hl | hl | hl
  · have := List.pairwise_iff_getElem.1 h i j h1 h3 hl
    rw [h2,h4,irr] at this
    cases this
  · exact hl
  · have := List.pairwise_iff_getElem.1 h j i h3 h1 hl
    rw [h2,h4,irr] at this
    cases this
theorem zL2 {vs:List TTst} {x:TTst} (h:x ∈ vs):ixI 0 (vs.map fun y=>x==y)=some (idx vs x)∧vs[idx vs x]? = some x:=by
  unfold idx
  cases e:ixI 0 (vs.map fun y=>x==y) with
  | none=>
    have:=zHD e (x==x) (List.mem_map.2 ⟨x,h,rfl⟩)
    simp at this
  | some j=>
    refine ⟨rfl,?_⟩
    obtain ⟨_,h2,_⟩:=zGH e
    rw [List.getElem?_map,Nat.sub_zero] at h2
    obtain ⟨y,hy,e⟩:=Option.map_eq_some_iff.1 h2
    rw [Option.getD_some,hy,← eq_of_beq e]
def tstV (vs:List TTst) (bs:List Bool) (t:TTst):Bool:=bs.getD (idx vs (nob t)) false != t.2.2
def valR (vs:List TTst) (bs:List Bool) (r:LRu):Bool:=r.any fun l=>l.all fun t=>tstV vs bs t
theorem zLR {fu:Nat} {vs:List TTst} {x:TTst} (hf:vs.length<fu) (hl:vs.length≤1048576):zAf fu vs x=some (match ixI 0 (vs.map fun y=>x==y) with | some i=>(i:Int) | none=>-1):=by
  unfold zAf
  have h:=zIe (xs:=vs) (p:=fun y=>x==y) (L:=zAX fu vs x) (fun k i y hy=>by
    have hi:=zCj hy
    rw [zAX,lt_t hi,cond_true,ck_t (zBe hi),zAk hy,zBn,ck_t (zDC (by omega))]) (fun k=>by rw [zAX,lt_f];rfl) hf
  rw [h,zAS]
  cases ixI 0 (vs.map fun y=>x==y) <;> rfl
theorem zJm {fu : Nat} {r : LRu} {vs : List TTst} {bs : List Bool} {ns : List zA3} {t : TTst} (hf : 1048577 ≤ fu) (ok : VarsOK r vs) (hb : bs.length = vs.length) (ht : t ∈ r.flatten) :
    zBd fu t (r,vs,bs,ns)=some (tstV vs bs t):=by
  unfold zBd
  have hm:=(ok.mem (nob t)).2 ⟨t,ht,rfl⟩
  obtain ⟨h1,h2⟩:=zL2 hm
  have hi:=zCj h2
  have hl:=ok.len
  have h3:=List.getElem?_eq_getElem (show idx vs (nob t)<bs.length by omega)
  show (cl true (zAf fu vs (nob t)) fun x4=>ck (inR x4 bs.length) (some ((gtD bs x4) != t.2.2)))=_
  rw [zLR (by omega) (by omega),zAS,h1]
  show ck (inR (idx vs (nob t):Int) bs.length) (some ((gtD bs (idx vs (nob t):Int)) != t.2.2))=_
  rw [ck_t (zBe (by omega)),zAk h3]
  unfold tstV
  rw [List.getD_eq_getElem?_getD,h3]
  rfl
theorem zM6 {fu:Nat} {l:List TTst} {F:TTst→Option Bool} {p:TTst→Bool} (hf:l.length<fu) (hl:l.length≤1048576) (hF:∀ t ∈ l,F t=some (p t)):zAa fu l F=some (l.any p):=by
  unfold zAa zB6
  have h:=zIe (xs:=l) (p:=p) (L:=zAT fu l F) (fun k i y hy=>by
    have hi:=zCj hy
    rw [zAT,lt_t hi,cond_true,ck_t (zBe hi),zAk hy,hF y (zD4 hy),zAS,zBn,ck_t (zDC (by omega))]) (fun k=>by rw [zAT,lt_f];rfl) hf
  rw [h,zAS]
  cases e:ixI 0 (l.map p) with
  | none=>
    have:=zHD e
    have h4:l.any p=false:=by
      rw [List.any_eq_false]
      intro x hx
      rw [this (p x) (List.mem_map.2 ⟨x,hx,rfl⟩)]
      exact Bool.false_ne_true
    rw [h4]
    rfl
  | some j=>
    obtain ⟨_,h2,_⟩:=zGH e
    rw [List.getElem?_map,Nat.sub_zero] at h2
    obtain ⟨y,hy,e⟩:=Option.map_eq_some_iff.1 h2
    have h4:l.any p=true:=List.any_eq_true.2 ⟨y,zD4 hy,e⟩
    rw [h4]
    show some (decide ((0:Int)≤(j:Int)))=some true
    rw [decide_eq_true (by omega)]
theorem zKI {fu : Nat} {r : LRu} {vs : List TTst} {bs : List Bool} {ns : List zA3} (hf : 1048577 ≤ fu) (ok : VarsOK r vs) (hb : bs.length = vs.length) :
    zBw fu (r,vs,bs,ns)=some (bif valR vs bs r then 1 else 0):=by
  unfold zBw
  have key:∀ m i k,i+m=r.length→m<k→zAy fu (r,vs,bs,ns) k ((i:Nat):Int)=some (bif valR vs bs (r.drop i) then 1 else 0):=by
    intro m
    induction m with
    | zero=>
      intro i k hi hk
      obtain ⟨k,rfl⟩:∃ q,k=q+1:=⟨k-1,by omega⟩
      obtain rfl:i=r.length:=by omega
      rw [zAy]
      show (bif decide (((r.length:Nat):Int)<(r.length:Int)) then _ else _)=_
      rw [lt_f,List.drop_length]
      rfl
    | succ m ih=>
      intro i k hi hk
      obtain ⟨k,rfl⟩:∃ q,k=q+1:=⟨k-1,by omega⟩
      have hil:i<r.length:=by omega
      have hx:=List.getElem?_eq_getElem hil
      have hn:=ok.n
      have hm:=ok.m _ (zD4 hx)
      rw [zAy]
      show (bif decide ((i:Int)<(r.length:Int)) then ck (inR (i:Int) r.length) (cl true (zAa fu (gtD r (i:Int)) fun t=>zBc fu t (r,vs,bs,ns)) fun x=>bif (!x) then some (1:Int) else ck (i64B ((i:Int)+(1:Int))) (zAy fu (r,vs,bs,ns) k ((i:Int)+(1:Int)))) else some (0:Int))=_
      rw [lt_t hil,cond_true,ck_t (zBe hil),zAk hx,zM6 (p:=fun t=>!(tstV vs bs t)) (by omega) (by omega) fun t ht=>by
        unfold zBc
        rw [zJm hf ok hb (List.mem_flatten.2 ⟨_,zD4 hx,ht⟩),zAS],zAS,zBn,ck_t (zDC (by omega)),zC2 hx,ih (i+1) k (by omega) (by omega)]
      unfold valR
      rw [List.any_cons,List.not_any_eq_all_not]
      simp only [Bool.not_not]
      cases r[i].all fun t=>tstV vs bs t <;> rfl
  have:=key r.length 0 fu (by omega) (by have:=ok.n;omega)
  rw [List.drop_zero] at this
  rw [show zAy fu (r,vs,bs,ns) fu (0:Int)=_ from this,zAS]
theorem zIE {α : Type} {p : α → Bool} : ∀ (l : List α) (a : Bool), l.foldl (fun a x => bif p x then false else a) a = (a && !(l.any p))
  | [],a=>by simp
  | x::l,a=>by
    rw [List.foldl_cons,zIE l,List.any_cons]
    cases p x <;> cases a <;> simp
theorem zID {α : Type} {p : α → Bool} : ∀ (l : List α) (a : Bool), l.foldl (fun a x => a && p x) a = (a && l.all p)
  | [],a=>by simp
  | x::l,a=>by rw [List.foldl_cons,zID l,List.all_cons,Bool.and_assoc]
def hitV (vs:List TTst) (bs:List Bool) (t x:TTst):Bool:=(x.1==t.1&&x.2.1==t.2.1)&&(bs.getD (idx vs x) false==t.2.2)
theorem zLl {r:LRu} {vs:List TTst} {bs:List Bool} {t:TTst} (ok:VarsOK r vs) (ht:t ∈ r.flatten):(!(vs.any (hitV vs bs t)))=tstV vs bs t:=by
  have hm:=(ok.mem (nob t)).2 ⟨t,ht,rfl⟩
  unfold tstV
  have key:vs.any (hitV vs bs t)=(bs.getD (idx vs (nob t)) false==t.2.2):=by
    rw [Bool.eq_iff_iff,List.any_eq_true]
    constructor
    · rintro ⟨x, hx, h⟩
      obtain ⟨s,hs,rfl⟩:=(ok.mem x).1 hx
      unfold hitV at h
      rw [Bool.and_eq_true,Bool.and_eq_true] at h
      obtain ⟨⟨h1,h2⟩,h3⟩:=h
      have e1:s.1=t.1:=eq_of_beq h1
      have e2:s.2.1=t.2.1:=eq_of_beq h2
      have:nob s=nob t:=by unfold nob;rw [e1,e2]
      rwa [this] at h3
    · intro h
      refine ⟨nob t,hm,?_⟩
      unfold hitV
      rw [Bool.and_eq_true,Bool.and_eq_true]
      exact ⟨⟨beq_self_eq_true _,beq_self_eq_true _⟩,h⟩
  rw [key]
  rfl
theorem zLu {fu : Nat} {r : LRu} {vs : List TTst} {bs : List Bool} {l : List TTst} {t : TTst} {i j : Nat} {y : Bool} (hf : 1048577 ≤ fu) (ok : VarsOK r vs) (hb : bs.length = vs.length) (hl : r[i]? = some l) (ht : l[j]? = some t) :
    zAh fu r vs (zCi bs:Int) (i:Int) (j:Int) fu y (0:Int)=some (y&&tstV vs bs t):=by
  have hv:=ok.len
  have h:=zDr (xs:=vs) (g:=fun a x=>bif hitV vs bs t x then false else a) (Inv:=fun _ _=>True) (L:=fun k i' a=>zAh fu r vs (zCi bs:Int) (i:Int) (j:Int) k a i') (fun k q a x hx _=>by
    have hq:=zCj hx
    have hi:idx vs x=q:=zJY ok.srt (zL2 (zD4 hx)).2 hx
    show zAh fu r vs (zCi bs:Int) (i:Int) (j:Int) (k+1) a (q:Int)=zAh fu r vs (zCi bs:Int) (i:Int) (j:Int) k (bif hitV vs bs t x then false else a) ((q+1:Nat):Int)
    rw [zAh,lt_t hq,cond_true,ck_t (zBe hq),zBe hq,Bool.or_true,zEZ,zAk hl,zAk ht,zAk hx,zKk (by omega) (by omega),decide_eq_true (show (0:Int)≤(q:Int) by omega),zG5,Bool.or_true,zEZ,zG5,zBn,ck_t (zDC (by omega))]
    rw [show hitV vs bs t x=((x.1==t.1&&x.2.1==t.2.1)&&(bs.getD q false==t.2.2)) by unfold hitV;rw [hi]]
    cases (x.1==t.1&&x.2.1==t.2.1)&&(bs.getD q false==t.2.2)
    · rw [cond_false,cond_false,ck_t (zDC (by omega))]
    · rw [cond_true,cond_true]) (fun _ _ _ _ _=>trivial) (fun k a _=>by
    show zAh fu r vs (zCi bs:Int) (i:Int) (j:Int) (k+1) a (vs.length:Int)=some a
    rw [zAh,lt_f]
    rfl) (a:=y) trivial (show vs.length<fu by omega)
  have h1:zAh fu r vs (zCi bs:Int) (i:Int) (j:Int) fu y (0:Int)=_:=h.1
  rw [h1,zIE,zLl ok (List.mem_flatten.2 ⟨l,zD4 hl,zD4 ht⟩)]
theorem zLs {fu : Nat} {r : LRu} {vs : List TTst} {bs : List Bool} {l : List TTst} {i : Nat} (hf : 1048577 ≤ fu) (ok : VarsOK r vs) (hb : bs.length = vs.length) (hl : r[i]? = some l) :
    zAs fu r vs (zCi bs:Int) (i:Int) fu true (0:Int)=some (l.all fun t=>tstV vs bs t):=by
  have hn:=ok.m l (zD4 hl)
  have hi:=zCj hl
  have h:=zDr (xs:=l) (g:=fun a t=>a&&tstV vs bs t) (Inv:=fun _ _=>True) (L:=fun k i' a=>zAs fu r vs (zCi bs:Int) (i:Int) k a i') (fun k q a t ht _=>by
    have hq:=zCj ht
    show zAs fu r vs (zCi bs:Int) (i:Int) (k+1) a (q:Int)=zAs fu r vs (zCi bs:Int) (i:Int) k (a&&tstV vs bs t) ((q+1:Nat):Int)
    rw [zAs,ck_t (zBe hi),zAk hl,lt_t hq,cond_true,ck_t (zBe hi),ck_t (zBe hq),zLu hf ok hb hl ht,zAS,zBn,ck_t (zDC (by omega))]) (fun _ _ _ _ _=>trivial) (fun k a _=>by
    show zAs fu r vs (zCi bs:Int) (i:Int) (k+1) a (l.length:Int)=some a
    rw [zAs,ck_t (zBe hi),zAk hl,lt_f]
    rfl) (a:=true) trivial (show l.length<fu by omega)
  have h1:zAs fu r vs (zCi bs:Int) (i:Int) fu true (0:Int)=_:=h.1
  rw [h1,zID,Bool.true_and]
theorem zLT {fu:Nat} {r:LRu} {vs:List TTst} {bs:List Bool} (hf:1048577≤fu) (ok:VarsOK r vs) (hb:bs.length=vs.length):zCg fu r vs (zCi bs:Int)=some (valR vs bs r):=by
  unfold zCg
  have hn:=ok.n
  have h:=zHL (xs:=r) (p:=fun l=>l.all fun t=>tstV vs bs t) (r:=true) (L:=zBV fu r vs (zCi bs:Int)) (fun k i l hl=>by
    have hi:=zCj hl
    rw [zBV,lt_t hi,cond_true,zLs hf ok hb hl,zAS,zBn,ck_t (zDC (by omega))]) (fun k=>by rw [zBV,lt_f];rfl) (show r.length<fu by omega)
  rw [h,zAS]
  unfold valR
  cases r.any fun l=>l.all fun t=>tstV vs bs t <;> rfl
end Go.Proofs.Ytmkgocdgkdglnaa
namespace Go.Proofs.Ytmkgocdgkdglnaa
open Go.RowKit
set_option linter.unusedVariables false
set_option linter.unusedSimpArgs false
abbrev DN:=Int × Int × Int × Int
def putN (ns : List DN) (x : DN) : Int × List DN := match ixI 0 (ns.map fun y => x == y) with
  | some i=>((i:Int)+2,ns)
  | none=>((ns.length:Int)+2,ns ++ [x])
def bld (val : List Bool → Bool) (vs : List TTst) : Nat → List Bool → List DN → Int × List DN
  | 0,pre,ns=>(bif val pre then 1 else 0,ns)
  | n+1,pre,ns=>
    bif (bld val vs n (pre ++ [false]) ns).1==(bld val vs n (pre ++ [true]) (bld val vs n (pre ++ [false]) ns).2).1
    then ((bld val vs n (pre ++ [false]) ns).1,(bld val vs n (pre ++ [true]) (bld val vs n (pre ++ [false]) ns).2).2)
    else putN (bld val vs n (pre ++ [true]) (bld val vs n (pre ++ [false]) ns).2).2 ((gtD vs (pre.length:Int)).1,(gtD vs (pre.length:Int)).2.1,(bld val vs n (pre ++ [false]) ns).1,(bld val vs n (pre ++ [true]) (bld val vs n (pre ++ [false]) ns).2).1)
theorem zKl {ns:List DN} {x:DN}:(putN ns x).2.length≤ns.length+1:=by
  unfold putN
  cases ixI 0 (ns.map fun y=>x==y) with
  | none=>show (ns ++ [x]).length≤_;rw [List.length_append];exact Nat.le_refl _
  | some i=>exact Nat.le_succ _
theorem zFF {val : List Bool → Bool} {vs : List TTst} : ∀ (n : Nat) (pre : List Bool) (ns : List DN), (bld val vs n pre ns).2.length + 1 ≤ ns.length + 2 ^ n
  | 0,pre,ns=>Nat.le_refl _
  | n+1,pre,ns=>by
    have h1:=zFF (val:=val) (vs:=vs) n (pre ++ [false]) ns
    have h2:=zFF (val:=val) (vs:=vs) n (pre ++ [true]) (bld val vs n (pre ++ [false]) ns).2
    rw [Nat.pow_succ,bld]
    cases (bld val vs n (pre ++ [false]) ns).1==(bld val vs n (pre ++ [true]) (bld val vs n (pre ++ [false]) ns).2).1
    · rw [cond_false]
      have:=zKl (ns:=(bld val vs n (pre ++ [true]) (bld val vs n (pre ++ [false]) ns).2).2) (x:=((gtD vs (pre.length:Int)).1,(gtD vs (pre.length:Int)).2.1,(bld val vs n (pre ++ [false]) ns).1,(bld val vs n (pre ++ [true]) (bld val vs n (pre ++ [false]) ns).2).1))
      omega
    · rw [cond_true]
      show (bld val vs n (pre ++ [true]) (bld val vs n (pre ++ [false]) ns).2).2.length+1≤_
      omega
theorem zKL {fu:Nat} {ns:List DN} {x:DN} (hf:ns.length<fu) (hl:ns.length≤1048576):zAZ fu ns x=some (match ixI 0 (ns.map fun y=>x==y) with | some i=>(i:Int) | none=>-1):=by
  unfold zAZ
  have h:=zIe (xs:=ns) (p:=fun y=>x==y) (L:=zAM fu ns x) (fun k i y hy=>by
    have hi:=zCj hy
    rw [zAM,lt_t hi,cond_true,ck_t (zBe hi),zAk hy,zBn,ck_t (zDC (by omega))]) (fun k=>by rw [zAM,lt_f];rfl) hf
  rw [h,zAS]
  cases ixI 0 (ns.map fun y=>x==y) <;> rfl
theorem zIx {α:Type} {bs:List α} {n:Nat} {b:α} (h:n<bs.length):(bs.set n b).take (n+1)=bs.take n ++ [b]:=by
  apply List.ext_getElem?
  intro i
  rw [List.getElem?_take,List.getElem?_set]
  rcases Nat.lt_trichotomy i n with hi | hi | hi
  · rw [if_pos (by omega),if_neg (by omega),List.getElem?_append_left (by rw [List.length_take];omega),List.getElem?_take,if_pos hi]
  · subst hi
    rw [if_pos (by omega),if_pos rfl,if_pos h,List.getElem?_append_right (by rw [List.length_take];omega),List.length_take,Nat.min_eq_left (by omega),Nat.sub_self]
    rfl
  · rw [if_neg (by omega),List.getElem?_eq_none (by rw [List.length_append,List.length_take];simp;omega)]
theorem zLe {fu : Nat} {r : LRu} {vs : List TTst} (hf : 1048577 ≤ fu) (ok : VarsOK r vs) : ∀ (n q : Nat) (pre bs : List Bool) (ns : List DN), pre.length + n = vs.length → n < q → bs.length = vs.length → bs.take pre.length = pre → ns.length + 2 ^ n ≤ 1000 →
    ∃ bs',bs'.length=vs.length∧bs'.take pre.length=pre∧zAu q fu (r,vs,bs,ns) (pre.length:Int)=some ((bld (fun b=>valR vs b r) vs n pre ns).1,(r,vs,bs',(bld (fun b=>valR vs b r) vs n pre ns).2)):=by
  intro n
  induction n with
  | zero=>
    intro q pre bs ns hn hq hb hp hl
    obtain ⟨q,rfl⟩:∃ p,q=p+1:=⟨q-1,by omega⟩
    refine ⟨bs,hb,hp,?_⟩
    have e:bs=pre:=by rw [← hp,List.take_of_length_le (by omega)]
    subst e
    rw [zAu]
    show (bif (bs.length:Int)==(vs.length:Int) then _ else _)=_
    rw [show ((bs.length:Int)==(vs.length:Int))=true from by rw [hb];exact beq_self_eq_true _,cond_true,zKI hf ok hb,zAS]
    rfl
  | succ n IH=>
    intro q pre bs ns hn hq hb hp hl
    obtain ⟨q,rfl⟩:∃ p,q=p+1:=⟨q-1,by omega⟩
    have hpl:pre.length<vs.length:=by omega
    have hv:=ok.len
    rw [Nat.pow_succ] at hl
    obtain ⟨b1, h1, h2, h3⟩ := IH q (pre ++ [false]) (bs.set pre.length false) ns (by rw [List.length_append]; simp; omega) (by omega) (by rw [List.length_set]; exact hb) (by
      rw [List.length_append,show ([false]:List Bool).length=1 from rfl,zIx (by omega),hp]) (by omega)
    have l1:=zFF (val:=fun b=>valR vs b r) (vs:=vs) n (pre ++ [false]) ns
    generalize ha:bld (fun b=>valR vs b r) vs n (pre ++ [false]) ns=A at h3 l1
    have e1:(pre ++ [false]).length=pre.length+1:=by rw [List.length_append];rfl
    rw [e1] at h2 h3
    have h2':b1.take pre.length=pre:=by
      have:=congrArg (List.take pre.length) h2
      rw [List.take_take,Nat.min_eq_left (by omega),List.take_left] at this
      exact this
    obtain ⟨b2, k1, k2, k3⟩ := IH q (pre ++ [true]) (b1.set pre.length true) A.2 (by rw [List.length_append]; simp; omega) (by omega) (by rw [List.length_set]; exact h1) (by
      rw [List.length_append,show ([true]:List Bool).length=1 from rfl,zIx (by omega),h2']) (by omega)
    have l2:=zFF (val:=fun b=>valR vs b r) (vs:=vs) n (pre ++ [true]) A.2
    have e2:(pre ++ [true]).length=pre.length+1:=by rw [List.length_append];rfl
    rw [e2] at k2 k3
    generalize hb2:bld (fun b=>valR vs b r) vs n (pre ++ [true]) A.2=B at k3 l2
    have k2':b2.take pre.length=pre:=by
      have:=congrArg (List.take pre.length) k2
      rw [List.take_take,Nat.min_eq_left (by omega),List.take_left] at this
      exact this
    refine ⟨b2,k1,k2',?_⟩
    rw [bld,ha,hb2,zAu]
    dsimp only
    rw [show ((pre.length:Int)==(vs.length:Int))=false from beq_false_of_ne (by omega),cond_false,hb,ck_t (zBe hpl),zBn,ck_t (zDC (by omega)),Int.toNat_natCast,h3,zAS]
    dsimp only
    rw [h1,ck_t (zBe hpl),ck_t (zDC (by omega)),k3,zAS]
    dsimp only
    cases A.1==B.1 with
    | true=>rw [cond_true,cond_true]
    | false=>
      rw [cond_false,cond_false,ck_t (zBe hpl),ck_t (zBe hpl),zKL (by omega) (by omega),zAS]
      unfold putN
      cases hx:ixI 0 (B.2.map fun y=>((gtD vs (pre.length:Int)).1,(gtD vs (pre.length:Int)).2.1,A.1,B.1)==y) with
      | none=>
        dsimp only
        rw [show decide ((-1:Int)<0)=true from rfl,cond_true,ck_t (zEn (by simp;omega)),ck_t (zCY (by omega) (by omega))]
      | some i=>
        have hi:i<B.2.length:=by
          have:=zCj (zGH hx).2.1
          rwa [List.length_map,Nat.sub_zero] at this
        dsimp only
        rw [show decide ((i:Int)<0)=false from decide_eq_false (by omega),cond_false,ck_t (zCY (by omega) (by omega))]
theorem zLW {fu : Nat} {vs : List TTst} {v : Int} {a b : Int × zAR} (hv : inR v vs.length = true) (hf : b.2.2.length < fu) (hl : b.2.2.length ≤ 1000) :
    zBL fu vs v a b fu (0:Int)=some (match ixI 0 (b.2.2.map fun y=>((gtD vs v).1,(gtD vs v).2.1,a.1,b.1)==y) with | some i=>.ret ((i:Int)+2,b.2) | none=>.go ()):=by
  have key:∀ m i k,i+m=b.2.2.length→m<k→zBL fu vs v a b k ((i:Nat):Int)=some (match ixI i ((b.2.2.drop i).map fun y=>((gtD vs v).1,(gtD vs v).2.1,a.1,b.1)==y) with | some i=>.ret ((i:Int)+2,b.2) | none=>.go ()):=by
    intro m
    induction m with
    | zero=>
      intro i k hi hk
      obtain ⟨k,rfl⟩:∃ q,k=q+1:=⟨k-1,by omega⟩
      obtain rfl:i=b.2.2.length:=by omega
      rw [zBL,lt_f,List.drop_length]
      rfl
    | succ m ih=>
      intro i k hi hk
      obtain ⟨k,rfl⟩:∃ q,k=q+1:=⟨k-1,by omega⟩
      have hil:i<b.2.2.length:=by omega
      have hx:=List.getElem?_eq_getElem hil
      have hs:(b.2.2[i]==((gtD vs v).1,(gtD vs v).2.1,a.1,b.1))=(((gtD vs v).1,(gtD vs v).2.1,a.1,b.1)==b.2.2[i]):=BEq.comm
      rw [zBL,lt_t hil,cond_true,ck_t (zBe hil),zAk hx,hs,zBn,zC2 hx,List.map_cons,ixI]
      cases ((gtD vs v).1,(gtD vs v).2.1,a.1,b.1)==b.2.2[i] with
      | true=>
        rw [cond_true,cond_true,ck_t (zCY (by omega) (by omega))]
      | false=>
        rw [cond_false,cond_false,ck_t (zDC (by omega))]
        exact ih (i+1) k (by omega) (by omega)
  have:=key b.2.2.length 0 fu (by omega) hf
  rwa [show ((0:Nat):Int)=0 from rfl,List.drop_zero] at this
theorem zLc {fu : Nat} {r : LRu} {vs : List TTst} (hf : 1048577 ≤ fu) (ok : VarsOK r vs) : ∀ (n q : Nat) (pre : List Bool) (ns : List DN) (root : Int), pre.length + n = vs.length → n < q → ns.length + 2 ^ n ≤ 1000 →
    zBE q fu r vs (pre.length:Int) (zCi pre:Int) (root,ns)=some ((bld (fun b=>valR vs b r) vs n pre ns).1,(root,(bld (fun b=>valR vs b r) vs n pre ns).2)):=by
  intro n
  induction n with
  | zero=>
    intro q pre ns root hn hq hl
    obtain ⟨q,rfl⟩:∃ p,q=p+1:=⟨q-1,by omega⟩
    rw [zBE,show ((pre.length:Int)==(vs.length:Int))=true from by rw [show pre.length=vs.length by omega];exact beq_self_eq_true _,cond_true,zLT hf ok (by omega),zAS,bld]
    cases valR vs pre r <;> rfl
  | succ n IH=>
    intro q pre ns root hn hq hl
    obtain ⟨q,rfl⟩:∃ p,q=p+1:=⟨q-1,by omega⟩
    have hpl:pre.length<vs.length:=by omega
    have hv:=ok.len
    rw [Nat.pow_succ] at hl
    have e1:(pre ++ [false]).length=pre.length+1:=by rw [List.length_append];rfl
    have e2:(pre ++ [true]).length=pre.length+1:=by rw [List.length_append];rfl
    have h3:=IH q (pre ++ [false]) ns root (by omega) (by omega) (by omega)
    rw [e1,show zCi (pre ++ [false])=zCi pre from by rw [zGW];rfl] at h3
    have l1:=zFF (val:=fun b=>valR vs b r) (vs:=vs) n (pre ++ [false]) ns
    generalize ha:bld (fun b=>valR vs b r) vs n (pre ++ [false]) ns=A at h3 l1
    have k3:=IH q (pre ++ [true]) A.2 root (by omega) (by omega) (by omega)
    rw [e2] at k3
    have l2:=zFF (val:=fun b=>valR vs b r) (vs:=vs) n (pre ++ [true]) A.2
    generalize hb2:bld (fun b=>valR vs b r) vs n (pre ++ [true]) A.2=B at k3 l2
    rw [bld,ha,hb2,zBE]
    rw [show ((pre.length:Int)==(vs.length:Int))=false from beq_false_of_ne (by omega),cond_false,zBn,ck_t (zDC (by omega)),h3,zAS,ck_t (zDC (by omega)),zKM (by omega),ck_t (decide_eq_true (by omega:(0:Int)≤(pre.length:Int)))]
    dsimp only
    rw [k3,zAS]
    dsimp only
    cases A.1==B.1 with
    | true=>rw [cond_true,cond_true]
    | false=>
      rw [cond_false,cond_false,ck_t (zBe hpl),ck_t (zBe hpl),zLW (zBe hpl) (by show B.2.length<fu;omega) (by show B.2.length≤1000;omega),zAS]
      unfold putN
      dsimp only
      cases ixI 0 (B.2.map fun y=>((gtD vs (pre.length:Int)).1,(gtD vs (pre.length:Int)).2.1,A.1,B.1)==y) with
      | some i=>rfl
      | none=>
        dsimp only
        rw [zId,ck_t (zEn (by simp;omega)),ck_t (zCY (by omega) (by simp;omega))]
        congr 2
        rw [List.length_append,List.length_singleton]
        omega
end Go.Proofs.Ytmkgocdgkdglnaa
namespace Go.Proofs.Ytmkgocdgkdglnaa
open Go.RowKit
set_option linter.unusedVariables false
set_option linter.unusedSimpArgs false
abbrev DgT:=Int × List DN
def diaR (r:LRu):DgT:=bld (fun b=>valR (varL r) b r) (varL r) (varL r).length [] []
def diaL (r:LRu):DgT × Bool:=bif rsB r then (diaR r,true) else ((0,[]),false)
theorem pow9 {n:Nat} (h:n≤9):2 ^ n≤512:=by
  have:=Nat.pow_le_pow_right (n:=2) (by omega) h
  omega
theorem zKR {r:LRu} (hv:rsB r=true):(diaR r).2.length≤511:=by
  have ok:=zIS hv
  have h:=zFF (val:=fun b=>valR (varL r) b r) (vs:=varL r) (varL r).length [] []
  have:=pow9 ok.len
  unfold diaR
  simp only [List.length_nil] at h
  omega
theorem zLD {fu:Nat} {r:LRu} (hf:1048577≤fu) (hr:RsOK r):zBQ fu r=some (diaL r):=by
  unfold zBQ diaL
  rw [zHC hf hr,zAS]
  cases hv:rsB r with
  | false=>rfl
  | true=>
    have ok:=zIS hv
    have hl:=ok.len
    have h:=zLc hf ok (varL r).length fu [] [] 0 (by simp) (by omega) (by have:=pow9 hl;simp only [List.length_nil];omega)
    have h':zBE fu fu r (varL r) (0:Int) (0:Int) ((0:Int),([]:List DN))=_:=h
    rw [Bool.not_true,cond_false,zK4 hf hr,zAS,h',zAS,cond_true]
    rfl
theorem zLV {fu:Nat} {r:LRu} (hf:1048577≤fu) (hr:RsOK r):zBB fu r=some (diaL r):=by
  unfold zBB diaL
  rw [zIz hf hr,zAS]
  cases hv:rsB r with
  | false=>rfl
  | true=>
    have ok:=zIS hv
    have hl:=ok.len
    obtain ⟨bs,h1,_,h2⟩:=zLe hf ok (varL r).length fu [] (List.replicate ((varL r).length:Int).toNat false) [] (by simp) (by omega) (by simp) (by simp) (by have:=pow9 hl;simp only [List.length_nil];omega)
    have h':zAu fu fu (r,varL r,List.replicate ((varL r).length:Int).toNat false,([]:List DN)) (0:Int)=_:=h2
    rw [Bool.not_true,cond_false,zJp hf hr,zAS,ck_t (zKx (by omega)),h',zAS,cond_true]
    rfl
theorem zGM {a0:LRu} (h0:(qS (qS (qP qI (qP qI qT)))) a0) (hw:zC0 a0≤1048576):∃ r:DgT × Bool,zBQ 1048577 a0=some r∧zBB 1048577 a0=some r∧zCb r.1≤1048576:=by
  have hr:=zMQ hw
  refine ⟨_,zLD (Nat.le_refl _) hr,zLV (Nat.le_refl _) hr,?_⟩
  unfold zCb zBS
  rw [zK1 (f:=zBN) (fun _=>rfl)]
  unfold diaL
  cases hv:rsB a0
  · exact Nat.zero_le _
  · have := zKR hv
    rw [cond_true]
    show (diaR a0).2.length≤_
    omega
end Go.Proofs.Ytmkgocdgkdglnaa
