/- Own texts laid together. No statement of the seat is proved here. -/
import Derived.Test.YtldppodfhabkjaaGreatDoorZc5
import Derived.Lib.SplitLaws
import Derived.Lib.Replace
namespace Go.Proofs.YtldppodfhabkjaaGreatDoor
open Go.RowKit
set_option linter.unusedVariables false
set_option linter.unusedSimpArgs false
def spC (c : UInt8) : List UInt8 → List (List UInt8)
  | []=>[[]]
  | b :: s => if b = c then [] :: spC c s else match spC c s with
    | []=>[[b]]
    | x::xs=>(b::x)::xs
theorem zK6 (c:UInt8) (s:List UInt8):spC c s ≠ []:=by
  cases s with
  | nil=>simp [spC]
  | cons b s=>
    unfold spC
    split
    · simp
    · cases spC c s <;> simp
theorem zKG {c : UInt8} : ∀ {s : List UInt8}, c ∉ s → spC c s = [s]
  | [],_=>rfl
  | b::s,h=>by
    have h1:b ≠ c:=fun e=>h (e ▸ List.mem_cons_self)
    have h2:=zKG (c:=c) (s:=s) fun h'=>h (List.mem_cons_of_mem _ h')
    unfold spC
    rw [if_neg h1,h2]
theorem zL7 {c : UInt8} : ∀ {x s : List UInt8}, c ∉ x → spC c (x ++ c :: s) = x :: spC c s
  | [],s,_=>by
    show spC c (c::s)=_
    rw [spC,if_pos rfl]
  | b::x,s,h=>by
    have h1:b ≠ c:=fun e=>h (e ▸ List.mem_cons_self)
    have h2:=zL7 (c:=c) (x:=x) (s:=s) fun h'=>h (List.mem_cons_of_mem _ h')
    rw [List.cons_append,spC,if_neg h1,h2]
theorem zIr (c : UInt8) : ∀ s : List UInt8, (spC c s).length ≤ s.length + 1
  | []=>Nat.le_refl _
  | b::s=>by
    have:=zIr c s
    unfold spC
    split
    · simp only [List.length_cons];omega
    · cases h : spC c s with
      | nil=>simp
      | cons x xs=>rw [h] at this;simp only [List.length_cons] at this ⊢;omega
theorem zIi (c : UInt8) : ∀ s : List UInt8, ∀ x ∈ spC c s, x.length ≤ s.length
  | [],x,hx=>by rw [spC] at hx;rw [List.mem_singleton.1 hx];exact Nat.le_refl _
  | b::s,x,hx=>by
    unfold spC at hx
    split at hx
    · rcases List.mem_cons.1 hx with rfl | hx
      · exact Nat.zero_le _
      · exact Nat.le_succ_of_le (zIi c s x hx)
    · cases h : spC c s with
      | nil=>exact absurd h (zK6 c s)
      | cons y ys=>
        rw [h] at hx
        rcases List.mem_cons.1 hx with rfl | hx
        · have := zIi c s y (by rw [h]; exact List.mem_cons_self)
          simp only [List.length_cons];omega
        · have := zIi c s x (by rw [h]; exact List.mem_cons_of_mem _ hx)
          simp only [List.length_cons];omega
theorem zIN {t:List UInt8} {i:Nat} {c:UInt8} (h:t[i]? = some c):bAt t (i:Int)=(c.toNat:Int):=by
  unfold bAt
  simp [List.getD_eq_getElem?_getD,h]
theorem zMl {s:List UInt8} {a b:Nat}:subL s (a:Int) (b:Int)=(s.drop a).take (b-a):=by simp [subL]
theorem zMm {fu : Nat} {s : List UInt8} {c : UInt8} (hs : s.length ≤ 1048576) : ∀ m i a k (acc : List (List UInt8)), i + m = s.length → m < k → a ≤ i → acc.length ≤ i → c ∉ (s.drop a).take (i - a) →
    ∃ q:Nat × List (List UInt8),zC4 fu s (c.toNat:Int) k (a:Int) (i:Int) acc=some ((q.1:Int),q.2)∧q.1≤s.length∧q.2.length≤s.length∧q.2 ++ [s.drop q.1]=acc++spC c (s.drop a):=by
  intro m
  induction m with
  | zero=>
    intro i a k acc hi hk ha hacc hn
    obtain ⟨k,rfl⟩:∃ z,k=z+1:=⟨k-1,by omega⟩
    obtain rfl:i=s.length:=by omega
    refine ⟨(a,acc),by rw [zC4,lt_f];rfl,ha,hacc,?_⟩
    rw [List.take_of_length_le (by simp)] at hn
    rw [zKG hn]
  | succ m ih=>
    intro i a k acc hi hk ha hacc hn
    obtain ⟨k,rfl⟩:∃ z,k=z+1:=⟨k-1,by omega⟩
    have hlt:i<s.length:=by omega
    have hx:=List.getElem?_eq_getElem hlt
    have hdrop:s.drop a=(s.drop a).take (i-a)++s[i]::s.drop (i+1):=by
      have h1:(s.drop a).drop (i-a)=s[i]::s.drop (i+1):=by
        rw [List.drop_drop,show a+(i-a)=i by omega]
        exact List.drop_eq_getElem_cons hlt
      rw [← h1,List.take_append_drop]
    rw [zC4,lt_t hlt,cond_true,ck_t (zB9 hlt),zIN hx]
    by_cases hc:s[i]=c
    · have e : ((s[i].toNat : Int) == (c.toNat : Int)) = true := by rw [hc]; simp
      obtain ⟨q,h1,h2,h3,h4⟩:=ih (i+1) (i+1) k (acc ++ [(s.drop a).take (i-a)]) (by omega) (by omega) (Nat.le_refl _) (by simp;omega) (by simp)
      refine ⟨q,?_,h2,h3,?_⟩
      · rw [e, cond_true, ck_t (zBN.2 ⟨by omega, by omega, by omega⟩), ck_t (zAb (by simp; omega)), ck_t (zCU (by omega)), ck_t (zCU (by omega)), zAt, zMl]
        exact h1
      · have e3 := congrArg (spC c) hdrop
        rw [hc,zL7 hn] at e3
        rw [h4,e3,List.append_assoc]
        rfl
    · have e:((s[i].toNat:Int)==(c.toNat:Int))=false:=by
        rw [beq_eq_false_iff_ne]
        intro h
        exact hc (UInt8.toNat_inj.1 (by omega))
      obtain ⟨q, h1, h2, h3, h4⟩ := ih (i + 1) a k acc (by omega) (by omega) (by omega) (by omega) (by
        have ht:(s.drop a).take (i+1-a)=(s.drop a).take (i-a) ++ [s[i]]:=by
          rw [show i+1-a=(i-a)+1 by omega,List.take_add_one,List.getElem?_drop,show a+(i-a)=i by omega,hx]
          rfl
        rw [ht]
        intro h
        rcases List.mem_append.1 h with h | h
        · exact hn h
        · exact hc (List.mem_singleton.1 h).symm)
      refine ⟨q,?_,h2,h3,h4⟩
      rw [e,cond_false,ck_t (zCU (by omega)),zAt]
      exact h1
theorem zNx {fu:Nat} {s:List UInt8} {c:UInt8} (hf:1048577≤fu) (hs:s.length≤1048576):zDF fu s (c.toNat:Int)=some (spC c s):=by
  obtain ⟨q,h1,h2,h3,h4⟩:=zMm (fu:=fu) (c:=c) hs s.length 0 0 fu [] (by omega) (by omega) (Nat.le_refl _) (Nat.zero_le _) (by simp)
  unfold zDF
  have e:subL s (q.1:Int) (s.length:Int)=s.drop q.1:=by
    unfold subL
    exact List.take_of_length_le (by simp only [List.length_drop];omega)
  rw [show (0:Int)=((0:Nat):Int) from rfl,h1,zA6]
  dsimp only
  rw [ck_t (zBN.2 ⟨by omega,by omega,by omega⟩),e,ck_t (zAb (by simp;omega)),h4]
  simp
theorem zJX {b c:UInt8} {l:List UInt8} (h:b ≠ c):Lib.index (b::l) [c]=if Lib.index l [c] == -1 then -1 else Lib.index l [c]+1:=by
  have hp:([c]:List UInt8).isPrefixOf (b::l)=false:=by simp [List.isPrefixOf,Ne.symm h]
  rw [Lib.index,hp]
  simp
end Go.Proofs.YtldppodfhabkjaaGreatDoor
namespace Go.Proofs.YtldppodfhabkjaaGreatDoor
open Go.RowKit
set_option linter.unusedVariables false
set_option linter.unusedSimpArgs false
theorem zBx (s:List UInt8):(bytL s).length=s.length:=by simp [bytL]
theorem zDl (s:List UInt8):strB (bytL s)=s:=by
  unfold strB bytL
  rw [List.map_map]
  have:((fun n:Int=>UInt8.ofNat n.toNat) ∘ fun b:UInt8=>(b.toNat:Int))=id:=by
    funext b
    show UInt8.ofNat ((b.toNat:Int)).toNat=b
    rw [Int.toNat_natCast]
    exact UInt8.ofNat_toNat
  rw [this,List.map_id]
theorem zDK (s t:List UInt8):bytL s++bytL t=bytL (s++t):=by simp [bytL]
theorem zEj (c:UInt8):([(c.toNat:Int)]:List Int)=bytL [c]:=rfl
theorem zKD {s:List UInt8} {i:Nat} {c:UInt8} (h:s[i]? = some c):gtD (bytL s) (i:Int)=(c.toNat:Int):=zAq (by simp [bytL,h])
theorem zF0 {σ ρ:Type} {L:Nat→Int→σ→Option ρ} {n:Nat} {r:ρ} (St:Nat→σ) (hs:∀ k i,i<n→L (k+1) (i:Int) (St i)=L k ((i+1:Nat):Int) (St (i+1))) (he:∀ k,L (k+1) (n:Int) (St n)=some r) {fu:Nat} (hf:n<fu):L fu (0:Int) (St 0)=some r:=by
  have key:∀ m i k,i+m=n→m<k→L k ((i:Nat):Int) (St i)=some r:=by
    intro m
    induction m with
    | zero=>
      intro i k hi hk
      obtain ⟨k,rfl⟩:∃ q,k=q+1:=⟨k-1,by omega⟩
      obtain rfl:i=n:=by omega
      exact he k
    | succ m ih=>
      intro i k hi hk
      obtain ⟨k,rfl⟩:∃ q,k=q+1:=⟨k-1,by omega⟩
      rw [hs k i (by omega)]
      exact ih (i+1) k (by omega) (by omega)
  exact key n 0 fu (by omega) hf
theorem zEv {α σ:Type} {g:σ→α→σ} {a:σ} {s:List α} {i:Nat} {c:α} (h:s[i]? = some c):(s.take (i+1)).foldl g a=g ((s.take i).foldl g a) c:=by
  rw [List.take_add_one,h]
  simp
theorem zGJ {α σ:Type} {g:σ→α→σ} {a:σ} (s:List α):(s.take s.length).foldl g a=s.foldl g a:=by rw [List.take_length]
theorem zK8 {fu:Nat} {s:List UInt8} {F:Int→Option Int} {f:UInt8→UInt8} (hF:∀ c ∈ s,F (c.toNat:Int)=some ((f c).toNat:Int)) (hf:s.length<fu) (hl:s.length≤1048576):zDM fu s F=some (s.map f):=by
  unfold zDM
  have h:=zF0 (L:=zCD fu s F) (n:=s.length) (r:=bytL (s.map f)) (fun i=>bytL ((s.take i).map f++s.drop i)) (fun k i hi=>by
    have hx:=List.getElem?_eq_getElem hi
    have hlen:((s.take i).map f++s.drop i).length=s.length:=by simp;omega
    have hg:((s.take i).map f++s.drop i)[i]? = some s[i]:=by
      rw [List.getElem?_append_right (by simp;omega)]
      simp [Nat.min_eq_left (Nat.le_of_lt hi),hx]
    have hset0:((s.take i).map f++s.drop i).set i (f s[i])=(s.take (i+1)).map f++s.drop (i+1):=by
      rw [List.drop_eq_getElem_cons hi,List.set_append_right _ _ (by simp;omega)]
      have h0:i-((s.take i).map f).length=0:=by simp;omega
      rw [h0,List.set_cons_zero,List.take_add_one,hx,List.map_append,List.append_assoc]
      rfl
    have hset:(bytL ((s.take i).map f++s.drop i)).set i ((f s[i]).toNat:Int)=bytL ((s.take (i+1)).map f++s.drop (i+1)):=by
      rw [← hset0]
      unfold bytL
      exact List.map_set.symm
    rw [zCD,zBx,lt_t hi,cond_true]
    rw [ck_t (zB9 (by rw [zBx,hlen];exact hi)),zKD hg,hF _ (List.getElem_mem hi),zA6,ck_t (zB9 (by rw [zBx,hlen];exact hi)),zAt,ck_t (zCZ (by omega)),Int.toNat_natCast,hset]) (fun k=>by
    rw [zCD,zBx,lt_f,cond_false]
    simp) hf
  rw [List.take_zero,List.drop_zero,List.map_nil,List.nil_append] at h
  rw [ck_t (zAb (by omega)),h,zA6,zDl]
def fld (c:UInt8):UInt8:=UInt8.ofNat (zIF c.toNat).toNat
theorem zNk (c:UInt8):((fld c).toNat:Int)=zIF c.toNat:=by
  have hc:c.toNat<256:=c.toNat_lt
  unfold fld zIF cpI
  by_cases h:(65:Int)≤(c.toNat:Int)∧(c.toNat:Int)≤90
  · rw [decide_eq_true h.1, decide_eq_true h.2]
    simp only [Bool.and_self,cond_true]
    rw [UInt8.toNat_ofNat']
    omega
  · have:(decide ((65:Int)≤(c.toNat:Int))&&decide ((c.toNat:Int)≤90))=false:=by
      rw [Bool.and_eq_false_iff,decide_eq_false_iff_not,decide_eq_false_iff_not]
      omega
    rw [this,cond_false,UInt8.toNat_ofNat']
    omega
theorem zI8 {fu:Nat} {s:List UInt8} (hf:s.length<fu) (hl:s.length≤1048576):zCj fu s=some (s.map fld):=by
  unfold zCj
  rw [zK8 (f:=fld) (fun c _=>?_) hf hl,zA6]
  have hc:c.toNat<256:=c.toNat_lt
  rw [zNk]
  unfold zDL zIF cpI
  rw [zCm]
  by_cases h:(65:Int)≤(c.toNat:Int)∧(c.toNat:Int)≤90
  · rw [decide_eq_true h.1, decide_eq_true h.2]
    simp only [Bool.and_self,cond_true]
    rw [zJg _ (by omega) (by omega)]
  · have:(decide ((65:Int)≤(c.toNat:Int))&&decide ((c.toNat:Int)≤90))=false:=by
      rw [Bool.and_eq_false_iff,decide_eq_false_iff_not,decide_eq_false_iff_not]
      omega
    rw [this,cond_false,cond_false]
theorem zGg {fu:Nat} {s:List UInt8} (hf:s.length<fu) (hl:s.length≤1048576):zBy fu s=some (s.map fld):=zOM hf hl
theorem zOK (c : UInt8) : ∀ s : List UInt8, Lib.replaceK [c] [] (Lib.count s [c]) s = s.filter fun b => b != c
  | []=>by rw [Lib.count_one];rfl
  | b::l=>by
    have ih:=zOK c l
    by_cases h:b=c
    · subst h
      rw [Lib.count_cons_eq,Nat.add_comm,Lib.replaceK,show Lib.index (b::l) [b]=0 by rw [Lib.index];simp [List.isPrefixOf],if_neg (by decide),List.filter_cons]
      simpa using ih
    · rw [Lib.count_cons_ne b c l h, List.filter_cons, if_pos (by simpa using h), ← ih]
      cases hk:Lib.count l [c] with
      | zero=>rfl
      | succ k=>
        have hm:Lib.index l [c] ≠ -1:=fun hm=>by rw [Lib.count_miss hm] at hk;cases hk
        have hge:=Lib.index_ge l [c]
        obtain ⟨j,hj⟩:∃ j:Nat,Lib.index l [c]=j:=⟨(Lib.index l [c]).toNat,by omega⟩
        have e2:((j:Int)+1).toNat=j+1:=by omega
        rw [Lib.replaceK,zJX h,hj,if_neg (by simp;omega),if_neg (by simp),e2,Lib.replaceK,hj,if_neg (by simp)]
        simp
theorem zNP (c:UInt8) (s:List UInt8):Lib.replaceAll s [c] []=s.filter fun b=>b != c:=by
  unfold Lib.replaceAll Lib.replace Lib.replaceNum
  rw [if_neg (by simp),if_pos (.inl (by decide)),zOK]
def wdB (c:UInt8):Bool:=wdI c.toNat
def mkC (c:UInt8):UInt8:=bif wdB c then c else 32
def strL (s:List UInt8):List UInt8:=(s.filter fun b=>b != 39).map mkC
theorem zNf {fu:Nat} {c:UInt8}:zCh fu (c.toNat:Int)=some (wdB c):=by
  unfold zCh zCa zD2 wdB wdI smI cpI dgI
  simp only [zCm,zA6,zOf]
  generalize (decide ((97:Int)≤(c.toNat:Int))&&decide ((c.toNat:Int)≤122))=a
  generalize (decide ((65:Int)≤(c.toNat:Int))&&decide ((c.toNat:Int)≤90))=b
  generalize (decide ((48:Int)≤(c.toNat:Int))&&decide ((c.toNat:Int)≤57))=d
  cases a <;> cases b <;> cases d <;> rfl
theorem zNn {fu:Nat} {c:UInt8}:zDw fu (c.toNat:Int)=some (wdB c):=by
  unfold zDw wdB wdI smI cpI dgI
  rfl
theorem zJt {fu:Nat} {s:List UInt8} (hf:s.length<fu) (hl:s.length≤1048576):zCf fu s=some (strL s):=by
  have hle:=List.length_filter_le (fun b:UInt8=>b != 39) s
  unfold zCf zFP
  rw [zNP,ck_t (by simp;omega),zA6,zK8 (f:=mkC) (fun c _=>?_) (by omega) (by omega),zA6]
  · rfl
  · unfold zCl mkC
    rw [zNf,zA6]
    cases wdB c <;> rfl
theorem zIt {c d:UInt8} (h:c ≠ d):(((c.toNat:Int))==(d.toNat:Int))=false:=by
  rw [beq_eq_false_iff_ne]
  intro e
  exact h (UInt8.toNat_inj.1 (by omega))
def stG (a:List UInt8) (c:UInt8):List UInt8:=bif c != 39 then a ++ [mkC c] else a
theorem zIj : ∀ (s a : List UInt8), s.foldl stG a = a ++ strL s
  | [],a=>by simp [strL]
  | c::s,a=>by
    rw [List.foldl_cons,zIj s]
    unfold stG strL
    rw [List.filter_cons]
    cases h:c != 39 <;> simp
theorem zJv {fu:Nat} {s:List UInt8} (hf:s.length<fu) (hl:s.length≤1048576):zCi fu s=some (strL s):=by
  unfold zCi
  have hlen:∀ i,i≤s.length→((s.take i).foldl stG []).length≤i:=fun i hi=>by
    rw [zIj,List.nil_append]
    unfold strL
    rw [List.length_map]
    have:=List.length_filter_le (fun b:UInt8=>b != 39) (s.take i)
    rw [List.length_take] at this
    omega
  have h:=zF0 (L:=zAv fu s) (n:=s.length) (r:=bytL (s.foldl stG [])) (fun i=>bytL ((s.take i).foldl stG [])) (fun k i hi=>by
    have hx:=List.getElem?_eq_getElem hi
    have hil:=hlen i (by omega)
    generalize hc:s[i]=c at hx
    rw [zAv,lt_t hi,cond_true,zEv hx,ck_t (zB9 hi),zEL hx,zNn,zA6]
    generalize (s.take i).foldl stG []=o at hil ⊢
    have hl1:∀ (l:List Int),l.length=1→zBE ((bytL o).length+l.length)=true:=fun l hl=>zAb (by rw [zBx,hl];omega)
    rw [hl1 _ rfl,hl1 _ rfl]
    simp only [zB9 hi,Bool.or_true,zD5,zCm,zAt,zCZ (show i≤4294967296 by omega)]
    by_cases h32:c=32
    · subst h32
      have hw:(wdB 32 || (((UInt8.toNat 32:Nat):Int)==(32:Int)))=true:=by decide
      rw [hw,cond_true,zEj,zDK]
      rfl
    · have e32 : (((c.toNat : Int)) == (32 : Int)) = false := zIt (d := 32) h32
      rw [e32,Bool.or_false]
      cases hw:wdB c with
      | true=>
        have h39:c ≠ 39:=fun e=>by subst e;exact absurd hw (by decide)
        have:(c != 39)=true:=by simpa using h39
        rw [cond_true,zEj,zDK]
        unfold stG mkC
        rw [this,hw,cond_true,cond_true]
      | false=>
        rw [cond_false]
        by_cases h39:c=39
        · subst h39
          rfl
        · have e39:(((c.toNat:Int)) != (39:Int))=true:=by
            have:=zIt (d:=39) h39
            show (!(((c.toNat:Int))==(((39:UInt8).toNat:Nat):Int)))=true
            rw [this]
            rfl
          have:(c != 39)=true:=by simpa using h39
          rw [e39,cond_true,show ([(32:Int)]:List Int)=bytL [32] from rfl,zDK]
          unfold stG mkC
          rw [this,hw,cond_true,cond_false]) (fun k=>by rw [zAv,lt_f,cond_false,zGJ]) hf
  rw [show (([]:List Int))=bytL ((s.take 0).foldl stG []) from rfl,h,zA6,zDl,zIj,List.nil_append]
def coS (o:List UInt8 × Bool) (c:UInt8):List UInt8 × Bool:=bif c==32 then (o.1,true) else ((bif !o.1.isEmpty&&o.2 then o.1 ++ [32] else o.1) ++ [c],false)
def coT (o:List UInt8 × Bool):List UInt8:=bif !o.1.isEmpty&&o.2 then o.1 ++ [32] else o.1
def colL (s:List UInt8):List UInt8:=(s.foldl coS ([],false)).1
theorem zKe {o:List UInt8 × Bool} {c:UInt8} (h:(c==32)=true):coS o c=(o.1,true):=by unfold coS;rw [h];rfl
theorem zKh {o:List UInt8 × Bool} {c:UInt8} (h:(c==32)=false):coS o c=(coT o ++ [c],false):=by unfold coS coT;rw [h];rfl
theorem zLm (o:List UInt8 × Bool):(coT o).length≤o.1.length+1:=by
  unfold coT
  cases (!o.1.isEmpty&&o.2)
  · rw [cond_false];omega
  · rw [cond_true,List.length_append,List.length_singleton];omega
theorem zKQ (s:List UInt8):∀ i,i≤s.length→((s.take i).foldl coS ([],false)).1.length≤2*i:=by
  intro i
  induction i with
  | zero=>intro _;exact Nat.zero_le _
  | succ i ih=>
    intro hi
    have:=ih (by omega)
    rw [zEv (List.getElem?_eq_getElem (show i<s.length by omega))]
    generalize (s.take i).foldl coS ([],false)=o at this ⊢
    have h2:=zLm o
    cases h:s[i]==32
    · rw [zKh h]
      dsimp only
      rw [List.length_append,List.length_singleton]
      omega
    · rw [zKe h]
      dsimp only
      omega
theorem zNO (s:List UInt8) {i:Nat} (hi:i<s.length):((s.take (i+1)).foldl coS ([],false)).2=(s[i]==32):=by
  rw [zEv (List.getElem?_eq_getElem hi)]
  generalize (s.take i).foldl coS ([],false)=o
  cases h:s[i]==32
  · rw [zKh h]
  · rw [zKe h]
theorem zLa (s:List UInt8):∀ i,i≤s.length→((s.take i).foldl coS ([],false)).1 = []∨∃ l c,((s.take i).foldl coS ([],false)).1=l ++ [c]∧(c==32)=false:=by
  intro i
  induction i with
  | zero=>intro _;exact .inl rfl
  | succ i ih=>
    intro hi
    have:=ih (by omega)
    rw [zEv (List.getElem?_eq_getElem (show i<s.length by omega))]
    generalize (s.take i).foldl coS ([],false)=o at this ⊢
    cases h:s[i]==32
    · rw [zKh h]
      exact .inr ⟨_,_,rfl,h⟩
    · rw [zKe h]
      exact this
theorem e32 {c:UInt8}:(((c.toNat:Int))==(32:Int))=(c==32):=by
  by_cases h:c=32
  · subst h;rfl
  · exact (show (((c.toNat:Int))==(32:Int))=false from zIt (d:=32) h).trans (beq_eq_false_iff_ne.2 h).symm
theorem ne32 {c:UInt8}:(((c.toNat:Int)) != (32:Int)) = !(c==32):=by rw [← e32];rfl
theorem zLy (l:List UInt8):decide ((0:Int)<((bytL l).length:Int)) = !l.isEmpty:=by
  rw [zBx]
  cases l with
  | nil=>rfl
  | cons a l=>exact decide_eq_true (by simp)
theorem zLp {fu:Nat} {s:List UInt8} (hf:s.length<fu) (hl:s.length≤1048576):zC3 fu s=some (colL s):=by
  unfold zC3
  have h:=zF0 (L:=zAe fu s) (n:=s.length) (r:=bytL (s.foldl coS ([],false)).1) (fun i=>bytL ((s.take i).foldl coS ([],false)).1) (fun k i hi=>by
    have hx:=List.getElem?_eq_getElem hi
    have hil:=zKQ s i (by omega)
    have hpv:∀ j,i=j+1→((s.take i).foldl coS ([],false)).2=(s[j]! == 32):=fun j hj=>by subst hj;rw [zNO s (by omega),getElem!_pos s j (by omega)]
    have hz:i=0→((s.take i).foldl coS ([],false)).1 = []:=fun h0=>by subst h0;rfl
    generalize hc:s[i]=c at hx
    rw [zAe,lt_t hi,cond_true,zEv hx,ck_t (zB9 hi),zEL hx]
    generalize (s.take i).foldl coS ([],false)=o at hil hpv hz ⊢
    have hl1:∀ (l:List Int),l.length=1→zBE ((bytL o.1).length+l.length)=true:=fun l hl=>zAb (by rw [zBx,hl];omega)
    have hl2:∀ (l m:List Int),l.length=1→m.length=1→zBE ((bytL o.1++l).length+m.length)=true:=fun l m h1 h2=>zAb (by rw [List.length_append,zBx,h1,h2];omega)
    rw [hl1 _ rfl,hl1 _ rfl,hl2 _ _ rfl rfl,ne32,zLy]
    simp only [zB9 hi,zD5,zCm,zAt,zCZ (show i≤4294967296 by omega)]
    cases h32:c==32 with
    | true=>
      rw [zKe h32]
      rfl
    | false=>
      rw [zKh h32]
      cases ho:o.1.isEmpty with
      | true=>
        have:o.1 = []:=List.isEmpty_iff.1 ho
        unfold coT
        rw [ho,this]
        rfl
      | false=>
        have hi0:i ≠ 0:=fun h0=>by rw [hz h0] at ho;cases ho
        obtain ⟨j,rfl⟩:∃ j,i=j+1:=⟨i-1,by omega⟩
        have hj:=List.getElem?_eq_getElem (show j<s.length by omega)
        have hp:=hpv j rfl
        rw [getElem!_pos s j (by omega)] at hp
        simp only [zO6,zB9 (show j<s.length by omega),zLn j (by omega),zEL hj,e32,Bool.or_true,zD5,← hp,Bool.not_false,Bool.true_and,cond_true]
        unfold coT
        rw [ho]
        cases o.2
        · simp only [cond_false, Bool.and_false]
          rw [zEj,zDK]
        · simp only [cond_true, cond_false, Bool.not_false, Bool.and_true]
          rw [zEj,show ([(32:Int)]:List Int)=bytL [32] from rfl,zDK,zDK]) (fun k=>by rw [zAe,lt_f,cond_false,zGJ]) hf
  rw [show (([]:List Int))=bytL ((s.take 0).foldl coS ([],false)).1 from rfl,h,zA6,zDl]
  rfl
theorem zND {l:List UInt8} {c:UInt8}:gtD (bytL (l ++ [c])) (((bytL (l ++ [c])).length:Int)-1)=(c.toNat:Int):=by
  rw [zBx,List.length_append,List.length_singleton,show (((l.length+1:Nat):Int))-1=((l.length:Nat):Int) by omega]
  exact zKD (by simp)
theorem zOo {l:List UInt8} (h:l ≠ []):inR (((bytL l).length:Int)-1) (bytL l).length=true:=by
  have:0<l.length:=List.length_pos_iff.2 h
  rw [zBx]
  exact zMs (by omega) (by omega)
theorem zMg {fu:Nat} {l:List UInt8} (hl:l.length≤4194304):zBM fu (l ++ [32]) ([32]:List UInt8)=some l:=by
  unfold zBM zAn zAr
  have e1:(((l ++ [32]:List UInt8).length:Nat):Int)-((([32]:List UInt8).length:Nat):Int)=((l.length:Nat):Int):=by simp
  have e2:subL (l ++ [32]:List UInt8) (l.length:Int) (((l ++ [32]:List UInt8).length:Nat):Int) = [32]:=by simp [subL]
  have e3:subL (l ++ [32]:List UInt8) 0 (l.length:Int)=l:=by simp [subL]
  have e4:decide (((([32]:List UInt8).length:Nat):Int)≤(((l ++ [32]:List UInt8).length:Nat):Int))=true:=decide_eq_true (by simp;omega)
  simp only [e1,e2,e3,e4,zLn l.length (by omega),Bool.or_true,zD5,zCm,zA6,zBN.2 (show (0:Int)≤(l.length:Int)∧(l.length:Int)≤(((l ++ [32]:List UInt8).length:Nat):Int)∧(((l ++ [32]:List UInt8).length:Nat):Int)≤(((l ++ [32]:List UInt8).length:Nat):Int) from ⟨by omega,by simp;omega,Int.le_refl _⟩),zBN.2 (show (0:Int)≤(0:Int)∧(0:Int)≤(l.length:Int)∧(l.length:Int)≤(((l ++ [32]:List UInt8).length:Nat):Int) from ⟨by omega,by omega,by simp;omega⟩)]
  rfl
theorem zLW {fu:Nat} {l:List UInt8} {c:UInt8} (h:(c==32)=false) (hl:l.length≤4194304):zBM fu (l ++ [c]) ([32]:List UInt8)=some (l ++ [c]):=by
  unfold zBM zAn zAr
  have e1:(((l ++ [c]:List UInt8).length:Nat):Int)-((([32]:List UInt8).length:Nat):Int)=((l.length:Nat):Int):=by simp
  have e2:subL (l ++ [c]:List UInt8) (l.length:Int) (((l ++ [c]:List UInt8).length:Nat):Int) = [c]:=by simp [subL]
  have e4:decide (((([32]:List UInt8).length:Nat):Int)≤(((l ++ [c]:List UInt8).length:Nat):Int))=true:=decide_eq_true (by simp;omega)
  have e5:(([c]:List UInt8) == [32])=false:=by simpa using h
  simp only [e1,e2,e4,e5,zLn l.length (by omega),Bool.or_true,zD5,zCm,zA6,zBN.2 (show (0:Int)≤(l.length:Int)∧(l.length:Int)≤(((l ++ [c]:List UInt8).length:Nat):Int)∧(((l ++ [c]:List UInt8).length:Nat):Int)≤(((l ++ [c]:List UInt8).length:Nat):Int) from ⟨by omega,by simp;omega,Int.le_refl _⟩)]
  rfl
theorem zLY {fu:Nat} {s:List UInt8} (hf:s.length<fu) (hl:s.length≤1048576):zC0 fu s=some (colL s):=by
  unfold zC0
  have h:=zF0 (L:=zAl fu s) (n:=s.length) (r:=bytL (coT (s.foldl coS ([],false)))) (fun i=>bytL (coT ((s.take i).foldl coS ([],false)))) (fun k i hi=>by
    have hx:=List.getElem?_eq_getElem hi
    have hil:=zKQ s i (by omega)
    have hla:=zLa s i (by omega)
    generalize hc:s[i]=c at hx
    rw [zAl,lt_t hi,cond_true,zEv hx,ck_t (zB9 hi),zEL hx]
    generalize (s.take i).foldl coS ([],false)=o at hil hla ⊢
    have hcl:=zLm o
    have hl1:∀ (l:List Int),l.length=1→zBE ((bytL (coT o)).length+l.length)=true:=fun l hl=>zAb (by rw [zBx,hl];omega)
    rw [hl1 _ rfl,ne32,zLy]
    simp only [zB9 hi,zD5,zCm,zAt,zCZ (show i≤4294967296 by omega)]
    have hb:i64B (((bytL (coT o)).length:Int)-1)=true:=zCP (by omega) (by rw [zBx];omega)
    rw [hb]
    simp only [Bool.or_true,zD5]
    cases h32:c==32 with
    | false=>
      rw [zKh h32]
      have e:coT (coT o ++ [c],false)=coT o ++ [c]:=by simp [coT]
      rw [e,← zDK,← zEj]
      simp [zD5]
    | true=>
      rw [zKe h32]
      rcases hla with h0 | ⟨l,d,h0,hd⟩
      · have e1 : coT o = [] := by unfold coT; rw [h0]; rfl
        have e2:coT (o.1,true) = []:=by unfold coT;rw [h0];rfl
        rw [e1,e2]
        rfl
      · have ho : o.1.isEmpty = false := by rw [h0]; simp
        have e2:coT (o.1,true)=o.1 ++ [32]:=by unfold coT;dsimp only;rw [ho];rfl
        have e0:(coT o).isEmpty=false:=by
          unfold coT
          rw [h0]
          cases (!(l ++ [d]).isEmpty&&o.2) <;> simp
        have hne:coT o ≠ []:=fun h=>by rw [h] at e0;cases e0
        rw [e0,e2,zOo hne]
        simp only [Bool.or_true,zD5,Bool.not_true,Bool.false_or,Bool.not_false,Bool.true_and]
        cases h2:o.2 with
        | true=>
          have e1:coT o=o.1 ++ [32]:=by unfold coT;rw [ho,h2];rfl
          rw [e1,zND]
          rfl
        | false=>
          have e1:coT o=o.1:=by unfold coT;rw [ho,h2];rfl
          rw [e1,h0,zND,ne32,hd]
          have:c=32:=by simpa using h32
          rw [this,zEj,zDK]
          rfl) (fun k=>by rw [zAl,lt_f,cond_false,zGJ]) hf
  rw [show (([]:List Int))=bytL (coT ((s.take 0).foldl coS ([],false))) from rfl,h,zA6,zDl]
  have hla:=zLa s s.length (Nat.le_refl _)
  have hil:=zKQ s s.length (Nat.le_refl _)
  rw [zGJ] at hla hil
  unfold colL
  generalize s.foldl coS ([],false)=o at hla hil ⊢
  rcases hla with h0 | ⟨l,d,h0,hd⟩
  · have e1 : coT o = [] := by unfold coT; rw [h0]; rfl
    rw [e1,h0]
    rfl
  · have hll : l.length ≤ 4194304 := by rw [h0, List.length_append] at hil; omega
    have ho:o.1.isEmpty=false:=by rw [h0];simp
    cases h2:o.2 with
    | true=>
      have e1:coT o=o.1 ++ [32]:=by unfold coT;rw [ho,h2];rfl
      rw [e1,zMg (by omega)]
      rfl
    | false=>
      have e1:coT o=o.1:=by unfold coT;rw [ho,h2];rfl
      rw [e1,h0,zLW hd hll]
      rfl
def nrmL (s:List UInt8):List UInt8:=colL (strL (s.map fld))
theorem zIq (s:List UInt8):(strL s).length≤s.length:=by
  unfold strL
  rw [List.length_map]
  exact List.length_filter_le _ _
theorem zKb {fu:Nat} {s:List UInt8} (hf:s.length<fu) (hl:s.length≤1048576):zCx fu s=some (nrmL s):=by
  have h1:=zIq (s.map fld)
  rw [List.length_map] at h1
  unfold zCx
  rw [zGg hf hl,zA6,zJv (by simpa using hf) (by simpa using hl),zA6,zLp (by omega) (by omega),zA6]
  rfl
theorem zKt {fu:Nat} {s:List UInt8} (hf:s.length<fu) (hl:s.length≤1048576):zCz fu s=some (nrmL s):=by
  have h1:=zIq (s.map fld)
  rw [List.length_map] at h1
  unfold zCz
  rw [zI8 hf hl,zA6,zJt (by simpa using hf) (by simpa using hl),zA6,zLY (by omega) (by omega),zA6]
  rfl
theorem zIm (s:List UInt8):(nrmL s).length≤2*s.length:=by
  have h1:=zIq (s.map fld)
  have h2:=zKQ (strL (s.map fld)) _ (Nat.le_refl _)
  rw [zGJ] at h2
  rw [List.length_map] at h1
  unfold nrmL colL
  omega
end Go.Proofs.YtldppodfhabkjaaGreatDoor
namespace Go.Proofs.YtldppodfhabkjaaGreatDoor
open Go.RowKit
set_option linter.unusedVariables false
structure Sto {α : Type} (lt : α → α → Bool) : Prop where
  irr:∀ a,lt a a=false
  tr:∀ a b c,lt a b=true→lt b c=true→lt a c=true
  tri:∀ a b,lt a b=false→lt b a=false→a=b
theorem zFx:Sto bLt:=⟨zI0,fun _ _ _=>zJC,fun _ _=>zL5⟩
section
variable {α:Type} {lt:α→α→Bool}
theorem Sto.asy (S:Sto lt) {a b:α} (h:lt a b=true):lt b a=false:=by
  cases hb:lt b a
  · rfl
  · have := S.tr a b a h hb
    rw [S.irr] at this
    cases this
theorem Sto.le_tr (S:Sto lt) {a b c:α} (h:lt b a=false) (k:lt c b=false):lt c a=false:=by
  cases hca:lt c a
  · rfl
  · cases hab : lt a b
    · have := S.tri a b hab h
      subst this
      rw [hca] at k
      cases k
    · have := S.tr c a b hca hab
      rw [this] at k
      cases k
abbrev zD3 (lt:α→α→Bool) (l:List α):Prop:=l.Pairwise fun a b=>lt a b=true
abbrev zHL (lt:α→α→Bool) (l:List α):Prop:=l.Pairwise fun a b=>lt b a=false
theorem zD3.w (S:Sto lt) {l:List α} (h:zD3 lt l):zHL lt l:=h.imp fun h=>S.asy h
theorem zG3 (S : Sto lt) : ∀ {l m : List α}, zD3 lt l → zD3 lt m → (∀ x, x ∈ l ↔ x ∈ m) → l = m
  | [],[],_,_,_=>rfl
  | [],b::m,_,_,h=>by have:=(h b).2 (List.mem_cons_self ..);cases this
  | a::l,[],_,_,h=>by have:=(h a).1 (List.mem_cons_self ..);cases this
  | a::l,b::m,hl,hm,h=>by
    obtain ⟨h1,h2⟩:=List.pairwise_cons.1 hl
    obtain ⟨h3,h4⟩:=List.pairwise_cons.1 hm
    have e:a=b:=by
      rcases List.mem_cons.1 ((h a).1 (List.mem_cons_self ..)) with e | e
      · exact e
      · rcases List.mem_cons.1 ((h b).2 (List.mem_cons_self ..)) with e' | e'
        · exact e'.symm
        · have := S.asy (h1 b e')
          rw [h3 a e] at this
          cases this
    subst e
    congr 1
    refine zG3 S h2 h4 fun x=>?_
    constructor
    · intro hx
      rcases List.mem_cons.1 ((h x).1 (List.mem_cons_of_mem _ hx)) with e | e
      · have := h1 x hx
        rw [e,S.irr] at this
        cases this
      · exact e
    · intro hx
      rcases List.mem_cons.1 ((h x).2 (List.mem_cons_of_mem _ hx)) with e | e
      · have := h3 x hx
        rw [e,S.irr] at this
        cases this
      · exact e
theorem zD3.nodup (S:Sto lt) {l:List α} (h:zD3 lt l):l.Nodup:=h.imp fun {a b} h e=>by subst e;rw [S.irr] at h;cases h
def zKZ (l:List α) (k:Nat) (x:α):List α:=l.take k++x::l.drop k
theorem zID (l:List α) (k:Nat) (x:α):(zKZ l k x).Perm (x::l):=by
  have:=(List.perm_middle (a:=x) (l₁:=l.take k) (l₂:=l.drop k))
  rwa [List.take_append_drop] at this
theorem zEI (l:List α) (k:Nat) (x:α):(zKZ l k x).length=l.length+1:=by simpa using (zID l k x).length_eq
theorem zLl {l:List α} {k:Nat} {x y:α}:y ∈ zKZ l k x ↔ y=x∨y ∈ l:=by rw [(zID l k x).mem_iff,List.mem_cons]
theorem zOR {R:α→α→Prop} {l:List α} {k:Nat} {x:α} (hl:l.Pairwise R) (h1:∀ y ∈ l.take k,R y x) (h2:∀ y ∈ l.drop k,R x y):(zKZ l k x).Pairwise R:=by
  have hl':(l.take k++l.drop k).Pairwise R:=by rw [List.take_append_drop];exact hl
  obtain ⟨a,b,c⟩:=List.pairwise_append.1 hl'
  refine List.pairwise_append.2 ⟨a,List.pairwise_cons.2 ⟨h2,b⟩,fun y hy z hz=>?_⟩
  rcases List.mem_cons.1 hz with rfl | hz
  · exact h1 y hy
  · exact c y hy z hz
def plc (lt : α → α → Bool) (x : α) : List α → Nat
  | []=>0
  | y::l=>bif lt y x then plc lt x l+1 else 0
theorem zN8 {x : α} : ∀ l : List α, plc lt x l ≤ l.length
  | []=>Nat.le_refl _
  | y::l=>by
    unfold plc
    cases lt y x
    · exact Nat.zero_le _
    · have h : plc lt x l ≤ l.length := zN8 l
      simp
      omega
theorem zKS {x : α} : ∀ l : List α, ∀ y ∈ l.take (plc lt x l), lt y x = true
  | [],y,h=>by cases h
  | z::l,y,h=>by
    unfold plc at h
    cases hz:lt z x
    · rw [hz] at h
      cases h
    · rw [hz, cond_true, List.take_succ_cons] at h
      rcases List.mem_cons.1 h with rfl | h
      · exact hz
      · exact zKS l y h
theorem zIe {x : α} : ∀ l : List α, ∀ y, l[plc lt x l]? = some y → lt y x = false
  | [],y,h=>by cases h
  | z::l,y,h=>by
    unfold plc at h
    cases hz:lt z x
    · rw [hz] at h
      obtain rfl:z=y:=by simpa using h
      exact hz
    · rw [hz, cond_true, List.getElem?_cons_succ] at h
      exact zIe l y h
theorem zMO (S:Sto lt) {x:α} {l:List α} (hl:zHL lt l):∀ y ∈ l.drop (plc lt x l),lt y x=false:=by
  intro y hy
  cases hd:l.drop (plc lt x l) with
  | nil=>rw [hd] at hy;cases hy
  | cons z t=>
    have hz:l[plc lt x l]? = some z:=by
      have:(l.drop (plc lt x l))[0]? = some z:=by rw [hd];rfl
      rwa [List.getElem?_drop,Nat.add_zero] at this
    have h0:=zIe l z hz
    rw [hd] at hy
    rcases List.mem_cons.1 hy with rfl | hy
    · exact h0
    · have hp : (z :: t).Pairwise fun a b => lt b a = false := hd ▸ hl.sublist (List.drop_sublist _ _)
      exact S.le_tr h0 ((List.pairwise_cons.1 hp).1 y hy)
def putW (lt:α→α→Bool) (l:List α) (x:α):List α:=zKZ l (plc lt x l) x
def putS [BEq α] (lt:α→α→Bool) (l:List α) (x:α):List α:=bif (l[plc lt x l]? == some x) then l else putW lt l x
theorem zJr [BEq α] [LawfulBEq α] (S:Sto lt) {l:List α} (x:α) (hl:zD3 lt l):zD3 lt (putS lt l x):=by
  unfold putS
  cases hc:(l[plc lt x l]? == some x)
  · refine zOR hl (zKS l) fun y hy => ?_
    have h1:=zMO S (hl.w S) y hy
    cases hxy:lt x y
    · have e := S.tri y x h1 hxy
      subst e
      exfalso
      cases hd:l.drop (plc lt y l) with
      | nil=>rw [hd] at hy;cases hy
      | cons z t=>
        have hz:l[plc lt y l]? = some z:=by
          have:(l.drop (plc lt y l))[0]? = some z:=by rw [hd];rfl
          rwa [List.getElem?_drop,Nat.add_zero] at this
        rw [hd] at hy
        have hp:(z::t).Pairwise fun a b=>lt a b=true:=hd ▸ hl.sublist (List.drop_sublist _ _)
        rcases List.mem_cons.1 hy with e | hy
        · subst e
          rw [hz] at hc
          simp at hc
        · have := (List.pairwise_cons.1 hp).1 y hy
          rw [zIe l z hz] at this
          cases this
    · rfl
  · exact hl
theorem zMB [BEq α] [LawfulBEq α] {l:List α} {x y:α}:y ∈ putS lt l x ↔ y=x∨y ∈ l:=by
  unfold putS
  cases hc:(l[plc lt x l]? == some x)
  · exact zLl
  · rw [beq_iff_eq] at hc
    exact ⟨.inr,fun h=>h.elim (fun e=>(by rw [e];exact List.mem_of_getElem? hc)) id⟩
def cmpA [BEq α] : α → List α → List α
  | _,[]=>[]
  | p,x::xs=>bif x==p then cmpA x xs else x::cmpA x xs
def cmpL [BEq α] : List α → List α
  | []=>[]
  | x::xs=>x::cmpA x xs
theorem zIk [BEq α] [LawfulBEq α] : ∀ {p : α} {l : List α} {y : α}, y ∈ cmpA p l → y ∈ l
  | p,x::xs,y,h=>by
    unfold cmpA at h
    cases hx:(x==p)
    · rw [hx, cond_false] at h
      rcases List.mem_cons.1 h with rfl | h
      · exact List.mem_cons_self ..
      · exact List.mem_cons_of_mem _ (zIk h)
    · rw [hx, cond_true] at h
      exact List.mem_cons_of_mem _ (zIk h)
theorem zHg [BEq α] [LawfulBEq α] : ∀ {p : α} {l : List α} {y : α}, y ∈ l → y = p ∨ y ∈ cmpA p l
  | p,x::xs,y,h=>by
    unfold cmpA
    cases hx:(x==p)
    · rw [cond_false]
      rcases List.mem_cons.1 h with rfl | h
      · exact .inr (List.mem_cons_self ..)
      · rcases zHg (p := x) h with rfl | h
        · exact .inr (List.mem_cons_self ..)
        · exact .inr (List.mem_cons_of_mem _ h)
    · rw [cond_true]
      rw [beq_iff_eq] at hx
      subst hx
      rcases List.mem_cons.1 h with rfl | h
      · exact .inl rfl
      · exact zHg h
theorem zMd [BEq α] [LawfulBEq α] {l:List α} {y:α}:y ∈ cmpL l ↔ y ∈ l:=by
  cases l with
  | nil=>rfl
  | cons x xs=>
    unfold cmpL
    constructor
    · intro h
      rcases List.mem_cons.1 h with rfl | h
      · exact List.mem_cons_self ..
      · exact List.mem_cons_of_mem _ (zIk h)
    · intro h
      rcases List.mem_cons.1 h with rfl | h
      · exact List.mem_cons_self ..
      · rcases zHg (p := x) h with rfl | h
        · exact List.mem_cons_self ..
        · exact List.mem_cons_of_mem _ h
theorem zG2 [BEq α] [LawfulBEq α] (S : Sto lt) : ∀ {p : α} {l : List α}, zHL lt (p :: l) → zD3 lt (p :: cmpA p l)
  | p,[],_=>List.pairwise_cons.2 ⟨fun y h=>(by cases h),List.Pairwise.nil⟩
  | p,x::xs,h=>by
    obtain ⟨h1,h2⟩:=List.pairwise_cons.1 h
    unfold cmpA
    cases hx:(x==p)
    · rw [cond_false]
      have ih:=zG2 S h2
      refine List.pairwise_cons.2 ⟨fun y hy=>?_,ih⟩
      have hpx:lt p x=true:=by
        cases hpx:lt p x
        · have := S.tri p x hpx (h1 x (List.mem_cons_self ..))
          subst this
          simp at hx
        · rfl
      rcases List.mem_cons.1 hy with rfl | hy
      · exact hpx
      · exact S.tr p x y hpx ((List.pairwise_cons.1 ih).1 y hy)
    · rw [cond_true]
      rw [beq_iff_eq] at hx
      subst hx
      exact zG2 S h2
theorem zJh [BEq α] [LawfulBEq α] (S:Sto lt) {l:List α} (h:zHL lt l):zD3 lt (cmpL l):=by
  cases l with
  | nil=>exact List.Pairwise.nil
  | cons x xs=>exact zG2 S h
theorem zHM [BEq α] : ∀ {p : α} {l : List α}, (cmpA p l).length ≤ l.length
  | _,[]=>Nat.le_refl _
  | p,x::xs=>by
    unfold cmpA
    have:=zHM (p:=x) (l:=xs)
    cases (x==p) <;> simp <;> omega
theorem zHy [BEq α] [LawfulBEq α] (S : Sto lt) : ∀ (xs : List α) (a : List α), zD3 lt a → zD3 lt (xs.foldl (putS lt) a) ∧ ∀ y, y ∈ xs.foldl (putS lt) a ↔ y ∈ xs ∨ y ∈ a
  | [],a,h=>⟨h,fun y=>by simp⟩
  | x::xs,a,h=>by
    obtain ⟨h1,h2⟩:=zHy S xs (putS lt a x) (zJr S x h)
    refine ⟨h1,fun y=>?_⟩
    rw [List.foldl_cons,h2,zMB,List.mem_cons]
    constructor
    · rintro (h | h | h)
      · exact .inl (.inr h)
      · exact .inl (.inl h)
      · exact .inr h
    · rintro ((h | h) | h)
      · exact .inr (.inl h)
      · exact .inl h
      · exact .inr (.inr h)
theorem zJs (S:Sto lt) (l:List α):zHL lt (l.mergeSort fun x y=>!(lt y x)):=by
  have:=List.pairwise_mergeSort (le:=fun x y=>!(lt y x)) (fun a b c h k=>by
    simp only [Bool.not_eq_true'] at *
    exact S.le_tr h k) (fun a b=>by
    simp only [Bool.or_eq_true,Bool.not_eq_true']
    cases hb:lt b a
    · exact .inl rfl
    · exact .inr (S.asy hb)) l
  exact this.imp fun h=>by simpa using h
end
end Go.Proofs.YtldppodfhabkjaaGreatDoor
namespace Go.Proofs.YtldppodfhabkjaaGreatDoor
open Go.RowKit
set_option linter.unusedVariables false
set_option linter.unusedSimpArgs false
theorem zFT {α:Type} (xs:List α) (k:Nat):subL xs 0 (k:Int)=xs.take k:=by simp [subL]
theorem zIv {α:Type} (xs:List α) (k:Nat):subL xs (k:Int) (xs.length:Int)=xs.drop k:=by
  unfold subL
  rw [Int.toNat_natCast,Int.toNat_natCast]
  exact List.take_of_length_le (by simp)
theorem zN5 {α:Type} {xs:List α} {k:Nat} (h:k≤xs.length):subR 0 (k:Int) xs.length=true:=zBN.2 ⟨by omega,by omega,by omega⟩
theorem zN4 {α:Type} {xs:List α} {k:Nat} (h:k≤xs.length):subR (k:Int) (xs.length:Int) xs.length=true:=zBN.2 ⟨by omega,by omega,by omega⟩
theorem zMi {α : Type} {lt : α → α → Bool} {x : α} {l : List α} {L : Nat → Int → Option Int} (hs : ∀ k (i : Nat) y, l[i]? = some y → L (k + 1) (i : Int) = bif lt y x then L k ((i + 1 : Nat) : Int) else some (i : Int)) (he : ∀ k, L (k + 1) (l.length : Int) = some (l.length : Int)) {fu : Nat} (hf : l.length < fu) :
    L fu (0:Int)=some ((plc lt x l:Nat):Int):=by
  have key:∀ m i k,i+m=l.length→m<k→L k ((i:Nat):Int)=some ((i+plc lt x (l.drop i):Nat):Int):=by
    intro m
    induction m with
    | zero=>
      intro i k hi hk
      obtain ⟨k,rfl⟩:∃ q,k=q+1:=⟨k-1,by omega⟩
      obtain rfl:i=l.length:=by omega
      rw [he,List.drop_length]
      rfl
    | succ m ih=>
      intro i k hi hk
      obtain ⟨k,rfl⟩:∃ q,k=q+1:=⟨k-1,by omega⟩
      have hx:=List.getElem?_eq_getElem (show i<l.length by omega)
      rw [hs k i _ hx,zD1 hx,plc]
      cases lt l[i] x
      · rfl
      · rw [cond_true, cond_true, ih (i + 1) k (by omega) (by omega)]
        congr 2
        omega
  have:=key l.length 0 fu (by omega) hf
  rwa [show ((0:Nat):Int)=0 from rfl,List.drop_zero,Nat.zero_add] at this
theorem zJR {fu:Nat} {l:List (List UInt8)} {x:List UInt8} {tw:Bool} (hf:l.length<fu) (hl:l.length≤2147483648):zBk fu l x tw=some (bif tw then putW bLt l x else putS bLt l x):=by
  unfold zBk
  have h:=zMi (lt:=bLt) (x:=x) (l:=l) (L:=zCN fu l x) (fun k i y hy=>by
    have hi:=zD4 hy
    rw [zCN]
    simp only [lt_t hi,zB9 hi,zAq hy,zCm,Bool.or_true,Bool.true_and,zD5,zCZ (show i≤4294967296 by omega),zAt]) (fun k=>by rw [zCN,lt_f];rfl) hf
  have hp:=zN8 (lt:=bLt) (x:=x) l
  rw [h,zA6]
  simp only [zCm,zFT,zIv,zN5 hp,zN4 hp,zD5,List.length_nil,List.length_append,List.length_take,List.length_drop,List.length_singleton,List.nil_append,Nat.zero_add,zAb (show min (plc bLt x l) l.length≤4294967296 by omega),zAb (show min (plc bLt x l) l.length+1≤4294967296 by omega),zAb (show min (plc bLt x l) l.length+1+(l.length-plc bLt x l)≤4294967296 by omega)]
  have hins:l.take (plc bLt x l) ++ [x]++l.drop (plc bLt x l)=putW bLt l x:=by simp [putW,zKZ]
  rw [hins]
  unfold putS
  by_cases hlt:plc bLt x l<l.length
  · have hg := List.getElem?_eq_getElem hlt
    rw [lt_t hlt,zB9 hlt,zAq hg,hg]
    have:(some l[plc bLt x l]==some x)=(l[plc bLt x l]==x):=rfl
    rw [this]
    cases tw <;> cases (l[plc bLt x l]==x) <;> rfl
  · have e : decide (((plc bLt x l : Nat) : Int) < (l.length : Int)) = false := decide_eq_false (by omega)
    have e2:l[plc bLt x l]? = none:=List.getElem?_eq_none (by omega)
    rw [e,e2]
    cases tw <;> rfl
theorem zOb {fu:Nat} {l:List (List UInt8)} {x:List UInt8} (hf:l.length<fu) (hl:l.length≤2147483648):zEH fu l x=some (l.any fun y=>y==x):=by
  unfold zEH
  have h:=zFh (xs:=l) (p:=fun y=>y==x) (r:=true) (L:=zCK fu l x) (fun k i y hy=>by
    have hi:=zD4 hy
    rw [zCK,lt_t hi,cond_true]
    simp only [zB9 hi,zAq hy,zD5,zCZ (show i≤4294967296 by omega),zAt]) (fun k=>by rw [zCK,lt_f];rfl) hf
  rw [h,zA6]
  cases l.any fun y=>y==x <;> rfl
theorem zNv {fu:Nat} {l:List (List UInt8)} (hl:l.length≤4294967296):zB8 fu l=some l:=by
  unfold zB8
  rw [List.nil_append,ck_t (zAb (by simpa using hl))]
theorem zNI {fu:Nat} {l:List (List UInt8)} (hl:l.length≤4294967296):zIH fu l=some (l.mergeSort fun x y=>!(bLt y x)):=by
  unfold zIH
  rw [ck_t (zAb hl)]
  have:(fun x y:List UInt8=>decide (x≤y))=fun x y=>!(bLt y x):=by
    funext x y
    exact zOJ x y
  rw [this]
theorem zL9 {α:Type} {z:α} {s:List α} {w:Nat} (h:w≤s.length):subL (s.take w++List.replicate (s.length-w) z) 0 (w:Int)=s.take w:=by
  rw [zFT,List.take_append_of_le_length (by simp;omega),List.take_take,Nat.min_self]
theorem zJ7 {α:Type} {z:α} {s:List α} {w:Nat} (h:w≤s.length):(s.take w++List.replicate (s.length-w) z).length=s.length:=by simp;omega
theorem zKg {fu : Nat} {s : List (List UInt8)} {i : Nat} (hl : s.length ≤ 1048576) (hi0 : 0 < i) : ∀ m j w k ys q, i + j + m = s.length → m < k → 1 ≤ j → w ≤ i + j - 1 → ys.length = s.length → ys.drop (i + j - 1) = s.drop (i + j - 1) → s[i + j - 1]? = some q → ys.take w ++ cmpA q (s.drop (i + j)) = cmpL s →
    ∃ (w':Nat) (ys':List (List UInt8)),zAM fu (i:Int) (s.length-i) k (w:Int) (j:Int) ys=some ((w':Int),ys')∧ys'.length=s.length∧w'≤s.length∧ys'.take w'=cmpL s:=by
  intro m
  induction m with
  | zero=>
    intro j w k ys q hm hk hj hw hlen hdr hq hc
    obtain ⟨k,rfl⟩:∃ q,k=q+1:=⟨k-1,by omega⟩
    refine ⟨w,ys,?_,hlen,by omega,?_⟩
    · rw [zAM, decide_eq_false (show ¬ (j : Int) < ((s.length - i : Nat) : Int) by omega)]
      rfl
    · rw [show i + j = s.length by omega, List.drop_length] at hc
      simpa [cmpA] using hc
  | succ m ih=>
    intro j w k ys q hm hk hj hw hlen hdr hq hc
    obtain ⟨k,rfl⟩:∃ q,k=q+1:=⟨k-1,by omega⟩
    have hx:=List.getElem?_eq_getElem (show i+j<s.length by omega)
    have hat:∀ n,i+j-1≤n→ys[n]? = s[n]?:=fun n hn=>by
      have:=congrArg (fun l=>l[n-(i+j-1)]?) hdr
      simp only [List.getElem?_drop] at this
      rwa [show i+j-1+(n-(i+j-1))=n by omega] at this
    have hyx:ys[i+j]? = some s[i+j]:=(hat _ (by omega)).trans hx
    have hyq:ys[i+j-1]? = some q:=(hat _ (Nat.le_refl _)).trans hq
    have e1:((i:Int)+(j:Int))=((i+j:Nat):Int):=rfl
    have e2:((i:Int)+((j:Int)-1))=((i+j-1:Nat):Int):=by omega
    rw [zAM,decide_eq_true (show (j:Int)<((s.length-i:Nat):Int) by omega),cond_true,ck_t (zMs (by omega) (by omega)),ck_t (decide_eq_true (by omega)),e1,ck_t (zB9 (by omega)),ck_t (zCP (by omega) (by omega)),ck_t (zMs (by omega) (by omega)),ck_t (decide_eq_true (by omega)),e2,ck_t (zB9 (by omega)),zAq hyx,zAq hyq]
    rw [zD1 hx,cmpA] at hc
    cases hb:(s[i+j]==q)
    · rw [Bool.not_false, cond_true, ck_t (zMs (by omega) (by omega)), ck_t (decide_eq_true (by omega)), ck_t (zB9 (by omega)), ck_t (zB9 (by omega)), ck_t (zCU (by omega)), ck_t (zCU (by omega)), zAt, zAt, zHd]
      rw [hb,cond_false] at hc
      have:=ih (j+1) (w+1) k (ys.set w s[i+j]) s[i+j] (by omega) (by omega) (by omega) (by omega) (by rw [List.length_set];exact hlen) ?_ ?_ ?_
      · exact this
      · rw [List.drop_set_of_lt (by omega)]
        have:=congrArg (fun l=>l.drop 1) hdr
        simp only [List.drop_drop] at this
        rwa [show i+(j+1)-1=i+j-1+1 by omega]
      · rw [show i + (j + 1) - 1 = i + j by omega]
        exact hx
      · rw [List.take_add_one, List.take_set_of_le (Nat.le_refl _), List.getElem?_set_self (by omega)]
        simpa [Nat.add_assoc] using hc
    · rw [Bool.not_true, cond_false, ck_t (zCU (by omega)), zAt]
      rw [hb,cond_true] at hc
      refine ih (j+1) w k ys s[i+j] (by omega) (by omega) (by omega) (by omega) hlen ?_ ?_ hc
      · have := congrArg (fun l => l.drop 1) hdr
        simp only [List.drop_drop] at this
        rwa [show i+(j+1)-1=i+j-1+1 by omega]
      · rw [show i + (j + 1) - 1 = i + j by omega]
        exact hx
theorem zM4 {fu:Nat} {s:List (List UInt8)} (hf:1048577≤fu) (hl:s.length≤1048576):zAz fu s=some (cmpL s):=by
  unfold zAz
  by_cases h2:s.length<2
  · rw [decide_eq_true (by omega), cond_true]
    match s,h2 with
    | [],_=>rfl
    | [x],_=>rfl
  · rw [decide_eq_false (by omega), cond_false]
    have key : ∀ m i k q, i + m = s.length → m < k → 0 < i → s[i - 1]? = some q → s.take i ++ cmpA q (s.drop i) = cmpL s →
        zAN fu k (i:Int) s=some (Ex.ret (cmpL s))∨(zAN fu k (i:Int) s=some (Ex.go s)∧cmpL s=s):=by
      intro m
      induction m with
      | zero=>
        intro i k q hm hk hi hq hc
        obtain ⟨k,rfl⟩:∃ q,k=q+1:=⟨k-1,by omega⟩
        obtain rfl:i=s.length:=by omega
        right
        refine ⟨by rw [zAN,lt_f];rfl,?_⟩
        rw [List.drop_length,List.take_length] at hc
        simpa [cmpA] using hc.symm
      | succ m ih=>
        intro i k q hm hk hi hq hc
        obtain ⟨k,rfl⟩:∃ q,k=q+1:=⟨k-1,by omega⟩
        have hlt:i<s.length:=by omega
        have hx:=List.getElem?_eq_getElem hlt
        have e1:((i:Int)-1)=((i-1:Nat):Int):=by omega
        rw [zAN,lt_t hlt,cond_true,ck_t (zB9 hlt),ck_t (zCP (by omega) (by omega)),e1,ck_t (zB9 (by omega)),zAq hx,zAq hq]
        have hc':=hc
        rw [zD1 hx,cmpA] at hc
        cases hb:(s[i]==q)
        · rw [cond_false, ck_t (zCU (by omega)), zAt]
          rw [hb,cond_false] at hc
          refine ih (i+1) k s[i] (by omega) (by omega) (by omega) (by rw [Nat.add_sub_cancel];exact hx) ?_
          have ht:s.take (i+1)=s.take i ++ [s[i]]:=by rw [List.take_add_one,hx];rfl
          rw [ht,List.append_assoc]
          exact hc
        · left
          rw [hb,cond_true] at hc
          obtain ⟨w',ys',h3,h4,h5,h6⟩:=zKg (fu:=fu) hl hi (s.length-i-1) 1 i fu s s[i] (by omega) (by omega) (Nat.le_refl _) (by omega) rfl rfl (by rw [Nat.add_sub_cancel];exact hx) hc
          rw [cond_true,ck_t (zN4 (Nat.le_of_lt hlt)),zCm,Int.toNat_natCast,Int.toNat_natCast,show ((1:Int))=((1:Nat):Int) from rfl,h3,zA6]
          simp only [h4,zBN.2 ⟨show (0:Int)≤(w':Int) by omega,show (w':Int)≤(s.length:Int) by omega,show (s.length:Int)≤(s.length:Int) from Int.le_refl _⟩,zCm,Int.toNat_natCast,zD5,beq_self_eq_true]
          have e3:(ys'.take w'++List.replicate (s.length-w') ([]:List UInt8))=(ys'.take w'++List.replicate (ys'.length-w') ([]:List UInt8)):=by rw [h4]
          rw [e3,ck_t (by rw [zJ7 (by omega)];exact zN5 (by omega)),zL9 (by omega),h6]
    obtain ⟨x0,t,hs⟩:∃ x t,s=x::t:=by
      cases s with
      | nil=>simp at h2
      | cons x t=>exact ⟨x,t,rfl⟩
    have hk:=key (s.length-1) 1 fu x0 (by omega) (by omega) (by omega) (by rw [hs];rfl) (by rw [hs];rfl)
    rw [show ((1:Int))=((1:Nat):Int) from rfl]
    rcases hk with h | ⟨h,e⟩
    · rw [h]
      rfl
    · rw [h, e]
      rfl
theorem zDf {fu:Nat} {l:List (List UInt8)} (hf:1048577≤fu) (hl:l.length≤1048576):zAw fu l=some (cmpL (l.mergeSort fun x y=>!(bLt y x))):=by
  unfold zAw
  rw [zNv (by omega),zA6,zNI (by omega),zA6,zM4 hf (by rw [List.length_mergeSort];exact hl)]
  rfl
def setL (l:List (List UInt8)):List (List UInt8):=cmpL (l.mergeSort fun x y=>!(bLt y x))
theorem zEU (l:List (List UInt8)):zD3 bLt (setL l):=zJh zFx (zJs zFx l)
theorem zEk {l:List (List UInt8)} {x:List UInt8}:x ∈ setL l ↔ x ∈ l:=by
  unfold setL
  rw [zMd,List.mem_mergeSort]
theorem zJo {l:List (List UInt8)}:(cmpL l).length≤l.length:=by
  cases l with
  | nil=>exact Nat.le_refl _
  | cons x xs=>
    have:=zHM (p:=x) (l:=xs)
    simp [cmpL]
    omega
theorem zEZ (l:List (List UInt8)):(setL l).length≤l.length:=by
  have:=zJo (l:=l.mergeSort fun x y=>!(bLt y x))
  rwa [List.length_mergeSort] at this
end Go.Proofs.YtldppodfhabkjaaGreatDoor
namespace Go.Proofs.YtldppodfhabkjaaGreatDoor
open Go.RowKit
set_option linter.unusedVariables false
set_option linter.unusedSimpArgs false
def wds : List UInt8 → List UInt8 → List (List UInt8)
  | cur,[]=>bif cur.isEmpty then [] else [cur]
  | cur,b::l=>bif b==32 then (bif cur.isEmpty then wds [] l else cur::wds [] l) else wds (cur ++ [b]) l
def neL (l:List (List UInt8)):List (List UInt8):=l.filter fun y=>!y.isEmpty
theorem zIY (x:List UInt8) (l:List (List UInt8)):neL (x::l)=bif x.isEmpty then neL l else x::neL l:=by
  unfold neL
  rw [List.filter_cons]
  cases x.isEmpty <;> rfl
theorem zJi : ∀ (s cur x : List UInt8) (xs : List (List UInt8)), spC 32 s = x :: xs → wds cur s = neL ((cur ++ x) :: xs)
  | [],cur,x,xs,h=>by
    rw [spC] at h
    injection h with h1 h2
    subst h1;subst h2
    rw [wds,zIY,List.append_nil]
    rfl
  | b::s,cur,x,xs,h=>by
    obtain ⟨y,ys,hy⟩:∃ y ys,spC 32 s=y::ys:=by
      cases h':spC 32 s with
      | nil=>exact absurd h' (zK6 32 s)
      | cons y ys=>exact ⟨y,ys,rfl⟩
    by_cases hb:b=32
    · subst hb
      rw [spC,if_pos rfl] at h
      injection h with h1 h2
      subst h1;subst h2
      have ih:=zJi s [] y ys hy
      rw [List.nil_append,← hy] at ih
      rw [wds,show ((32:UInt8)==32)=true from rfl,cond_true,ih,zIY,List.append_nil]
    · rw [spC, if_neg hb, hy] at h
      injection h with h1 h2
      subst h1;subst h2
      rw [wds,show (b==32)=false from beq_eq_false_iff_ne.2 hb,cond_false,zJi s (cur ++ [b]) y ys hy,List.append_assoc]
      rfl
theorem zO8 (s:List UInt8):wds [] s=neL (spC 32 s):=by
  cases h:spC 32 s with
  | nil=>exact absurd h (zK6 32 s)
  | cons y ys=>rw [zJi s [] y ys h,List.nil_append]
theorem zLA (s : ByteArray) (f : Nat) (st : Option Nat) (acc : List (Nat × Nat)) (p : Nat → Bool) (hst : ∀ a, st = some a → a < s.size) :
    (Lib.closeSpans s (Lib.spansFromP p s f s.size st acc)).map (fun q=>Lib.pieceU s.data.toList q.1 q.2)=acc.map (fun q=>Lib.pieceU s.data.toList q.1 q.2)++wds (Lib.openPiece s.data.toList st s.size) (s.data.toList.drop s.size):=by
  have hd:s.data.toList.drop s.size = []:=List.drop_eq_nil_of_le (by rw [← Lib.size_eq];exact Nat.le_refl _)
  rw [hd,Lib.spansFromP_end p s _ _ _ _ (Nat.lt_irrefl _)]
  cases st with
  | none=>simp [Lib.closeSpans,Lib.openPiece,wds]
  | some a=>
    have:=Lib.pieceU_ne s.data.toList a s.size (hst a rfl) (by rw [← Lib.size_eq];exact Nat.le_refl _)
    have h2:(Lib.pieceU s.data.toList a s.size).isEmpty=false:=by
      cases hz:Lib.pieceU s.data.toList a s.size with
      | nil=>exact absurd hz this
      | cons _ _=>rfl
    simp [Lib.closeSpans,Lib.openPiece,wds,h2]
theorem zNh (s : ByteArray) (hs : ∀ b ∈ s.data.toList, b.toNat < 128) (p : Nat → Bool) (hp : ∀ b : UInt8, b.toNat < 128 → p b.toNat = (b == 32)) : ∀ (f pos : Nat) (st : Option Nat) (acc : List (Nat × Nat)), s.size ≤ pos + f → pos ≤ s.size → (∀ a, st = some a → a < pos) →
    (Lib.closeSpans s (Lib.spansFromP p s f pos st acc)).map (fun q=>Lib.pieceU s.data.toList q.1 q.2)=acc.map (fun q=>Lib.pieceU s.data.toList q.1 q.2)++wds (Lib.openPiece s.data.toList st pos) (s.data.toList.drop pos):=by
  intro f
  induction f with
  | zero=>
    intro pos st acc h hp0 hst
    obtain rfl:pos=s.size:=by omega
    exact zLA s 0 st acc p hst
  | succ f ih=>
    intro pos st acc h hp0 hst
    by_cases hlt:pos<s.size
    · have hl : pos < s.data.toList.length := by rw [← Lib.size_eq]; exact hlt
      have hb:(s[pos]'hlt)=s.data.toList[pos]'hl:=rfl
      have ha:(s[pos]'hlt).toNat<128:=by rw [hb];exact hs _ (List.getElem_mem hl)
      have hd:=decode_ascii s pos hlt ha
      have hdr:s.data.toList.drop pos=(s[pos]'hlt)::s.data.toList.drop (pos+1):=List.drop_eq_getElem_cons hl
      unfold Lib.spansFromP
      rw [if_pos hlt,hd,hdr]
      generalize (s[pos]'hlt)=b at ha hb hdr ⊢
      dsimp only
      rw [hp b ha,wds]
      have h1:s.size≤pos+1+f:=by omega
      cases hb32:b==32 with
      | true=>
        rw [if_pos rfl,cond_true]
        cases st with
        | none=>
          have ih:=ih (pos+1) none acc h1 (by omega) (fun a h=>by cases h)
          dsimp only
          rw [ih]
          rfl
        | some a=>
          have hpn:=Lib.pieceU_ne s.data.toList a pos (hst a rfl) (by omega)
          have ih:=ih (pos+1) none (acc ++ [(a,pos)]) h1 (by omega) (fun a h=>by cases h)
          dsimp only
          rw [ih]
          have:(Lib.openPiece s.data.toList (some a) pos).isEmpty=false:=by
            show (Lib.pieceU s.data.toList a pos).isEmpty=false
            cases hz:Lib.pieceU s.data.toList a pos with
            | nil=>exact absurd hz hpn
            | cons _ _=>rfl
          rw [this,cond_false,List.map_append,List.append_assoc]
          rfl
      | false=>
        rw [if_neg (by decide),cond_false]
        have ht:(s.data.toList.drop pos).take 1 = [b]:=by rw [hdr];rfl
        cases st with
        | none=>
          have ih:=ih (pos+1) (some pos) acc h1 (by omega) (fun a h=>by cases h;omega)
          dsimp only
          rw [ih]
          have:Lib.openPiece s.data.toList (some pos) (pos+1) = [] ++ [b]:=by
            show Lib.pieceU s.data.toList pos (pos+1)=_
            unfold Lib.pieceU
            rw [Nat.add_sub_cancel_left,ht]
            rfl
          rw [this]
          rfl
        | some a=>
          have ih:=ih (pos+1) (some a) acc h1 (by omega) (fun b h=>by cases h;have:=hst a rfl;omega)
          dsimp only
          rw [ih]
          have:Lib.openPiece s.data.toList (some a) (pos+1)=Lib.openPiece s.data.toList (some a) pos ++ [b]:=by
            show Lib.pieceU s.data.toList a (pos+1)=Lib.pieceU s.data.toList a pos ++ [b]
            rw [← Lib.pieceU_grow _ _ _ _ (Nat.le_of_lt (hst a rfl)),ht]
          rw [this]
    · obtain rfl : pos = s.size := by omega
      exact zLA s (f+1) st acc p hst
theorem zMr (s:ByteArray) (hs:∀ b ∈ s.data.toList,b.toNat<128) (p:Nat→Bool) (hp:∀ b:UInt8,b.toNat<128→p b.toNat=(b==32)):(Lib.goFieldsP p s).map (·.data.toList)=neL (spC 32 s.data.toList):=by
  have h:=zNh s hs p hp s.size 0 none [] (by omega) (Nat.zero_le _) (fun a h=>by cases h)
  rw [List.map_nil,List.nil_append,List.drop_zero] at h
  rw [show Lib.openPiece s.data.toList none 0 = [] from rfl,zO8] at h
  rw [← h]
  unfold Lib.goFieldsP Lib.spansOfP
  rw [List.map_map]
  apply List.map_congr_left
  intro q _
  exact Lib.extract_data s q.1 q.2
def okC (c:UInt8):Bool:=wdB c || c==32
theorem zNq {c:UInt8} (h:okC c=true):c.toNat<128:=by
  unfold okC wdB wdI smI cpI dgI at h
  by_cases h32:c=32
  · subst h32;decide
  · rw [show (c == 32) = false from beq_eq_false_iff_ne.2 h32, Bool.or_false] at h
    simp only [Bool.or_eq_true,Bool.and_eq_true,decide_eq_true_eq] at h
    omega
theorem zNj (s:List UInt8):∀ c ∈ strL s,okC c=true:=by
  intro c hc
  unfold strL at hc
  obtain ⟨b,_,rfl⟩:=List.mem_map.1 hc
  unfold mkC okC
  cases h:wdB b
  · rfl
  · rw [cond_true,h];rfl
theorem zON {o:List UInt8 × Bool} (h:∀ c ∈ o.1,okC c=true):∀ c ∈ coT o,okC c=true:=by
  unfold coT
  cases (!o.1.isEmpty&&o.2)
  · exact h
  · intro c hc
    rcases List.mem_append.1 hc with hc | hc
    · exact h c hc
    · rw [List.mem_singleton.1 hc];rfl
theorem zLi : ∀ (s : List UInt8) (o : List UInt8 × Bool), (∀ c ∈ s, okC c = true) → (∀ c ∈ o.1, okC c = true) → ∀ c ∈ (s.foldl coS o).1, okC c = true
  | [],o,_,ho=>ho
  | b::s,o,hs,ho=>by
    rw [List.foldl_cons]
    refine zLi s _ (fun c hc=>hs c (List.mem_cons_of_mem _ hc)) ?_
    cases h:b==32
    · rw [zKh h]
      intro c hc
      rcases List.mem_append.1 hc with hc | hc
      · exact zON ho c hc
      · rw [List.mem_singleton.1 hc];exact hs b List.mem_cons_self
    · rw [zKe h]
      exact ho
theorem zLN (s:List UInt8):∀ c ∈ nrmL s,okC c=true:=zLi _ _ (zNj _) (fun c h=>by cases h)
theorem zHI (l:List (List UInt8)):l.foldl (putS bLt) []=setL l:=by
  obtain ⟨h1,h2⟩:=zHy zFx l [] List.Pairwise.nil
  refine zG3 zFx h1 (zEU l) fun x=>?_
  rw [h2,zEk]
  simp
def tokL (s:List UInt8):List (List UInt8):=setL (neL (spC 32 (nrmL s)))
theorem zIT (l:List (List UInt8)):(neL l).length≤l.length:=List.length_filter_le _ _
theorem zNg {fu:Nat} {s:List UInt8} (hs:s.length≤2097152) (ha:∀ c ∈ s,okC c=true):zEG fu s=some (neL (spC 32 s)):=by
  have hF:∀ n:Int,zDR fu n=some (n==32):=fun n=>rfl
  unfold zEG zHB
  rw [ck_t (zAb (by omega)),ck_t (zKw fun n _=>by rw [hF];rfl),zA6]
  have:=zMr ⟨s.toArray⟩ (by simpa using fun b hb=>zNq (ha b hb)) (fun n=>(zDR fu (n:Int)).getD false) (fun b _=>by
    rw [hF]
    show (((b.toNat:Nat):Int)==(32:Int))=_
    exact e32)
  rw [this]
theorem zHO {fu:Nat} {s:List UInt8} (hf:1048577≤fu) (hl:s.length≤262144):zCX fu s=some (tokL s):=by
  have h2:=zIm s
  have h3:=zIr 32 (nrmL s)
  have h4:=zIT (spC 32 (nrmL s))
  unfold zCX
  rw [zKt (by omega) (by omega),zA6,zNg (by omega) (zLN s),zA6,zDf hf (by omega),zA6]
  rfl
theorem zJQ {fu:Nat} {s:List UInt8} (hf:1048577≤fu) (hl:s.length≤262144):zCY fu s=some (tokL s):=by
  have h2:=zIm s
  have h3:=zIr 32 (nrmL s)
  unfold zCY tokL
  have hcut:zDF fu (nrmL s) (32:Int)=some (spC 32 (nrmL s)):=zNx (c:=32) hf (by omega)
  rw [zKb (by omega) (by omega),zA6,hcut,zA6]
  generalize spC 32 (nrmL s)=l at h3 ⊢
  have h:=zCs (xs:=l) (g:=fun (acc:List (List UInt8)) x=>bif x.isEmpty then acc else putS bLt acc x) (Inv:=fun i acc=>acc.length≤i) (L:=zBo fu l) (fun k i acc x hx hacc=>by
    have hi:=zD4 hx
    rw [zBo,lt_t hi,cond_true]
    simp only [zB9 hi,zAq hx,zD5,zJR (show acc.length<fu by omega) (show acc.length≤2147483648 by omega),zA6,zCZ (show i≤4294967296 by omega),zAt,cond_false]
    cases x with
    | nil=>rfl
    | cons b x=>rfl) (fun i acc x hx hacc=>by
    show (bif x.isEmpty then acc else putS bLt acc x).length≤i+1
    cases x.isEmpty
    · rw [cond_false]
      unfold putS putW
      cases (acc[plc bLt x acc]? == some x)
      · rw [cond_false,zEI];omega
      · exact Nat.le_succ_of_le hacc
    · exact Nat.le_succ_of_le hacc) (fun k acc hacc=>by rw [zBo,lt_f];rfl) (a:=[]) (Nat.zero_le _) (show l.length<fu by omega)
  rw [h.1,zA6,← zHI]
  unfold neL
  rw [List.foldl_filter]
  congr 2
  funext acc x
  cases x.isEmpty <;> rfl
theorem zJ4 (c : UInt8) : ∀ s : List UInt8, ∀ x ∈ spC c s, ∀ b ∈ x, b ∈ s ∧ b ≠ c
  | [],x,hx,b,hb=>by rw [spC] at hx;rw [List.mem_singleton.1 hx] at hb;cases hb
  | a::s,x,hx,b,hb=>by
    unfold spC at hx
    split at hx
    · rcases List.mem_cons.1 hx with rfl | hx
      · cases hb
      · exact ⟨List.mem_cons_of_mem _ (zJ4 c s x hx b hb).1,(zJ4 c s x hx b hb).2⟩
    · rename_i hac
      cases h:spC c s with
      | nil=>exact absurd h (zK6 c s)
      | cons y ys=>
        rw [h] at hx
        rcases List.mem_cons.1 hx with rfl | hx
        · rcases List.mem_cons.1 hb with rfl | hb
          · exact ⟨List.mem_cons_self,hac⟩
          · have := zJ4 c s y (by rw [h]; exact List.mem_cons_self) b hb
            exact ⟨List.mem_cons_of_mem _ this.1,this.2⟩
        · have := zJ4 c s x (by rw [h]; exact List.mem_cons_of_mem _ hx) b hb
          exact ⟨List.mem_cons_of_mem _ this.1,this.2⟩
theorem zIp {s t:List UInt8} (h:t ∈ tokL s):t ≠ []∧t.length≤2*s.length∧∀ b ∈ t,wdB b=true:=by
  unfold tokL at h
  rw [zEk] at h
  unfold neL at h
  obtain ⟨h1,h2⟩:=List.mem_filter.1 h
  refine ⟨(by intro e;subst e;cases h2),Nat.le_trans (zIi 32 _ t h1) (zIm s),fun b hb=>?_⟩
  obtain ⟨h3,h4⟩:=zJ4 32 _ t h1 b hb
  have:=zLN s b h3
  unfold okC at this
  rw [show (b==32)=false from beq_eq_false_iff_ne.2 h4,Bool.or_false] at this
  exact this
theorem zFg (s:List UInt8):(tokL s).length≤2*s.length+1:=by
  have h2:=zIm s
  have h3:=zIr 32 (nrmL s)
  have h4:=zIT (spC 32 (nrmL s))
  have h5:=zEZ (neL (spC 32 (nrmL s)))
  unfold tokL
  omega
end Go.Proofs.YtldppodfhabkjaaGreatDoor
namespace Go.Proofs.YtldppodfhabkjaaGreatDoor
open Go.RowKit
set_option linter.unusedVariables false
set_option linter.unusedSimpArgs false
theorem zKY {p:UInt8→Prop} (h:∀ n:Fin 256,p (UInt8.ofNat n.val)) (d:UInt8):p d:=by
  have:=h ⟨d.toNat,d.toNat_lt⟩
  rwa [UInt8.ofNat_toNat] at this
theorem zL3 {α σ ρ τ : Type} {xs : List α} {bad : α → Bool} {r : ρ} {g : σ → α → σ} {f : σ → τ} {Inv : Nat → σ → Prop} {L : Nat → Int → σ → Option (Ex ρ τ)} {i0 : Nat}
    (hs:∀ k (i:Nat) a x,i0≤i→xs[i]? = some x→Inv i a→L (k+1) (i:Int) a=bif bad x then some (.ret r) else L k ((i+1:Nat):Int) (g a x)) (hI:∀ (i:Nat) a x,i0≤i→xs[i]? = some x→bad x=false→Inv i a→Inv (i+1) (g a x))
    (he:∀ k a,Inv xs.length a→L (k+1) (xs.length:Int) a=some (.go (f a))) {a:σ} (h0:Inv i0 a) (hi0:i0≤xs.length) {fu:Nat} (hf:xs.length-i0<fu) :
    L fu (i0:Int) a=some (bif (xs.drop i0).any bad then .ret r else .go (f ((xs.drop i0).foldl g a)))∧((xs.drop i0).any bad=false→Inv xs.length ((xs.drop i0).foldl g a)):=by
  have key:∀ m i k a,i+m=xs.length→m<k→i0≤i→Inv i a→L k ((i:Nat):Int) a=some (bif (xs.drop i).any bad then .ret r else .go (f ((xs.drop i).foldl g a)))∧((xs.drop i).any bad=false→Inv xs.length ((xs.drop i).foldl g a)):=by
    intro m
    induction m with
    | zero=>
      intro i k a hi hk hge ha
      obtain ⟨k,rfl⟩:∃ q,k=q+1:=⟨k-1,by omega⟩
      obtain rfl:i=xs.length:=by omega
      rw [he k a ha,List.drop_length]
      exact ⟨rfl,fun _=>ha⟩
    | succ m ih=>
      intro i k a hi hk hge ha
      obtain ⟨k,rfl⟩:∃ q,k=q+1:=⟨k-1,by omega⟩
      have hx:=List.getElem?_eq_getElem (show i<xs.length by omega)
      rw [hs k i a _ hge hx ha,zD1 hx,List.foldl_cons,List.any_cons]
      cases hb:bad xs[i] with
      | true=>exact ⟨rfl,fun h=>by cases h⟩
      | false=>
        rw [cond_false,Bool.false_or]
        exact ih (i+1) k _ (by omega) (by omega) (by omega) (hI i a _ hge hx hb ha)
  exact key (xs.length-i0) i0 fu a (by omega) hf (Nat.le_refl _) h0
def sndD (d:UInt8):Int:=bif smI d.toNat then gtD sndL ((d.toNat:Int)-97) else -2
def sndC (c:UInt8):Int:=sndD (fld c)
theorem zKN {fu:Nat} {c:UInt8} (hf:1048577≤fu):zCy fu (c.toNat:Int)=some (sndC c):=by
  unfold zCy sndC
  have e:strB ([((c.toNat:Nat):Int)]:List Int) = [c]:=zDl [c]
  rw [e,zGg (s:=[c]) (by simp;omega) (by simp),zA6]
  show _=some (sndD (fld c))
  rw [show ([c].map fld) = [fld c] from rfl]
  generalize fld c=d
  revert d
  refine zKY ?_
  decide +kernel
theorem zMK (fu:Nat) (c:UInt8):zCF fu (c.toNat:Int)=some (sndC c):=by
  unfold zCF zCa sndC
  revert c
  refine zKY ?_
  decide +kernel
theorem zId {fu:Nat} {c:UInt8}:zCF fu (c.toNat:Int)=some (sndC c):=zMK fu c
theorem zN6 (c:UInt8):-2≤sndC c∧sndC c≤6:=by
  revert c
  refine zKY ?_
  decide +kernel
theorem zOa {n:Int} (h0:0≤n) (h1:n≤6):([(IntKind.u8.wrap ((48:Int)+n))]:List Int)=bytL [UInt8.ofNat (48+n.toNat)]:=by
  obtain ⟨k,rfl⟩:∃ k:Nat,n=(k:Int):=⟨n.toNat,by omega⟩
  rw [zJg _ (by omega) (by omega),Int.toNat_natCast]
  unfold bytL
  rw [List.map_cons,List.map_nil,UInt8.toNat_ofNat']
  congr 1
  omega
def sxG (o:List UInt8 × Int) (c:UInt8):List UInt8 × Int:=bif decide (sndC c<0) then o else (bif decide (0<sndC c)&&(sndC c != o.2) then o.1 ++ [UInt8.ofNat (48+(sndC c).toNat)] else o.1,sndC c)
def sxL (s : List UInt8) : List UInt8 := match s with
  | []=>[]
  | c::t=>bif (c::t).any (fun c=>sndC c == -2) then [] else ((t.foldl sxG ([fld c],sndC c)).1 ++ [48,48,48]).take 4
theorem zHZ : ∀ (t : List UInt8) (o : List UInt8 × Int), o.1.length ≤ (t.foldl sxG o).1.length ∧ (t.foldl sxG o).1.length ≤ o.1.length + t.length
  | [],o=>⟨Nat.le_refl _,Nat.le_refl _⟩
  | c::t,o=>by
    have:=zHZ t (sxG o c)
    have h2:o.1.length≤(sxG o c).1.length∧(sxG o c).1.length≤o.1.length+1:=by
      unfold sxG
      cases decide (sndC c<0)
      · cases (decide (0 < sndC c) && (sndC c != o.2))
        · exact ⟨Nat.le_refl _,Nat.le_succ _⟩
        · simp
      · exact ⟨Nat.le_refl _,Nat.le_succ _⟩
    rw [List.foldl_cons,List.length_cons]
    omega
theorem sub1 {c:UInt8} {t:List UInt8}:subL (c::t) 0 (1:Int) = [c]:=by
  rw [show ((1:Int))=((1:Nat):Int) from rfl,zFT]
  rfl
theorem zMA {fu:Nat} {s:List UInt8} (hf:1048577≤fu) (hl:s.length≤1048576):zDT fu s=some (sxL s):=by
  unfold zDT
  cases s with
  | nil=>rfl
  | cons c t=>
    have hlen:(c::t).length=t.length+1:=rfl
    rw [show ((c::t)==([]:List UInt8))=false from rfl,cond_false,ck_t (zBN.2 ⟨Int.le_refl _,by omega,by rw [hlen];omega⟩),sub1,zI8 (s:=[c]) (by simp;omega) (by simp),zA6,show ([c].map fld) = [fld c] from rfl,ck_t (zAb (by simp)),ck_t (zNW (by rw [hlen];omega)),show bAt (c::t) (0:Int)=(c.toNat:Int) from rfl,zId,zA6]
    have h1:=zL3 (xs:=c::t) (bad:=fun c=>sndC c == -2) (r:=([]:List UInt8)) (g:=sxG) (f:=fun a:List UInt8 × Int=>bytL a.1) (Inv:=fun i a=>a.1.length≤i) (i0:=1) (L:=fun k i (a:List UInt8 × Int)=>zB7 fu (c::t) k a.2 i (bytL a.1)) (fun k i a x hge hx ha=>by
      have hi:=zD4 hx
      have hr:=zN6 x
      try dsimp only
      rw [zB7,lt_t hi,cond_true,ck_t (zB9 hi),zEL hx,zId,zA6]
      have e0:(((i:Nat):Int)==(0:Int))=false:=by rw [beq_eq_false_iff_ne];omega
      have hone:∀ (l:List Int),l.length=1→zBE ((bytL a.1).length+l.length)=true:=fun l hl=>zAb (by rw [zBx,hl];omega)
      rw [e0,Bool.false_or,zCm,zCm,hone _ rfl,zCP (show -9223372036854775808≤(48:Int)+sndC x by omega) (show (48:Int)+sndC x≤9223372036854775807 by omega)]
      simp only [zD5,zAt,zCZ (show i≤4294967296 by omega)]
      cases hb:sndC x == -2 with
      | true=>rfl
      | false=>
        rw [cond_false,cond_false]
        unfold sxG
        cases hn:decide (sndC x<0) with
        | true=>rfl
        | false=>
          have h0:0≤sndC x:=by rw [decide_eq_false_iff_not] at hn;omega
          rw [cond_false]
          cases (decide (0<sndC x)&&(sndC x != a.2)) with
          | true=>rw [cond_true,zOa h0 hr.2,zDK];rfl
          | false=>rfl) (fun i a x hge hx hb ha=>by
      have:=(zHZ [x] a).2
      simp only [List.foldl_cons,List.foldl_nil,List.length_singleton] at this
      show (sxG a x).1.length≤i+1
      omega) (fun k a ha=>by (try dsimp only);rw [zB7,lt_f,cond_false]) (a:=([fld c],sndC c)) (Nat.le_refl _) (by rw [hlen];omega) (fu:=fu-1) (by rw [hlen];omega)
    have h1:=h1.1
    try dsimp only at h1
    obtain ⟨k,rfl⟩:∃ k,fu=k+1:=⟨fu-1,by omega⟩
    rw [Nat.add_sub_cancel] at h1
    rw [zB7,lt_0 (by rw [hlen];omega),cond_true,ck_t (zNW (by rw [hlen];omega)),show bAt (c::t) (0:Int)=(c.toNat:Int) from rfl,zId,zA6,zCm,show ((((0:Int))==(0:Int)) || decide (sndC c<(0:Int)))=true from rfl,cond_true,zOO,ck_t zNE,h1]
    have e:sxL (c::t)=bif (c::t).any (fun c=>sndC c == -2) then [] else ((t.foldl sxG ([fld c],sndC c)).1 ++ [48,48,48]).take 4:=rfl
    rw [e,List.any_cons,List.drop_one,List.tail_cons]
    cases hb:sndC c == -2 with
    | true=>rw [cond_true,zA6,Bool.true_or,cond_true];rfl
    | false=>
      rw [cond_false,zA6,Bool.false_or]
      cases hb2:t.any fun c=>sndC c == -2 with
      | true=>rw [cond_true,cond_true];rfl
      | false=>
        have hg:=zHZ t ([fld c],sndC c)
        generalize (t.foldl sxG ([fld c],sndC c)).1=o at hg ⊢
        rw [cond_false,cond_false,zJa,zDl]
        have hg1:1≤o.length:=hg.1
        have hg2:o.length≤1+t.length:=hg.2
        rw [ck_t (zAb (by simp;omega)),ck_t (zBN.2 ⟨Int.le_refl _,by omega,by simp;omega⟩),show ((4:Int))=((4:Nat):Int) from rfl,zFT]
theorem zLE {o:List UInt8} {d:UInt8}:(o ++ [d]).take 4=bif decide (o.length<4) then o.take 4 ++ [d] else o.take 4:=by
  by_cases h:o.length<4
  · rw [decide_eq_true h,cond_true,List.take_of_length_le (by simp;omega),List.take_of_length_le (by omega)]
  · rw [decide_eq_false h,cond_false,List.take_append_of_le_length (by omega)]
theorem zKU {fu : Nat} : ∀ (n k : Nat) (o : List UInt8), o.length + n = 4 → n < k → zBr fu k (bytL o) = some (bytL (o ++ List.replicate n 48))
  | 0,k,o,h,hk=>by
    obtain ⟨k,rfl⟩:∃ q,k=q+1:=⟨k-1,by omega⟩
    rw [zBr,zBx,decide_eq_false (by omega),cond_false,List.replicate_zero,List.append_nil]
  | n+1,k,o,h,hk=>by
    obtain ⟨k,rfl⟩:∃ q,k=q+1:=⟨k-1,by omega⟩
    rw [zBr,zBx,decide_eq_true (by omega),cond_true,show ([(48:Int)]:List Int)=bytL [48] from rfl,ck_t (zAb (by rw [zBx];simp;omega)),zDK,zKU n k (o ++ [48]) (by simp;omega) (by omega),List.append_assoc]
    rfl
theorem zMJ {fu:Nat} {s:List UInt8} (hf:1048577≤fu) (hl:s.length≤1048576):zDO fu s=some (sxL s):=by
  unfold zDO
  cases s with
  | nil=>
    obtain ⟨k,rfl⟩:∃ k,fu=k+1:=⟨fu-1,by omega⟩
    rw [zAh]
    rfl
  | cons c t=>
    have hlen:(c::t).length=t.length+1:=rfl
    have h1:=zL3 (xs:=c::t) (bad:=fun c=>sndC c == -2) (r:=([]:List UInt8)) (g:=sxG) (f:=fun a:List UInt8 × Int=>bytL (a.1.take 4)) (Inv:=fun i a=>a.1.length≤i) (i0:=1) (L:=fun k i (a:List UInt8 × Int)=>zAh fu (c::t) k a.2 i (bytL (a.1.take 4))) (fun k i a x hge hx ha=>by
      have hi:=zD4 hx
      have hr:=zN6 x
      try dsimp only
      rw [zAh,lt_t hi,cond_true,ck_t (zB9 hi),zEL hx,zKN hf,zA6]
      have e0:(((i:Nat):Int)==(0:Int))=false:=by rw [beq_eq_false_iff_ne];omega
      have hone:∀ (l:List Int),l.length=1→zBE ((bytL (a.1.take 4)).length+l.length)=true:=fun l hl=>zAb (by rw [zBx,hl,List.length_take];omega)
      have h4:decide (((bytL (a.1.take 4)).length:Int)<(4:Int))=decide (a.1.length<4):=by
        rw [zBx,List.length_take]
        by_cases h:a.1.length<4
        · rw [decide_eq_true h,decide_eq_true (by omega)]
        · rw [decide_eq_false h,decide_eq_false (by omega)]
      rw [e0,zCm,zCm,hone _ rfl,h4,zCP (show -9223372036854775808≤(48:Int)+sndC x by omega) (show (48:Int)+sndC x≤9223372036854775807 by omega)]
      simp only [zD5,zAt,zCZ (show i≤4294967296 by omega)]
      cases hb:sndC x == -2 with
      | true=>rfl
      | false=>
        rw [cond_false,cond_false]
        unfold sxG
        by_cases hn:sndC x<0
        · rw [decide_eq_true hn, decide_eq_false (show ¬ (0 : Int) < sndC x by omega), decide_eq_false (show ¬ (0 : Int) ≤ sndC x by omega)]
          rfl
        · have h0 : 0 ≤ sndC x := by omega
          rw [decide_eq_false hn,decide_eq_true h0,cond_true,cond_true,cond_false,cond_false]
          cases (decide (0<sndC x)&&(sndC x != a.2)) with
          | true=>
            rw [Bool.true_and,cond_true,zOa h0 hr.2,zDK]
            dsimp only
            rw [zLE]
            cases decide (a.1.length<4) <;> rfl
          | false=>rfl) (fun i a x hge hx hb ha=>by
      have:=(zHZ [x] a).2
      simp only [List.foldl_cons,List.foldl_nil,List.length_singleton] at this
      show (sxG a x).1.length≤i+1
      omega) (fun k a ha=>by (try dsimp only);rw [zAh,lt_f,cond_false]) (a:=([fld c],sndC c)) (Nat.le_refl _) (by rw [hlen];omega) (fu:=fu-1) (by rw [hlen];omega)
    have h1:=h1.1
    try dsimp only at h1
    obtain ⟨k,rfl⟩:∃ k,fu=k+1:=⟨fu-1,by omega⟩
    rw [Nat.add_sub_cancel] at h1
    rw [zAh,lt_0 (by rw [hlen];omega),cond_true,ck_t (zNW (by rw [hlen];omega)),show bAt (c::t) (0:Int)=(c.toNat:Int) from rfl,zKN hf,zA6,show (((0:Int))==(0:Int))=true from rfl,cond_true,ck_t (zBN.2 ⟨Int.le_refl _,by omega,by rw [hlen];omega⟩),sub1,zGg (s:=[c]) (by simp;omega) (by simp),zA6,show ([c].map fld) = [fld c] from rfl,ck_t (zDd.2 ⟨Int.le_refl _,by simp⟩),show bAt [fld c] (0:Int)=((fld c).toNat:Int) from rfl,ck_t (zAb (by simp)),zOO,ck_t zNE,show (([]:List Int) ++ [((fld c).toNat:Int)])=bytL (([fld c]:List UInt8).take 4) from rfl,h1]
    have e:sxL (c::t)=bif (c::t).any (fun c=>sndC c == -2) then [] else ((t.foldl sxG ([fld c],sndC c)).1 ++ [48,48,48]).take 4:=rfl
    rw [e,List.any_cons,List.drop_one,List.tail_cons]
    cases hb:sndC c == -2 with
    | true=>rw [cond_true,zA6,Bool.true_or,cond_true];rfl
    | false=>
      rw [cond_false,zA6,Bool.false_or]
      cases hb2:t.any fun c=>sndC c == -2 with
      | true=>rw [cond_true,cond_true];rfl
      | false=>
        have hg:=zHZ t ([fld c],sndC c)
        generalize (t.foldl sxG ([fld c],sndC c)).1=o at hg ⊢
        have hg1:1≤o.length:=hg.1
        rw [cond_false,cond_false,zJa,zBx,show (((o.take 4).length:Int)==(0:Int))=false by rw [beq_eq_false_iff_ne,List.length_take];omega,cond_false,zKU (4-(o.take 4).length) _ _ (by rw [List.length_take];omega) (by omega),zA6,zDl]
        congr 1
        by_cases h4:o.length<4
        · rw [List.take_of_length_le (Nat.le_of_lt h4), List.take_append, List.take_of_length_le (Nat.le_of_lt h4)]
          congr 1
          match o.length,hg1,h4 with
          | 1,_,_=>rfl
          | 2,_,_=>rfl
          | 3,_,_=>rfl
        · rw [List.take_append_of_le_length (by omega),show 4-(o.take 4).length=0 by rw [List.length_take];omega,List.replicate_zero,List.append_nil]
theorem zNw (s:List UInt8):(sxL s).length≤4:=by
  unfold sxL
  cases s with
  | nil=>exact Nat.zero_le _
  | cons c t=>
    dsimp only
    cases ((c::t).any fun c=>sndC c == -2)
    · rw [cond_false,List.length_take];omega
    · exact Nat.zero_le _
def skL (s:List UInt8):List (List UInt8):=setL (neL ((tokL s).map sxL))
theorem isE (x:List UInt8):(x==([]:List UInt8))=x.isEmpty:=by cases x <;> rfl
theorem zOC (l:List (List UInt8)):neL (l.map sxL)=l.foldl (fun (a:List (List UInt8)) t=>bif (sxL t).isEmpty then a else a ++ [sxL t]) []:=by
  have key:∀ (l a:List (List UInt8)),l.foldl (fun (a:List (List UInt8)) t=>bif (sxL t).isEmpty then a else a ++ [sxL t]) a=a++neL (l.map sxL):=by
    intro l
    induction l with
    | nil=>intro a;simp [neL]
    | cons t l ih=>
      intro a
      rw [List.foldl_cons,ih,List.map_cons,zIY]
      cases (sxL t).isEmpty <;> simp
  rw [key,List.nil_append]
theorem zMS {fu:Nat} {s:List UInt8} (hf:1048577≤fu) (hl:s.length≤262144):zCR fu s=some (skL s):=by
  have hle:=zFg s
  have htl:∀ t ∈ tokL s,t.length≤1048576:=fun t ht=>by have:=(zIp ht).2.1;omega
  unfold zCR skL
  rw [zHO hf hl,zA6]
  generalize tokL s=l at hle htl ⊢
  have h:=zCs (xs:=l) (g:=fun (a:List (List UInt8)) t=>bif (sxL t).isEmpty then a else a ++ [sxL t]) (Inv:=fun i a=>a.length≤i) (L:=zBF fu l) (fun k i a x hx ha=>by
    have hi:=zD4 hx
    rw [zBF,lt_t hi,cond_true,ck_t (zB9 hi),zAq hx,zMA hf (htl x (zDu hx)),zA6,isE,zAt,zCZ (show i≤4294967296 by omega),List.length_singleton,zAb (show a.length+1≤4294967296 by omega)]
    cases (sxL x).isEmpty <;> rfl) (fun i a x hx ha=>by
    show (bif (sxL x).isEmpty then a else a ++ [sxL x]).length≤i+1
    cases (sxL x).isEmpty
    · rw [cond_false,List.length_append,List.length_singleton];omega
    · exact Nat.le_succ_of_le ha) (fun k a ha=>by rw [zBF,lt_f,cond_false]) (a:=[]) (Nat.zero_le _) (show l.length<fu by omega)
  rw [h.1,zA6,← zOC,zDf hf (by have:=zIT (l.map sxL);rw [List.length_map] at this;omega),zA6]
  rfl
theorem zMh {fu:Nat} {s:List UInt8} (hf:1048577≤fu) (hl:s.length≤262144):zCT fu s=some (skL s):=by
  have hle:=zFg s
  have htl:∀ t ∈ tokL s,t.length≤1048576:=fun t ht=>by have:=(zIp ht).2.1;omega
  unfold zCT skL
  rw [zJQ hf hl,zA6]
  generalize tokL s=l at hle htl ⊢
  have h:=zCs (xs:=l) (g:=fun (a:List (List UInt8)) t=>bif (sxL t).isEmpty then a else putS bLt a (sxL t)) (Inv:=fun i a=>a.length≤i) (L:=zBB fu l) (fun k i a x hx ha=>by
    have hi:=zD4 hx
    rw [zBB,lt_t hi,cond_true,ck_t (zB9 hi),zAq hx,zMJ hf (htl x (zDu hx)),zA6,isE,zAt,zCZ (show i≤4294967296 by omega),zJR (show a.length<fu by omega) (show a.length≤2147483648 by omega),zA6]
    cases (sxL x).isEmpty <;> rfl) (fun i a x hx ha=>by
    show (bif (sxL x).isEmpty then a else putS bLt a (sxL x)).length≤i+1
    cases (sxL x).isEmpty
    · rw [cond_false]
      unfold putS putW
      cases (a[plc bLt (sxL x) a]? == some (sxL x))
      · rw [cond_false,zEI];omega
      · exact Nat.le_succ_of_le ha
    · exact Nat.le_succ_of_le ha) (fun k a ha=>by rw [zBB,lt_f,cond_false]) (a:=[]) (Nat.zero_le _) (show l.length<fu by omega)
  rw [h.1,zA6]
  congr 1
  rw [← zHI]
  unfold neL
  rw [List.foldl_filter,List.foldl_map]
  congr 1
  funext acc x
  cases (sxL x).isEmpty <;> rfl
theorem zK0 (s:List UInt8):(skL s).length≤2*s.length+1:=by
  have h1:=zFg s
  have h2:=zIT ((tokL s).map sxL)
  have h3:=zEZ (neL ((tokL s).map sxL))
  rw [List.length_map] at h2
  unfold skL
  omega
theorem zK1 {s t:List UInt8} (h:t ∈ skL s):t.length≤4:=by
  unfold skL neL at h
  rw [zEk] at h
  obtain ⟨u,_,rfl⟩:=List.mem_map.1 (List.mem_filter.1 h).1
  exact zNw u
end Go.Proofs.YtldppodfhabkjaaGreatDoor
namespace Go.Proofs.YtldppodfhabkjaaGreatDoor
open Go.RowKit
set_option linter.unusedVariables false
set_option linter.unusedSimpArgs false
def inI (x lo hi:Int):Bool:=decide (lo≤x)&&decide (x≤hi)
theorem zK7 {fu:Nat} {x lo hi:Int}:zDh fu x lo hi=some (inI x lo hi):=rfl
end Go.Proofs.YtldppodfhabkjaaGreatDoor
namespace Go.Proofs.YtldppodfhabkjaaGreatDoor
open Go.RowKit
set_option linter.unusedVariables false
set_option linter.unusedSimpArgs false
theorem zOl:∀ d:Nat,d<10→strB [IntKind.u8.wrap ((48:Int)+(d:Int))] = [UInt8.ofNat (48+d)]:=by
  intro d hd
  have:∀ d:Fin 10,strB [IntKind.u8.wrap ((48:Int)+((d.val:Nat):Int))] = [UInt8.ofNat (48+d.val)]:=by decide
  exact this ⟨d,hd⟩
theorem zMv (n:Int):(if n.tmod 10<0 then 0-n.tmod 10 else n.tmod 10)=((n.natAbs % 10:Nat):Int)∧(n.tdiv 10).natAbs=n.natAbs / 10:=by
  cases n with
  | ofNat u=>
    have h1:(Int.ofNat u).tmod 10=((u % 10:Nat):Int):=rfl
    have h2:(Int.ofNat u).tdiv 10=((u / 10:Nat):Int):=rfl
    rw [h1,h2]
    refine ⟨?_,?_⟩
    · rw [if_neg (by omega)];rfl
    · rw [Int.natAbs_natCast];rfl
  | negSucc u=>
    have h1:(Int.negSucc u).tmod 10 = -(((u+1) % 10:Nat):Int):=rfl
    have h2:(Int.negSucc u).tdiv 10 = -(((u+1) / 10:Nat):Int):=rfl
    rw [h1,h2,show (Int.negSucc u).natAbs=u+1 from rfl]
    refine ⟨?_,?_⟩
    · split <;> omega
    · rw [Int.natAbs_neg,Int.natAbs_natCast]
def decT (u:Nat):List UInt8:=if u=0 then [] else Lib.decDigits u
theorem zLH (u:Nat) (h:u ≠ 0):decT u=decT (u / 10) ++ [UInt8.ofNat (48+u % 10)]:=by
  unfold decT
  rw [if_neg h,Lib.decDigits]
  by_cases h10:u<10
  · rw [dif_pos h10,if_pos (by omega),List.nil_append,Nat.mod_eq_of_lt h10]
  · rw [dif_neg h10,if_neg (by omega)]
theorem zMx (k u:Nat) (h:u<10 ^ (k+1)):(decT u).length≤k+1:=by
  unfold decT
  split
  · simp
  · exact zEE k u h
theorem zHX {fu : Nat} : ∀ (k : Nat) (n : Int) (acc : List UInt8), n.natAbs < 10 ^ k → n.natAbs ≤ 9223372036854775808 → acc.length + k ≤ 1000 → ∀ q, k < q → zB3 fu q n acc = some (decT n.natAbs ++ acc)
  | 0,n,acc,h,hn,hl,q,hq=>by
    obtain ⟨q,rfl⟩:∃ z,q=z+1:=⟨q-1,by omega⟩
    have:n=0:=by rw [Nat.pow_zero] at h;omega
    subst this
    rw [zB3]
    rfl
  | k+1,n,acc,h,hn,hl,q,hq=>by
    obtain ⟨q,rfl⟩:∃ z,q=z+1:=⟨q-1,by omega⟩
    by_cases h0:n=0
    · subst h0
      rw [zB3]
      rfl
    · obtain ⟨h1, h2⟩ := zMv n
      have hm:n.natAbs % 10<10:=Nat.mod_lt _ (by omega)
      have hu:n.natAbs ≠ 0:=by omega
      have hd:=zOl (n.natAbs % 10) hm
      have ih:=zHX (fu:=fu) k (n.tdiv 10) ([UInt8.ofNat (48+n.natAbs % 10)]++acc) (by rw [h2];rw [Nat.pow_succ] at h;omega) (by rw [h2];omega) (by simp;omega) q (by omega)
      have hr:-9223372036854775808≤n.tdiv 10∧n.tdiv 10≤9223372036854775807:=by
        generalize n.tdiv 10=z at h2
        omega
      have hlen:zBE (([UInt8.ofNat (48+n.natAbs % 10)]:List UInt8)++acc).length=true:=zAb (by simp;omega)
      have fin:decT (n.tdiv 10).natAbs++([UInt8.ofNat (48+n.natAbs % 10)]++acc)=decT n.natAbs++acc:=by rw [h2,zLH _ hu,List.append_assoc]
      rw [zB3,show (n != (0:Int))=true from by simpa using h0,cond_true,ck_t (show ((10:Int) != 0)=true from rfl)]
      by_cases ht:n.tmod 10<0
      · rw [if_pos ht] at h1
        rw [decide_eq_true ht,cond_true,h1,ck_t (zCP (by omega) (by omega)),ck_t (zCP (by omega) (by omega)),hd,ck_t hlen,ck_t (show ((10:Int) != 0)=true from rfl),ck_t (zCP hr.1 hr.2),ih,fin]
      · rw [if_neg ht] at h1
        rw [decide_eq_false ht,cond_false,h1,ck_t (zCP (by omega) (by omega)),hd,ck_t hlen,ck_t (show ((10:Int) != 0)=true from rfl),ck_t (zCP hr.1 hr.2),ih,fin]
theorem zIE {fu:Nat} {n:Int} (hf:1048577≤fu) (h0:-9223372036854775808≤n) (h1:n≤9223372036854775807):zBT fu n=some (Lib.itoa n):=by
  unfold zBT
  by_cases hz:n=0
  · subst hz
    rw [show ((0:Int)==0)=true from rfl,cond_true]
    unfold Lib.itoa
    rw [if_neg (by decide),show (0:Int).toNat=0 from rfl,Lib.decDigits,dif_pos (by decide)]
    rfl
  · have hd := zHX (fu := fu) 20 n [] (by omega) (by omega) (by simp) fu (by omega)
    have hl:=zMx 19 n.natAbs (by omega)
    rw [List.append_nil] at hd
    have hu:n.natAbs ≠ 0:=by omega
    have e:decT n.natAbs=Lib.decDigits n.natAbs:=if_neg hu
    rw [show (n==(0:Int))=false from by simpa using hz,cond_false,hd,zA6]
    unfold Lib.itoa
    by_cases hneg:n<0
    · rw [decide_eq_true hneg, cond_true, if_pos hneg, ck_t (zAb (by simp; omega)), e]
      rfl
    · rw [decide_eq_false hneg,cond_false,if_neg hneg,e,show n.natAbs=n.toNat from by omega]
theorem zIs {fu:Nat} {n:Int} (h0:-9223372036854775808≤n) (h1:n≤9223372036854775807):zBn fu n=some (Lib.itoa n):=by
  unfold zBn zLg
  rw [ck_t (zCP h0 h1)]
  rfl
theorem zNt {n:Int} (h0:-9223372036854775808≤n) (h1:n≤9223372036854775807):(Lib.itoa n).length≤21:=zKM h0 h1
end Go.Proofs.YtldppodfhabkjaaGreatDoor
namespace Go.Proofs.YtldppodfhabkjaaGreatDoor
open Go.RowKit
set_option linter.unusedVariables false
set_option linter.unusedSimpArgs false
def IsI (s:List UInt8) (n:Int):Prop:=Lib.itoa n=s∧-999999999≤n∧n≤999999999
theorem zHl (d:Nat) (h:d<10):(UInt8.ofNat (48+d)).toNat=48+d:=by
  rw [UInt8.toNat_ofNat']
  omega
theorem zGO {u:Nat} (h:u<10):Lib.decDigits u = [UInt8.ofNat (48+u)]:=by rw [Lib.decDigits,dif_pos h]
theorem zIQ {u:Nat} (h:¬ u<10):Lib.decDigits u=Lib.decDigits (u / 10) ++ [UInt8.ofNat (48+u % 10)]:=by rw [Lib.decDigits,dif_neg h]
theorem zLq (u:Nat):∀ c ∈ Lib.decDigits u,48≤c.toNat∧c.toNat≤57:=by
  induction u using Nat.strongRecOn with
  | _ u ih=>
    intro c hc
    by_cases h:u<10
    · rw [zGO h] at hc
      rw [List.mem_singleton.1 hc,zHl u h]
      omega
    · rw [zIQ h] at hc
      rcases List.mem_append.1 hc with hc | hc
      · exact ih (u / 10) (by omega) c hc
      · rw [List.mem_singleton.1 hc, zHl _ (Nat.mod_lt _ (by omega))]
        omega
theorem zLI (u:Nat):Lib.decDigits u ≠ []:=by
  by_cases h:u<10
  · rw [zGO h];simp
  · rw [zIQ h];simp
def scS (p:Nat × Nat) (c:UInt8):Nat × Nat:=if 48≤c.toNat∧c.toNat≤57 then (p.1*10+(c.toNat-48),p.2+1) else p
theorem zN0 (u:Nat):(Lib.decDigits u).foldl scS (0,0)=(u,(Lib.decDigits u).length):=by
  induction u using Nat.strongRecOn with
  | _ u ih=>
    by_cases h:u<10
    · rw [zGO h]
      have:=zHl u h
      simp only [List.foldl_cons,List.foldl_nil,scS,this,List.length_singleton]
      rw [if_pos (by omega)]
      simp
    · have hd := zHl (u % 10) (Nat.mod_lt _ (by omega))
      rw [zIQ h,List.foldl_append,ih (u / 10) (by omega)]
      simp only [List.foldl_cons,List.foldl_nil,scS,hd,List.length_append,List.length_singleton]
      rw [if_pos (by omega)]
      congr 1
      omega
theorem zOW : ∀ (s : List UInt8) (p : Nat × Nat), p.1 < 10 ^ p.2 → (s.foldl scS p).1 < 10 ^ (s.foldl scS p).2
  | [],p,h=>h
  | c::s,p,h=>by
    rw [List.foldl_cons]
    refine zOW s _ ?_
    unfold scS
    split
    · show p.1 * 10 + (c.toNat - 48) < 10 ^ (p.2 + 1)
      rw [Nat.pow_succ]
      omega
    · exact h
theorem zNG : ∀ (s : List UInt8) (p : Nat × Nat), (s.foldl scS p).2 ≤ p.2 + s.length
  | [],p=>Nat.le_refl _
  | c::s,p=>by
    have:=zNG s (scS p c)
    rw [List.foldl_cons,List.length_cons]
    have h:(scS p c).2≤p.2+1:=by
      unfold scS
      split
      · exact Nat.le_refl _
      · exact Nat.le_succ _
    omega
theorem zKA {k:Nat} (h:k≤11):10 ^ k≤100000000000:=Nat.le_trans (Nat.pow_le_pow_right (by omega) h) (by omega)
theorem zOE {fu : Nat} {s : List UInt8} (hs : s.length ≤ 1048576) : ∀ m i k (p : Nat × Nat), (i + m = s.length ∨ (m = 0 ∧ 11 ≤ i)) → i ≤ 11 → m < k → p.1 < 10 ^ p.2 → p.2 ≤ i → (s.take 11).take i = s.take i →
    zAm fu s k (p.1:Int) (p.2:Int) (i:Int)=some (((((s.take 11).drop i).foldl scS p).1:Int),((((s.take 11).drop i).foldl scS p).2:Int)):=by
  intro m
  induction m with
  | zero=>
    intro i k p hi h11 hk hp hpi ht
    obtain ⟨k,rfl⟩:∃ z,k=z+1:=⟨k-1,by omega⟩
    have hd:(s.take 11).drop i = []:=List.drop_eq_nil_of_le (by rw [List.length_take];omega)
    have hc:(decide ((i:Int)<(s.length:Int))&&decide ((i:Int)<11))=false:=by
      rw [Bool.and_eq_false_imp,decide_eq_true_eq,decide_eq_false_iff_not]
      omega
    rw [zAm,zCm,hc,cond_false,hd]
    rfl
  | succ m ih=>
    intro i k p hi h11 hk hp hpi ht
    obtain ⟨k,rfl⟩:∃ z,k=z+1:=⟨k-1,by omega⟩
    have hlt:i<s.length:=by omega
    by_cases h:i<11
    · have hc:(decide ((i:Int)<(s.length:Int))&&decide ((i:Int)<11))=true:=by
        rw [Bool.and_eq_true,decide_eq_true_eq,decide_eq_true_eq]
        omega
      have hx:=List.getElem?_eq_getElem hlt
      have hb:=zIN hx
      have h256:s[i].toNat<256:=UInt8.toNat_lt _
      have hdrop:(s.take 11).drop i=s[i]::(s.take 11).drop (i+1):=by
        rw [List.drop_eq_getElem_cons (by rw [List.length_take];omega),List.getElem_take]
      have hpb:p.1≤100000000000:=Nat.le_of_lt (Nat.lt_of_lt_of_le hp (zKA (by omega)))
      have hw:IntKind.i64.wrap (IntKind.u8.wrap ((s[i].toNat:Int)-48))=((s[i].toNat-48:Nat):Int)∨s[i].toNat<48:=by
        rcases Nat.lt_or_ge s[i].toNat 48 with h' | h'
        · exact .inr h'
        · left
          have e:((s[i].toNat:Int)-48)=((s[i].toNat-48:Nat):Int):=by omega
          rw [e]
          have h1:IntKind.u8.wrap ((s[i].toNat-48:Nat):Int)=((s[i].toNat-48:Nat):Int):=by
            unfold IntKind.wrap
            simp [IntKind.bits,IntKind.signed]
            omega
          rw [h1]
          exact IntWalk.i64_in _ (by omega)
      have hnext:∀ q:Nat × Nat,q.1<10 ^ q.2→q.2≤i+1→zAm fu s k (q.1:Int) (q.2:Int) ((i+1:Nat):Int)=some (((((s.take 11).drop (i+1)).foldl scS q).1:Int),((((s.take 11).drop (i+1)).foldl scS q).2:Int)):=fun q h1 h2=>
        ih (i+1) k q (by omega) (by omega) (by omega) h1 h2 (by rw [List.take_take,Nat.min_eq_left (by omega)])
      rw [zAm,zCm,hc,cond_true,ck_t (zB9 hlt),hb,ck_t (by rw [zB9 hlt,Bool.or_true]),zCm,hdrop,List.foldl_cons]
      by_cases hdg:48≤s[i].toNat∧s[i].toNat≤57
      · have hd:(decide ((48:Int)≤(s[i].toNat:Int))&&decide ((s[i].toNat:Int)≤57))=true:=by
          rw [Bool.and_eq_true,decide_eq_true_eq,decide_eq_true_eq]
          omega
        have hw':=hw.resolve_right (by omega)
        have e:scS p s[i]=(p.1*10+(s[i].toNat-48),p.2+1):=if_pos hdg
        have hq:=hnext (p.1*10+(s[i].toNat-48),p.2+1) (by show _<10 ^ (p.2+1);rw [Nat.pow_succ];omega) (by show p.2+1≤i+1;omega)
        rw [hd,cond_true,hw',ck_t (zCP (by omega) (by omega)),ck_t (zB9 hlt),ck_t (zCP (by omega) (by omega)),ck_t (zCP (by omega) (by omega)),ck_t (zCU (by omega)),e,← hq]
        congr 1
      · have hd:(decide ((48:Int)≤(s[i].toNat:Int))&&decide ((s[i].toNat:Int)≤57))=false:=by
          rw [Bool.and_eq_false_imp,decide_eq_true_eq,decide_eq_false_iff_not]
          omega
        have e:scS p s[i]=p:=if_neg hdg
        rw [hd,cond_false,ck_t (zCU (by omega)),e,zAt]
        exact hnext p hp (by omega)
    · have hd : (s.take 11).drop i = [] := List.drop_eq_nil_of_le (by rw [List.length_take]; omega)
      have hc:(decide ((i:Int)<(s.length:Int))&&decide ((i:Int)<11))=false:=by
        rw [Bool.and_eq_false_imp,decide_eq_true_eq,decide_eq_false_iff_not]
        omega
      rw [zAm,zCm,hc,cond_false,hd]
      rfl
theorem zKE {n:Int} (h:0≤n):Lib.itoa n=Lib.decDigits n.toNat:=by unfold Lib.itoa;rw [if_neg (by omega)]
theorem zJT {n:Int} (h:n<0):Lib.itoa n=45::Lib.decDigits n.natAbs:=by unfold Lib.itoa;rw [if_pos h]
theorem zMp {u:Nat} (h:u≤999999999):(Lib.decDigits u).length≤9:=zEE 8 u (by omega)
theorem zIf {s:List UInt8} {n:Int} (h:IsI s n):s.length≤10∧0<s.length∧s.foldl scS (0,0)=(n.natAbs,(Lib.decDigits n.natAbs).length)∧(Lib.decDigits n.natAbs).length≤9∧(s[0]? = some 45 ↔ n<0):=by
  obtain ⟨rfl,h1,h2⟩:=h
  have hl:=zMp (u:=n.natAbs) (by omega)
  have hp:=List.length_pos_iff.2 (zLI n.natAbs)
  by_cases hn:n<0
  · rw [zJT hn]
    refine ⟨by simp;omega,by simp,?_,hl,by simp [hn]⟩
    rw [List.foldl_cons,show scS (0,0) 45=(0,0) from rfl,zN0]
  · rw [zKE (by omega), show n.toNat = n.natAbs by omega]
    refine ⟨by omega,hp,zN0 _,hl,?_⟩
    constructor
    · intro h
      have:=zLq n.natAbs 45 (List.mem_of_getElem? h)
      exact absurd this.1 (by decide)
    · intro h;omega
def RdI (s:List UInt8) (r:Int × Bool):Prop:=(∃ n,IsI s n∧r=(n,true))∨((∀ n,¬ IsI s n)∧r=(0,false))
theorem zNM {s:List UInt8} {n m:Int} (h:IsI s n) (k:IsI s m):n=m:=by
  have a:=zIf h
  have b:=zIf k
  have e:n.natAbs=m.natAbs:=by
    have:=a.2.2.1.symm.trans b.2.2.1
    injection this
  have:=a.2.2.2.2
  have:=b.2.2.2.2
  by_cases hs:s[0]? = some 45
  · have := a.2.2.2.2.1 hs
    have:=b.2.2.2.2.1 hs
    omega
  · have h1 : ¬ n < 0 := fun h => hs (a.2.2.2.2.2 h)
    have h2:¬ m<0:=fun h=>hs (b.2.2.2.2.2 h)
    omega
theorem RdI.one {s:List UInt8} {r q:Int × Bool} (h:RdI s r) (k:RdI s q):r=q:=by
  rcases h with ⟨n,h1,rfl⟩ | ⟨h1,rfl⟩ <;> rcases k with ⟨m,k1,rfl⟩ | ⟨k1,rfl⟩
  · rw [zNM h1 k1]
  · exact absurd h1 (k1 n)
  · exact absurd k1 (h1 m)
  · rfl
theorem RdI.no {s:List UInt8} (h:RdI s (0,false)):∀ n,¬ IsI s n:=by
  rcases h with ⟨n,_,h⟩ | ⟨h,_⟩
  · cases h
  · exact h
theorem zMa {fu:Nat} {s:List UInt8} (hf:1048577≤fu) (hs:s.length≤1048576):∃ r,zD9 fu s=some r∧RdI s r:=by
  have hsc:=zOE (fu:=fu) hs s.length 0 fu (0,0) (.inl (by omega)) (by omega) (by omega) (by decide) (Nat.le_refl _) (by simp)
  rw [List.drop_zero] at hsc
  have hlt:=zOW (s.take 11) (0,0) (by decide)
  have hct:=zNG (s.take 11) (0,0)
  have htk:(s.take 11).length≤11:=by rw [List.length_take];omega
  generalize hp:(s.take 11).foldl scS (0,0)=p at hsc hlt hct
  have hpb:p.1≤100000000000:=Nat.le_of_lt (Nat.lt_of_lt_of_le hlt (zKA (by omega)))
  have hM:zAm fu s fu 0 0 0=some ((p.1:Int),(p.2:Int)):=hsc
  have h45:((decide ((0:Int)<(s.length:Int)))&&((bAt s (0:Int))==(45:Int)))=decide (s[0]? = some 45):=by
    cases s with
    | nil=>rfl
    | cons b l=>
      have hb:bAt (b::l) (0:Int)=(b.toNat:Int):=zIN (i:=0) rfl
      rw [hb,decide_eq_true (by simp),Bool.true_and]
      by_cases e:b=45
      · subst e;rfl
      · rw [decide_eq_false (by simpa using e), beq_eq_false_iff_ne]
        intro h
        exact e (UInt8.toNat_inj.1 (by show b.toNat=45;omega))
  have hck:(!(true&&((decide ((0:Int)<(s.length:Int)))==true)) || inR (0:Int) s.length)=true:=by
    cases s with
    | nil=>rfl
    | cons b l=>rw [zDd.2 ⟨Int.le_refl _,by simp⟩,Bool.or_true]
  have arm : ∀ z : Int, (z = (p.1 : Int) ∧ s[0]? ≠ some 45) ∨ (z = 0 - (p.1 : Int) ∧ s[0]? = some 45) →
      ∃ r,(bd ((decide ((9:Int)<(p.2:Int))) || (decide ((10:Int)<(s.length:Int)))) fun x33=>
        cl (true&&(x33==false)) (zBT fu z) fun x35=>
        bd (x33 || (!(x35==s))) fun x37=>
        bif x37 then (some ((0:Int),false)) else (some (z,true)))=some r∧RdI s r:=by
    intro z hz
    rw [zCm]
    have key:∀ n,IsI s n→n=z∧p.2≤9∧s.length≤10:=fun n hn=>by
      obtain ⟨a1,a2,a3,a4,a5⟩:=zIf hn
      rw [List.take_of_length_le (by omega),a3] at hp
      subst hp
      refine ⟨?_,a4,a1⟩
      rcases hz with ⟨rfl,h⟩ | ⟨rfl,h⟩
      · have : ¬ n < 0 := fun hn => h (a5.2 hn)
        show n=(n.natAbs:Int)
        omega
      · have := a5.1 h
        show n=0-(n.natAbs:Int)
        omega
    cases hg:(decide ((9:Int)<(p.2:Int))) || (decide ((10:Int)<(s.length:Int)))
    · rw [Bool.or_eq_false_iff, decide_eq_false_iff_not, decide_eq_false_iff_not] at hg
      have h9:p.1<1000000000:=Nat.lt_of_lt_of_le hlt (Nat.le_trans (Nat.pow_le_pow_right (n:=10) (by omega) (show p.2≤9 by omega)) (by omega))
      rw [show (true&&(false==false))=true from rfl,zIE hf (by omega) (by omega),zA6,zCm,Bool.false_or]
      cases he:Lib.itoa z==s
      · refine ⟨_, by rw [Bool.not_false, cond_true], .inr ⟨fun n hn => ?_, rfl⟩⟩
        obtain ⟨rfl,_⟩:=key n hn
        rw [hn.1,beq_self_eq_true] at he
        cases he
      · exact ⟨_,by rw [Bool.not_true,cond_false],.inl ⟨z,⟨by simpa using he,by omega,by omega⟩,rfl⟩⟩
    · rw [show (true && (true == false)) = false from rfl, zKW, zCm, Bool.true_or, cond_true]
      refine ⟨_,rfl,.inr ⟨fun n hn=>?_,rfl⟩⟩
      obtain ⟨_,h1,h2⟩:=key n hn
      rw [Bool.or_eq_true,decide_eq_true_eq,decide_eq_true_eq] at hg
      omega
  unfold zD9
  rw [hM,zA6,ck_t hck,zCm,h45]
  by_cases hs0:s[0]? = some 45
  · rw [decide_eq_true hs0, cond_true, ck_t (zCP (by omega) (by omega))]
    exact arm _ (.inr ⟨rfl,hs0⟩)
  · rw [decide_eq_false hs0, cond_false]
    exact arm _ (.inl ⟨rfl,hs0⟩)
theorem zLC : ∀ (xs : List UInt8) (acc v d : Nat), Lib.parseUint10 acc xs = .ok v → v < 1000000000 → d < 10 → Lib.parseUint10 acc (xs ++ [UInt8.ofNat (48 + d)]) = .ok (v * 10 + d)
  | [],acc,v,d,h,hv,hd=>by
    simp only [Lib.parseUint10] at h
    injection h with h
    subst h
    have:=zHl d hd
    simp only [List.nil_append,Lib.parseUint10,this]
    rw [if_pos (by omega),if_neg (by omega),if_neg (by omega)]
    congr 1
    omega
  | c::xs,acc,v,d,h,hv,hd=>by
    rw [List.cons_append]
    simp only [Lib.parseUint10] at h ⊢
    split at h
    · rename_i h1
      rw [if_pos h1]
      split at h
      · cases h
      · rename_i h2
        rw [if_neg h2]
        split at h
        · cases h
        · rename_i h3
          rw [if_neg h3]
          exact zLC xs _ v d h hv hd
    · cases h
theorem zO5 (u:Nat) (h:u≤999999999):Lib.parseUint10 0 (Lib.decDigits u) = .ok u:=by
  induction u using Nat.strongRecOn with
  | _ u ih=>
    by_cases h10:u<10
    · rw [zGO h10]
      have:=zLC [] 0 0 u rfl (by omega) h10
      rw [List.nil_append] at this
      simpa using this
    · rw [zIQ h10, zLC _ 0 (u / 10) (u % 10) (ih (u / 10) (by omega) (by omega)) (by omega) (Nat.mod_lt _ (by omega))]
      congr 1
      omega
theorem zLu {n:Int} (h1:-999999999≤n) (h2:n≤999999999):Lib.atoiAll (Lib.itoa n) = .ok n:=by
  have hm:∀ u:Nat,u≤999999999→Lib.parseMag (Lib.decDigits u) = .ok u:=fun u hu=>by
    unfold Lib.parseMag
    rw [if_neg (zLI u),zO5 u hu]
  by_cases hn:n<0
  · rw [zJT hn]
    unfold Lib.atoiAll
    simp only [show ((45:UInt8).toNat=43∨(45:UInt8).toNat=45)=True from by simp,if_true,hm n.natAbs (by omega)]
    simp only [show ((45:UInt8).toNat=45)=True from by simp,not_true,false_and,if_false,true_and,if_true]
    rw [if_neg (by omega)]
    congr 1
    omega
  · rw [zKE (by omega)]
    have hne:=zLI n.toNat
    have hdg:=zLq n.toNat
    have hm':=hm n.toNat (by omega)
    cases hd:Lib.decDigits n.toNat with
    | nil=>exact absurd hd hne
    | cons c r=>
      rw [hd] at hdg hm'
      have hc:=hdg c List.mem_cons_self
      unfold Lib.atoiAll
      simp only []
      rw [if_neg (by omega),hm']
      simp only []
      rw [if_neg (by omega),if_neg (by omega),if_neg (by omega)]
      congr 1
      omega
theorem zMX {s:List UInt8} {v:Int} (h:Lib.atoiAll s = .ok v):-9223372036854775808≤v∧v≤9223372036854775807:=by
  unfold Lib.atoiAll at h
  cases s with
  | nil=>cases h
  | cons c r=>
    simp only [] at h
    cases hm:Lib.parseMag (if c.toNat=43∨c.toNat=45 then r else c::r) with
    | ok u=>
      rw [hm] at h
      simp only [] at h
      split at h
      · cases h
      · split at h
        · cases h
        · injection h with h
          split at h <;> omega
    | _=>rw [hm] at h;cases h
theorem zMI {fu:Nat} {s:List UInt8} (hs:s.length≤1048576):∃ r,zD7 fu s=some r∧RdI s r:=by
  unfold zD7 zM0
  rw [ck_t (zAb (by omega)),zA6]
  have no:∀ n,IsI s n→Lib.atoiAll s = .ok n:=fun n hn=>by rw [← hn.1];exact zLu hn.2.1 hn.2.2
  have bad:∀ a:Int,(∀ n,¬ IsI s n)→∃ r,(cl (true&&(true==false)) (zBn fu a) fun x4=>
      bd (true || (!(x4==s))) fun x6=>
      cl (true&&(x6==false)) (zBh fu a (-999999999:Int) (999999999:Int)) fun x8=>
      bd (x6 || (!x8)) fun x10=>
      bif x10 then (some ((0:Int),false)) else (some (a,true)))=some r∧RdI s r:=fun a h=>⟨_,rfl,.inr ⟨h,rfl⟩⟩
  cases hc:Lib.atoiAll s with
  | range=>
    have e:zIx s=(Lib.atoiSat s,true):=by unfold zIx;rw [hc]
    rw [e]
    exact bad _ fun n hn=>by rw [no n hn] at hc;cases hc
  | ok v=>
    have e:zIx s=(v,false):=by unfold zIx;rw [hc]
    have hv:=zMX hc
    rw [e]
    dsimp only
    rw [show (true&&(false==false))=true from rfl,zIs hv.1 hv.2,zA6,zCm,Bool.false_or]
    have key:∀ n,IsI s n→n=v:=fun n hn=>by
      have:=(no n hn).symm.trans hc
      injection this
    cases he:Lib.itoa v==s
    · rw [Bool.not_false, show (true && (true == false)) = false from rfl, zKW, zCm, Bool.true_or, cond_true]
      refine ⟨_,rfl,.inr ⟨fun n hn=>?_,rfl⟩⟩
      obtain rfl:=key n hn
      rw [hn.1,beq_self_eq_true] at he
      cases he
    · rw [Bool.not_true, show (true && (false == false)) = true from rfl, show zBh fu v (-999999999) 999999999 = some (decide (-999999999 ≤ v) && decide (v ≤ 999999999)) from rfl, zA6, zCm, Bool.false_or]
      cases hw:decide (-999999999≤v)&&decide (v≤999999999)
      · rw [Bool.not_false, cond_true]
        refine ⟨_,rfl,.inr ⟨fun n hn=>?_,rfl⟩⟩
        obtain rfl:=key n hn
        rw [decide_eq_true hn.2.1,decide_eq_true hn.2.2] at hw
        cases hw
      · rw [Bool.not_true, cond_false]
        rw [Bool.and_eq_true,decide_eq_true_eq,decide_eq_true_eq] at hw
        exact ⟨_,rfl,.inl ⟨v,⟨by simpa using he,hw.1,hw.2⟩,rfl⟩⟩
  | _=>
    have e:zIx s=(0,true):=by unfold zIx;rw [hc]
    rw [e]
    exact bad 0 fun n hn=>by rw [no n hn] at hc;cases hc
end Go.Proofs.YtldppodfhabkjaaGreatDoor
namespace Go.Proofs.YtldppodfhabkjaaGreatDoor
open Go.RowKit
set_option linter.unusedVariables false
set_option linter.unusedSimpArgs false
theorem zGI {fu:Nat} {x lo hi:Int}:zBh fu x lo hi=some (inI x lo hi):=rfl
theorem zOQ {n:Int} (h0:-9223372036854775808≤n) (h1:n≤9223372036854775807):IntKind.i64.wrap n=n:=IntWalk.i64_in _ (by omega)
def ntC (c:UInt8):Bool:=!(inI c.toNat 32 126)
def txB (s:List UInt8):Bool:=!(s.any ntC)&&decide (s.length≤40)
theorem zOY {n:Nat}:decide ((n:Int)≤(40:Int))=decide (n≤40):=by
  by_cases h:n≤40
  · rw [decide_eq_true h,decide_eq_true (by omega)]
  · rw [decide_eq_false h,decide_eq_false (by omega)]
theorem zMq {fu:Nat} {s:List UInt8} (hf:s.length<fu) (hl:s.length≤1048576):zDp fu s=some (txB s):=by
  unfold zDp
  have h:=zFh (xs:=s) (p:=ntC) (r:=false) (L:=zCB fu s) (fun k i c hc=>by
    have hi:=zD4 hc
    have hcu:c.toNat<256:=c.toNat_lt
    rw [zCB,lt_t hi,cond_true,ck_t (zB9 hi),zEL hc,zOQ (by omega) (by omega),zGI,zA6,zAt,ck_t (zCZ (by omega))]
    rfl) (fun k=>by rw [zCB,lt_f];rfl) hf
  rw [h,zA6,zOY]
  unfold txB
  cases s.any ntC <;> rfl
theorem zMk {fu:Nat} {s:List UInt8} (hf:s.length<fu) (hl:s.length≤1048576):zDt fu s=some (txB s):=by
  unfold zDt
  have h:=zFh (xs:=s) (p:=ntC) (r:=false) (L:=zCC fu s) (fun k i c hc=>by
    have hi:=zD4 hc
    have e:(decide ((c.toNat:Int)<(32:Int)) || decide ((126:Int)<(c.toNat:Int)))=ntC c:=by
      unfold ntC inI
      by_cases h1:(32:Int)≤(c.toNat:Int)
      · by_cases h2 : (c.toNat : Int) ≤ 126
        · rw [decide_eq_true h1,decide_eq_true h2,decide_eq_false (by omega),decide_eq_false (by omega)];rfl
        · rw [decide_eq_true h1,decide_eq_false h2,decide_eq_false (by omega),decide_eq_true (by omega)];rfl
      · rw [decide_eq_false h1,decide_eq_true (by omega),Bool.true_or,Bool.false_and];rfl
    rw [zCC,lt_t hi,cond_true,ck_t (zB9 hi),zB9 hi,Bool.or_true,zD5,zEL hc,zCm,e,zAt,ck_t (zCZ (by omega))]) (fun k=>by rw [zCC,lt_f];rfl) hf
  rw [h,zA6,zOY]
  unfold txB
  cases s.any ntC <;> rfl
def pcC (c:UInt8):Bool:=((c.toNat:Int)==(124:Int)) || ((c.toNat:Int)==(59:Int))
def flB (s:List UInt8):Bool:=txB s && !(s.any pcC)
theorem zOF (c:UInt8):([124,59]:List UInt8).contains c=pcC c:=by
  revert c
  refine zKY ?_
  decide +kernel
theorem zNA : ∀ s : List UInt8, Lib.containsAny s [124, 59] = s.any pcC
  | []=>rfl
  | b::l=>by
    have ih:=zNA l
    have hg:=Lib.indexAny_ge [124,59] l
    unfold Lib.containsAny at ih ⊢
    rw [Lib.indexAny,List.any_cons,← ih,zOF]
    cases pcC b
    · rw [if_neg (by decide), Bool.false_or]
      by_cases h:Lib.indexAny l [124,59] = -1
      · rw [if_pos (by simpa using h),h]
      · rw [if_neg (by simpa using h),decide_eq_true (by omega),decide_eq_true (by omega)]
    · rw [if_pos rfl];rfl
theorem zN3 {s:List UInt8} (h:txB s=true):(s.all fun b=>decide (b.toNat<128))=true∧s.length≤40:=by
  unfold txB at h
  rw [Bool.and_eq_true,decide_eq_true_eq,Bool.not_eq_true',List.any_eq_false] at h
  refine ⟨?_,h.2⟩
  rw [List.all_eq_true]
  intro b hb
  have:=h.1 b hb
  unfold ntC inI at this
  rw [Bool.not_eq_true,Bool.not_eq_false',Bool.and_eq_true,decide_eq_true_eq,decide_eq_true_eq] at this
  exact decide_eq_true (by omega)
theorem zMf {fu:Nat} {s:List UInt8} (hf:s.length<fu) (hl:s.length≤1048576):zDP fu s=some (flB s):=by
  unfold zDP flB
  rw [zMq hf hl,zA6]
  cases h:txB s with
  | false=>rfl
  | true=>
    obtain ⟨h1,h2⟩:=zN3 h
    unfold zF4
    rw [h1,decide_eq_true (show s.length<4294967281 by omega),show ((true&&decide (([124,59]:List UInt8).length<4294967281))&&true&&(([124,59]:List UInt8).all fun b=>decide (b.toNat<128)))=true from rfl,zD5,zNA]
    rfl
theorem zMZ {fu:Nat} {s:List UInt8} (hf:s.length<fu) (hl:s.length≤1048576):zDX fu s=some (flB s):=by
  unfold zDX
  have h:=zFh (xs:=s) (p:=pcC) (r:=false) (L:=zBs fu s) (fun k i c hc=>by
    have hi:=zD4 hc
    rw [zBs,lt_t hi,cond_true,ck_t (zB9 hi),zB9 hi,Bool.or_true,zD5,zEL hc,zCm,zAt,ck_t (zCZ (by omega))]
    rfl) (fun k=>by rw [zBs,lt_f];rfl) hf
  rw [h,zA6,zMk hf hl]
  unfold flB
  cases s.any pcC
  · rw [Bool.not_false,Bool.and_true];rfl
  · rw [Bool.not_true,Bool.and_false];rfl
abbrev RecT:=Int × Int × Int × List (List UInt8)
def recB (r:RecT):Bool:=((inI r.1 0 3&&inI r.2.1 1 99)&&inI r.2.2.1 1 999)&&(((r.2.2.2.length:Int)==(4:Int)) && !(r.2.2.2.any fun s=>!(flB s)))
def zJL (r:RecT):Prop:=r.2.2.2.length≤1048576∧∀ s ∈ r.2.2.2,s.length≤1048576
theorem zJn {fu:Nat} {l:List (List UInt8)} {F:List UInt8→Option Bool} {p:List UInt8→Bool} (hF:∀ x ∈ l,F x=some (p x)) (hf:l.length<fu) (hl:l.length≤1048576):zAj fu l F=some (l.any p):=by
  unfold zAj zBA
  have h:=zM3 (xs:=l) (p:=p) (L:=zAP fu l F) (fun k i y hy=>by
    have hi:=zD4 hy
    rw [zAP,lt_t hi,cond_true,ck_t (zB9 hi),zAq hy,hF y (zDu hy),zA6,zAt,ck_t (zCZ (by omega))]) (fun k=>by rw [zAP,lt_f];rfl) hf
  rw [h,zA6]
  cases hi:ixI 0 (l.map p) with
  | none=>
    have h2:=zIl hi
    have:l.any p=false:=by
      rw [List.any_eq_false]
      intro y hy
      have:=h2 (p y) (List.mem_map_of_mem hy)
      simp [this]
    rw [this]
    rfl
  | some j=>
    obtain ⟨_,h2,_⟩:=zIM hi
    have:l.any p=true:=by
      rw [Nat.sub_zero,List.getElem?_map] at h2
      obtain ⟨y,hy,e⟩:=Option.map_eq_some_iff.1 h2
      rw [List.any_eq_true]
      exact ⟨y,List.mem_of_getElem? hy,e⟩
    rw [this]
    show some (decide (0≤(j:Int)))=some true
    rw [decide_eq_true (by omega)]
theorem zLV {fu:Nat} {r:RecT} (hf:1048577≤fu) (h:zJL r):zCG fu r=some (recB r):=by
  unfold zCG recB
  rw [zGI,zGI,zGI,zJn (p:=fun s=>!(flB s)) (fun s hs=>by
    unfold zCO
    rw [zMf (by have:=h.2 s hs;omega) (h.2 s hs)]
    rfl) (by have:=h.1;omega) h.1]
  generalize inI r.1 0 3=a
  generalize inI r.2.1 1 99=b
  generalize inI r.2.2.1 1 999=c
  generalize ((r.2.2.2.length:Int)==(4:Int))=d
  generalize (r.2.2.2.any fun s=>!(flB s))=e
  cases a <;> cases b <;> cases c <;> cases d <;> cases e <;> rfl
theorem zIw {fu:Nat} {r:RecT} (hf:1048577≤fu) (h:zJL r):zBj fu r=some (recB r):=by
  unfold zBj recB
  have hl:=zFh (xs:=r.2.2.2) (p:=fun s=>!(flB s)) (r:=false) (L:=zB2 fu r) (fun k i s hs=>by
    have hi:=zD4 hs
    have h1:=h.1
    have h2:=h.2 s (zDu hs)
    rw [zB2,lt_t hi,cond_true,ck_t (zB9 hi),zAq hs,zMZ (by omega) h2,zA6,zAt,ck_t (zCZ (by omega))]) (fun k=>by rw [zB2,lt_f];rfl) (show r.2.2.2.length<fu by have:=h.1;omega)
  rw [hl,zA6,zK7,zK7,zK7]
  generalize inI r.1 0 3=a
  generalize inI r.2.1 1 99=b
  generalize inI r.2.2.1 1 999=c
  generalize ((r.2.2.2.length:Int)==(4:Int))=d
  generalize (r.2.2.2.any fun s=>!(flB s))=e
  cases a <;> cases b <;> cases c <;> cases d <;> cases e <;> rfl
theorem zKu {r:RecT} (h:recB r=true):∃ a b c d:List UInt8,r.2.2.2 = [a,b,c,d]∧a.length≤40∧b.length≤40∧c.length≤40∧d.length≤40:=by
  unfold recB at h
  rw [Bool.and_eq_true] at h
  obtain ⟨_,h⟩:=h
  rw [Bool.and_eq_true,Bool.not_eq_true',List.any_eq_false] at h
  obtain ⟨h1,h2⟩:=h
  have hl:∀ s ∈ r.2.2.2,s.length≤40:=fun s hs=>by
    have:=h2 s hs
    unfold flB at this
    rw [Bool.not_eq_true,Bool.not_eq_false',Bool.and_eq_true] at this
    exact (zN3 this.1).2
  rw [beq_iff_eq] at h1
  generalize r.2.2.2=l at h1 hl
  match l,h1,hl with
  | [a,b,c,d],_,hl=>exact ⟨a,b,c,d,rfl,hl a (by simp),hl b (by simp),hl c (by simp),hl d (by simp)⟩
  | [],h1,_=>simp at h1
  | [_],h1,_=>simp at h1
  | [_,_],h1,_=>simp at h1
  | [_,_,_],h1,_=>simp at h1
  | _::_::_::_::_::_,h1,_=>simp at h1;omega
def dgC (c:UInt8):Bool:=dgI c.toNat
def dgL (s:List UInt8):List UInt8:=s.filter dgC
theorem zNF (s:List UInt8):dgL s=s.foldl (fun (a:List UInt8) c=>bif dgC c then a ++ [c] else a) []:=by
  have key:∀ (s a:List UInt8),s.foldl (fun (a:List UInt8) c=>bif dgC c then a ++ [c] else a) a=a++s.filter dgC:=by
    intro s
    induction s with
    | nil=>intro a;simp
    | cons c s ih=>
      intro a
      rw [List.foldl_cons,ih,List.filter_cons]
      cases dgC c <;> simp
  rw [key,List.nil_append]
  rfl
theorem zMP {fu:Nat} {s:List UInt8} (hf:s.length<fu) (hl:s.length≤1048576):zDA fu s=some (dgL s):=by
  unfold zDA
  have h:=zCs (xs:=s) (g:=fun (a:List UInt8) c=>bif dgC c then a ++ [c] else a) (Inv:=fun i a=>a.length≤i) (L:=fun k i (a:List UInt8)=>(zAy fu s k i (bytL a)).map strB) (fun k i a c hc ha=>by
    have hi:=zD4 hc
    rw [zAy,lt_t hi,cond_true,ck_t (zB9 hi),zB9 hi,zD5,zEL hc,show zD2 fu (c.toNat:Int)=some (dgC c) from rfl,zA6,zAb (by rw [zBx];show a.length+1≤4294967296;omega),zD5,zAt,zCZ (show i≤4294967296 by omega),zD5,zD5]
    cases dgC c
    · rfl
    · rw [cond_true,cond_true,zEj,zDK]) (fun i a c hc ha=>by
    show (bif dgC c then a ++ [c] else a).length≤i+1
    cases dgC c
    · exact Nat.le_succ_of_le ha
    · rw [cond_true,List.length_append,List.length_singleton];omega) (fun k a ha=>by rw [zAy,lt_f,cond_false,Option.map_some,zDl]) (a:=[]) (Nat.zero_le _) hf
  rw [zNF,← h.1]
  show cl true (zAy fu s fu 0 (bytL [])) _=_
  cases zAy fu s fu 0 (bytL []) <;> rfl
theorem zMn {fu:Nat} {s:List UInt8} (hf:s.length<fu) (hl:s.length≤1048576):zD6 fu s=some (dgL s):=by
  unfold zD6
  have h:=zCs (xs:=s) (g:=fun (a:List UInt8) c=>bif dgC c then a ++ [c] else a) (Inv:=fun i a=>a.length≤i) (L:=fun k i (a:List UInt8)=>(zAx fu s k i (bytL a)).map strB) (fun k i a c hc ha=>by
    have hi:=zD4 hc
    rw [zAx,lt_t hi,cond_true,ck_t (zB9 hi),zB9 hi,Bool.or_true,zD5,zD5,zEL hc,zCm,show (decide ((48:Int)≤(c.toNat:Int))&&decide ((c.toNat:Int)≤(57:Int)))=dgC c from rfl,zAb (by rw [zBx];show a.length+1≤4294967296;omega),zD5,zAt,zCZ (show i≤4294967296 by omega),zD5,zD5]
    cases dgC c
    · rfl
    · rw [cond_true,cond_true,zEj,zDK]) (fun i a c hc ha=>by
    show (bif dgC c then a ++ [c] else a).length≤i+1
    cases dgC c
    · exact Nat.le_succ_of_le ha
    · rw [cond_true,List.length_append,List.length_singleton];omega) (fun k a ha=>by rw [zAx,lt_f,cond_false,Option.map_some,zDl]) (a:=[]) (Nat.zero_le _) hf
  rw [zNF,← h.1]
  show cl true (zAx fu s fu 0 (bytL [])) _=_
  cases zAx fu s fu 0 (bytL []) <;> rfl
theorem zJp (s:List UInt8):(dgL s).length≤s.length:=List.length_filter_le _ _
def YrI (s:List UInt8) (y:Int):Prop:=∃ r,RdI s r∧y=bif r.2&&inI r.1 1000 9999 then r.1 else 0
theorem YrI.one {s:List UInt8} {y z:Int} (h:YrI s y) (k:YrI s z):y=z:=by
  obtain ⟨r,h1,rfl⟩:=h
  obtain ⟨q,k1,rfl⟩:=k
  rw [h1.one k1]
theorem YrI.range {s:List UInt8} {y:Int} (h:YrI s y):y=0∨(1000≤y∧y≤9999):=by
  obtain ⟨r,_,rfl⟩:=h
  cases hb:r.2&&inI r.1 1000 9999
  · exact .inl rfl
  · right
    rw [Bool.and_eq_true] at hb
    have:=hb.2
    unfold inI at this
    rw [Bool.and_eq_true,decide_eq_true_eq,decide_eq_true_eq] at this
    exact this
theorem zMM {fu:Nat} {s:List UInt8} (hs:s.length≤1048576):∃ y,zBl fu s=some y∧YrI s y:=by
  obtain ⟨r,h1,h2⟩:=zMI (fu:=fu) hs
  refine ⟨_,?_,r,h2,rfl⟩
  unfold zBl
  rw [h1,zA6,zGI]
  generalize inI r.1 1000 9999=b
  cases r.2 <;> cases b <;> rfl
theorem zKT {fu:Nat} {s:List UInt8} (hf:1048577≤fu) (hs:s.length≤1048576):∃ y,zBm fu s=some y∧YrI s y:=by
  obtain ⟨r,h1,h2⟩:=zMa (fu:=fu) hf hs
  refine ⟨_,?_,r,h2,rfl⟩
  unfold zBm
  rw [h1,zA6,zK7]
  generalize inI r.1 1000 9999=b
  cases r.2 <;> cases b <;> rfl
theorem zOU {s:List UInt8} (hs:s.length≤1048576):∃ y:Int,(y=0∨(1000≤y∧y≤9999))∧YrI s y∧∀ fu,1048577≤fu→zBl fu s=some y∧zBm fu s=some y:=by
  obtain ⟨y,h1,h2⟩:=zKT (fu:=1048577) (Nat.le_refl _) hs
  refine ⟨y,h2.range,h2,fun fu hf=>?_⟩
  obtain ⟨a,a1,a2⟩:=zMM (fu:=fu) hs
  obtain ⟨b,b1,b2⟩:=zKT (fu:=fu) hf hs
  rw [a1,b1,a2.one h2,b2.one h2]
  exact ⟨rfl,rfl⟩
end Go.Proofs.YtldppodfhabkjaaGreatDoor
namespace Go.Proofs.YtldppodfhabkjaaGreatDoor
open Go.RowKit
set_option linter.unusedVariables false
set_option linter.unusedSimpArgs false
theorem zHE {α β : Type} {xs : List α} {f : α → β} {a0 : List β} {L : Nat → Int → List β → Option (List β)}
    (hs:∀ k (i:Nat) a x,xs[i]? = some x→a.length=a0.length+i→L (k+1) (i:Int) a=L k ((i+1:Nat):Int) (a ++ [f x])) (he:∀ k a,L (k+1) (xs.length:Int) a=some a) {fu:Nat} (hf:xs.length<fu) :
    L fu (0:Int) a0=some (a0++xs.map f):=by
  have h:=zCs (xs:=xs) (g:=fun (a:List β) x=>a ++ [f x]) (Inv:=fun i a=>a.length=a0.length+i) (L:=L) hs (fun i a x hx ha=>by rw [List.length_append,List.length_singleton];omega) (fun k a _=>he k a) (a:=a0) rfl hf
  rw [h.1]
  congr 1
  have key:∀ (xs:List α) (a:List β),xs.foldl (fun (a:List β) x=>a ++ [f x]) a=a++xs.map f:=by
    intro xs
    induction xs with
    | nil=>intro a;simp
    | cons x xs ih=>intro a;rw [List.foldl_cons,ih];simp
  exact key xs a0
theorem zHc {α : Type} {xs : List α} {f : α → List UInt8} {a0 : List (List UInt8)} {L : Nat → Int → List (List UInt8) → Option (List (List UInt8))}
    (hs:∀ k (i:Nat) a x,xs[i]? = some x→a.length≤a0.length+i→L (k+1) (i:Int) a=L k ((i+1:Nat):Int) (putS bLt a (f x))) (he:∀ k a,L (k+1) (xs.length:Int) a=some a) {fu:Nat} (hf:xs.length<fu) :
    L fu (0:Int) a0=some ((xs.map f).foldl (putS bLt) a0)∧((xs.map f).foldl (putS bLt) a0).length≤a0.length+xs.length:=by
  have h:=zCs (xs:=xs) (g:=fun (a:List (List UInt8)) x=>putS bLt a (f x)) (Inv:=fun i a=>a.length≤a0.length+i) (L:=L) hs (fun i a x hx ha=>by
    show (putS bLt a (f x)).length≤a0.length+(i+1)
    unfold putS putW
    cases (a[plc bLt (f x) a]? == some (f x))
    · rw [cond_false,zEI];omega
    · rw [cond_true];omega) (fun k a _=>he k a) (a:=a0) (Nat.le_refl _) hf
  rw [List.foldl_map]
  exact h
def k1L (n:List UInt8):List (List UInt8):=(skL n).map ([115] ++ ·)
def k2L (d:List UInt8):List (List UInt8):=bif decide (4≤(dgL d).length) then [[112]++(dgL d).drop ((dgL d).length-4)] else []
def k3L (n:List UInt8) (y:Int):List (List UInt8):=bif decide (0<y) then (tokL n).map (fun t=>([121]++Lib.itoa y)++t.take 1) else []
def bkL (n d:List UInt8) (y:Int):List (List UInt8):=setL ((k1L n++k2L d)++k3L n y)
theorem zIU {t:List UInt8}:subL t 0 (1:Int)=t.take 1:=by
  rw [show ((1:Int))=((1:Nat):Int) from rfl,zFT]
theorem dec4 {n:Nat}:decide ((4:Int)≤(n:Int))=decide (4≤n):=by
  by_cases h:4≤n
  · rw [decide_eq_true h,decide_eq_true (by omega)]
  · rw [decide_eq_false h,decide_eq_false (by omega)]
theorem sub4 {l:List UInt8} (h:4≤l.length):subL l ((l.length:Int)-4) (l.length:Int)=l.drop (l.length-4):=by
  rw [show ((l.length:Int)-4)=((l.length-4:Nat):Int) by omega,zIv]
theorem zLe {y:Int} (h:y=0∨(1000≤y∧y≤9999)):(Lib.itoa y).length≤21:=zNt (by omega) (by omega)
theorem zIX {n t:List UInt8} (hn:n.length≤40) (h:t ∈ tokL n):1≤t.length∧t.length≤80:=by
  obtain ⟨h1,h2,_⟩:=zIp h
  have:t.length ≠ 0:=fun e=>h1 (List.eq_nil_of_length_eq_zero e)
  omega
theorem zMt {fu:Nat} {r:RecT} {a b c d:List UInt8} {y:Int} (hf:1048577≤fu) (hr:r.2.2.2 = [a,b,c,d]) (ha:a.length≤40) (hc:c.length≤40) (hd:d.length≤40) (hy:y=0∨(1000≤y∧y≤9999)) (hyp:zBl fu c=some y):zCE fu r=some (bkL a d y):=by
  have hsk:=zK0 a
  have htk:=zFg a
  have hdg:=zJp d
  have hit:=zLe hy
  unfold zCE
  rw [hr,show inR (0:Int) ([a,b,c,d]:List (List UInt8)).length=true from rfl,show inR (3:Int) ([a,b,c,d]:List (List UInt8)).length=true from rfl,show inR (2:Int) ([a,b,c,d]:List (List UInt8)).length=true from rfl,show gtD [a,b,c,d] (0:Int)=a from rfl,show gtD [a,b,c,d] (3:Int)=d from rfl,show gtD [a,b,c,d] (2:Int)=c from rfl]
  simp only [zD5]
  rw [zMS hf (by omega),zA6]
  have h1:=zHE (xs:=skL a) (f:=([115] ++ ·)) (a0:=[]) (L:=zBa fu (skL a)) (fun k i acc x hx hacc=>by
    have hi:=zD4 hx
    have hx4:=zK1 (zDu hx)
    have hacc:acc.length=0+i:=hacc
    rw [zBa,lt_t hi,cond_true,ck_t (zB9 hi),zAq hx,ck_t (zAb (by simp;omega)),ck_t (zAb (by simp;omega)),zAt,ck_t (zCZ (by omega))]) (fun k a=>by rw [zBa,lt_f,cond_false]) (fu:=fu) (by omega)
  rw [h1,zA6,List.nil_append,zMP (by omega) (by omega),zA6,hyp,dec4]
  have hk1:(k1L a).length=(skL a).length:=by simp [k1L]
  have h3:∀ (acc0:List (List UInt8)),acc0.length≤1000→0<y→zBI fu y (tokL a) fu (0:Int) acc0=some (acc0++k3L a y)∧zBD fu y (tokL a) fu (0:Int) acc0=some (acc0++k3L a y):=fun acc0 h0 hy0=>by
    have e:k3L a y=(tokL a).map fun t=>([121]++Lib.itoa y)++t.take 1:=by unfold k3L;rw [decide_eq_true hy0];rfl
    rw [e]
    constructor
    · refine zHE (xs := tokL a) (f := fun t => ([121] ++ Lib.itoa y) ++ t.take 1) (a0 := acc0) (L := zBI fu y (tokL a)) (fun k i acc x hx hacc => ?_) (fun k a => by rw [zBI, lt_f, cond_false]) (by omega)
      have hi:=zD4 hx
      have hx4:=zIX ha (zDu hx)
      rw [zBI,lt_t hi,cond_true,ck_t (zB9 hi),zIs (by omega) (by omega),zA6,zAq hx,zIU,ck_t (zAb (by simp;omega)),ck_t (zBN.2 ⟨Int.le_refl _,by omega,by omega⟩),ck_t (zAb (by simp;omega)),ck_t (zAb (by simp;omega)),zAt,ck_t (zCZ (by omega))]
    · refine zHE (xs := tokL a) (f := fun t => ([121] ++ Lib.itoa y) ++ t.take 1) (a0 := acc0) (L := zBD fu y (tokL a)) (fun k i acc x hx hacc => ?_) (fun k a => by rw [zBD, lt_f, cond_false]) (by omega)
      have hi:=zD4 hx
      have hx4:=zIX ha (zDu hx)
      rw [zBD,lt_t hi,cond_true,ck_t (zB9 hi),zIs (by omega) (by omega),zA6,zAq hx,zIU,ck_t (zAb (by simp;omega)),ck_t (zBN.2 ⟨Int.le_refl _,by omega,by omega⟩),ck_t (zAb (by simp;omega)),ck_t (zAb (by simp;omega)),zAt,ck_t (zCZ (by omega))]
  have h2n:(k2L d).length≤1:=by
    unfold k2L
    cases decide (4≤(dgL d).length)
    · exact Nat.zero_le _
    · exact Nat.le_refl _
  have h3n:(k3L a y).length≤(tokL a).length:=by
    unfold k3L
    cases decide (0<y)
    · exact Nat.zero_le _
    · rw [cond_true,List.length_map];exact Nat.le_refl _
  have e1:(skL a).map ([115] ++ ·)=k1L a:=rfl
  rw [e1]
  cases h4:decide (4≤(dgL d).length) with
  | true=>
    have h44:4≤(dgL d).length:=of_decide_eq_true h4
    have e2:k1L a++([([112]:List UInt8)++subL (dgL d) (((dgL d).length:Int)-4) ((dgL d).length:Int)]:List (List UInt8))=k1L a++k2L d:=by unfold k2L;rw [h4,sub4 h44];rfl
    rw [cond_true,ck_t (zCP (by omega) (by omega)),ck_t (zBN.2 ⟨by omega,by omega,Int.le_refl _⟩),ck_t (zAb (by rw [sub4 h44];simp;omega)),ck_t (zAb (by simp;omega)),zA6,e2]
    cases hy0:decide (0<y) with
    | true=>
      rw [cond_true,zHO hf (by omega),zA6,(h3 _ (by rw [List.length_append];omega) (of_decide_eq_true hy0)).1,zA6,zDf hf (by rw [List.length_append,List.length_append];omega),zA6]
      rfl
    | false=>
      rw [cond_false,zDf hf (by rw [List.length_append];omega),zA6]
      have:k3L a y = []:=by unfold k3L;rw [hy0];rfl
      unfold bkL
      rw [this,List.append_nil]
      rfl
  | false=>
    have e2:k1L a=k1L a++k2L d:=by unfold k2L;rw [h4];simp
    rw [cond_false,zA6,e2]
    cases hy0:decide (0<y) with
    | true=>
      rw [cond_true,zHO hf (by omega),zA6,(h3 _ (by rw [List.length_append];omega) (of_decide_eq_true hy0)).2,zA6,zDf hf (by rw [List.length_append,List.length_append];omega),zA6]
      rfl
    | false=>
      rw [cond_false,zDf hf (by rw [List.length_append];omega),zA6]
      have:k3L a y = []:=by unfold k3L;rw [hy0];rfl
      unfold bkL
      rw [this,List.append_nil]
      rfl
theorem zKJ {fu:Nat} {r:RecT} {a b c d:List UInt8} {y:Int} (hf:1048577≤fu) (hok:zJL r) (hb:recB r=true) (hr:r.2.2.2 = [a,b,c,d]) (ha:a.length≤40) (hc:c.length≤40) (hd:d.length≤40) (hy:y=0∨(1000≤y∧y≤9999)) (hyp:zBm fu c=some y):zBU fu r=some (bkL a d y):=by
  have hsk:=zK0 a
  have htk:=zFg a
  have hdg:=zJp d
  have hit:=zLe hy
  unfold zBU
  rw [zIw hf hok,zA6,hb,hr,show inR (0:Int) ([a,b,c,d]:List (List UInt8)).length=true from rfl,show inR (3:Int) ([a,b,c,d]:List (List UInt8)).length=true from rfl,show inR (2:Int) ([a,b,c,d]:List (List UInt8)).length=true from rfl,show gtD [a,b,c,d] (0:Int)=a from rfl,show gtD [a,b,c,d] (3:Int)=d from rfl,show gtD [a,b,c,d] (2:Int)=c from rfl]
  simp only [zD5,Bool.not_true,cond_false]
  rw [zMh hf (by omega),zA6]
  obtain ⟨h1,l1⟩:=zHc (xs:=skL a) (f:=([115] ++ ·)) (a0:=[]) (L:=zBY fu (skL a)) (fun k i acc x hx hacc=>by
    have hi:=zD4 hx
    have hx4:=zK1 (zDu hx)
    have hacc:acc.length≤0+i:=hacc
    rw [zBY,lt_t hi,cond_true,ck_t (zB9 hi),zAq hx,ck_t (zAb (by simp;omega)),zJR (by omega) (by omega),zA6,zAt,ck_t (zCZ (by omega)),cond_false]) (fun k a=>by rw [zBY,lt_f,cond_false]) (fu:=fu) (by omega)
  have l1:((k1L a).foldl (putS bLt) []).length≤(skL a).length:=by
    have:((k1L a).foldl (putS bLt) []).length≤0+(skL a).length:=l1
    omega
  rw [h1,zA6,show ((skL a).map ([115] ++ ·))=k1L a from rfl,zMn (by omega) (by omega),zA6,hyp,zJQ hf (by omega),dec4]
  have h3:∀ (acc0:List (List UInt8)),acc0.length≤1000→zB4 fu (tokL a) y fu (0:Int) acc0=some ((k3L a y).foldl (putS bLt) acc0)∧zB1 fu (tokL a) y fu (0:Int) acc0=some ((k3L a y).foldl (putS bLt) acc0):=fun acc0 h0=>by
    cases hy0:decide (0<y) with
    | true=>
      have e:k3L a y=(tokL a).map fun t=>([121]++Lib.itoa y)++t.take 1:=by unfold k3L;rw [hy0];rfl
      rw [e]
      constructor
      · refine (zHc (xs := tokL a) (f := fun t => ([121] ++ Lib.itoa y) ++ t.take 1) (a0 := acc0) (L := zB4 fu (tokL a) y) (fun k i acc x hx hacc => ?_) (fun k a => by rw [zB4, lt_f, Bool.false_and, zCm, cond_false]) (by omega)).1
        have hi:=zD4 hx
        have hx4:=zIX ha (zDu hx)
        rw [zB4,lt_t hi,hy0,Bool.true_and,zCm,cond_true,zIE hf (by omega) (by omega),zA6,ck_t (zAb (by simp;omega)),ck_t (zB9 hi),zAq hx,zIU,ck_t (zBN.2 ⟨Int.le_refl _,by omega,by omega⟩),ck_t (zAb (by simp;omega)),zJR (by omega) (by omega),zA6,zAt,ck_t (zCZ (by omega)),cond_false]
      · refine (zHc (xs := tokL a) (f := fun t => ([121] ++ Lib.itoa y) ++ t.take 1) (a0 := acc0) (L := zB1 fu (tokL a) y) (fun k i acc x hx hacc => ?_) (fun k a => by rw [zB1, lt_f, Bool.false_and, zCm, cond_false]) (by omega)).1
        have hi:=zD4 hx
        have hx4:=zIX ha (zDu hx)
        rw [zB1,lt_t hi,hy0,Bool.true_and,zCm,cond_true,zIE hf (by omega) (by omega),zA6,ck_t (zAb (by simp;omega)),ck_t (zB9 hi),zAq hx,zIU,ck_t (zBN.2 ⟨Int.le_refl _,by omega,by omega⟩),ck_t (zAb (by simp;omega)),zJR (by omega) (by omega),zA6,zAt,ck_t (zCZ (by omega)),cond_false]
    | false=>
      have e:k3L a y = []:=by unfold k3L;rw [hy0];rfl
      rw [e]
      obtain ⟨k,rfl⟩:∃ k,fu=k+1:=⟨fu-1,by omega⟩
      constructor
      · rw [zB4,hy0,Bool.and_false,zCm,cond_false];rfl
      · rw [zB1,hy0,Bool.and_false,zCm,cond_false];rfl
  have fin:(k3L a y).foldl (putS bLt) ((k2L d).foldl (putS bLt) ((k1L a).foldl (putS bLt) []))=bkL a d y:=by
    rw [← List.foldl_append,← List.foldl_append,zHI,← List.append_assoc]
    rfl
  cases h4:decide (4≤(dgL d).length) with
  | true=>
    have h44:4≤(dgL d).length:=of_decide_eq_true h4
    have e2:(k2L d).foldl (putS bLt) ((k1L a).foldl (putS bLt) [])=putS bLt ((k1L a).foldl (putS bLt) []) ([112]++(dgL d).drop ((dgL d).length-4)):=by unfold k2L;rw [h4];rfl
    have l2:(putS bLt ((k1L a).foldl (putS bLt) []) ([112]++(dgL d).drop ((dgL d).length-4))).length≤(skL a).length+1:=by
      generalize (k1L a).foldl (putS bLt) []=z at l1 ⊢
      generalize ([112]++(dgL d).drop ((dgL d).length-4):List UInt8)=x
      unfold putS putW
      cases (z[plc bLt x z]? == some x)
      · rw [cond_false,zEI];omega
      · rw [cond_true];omega
    rw [cond_true,ck_t (zCP (by omega) (by omega)),ck_t (zBN.2 ⟨by omega,by omega,Int.le_refl _⟩),ck_t (zAb (by rw [sub4 h44];simp;omega)),zJR (by omega) (by omega),zA6,cond_false,zA6,zA6,sub4 h44,(h3 _ (by omega)).1,zA6,← e2,fin]
  | false=>
    have e2:(k2L d).foldl (putS bLt) ((k1L a).foldl (putS bLt) [])=(k1L a).foldl (putS bLt) []:=by unfold k2L;rw [h4];rfl
    rw [cond_false,zA6,zA6,(h3 _ (by omega)).2,zA6,← e2,fin]
theorem zNc {r:RecT} (h:zCH r≤1048576):zJL r:=by
  unfold zCH zBq wL at h
  exact ⟨by omega,fun s hs=>Nat.le_trans (zH1 (f:=fun s:List UInt8=>s.length) hs) (by omega)⟩
theorem zO4 {α : Type} {f : α → Nat} {m : Nat} : ∀ {xs : List α}, (∀ x ∈ xs, f x ≤ m) → wL f xs ≤ xs.length * (m + 1)
  | [],_=>by simp [wL]
  | x::xs,h=>by
    have h1:=zO4 (f:=f) (xs:=xs) fun y hy=>h y (List.mem_cons_of_mem _ hy)
    have h2:=h x List.mem_cons_self
    unfold wL at h1 ⊢
    rw [List.length_cons,List.map_cons,List.sum_cons,Nat.add_mul,Nat.one_mul]
    omega
end Go.Proofs.YtldppodfhabkjaaGreatDoor
namespace Go.Proofs.YtldppodfhabkjaaGreatDoor
open Go.RowKit
set_option linter.unusedVariables false
set_option linter.unusedSimpArgs false
theorem zJz {fu:Nat} {a b:List (List UInt8)} (hf:1048577≤fu) (ha:a.length≤524288) (hb:b.length≤524288):zC6 fu a b=some (b.foldl (putS bLt) (a.foldl (putS bLt) [])):=by
  unfold zC6
  have grow:∀ (acc:List (List UInt8)) x,(putS bLt acc x).length≤acc.length+1:=fun acc x=>by
    unfold putS putW
    cases (acc[plc bLt x acc]? == some x)
    · rw [cond_false,zEI];exact Nat.le_refl _
    · rw [cond_true];omega
  have h:=zCs (xs:=a) (g:=putS bLt) (Inv:=fun i acc=>acc.length≤i) (L:=fun k i acc=>zAo fu a k i acc) (fun k i acc x hx hacc=>by
    have hi:=zD4 hx
    show zAo fu a (k+1) (i:Int) acc=_
    rw [zAo,lt_t hi,cond_true]
    simp only [zB9 hi,zAq hx,zD5,zJR (show acc.length<fu by omega) (show acc.length≤2147483648 by omega),zA6,zCZ (show i≤4294967296 by omega),zAt,cond_false]) (fun i acc x hx hacc=>Nat.le_trans (grow acc x) (Nat.succ_le_succ hacc)) (fun k acc hacc=>by show zAo fu a (k+1) (a.length:Int) acc=_;rw [zAo,lt_f];rfl) (a:=[]) (Nat.zero_le _) (show a.length<fu by omega)
  have h':=zCs (xs:=b) (g:=putS bLt) (Inv:=fun i acc=>acc.length≤a.length+i) (L:=fun k i acc=>zAp fu b k i acc) (fun k i acc x hx hacc=>by
    have hi:=zD4 hx
    show zAp fu b (k+1) (i:Int) acc=_
    rw [zAp,lt_t hi,cond_true]
    simp only [zB9 hi,zAq hx,zD5,zJR (show acc.length<fu by omega) (show acc.length≤2147483648 by omega),zA6,zCZ (show i≤4294967296 by omega),zAt,cond_false]) (fun i acc x hx hacc=>by have:=grow acc x;show _≤a.length+(i+1);omega) (fun k acc hacc=>by show zAp fu b (k+1) (b.length:Int) acc=_;rw [zAp,lt_f];rfl) (a:=a.foldl (putS bLt) []) h.2 (show b.length<fu by omega)
  rw [h.1,zA6,h'.1,zA6]
end Go.Proofs.YtldppodfhabkjaaGreatDoor
namespace Go.Proofs.YtldppodfhabkjaaGreatDoor
open Go.RowKit
set_option linter.unusedVariables false
set_option linter.unusedSimpArgs false
def kk (r:RecT):List (List UInt8):=(zBU 1048577 r).getD []
theorem kk_t {r:RecT} (hok:zJL r) (hb:recB r=true):(∀ fu,1048577≤fu→zBU fu r=some (kk r)∧zCE fu r=some (kk r))∧(kk r).length≤200∧(∀ x ∈ kk r,x.length≤120)∧zD3 bLt (kk r):=by
  obtain ⟨a,b,c,d,hr,ha,hb2,hc,hd⟩:=zKu hb
  obtain ⟨y,hy,_,hyp⟩:=zOU (s:=c) (by omega)
  have e:kk r=bkL a d y:=by unfold kk;rw [zKJ (Nat.le_refl _) hok hb hr ha hc hd hy (hyp _ (Nat.le_refl _)).2];rfl
  have hsk:=zK0 a
  have htk:=zFg a
  have hdg:=zJp d
  have hit:=zLe hy
  have h2n:(k2L d).length≤1:=by
    unfold k2L
    cases decide (4≤(dgL d).length)
    · exact Nat.zero_le _
    · exact Nat.le_refl _
  have h3n:(k3L a y).length≤(tokL a).length:=by
    unfold k3L
    cases decide (0<y)
    · exact Nat.zero_le _
    · rw [cond_true,List.length_map];exact Nat.le_refl _
  rw [e]
  refine ⟨fun fu hf=>⟨zKJ hf hok hb hr ha hc hd hy (hyp fu hf).2,zMt hf hr ha hc hd hy (hyp fu hf).1⟩,?_,fun x hx=>?_,zEU _⟩
  · have := zEZ ((k1L a ++ k2L d) ++ k3L a y)
    rw [List.length_append,List.length_append] at this
    have hk1:(k1L a).length=(skL a).length:=by simp [k1L]
    unfold bkL
    omega
  · unfold bkL at hx
    rw [zEk] at hx
    rcases List.mem_append.1 hx with hx | hx
    · rcases List.mem_append.1 hx with hx | hx
      · obtain ⟨t, ht, rfl⟩ := List.mem_map.1 hx
        have:=zK1 ht
        simp;omega
      · unfold k2L at hx
        cases h4:decide (4≤(dgL d).length)
        · rw [h4] at hx;cases hx
        · rw [h4, cond_true, List.mem_singleton] at hx
          rw [hx]
          simp;omega
    · unfold k3L at hx
      cases h4:decide (0<y)
      · rw [h4] at hx;cases hx
      · rw [h4, cond_true] at hx
        obtain ⟨t,ht,rfl⟩:=List.mem_map.1 hx
        simp;omega
def zH6 (rs:List RecT):Bool:=!(rs.any fun r=>!(recB r))&&decide (rs.length≤12)
theorem zHG {rs:List RecT} (h:zH6 rs=true):rs.length≤12∧∀ r ∈ rs,recB r=true:=by
  unfold zH6 at h
  rw [Bool.and_eq_true,decide_eq_true_eq] at h
  refine ⟨h.2,fun r hr=>?_⟩
  cases hb:recB r with
  | true=>rfl
  | false=>
    have:(rs.any fun r=>!(recB r))=true:=List.any_eq_true.2 ⟨r,hr,by rw [hb];rfl⟩
    rw [this] at h
    cases h.1
theorem zJW {fu:Nat} {l:List RecT} {F:RecT→Option Bool} {p:RecT→Bool} (hF:∀ x ∈ l,F x=some (p x)) (hf:l.length<fu) (hl:l.length≤1048576):zAQ fu l F=some (l.any p):=by
  unfold zAQ zAi
  have h:=zM3 (xs:=l) (p:=p) (L:=zAF fu l F) (fun k i y hy=>by
    have hi:=zD4 hy
    rw [zAF,lt_t hi,cond_true]
    simp only [zB9 hi,zAq hy,zD5,hF y (zDu hy),zA6,zCZ (show i≤4294967296 by omega),zAt]) (fun k=>by rw [zAF,lt_f];rfl) hf
  rw [h,zA6]
  cases hi:ixI 0 (l.map p) with
  | none=>
    have h2:=zIl hi
    have:(l.any p)=false:=by
      rw [List.any_eq_false]
      intro y hy
      have:=h2 (p y) (List.mem_map_of_mem hy)
      simp [this]
    rw [this]
    rfl
  | some j=>
    obtain ⟨_,h2,_⟩:=zIM hi
    have:(l.any p)=true:=by
      rw [Nat.sub_zero,List.getElem?_map] at h2
      obtain ⟨y,hy,e⟩:=Option.map_eq_some_iff.1 h2
      rw [List.any_eq_true]
      exact ⟨y,List.mem_of_getElem? hy,e⟩
    rw [this]
    show some (decide (0≤(j:Int)))=some true
    rw [decide_eq_true (by omega)]
theorem zLk {fu:Nat} {rs:List RecT} (hf:1048577≤fu) (hl:rs.length≤1048576) (hok:∀ r ∈ rs,zJL r):zCg fu rs=some !(rs.any fun r=>!(recB r)):=by
  unfold zCg
  rw [zJW (p:=fun r=>!(recB r)) (fun r hr=>by unfold zCn;rw [zLV hf (hok r hr),zA6]) (by omega) hl,zA6]
theorem zKx {fu:Nat} {rs:List RecT} (hf:1048577≤fu) (hl:rs.length≤1048576) (hok:∀ r ∈ rs,zJL r):zDS fu rs=some (zH6 rs):=by
  unfold zDS
  have h:=zFh (xs:=rs) (p:=fun r=>!(recB r)) (r:=false) (L:=zBt fu rs) (fun k i y hy=>by
    have hi:=zD4 hy
    rw [zBt,lt_t hi,cond_true]
    simp only [zB9 hi,zAq hy,zD5,zIw hf (hok y (zDu hy)),zA6,zCZ (show i≤4294967296 by omega),zAt]) (fun k=>by rw [zBt,lt_f];rfl) (show rs.length<fu by omega)
  rw [h,zA6]
  unfold zH6
  have e:decide ((rs.length:Int)≤(12:Int))=decide (rs.length≤12):=by
    by_cases h:rs.length≤12
    · rw [decide_eq_true h,decide_eq_true (by omega)]
    · rw [decide_eq_false h,decide_eq_false (by omega)]
  cases rs.any fun r=>!(recB r)
  · rw [cond_false,zJa,e];rfl
  · rw [cond_true,zNU];rfl
def idxF (k : List UInt8) : Nat → List RecT → List Int
  | _,[]=>[]
  | i,r::rs=>(bif (kk r).any (fun y=>y==k) then [(i:Int)] else [])++idxF k (i+1) rs
theorem zKR (k : List UInt8) : ∀ (rs : List RecT) (i : Nat) (r : RecT), idxF k i (rs ++ [r]) = idxF k i rs ++ (bif (kk r).any (fun y => y == k) then [((i + rs.length : Nat) : Int)] else [])
  | [],i,r=>by simp [idxF]
  | s::rs,i,r=>by
    rw [List.cons_append,idxF,idxF,zKR k rs (i+1) r,List.append_assoc,List.length_cons,show i+1+rs.length=i+(rs.length+1) by omega]
theorem zJH {k:List UInt8} {rs:List RecT} {i:Nat} {r:RecT} (h:rs[i]? = some r):idxF k 0 (rs.take (i+1))=idxF k 0 (rs.take i)++(bif (kk r).any (fun y=>y==k) then [(i:Int)] else []):=by
  have hi:=zD4 h
  rw [List.take_add_one,h,Option.toList_some,zKR,List.length_take,Nat.min_eq_left (by omega),Nat.zero_add]
theorem zHF (k : List UInt8) : ∀ (rs : List RecT) (i : Nat), (idxF k i rs).length ≤ rs.length
  | [],i=>Nat.le_refl _
  | r::rs,i=>by
    have:=zHF k rs (i+1)
    rw [idxF,List.length_append,List.length_cons]
    cases (kk r).any (fun y=>y==k)
    · rw [cond_false];simp only [List.length_nil];omega
    · rw [cond_true];simp only [List.length_singleton];omega
theorem zMe {rs:List RecT} (h:∀ r ∈ rs,(kk r).length≤200):(rs.flatMap kk).length≤200*rs.length:=by
  induction rs with
  | nil=>simp
  | cons r rs ih=>
    have h1:=ih fun s hs=>h s (List.mem_cons_of_mem _ hs)
    have h2:=h r List.mem_cons_self
    rw [List.flatMap_cons,List.length_append,List.length_cons]
    omega
theorem zHr {rs:List RecT} {i:Nat} {r:RecT} (h:rs[i]? = some r):(rs.take (i+1)).flatMap kk=(rs.take i).flatMap kk++kk r:=by
  rw [List.take_add_one,h,Option.toList_some,List.flatMap_append]
  simp
def OKs (rs:List RecT):Prop:=∀ r ∈ rs,zJL r
theorem zFe {rs:List RecT} (hok:OKs rs) (hb:∀ r ∈ rs,recB r=true) (hn:rs.length≤12) (i:Nat):((rs.take i).flatMap kk).length≤2400:=by
  have:=zMe (rs:=rs.take i) fun r hr=>(kk_t (hok r (List.mem_of_mem_take hr)) (hb r (List.mem_of_mem_take hr))).2.1
  have h2:(rs.take i).length≤12:=by rw [List.length_take];omega
  omega
theorem zMW {fu i : Nat} {ks K0 : List (List UInt8)} {ms0 : List UInt8 → List Int} {n0 : Nat} (hf : 1048577 ≤ fu) (hk : zD3 bLt ks) (hl : ks.length ≤ 200) (hK : K0.length ≤ 2400) (hm : ∀ s, (ms0 s).length ≤ 12) (hn : n0 ≤ 2400) :
    zAa fu (i:Int) ks fu (0:Int) K0 (ms0,[],n0)=some (K0++ks,((fun s=>bif ks.any (fun y=>y==s) then ms0 s ++ [(i:Int)] else ms0 s),[],n0+ks.length)):=by
  have h := zF0 (L := fun k j (a : List (List UInt8) × (List UInt8 → List Int) × List (List UInt8) × Nat) => zAa fu (i : Int) ks k j a.1 a.2) (n := ks.length) (r := (K0 ++ ks, ((fun s => bif ks.any (fun y => y == s) then ms0 s ++ [(i : Int)] else ms0 s), ([] : List (List UInt8)), n0 + ks.length)))
    (fun j=>(K0++ks.take j,((fun s=>bif (ks.take j).any (fun y=>y==s) then ms0 s ++ [(i:Int)] else ms0 s),([]:List (List UInt8)),n0+j))) (fun k j hj=>?_) (fun k=>?_) (show ks.length<fu by omega)
  · rw [← h]
    congr 1
    simp
  · have hx := List.getElem?_eq_getElem hj
    have hnd:=zD3.nodup zFx hk
    have hni:ks[j] ∉ ks.take j:=fun hm=>by
      obtain ⟨q,hq⟩:=List.mem_iff_getElem?.1 hm
      rw [List.getElem?_take] at hq
      split at hq
      · rename_i hqj
        have:=(List.getElem?_inj (by omega:q<ks.length) hnd).1 (hq.trans hx.symm)
        omega
      · cases hq
    have hany:(ks.take j).any (fun y=>y==ks[j])=false:=by
      rw [List.any_eq_false]
      intro y hy e
      exact hni (by rw [← of_decide_eq_true (p:=y=ks[j]) (by simpa using e)];exact hy)
    have hlen:(K0++ks.take j).length≤2600:=by rw [List.length_append,List.length_take];omega
    have hmx:=hm ks[j]
    show zAa fu (i:Int) ks (k+1) (j:Int) (K0++ks.take j) ((fun s=>bif (ks.take j).any (fun y=>y==s) then ms0 s ++ [(i:Int)] else ms0 s),([]:List (List UInt8)),n0+j)=zAa fu (i:Int) ks k ((j+1:Nat):Int) (K0++ks.take (j+1)) ((fun s=>bif (ks.take (j+1)).any (fun y=>y==s) then ms0 s ++ [(i:Int)] else ms0 s),([]:List (List UInt8)),n0+(j+1))
    rw [zAa,lt_t hj,cond_true,ck_t (zB9 hj),zAq hx,ck_t (zAb (by simp only [List.length_singleton];omega)),ck_t (decide_eq_true (by simp))]
    simp only [hany,cond_false]
    rw [ck_t (zAb (by simp only [List.length_singleton];omega)),ck_t (decide_eq_true (by unfold maxLen;omega)),ck_t (zCU (by omega)),zAt]
    have e1:K0++ks.take j ++ [ks[j]]=K0++ks.take (j+1):=by rw [List.take_add_one,hx,Option.toList_some,List.append_assoc]
    have e2:(fun s'=>if s'=ks[j] then ms0 ks[j] ++ [(i:Int)] else bif (ks.take j).any (fun y=>y==s') then ms0 s' ++ [(i:Int)] else ms0 s')=fun s=>bif (ks.take (j+1)).any (fun y=>y==s) then ms0 s ++ [(i:Int)] else ms0 s:=by
      funext s
      rw [List.take_add_one,hx,Option.toList_some,List.any_append,List.any_cons,List.any_nil,Bool.or_false]
      by_cases e:s=ks[j]
      · subst e
        rw [if_pos rfl,beq_self_eq_true,Bool.or_true,cond_true]
      · rw [if_neg e,beq_eq_false_iff_ne.2 (Ne.symm e),Bool.or_false]
    rw [e1,e2]
    rfl
  · show zAa fu (i : Int) ks (k + 1) (ks.length : Int) _ _ = _
    rw [zAa,lt_f,cond_false,List.take_length]
theorem zMH {fu : Nat} {rs : List RecT} (hf : 1048577 ≤ fu) (hok : OKs rs) (hb : ∀ r ∈ rs, recB r = true) (hn : rs.length ≤ 12) :
    zAT fu rs fu (0:Int) [] ((fun _=>[]:List UInt8→List Int),([]:List (List UInt8)),(0:Nat))=some (rs.flatMap kk,((fun s=>idxF s 0 rs),[],(rs.flatMap kk).length)):=by
  have h := zF0 (L := fun k j (a : List (List UInt8) × (List UInt8 → List Int) × List (List UInt8) × Nat) => zAT fu rs k j a.1 a.2) (n := rs.length) (r := (rs.flatMap kk, ((fun s => idxF s 0 rs), ([] : List (List UInt8)), (rs.flatMap kk).length)))
    (fun j=>((rs.take j).flatMap kk,((fun s=>idxF s 0 (rs.take j)),([]:List (List UInt8)),((rs.take j).flatMap kk).length))) (fun k j hj=>?_) (fun k=>?_) (show rs.length<fu by omega)
  · exact h
  · have hx := List.getElem?_eq_getElem hj
    have hm:=zDu hx
    obtain ⟨h1,h2,h3,h4⟩:=kk_t (hok _ hm) (hb _ hm)
    have hft:=zFe hok hb hn j
    show zAT fu rs (k+1) (j:Int) ((rs.take j).flatMap kk) ((fun s=>idxF s 0 (rs.take j)),([]:List (List UInt8)),((rs.take j).flatMap kk).length)=zAT fu rs k ((j+1:Nat):Int) ((rs.take (j+1)).flatMap kk) ((fun s=>idxF s 0 (rs.take (j+1))),([]:List (List UInt8)),((rs.take (j+1)).flatMap kk).length)
    rw [zAT,lt_t hj,cond_true,ck_t (zB9 hj),zAq hx,(h1 fu hf).2,zA6,zMW hf h4 h2 hft (fun s=>by have:=zHF s (rs.take j) 0;rw [List.length_take] at this;omega) hft,zA6,ck_t (zCU (by omega)),zAt]
    have e2:(fun s=>bif (kk rs[j]).any (fun y=>y==s) then idxF s 0 (rs.take j) ++ [(j:Int)] else idxF s 0 (rs.take j))=fun s=>idxF s 0 (rs.take (j+1)):=by
      funext s
      rw [zJH hx]
      cases (kk rs[j]).any (fun y=>y==s)
      · rw [cond_false,cond_false,List.append_nil]
      · rfl
    show zAT fu rs k ((j+1:Nat):Int) ((rs.take j).flatMap kk++kk rs[j]) ((fun s=>bif (kk rs[j]).any (fun y=>y==s) then idxF s 0 (rs.take j) ++ [(j:Int)] else idxF s 0 (rs.take j)),([]:List (List UInt8)),((rs.take j).flatMap kk).length+(kk rs[j]).length)=_
    rw [e2,← List.length_append,← zHr hx]
  · show zAT fu rs (k + 1) (rs.length : Int) _ _ = _
    rw [zAT,lt_f,cond_false,List.take_length]
theorem zML {fu : Nat} {xs : List (List UInt8)} {ms : List UInt8 → List Int} {n : Nat} (hf : 1048577 ≤ fu) (hk : zD3 bLt xs) (hl : xs.length ≤ 2400) :
    zAU fu xs fu (0:Int) (ms,[],n) []=some (xs.map fun k=>(k,ms k)):=by
  have h := zF0 (L := fun k j (a : ((List UInt8 → List Int) × List (List UInt8) × Nat) × List (List UInt8 × List Int)) => zAU fu xs k j a.1 a.2) (n := xs.length) (r := xs.map fun k => (k, ms k))
    (fun j=>((ms,(xs.take j).reverse,n),(xs.take j).map fun k=>(k,ms k))) (fun k j hj=>?_) (fun k=>?_) (show xs.length<fu by omega)
  · exact h
  · have hx := List.getElem?_eq_getElem hj
    have hnd:=zD3.nodup zFx hk
    have hni:xs[j] ∉ (xs.take j).reverse:=fun hm=>by
      obtain ⟨q,hq⟩:=List.mem_iff_getElem?.1 (List.mem_reverse.1 hm)
      rw [List.getElem?_take] at hq
      split at hq
      · rename_i hqj
        have:=(List.getElem?_inj (by omega:q<xs.length) hnd).1 (hq.trans hx.symm)
        omega
      · cases hq
    show zAU fu xs (k+1) (j:Int) (ms,(xs.take j).reverse,n) ((xs.take j).map fun k=>(k,ms k))=zAU fu xs k ((j+1:Nat):Int) (ms,(xs.take (j+1)).reverse,n) ((xs.take (j+1)).map fun k=>(k,ms k))
    rw [zAU,lt_t hj,cond_true,ck_t (zB9 hj),zAq hx,ck_t (decide_eq_true hni),ck_t (zAb (by rw [List.length_map,List.length_take];omega)),ck_t (zCU (by omega)),zAt]
    rw [List.take_add_one,hx,Option.toList_some,List.reverse_append,List.map_append]
    rfl
  · show zAU fu xs (k + 1) (xs.length : Int) _ _ = _
    rw [zAU,lt_f,cond_false,List.take_length]
def zE1 (rs:List RecT):List (List UInt8 × List Int):=bif zH6 rs then (setL (rs.flatMap kk)).map (fun k=>(k,idxF k 0 rs)) else []
theorem zJf {rs:List RecT} (hok:OKs rs) (hg:zH6 rs=true):(setL (rs.flatMap kk)).length≤2400:=by
  obtain ⟨hn,hb⟩:=zHG hg
  have h1:=zFe hok hb hn rs.length
  rw [List.take_length] at h1
  have h2:=zEZ (rs.flatMap kk)
  omega
theorem zNR {fu:Nat} {rs:List RecT} (hf:1048577≤fu) (hl:rs.length≤1048576) (hok:OKs rs):zC9 fu rs=some (zE1 rs):=by
  unfold zC9 zE1
  rw [zLk hf hl hok]
  by_cases h12:rs.length≤12
  · have hd : decide ((12 : Int) < (rs.length : Int)) = false := decide_eq_false (by omega)
    rw [hd]
    cases hg:zH6 rs with
    | false=>
      have:(rs.any fun r=>!(recB r))=true:=by
        unfold zH6 at hg
        rw [decide_eq_true h12,Bool.and_true] at hg
        simpa using hg
      rw [this]
      rfl
    | true=>
      obtain ⟨hn,hb⟩:=zHG hg
      have hany:(rs.any fun r=>!(recB r))=false:=by
        rw [List.any_eq_false]
        intro r hr
        rw [hb r hr]
        exact Bool.false_ne_true
      rw [hany,show (true&&(false==false))=true from rfl,zA6,zCm,show (false || !(!false))=false from rfl,cond_false,zMH hf hok hb hn,zA6]
      have h1:=zFe hok hb hn rs.length
      rw [List.take_length] at h1
      show (cl true (zAw fu (rs.flatMap kk)) fun x=>cl true (zAU fu x fu (0:Int) ((fun s=>idxF s 0 rs),[],(rs.flatMap kk).length) []) fun s=>some s)=_
      rw [zDf hf (by omega),zA6,show cmpL ((rs.flatMap kk).mergeSort fun x y=>!(bLt y x))=setL (rs.flatMap kk) from rfl,zML hf (zEU _) (zJf hok hg),zA6]
      rfl
  · have hd : decide ((12 : Int) < (rs.length : Int)) = true := decide_eq_true (by omega)
    have hg:zH6 rs=false:=by unfold zH6;rw [decide_eq_false h12,Bool.and_false]
    rw [hd,hg]
    rfl
theorem zM9 (A B:List (List UInt8)):B.foldl (putS bLt) ((setL A).foldl (putS bLt) [])=setL (A++B):=by
  rw [← List.foldl_append,zHI]
  refine zG3 zFx (zEU _) (zEU _) fun x=>?_
  rw [zEk,zEk,List.mem_append,List.mem_append,zEk]
theorem zMY {fu:Nat} {rs:List RecT} (hf:1048577≤fu) (hok:OKs rs) (hb:∀ r ∈ rs,recB r=true) (hn:rs.length≤12):zAZ fu rs fu [] (0:Int)=some (setL (rs.flatMap kk)):=by
  have h:=zF0 (L:=fun k j (a:List (List UInt8))=>zAZ fu rs k a j) (n:=rs.length) (r:=setL (rs.flatMap kk)) (fun j=>setL ((rs.take j).flatMap kk)) (fun k j hj=>?_) (fun k=>?_) (show rs.length<fu by omega)
  · have e:setL ((rs.take 0).flatMap kk) = []:=by
      rw [List.take_zero]
      show cmpL (([]:List (List UInt8)).mergeSort fun x y=>!(bLt y x)) = []
      rw [List.mergeSort_nil]
      rfl
    rw [← h,← e]
  · have hx := List.getElem?_eq_getElem hj
    have hm:=zDu hx
    obtain ⟨h1,h2,h3,h4⟩:=kk_t (hok _ hm) (hb _ hm)
    have hft:=zFe hok hb hn j
    have hsl:=zEZ ((rs.take j).flatMap kk)
    show zAZ fu rs (k+1) (setL ((rs.take j).flatMap kk)) (j:Int)=zAZ fu rs k (setL ((rs.take (j+1)).flatMap kk)) ((j+1:Nat):Int)
    rw [zAZ,lt_t hj,cond_true,ck_t (zB9 hj),zAq hx,(h1 fu hf).1,zA6,zJz hf (by omega) (by omega),zA6,ck_t (zCU (by omega)),zAt,zM9,zHr hx]
  · show zAZ fu rs (k + 1) _ (rs.length : Int) = _
    rw [zAZ,lt_f,cond_false,List.take_length]
theorem zMC {fu:Nat} {rs:List RecT} {keys:List (List UInt8)} {key:List UInt8} {q:Nat} (hf:1048577≤fu) (hok:OKs rs) (hb:∀ r ∈ rs,recB r=true) (hn:rs.length≤12) (hq:keys[q]? = some key):zAV fu rs keys (q:Int) fu (0:Int) (key,[])=some (key,idxF key 0 rs):=by
  have h:=zF0 (L:=fun k j (a:List UInt8 × List Int)=>zAV fu rs keys (q:Int) k j a) (n:=rs.length) (r:=(key,idxF key 0 rs)) (fun j=>(key,idxF key 0 (rs.take j))) (fun k j hj=>?_) (fun k=>?_) (show rs.length<fu by omega)
  · exact h
  · have hx := List.getElem?_eq_getElem hj
    have hm:=zDu hx
    obtain ⟨h1,h2,h3,h4⟩:=kk_t (hok _ hm) (hb _ hm)
    have hlen:(idxF key 0 (rs.take j)).length≤12:=by have:=zHF key (rs.take j) 0;rw [List.length_take] at this;omega
    show zAV fu rs keys (q:Int) (k+1) (j:Int) (key,idxF key 0 (rs.take j))=zAV fu rs keys (q:Int) k ((j+1:Nat):Int) (key,idxF key 0 (rs.take (j+1)))
    rw [zAV,lt_t hj,cond_true,ck_t (zB9 hj),zAq hx,(h1 fu hf).1,zA6,ck_t (zB9 (zD4 hq)),zAq hq,zOb (by omega) (by omega),zA6,zJH hx]
    cases (kk rs[j]).any (fun y=>y==key)
    · rw [cond_false,cond_false,ck_t (zCU (by omega)),zAt,List.append_nil]
    · rw [cond_true,cond_true,ck_t (zAb (by simp only [List.length_singleton];omega)),ck_t (zCU (by omega)),zAt]
  · show zAV fu rs keys (q : Int) (k + 1) (rs.length : Int) _ = _
    rw [zAV,lt_f,cond_false,List.take_length]
theorem zMz {fu:Nat} {rs:List RecT} {keys:List (List UInt8)} (hf:1048577≤fu) (hok:OKs rs) (hb:∀ r ∈ rs,recB r=true) (hn:rs.length≤12) (hk:keys.length≤2400):zB0 fu rs keys fu (0:Int) []=some (keys.map fun k=>(k,idxF k 0 rs)):=by
  have h:=zHE (xs:=keys) (f:=fun k=>(k,idxF k 0 rs)) (a0:=[]) (L:=zB0 fu rs keys) (fun k i acc x hx hacc=>by
    have hi:=zD4 hx
    have hacc:acc.length=0+i:=hacc
    rw [zB0,lt_t hi,cond_true,ck_t (zB9 hi),zAq hx,zMC hf hok hb hn hx,zA6,ck_t (zAb (by simp only [List.length_singleton];omega)),ck_t (zCU (by omega)),zAt]) (fun k a=>by rw [zB0,lt_f,cond_false]) (fu:=fu) (by omega)
  rw [h,List.nil_append]
theorem zNm {fu:Nat} {rs:List RecT} (hf:1048577≤fu) (hl:rs.length≤1048576) (hok:OKs rs):zC8 fu rs=some (zE1 rs):=by
  unfold zC8 zE1
  rw [zKx hf hl hok,zA6]
  cases hg:zH6 rs with
  | false=>rfl
  | true=>
    obtain ⟨hn,hb⟩:=zHG hg
    rw [Bool.not_true,cond_false,zMY hf hok hb hn,zA6,zMz hf hok hb hn (zJf hok hg),zA6]
    rfl
theorem zI4 {rs:List RecT} (hok:OKs rs):(zE1 rs).length≤2400∧∀ b ∈ zE1 rs,b.1.length≤120∧b.2.length≤12:=by
  unfold zE1
  cases hg:zH6 rs with
  | false=>exact ⟨Nat.zero_le _,fun b hb=>by cases hb⟩
  | true=>
    obtain ⟨hn,hb⟩:=zHG hg
    rw [cond_true]
    refine ⟨by rw [List.length_map];exact zJf hok hg,fun b hbm=>?_⟩
    obtain ⟨k,hk,rfl⟩:=List.mem_map.1 hbm
    rw [zEk,List.mem_flatMap] at hk
    obtain ⟨r,hr,hk⟩:=hk
    exact ⟨(kk_t (hok r hr) (hb r hr)).2.2.1 k hk,Nat.le_trans (zHF k rs 0) hn⟩
theorem zNJ {rs:List RecT} (h:zCL rs≤1048576):rs.length≤1048576∧OKs rs:=by
  unfold zCL wL at h
  exact ⟨by omega,fun r hr=>zNc (Nat.le_trans (zH1 (f:=zCH) hr) (by omega))⟩
def zH7 (bs:List (List UInt8 × List Int)) (most:Int):List (List UInt8):=(bs.filter fun b=>decide (most<(b.2.length:Int))).map (·.1)
theorem zGm (most : Int) : ∀ (bs : List (List UInt8 × List Int)) (a : List (List UInt8)), bs.foldl (fun a b => bif decide (most < (b.2.length : Int)) then a ++ [b.1] else a) a = a ++ zH7 bs most
  | [],a=>by simp [zH7]
  | b::bs,a=>by
    rw [List.foldl_cons,zGm most bs]
    unfold zH7
    rw [List.filter_cons]
    cases decide (most<(b.2.length:Int))
    · rfl
    · rw [cond_true];simp
theorem zNX {fu:Nat} {most:Int} {bs:List (List UInt8 × List Int)} (hf:bs.length<fu) (hl:bs.length≤1048576):zAY fu most bs fu (0:Int) []=some (zH7 bs most):=by
  have h:=(zCs (xs:=bs) (g:=fun (a:List (List UInt8)) (b:List UInt8 × List Int)=>bif decide (most<(b.2.length:Int)) then a ++ [b.1] else a) (Inv:=fun i a=>a.length≤i) (L:=zAY fu most bs) (fun k i a x hx ha=>by
    have hi:=zD4 hx
    rw [zAY,lt_t hi,cond_true,ck_t (zB9 hi),zAq hx]
    cases decide (most<(x.2.length:Int))
    · rw [cond_false,cond_false,ck_t (zCU (by omega)),zAt]
    · rw [cond_true,cond_true,ck_t (zAb (by simp only [List.length_singleton];omega)),ck_t (zCU (by omega)),zAt]) (fun i a x hx ha=>by
    show (bif decide (most<(x.2.length:Int)) then a ++ [x.1] else a).length≤i+1
    cases decide (most<(x.2.length:Int))
    · exact Nat.le_succ_of_le ha
    · rw [cond_true,List.length_append,List.length_singleton];omega) (fun k a _=>by rw [zAY,lt_f,cond_false]) (a:=[]) (Nat.le_refl _) hf).1
  rw [h,zGm,List.nil_append]
theorem zNa {fu:Nat} {most:Int} {bs:List (List UInt8 × List Int)} (hf:bs.length<fu) (hl:bs.length≤1048576):zAX fu most bs fu (0:Int) []=some (zH7 bs most):=by
  have h:=(zCs (xs:=bs) (g:=fun (a:List (List UInt8)) (b:List UInt8 × List Int)=>bif decide (most<(b.2.length:Int)) then a ++ [b.1] else a) (Inv:=fun i a=>a.length≤i) (L:=zAX fu most bs) (fun k i a x hx ha=>by
    have hi:=zD4 hx
    rw [zAX,lt_t hi,cond_true,ck_t (zB9 hi),zAq hx]
    cases decide (most<(x.2.length:Int))
    · rw [cond_false,cond_false,ck_t (zCU (by omega)),zAt]
    · rw [cond_true,cond_true,ck_t (zB9 hi),ck_t (zAb (by simp only [List.length_singleton];omega)),ck_t (zCU (by omega)),zAt]) (fun i a x hx ha=>by
    show (bif decide (most<(x.2.length:Int)) then a ++ [x.1] else a).length≤i+1
    cases decide (most<(x.2.length:Int))
    · exact Nat.le_succ_of_le ha
    · rw [cond_true,List.length_append,List.length_singleton];omega) (fun k a _=>by rw [zAX,lt_f,cond_false]) (a:=[]) (Nat.le_refl _) hf).1
  rw [h,zGm,List.nil_append]
theorem zN7 {fu:Nat} {rs:List RecT} {most:Int} (hf:1048577≤fu) (hl:rs.length≤1048576) (hok:OKs rs):zAs fu rs most=some (zH7 (zE1 rs) most)∧zAk fu rs most=some (zH7 (zE1 rs) most):=by
  have h1:=(zI4 hok).1
  constructor
  · unfold zAs
    rw [zNm hf hl hok,zA6,zNa (by omega) (by omega),zA6]
  · unfold zAk
    rw [zNR hf hl hok,zA6,zNX (by omega) (by omega),zA6]
theorem zGM {a0:List RecT} {a1:Int} (h0:(qS (qP qI (qP qI (qP qI (qS qB))))) a0) (h1:qI a1) (hw:zCL a0≤1048576):∃ r:List (List UInt8),zAs 1048577 a0 a1=some r∧zAk 1048577 a0 a1=some r∧zBq r≤1048576:=by
  obtain ⟨hl,hok⟩:=zNJ hw
  obtain ⟨b1,b2⟩:=zI4 hok
  refine ⟨zH7 (zE1 a0) a1,(zN7 (Nat.le_refl _) hl hok).1,(zN7 (Nat.le_refl _) hl hok).2,?_⟩
  unfold zBq
  have h3:=zO4 (f:=fun s:List UInt8=>s.length) (m:=120) (xs:=zH7 (zE1 a0) a1) fun s hs=>by
    obtain ⟨b,hb,rfl⟩:=List.mem_map.1 hs
    exact (b2 b (List.mem_filter.1 hb).1).1
  have h4:(zH7 (zE1 a0) a1).length≤2400:=by
    unfold zH7
    rw [List.length_map]
    exact Nat.le_trans (List.length_filter_le _ _) b1
  have h5:(zH7 (zE1 a0) a1).length*(120+1)≤2400*121:=Nat.mul_le_mul_right _ h4
  omega
end Go.Proofs.YtldppodfhabkjaaGreatDoor
