/- Own texts laid together. No statement of the seat is proved here. -/
import Derived.Test.YtcodfkieaoomnaaGreatDoorZq6
import Derived.Lib.Replace
namespace Go.Proofs.YtcodfkieaoomnaaGreatDoor
open Go.RowKit
set_option linter.unusedVariables false
set_option linter.unusedSimpArgs false
theorem zBq (s:List UInt8):(bytL s).length=s.length:=by simp [bytL]
theorem zEA (s:List UInt8):strB (bytL s)=s:=by
  unfold strB bytL
  rw [List.map_map]
  have:((fun n:Int=>UInt8.ofNat n.toNat) ∘ fun b:UInt8=>(b.toNat:Int))=id:=by
    funext b
    show UInt8.ofNat ((b.toNat:Int)).toNat=b
    rw [Int.toNat_natCast]
    exact UInt8.ofNat_toNat
  rw [this,List.map_id]
theorem zDY (s t:List UInt8):bytL s++bytL t=bytL (s++t):=by simp [bytL]
theorem zF4 (c:UInt8):([(c.toNat:Int)]:List Int)=bytL [c]:=rfl
theorem zLP {s:List UInt8} {i:Nat} {c:UInt8} (h:s[i]? = some c):gtD (bytL s) (i:Int)=(c.toNat:Int):=zAq (by simp [bytL,h])
theorem zJI {σ ρ:Type} {L:Nat→Int→σ→Option ρ} {n:Nat} {r:ρ} (St:Nat→σ) (hs:∀ k i,i<n→L (k+1) (i:Int) (St i)=L k ((i+1:Nat):Int) (St (i+1))) (he:∀ k,L (k+1) (n:Int) (St n)=some r) {fu:Nat} (hf:n<fu):L fu (0:Int) (St 0)=some r:=by
  have key:∀ m i k,i+m=n→m<k→L k ((i:Nat):Int) (St i)=some r:=by
    intro m
    induction m with
    | zero=>
      intro i k hi hk
      obtain ⟨k,rfl⟩:∃ q,k=q+1:=⟨k-1,by omega⟩
      obtain rfl:i=n:=by omega
      exact he k
    | succ m ih=>
      intro i k hi hk
      obtain ⟨k,rfl⟩:∃ q,k=q+1:=⟨k-1,by omega⟩
      rw [hs k i (by omega)]
      exact ih (i+1) k (by omega) (by omega)
  exact key n 0 fu (by omega) hf
theorem zFG {α σ:Type} {g:σ→α→σ} {a:σ} {s:List α} {i:Nat} {c:α} (h:s[i]? = some c):(s.take (i+1)).foldl g a=g ((s.take i).foldl g a) c:=by
  rw [List.take_add_one,h]
  simp
theorem zH3 {α σ:Type} {g:σ→α→σ} {a:σ} (s:List α):(s.take s.length).foldl g a=s.foldl g a:=by rw [List.take_length]
theorem zKn {fu:Nat} {s:List UInt8} {F:Int→Option Int} {f:UInt8→UInt8} (hF:∀ c ∈ s,F (c.toNat:Int)=some ((f c).toNat:Int)) (hf:s.length<fu) (hl:s.length≤1048576):zDS fu s F=some (s.map f):=by
  unfold zDS
  have h:=zJI (L:=zC0 fu s F) (n:=s.length) (r:=bytL (s.map f)) (fun i=>bytL ((s.take i).map f++s.drop i)) (fun k i hi=>by
    have hx:=List.getElem?_eq_getElem hi
    have hlen:((s.take i).map f++s.drop i).length=s.length:=by simp;omega
    have hg:((s.take i).map f++s.drop i)[i]? = some s[i]:=by
      rw [List.getElem?_append_right (by simp;omega)]
      simp [Nat.min_eq_left (Nat.le_of_lt hi),hx]
    have hset0:((s.take i).map f++s.drop i).set i (f s[i])=(s.take (i+1)).map f++s.drop (i+1):=by
      rw [List.drop_eq_getElem_cons hi,List.set_append_right _ _ (by simp;omega)]
      have h0:i-((s.take i).map f).length=0:=by simp;omega
      rw [h0,List.set_cons_zero,List.take_add_one,hx,List.map_append,List.append_assoc]
      rfl
    have hset:(bytL ((s.take i).map f++s.drop i)).set i ((f s[i]).toNat:Int)=bytL ((s.take (i+1)).map f++s.drop (i+1)):=by
      rw [← hset0]
      unfold bytL
      exact List.map_set.symm
    rw [zC0,zBq,lt_t hi,cond_true]
    rw [ck_t (zAx (by rw [zBq,hlen];exact hi)),zLP hg,hF _ (List.getElem_mem hi),zA5,ck_t (zAx (by rw [zBq,hlen];exact hi)),zBH,ck_t (zCg (by omega)),Int.toNat_natCast,hset]) (fun k=>by
    rw [zC0,zBq,lt_f,cond_false]
    simp) hf
  rw [List.take_zero,List.drop_zero,List.map_nil,List.nil_append] at h
  rw [ck_t (zBV (by omega)),h,zA5,zEA]
def fld (c:UInt8):UInt8:=UInt8.ofNat (zHf c.toNat).toNat
theorem zOl (c:UInt8):((fld c).toNat:Int)=zHf c.toNat:=by
  have hc:c.toNat<256:=c.toNat_lt
  unfold fld zHf cpI
  by_cases h:(65:Int)≤(c.toNat:Int)∧(c.toNat:Int)≤90
  · rw [decide_eq_true h.1, decide_eq_true h.2]
    simp only [Bool.and_self,cond_true]
    rw [UInt8.toNat_ofNat']
    omega
  · have:(decide ((65:Int)≤(c.toNat:Int))&&decide ((c.toNat:Int)≤90))=false:=by
      rw [Bool.and_eq_false_iff,decide_eq_false_iff_not,decide_eq_false_iff_not]
      omega
    rw [this,cond_false,UInt8.toNat_ofNat']
    omega
theorem zIa {fu:Nat} {s:List UInt8} (hf:s.length<fu) (hl:s.length≤1048576):zCn fu s=some (s.map fld):=by
  unfold zCn
  rw [zKn (f:=fld) (fun c _=>?_) hf hl,zA5]
  have hc:c.toNat<256:=c.toNat_lt
  rw [zOl]
  unfold zDU zHf cpI
  rw [zBK]
  by_cases h:(65:Int)≤(c.toNat:Int)∧(c.toNat:Int)≤90
  · rw [decide_eq_true h.1, decide_eq_true h.2]
    simp only [Bool.and_self,cond_true]
    rw [zKT _ (by omega) (by omega)]
  · have:(decide ((65:Int)≤(c.toNat:Int))&&decide ((c.toNat:Int)≤90))=false:=by
      rw [Bool.and_eq_false_iff,decide_eq_false_iff_not,decide_eq_false_iff_not]
      omega
    rw [this,cond_false,cond_false]
theorem zHI {fu:Nat} {s:List UInt8} (hf:s.length<fu) (hl:s.length≤1048576):zBX fu s=some (s.map fld):=zO8 hf hl
theorem zOv (c : UInt8) : ∀ s : List UInt8, Lib.replaceK [c] [] (Lib.count s [c]) s = s.filter fun b => b != c
  | []=>by rw [Lib.count_one];rfl
  | b::l=>by
    have ih:=zOv c l
    by_cases h:b=c
    · subst h
      rw [Lib.count_cons_eq,Nat.add_comm,Lib.replaceK,show Lib.index (b::l) [b]=0 by rw [Lib.index];simp [List.isPrefixOf],if_neg (by decide),List.filter_cons]
      simpa using ih
    · rw [Lib.count_cons_ne b c l h, List.filter_cons, if_pos (by simpa using h), ← ih]
      cases hk:Lib.count l [c] with
      | zero=>rfl
      | succ k=>
        have hm:Lib.index l [c] ≠ -1:=fun hm=>by rw [Lib.count_miss hm] at hk;cases hk
        have hge:=Lib.index_ge l [c]
        obtain ⟨j,hj⟩:∃ j:Nat,Lib.index l [c]=j:=⟨(Lib.index l [c]).toNat,by omega⟩
        have e2:((j:Int)+1).toNat=j+1:=by omega
        rw [Lib.replaceK,zKZ h,hj,if_neg (by simp;omega),if_neg (by simp),e2,Lib.replaceK,hj,if_neg (by simp)]
        simp
theorem zOQ (c:UInt8) (s:List UInt8):Lib.replaceAll s [c] []=s.filter fun b=>b != c:=by
  unfold Lib.replaceAll Lib.replace Lib.replaceNum
  rw [if_neg (by simp),if_pos (.inl (by decide)),zOv]
def wdB (c:UInt8):Bool:=wdI c.toNat
def mkC (c:UInt8):UInt8:=bif wdB c then c else 32
def strL (s:List UInt8):List UInt8:=(s.filter fun b=>b != 39).map mkC
theorem zOm {fu:Nat} {c:UInt8}:zCr fu (c.toNat:Int)=some (wdB c):=by
  unfold zCr zBs zCF wdB wdI smI cpI dgI
  simp only [zBK,zA5,zMt]
  generalize (decide ((97:Int)≤(c.toNat:Int))&&decide ((c.toNat:Int)≤122))=a
  generalize (decide ((65:Int)≤(c.toNat:Int))&&decide ((c.toNat:Int)≤90))=b
  generalize (decide ((48:Int)≤(c.toNat:Int))&&decide ((c.toNat:Int)≤57))=d
  cases a <;> cases b <;> cases d <;> rfl
theorem zOP {fu:Nat} {c:UInt8}:zD1 fu (c.toNat:Int)=some (wdB c):=by
  unfold zD1 wdB wdI smI cpI dgI
  rfl
theorem zKF {fu:Nat} {s:List UInt8} (hf:s.length<fu) (hl:s.length≤1048576):zCl fu s=some (strL s):=by
  have hle:=List.length_filter_le (fun b:UInt8=>b != 39) s
  unfold zCl zG2
  rw [zOQ,ck_t (by simp;omega),zA5,zKn (f:=mkC) (fun c _=>?_) (by omega) (by omega),zA5]
  · rfl
  · unfold zCw mkC
    rw [zOm,zA5]
    cases wdB c <;> rfl
theorem zHl {c d:UInt8} (h:c ≠ d):(((c.toNat:Int))==(d.toNat:Int))=false:=by
  rw [beq_eq_false_iff_ne]
  intro e
  exact h (UInt8.toNat_inj.1 (by omega))
def stG (a:List UInt8) (c:UInt8):List UInt8:=bif c != 39 then a ++ [mkC c] else a
theorem zJF : ∀ (s a : List UInt8), s.foldl stG a = a ++ strL s
  | [],a=>by simp [strL]
  | c::s,a=>by
    rw [List.foldl_cons,zJF s]
    unfold stG strL
    rw [List.filter_cons]
    cases h:c != 39 <;> simp
theorem zK9 {fu:Nat} {s:List UInt8} (hf:s.length<fu) (hl:s.length≤1048576):zCk fu s=some (strL s):=by
  unfold zCk
  have hlen:∀ i,i≤s.length→((s.take i).foldl stG []).length≤i:=fun i hi=>by
    rw [zJF,List.nil_append]
    unfold strL
    rw [List.length_map]
    have:=List.length_filter_le (fun b:UInt8=>b != 39) (s.take i)
    rw [List.length_take] at this
    omega
  have h:=zJI (L:=zAt fu s) (n:=s.length) (r:=bytL (s.foldl stG [])) (fun i=>bytL ((s.take i).foldl stG [])) (fun k i hi=>by
    have hx:=List.getElem?_eq_getElem hi
    have hil:=hlen i (by omega)
    generalize hc:s[i]=c at hx
    rw [zAt,lt_t hi,cond_true,zFG hx,ck_t (zAx hi),zDl hx,zOP,zA5]
    generalize (s.take i).foldl stG []=o at hil ⊢
    have hl1:∀ (l:List Int),l.length=1→zCV ((bytL o).length+l.length)=true:=fun l hl=>zBV (by rw [zBq,hl];omega)
    rw [hl1 _ rfl,hl1 _ rfl]
    simp only [zAx hi,Bool.or_true,zCL,zBK,zBH,zCg (show i≤4294967296 by omega)]
    by_cases h32:c=32
    · subst h32
      have hw:(wdB 32 || (((UInt8.toNat 32:Nat):Int)==(32:Int)))=true:=by decide
      rw [hw,cond_true,zF4,zDY]
      rfl
    · have e32 : (((c.toNat : Int)) == (32 : Int)) = false := zHl (d := 32) h32
      rw [e32,Bool.or_false]
      cases hw:wdB c with
      | true=>
        have h39:c ≠ 39:=fun e=>by subst e;exact absurd hw (by decide)
        have:(c != 39)=true:=by simpa using h39
        rw [cond_true,zF4,zDY]
        unfold stG mkC
        rw [this,hw,cond_true,cond_true]
      | false=>
        rw [cond_false]
        by_cases h39:c=39
        · subst h39
          rfl
        · have e39:(((c.toNat:Int)) != (39:Int))=true:=by
            have:=zHl (d:=39) h39
            show (!(((c.toNat:Int))==(((39:UInt8).toNat:Nat):Int)))=true
            rw [this]
            rfl
          have:(c != 39)=true:=by simpa using h39
          rw [e39,cond_true,show ([(32:Int)]:List Int)=bytL [32] from rfl,zDY]
          unfold stG mkC
          rw [this,hw,cond_true,cond_false]) (fun k=>by rw [zAt,lt_f,cond_false,zH3]) hf
  rw [show (([]:List Int))=bytL ((s.take 0).foldl stG []) from rfl,h,zA5,zEA,zJF,List.nil_append]
def coS (o:List UInt8 × Bool) (c:UInt8):List UInt8 × Bool:=bif c==32 then (o.1,true) else ((bif !o.1.isEmpty&&o.2 then o.1 ++ [32] else o.1) ++ [c],false)
def coT (o:List UInt8 × Bool):List UInt8:=bif !o.1.isEmpty&&o.2 then o.1 ++ [32] else o.1
def colL (s:List UInt8):List UInt8:=(s.foldl coS ([],false)).1
theorem zLi {o:List UInt8 × Bool} {c:UInt8} (h:(c==32)=true):coS o c=(o.1,true):=by unfold coS;rw [h];rfl
theorem zLm {o:List UInt8 × Bool} {c:UInt8} (h:(c==32)=false):coS o c=(coT o ++ [c],false):=by unfold coS coT;rw [h];rfl
theorem zMK (o:List UInt8 × Bool):(coT o).length≤o.1.length+1:=by
  unfold coT
  cases (!o.1.isEmpty&&o.2)
  · rw [cond_false];omega
  · rw [cond_true,List.length_append,List.length_singleton];omega
theorem zL7 (s:List UInt8):∀ i,i≤s.length→((s.take i).foldl coS ([],false)).1.length≤2*i:=by
  intro i
  induction i with
  | zero=>intro _;exact Nat.zero_le _
  | succ i ih=>
    intro hi
    have:=ih (by omega)
    rw [zFG (List.getElem?_eq_getElem (show i<s.length by omega))]
    generalize (s.take i).foldl coS ([],false)=o at this ⊢
    have h2:=zMK o
    cases h:s[i]==32
    · rw [zLm h]
      dsimp only
      rw [List.length_append,List.length_singleton]
      omega
    · rw [zLi h]
      dsimp only
      omega
theorem zOi (s:List UInt8) {i:Nat} (hi:i<s.length):((s.take (i+1)).foldl coS ([],false)).2=(s[i]==32):=by
  rw [zFG (List.getElem?_eq_getElem hi)]
  generalize (s.take i).foldl coS ([],false)=o
  cases h:s[i]==32
  · rw [zLm h]
  · rw [zLi h]
theorem zMj (s:List UInt8):∀ i,i≤s.length→((s.take i).foldl coS ([],false)).1 = []∨∃ l c,((s.take i).foldl coS ([],false)).1=l ++ [c]∧(c==32)=false:=by
  intro i
  induction i with
  | zero=>intro _;exact .inl rfl
  | succ i ih=>
    intro hi
    have:=ih (by omega)
    rw [zFG (List.getElem?_eq_getElem (show i<s.length by omega))]
    generalize (s.take i).foldl coS ([],false)=o at this ⊢
    cases h:s[i]==32
    · rw [zLm h]
      exact .inr ⟨_,_,rfl,h⟩
    · rw [zLi h]
      exact this
theorem e32 {c:UInt8}:(((c.toNat:Int))==(32:Int))=(c==32):=by
  by_cases h:c=32
  · subst h;rfl
  · exact (show (((c.toNat:Int))==(32:Int))=false from zHl (d:=32) h).trans (beq_eq_false_iff_ne.2 h).symm
theorem ne32 {c:UInt8}:(((c.toNat:Int)) != (32:Int)) = !(c==32):=by rw [← e32];rfl
theorem zMm (l:List UInt8):decide ((0:Int)<((bytL l).length:Int)) = !l.isEmpty:=by
  rw [zBq]
  cases l with
  | nil=>rfl
  | cons a l=>exact decide_eq_true (by simp)
theorem zMp {fu:Nat} {s:List UInt8} (hf:s.length<fu) (hl:s.length≤1048576):zBt fu s=some (colL s):=by
  unfold zBt
  have h:=zJI (L:=zAc fu s) (n:=s.length) (r:=bytL (s.foldl coS ([],false)).1) (fun i=>bytL ((s.take i).foldl coS ([],false)).1) (fun k i hi=>by
    have hx:=List.getElem?_eq_getElem hi
    have hil:=zL7 s i (by omega)
    have hpv:∀ j,i=j+1→((s.take i).foldl coS ([],false)).2=(s[j]! == 32):=fun j hj=>by subst hj;rw [zOi s (by omega),getElem!_pos s j (by omega)]
    have hz:i=0→((s.take i).foldl coS ([],false)).1 = []:=fun h0=>by subst h0;rfl
    generalize hc:s[i]=c at hx
    rw [zAc,lt_t hi,cond_true,zFG hx,ck_t (zAx hi),zDl hx]
    generalize (s.take i).foldl coS ([],false)=o at hil hpv hz ⊢
    have hl1:∀ (l:List Int),l.length=1→zCV ((bytL o.1).length+l.length)=true:=fun l hl=>zBV (by rw [zBq,hl];omega)
    have hl2:∀ (l m:List Int),l.length=1→m.length=1→zCV ((bytL o.1++l).length+m.length)=true:=fun l m h1 h2=>zBV (by rw [List.length_append,zBq,h1,h2];omega)
    rw [hl1 _ rfl,hl1 _ rfl,hl2 _ _ rfl rfl,ne32,zMm]
    simp only [zAx hi,zCL,zBK,zBH,zCg (show i≤4294967296 by omega)]
    cases h32:c==32 with
    | true=>
      rw [zLi h32]
      rfl
    | false=>
      rw [zLm h32]
      cases ho:o.1.isEmpty with
      | true=>
        have:o.1 = []:=List.isEmpty_iff.1 ho
        unfold coT
        rw [ho,this]
        rfl
      | false=>
        have hi0:i ≠ 0:=fun h0=>by rw [hz h0] at ho;cases ho
        obtain ⟨j,rfl⟩:∃ j,i=j+1:=⟨i-1,by omega⟩
        have hj:=List.getElem?_eq_getElem (show j<s.length by omega)
        have hp:=hpv j rfl
        rw [getElem!_pos s j (by omega)] at hp
        simp only [zJp,zAx (show j<s.length by omega),zIE j (by omega),zDl hj,e32,Bool.or_true,zCL,← hp,Bool.not_false,Bool.true_and,cond_true]
        unfold coT
        rw [ho]
        cases o.2
        · simp only [cond_false, Bool.and_false]
          rw [zF4,zDY]
        · simp only [cond_true, cond_false, Bool.not_false, Bool.and_true]
          rw [zF4,show ([(32:Int)]:List Int)=bytL [32] from rfl,zDY,zDY]) (fun k=>by rw [zAc,lt_f,cond_false,zH3]) hf
  rw [show (([]:List Int))=bytL ((s.take 0).foldl coS ([],false)).1 from rfl,h,zA5,zEA]
  rfl
theorem zO5 {l:List UInt8} {c:UInt8}:gtD (bytL (l ++ [c])) (((bytL (l ++ [c])).length:Int)-1)=(c.toNat:Int):=by
  rw [zBq,List.length_append,List.length_singleton,show (((l.length+1:Nat):Int))-1=((l.length:Nat):Int) by omega]
  exact zLP (by simp)
theorem zPf {l:List UInt8} (h:l ≠ []):inR (((bytL l).length:Int)-1) (bytL l).length=true:=by
  have:0<l.length:=List.length_pos_iff.2 h
  rw [zBq]
  exact zNK (by omega) (by omega)
theorem zN7 {fu:Nat} {l:List UInt8} (hl:l.length≤4194304):zBJ fu (l ++ [32]) ([32]:List UInt8)=some l:=by
  unfold zBJ zAp zAY
  have e1:(((l ++ [32]:List UInt8).length:Nat):Int)-((([32]:List UInt8).length:Nat):Int)=((l.length:Nat):Int):=by simp
  have e2:subL (l ++ [32]:List UInt8) (l.length:Int) (((l ++ [32]:List UInt8).length:Nat):Int) = [32]:=by simp [subL]
  have e3:subL (l ++ [32]:List UInt8) 0 (l.length:Int)=l:=by simp [subL]
  have e4:decide (((([32]:List UInt8).length:Nat):Int)≤(((l ++ [32]:List UInt8).length:Nat):Int))=true:=decide_eq_true (by simp;omega)
  simp only [e1,e2,e3,e4,zIE l.length (by omega),Bool.or_true,zCL,zBK,zA5,zBf.2 (show (0:Int)≤(l.length:Int)∧(l.length:Int)≤(((l ++ [32]:List UInt8).length:Nat):Int)∧(((l ++ [32]:List UInt8).length:Nat):Int)≤(((l ++ [32]:List UInt8).length:Nat):Int) from ⟨by omega,by simp;omega,Int.le_refl _⟩),zBf.2 (show (0:Int)≤(0:Int)∧(0:Int)≤(l.length:Int)∧(l.length:Int)≤(((l ++ [32]:List UInt8).length:Nat):Int) from ⟨by omega,by omega,by simp;omega⟩)]
  rfl
theorem zMf {fu:Nat} {l:List UInt8} {c:UInt8} (h:(c==32)=false) (hl:l.length≤4194304):zBJ fu (l ++ [c]) ([32]:List UInt8)=some (l ++ [c]):=by
  unfold zBJ zAp zAY
  have e1:(((l ++ [c]:List UInt8).length:Nat):Int)-((([32]:List UInt8).length:Nat):Int)=((l.length:Nat):Int):=by simp
  have e2:subL (l ++ [c]:List UInt8) (l.length:Int) (((l ++ [c]:List UInt8).length:Nat):Int) = [c]:=by simp [subL]
  have e4:decide (((([32]:List UInt8).length:Nat):Int)≤(((l ++ [c]:List UInt8).length:Nat):Int))=true:=decide_eq_true (by simp;omega)
  have e5:(([c]:List UInt8) == [32])=false:=by simpa using h
  simp only [e1,e2,e4,e5,zIE l.length (by omega),Bool.or_true,zCL,zBK,zA5,zBf.2 (show (0:Int)≤(l.length:Int)∧(l.length:Int)≤(((l ++ [c]:List UInt8).length:Nat):Int)∧(((l ++ [c]:List UInt8).length:Nat):Int)≤(((l ++ [c]:List UInt8).length:Nat):Int) from ⟨by omega,by simp;omega,Int.le_refl _⟩)]
  rfl
theorem zM3 {fu:Nat} {s:List UInt8} (hf:s.length<fu) (hl:s.length≤1048576):zBu fu s=some (colL s):=by
  unfold zBu
  have h:=zJI (L:=zAk fu s) (n:=s.length) (r:=bytL (coT (s.foldl coS ([],false)))) (fun i=>bytL (coT ((s.take i).foldl coS ([],false)))) (fun k i hi=>by
    have hx:=List.getElem?_eq_getElem hi
    have hil:=zL7 s i (by omega)
    have hla:=zMj s i (by omega)
    generalize hc:s[i]=c at hx
    rw [zAk,lt_t hi,cond_true,zFG hx,ck_t (zAx hi),zDl hx]
    generalize (s.take i).foldl coS ([],false)=o at hil hla ⊢
    have hcl:=zMK o
    have hl1:∀ (l:List Int),l.length=1→zCV ((bytL (coT o)).length+l.length)=true:=fun l hl=>zBV (by rw [zBq,hl];omega)
    rw [hl1 _ rfl,ne32,zMm]
    simp only [zAx hi,zCL,zBK,zBH,zCg (show i≤4294967296 by omega)]
    have hb:i64B (((bytL (coT o)).length:Int)-1)=true:=zAl (by omega) (by rw [zBq];omega)
    rw [hb]
    simp only [Bool.or_true,zCL]
    cases h32:c==32 with
    | false=>
      rw [zLm h32]
      have e:coT (coT o ++ [c],false)=coT o ++ [c]:=by simp [coT]
      rw [e,← zDY,← zF4]
      simp [zCL]
    | true=>
      rw [zLi h32]
      rcases hla with h0 | ⟨l,d,h0,hd⟩
      · have e1 : coT o = [] := by unfold coT; rw [h0]; rfl
        have e2:coT (o.1,true) = []:=by unfold coT;rw [h0];rfl
        rw [e1,e2]
        rfl
      · have ho : o.1.isEmpty = false := by rw [h0]; simp
        have e2:coT (o.1,true)=o.1 ++ [32]:=by unfold coT;dsimp only;rw [ho];rfl
        have e0:(coT o).isEmpty=false:=by
          unfold coT
          rw [h0]
          cases (!(l ++ [d]).isEmpty&&o.2) <;> simp
        have hne:coT o ≠ []:=fun h=>by rw [h] at e0;cases e0
        rw [e0,e2,zPf hne]
        simp only [Bool.or_true,zCL,Bool.not_true,Bool.false_or,Bool.not_false,Bool.true_and]
        cases h2:o.2 with
        | true=>
          have e1:coT o=o.1 ++ [32]:=by unfold coT;rw [ho,h2];rfl
          rw [e1,zO5]
          rfl
        | false=>
          have e1:coT o=o.1:=by unfold coT;rw [ho,h2];rfl
          rw [e1,h0,zO5,ne32,hd]
          have:c=32:=by simpa using h32
          rw [this,zF4,zDY]
          rfl) (fun k=>by rw [zAk,lt_f,cond_false,zH3]) hf
  rw [show (([]:List Int))=bytL (coT ((s.take 0).foldl coS ([],false))) from rfl,h,zA5,zEA]
  have hla:=zMj s s.length (Nat.le_refl _)
  have hil:=zL7 s s.length (Nat.le_refl _)
  rw [zH3] at hla hil
  unfold colL
  generalize s.foldl coS ([],false)=o at hla hil ⊢
  rcases hla with h0 | ⟨l,d,h0,hd⟩
  · have e1 : coT o = [] := by unfold coT; rw [h0]; rfl
    rw [e1,h0]
    rfl
  · have hll : l.length ≤ 4194304 := by rw [h0, List.length_append] at hil; omega
    have ho:o.1.isEmpty=false:=by rw [h0];simp
    cases h2:o.2 with
    | true=>
      have e1:coT o=o.1 ++ [32]:=by unfold coT;rw [ho,h2];rfl
      rw [e1,zN7 (by omega)]
      rfl
    | false=>
      have e1:coT o=o.1:=by unfold coT;rw [ho,h2];rfl
      rw [e1,h0,zMf hd hll]
      rfl
def nrmL (s:List UInt8):List UInt8:=colL (strL (s.map fld))
theorem zJA (s:List UInt8):(strL s).length≤s.length:=by
  unfold strL
  rw [List.length_map]
  exact List.length_filter_le _ _
theorem zHM {fu:Nat} {s:List UInt8} (hf:s.length<fu) (hl:s.length≤1048576):zC4 fu s=some (nrmL s):=by
  have h1:=zJA (s.map fld)
  rw [List.length_map] at h1
  unfold zC4
  rw [zHI hf hl,zA5,zK9 (by simpa using hf) (by simpa using hl),zA5,zMp (by omega) (by omega),zA5]
  rfl
theorem zH9 {fu:Nat} {s:List UInt8} (hf:s.length<fu) (hl:s.length≤1048576):zC2 fu s=some (nrmL s):=by
  have h1:=zJA (s.map fld)
  rw [List.length_map] at h1
  unfold zC2
  rw [zIa hf hl,zA5,zKF (by simpa using hf) (by simpa using hl),zA5,zM3 (by omega) (by omega),zA5]
  rfl
theorem zG6 (s:List UInt8):(nrmL s).length≤2*s.length:=by
  have h1:=zJA (s.map fld)
  have h2:=zL7 (strL (s.map fld)) _ (Nat.le_refl _)
  rw [zH3] at h2
  rw [List.length_map] at h1
  unfold nrmL colL
  omega
end Go.Proofs.YtcodfkieaoomnaaGreatDoor
namespace Go.Proofs.YtcodfkieaoomnaaGreatDoor
open Go.RowKit
set_option linter.unusedVariables false
structure Sto {α : Type} (lt : α → α → Bool) : Prop where
  irr:∀ a,lt a a=false
  tr:∀ a b c,lt a b=true→lt b c=true→lt a c=true
  tri:∀ a b,lt a b=false→lt b a=false→a=b
theorem zDD:Sto bLt:=⟨zFE,fun _ _ _=>zK5,fun _ _=>zK8⟩
section
variable {α:Type} {lt:α→α→Bool}
theorem Sto.asy (S:Sto lt) {a b:α} (h:lt a b=true):lt b a=false:=by
  cases hb:lt b a
  · rfl
  · have := S.tr a b a h hb
    rw [S.irr] at this
    cases this
theorem Sto.le_tr (S:Sto lt) {a b c:α} (h:lt b a=false) (k:lt c b=false):lt c a=false:=by
  cases hca:lt c a
  · rfl
  · cases hab : lt a b
    · have := S.tri a b hab h
      subst this
      rw [hca] at k
      cases k
    · have := S.tr c a b hca hab
      rw [this] at k
      cases k
abbrev zBw (lt:α→α→Bool) (l:List α):Prop:=l.Pairwise fun a b=>lt a b=true
abbrev zGa (lt:α→α→Bool) (l:List α):Prop:=l.Pairwise fun a b=>lt b a=false
theorem zBw.w (S:Sto lt) {l:List α} (h:zBw lt l):zGa lt l:=h.imp fun h=>S.asy h
theorem zKg (S:Sto lt) {l m:List α} (hp:l.Perm m) (hl:zGa lt l) (hm:zGa lt m):l=m:=
  zIX (fun a b h k=>S.tri a b k h) hp hl hm
theorem zEj (S : Sto lt) : ∀ {l m : List α}, zBw lt l → zBw lt m → (∀ x, x ∈ l ↔ x ∈ m) → l = m
  | [],[],_,_,_=>rfl
  | [],b::m,_,_,h=>by have:=(h b).2 (List.mem_cons_self ..);cases this
  | a::l,[],_,_,h=>by have:=(h a).1 (List.mem_cons_self ..);cases this
  | a::l,b::m,hl,hm,h=>by
    obtain ⟨h1,h2⟩:=List.pairwise_cons.1 hl
    obtain ⟨h3,h4⟩:=List.pairwise_cons.1 hm
    have e:a=b:=by
      rcases List.mem_cons.1 ((h a).1 (List.mem_cons_self ..)) with e | e
      · exact e
      · rcases List.mem_cons.1 ((h b).2 (List.mem_cons_self ..)) with e' | e'
        · exact e'.symm
        · have := S.asy (h1 b e')
          rw [h3 a e] at this
          cases this
    subst e
    congr 1
    refine zEj S h2 h4 fun x=>?_
    constructor
    · intro hx
      rcases List.mem_cons.1 ((h x).1 (List.mem_cons_of_mem _ hx)) with e | e
      · have := h1 x hx
        rw [e,S.irr] at this
        cases this
      · exact e
    · intro hx
      rcases List.mem_cons.1 ((h x).2 (List.mem_cons_of_mem _ hx)) with e | e
      · have := h3 x hx
        rw [e,S.irr] at this
        cases this
      · exact e
theorem zBw.nodup (S:Sto lt) {l:List α} (h:zBw lt l):l.Nodup:=h.imp fun {a b} h e=>by subst e;rw [S.irr] at h;cases h
def zLk (l:List α) (k:Nat) (x:α):List α:=l.take k++x::l.drop k
theorem zIn (l:List α) (k:Nat) (x:α):(zLk l k x).Perm (x::l):=by
  have:=(List.perm_middle (a:=x) (l₁:=l.take k) (l₂:=l.drop k))
  rwa [List.take_append_drop] at this
theorem zF6 (l:List α) (k:Nat) (x:α):(zLk l k x).length=l.length+1:=by simpa using (zIn l k x).length_eq
theorem zMB {l:List α} {k:Nat} {x y:α}:y ∈ zLk l k x ↔ y=x∨y ∈ l:=by rw [(zIn l k x).mem_iff,List.mem_cons]
theorem zPA {R:α→α→Prop} {l:List α} {k:Nat} {x:α} (hl:l.Pairwise R) (h1:∀ y ∈ l.take k,R y x) (h2:∀ y ∈ l.drop k,R x y):(zLk l k x).Pairwise R:=by
  have hl':(l.take k++l.drop k).Pairwise R:=by rw [List.take_append_drop];exact hl
  obtain ⟨a,b,c⟩:=List.pairwise_append.1 hl'
  refine List.pairwise_append.2 ⟨a,List.pairwise_cons.2 ⟨h2,b⟩,fun y hy z hz=>?_⟩
  rcases List.mem_cons.1 hz with rfl | hz
  · exact h1 y hy
  · exact c y hy z hz
def plc (lt : α → α → Bool) (x : α) : List α → Nat
  | []=>0
  | y::l=>bif lt y x then plc lt x l+1 else 0
theorem zO1 {x : α} : ∀ l : List α, plc lt x l ≤ l.length
  | []=>Nat.le_refl _
  | y::l=>by
    unfold plc
    cases lt y x
    · exact Nat.zero_le _
    · have h : plc lt x l ≤ l.length := zO1 l
      simp
      omega
theorem zLK {x : α} : ∀ l : List α, ∀ y ∈ l.take (plc lt x l), lt y x = true
  | [],y,h=>by cases h
  | z::l,y,h=>by
    unfold plc at h
    cases hz:lt z x
    · rw [hz] at h
      cases h
    · rw [hz, cond_true, List.take_succ_cons] at h
      rcases List.mem_cons.1 h with rfl | h
      · exact hz
      · exact zLK l y h
theorem zJ4 {x : α} : ∀ l : List α, ∀ y, l[plc lt x l]? = some y → lt y x = false
  | [],y,h=>by cases h
  | z::l,y,h=>by
    unfold plc at h
    cases hz:lt z x
    · rw [hz] at h
      obtain rfl:z=y:=by simpa using h
      exact hz
    · rw [hz, cond_true, List.getElem?_cons_succ] at h
      exact zJ4 l y h
theorem zNv (S:Sto lt) {x:α} {l:List α} (hl:zGa lt l):∀ y ∈ l.drop (plc lt x l),lt y x=false:=by
  intro y hy
  cases hd:l.drop (plc lt x l) with
  | nil=>rw [hd] at hy;cases hy
  | cons z t=>
    have hz:l[plc lt x l]? = some z:=by
      have:(l.drop (plc lt x l))[0]? = some z:=by rw [hd];rfl
      rwa [List.getElem?_drop,Nat.add_zero] at this
    have h0:=zJ4 l z hz
    rw [hd] at hy
    rcases List.mem_cons.1 hy with rfl | hy
    · exact h0
    · have hp : (z :: t).Pairwise fun a b => lt b a = false := hd ▸ hl.sublist (List.drop_sublist _ _)
      exact S.le_tr h0 ((List.pairwise_cons.1 hp).1 y hy)
def putW (lt:α→α→Bool) (l:List α) (x:α):List α:=zLk l (plc lt x l) x
def putS [BEq α] (lt:α→α→Bool) (l:List α) (x:α):List α:=bif (l[plc lt x l]? == some x) then l else putW lt l x
theorem zKM [BEq α] [LawfulBEq α] (S:Sto lt) {l:List α} (x:α) (hl:zBw lt l):zBw lt (putS lt l x):=by
  unfold putS
  cases hc:(l[plc lt x l]? == some x)
  · refine zPA hl (zLK l) fun y hy => ?_
    have h1:=zNv S (hl.w S) y hy
    cases hxy:lt x y
    · have e := S.tri y x h1 hxy
      subst e
      exfalso
      cases hd:l.drop (plc lt y l) with
      | nil=>rw [hd] at hy;cases hy
      | cons z t=>
        have hz:l[plc lt y l]? = some z:=by
          have:(l.drop (plc lt y l))[0]? = some z:=by rw [hd];rfl
          rwa [List.getElem?_drop,Nat.add_zero] at this
        rw [hd] at hy
        have hp:(z::t).Pairwise fun a b=>lt a b=true:=hd ▸ hl.sublist (List.drop_sublist _ _)
        rcases List.mem_cons.1 hy with e | hy
        · subst e
          rw [hz] at hc
          simp at hc
        · have := (List.pairwise_cons.1 hp).1 y hy
          rw [zJ4 l z hz] at this
          cases this
    · rfl
  · exact hl
theorem zNc [BEq α] [LawfulBEq α] {l:List α} {x y:α}:y ∈ putS lt l x ↔ y=x∨y ∈ l:=by
  unfold putS
  cases hc:(l[plc lt x l]? == some x)
  · exact zMB
  · rw [beq_iff_eq] at hc
    exact ⟨.inr,fun h=>h.elim (fun e=>(by rw [e];exact List.mem_of_getElem? hc)) id⟩
def cmpA [BEq α] : α → List α → List α
  | _,[]=>[]
  | p,x::xs=>bif x==p then cmpA x xs else x::cmpA x xs
def cmpL [BEq α] : List α → List α
  | []=>[]
  | x::xs=>x::cmpA x xs
theorem zJL [BEq α] [LawfulBEq α] : ∀ {p : α} {l : List α} {y : α}, y ∈ cmpA p l → y ∈ l
  | p,x::xs,y,h=>by
    unfold cmpA at h
    cases hx:(x==p)
    · rw [hx, cond_false] at h
      rcases List.mem_cons.1 h with rfl | h
      · exact List.mem_cons_self ..
      · exact List.mem_cons_of_mem _ (zJL h)
    · rw [hx, cond_true] at h
      exact List.mem_cons_of_mem _ (zJL h)
theorem zIJ [BEq α] [LawfulBEq α] : ∀ {p : α} {l : List α} {y : α}, y ∈ l → y = p ∨ y ∈ cmpA p l
  | p,x::xs,y,h=>by
    unfold cmpA
    cases hx:(x==p)
    · rw [cond_false]
      rcases List.mem_cons.1 h with rfl | h
      · exact .inr (List.mem_cons_self ..)
      · rcases zIJ (p := x) h with rfl | h
        · exact .inr (List.mem_cons_self ..)
        · exact .inr (List.mem_cons_of_mem _ h)
    · rw [cond_true]
      rw [beq_iff_eq] at hx
      subst hx
      rcases List.mem_cons.1 h with rfl | h
      · exact .inl rfl
      · exact zIJ h
theorem zNg [BEq α] [LawfulBEq α] {l:List α} {y:α}:y ∈ cmpL l ↔ y ∈ l:=by
  cases l with
  | nil=>rfl
  | cons x xs=>
    unfold cmpL
    constructor
    · intro h
      rcases List.mem_cons.1 h with rfl | h
      · exact List.mem_cons_self ..
      · exact List.mem_cons_of_mem _ (zJL h)
    · intro h
      rcases List.mem_cons.1 h with rfl | h
      · exact List.mem_cons_self ..
      · rcases zIJ (p := x) h with rfl | h
        · exact List.mem_cons_self ..
        · exact List.mem_cons_of_mem _ h
theorem zGT [BEq α] [LawfulBEq α] (S : Sto lt) : ∀ {p : α} {l : List α}, zGa lt (p :: l) → zBw lt (p :: cmpA p l)
  | p,[],_=>List.pairwise_cons.2 ⟨fun y h=>(by cases h),List.Pairwise.nil⟩
  | p,x::xs,h=>by
    obtain ⟨h1,h2⟩:=List.pairwise_cons.1 h
    unfold cmpA
    cases hx:(x==p)
    · rw [cond_false]
      have ih:=zGT S h2
      refine List.pairwise_cons.2 ⟨fun y hy=>?_,ih⟩
      have hpx:lt p x=true:=by
        cases hpx:lt p x
        · have := S.tri p x hpx (h1 x (List.mem_cons_self ..))
          subst this
          simp at hx
        · rfl
      rcases List.mem_cons.1 hy with rfl | hy
      · exact hpx
      · exact S.tr p x y hpx ((List.pairwise_cons.1 ih).1 y hy)
    · rw [cond_true]
      rw [beq_iff_eq] at hx
      subst hx
      exact zGT S h2
theorem zKG [BEq α] [LawfulBEq α] (S:Sto lt) {l:List α} (h:zGa lt l):zBw lt (cmpL l):=by
  cases l with
  | nil=>exact List.Pairwise.nil
  | cons x xs=>exact zGT S h
theorem zHv [BEq α] : ∀ {p : α} {l : List α}, (cmpA p l).length ≤ l.length
  | _,[]=>Nat.le_refl _
  | p,x::xs=>by
    unfold cmpA
    have:=zHv (p:=x) (l:=xs)
    cases (x==p) <;> simp <;> omega
theorem zFJ [BEq α] [LawfulBEq α] (S : Sto lt) : ∀ (xs : List α) (a : List α), zBw lt a → zBw lt (xs.foldl (putS lt) a) ∧ ∀ y, y ∈ xs.foldl (putS lt) a ↔ y ∈ xs ∨ y ∈ a
  | [],a,h=>⟨h,fun y=>by simp⟩
  | x::xs,a,h=>by
    obtain ⟨h1,h2⟩:=zFJ S xs (putS lt a x) (zKM S x h)
    refine ⟨h1,fun y=>?_⟩
    rw [List.foldl_cons,h2,zNc,List.mem_cons]
    constructor
    · rintro (h | h | h)
      · exact .inl (.inr h)
      · exact .inl (.inl h)
      · exact .inr h
    · rintro ((h | h) | h)
      · exact .inr (.inl h)
      · exact .inl h
      · exact .inr (.inr h)
theorem zI2 (S:Sto lt) (l:List α):zGa lt (l.mergeSort fun x y=>!(lt y x)):=by
  have:=List.pairwise_mergeSort (le:=fun x y=>!(lt y x)) (fun a b c h k=>by
    simp only [Bool.not_eq_true'] at *
    exact S.le_tr h k) (fun a b=>by
    simp only [Bool.or_eq_true,Bool.not_eq_true']
    cases hb:lt b a
    · exact .inl rfl
    · exact .inr (S.asy hb)) l
  exact this.imp fun h=>by simpa using h
end
end Go.Proofs.YtcodfkieaoomnaaGreatDoor
namespace Go.Proofs.YtcodfkieaoomnaaGreatDoor
open Go.RowKit
set_option linter.unusedVariables false
set_option linter.unusedSimpArgs false
theorem zGq {α:Type} (xs:List α) (k:Nat):subL xs 0 (k:Int)=xs.take k:=by simp [subL]
theorem zHy {α:Type} (xs:List α) (k:Nat):subL xs (k:Int) (xs.length:Int)=xs.drop k:=by
  unfold subL
  rw [Int.toNat_natCast,Int.toNat_natCast]
  exact List.take_of_length_le (by simp)
theorem zOD {α:Type} {xs:List α} {k:Nat} (h:k≤xs.length):subR 0 (k:Int) xs.length=true:=zBf.2 ⟨by omega,by omega,by omega⟩
theorem zLQ {α:Type} {xs:List α} {k:Nat} (h:k≤xs.length):subR (k:Int) (xs.length:Int) xs.length=true:=zBf.2 ⟨by omega,by omega,by omega⟩
theorem zNa {α : Type} {lt : α → α → Bool} {x : α} {l : List α} {L : Nat → Int → Option Int} (hs : ∀ k (i : Nat) y, l[i]? = some y → L (k + 1) (i : Int) = bif lt y x then L k ((i + 1 : Nat) : Int) else some (i : Int)) (he : ∀ k, L (k + 1) (l.length : Int) = some (l.length : Int)) {fu : Nat} (hf : l.length < fu) :
    L fu (0:Int)=some ((plc lt x l:Nat):Int):=by
  have key:∀ m i k,i+m=l.length→m<k→L k ((i:Nat):Int)=some ((i+plc lt x (l.drop i):Nat):Int):=by
    intro m
    induction m with
    | zero=>
      intro i k hi hk
      obtain ⟨k,rfl⟩:∃ q,k=q+1:=⟨k-1,by omega⟩
      obtain rfl:i=l.length:=by omega
      rw [he,List.drop_length]
      rfl
    | succ m ih=>
      intro i k hi hk
      obtain ⟨k,rfl⟩:∃ q,k=q+1:=⟨k-1,by omega⟩
      have hx:=List.getElem?_eq_getElem (show i<l.length by omega)
      rw [hs k i _ hx,zCm hx,plc]
      cases lt l[i] x
      · rfl
      · rw [cond_true, cond_true, ih (i + 1) k (by omega) (by omega)]
        congr 2
        omega
  have:=key l.length 0 fu (by omega) hf
  rwa [show ((0:Nat):Int)=0 from rfl,List.drop_zero,Nat.zero_add] at this
theorem zMn {fu:Nat} {l:List (List UInt8)} {x:List UInt8} {tw:Bool} (hf:l.length<fu) (hl:l.length≤2147483648):zCc fu l x tw=some (bif tw then putW bLt l x else putS bLt l x):=by
  unfold zCc
  have h:=zNa (lt:=bLt) (x:=x) (l:=l) (L:=zCN fu l x) (fun k i y hy=>by
    have hi:=zDK hy
    rw [zCN]
    simp only [lt_t hi,zAx hi,zAq hy,zBK,Bool.or_true,Bool.true_and,zCL,zCg (show i≤4294967296 by omega),zBH]) (fun k=>by rw [zCN,lt_f];rfl) hf
  have hp:=zO1 (lt:=bLt) (x:=x) l
  rw [h,zA5]
  simp only [zBK,zGq,zHy,zOD hp,zLQ hp,zCL,List.length_nil,List.length_append,List.length_take,List.length_drop,List.length_singleton,List.nil_append,Nat.zero_add,zBV (show min (plc bLt x l) l.length≤4294967296 by omega),zBV (show min (plc bLt x l) l.length+1≤4294967296 by omega),zBV (show min (plc bLt x l) l.length+1+(l.length-plc bLt x l)≤4294967296 by omega)]
  have hins:l.take (plc bLt x l) ++ [x]++l.drop (plc bLt x l)=putW bLt l x:=by simp [putW,zLk]
  rw [hins]
  unfold putS
  by_cases hlt:plc bLt x l<l.length
  · have hg := List.getElem?_eq_getElem hlt
    rw [lt_t hlt,zAx hlt,zAq hg,hg]
    have:(some l[plc bLt x l]==some x)=(l[plc bLt x l]==x):=rfl
    rw [this]
    cases tw <;> cases (l[plc bLt x l]==x) <;> rfl
  · have e : decide (((plc bLt x l : Nat) : Int) < (l.length : Int)) = false := decide_eq_false (by omega)
    have e2:l[plc bLt x l]? = none:=List.getElem?_eq_none (by omega)
    rw [e,e2]
    cases tw <;> rfl
theorem zPc {fu:Nat} {l:List (List UInt8)} {x:List UInt8} (hf:l.length<fu) (hl:l.length≤2147483648):zER fu l x=some (l.any fun y=>y==x):=by
  unfold zER
  have h:=zFU (xs:=l) (p:=fun y=>y==x) (r:=true) (L:=zCQ fu l x) (fun k i y hy=>by
    have hi:=zDK hy
    rw [zCQ,lt_t hi,cond_true]
    simp only [zAx hi,zAq hy,zCL,zCg (show i≤4294967296 by omega),zBH]) (fun k=>by rw [zCQ,lt_f];rfl) hf
  rw [h,zA5]
  cases l.any fun y=>y==x <;> rfl
theorem zJu {fu:Nat} {a b:List (List UInt8)} (hf:1048577≤fu) (ha:a.length≤1048576) (hb:b.length≤1048576):zBj fu a b=some ((a.filter fun x=>b.any fun y=>y==x).foldl (putS bLt) []):=by
  unfold zBj
  have h:=zDw (xs:=a) (g:=fun (acc:List (List UInt8)) x=>bif (b.any fun y=>y==x) then putS bLt acc x else acc) (Inv:=fun i acc=>acc.length≤i) (L:=fun k i acc=>zAd fu a b k i acc) (fun k i acc x hx hacc=>by
    have hi:=zDK hx
    show zAd fu a b (k+1) (i:Int) acc=_
    rw [zAd,lt_t hi,cond_true]
    simp only [zAx hi,zAq hx,zCL,zPc (show b.length<fu by omega) (show b.length≤2147483648 by omega),zMn (show acc.length<fu by omega) (show acc.length≤2147483648 by omega),zA5,zCg (show i≤4294967296 by omega),zBH,cond_false]
    cases b.any fun y=>y==x <;> rfl) (fun i acc x hx hacc=>by
    show (bif (b.any fun y=>y==x) then putS bLt acc x else acc).length≤i+1
    cases b.any fun y=>y==x
    · exact Nat.le_succ_of_le hacc
    · rw [cond_true]
      unfold putS putW
      cases (acc[plc bLt x acc]? == some x)
      · rw [cond_false,zF6];omega
      · exact Nat.le_succ_of_le hacc) (fun k acc hacc=>by show zAd fu a b (k+1) (a.length:Int) acc=_;rw [zAd,lt_f];rfl) (a:=[]) (Nat.zero_le _) (show a.length<fu by omega)
  rw [h.1,zA5,List.foldl_filter]
  congr 1
  have:(fun (acc:List (List UInt8)) x=>bif (b.any fun y=>y==x) then putS bLt acc x else acc)=fun acc x=>if (b.any fun y=>y==x)=true then putS bLt acc x else acc:=by
    funext acc x
    cases b.any fun y=>y==x <;> rfl
  rw [this]
theorem zKU {fu:Nat} {l:List (List UInt8)} (hl:l.length≤4294967296):zAg fu l=some l:=by
  unfold zAg
  rw [List.nil_append,ck_t (zBV (by simpa using hl))]
theorem zKb {fu:Nat} {l:List (List UInt8)} (hl:l.length≤4294967296):zHE fu l=some (l.mergeSort fun x y=>!(bLt y x)):=by
  unfold zHE
  rw [ck_t (zBV hl)]
  have:(fun x y:List UInt8=>decide (x≤y))=fun x y=>!(bLt y x):=by
    funext x y
    exact zPM x y
  rw [this]
theorem zMV {α:Type} {z:α} {s:List α} {w:Nat} (h:w≤s.length):subL (s.take w++List.replicate (s.length-w) z) 0 (w:Int)=s.take w:=by
  rw [zGq,List.take_append_of_le_length (by simp;omega),List.take_take,Nat.min_self]
theorem zJd {α:Type} {z:α} {s:List α} {w:Nat} (h:w≤s.length):(s.take w++List.replicate (s.length-w) z).length=s.length:=by simp;omega
theorem zLs {fu : Nat} {s : List (List UInt8)} {i : Nat} (hl : s.length ≤ 1048576) (hi0 : 0 < i) : ∀ m j w k ys q, i + j + m = s.length → m < k → 1 ≤ j → w ≤ i + j - 1 → ys.length = s.length → ys.drop (i + j - 1) = s.drop (i + j - 1) → s[i + j - 1]? = some q → ys.take w ++ cmpA q (s.drop (i + j)) = cmpL s →
    ∃ (w':Nat) (ys':List (List UInt8)),zAS fu (i:Int) (s.length-i) k (w:Int) (j:Int) ys=some ((w':Int),ys')∧ys'.length=s.length∧w'≤s.length∧ys'.take w'=cmpL s:=by
  intro m
  induction m with
  | zero=>
    intro j w k ys q hm hk hj hw hlen hdr hq hc
    obtain ⟨k,rfl⟩:∃ q,k=q+1:=⟨k-1,by omega⟩
    refine ⟨w,ys,?_,hlen,by omega,?_⟩
    · rw [zAS, decide_eq_false (show ¬ (j : Int) < ((s.length - i : Nat) : Int) by omega)]
      rfl
    · rw [show i + j = s.length by omega, List.drop_length] at hc
      simpa [cmpA] using hc
  | succ m ih=>
    intro j w k ys q hm hk hj hw hlen hdr hq hc
    obtain ⟨k,rfl⟩:∃ q,k=q+1:=⟨k-1,by omega⟩
    have hx:=List.getElem?_eq_getElem (show i+j<s.length by omega)
    have hat:∀ n,i+j-1≤n→ys[n]? = s[n]?:=fun n hn=>by
      have:=congrArg (fun l=>l[n-(i+j-1)]?) hdr
      simp only [List.getElem?_drop] at this
      rwa [show i+j-1+(n-(i+j-1))=n by omega] at this
    have hyx:ys[i+j]? = some s[i+j]:=(hat _ (by omega)).trans hx
    have hyq:ys[i+j-1]? = some q:=(hat _ (Nat.le_refl _)).trans hq
    have e1:((i:Int)+(j:Int))=((i+j:Nat):Int):=rfl
    have e2:((i:Int)+((j:Int)-1))=((i+j-1:Nat):Int):=by omega
    rw [zAS,decide_eq_true (show (j:Int)<((s.length-i:Nat):Int) by omega),cond_true,ck_t (zNK (by omega) (by omega)),ck_t (decide_eq_true (by omega)),e1,ck_t (zAx (by omega)),ck_t (zAl (by omega) (by omega)),ck_t (zNK (by omega) (by omega)),ck_t (decide_eq_true (by omega)),e2,ck_t (zAx (by omega)),zAq hyx,zAq hyq]
    rw [zCm hx,cmpA] at hc
    cases hb:(s[i+j]==q)
    · rw [Bool.not_false, cond_true, ck_t (zNK (by omega) (by omega)), ck_t (decide_eq_true (by omega)), ck_t (zAx (by omega)), ck_t (zAx (by omega)), ck_t (zEC (by omega)), ck_t (zEC (by omega)), zBH, zBH, zGV]
      rw [hb,cond_false] at hc
      have:=ih (j+1) (w+1) k (ys.set w s[i+j]) s[i+j] (by omega) (by omega) (by omega) (by omega) (by rw [List.length_set];exact hlen) ?_ ?_ ?_
      · exact this
      · rw [List.drop_set_of_lt (by omega)]
        have:=congrArg (fun l=>l.drop 1) hdr
        simp only [List.drop_drop] at this
        rwa [show i+(j+1)-1=i+j-1+1 by omega]
      · rw [show i + (j + 1) - 1 = i + j by omega]
        exact hx
      · rw [List.take_add_one, List.take_set_of_le (Nat.le_refl _), List.getElem?_set_self (by omega)]
        simpa [Nat.add_assoc] using hc
    · rw [Bool.not_true, cond_false, ck_t (zEC (by omega)), zBH]
      rw [hb,cond_true] at hc
      refine ih (j+1) w k ys s[i+j] (by omega) (by omega) (by omega) (by omega) hlen ?_ ?_ hc
      · have := congrArg (fun l => l.drop 1) hdr
        simp only [List.drop_drop] at this
        rwa [show i+(j+1)-1=i+j-1+1 by omega]
      · rw [show i + (j + 1) - 1 = i + j by omega]
        exact hx
theorem zMi {fu:Nat} {s:List (List UInt8)} (hf:1048577≤fu) (hl:s.length≤1048576):zB0 fu s=some (cmpL s):=by
  unfold zB0
  by_cases h2:s.length<2
  · rw [decide_eq_true (by omega), cond_true]
    match s,h2 with
    | [],_=>rfl
    | [x],_=>rfl
  · rw [decide_eq_false (by omega), cond_false]
    have key : ∀ m i k q, i + m = s.length → m < k → 0 < i → s[i - 1]? = some q → s.take i ++ cmpA q (s.drop i) = cmpL s →
        zAT fu k (i:Int) s=some (Ex.ret (cmpL s))∨(zAT fu k (i:Int) s=some (Ex.go s)∧cmpL s=s):=by
      intro m
      induction m with
      | zero=>
        intro i k q hm hk hi hq hc
        obtain ⟨k,rfl⟩:∃ q,k=q+1:=⟨k-1,by omega⟩
        obtain rfl:i=s.length:=by omega
        right
        refine ⟨by rw [zAT,lt_f];rfl,?_⟩
        rw [List.drop_length,List.take_length] at hc
        simpa [cmpA] using hc.symm
      | succ m ih=>
        intro i k q hm hk hi hq hc
        obtain ⟨k,rfl⟩:∃ q,k=q+1:=⟨k-1,by omega⟩
        have hlt:i<s.length:=by omega
        have hx:=List.getElem?_eq_getElem hlt
        have e1:((i:Int)-1)=((i-1:Nat):Int):=by omega
        rw [zAT,lt_t hlt,cond_true,ck_t (zAx hlt),ck_t (zAl (by omega) (by omega)),e1,ck_t (zAx (by omega)),zAq hx,zAq hq]
        have hc':=hc
        rw [zCm hx,cmpA] at hc
        cases hb:(s[i]==q)
        · rw [cond_false, ck_t (zEC (by omega)), zBH]
          rw [hb,cond_false] at hc
          refine ih (i+1) k s[i] (by omega) (by omega) (by omega) (by rw [Nat.add_sub_cancel];exact hx) ?_
          have ht:s.take (i+1)=s.take i ++ [s[i]]:=by rw [List.take_add_one,hx];rfl
          rw [ht,List.append_assoc]
          exact hc
        · left
          rw [hb,cond_true] at hc
          obtain ⟨w',ys',h3,h4,h5,h6⟩:=zLs (fu:=fu) hl hi (s.length-i-1) 1 i fu s s[i] (by omega) (by omega) (Nat.le_refl _) (by omega) rfl rfl (by rw [Nat.add_sub_cancel];exact hx) hc
          rw [cond_true,ck_t (zLQ (Nat.le_of_lt hlt)),zBK,Int.toNat_natCast,Int.toNat_natCast,show ((1:Int))=((1:Nat):Int) from rfl,h3,zA5]
          simp only [h4,zBf.2 ⟨show (0:Int)≤(w':Int) by omega,show (w':Int)≤(s.length:Int) by omega,show (s.length:Int)≤(s.length:Int) from Int.le_refl _⟩,zBK,Int.toNat_natCast,zCL,beq_self_eq_true]
          have e3:(ys'.take w'++List.replicate (s.length-w') ([]:List UInt8))=(ys'.take w'++List.replicate (ys'.length-w') ([]:List UInt8)):=by rw [h4]
          rw [e3,ck_t (by rw [zJd (by omega)];exact zOD (by omega)),zMV (by omega),h6]
    obtain ⟨x0,t,hs⟩:∃ x t,s=x::t:=by
      cases s with
      | nil=>simp at h2
      | cons x t=>exact ⟨x,t,rfl⟩
    have hk:=key (s.length-1) 1 fu x0 (by omega) (by omega) (by omega) (by rw [hs];rfl) (by rw [hs];rfl)
    rw [show ((1:Int))=((1:Nat):Int) from rfl]
    rcases hk with h | ⟨h,e⟩
    · rw [h]
      rfl
    · rw [h, e]
      rfl
theorem zI9 {fu:Nat} {l:List (List UInt8)} (hf:1048577≤fu) (hl:l.length≤1048576):zCW fu l=some (cmpL (l.mergeSort fun x y=>!(bLt y x))):=by
  unfold zCW
  rw [zKU (by omega),zA5,zKb (by omega),zA5,zMi hf (by rw [List.length_mergeSort];exact hl)]
  rfl
def setL (l:List (List UInt8)):List (List UInt8):=cmpL (l.mergeSort fun x y=>!(bLt y x))
theorem zGg (l:List (List UInt8)):zBw bLt (setL l):=zKG zDD (zI2 zDD l)
theorem zGo {l:List (List UInt8)} {x:List UInt8}:x ∈ setL l ↔ x ∈ l:=by
  unfold setL
  rw [zNg,List.mem_mergeSort]
theorem zKB {l:List (List UInt8)}:(cmpL l).length≤l.length:=by
  cases l with
  | nil=>exact Nat.le_refl _
  | cons x xs=>
    have:=zHv (p:=x) (l:=xs)
    simp [cmpL]
    omega
theorem zID (l:List (List UInt8)):(setL l).length≤l.length:=by
  have:=zKB (l:=l.mergeSort fun x y=>!(bLt y x))
  rwa [List.length_mergeSort] at this
theorem zMQ (a b:List (List UInt8)):(a.filter fun x=>b.any fun y=>y==x).foldl (putS bLt) []=(setL a).filter fun x=>b.any fun y=>y==x:=by
  obtain ⟨h1,h2⟩:=zFJ zDD (a.filter fun x=>b.any fun y=>y==x) [] List.Pairwise.nil
  refine zEj zDD h1 ((zGg a).sublist List.filter_sublist) fun x=>?_
  rw [h2,List.mem_filter,List.mem_filter,zGo]
  simp
end Go.Proofs.YtcodfkieaoomnaaGreatDoor
namespace Go.Proofs.YtcodfkieaoomnaaGreatDoor
open Go.RowKit
set_option linter.unusedVariables false
set_option linter.unusedSimpArgs false
def wds : List UInt8 → List UInt8 → List (List UInt8)
  | cur,[]=>bif cur.isEmpty then [] else [cur]
  | cur,b::l=>bif b==32 then (bif cur.isEmpty then wds [] l else cur::wds [] l) else wds (cur ++ [b]) l
def neL (l:List (List UInt8)):List (List UInt8):=l.filter fun y=>!y.isEmpty
theorem zJN (x:List UInt8) (l:List (List UInt8)):neL (x::l)=bif x.isEmpty then neL l else x::neL l:=by
  unfold neL
  rw [List.filter_cons]
  cases x.isEmpty <;> rfl
theorem zKD : ∀ (s cur x : List UInt8) (xs : List (List UInt8)), spC 32 s = x :: xs → wds cur s = neL ((cur ++ x) :: xs)
  | [],cur,x,xs,h=>by
    rw [spC] at h
    injection h with h1 h2
    subst h1;subst h2
    rw [wds,zJN,List.append_nil]
    rfl
  | b::s,cur,x,xs,h=>by
    obtain ⟨y,ys,hy⟩:∃ y ys,spC 32 s=y::ys:=by
      cases h':spC 32 s with
      | nil=>exact absurd h' (zKt 32 s)
      | cons y ys=>exact ⟨y,ys,rfl⟩
    by_cases hb:b=32
    · subst hb
      rw [spC,if_pos rfl] at h
      injection h with h1 h2
      subst h1;subst h2
      have ih:=zKD s [] y ys hy
      rw [List.nil_append,← hy] at ih
      rw [wds,show ((32:UInt8)==32)=true from rfl,cond_true,ih,zJN,List.append_nil]
    · rw [spC, if_neg hb, hy] at h
      injection h with h1 h2
      subst h1;subst h2
      rw [wds,show (b==32)=false from beq_eq_false_iff_ne.2 hb,cond_false,zKD s (cur ++ [b]) y ys hy,List.append_assoc]
      rfl
theorem zOx (s:List UInt8):wds [] s=neL (spC 32 s):=by
  cases h:spC 32 s with
  | nil=>exact absurd h (zKt 32 s)
  | cons y ys=>rw [zKD s [] y ys h,List.nil_append]
theorem zMb (s : ByteArray) (f : Nat) (st : Option Nat) (acc : List (Nat × Nat)) (p : Nat → Bool) (hst : ∀ a, st = some a → a < s.size) :
    (Lib.closeSpans s (Lib.spansFromP p s f s.size st acc)).map (fun q=>Lib.pieceU s.data.toList q.1 q.2)=acc.map (fun q=>Lib.pieceU s.data.toList q.1 q.2)++wds (Lib.openPiece s.data.toList st s.size) (s.data.toList.drop s.size):=by
  have hd:s.data.toList.drop s.size = []:=List.drop_eq_nil_of_le (by rw [← Lib.size_eq];exact Nat.le_refl _)
  rw [hd,Lib.spansFromP_end p s _ _ _ _ (Nat.lt_irrefl _)]
  cases st with
  | none=>simp [Lib.closeSpans,Lib.openPiece,wds]
  | some a=>
    have:=Lib.pieceU_ne s.data.toList a s.size (hst a rfl) (by rw [← Lib.size_eq];exact Nat.le_refl _)
    have h2:(Lib.pieceU s.data.toList a s.size).isEmpty=false:=by
      cases hz:Lib.pieceU s.data.toList a s.size with
      | nil=>exact absurd hz this
      | cons _ _=>rfl
    simp [Lib.closeSpans,Lib.openPiece,wds,h2]
theorem zOo (s : ByteArray) (hs : ∀ b ∈ s.data.toList, b.toNat < 128) (p : Nat → Bool) (hp : ∀ b : UInt8, b.toNat < 128 → p b.toNat = (b == 32)) : ∀ (f pos : Nat) (st : Option Nat) (acc : List (Nat × Nat)), s.size ≤ pos + f → pos ≤ s.size → (∀ a, st = some a → a < pos) →
    (Lib.closeSpans s (Lib.spansFromP p s f pos st acc)).map (fun q=>Lib.pieceU s.data.toList q.1 q.2)=acc.map (fun q=>Lib.pieceU s.data.toList q.1 q.2)++wds (Lib.openPiece s.data.toList st pos) (s.data.toList.drop pos):=by
  intro f
  induction f with
  | zero=>
    intro pos st acc h hp0 hst
    obtain rfl:pos=s.size:=by omega
    exact zMb s 0 st acc p hst
  | succ f ih=>
    intro pos st acc h hp0 hst
    by_cases hlt:pos<s.size
    · have hl : pos < s.data.toList.length := by rw [← Lib.size_eq]; exact hlt
      have hb:(s[pos]'hlt)=s.data.toList[pos]'hl:=rfl
      have ha:(s[pos]'hlt).toNat<128:=by rw [hb];exact hs _ (List.getElem_mem hl)
      have hd:=decode_ascii s pos hlt ha
      have hdr:s.data.toList.drop pos=(s[pos]'hlt)::s.data.toList.drop (pos+1):=List.drop_eq_getElem_cons hl
      unfold Lib.spansFromP
      rw [if_pos hlt,hd,hdr]
      generalize (s[pos]'hlt)=b at ha hb hdr ⊢
      dsimp only
      rw [hp b ha,wds]
      have h1:s.size≤pos+1+f:=by omega
      cases hb32:b==32 with
      | true=>
        rw [if_pos rfl,cond_true]
        cases st with
        | none=>
          have ih:=ih (pos+1) none acc h1 (by omega) (fun a h=>by cases h)
          dsimp only
          rw [ih]
          rfl
        | some a=>
          have hpn:=Lib.pieceU_ne s.data.toList a pos (hst a rfl) (by omega)
          have ih:=ih (pos+1) none (acc ++ [(a,pos)]) h1 (by omega) (fun a h=>by cases h)
          dsimp only
          rw [ih]
          have:(Lib.openPiece s.data.toList (some a) pos).isEmpty=false:=by
            show (Lib.pieceU s.data.toList a pos).isEmpty=false
            cases hz:Lib.pieceU s.data.toList a pos with
            | nil=>exact absurd hz hpn
            | cons _ _=>rfl
          rw [this,cond_false,List.map_append,List.append_assoc]
          rfl
      | false=>
        rw [if_neg (by decide),cond_false]
        have ht:(s.data.toList.drop pos).take 1 = [b]:=by rw [hdr];rfl
        cases st with
        | none=>
          have ih:=ih (pos+1) (some pos) acc h1 (by omega) (fun a h=>by cases h;omega)
          dsimp only
          rw [ih]
          have:Lib.openPiece s.data.toList (some pos) (pos+1) = [] ++ [b]:=by
            show Lib.pieceU s.data.toList pos (pos+1)=_
            unfold Lib.pieceU
            rw [Nat.add_sub_cancel_left,ht]
            rfl
          rw [this]
          rfl
        | some a=>
          have ih:=ih (pos+1) (some a) acc h1 (by omega) (fun b h=>by cases h;have:=hst a rfl;omega)
          dsimp only
          rw [ih]
          have:Lib.openPiece s.data.toList (some a) (pos+1)=Lib.openPiece s.data.toList (some a) pos ++ [b]:=by
            show Lib.pieceU s.data.toList a (pos+1)=Lib.pieceU s.data.toList a pos ++ [b]
            rw [← Lib.pieceU_grow _ _ _ _ (Nat.le_of_lt (hst a rfl)),ht]
          rw [this]
    · obtain rfl : pos = s.size := by omega
      exact zMb s (f+1) st acc p hst
theorem zNs (s:ByteArray) (hs:∀ b ∈ s.data.toList,b.toNat<128) (p:Nat→Bool) (hp:∀ b:UInt8,b.toNat<128→p b.toNat=(b==32)):(Lib.goFieldsP p s).map (·.data.toList)=neL (spC 32 s.data.toList):=by
  have h:=zOo s hs p hp s.size 0 none [] (by omega) (Nat.zero_le _) (fun a h=>by cases h)
  rw [List.map_nil,List.nil_append,List.drop_zero] at h
  rw [show Lib.openPiece s.data.toList none 0 = [] from rfl,zOx] at h
  rw [← h]
  unfold Lib.goFieldsP Lib.spansOfP
  rw [List.map_map]
  apply List.map_congr_left
  intro q _
  exact Lib.extract_data s q.1 q.2
def okC (c:UInt8):Bool:=wdB c || c==32
theorem zOO {c:UInt8} (h:okC c=true):c.toNat<128:=by
  unfold okC wdB wdI smI cpI dgI at h
  by_cases h32:c=32
  · subst h32;decide
  · rw [show (c == 32) = false from beq_eq_false_iff_ne.2 h32, Bool.or_false] at h
    simp only [Bool.or_eq_true,Bool.and_eq_true,decide_eq_true_eq] at h
    omega
theorem zOr (s:List UInt8):∀ c ∈ strL s,okC c=true:=by
  intro c hc
  unfold strL at hc
  obtain ⟨b,_,rfl⟩:=List.mem_map.1 hc
  unfold mkC okC
  cases h:wdB b
  · rfl
  · rw [cond_true,h];rfl
theorem zPE {o:List UInt8 × Bool} (h:∀ c ∈ o.1,okC c=true):∀ c ∈ coT o,okC c=true:=by
  unfold coT
  cases (!o.1.isEmpty&&o.2)
  · exact h
  · intro c hc
    rcases List.mem_append.1 hc with hc | hc
    · exact h c hc
    · rw [List.mem_singleton.1 hc];rfl
theorem zN1 : ∀ (s : List UInt8) (o : List UInt8 × Bool), (∀ c ∈ s, okC c = true) → (∀ c ∈ o.1, okC c = true) → ∀ c ∈ (s.foldl coS o).1, okC c = true
  | [],o,_,ho=>ho
  | b::s,o,hs,ho=>by
    rw [List.foldl_cons]
    refine zN1 s _ (fun c hc=>hs c (List.mem_cons_of_mem _ hc)) ?_
    cases h:b==32
    · rw [zLm h]
      intro c hc
      rcases List.mem_append.1 hc with hc | hc
      · exact zPE ho c hc
      · rw [List.mem_singleton.1 hc];exact hs b List.mem_cons_self
    · rw [zLi h]
      exact ho
theorem zMG (s:List UInt8):∀ c ∈ nrmL s,okC c=true:=zN1 _ _ (zOr _) (fun c h=>by cases h)
theorem zL0 (l:List (List UInt8)):l.foldl (putS bLt) []=setL l:=by
  obtain ⟨h1,h2⟩:=zFJ zDD l [] List.Pairwise.nil
  refine zEj zDD h1 (zGg l) fun x=>?_
  rw [h2,zGo]
  simp
def tokL (s:List UInt8):List (List UInt8):=setL (neL (spC 32 (nrmL s)))
theorem zIu (l:List (List UInt8)):(neL l).length≤l.length:=List.length_filter_le _ _
theorem zOs {fu:Nat} {s:List UInt8} (hs:s.length≤2097152) (ha:∀ c ∈ s,okC c=true):zEQ fu s=some (neL (spC 32 s)):=by
  have hF:∀ n:Int,zDg fu n=some (n==32):=fun n=>rfl
  unfold zEQ zHj
  rw [ck_t (zBV (by omega)),ck_t (zLb fun n _=>by rw [hF];rfl),zA5]
  have:=zNs ⟨s.toArray⟩ (by simpa using fun b hb=>zOO (ha b hb)) (fun n=>(zDg fu (n:Int)).getD false) (fun b _=>by
    rw [hF]
    show (((b.toNat:Nat):Int)==(32:Int))=_
    exact e32)
  rw [this]
theorem zHu {fu:Nat} {s:List UInt8} (hf:1048577≤fu) (hl:s.length≤262144):zCe fu s=some (tokL s):=by
  have h2:=zG6 s
  have h3:=zJ2 32 (nrmL s)
  have h4:=zIu (spC 32 (nrmL s))
  unfold zCe
  rw [zH9 (by omega) (by omega),zA5,zOs (by omega) (zMG s),zA5,zI9 hf (by omega),zA5]
  rfl
theorem zHt {fu:Nat} {s:List UInt8} (hf:1048577≤fu) (hl:s.length≤262144):zCf fu s=some (tokL s):=by
  have h2:=zG6 s
  have h3:=zJ2 32 (nrmL s)
  unfold zCf tokL
  have hcut:zDR fu (nrmL s) (32:Int)=some (spC 32 (nrmL s)):=zOU (c:=32) hf (by omega)
  rw [zHM (by omega) (by omega),zA5,hcut,zA5]
  generalize spC 32 (nrmL s)=l at h3 ⊢
  have h:=zDw (xs:=l) (g:=fun (acc:List (List UInt8)) x=>bif x.isEmpty then acc else putS bLt acc x) (Inv:=fun i acc=>acc.length≤i) (L:=zBe fu l) (fun k i acc x hx hacc=>by
    have hi:=zDK hx
    rw [zBe,lt_t hi,cond_true]
    simp only [zAx hi,zAq hx,zCL,zMn (show acc.length<fu by omega) (show acc.length≤2147483648 by omega),zA5,zCg (show i≤4294967296 by omega),zBH,cond_false]
    cases x with
    | nil=>rfl
    | cons b x=>rfl) (fun i acc x hx hacc=>by
    show (bif x.isEmpty then acc else putS bLt acc x).length≤i+1
    cases x.isEmpty
    · rw [cond_false]
      unfold putS putW
      cases (acc[plc bLt x acc]? == some x)
      · rw [cond_false,zF6];omega
      · exact Nat.le_succ_of_le hacc
    · exact Nat.le_succ_of_le hacc) (fun k acc hacc=>by rw [zBe,lt_f];rfl) (a:=[]) (Nat.zero_le _) (show l.length<fu by omega)
  rw [h.1,zA5,← zL0]
  unfold neL
  rw [List.foldl_filter]
  congr 2
  funext acc x
  cases x.isEmpty <;> rfl
theorem zJk (c : UInt8) : ∀ s : List UInt8, ∀ x ∈ spC c s, ∀ b ∈ x, b ∈ s ∧ b ≠ c
  | [],x,hx,b,hb=>by rw [spC] at hx;rw [List.mem_singleton.1 hx] at hb;cases hb
  | a::s,x,hx,b,hb=>by
    unfold spC at hx
    split at hx
    · rcases List.mem_cons.1 hx with rfl | hx
      · cases hb
      · exact ⟨List.mem_cons_of_mem _ (zJk c s x hx b hb).1,(zJk c s x hx b hb).2⟩
    · rename_i hac
      cases h:spC c s with
      | nil=>exact absurd h (zKt c s)
      | cons y ys=>
        rw [h] at hx
        rcases List.mem_cons.1 hx with rfl | hx
        · rcases List.mem_cons.1 hb with rfl | hb
          · exact ⟨List.mem_cons_self,hac⟩
          · have := zJk c s y (by rw [h]; exact List.mem_cons_self) b hb
            exact ⟨List.mem_cons_of_mem _ this.1,this.2⟩
        · have := zJk c s x (by rw [h]; exact List.mem_cons_of_mem _ hx) b hb
          exact ⟨List.mem_cons_of_mem _ this.1,this.2⟩
theorem zHn {s t:List UInt8} (h:t ∈ tokL s):t ≠ []∧t.length≤2*s.length∧∀ b ∈ t,wdB b=true:=by
  unfold tokL at h
  rw [zGo] at h
  unfold neL at h
  obtain ⟨h1,h2⟩:=List.mem_filter.1 h
  refine ⟨(by intro e;subst e;cases h2),Nat.le_trans (zJ9 32 _ t h1) (zG6 s),fun b hb=>?_⟩
  obtain ⟨h3,h4⟩:=zJk 32 _ t h1 b hb
  have:=zMG s b h3
  unfold okC at this
  rw [show (b==32)=false from beq_eq_false_iff_ne.2 h4,Bool.or_false] at this
  exact this
theorem zGy (s:List UInt8):(tokL s).length≤2*s.length+1:=by
  have h2:=zG6 s
  have h3:=zJ2 32 (nrmL s)
  have h4:=zIu (spC 32 (nrmL s))
  have h5:=zID (neL (spC 32 (nrmL s)))
  unfold tokL
  omega
end Go.Proofs.YtcodfkieaoomnaaGreatDoor
namespace Go.Proofs.YtcodfkieaoomnaaGreatDoor
open Go.RowKit
set_option linter.unusedVariables false
set_option linter.unusedSimpArgs false
theorem zL2 {p:UInt8→Prop} (h:∀ n:Fin 256,p (UInt8.ofNat n.val)) (d:UInt8):p d:=by
  have:=h ⟨d.toNat,d.toNat_lt⟩
  rwa [UInt8.ofNat_toNat] at this
theorem zMv {α σ ρ τ : Type} {xs : List α} {bad : α → Bool} {r : ρ} {g : σ → α → σ} {f : σ → τ} {Inv : Nat → σ → Prop} {L : Nat → Int → σ → Option (Ex ρ τ)} {i0 : Nat}
    (hs:∀ k (i:Nat) a x,i0≤i→xs[i]? = some x→Inv i a→L (k+1) (i:Int) a=bif bad x then some (.ret r) else L k ((i+1:Nat):Int) (g a x)) (hI:∀ (i:Nat) a x,i0≤i→xs[i]? = some x→bad x=false→Inv i a→Inv (i+1) (g a x))
    (he:∀ k a,Inv xs.length a→L (k+1) (xs.length:Int) a=some (.go (f a))) {a:σ} (h0:Inv i0 a) (hi0:i0≤xs.length) {fu:Nat} (hf:xs.length-i0<fu) :
    L fu (i0:Int) a=some (bif (xs.drop i0).any bad then .ret r else .go (f ((xs.drop i0).foldl g a)))∧((xs.drop i0).any bad=false→Inv xs.length ((xs.drop i0).foldl g a)):=by
  have key:∀ m i k a,i+m=xs.length→m<k→i0≤i→Inv i a→L k ((i:Nat):Int) a=some (bif (xs.drop i).any bad then .ret r else .go (f ((xs.drop i).foldl g a)))∧((xs.drop i).any bad=false→Inv xs.length ((xs.drop i).foldl g a)):=by
    intro m
    induction m with
    | zero=>
      intro i k a hi hk hge ha
      obtain ⟨k,rfl⟩:∃ q,k=q+1:=⟨k-1,by omega⟩
      obtain rfl:i=xs.length:=by omega
      rw [he k a ha,List.drop_length]
      exact ⟨rfl,fun _=>ha⟩
    | succ m ih=>
      intro i k a hi hk hge ha
      obtain ⟨k,rfl⟩:∃ q,k=q+1:=⟨k-1,by omega⟩
      have hx:=List.getElem?_eq_getElem (show i<xs.length by omega)
      rw [hs k i a _ hge hx ha,zCm hx,List.foldl_cons,List.any_cons]
      cases hb:bad xs[i] with
      | true=>exact ⟨rfl,fun h=>by cases h⟩
      | false=>
        rw [cond_false,Bool.false_or]
        exact ih (i+1) k _ (by omega) (by omega) (by omega) (hI i a _ hge hx hb ha)
  exact key (xs.length-i0) i0 fu a (by omega) hf (Nat.le_refl _) h0
def sndD (d:UInt8):Int:=bif smI d.toNat then gtD sndL ((d.toNat:Int)-97) else -2
def sndC (c:UInt8):Int:=sndD (fld c)
theorem zL6 {fu:Nat} {c:UInt8} (hf:1048577≤fu):zD8 fu (c.toNat:Int)=some (sndC c):=by
  unfold zD8 sndC
  have e:strB ([((c.toNat:Nat):Int)]:List Int) = [c]:=zEA [c]
  rw [e,zHI (s:=[c]) (by simp;omega) (by simp),zA5]
  show _=some (sndD (fld c))
  rw [show ([c].map fld) = [fld c] from rfl]
  generalize fld c=d
  revert d
  refine zL2 ?_
  decide +kernel
theorem zN5 (fu:Nat) (c:UInt8):zC9 fu (c.toNat:Int)=some (sndC c):=by
  unfold zC9 zBs sndC
  revert c
  refine zL2 ?_
  decide +kernel
theorem zJJ {fu:Nat} {c:UInt8}:zC9 fu (c.toNat:Int)=some (sndC c):=zN5 fu c
theorem zOI (c:UInt8):-2≤sndC c∧sndC c≤6:=by
  revert c
  refine zL2 ?_
  decide +kernel
theorem zPP {n:Int} (h0:0≤n) (h1:n≤6):([(IntKind.u8.wrap ((48:Int)+n))]:List Int)=bytL [UInt8.ofNat (48+n.toNat)]:=by
  obtain ⟨k,rfl⟩:∃ k:Nat,n=(k:Int):=⟨n.toNat,by omega⟩
  rw [zKT _ (by omega) (by omega),Int.toNat_natCast]
  unfold bytL
  rw [List.map_cons,List.map_nil,UInt8.toNat_ofNat']
  congr 1
  omega
def sxG (o:List UInt8 × Int) (c:UInt8):List UInt8 × Int:=bif decide (sndC c<0) then o else (bif decide (0<sndC c)&&(sndC c != o.2) then o.1 ++ [UInt8.ofNat (48+(sndC c).toNat)] else o.1,sndC c)
def sxL (s : List UInt8) : List UInt8 := match s with
  | []=>[]
  | c::t=>bif (c::t).any (fun c=>sndC c == -2) then [] else ((t.foldl sxG ([fld c],sndC c)).1 ++ [48,48,48]).take 4
theorem zIC : ∀ (t : List UInt8) (o : List UInt8 × Int), o.1.length ≤ (t.foldl sxG o).1.length ∧ (t.foldl sxG o).1.length ≤ o.1.length + t.length
  | [],o=>⟨Nat.le_refl _,Nat.le_refl _⟩
  | c::t,o=>by
    have:=zIC t (sxG o c)
    have h2:o.1.length≤(sxG o c).1.length∧(sxG o c).1.length≤o.1.length+1:=by
      unfold sxG
      cases decide (sndC c<0)
      · cases (decide (0 < sndC c) && (sndC c != o.2))
        · exact ⟨Nat.le_refl _,Nat.le_succ _⟩
        · simp
      · exact ⟨Nat.le_refl _,Nat.le_succ _⟩
    rw [List.foldl_cons,List.length_cons]
    omega
theorem sub1 {c:UInt8} {t:List UInt8}:subL (c::t) 0 (1:Int) = [c]:=by
  rw [show ((1:Int))=((1:Nat):Int) from rfl,zGq]
  rfl
theorem zN4 {fu:Nat} {s:List UInt8} (hf:1048577≤fu) (hl:s.length≤1048576):zDf fu s=some (sxL s):=by
  unfold zDf
  cases s with
  | nil=>rfl
  | cons c t=>
    have hlen:(c::t).length=t.length+1:=rfl
    rw [show ((c::t)==([]:List UInt8))=false from rfl,cond_false,ck_t (zBf.2 ⟨Int.le_refl _,by omega,by rw [hlen];omega⟩),sub1,zIa (s:=[c]) (by simp;omega) (by simp),zA5,show ([c].map fld) = [fld c] from rfl,ck_t (zBV (by simp)),ck_t (zKL (by rw [hlen];omega)),show bAt (c::t) (0:Int)=(c.toNat:Int) from rfl,zJJ,zA5]
    have h1:=zMv (xs:=c::t) (bad:=fun c=>sndC c == -2) (r:=([]:List UInt8)) (g:=sxG) (f:=fun a:List UInt8 × Int=>bytL a.1) (Inv:=fun i a=>a.1.length≤i) (i0:=1) (L:=fun k i (a:List UInt8 × Int)=>zB5 fu (c::t) k a.2 i (bytL a.1)) (fun k i a x hge hx ha=>by
      have hi:=zDK hx
      have hr:=zOI x
      try dsimp only
      rw [zB5,lt_t hi,cond_true,ck_t (zAx hi),zDl hx,zJJ,zA5]
      have e0:(((i:Nat):Int)==(0:Int))=false:=by rw [beq_eq_false_iff_ne];omega
      have hone:∀ (l:List Int),l.length=1→zCV ((bytL a.1).length+l.length)=true:=fun l hl=>zBV (by rw [zBq,hl];omega)
      rw [e0,Bool.false_or,zBK,zBK,hone _ rfl,zAl (show -9223372036854775808≤(48:Int)+sndC x by omega) (show (48:Int)+sndC x≤9223372036854775807 by omega)]
      simp only [zCL,zBH,zCg (show i≤4294967296 by omega)]
      cases hb:sndC x == -2 with
      | true=>rfl
      | false=>
        rw [cond_false,cond_false]
        unfold sxG
        cases hn:decide (sndC x<0) with
        | true=>rfl
        | false=>
          have h0:0≤sndC x:=by rw [decide_eq_false_iff_not] at hn;omega
          rw [cond_false]
          cases (decide (0<sndC x)&&(sndC x != a.2)) with
          | true=>rw [cond_true,zPP h0 hr.2,zDY];rfl
          | false=>rfl) (fun i a x hge hx hb ha=>by
      have:=(zIC [x] a).2
      simp only [List.foldl_cons,List.foldl_nil,List.length_singleton] at this
      show (sxG a x).1.length≤i+1
      omega) (fun k a ha=>by (try dsimp only);rw [zB5,lt_f,cond_false]) (a:=([fld c],sndC c)) (Nat.le_refl _) (by rw [hlen];omega) (fu:=fu-1) (by rw [hlen];omega)
    have h1:=h1.1
    try dsimp only at h1
    obtain ⟨k,rfl⟩:∃ k,fu=k+1:=⟨fu-1,by omega⟩
    rw [Nat.add_sub_cancel] at h1
    rw [zB5,lt_0 (by rw [hlen];omega),cond_true,ck_t (zKL (by rw [hlen];omega)),show bAt (c::t) (0:Int)=(c.toNat:Int) from rfl,zJJ,zA5,zBK,show ((((0:Int))==(0:Int)) || decide (sndC c<(0:Int)))=true from rfl,cond_true,zNT,ck_t zKq,h1]
    have e:sxL (c::t)=bif (c::t).any (fun c=>sndC c == -2) then [] else ((t.foldl sxG ([fld c],sndC c)).1 ++ [48,48,48]).take 4:=rfl
    rw [e,List.any_cons,List.drop_one,List.tail_cons]
    cases hb:sndC c == -2 with
    | true=>rw [cond_true,zA5,Bool.true_or,cond_true];rfl
    | false=>
      rw [cond_false,zA5,Bool.false_or]
      cases hb2:t.any fun c=>sndC c == -2 with
      | true=>rw [cond_true,cond_true];rfl
      | false=>
        have hg:=zIC t ([fld c],sndC c)
        generalize (t.foldl sxG ([fld c],sndC c)).1=o at hg ⊢
        rw [cond_false,cond_false,zMM,zEA]
        have hg1:1≤o.length:=hg.1
        have hg2:o.length≤1+t.length:=hg.2
        rw [ck_t (zBV (by simp;omega)),ck_t (zBf.2 ⟨Int.le_refl _,by omega,by simp;omega⟩),show ((4:Int))=((4:Nat):Int) from rfl,zGq]
theorem zMs {o:List UInt8} {d:UInt8}:(o ++ [d]).take 4=bif decide (o.length<4) then o.take 4 ++ [d] else o.take 4:=by
  by_cases h:o.length<4
  · rw [decide_eq_true h,cond_true,List.take_of_length_le (by simp;omega),List.take_of_length_le (by omega)]
  · rw [decide_eq_false h,cond_false,List.take_append_of_le_length (by omega)]
theorem zL3 {fu : Nat} : ∀ (n k : Nat) (o : List UInt8), o.length + n = 4 → n < k → zBk fu k (bytL o) = some (bytL (o ++ List.replicate n 48))
  | 0,k,o,h,hk=>by
    obtain ⟨k,rfl⟩:∃ q,k=q+1:=⟨k-1,by omega⟩
    rw [zBk,zBq,decide_eq_false (by omega),cond_false,List.replicate_zero,List.append_nil]
  | n+1,k,o,h,hk=>by
    obtain ⟨k,rfl⟩:∃ q,k=q+1:=⟨k-1,by omega⟩
    rw [zBk,zBq,decide_eq_true (by omega),cond_true,show ([(48:Int)]:List Int)=bytL [48] from rfl,ck_t (zBV (by rw [zBq];simp;omega)),zDY,zL3 n k (o ++ [48]) (by simp;omega) (by omega),List.append_assoc]
    rfl
theorem zNi {fu:Nat} {s:List UInt8} (hf:1048577≤fu) (hl:s.length≤1048576):zDZ fu s=some (sxL s):=by
  unfold zDZ
  cases s with
  | nil=>
    obtain ⟨k,rfl⟩:∃ k,fu=k+1:=⟨fu-1,by omega⟩
    rw [zAh]
    rfl
  | cons c t=>
    have hlen:(c::t).length=t.length+1:=rfl
    have h1:=zMv (xs:=c::t) (bad:=fun c=>sndC c == -2) (r:=([]:List UInt8)) (g:=sxG) (f:=fun a:List UInt8 × Int=>bytL (a.1.take 4)) (Inv:=fun i a=>a.1.length≤i) (i0:=1) (L:=fun k i (a:List UInt8 × Int)=>zAh fu (c::t) k a.2 i (bytL (a.1.take 4))) (fun k i a x hge hx ha=>by
      have hi:=zDK hx
      have hr:=zOI x
      try dsimp only
      rw [zAh,lt_t hi,cond_true,ck_t (zAx hi),zDl hx,zL6 hf,zA5]
      have e0:(((i:Nat):Int)==(0:Int))=false:=by rw [beq_eq_false_iff_ne];omega
      have hone:∀ (l:List Int),l.length=1→zCV ((bytL (a.1.take 4)).length+l.length)=true:=fun l hl=>zBV (by rw [zBq,hl,List.length_take];omega)
      have h4:decide (((bytL (a.1.take 4)).length:Int)<(4:Int))=decide (a.1.length<4):=by
        rw [zBq,List.length_take]
        by_cases h:a.1.length<4
        · rw [decide_eq_true h,decide_eq_true (by omega)]
        · rw [decide_eq_false h,decide_eq_false (by omega)]
      rw [e0,zBK,zBK,hone _ rfl,h4,zAl (show -9223372036854775808≤(48:Int)+sndC x by omega) (show (48:Int)+sndC x≤9223372036854775807 by omega)]
      simp only [zCL,zBH,zCg (show i≤4294967296 by omega)]
      cases hb:sndC x == -2 with
      | true=>rfl
      | false=>
        rw [cond_false,cond_false]
        unfold sxG
        by_cases hn:sndC x<0
        · rw [decide_eq_true hn, decide_eq_false (show ¬ (0 : Int) < sndC x by omega), decide_eq_false (show ¬ (0 : Int) ≤ sndC x by omega)]
          rfl
        · have h0 : 0 ≤ sndC x := by omega
          rw [decide_eq_false hn,decide_eq_true h0,cond_true,cond_true,cond_false,cond_false]
          cases (decide (0<sndC x)&&(sndC x != a.2)) with
          | true=>
            rw [Bool.true_and,cond_true,zPP h0 hr.2,zDY]
            dsimp only
            rw [zMs]
            cases decide (a.1.length<4) <;> rfl
          | false=>rfl) (fun i a x hge hx hb ha=>by
      have:=(zIC [x] a).2
      simp only [List.foldl_cons,List.foldl_nil,List.length_singleton] at this
      show (sxG a x).1.length≤i+1
      omega) (fun k a ha=>by (try dsimp only);rw [zAh,lt_f,cond_false]) (a:=([fld c],sndC c)) (Nat.le_refl _) (by rw [hlen];omega) (fu:=fu-1) (by rw [hlen];omega)
    have h1:=h1.1
    try dsimp only at h1
    obtain ⟨k,rfl⟩:∃ k,fu=k+1:=⟨fu-1,by omega⟩
    rw [Nat.add_sub_cancel] at h1
    rw [zAh,lt_0 (by rw [hlen];omega),cond_true,ck_t (zKL (by rw [hlen];omega)),show bAt (c::t) (0:Int)=(c.toNat:Int) from rfl,zL6 hf,zA5,show (((0:Int))==(0:Int))=true from rfl,cond_true,ck_t (zBf.2 ⟨Int.le_refl _,by omega,by rw [hlen];omega⟩),sub1,zHI (s:=[c]) (by simp;omega) (by simp),zA5,show ([c].map fld) = [fld c] from rfl,ck_t (zDP.2 ⟨Int.le_refl _,by simp⟩),show bAt [fld c] (0:Int)=((fld c).toNat:Int) from rfl,ck_t (zBV (by simp)),zNT,ck_t zKq,show (([]:List Int) ++ [((fld c).toNat:Int)])=bytL (([fld c]:List UInt8).take 4) from rfl,h1]
    have e:sxL (c::t)=bif (c::t).any (fun c=>sndC c == -2) then [] else ((t.foldl sxG ([fld c],sndC c)).1 ++ [48,48,48]).take 4:=rfl
    rw [e,List.any_cons,List.drop_one,List.tail_cons]
    cases hb:sndC c == -2 with
    | true=>rw [cond_true,zA5,Bool.true_or,cond_true];rfl
    | false=>
      rw [cond_false,zA5,Bool.false_or]
      cases hb2:t.any fun c=>sndC c == -2 with
      | true=>rw [cond_true,cond_true];rfl
      | false=>
        have hg:=zIC t ([fld c],sndC c)
        generalize (t.foldl sxG ([fld c],sndC c)).1=o at hg ⊢
        have hg1:1≤o.length:=hg.1
        rw [cond_false,cond_false,zMM,zBq,show (((o.take 4).length:Int)==(0:Int))=false by rw [beq_eq_false_iff_ne,List.length_take];omega,cond_false,zL3 (4-(o.take 4).length) _ _ (by rw [List.length_take];omega) (by omega),zA5,zEA]
        congr 1
        by_cases h4:o.length<4
        · rw [List.take_of_length_le (Nat.le_of_lt h4), List.take_append, List.take_of_length_le (Nat.le_of_lt h4)]
          congr 1
          match o.length,hg1,h4 with
          | 1,_,_=>rfl
          | 2,_,_=>rfl
          | 3,_,_=>rfl
        · rw [List.take_append_of_le_length (by omega),show 4-(o.take 4).length=0 by rw [List.length_take];omega,List.replicate_zero,List.append_nil]
theorem zOS (s:List UInt8):(sxL s).length≤4:=by
  unfold sxL
  cases s with
  | nil=>exact Nat.zero_le _
  | cons c t=>
    dsimp only
    cases ((c::t).any fun c=>sndC c == -2)
    · rw [cond_false,List.length_take];omega
    · exact Nat.zero_le _
def skL (s:List UInt8):List (List UInt8):=setL (neL ((tokL s).map sxL))
theorem isE (x:List UInt8):(x==([]:List UInt8))=x.isEmpty:=by cases x <;> rfl
theorem zPR (l:List (List UInt8)):neL (l.map sxL)=l.foldl (fun (a:List (List UInt8)) t=>bif (sxL t).isEmpty then a else a ++ [sxL t]) []:=by
  have key:∀ (l a:List (List UInt8)),l.foldl (fun (a:List (List UInt8)) t=>bif (sxL t).isEmpty then a else a ++ [sxL t]) a=a++neL (l.map sxL):=by
    intro l
    induction l with
    | nil=>intro a;simp [neL]
    | cons t l ih=>
      intro a
      rw [List.foldl_cons,ih,List.map_cons,zJN]
      cases (sxL t).isEmpty <;> simp
  rw [key,List.nil_append]
theorem zLM {fu:Nat} {s:List UInt8} (hf:1048577≤fu) (hl:s.length≤262144):zC1 fu s=some (skL s):=by
  have hle:=zGy s
  have htl:∀ t ∈ tokL s,t.length≤1048576:=fun t ht=>by have:=(zHn ht).2.1;omega
  unfold zC1 skL
  rw [zHu hf hl,zA5]
  generalize tokL s=l at hle htl ⊢
  have h:=zDw (xs:=l) (g:=fun (a:List (List UInt8)) t=>bif (sxL t).isEmpty then a else a ++ [sxL t]) (Inv:=fun i a=>a.length≤i) (L:=zBC fu l) (fun k i a x hx ha=>by
    have hi:=zDK hx
    rw [zBC,lt_t hi,cond_true,ck_t (zAx hi),zAq hx,zN4 hf (htl x (zFx hx)),zA5,isE,zBH,zCg (show i≤4294967296 by omega),List.length_singleton,zBV (show a.length+1≤4294967296 by omega)]
    cases (sxL x).isEmpty <;> rfl) (fun i a x hx ha=>by
    show (bif (sxL x).isEmpty then a else a ++ [sxL x]).length≤i+1
    cases (sxL x).isEmpty
    · rw [cond_false,List.length_append,List.length_singleton];omega
    · exact Nat.le_succ_of_le ha) (fun k a ha=>by rw [zBC,lt_f,cond_false]) (a:=[]) (Nat.zero_le _) (show l.length<fu by omega)
  rw [h.1,zA5,← zPR,zI9 hf (by have:=zIu (l.map sxL);rw [List.length_map] at this;omega),zA5]
  rfl
theorem zLJ {fu:Nat} {s:List UInt8} (hf:1048577≤fu) (hl:s.length≤262144):zC8 fu s=some (skL s):=by
  have hle:=zGy s
  have htl:∀ t ∈ tokL s,t.length≤1048576:=fun t ht=>by have:=(zHn ht).2.1;omega
  unfold zC8 skL
  rw [zHt hf hl,zA5]
  generalize tokL s=l at hle htl ⊢
  have h:=zDw (xs:=l) (g:=fun (a:List (List UInt8)) t=>bif (sxL t).isEmpty then a else putS bLt a (sxL t)) (Inv:=fun i a=>a.length≤i) (L:=zBE fu l) (fun k i a x hx ha=>by
    have hi:=zDK hx
    rw [zBE,lt_t hi,cond_true,ck_t (zAx hi),zAq hx,zNi hf (htl x (zFx hx)),zA5,isE,zBH,zCg (show i≤4294967296 by omega),zMn (show a.length<fu by omega) (show a.length≤2147483648 by omega),zA5]
    cases (sxL x).isEmpty <;> rfl) (fun i a x hx ha=>by
    show (bif (sxL x).isEmpty then a else putS bLt a (sxL x)).length≤i+1
    cases (sxL x).isEmpty
    · rw [cond_false]
      unfold putS putW
      cases (a[plc bLt (sxL x) a]? == some (sxL x))
      · rw [cond_false,zF6];omega
      · exact Nat.le_succ_of_le ha
    · exact Nat.le_succ_of_le ha) (fun k a ha=>by rw [zBE,lt_f,cond_false]) (a:=[]) (Nat.zero_le _) (show l.length<fu by omega)
  rw [h.1,zA5]
  congr 1
  rw [← zL0]
  unfold neL
  rw [List.foldl_filter,List.foldl_map]
  congr 1
  funext acc x
  cases (sxL x).isEmpty <;> rfl
theorem zMz (s:List UInt8):(skL s).length≤2*s.length+1:=by
  have h1:=zGy s
  have h2:=zIu ((tokL s).map sxL)
  have h3:=zID (neL ((tokL s).map sxL))
  rw [List.length_map] at h2
  unfold skL
  omega
theorem zMO {s t:List UInt8} (h:t ∈ skL s):t.length≤4:=by
  unfold skL neL at h
  rw [zGo] at h
  obtain ⟨u,_,rfl⟩:=List.mem_map.1 (List.mem_filter.1 h).1
  exact zOS u
end Go.Proofs.YtcodfkieaoomnaaGreatDoor
namespace Go.Proofs.YtcodfkieaoomnaaGreatDoor
open Go.RowKit
set_option linter.unusedVariables false
set_option linter.unusedSimpArgs false
def inI (x lo hi:Int):Bool:=decide (lo≤x)&&decide (x≤hi)
theorem zIN {fu:Nat} {x lo hi:Int}:zCz fu x lo hi=some (inI x lo hi):=rfl
end Go.Proofs.YtcodfkieaoomnaaGreatDoor
namespace Go.Proofs.YtcodfkieaoomnaaGreatDoor
open Go.RowKit
set_option linter.unusedVariables false
set_option linter.unusedSimpArgs false
theorem zPb:∀ d:Nat,d<10→strB [IntKind.u8.wrap ((48:Int)+(d:Int))] = [UInt8.ofNat (48+d)]:=by
  intro d hd
  have:∀ d:Fin 10,strB [IntKind.u8.wrap ((48:Int)+((d.val:Nat):Int))] = [UInt8.ofNat (48+d.val)]:=by decide
  exact this ⟨d,hd⟩
theorem zNe (n:Int):(if n.tmod 10<0 then 0-n.tmod 10 else n.tmod 10)=((n.natAbs % 10:Nat):Int)∧(n.tdiv 10).natAbs=n.natAbs / 10:=by
  cases n with
  | ofNat u=>
    have h1:(Int.ofNat u).tmod 10=((u % 10:Nat):Int):=rfl
    have h2:(Int.ofNat u).tdiv 10=((u / 10:Nat):Int):=rfl
    rw [h1,h2]
    refine ⟨?_,?_⟩
    · rw [if_neg (by omega)];rfl
    · rw [Int.natAbs_natCast];rfl
  | negSucc u=>
    have h1:(Int.negSucc u).tmod 10 = -(((u+1) % 10:Nat):Int):=rfl
    have h2:(Int.negSucc u).tdiv 10 = -(((u+1) / 10:Nat):Int):=rfl
    rw [h1,h2,show (Int.negSucc u).natAbs=u+1 from rfl]
    refine ⟨?_,?_⟩
    · split <;> omega
    · rw [Int.natAbs_neg,Int.natAbs_natCast]
def decT (u:Nat):List UInt8:=if u=0 then [] else Lib.decDigits u
theorem zM5 (u:Nat) (h:u ≠ 0):decT u=decT (u / 10) ++ [UInt8.ofNat (48+u % 10)]:=by
  unfold decT
  rw [if_neg h,Lib.decDigits]
  by_cases h10:u<10
  · rw [dif_pos h10,if_pos (by omega),List.nil_append,Nat.mod_eq_of_lt h10]
  · rw [dif_neg h10,if_neg (by omega)]
theorem zNk (k u:Nat) (h:u<10 ^ (k+1)):(decT u).length≤k+1:=by
  unfold decT
  split
  · simp
  · exact zEO k u h
theorem zI6 {fu : Nat} : ∀ (k : Nat) (n : Int) (acc : List UInt8), n.natAbs < 10 ^ k → n.natAbs ≤ 9223372036854775808 → acc.length + k ≤ 1000 → ∀ q, k < q → zB3 fu q n acc = some (decT n.natAbs ++ acc)
  | 0,n,acc,h,hn,hl,q,hq=>by
    obtain ⟨q,rfl⟩:∃ z,q=z+1:=⟨q-1,by omega⟩
    have:n=0:=by rw [Nat.pow_zero] at h;omega
    subst this
    rw [zB3]
    rfl
  | k+1,n,acc,h,hn,hl,q,hq=>by
    obtain ⟨q,rfl⟩:∃ z,q=z+1:=⟨q-1,by omega⟩
    by_cases h0:n=0
    · subst h0
      rw [zB3]
      rfl
    · obtain ⟨h1, h2⟩ := zNe n
      have hm:n.natAbs % 10<10:=Nat.mod_lt _ (by omega)
      have hu:n.natAbs ≠ 0:=by omega
      have hd:=zPb (n.natAbs % 10) hm
      have ih:=zI6 (fu:=fu) k (n.tdiv 10) ([UInt8.ofNat (48+n.natAbs % 10)]++acc) (by rw [h2];rw [Nat.pow_succ] at h;omega) (by rw [h2];omega) (by simp;omega) q (by omega)
      have hr:-9223372036854775808≤n.tdiv 10∧n.tdiv 10≤9223372036854775807:=by
        generalize n.tdiv 10=z at h2
        omega
      have hlen:zCV (([UInt8.ofNat (48+n.natAbs % 10)]:List UInt8)++acc).length=true:=zBV (by simp;omega)
      have fin:decT (n.tdiv 10).natAbs++([UInt8.ofNat (48+n.natAbs % 10)]++acc)=decT n.natAbs++acc:=by rw [h2,zM5 _ hu,List.append_assoc]
      rw [zB3,show (n != (0:Int))=true from by simpa using h0,cond_true,ck_t (show ((10:Int) != 0)=true from rfl)]
      by_cases ht:n.tmod 10<0
      · rw [if_pos ht] at h1
        rw [decide_eq_true ht,cond_true,h1,ck_t (zAl (by omega) (by omega)),ck_t (zAl (by omega) (by omega)),hd,ck_t hlen,ck_t (show ((10:Int) != 0)=true from rfl),ck_t (zAl hr.1 hr.2),ih,fin]
      · rw [if_neg ht] at h1
        rw [decide_eq_false ht,cond_false,h1,ck_t (zAl (by omega) (by omega)),hd,ck_t hlen,ck_t (show ((10:Int) != 0)=true from rfl),ck_t (zAl hr.1 hr.2),ih,fin]
theorem zNh {fu:Nat} {n:Int} (hf:1048577≤fu) (h0:-9223372036854775808≤n) (h1:n≤9223372036854775807):zC6 fu n=some (Lib.itoa n):=by
  unfold zC6
  by_cases hz:n=0
  · subst hz
    rw [show ((0:Int)==0)=true from rfl,cond_true]
    unfold Lib.itoa
    rw [if_neg (by decide),show (0:Int).toNat=0 from rfl,Lib.decDigits,dif_pos (by decide)]
    rfl
  · have hd := zI6 (fu := fu) 20 n [] (by omega) (by omega) (by simp) fu (by omega)
    have hl:=zNk 19 n.natAbs (by omega)
    rw [List.append_nil] at hd
    have hu:n.natAbs ≠ 0:=by omega
    have e:decT n.natAbs=Lib.decDigits n.natAbs:=if_neg hu
    rw [show (n==(0:Int))=false from by simpa using hz,cond_false,hd,zA5]
    unfold Lib.itoa
    by_cases hneg:n<0
    · rw [decide_eq_true hneg, cond_true, if_pos hneg, ck_t (zBV (by simp; omega)), e]
      rfl
    · rw [decide_eq_false hneg,cond_false,if_neg hneg,e,show n.natAbs=n.toNat from by omega]
theorem zNp {fu:Nat} {n:Int} (h0:-9223372036854775808≤n) (h1:n≤9223372036854775807):zCZ fu n=some (Lib.itoa n):=by
  unfold zCZ zMN
  rw [ck_t (zAl h0 h1)]
  rfl
end Go.Proofs.YtcodfkieaoomnaaGreatDoor
namespace Go.Proofs.YtcodfkieaoomnaaGreatDoor
open Go.RowKit
set_option linter.unusedVariables false
set_option linter.unusedSimpArgs false
def IsI (s:List UInt8) (n:Int):Prop:=Lib.itoa n=s∧-999999999≤n∧n≤999999999
theorem zII (d:Nat) (h:d<10):(UInt8.ofNat (48+d)).toNat=48+d:=by
  rw [UInt8.toNat_ofNat']
  omega
theorem zGw {u:Nat} (h:u<10):Lib.decDigits u = [UInt8.ofNat (48+u)]:=by rw [Lib.decDigits,dif_pos h]
theorem zIw {u:Nat} (h:¬ u<10):Lib.decDigits u=Lib.decDigits (u / 10) ++ [UInt8.ofNat (48+u % 10)]:=by rw [Lib.decDigits,dif_neg h]
theorem zMx (u:Nat):∀ c ∈ Lib.decDigits u,48≤c.toNat∧c.toNat≤57:=by
  induction u using Nat.strongRecOn with
  | _ u ih=>
    intro c hc
    by_cases h:u<10
    · rw [zGw h] at hc
      rw [List.mem_singleton.1 hc,zII u h]
      omega
    · rw [zIw h] at hc
      rcases List.mem_append.1 hc with hc | hc
      · exact ih (u / 10) (by omega) c hc
      · rw [List.mem_singleton.1 hc, zII _ (Nat.mod_lt _ (by omega))]
        omega
theorem zMC (u:Nat):Lib.decDigits u ≠ []:=by
  by_cases h:u<10
  · rw [zGw h];simp
  · rw [zIw h];simp
def scS (p:Nat × Nat) (c:UInt8):Nat × Nat:=if 48≤c.toNat∧c.toNat≤57 then (p.1*10+(c.toNat-48),p.2+1) else p
theorem zOJ (u:Nat):(Lib.decDigits u).foldl scS (0,0)=(u,(Lib.decDigits u).length):=by
  induction u using Nat.strongRecOn with
  | _ u ih=>
    by_cases h:u<10
    · rw [zGw h]
      have:=zII u h
      simp only [List.foldl_cons,List.foldl_nil,scS,this,List.length_singleton]
      rw [if_pos (by omega)]
      simp
    · have hd := zII (u % 10) (Nat.mod_lt _ (by omega))
      rw [zIw h,List.foldl_append,ih (u / 10) (by omega)]
      simp only [List.foldl_cons,List.foldl_nil,scS,hd,List.length_append,List.length_singleton]
      rw [if_pos (by omega)]
      congr 1
      omega
theorem zP9 : ∀ (s : List UInt8) (p : Nat × Nat), p.1 < 10 ^ p.2 → (s.foldl scS p).1 < 10 ^ (s.foldl scS p).2
  | [],p,h=>h
  | c::s,p,h=>by
    rw [List.foldl_cons]
    refine zP9 s _ ?_
    unfold scS
    split
    · show p.1 * 10 + (c.toNat - 48) < 10 ^ (p.2 + 1)
      rw [Nat.pow_succ]
      omega
    · exact h
theorem zO0 : ∀ (s : List UInt8) (p : Nat × Nat), (s.foldl scS p).2 ≤ p.2 + s.length
  | [],p=>Nat.le_refl _
  | c::s,p=>by
    have:=zO0 s (scS p c)
    rw [List.foldl_cons,List.length_cons]
    have h:(scS p c).2≤p.2+1:=by
      unfold scS
      split
      · exact Nat.le_refl _
      · exact Nat.le_succ _
    omega
theorem zKl {k:Nat} (h:k≤11):10 ^ k≤100000000000:=Nat.le_trans (Nat.pow_le_pow_right (by omega) h) (by omega)
theorem zP5 {fu : Nat} {s : List UInt8} (hs : s.length ≤ 1048576) : ∀ m i k (p : Nat × Nat), (i + m = s.length ∨ (m = 0 ∧ 11 ≤ i)) → i ≤ 11 → m < k → p.1 < 10 ^ p.2 → p.2 ≤ i → (s.take 11).take i = s.take i →
    zAn fu s k (p.1:Int) (p.2:Int) (i:Int)=some (((((s.take 11).drop i).foldl scS p).1:Int),((((s.take 11).drop i).foldl scS p).2:Int)):=by
  intro m
  induction m with
  | zero=>
    intro i k p hi h11 hk hp hpi ht
    obtain ⟨k,rfl⟩:∃ z,k=z+1:=⟨k-1,by omega⟩
    have hd:(s.take 11).drop i = []:=List.drop_eq_nil_of_le (by rw [List.length_take];omega)
    have hc:(decide ((i:Int)<(s.length:Int))&&decide ((i:Int)<11))=false:=by
      rw [Bool.and_eq_false_imp,decide_eq_true_eq,decide_eq_false_iff_not]
      omega
    rw [zAn,zBK,hc,cond_false,hd]
    rfl
  | succ m ih=>
    intro i k p hi h11 hk hp hpi ht
    obtain ⟨k,rfl⟩:∃ z,k=z+1:=⟨k-1,by omega⟩
    have hlt:i<s.length:=by omega
    by_cases h:i<11
    · have hc:(decide ((i:Int)<(s.length:Int))&&decide ((i:Int)<11))=true:=by
        rw [Bool.and_eq_true,decide_eq_true_eq,decide_eq_true_eq]
        omega
      have hx:=List.getElem?_eq_getElem hlt
      have hb:=zJG hx
      have h256:s[i].toNat<256:=UInt8.toNat_lt _
      have hdrop:(s.take 11).drop i=s[i]::(s.take 11).drop (i+1):=by
        rw [List.drop_eq_getElem_cons (by rw [List.length_take];omega),List.getElem_take]
      have hpb:p.1≤100000000000:=Nat.le_of_lt (Nat.lt_of_lt_of_le hp (zKl (by omega)))
      have hw:IntKind.i64.wrap (IntKind.u8.wrap ((s[i].toNat:Int)-48))=((s[i].toNat-48:Nat):Int)∨s[i].toNat<48:=by
        rcases Nat.lt_or_ge s[i].toNat 48 with h' | h'
        · exact .inr h'
        · left
          have e:((s[i].toNat:Int)-48)=((s[i].toNat-48:Nat):Int):=by omega
          rw [e]
          have h1:IntKind.u8.wrap ((s[i].toNat-48:Nat):Int)=((s[i].toNat-48:Nat):Int):=by
            unfold IntKind.wrap
            simp [IntKind.bits,IntKind.signed]
            omega
          rw [h1]
          exact IntWalk.i64_in _ (by omega)
      have hnext:∀ q:Nat × Nat,q.1<10 ^ q.2→q.2≤i+1→zAn fu s k (q.1:Int) (q.2:Int) ((i+1:Nat):Int)=some (((((s.take 11).drop (i+1)).foldl scS q).1:Int),((((s.take 11).drop (i+1)).foldl scS q).2:Int)):=fun q h1 h2=>
        ih (i+1) k q (by omega) (by omega) (by omega) h1 h2 (by rw [List.take_take,Nat.min_eq_left (by omega)])
      rw [zAn,zBK,hc,cond_true,ck_t (zAx hlt),hb,ck_t (by rw [zAx hlt,Bool.or_true]),zBK,hdrop,List.foldl_cons]
      by_cases hdg:48≤s[i].toNat∧s[i].toNat≤57
      · have hd:(decide ((48:Int)≤(s[i].toNat:Int))&&decide ((s[i].toNat:Int)≤57))=true:=by
          rw [Bool.and_eq_true,decide_eq_true_eq,decide_eq_true_eq]
          omega
        have hw':=hw.resolve_right (by omega)
        have e:scS p s[i]=(p.1*10+(s[i].toNat-48),p.2+1):=if_pos hdg
        have hq:=hnext (p.1*10+(s[i].toNat-48),p.2+1) (by show _<10 ^ (p.2+1);rw [Nat.pow_succ];omega) (by show p.2+1≤i+1;omega)
        rw [hd,cond_true,hw',ck_t (zAl (by omega) (by omega)),ck_t (zAx hlt),ck_t (zAl (by omega) (by omega)),ck_t (zAl (by omega) (by omega)),ck_t (zEC (by omega)),e,← hq]
        congr 1
      · have hd:(decide ((48:Int)≤(s[i].toNat:Int))&&decide ((s[i].toNat:Int)≤57))=false:=by
          rw [Bool.and_eq_false_imp,decide_eq_true_eq,decide_eq_false_iff_not]
          omega
        have e:scS p s[i]=p:=if_neg hdg
        rw [hd,cond_false,ck_t (zEC (by omega)),e,zBH]
        exact hnext p hp (by omega)
    · have hd : (s.take 11).drop i = [] := List.drop_eq_nil_of_le (by rw [List.length_take]; omega)
      have hc:(decide ((i:Int)<(s.length:Int))&&decide ((i:Int)<11))=false:=by
        rw [Bool.and_eq_false_imp,decide_eq_true_eq,decide_eq_false_iff_not]
        omega
      rw [zAn,zBK,hc,cond_false,hd]
      rfl
theorem zKv {n:Int} (h:0≤n):Lib.itoa n=Lib.decDigits n.toNat:=by unfold Lib.itoa;rw [if_neg (by omega)]
theorem zJo {n:Int} (h:n<0):Lib.itoa n=45::Lib.decDigits n.natAbs:=by unfold Lib.itoa;rw [if_pos h]
theorem zN6 {u:Nat} (h:u≤999999999):(Lib.decDigits u).length≤9:=zEO 8 u (by omega)
theorem zJ3 {s:List UInt8} {n:Int} (h:IsI s n):s.length≤10∧0<s.length∧s.foldl scS (0,0)=(n.natAbs,(Lib.decDigits n.natAbs).length)∧(Lib.decDigits n.natAbs).length≤9∧(s[0]? = some 45 ↔ n<0):=by
  obtain ⟨rfl,h1,h2⟩:=h
  have hl:=zN6 (u:=n.natAbs) (by omega)
  have hp:=List.length_pos_iff.2 (zMC n.natAbs)
  by_cases hn:n<0
  · rw [zJo hn]
    refine ⟨by simp;omega,by simp,?_,hl,by simp [hn]⟩
    rw [List.foldl_cons,show scS (0,0) 45=(0,0) from rfl,zOJ]
  · rw [zKv (by omega), show n.toNat = n.natAbs by omega]
    refine ⟨by omega,hp,zOJ _,hl,?_⟩
    constructor
    · intro h
      have:=zMx n.natAbs 45 (List.mem_of_getElem? h)
      exact absurd this.1 (by decide)
    · intro h;omega
def RdI (s:List UInt8) (r:Int × Bool):Prop:=(∃ n,IsI s n∧r=(n,true))∨((∀ n,¬ IsI s n)∧r=(0,false))
theorem zON {s:List UInt8} {n m:Int} (h:IsI s n) (k:IsI s m):n=m:=by
  have a:=zJ3 h
  have b:=zJ3 k
  have e:n.natAbs=m.natAbs:=by
    have:=a.2.2.1.symm.trans b.2.2.1
    injection this
  have:=a.2.2.2.2
  have:=b.2.2.2.2
  by_cases hs:s[0]? = some 45
  · have := a.2.2.2.2.1 hs
    have:=b.2.2.2.2.1 hs
    omega
  · have h1 : ¬ n < 0 := fun h => hs (a.2.2.2.2.2 h)
    have h2:¬ m<0:=fun h=>hs (b.2.2.2.2.2 h)
    omega
theorem RdI.one {s:List UInt8} {r q:Int × Bool} (h:RdI s r) (k:RdI s q):r=q:=by
  rcases h with ⟨n,h1,rfl⟩ | ⟨h1,rfl⟩ <;> rcases k with ⟨m,k1,rfl⟩ | ⟨k1,rfl⟩
  · rw [zON h1 k1]
  · exact absurd h1 (k1 n)
  · exact absurd k1 (h1 m)
  · rfl
theorem RdI.no {s:List UInt8} (h:RdI s (0,false)):∀ n,¬ IsI s n:=by
  rcases h with ⟨n,_,h⟩ | ⟨h,_⟩
  · cases h
  · exact h
theorem zNG {fu:Nat} {s:List UInt8} (hf:1048577≤fu) (hs:s.length≤1048576):∃ r,zDQ fu s=some r∧RdI s r:=by
  have hsc:=zP5 (fu:=fu) hs s.length 0 fu (0,0) (.inl (by omega)) (by omega) (by omega) (by decide) (Nat.le_refl _) (by simp)
  rw [List.drop_zero] at hsc
  have hlt:=zP9 (s.take 11) (0,0) (by decide)
  have hct:=zO0 (s.take 11) (0,0)
  have htk:(s.take 11).length≤11:=by rw [List.length_take];omega
  generalize hp:(s.take 11).foldl scS (0,0)=p at hsc hlt hct
  have hpb:p.1≤100000000000:=Nat.le_of_lt (Nat.lt_of_lt_of_le hlt (zKl (by omega)))
  have hM:zAn fu s fu 0 0 0=some ((p.1:Int),(p.2:Int)):=hsc
  have h45:((decide ((0:Int)<(s.length:Int)))&&((bAt s (0:Int))==(45:Int)))=decide (s[0]? = some 45):=by
    cases s with
    | nil=>rfl
    | cons b l=>
      have hb:bAt (b::l) (0:Int)=(b.toNat:Int):=zJG (i:=0) rfl
      rw [hb,decide_eq_true (by simp),Bool.true_and]
      by_cases e:b=45
      · subst e;rfl
      · rw [decide_eq_false (by simpa using e), beq_eq_false_iff_ne]
        intro h
        exact e (UInt8.toNat_inj.1 (by show b.toNat=45;omega))
  have hck:(!(true&&((decide ((0:Int)<(s.length:Int)))==true)) || inR (0:Int) s.length)=true:=by
    cases s with
    | nil=>rfl
    | cons b l=>rw [zDP.2 ⟨Int.le_refl _,by simp⟩,Bool.or_true]
  have arm : ∀ z : Int, (z = (p.1 : Int) ∧ s[0]? ≠ some 45) ∨ (z = 0 - (p.1 : Int) ∧ s[0]? = some 45) →
      ∃ r,(bd ((decide ((9:Int)<(p.2:Int))) || (decide ((10:Int)<(s.length:Int)))) fun x33=>
        cl (true&&(x33==false)) (zC6 fu z) fun x35=>
        bd (x33 || (!(x35==s))) fun x37=>
        bif x37 then (some ((0:Int),false)) else (some (z,true)))=some r∧RdI s r:=by
    intro z hz
    rw [zBK]
    have key:∀ n,IsI s n→n=z∧p.2≤9∧s.length≤10:=fun n hn=>by
      obtain ⟨a1,a2,a3,a4,a5⟩:=zJ3 hn
      rw [List.take_of_length_le (by omega),a3] at hp
      subst hp
      refine ⟨?_,a4,a1⟩
      rcases hz with ⟨rfl,h⟩ | ⟨rfl,h⟩
      · have : ¬ n < 0 := fun hn => h (a5.2 hn)
        show n=(n.natAbs:Int)
        omega
      · have := a5.1 h
        show n=0-(n.natAbs:Int)
        omega
    cases hg:(decide ((9:Int)<(p.2:Int))) || (decide ((10:Int)<(s.length:Int)))
    · rw [Bool.or_eq_false_iff, decide_eq_false_iff_not, decide_eq_false_iff_not] at hg
      have h9:p.1<1000000000:=Nat.lt_of_lt_of_le hlt (Nat.le_trans (Nat.pow_le_pow_right (n:=10) (by omega) (show p.2≤9 by omega)) (by omega))
      rw [show (true&&(false==false))=true from rfl,zNh hf (by omega) (by omega),zA5,zBK,Bool.false_or]
      cases he:Lib.itoa z==s
      · refine ⟨_, by rw [Bool.not_false, cond_true], .inr ⟨fun n hn => ?_, rfl⟩⟩
        obtain ⟨rfl,_⟩:=key n hn
        rw [hn.1,beq_self_eq_true] at he
        cases he
      · exact ⟨_,by rw [Bool.not_true,cond_false],.inl ⟨z,⟨by simpa using he,by omega,by omega⟩,rfl⟩⟩
    · rw [show (true && (true == false)) = false from rfl, zLL, zBK, Bool.true_or, cond_true]
      refine ⟨_,rfl,.inr ⟨fun n hn=>?_,rfl⟩⟩
      obtain ⟨_,h1,h2⟩:=key n hn
      rw [Bool.or_eq_true,decide_eq_true_eq,decide_eq_true_eq] at hg
      omega
  unfold zDQ
  rw [hM,zA5,ck_t hck,zBK,h45]
  by_cases hs0:s[0]? = some 45
  · rw [decide_eq_true hs0, cond_true, ck_t (zAl (by omega) (by omega))]
    exact arm _ (.inr ⟨rfl,hs0⟩)
  · rw [decide_eq_false hs0, cond_false]
    exact arm _ (.inl ⟨rfl,hs0⟩)
theorem zMY : ∀ (xs : List UInt8) (acc v d : Nat), Lib.parseUint10 acc xs = .ok v → v < 1000000000 → d < 10 → Lib.parseUint10 acc (xs ++ [UInt8.ofNat (48 + d)]) = .ok (v * 10 + d)
  | [],acc,v,d,h,hv,hd=>by
    simp only [Lib.parseUint10] at h
    injection h with h
    subst h
    have:=zII d hd
    simp only [List.nil_append,Lib.parseUint10,this]
    rw [if_pos (by omega),if_neg (by omega),if_neg (by omega)]
    congr 1
    omega
  | c::xs,acc,v,d,h,hv,hd=>by
    rw [List.cons_append]
    simp only [Lib.parseUint10] at h ⊢
    split at h
    · rename_i h1
      rw [if_pos h1]
      split at h
      · cases h
      · rename_i h2
        rw [if_neg h2]
        split at h
        · cases h
        · rename_i h3
          rw [if_neg h3]
          exact zMY xs _ v d h hv hd
    · cases h
theorem zPI (u:Nat) (h:u≤999999999):Lib.parseUint10 0 (Lib.decDigits u) = .ok u:=by
  induction u using Nat.strongRecOn with
  | _ u ih=>
    by_cases h10:u<10
    · rw [zGw h10]
      have:=zMY [] 0 0 u rfl (by omega) h10
      rw [List.nil_append] at this
      simpa using this
    · rw [zIw h10, zMY _ 0 (u / 10) (u % 10) (ih (u / 10) (by omega) (by omega)) (by omega) (Nat.mod_lt _ (by omega))]
      congr 1
      omega
theorem zM6 {n:Int} (h1:-999999999≤n) (h2:n≤999999999):Lib.atoiAll (Lib.itoa n) = .ok n:=by
  have hm:∀ u:Nat,u≤999999999→Lib.parseMag (Lib.decDigits u) = .ok u:=fun u hu=>by
    unfold Lib.parseMag
    rw [if_neg (zMC u),zPI u hu]
  by_cases hn:n<0
  · rw [zJo hn]
    unfold Lib.atoiAll
    simp only [show ((45:UInt8).toNat=43∨(45:UInt8).toNat=45)=True from by simp,if_true,hm n.natAbs (by omega)]
    simp only [show ((45:UInt8).toNat=45)=True from by simp,not_true,false_and,if_false,true_and,if_true]
    rw [if_neg (by omega)]
    congr 1
    omega
  · rw [zKv (by omega)]
    have hne:=zMC n.toNat
    have hdg:=zMx n.toNat
    have hm':=hm n.toNat (by omega)
    cases hd:Lib.decDigits n.toNat with
    | nil=>exact absurd hd hne
    | cons c r=>
      rw [hd] at hdg hm'
      have hc:=hdg c List.mem_cons_self
      unfold Lib.atoiAll
      simp only []
      rw [if_neg (by omega),hm']
      simp only []
      rw [if_neg (by omega),if_neg (by omega),if_neg (by omega)]
      congr 1
      omega
theorem zNz {s:List UInt8} {v:Int} (h:Lib.atoiAll s = .ok v):-9223372036854775808≤v∧v≤9223372036854775807:=by
  unfold Lib.atoiAll at h
  cases s with
  | nil=>cases h
  | cons c r=>
    simp only [] at h
    cases hm:Lib.parseMag (if c.toNat=43∨c.toNat=45 then r else c::r) with
    | ok u=>
      rw [hm] at h
      simp only [] at h
      split at h
      · cases h
      · split at h
        · cases h
        · injection h with h
          split at h <;> omega
    | _=>rw [hm] at h;cases h
theorem zN9 {fu:Nat} {s:List UInt8} (hs:s.length≤1048576):∃ r,zDM fu s=some r∧RdI s r:=by
  unfold zDM zMP
  rw [ck_t (zBV (by omega)),zA5]
  have no:∀ n,IsI s n→Lib.atoiAll s = .ok n:=fun n hn=>by rw [← hn.1];exact zM6 hn.2.1 hn.2.2
  have bad:∀ a:Int,(∀ n,¬ IsI s n)→∃ r,(cl (true&&(true==false)) (zCZ fu a) fun x4=>
      bd (true || (!(x4==s))) fun x6=>
      cl (true&&(x6==false)) (zB9 fu a (-999999999:Int) (999999999:Int)) fun x8=>
      bd (x6 || (!x8)) fun x10=>
      bif x10 then (some ((0:Int),false)) else (some (a,true)))=some r∧RdI s r:=fun a h=>⟨_,rfl,.inr ⟨h,rfl⟩⟩
  cases hc:Lib.atoiAll s with
  | range=>
    have e:zJc s=(Lib.atoiSat s,true):=by unfold zJc;rw [hc]
    rw [e]
    exact bad _ fun n hn=>by rw [no n hn] at hc;cases hc
  | ok v=>
    have e:zJc s=(v,false):=by unfold zJc;rw [hc]
    have hv:=zNz hc
    rw [e]
    dsimp only
    rw [show (true&&(false==false))=true from rfl,zNp hv.1 hv.2,zA5,zBK,Bool.false_or]
    have key:∀ n,IsI s n→n=v:=fun n hn=>by
      have:=(no n hn).symm.trans hc
      injection this
    cases he:Lib.itoa v==s
    · rw [Bool.not_false, show (true && (true == false)) = false from rfl, zLL, zBK, Bool.true_or, cond_true]
      refine ⟨_,rfl,.inr ⟨fun n hn=>?_,rfl⟩⟩
      obtain rfl:=key n hn
      rw [hn.1,beq_self_eq_true] at he
      cases he
    · rw [Bool.not_true, show (true && (false == false)) = true from rfl, show zB9 fu v (-999999999) 999999999 = some (decide (-999999999 ≤ v) && decide (v ≤ 999999999)) from rfl, zA5, zBK, Bool.false_or]
      cases hw:decide (-999999999≤v)&&decide (v≤999999999)
      · rw [Bool.not_false, cond_true]
        refine ⟨_,rfl,.inr ⟨fun n hn=>?_,rfl⟩⟩
        obtain rfl:=key n hn
        rw [decide_eq_true hn.2.1,decide_eq_true hn.2.2] at hw
        cases hw
      · rw [Bool.not_true, cond_false]
        rw [Bool.and_eq_true,decide_eq_true_eq,decide_eq_true_eq] at hw
        exact ⟨_,rfl,.inl ⟨v,⟨by simpa using he,hw.1,hw.2⟩,rfl⟩⟩
  | _=>
    have e:zJc s=(0,true):=by unfold zJc;rw [hc]
    rw [e]
    exact bad 0 fun n hn=>by rw [no n hn] at hc;cases hc
end Go.Proofs.YtcodfkieaoomnaaGreatDoor
namespace Go.Proofs.YtcodfkieaoomnaaGreatDoor
open Go.RowKit
set_option linter.unusedVariables false
set_option linter.unusedSimpArgs false
theorem zF2 {fu:Nat} {x lo hi:Int}:zB9 fu x lo hi=some (inI x lo hi):=rfl
theorem zOw {n:Int} (h0:-9223372036854775808≤n) (h1:n≤9223372036854775807):IntKind.i64.wrap n=n:=IntWalk.i64_in _ (by omega)
def ntC (c:UInt8):Bool:=!(inI c.toNat 32 126)
def txB (s:List UInt8):Bool:=!(s.any ntC)&&decide (s.length≤40)
theorem zP6 {n:Nat}:decide ((n:Int)≤(40:Int))=decide (n≤40):=by
  by_cases h:n≤40
  · rw [decide_eq_true h,decide_eq_true (by omega)]
  · rw [decide_eq_false h,decide_eq_false (by omega)]
theorem zNF {fu:Nat} {s:List UInt8} (hf:s.length<fu) (hl:s.length≤1048576):zE5 fu s=some (txB s):=by
  unfold zE5
  have h:=zFU (xs:=s) (p:=ntC) (r:=false) (L:=zCA fu s) (fun k i c hc=>by
    have hi:=zDK hc
    have hcu:c.toNat<256:=c.toNat_lt
    rw [zCA,lt_t hi,cond_true,ck_t (zAx hi),zDl hc,zOw (by omega) (by omega),zF2,zA5,zBH,ck_t (zCg (by omega))]
    rfl) (fun k=>by rw [zCA,lt_f];rfl) hf
  rw [h,zA5,zP6]
  unfold txB
  cases s.any ntC <;> rfl
theorem zNN {fu:Nat} {s:List UInt8} (hf:s.length<fu) (hl:s.length≤1048576):zE3 fu s=some (txB s):=by
  unfold zE3
  have h:=zFU (xs:=s) (p:=ntC) (r:=false) (L:=zC3 fu s) (fun k i c hc=>by
    have hi:=zDK hc
    have e:(decide ((c.toNat:Int)<(32:Int)) || decide ((126:Int)<(c.toNat:Int)))=ntC c:=by
      unfold ntC inI
      by_cases h1:(32:Int)≤(c.toNat:Int)
      · by_cases h2 : (c.toNat : Int) ≤ 126
        · rw [decide_eq_true h1,decide_eq_true h2,decide_eq_false (by omega),decide_eq_false (by omega)];rfl
        · rw [decide_eq_true h1,decide_eq_false h2,decide_eq_false (by omega),decide_eq_true (by omega)];rfl
      · rw [decide_eq_false h1,decide_eq_true (by omega),Bool.true_or,Bool.false_and];rfl
    rw [zC3,lt_t hi,cond_true,ck_t (zAx hi),zAx hi,Bool.or_true,zCL,zDl hc,zBK,e,zBH,ck_t (zCg (by omega))]) (fun k=>by rw [zC3,lt_f];rfl) hf
  rw [h,zA5,zP6]
  unfold txB
  cases s.any ntC <;> rfl
def pcC (c:UInt8):Bool:=((c.toNat:Int)==(124:Int)) || ((c.toNat:Int)==(59:Int))
def flB (s:List UInt8):Bool:=txB s && !(s.any pcC)
theorem zPF (c:UInt8):([124,59]:List UInt8).contains c=pcC c:=by
  revert c
  refine zL2 ?_
  decide +kernel
theorem zO3 : ∀ s : List UInt8, Lib.containsAny s [124, 59] = s.any pcC
  | []=>rfl
  | b::l=>by
    have ih:=zO3 l
    have hg:=Lib.indexAny_ge [124,59] l
    unfold Lib.containsAny at ih ⊢
    rw [Lib.indexAny,List.any_cons,← ih,zPF]
    cases pcC b
    · rw [if_neg (by decide), Bool.false_or]
      by_cases h:Lib.indexAny l [124,59] = -1
      · rw [if_pos (by simpa using h),h]
      · rw [if_neg (by simpa using h),decide_eq_true (by omega),decide_eq_true (by omega)]
    · rw [if_pos rfl];rfl
theorem zO9 {s:List UInt8} (h:txB s=true):(s.all fun b=>decide (b.toNat<128))=true∧s.length≤40:=by
  unfold txB at h
  rw [Bool.and_eq_true,decide_eq_true_eq,Bool.not_eq_true',List.any_eq_false] at h
  refine ⟨?_,h.2⟩
  rw [List.all_eq_true]
  intro b hb
  have:=h.1 b hb
  unfold ntC inI at this
  rw [Bool.not_eq_true,Bool.not_eq_false',Bool.and_eq_true,decide_eq_true_eq,decide_eq_true_eq] at this
  exact decide_eq_true (by omega)
theorem zNP {fu:Nat} {s:List UInt8} (hf:s.length<fu) (hl:s.length≤1048576):zDi fu s=some (flB s):=by
  unfold zDi flB
  rw [zNF hf hl,zA5]
  cases h:txB s with
  | false=>rfl
  | true=>
    obtain ⟨h1,h2⟩:=zO9 h
    unfold zFa
    rw [h1,decide_eq_true (show s.length<4294967281 by omega),show ((true&&decide (([124,59]:List UInt8).length<4294967281))&&true&&(([124,59]:List UInt8).all fun b=>decide (b.toNat<128)))=true from rfl,zCL,zO3]
    rfl
theorem zNI {fu:Nat} {s:List UInt8} (hf:s.length<fu) (hl:s.length≤1048576):zDc fu s=some (flB s):=by
  unfold zDc
  have h:=zFU (xs:=s) (p:=pcC) (r:=false) (L:=zBn fu s) (fun k i c hc=>by
    have hi:=zDK hc
    rw [zBn,lt_t hi,cond_true,ck_t (zAx hi),zAx hi,Bool.or_true,zCL,zDl hc,zBK,zBH,ck_t (zCg (by omega))]
    rfl) (fun k=>by rw [zBn,lt_f];rfl) hf
  rw [h,zA5,zNN hf hl]
  unfold flB
  cases s.any pcC
  · rw [Bool.not_false,Bool.and_true];rfl
  · rw [Bool.not_true,Bool.and_false];rfl
abbrev RecT:=Int × Int × Int × List (List UInt8)
def recB (r:RecT):Bool:=((inI r.1 0 3&&inI r.2.1 1 99)&&inI r.2.2.1 1 999)&&(((r.2.2.2.length:Int)==(4:Int)) && !(r.2.2.2.any fun s=>!(flB s)))
def zMy (r:RecT):Prop:=r.2.2.2.length≤1048576∧∀ s ∈ r.2.2.2,s.length≤1048576
theorem zKe {fu:Nat} {l:List (List UInt8)} {F:List UInt8→Option Bool} {p:List UInt8→Bool} (hF:∀ x ∈ l,F x=some (p x)) (hf:l.length<fu) (hl:l.length≤1048576):zAi fu l F=some (l.any p):=by
  unfold zAi zBB
  have h:=zOh (xs:=l) (p:=p) (L:=zAV fu l F) (fun k i y hy=>by
    have hi:=zDK hy
    rw [zAV,lt_t hi,cond_true,ck_t (zAx hi),zAq hy,hF y (zFx hy),zA5,zBH,ck_t (zCg (by omega))]) (fun k=>by rw [zAV,lt_f];rfl) hf
  rw [h,zA5]
  cases hi:ixI 0 (l.map p) with
  | none=>
    have h2:=zL4 hi
    have:l.any p=false:=by
      rw [List.any_eq_false]
      intro y hy
      have:=h2 (p y) (List.mem_map_of_mem hy)
      simp [this]
    rw [this]
    rfl
  | some j=>
    obtain ⟨_,h2,_⟩:=zLS hi
    have:l.any p=true:=by
      rw [Nat.sub_zero,List.getElem?_map] at h2
      obtain ⟨y,hy,e⟩:=Option.map_eq_some_iff.1 h2
      rw [List.any_eq_true]
      exact ⟨y,List.mem_of_getElem? hy,e⟩
    rw [this]
    show some (decide (0≤(j:Int)))=some true
    rw [decide_eq_true (by omega)]
theorem zGr {fu:Nat} {r:RecT} (hf:1048577≤fu) (h:zMy r):zBc fu r=some (recB r):=by
  unfold zBc recB
  rw [zF2,zF2,zF2,zKe (p:=fun s=>!(flB s)) (fun s hs=>by
    unfold zCS
    rw [zNP (by have:=h.2 s hs;omega) (h.2 s hs)]
    rfl) (by have:=h.1;omega) h.1]
  generalize inI r.1 0 3=a
  generalize inI r.2.1 1 99=b
  generalize inI r.2.2.1 1 999=c
  generalize ((r.2.2.2.length:Int)==(4:Int))=d
  generalize (r.2.2.2.any fun s=>!(flB s))=e
  cases a <;> cases b <;> cases c <;> cases d <;> cases e <;> rfl
theorem zH5 {fu:Nat} {r:RecT} (hf:1048577≤fu) (h:zMy r):zBd fu r=some (recB r):=by
  unfold zBd recB
  have hl:=zFU (xs:=r.2.2.2) (p:=fun s=>!(flB s)) (r:=false) (L:=zB2 fu r) (fun k i s hs=>by
    have hi:=zDK hs
    have h1:=h.1
    have h2:=h.2 s (zFx hs)
    rw [zB2,lt_t hi,cond_true,ck_t (zAx hi),zAq hs,zNI (by omega) h2,zA5,zBH,ck_t (zCg (by omega))]) (fun k=>by rw [zB2,lt_f];rfl) (show r.2.2.2.length<fu by have:=h.1;omega)
  rw [hl,zA5,zIN,zIN,zIN]
  generalize inI r.1 0 3=a
  generalize inI r.2.1 1 99=b
  generalize inI r.2.2.1 1 999=c
  generalize ((r.2.2.2.length:Int)==(4:Int))=d
  generalize (r.2.2.2.any fun s=>!(flB s))=e
  cases a <;> cases b <;> cases c <;> cases d <;> cases e <;> rfl
theorem zIq {r:RecT} (h:recB r=true):∃ a b c d:List UInt8,r.2.2.2 = [a,b,c,d]∧a.length≤40∧b.length≤40∧c.length≤40∧d.length≤40:=by
  unfold recB at h
  rw [Bool.and_eq_true] at h
  obtain ⟨_,h⟩:=h
  rw [Bool.and_eq_true,Bool.not_eq_true',List.any_eq_false] at h
  obtain ⟨h1,h2⟩:=h
  have hl:∀ s ∈ r.2.2.2,s.length≤40:=fun s hs=>by
    have:=h2 s hs
    unfold flB at this
    rw [Bool.not_eq_true,Bool.not_eq_false',Bool.and_eq_true] at this
    exact (zO9 this.1).2
  rw [beq_iff_eq] at h1
  generalize r.2.2.2=l at h1 hl
  match l,h1,hl with
  | [a,b,c,d],_,hl=>exact ⟨a,b,c,d,rfl,hl a (by simp),hl b (by simp),hl c (by simp),hl d (by simp)⟩
  | [],h1,_=>simp at h1
  | [_],h1,_=>simp at h1
  | [_,_],h1,_=>simp at h1
  | [_,_,_],h1,_=>simp at h1
  | _::_::_::_::_::_,h1,_=>simp at h1;omega
def dgC (c:UInt8):Bool:=dgI c.toNat
def dgL (s:List UInt8):List UInt8:=s.filter dgC
theorem zOC (s:List UInt8):dgL s=s.foldl (fun (a:List UInt8) c=>bif dgC c then a ++ [c] else a) []:=by
  have key:∀ (s a:List UInt8),s.foldl (fun (a:List UInt8) c=>bif dgC c then a ++ [c] else a) a=a++s.filter dgC:=by
    intro s
    induction s with
    | nil=>intro a;simp
    | cons c s ih=>
      intro a
      rw [List.foldl_cons,ih,List.filter_cons]
      cases dgC c <;> simp
  rw [key,List.nil_append]
  rfl
theorem zL5 {fu:Nat} {s:List UInt8} (hf:s.length<fu) (hl:s.length≤1048576):zCs fu s=some (dgL s):=by
  unfold zCs
  have h:=zDw (xs:=s) (g:=fun (a:List UInt8) c=>bif dgC c then a ++ [c] else a) (Inv:=fun i a=>a.length≤i) (L:=fun k i (a:List UInt8)=>(zAz fu s k i (bytL a)).map strB) (fun k i a c hc ha=>by
    have hi:=zDK hc
    rw [zAz,lt_t hi,cond_true,ck_t (zAx hi),zAx hi,zCL,zDl hc,show zCF fu (c.toNat:Int)=some (dgC c) from rfl,zA5,zBV (by rw [zBq];show a.length+1≤4294967296;omega),zCL,zBH,zCg (show i≤4294967296 by omega),zCL,zCL]
    cases dgC c
    · rfl
    · rw [cond_true,cond_true,zF4,zDY]) (fun i a c hc ha=>by
    show (bif dgC c then a ++ [c] else a).length≤i+1
    cases dgC c
    · exact Nat.le_succ_of_le ha
    · rw [cond_true,List.length_append,List.length_singleton];omega) (fun k a ha=>by rw [zAz,lt_f,cond_false,Option.map_some,zEA]) (a:=[]) (Nat.zero_le _) hf
  rw [zOC,← h.1]
  show cl true (zAz fu s fu 0 (bytL [])) _=_
  cases zAz fu s fu 0 (bytL []) <;> rfl
theorem zL8 {fu:Nat} {s:List UInt8} (hf:s.length<fu) (hl:s.length≤1048576):zCj fu s=some (dgL s):=by
  unfold zCj
  have h:=zDw (xs:=s) (g:=fun (a:List UInt8) c=>bif dgC c then a ++ [c] else a) (Inv:=fun i a=>a.length≤i) (L:=fun k i (a:List UInt8)=>(zAy fu s k i (bytL a)).map strB) (fun k i a c hc ha=>by
    have hi:=zDK hc
    rw [zAy,lt_t hi,cond_true,ck_t (zAx hi),zAx hi,Bool.or_true,zCL,zCL,zDl hc,zBK,show (decide ((48:Int)≤(c.toNat:Int))&&decide ((c.toNat:Int)≤(57:Int)))=dgC c from rfl,zBV (by rw [zBq];show a.length+1≤4294967296;omega),zCL,zBH,zCg (show i≤4294967296 by omega),zCL,zCL]
    cases dgC c
    · rfl
    · rw [cond_true,cond_true,zF4,zDY]) (fun i a c hc ha=>by
    show (bif dgC c then a ++ [c] else a).length≤i+1
    cases dgC c
    · exact Nat.le_succ_of_le ha
    · rw [cond_true,List.length_append,List.length_singleton];omega) (fun k a ha=>by rw [zAy,lt_f,cond_false,Option.map_some,zEA]) (a:=[]) (Nat.zero_le _) hf
  rw [zOC,← h.1]
  show cl true (zAy fu s fu 0 (bytL [])) _=_
  cases zAy fu s fu 0 (bytL []) <;> rfl
theorem zIz (s:List UInt8):(dgL s).length≤s.length:=List.length_filter_le _ _
def YrI (s:List UInt8) (y:Int):Prop:=∃ r,RdI s r∧y=bif r.2&&inI r.1 1000 9999 then r.1 else 0
theorem YrI.one {s:List UInt8} {y z:Int} (h:YrI s y) (k:YrI s z):y=z:=by
  obtain ⟨r,h1,rfl⟩:=h
  obtain ⟨q,k1,rfl⟩:=k
  rw [h1.one k1]
theorem YrI.range {s:List UInt8} {y:Int} (h:YrI s y):y=0∨(1000≤y∧y≤9999):=by
  obtain ⟨r,_,rfl⟩:=h
  cases hb:r.2&&inI r.1 1000 9999
  · exact .inl rfl
  · right
    rw [Bool.and_eq_true] at hb
    have:=hb.2
    unfold inI at this
    rw [Bool.and_eq_true,decide_eq_true_eq,decide_eq_true_eq] at this
    exact this
theorem zNt {fu:Nat} {s:List UInt8} (hs:s.length≤1048576):∃ y,zBP fu s=some y∧YrI s y:=by
  obtain ⟨r,h1,h2⟩:=zN9 (fu:=fu) hs
  refine ⟨_,?_,r,h2,rfl⟩
  unfold zBP
  rw [h1,zA5,zF2]
  generalize inI r.1 1000 9999=b
  cases r.2 <;> cases b <;> rfl
theorem zKi {fu:Nat} {s:List UInt8} (hf:1048577≤fu) (hs:s.length≤1048576):∃ y,zC7 fu s=some y∧YrI s y:=by
  obtain ⟨r,h1,h2⟩:=zNG (fu:=fu) hf hs
  refine ⟨_,?_,r,h2,rfl⟩
  unfold zC7
  rw [h1,zA5,zIN]
  generalize inI r.1 1000 9999=b
  cases r.2 <;> cases b <;> rfl
theorem zOE {s:List UInt8} (hs:s.length≤1048576):∃ y:Int,(y=0∨(1000≤y∧y≤9999))∧YrI s y∧∀ fu,1048577≤fu→zBP fu s=some y∧zC7 fu s=some y:=by
  obtain ⟨y,h1,h2⟩:=zKi (fu:=1048577) (Nat.le_refl _) hs
  refine ⟨y,h2.range,h2,fun fu hf=>?_⟩
  obtain ⟨a,a1,a2⟩:=zNt (fu:=fu) hs
  obtain ⟨b,b1,b2⟩:=zKi (fu:=fu) hf hs
  rw [a1,b1,a2.one h2,b2.one h2]
  exact ⟨rfl,rfl⟩
end Go.Proofs.YtcodfkieaoomnaaGreatDoor
namespace Go.Proofs.YtcodfkieaoomnaaGreatDoor
open Go.RowKit
set_option linter.unusedVariables false
set_option linter.unusedSimpArgs false
theorem zM8 {r:RecT} (h:zCC r≤1048576):zMy r:=by
  unfold zCC zCo wL at h
  exact ⟨by omega,fun s hs=>Nat.le_trans (zJz (f:=fun s:List UInt8=>s.length) hs) (by omega)⟩
end Go.Proofs.YtcodfkieaoomnaaGreatDoor
namespace Go.Proofs.YtcodfkieaoomnaaGreatDoor
open Go.RowKit
set_option linter.unusedVariables false
set_option linter.unusedSimpArgs false
def lv (a b : List UInt8) : Nat → Nat → Int
  | 0,j=>(j:Int)
  | i+1,0=>((i+1:Nat):Int)
  | i+1,j+1=>min (min (lv a b i (j+1)+1) (lv a b (i+1) j+1)) (lv a b i j+bif bAt a (i:Int)==bAt b (j:Int) then 0 else 1)
  termination_by i j=>(i,j)
theorem lv_0 (a b:List UInt8) (j:Nat):lv a b 0 j=(j:Int):=by rw [lv]
theorem zLv (a b:List UInt8) (i:Nat):lv a b (i+1) 0=((i+1:Nat):Int):=by rw [lv]
theorem zP1 (a b:List UInt8) (i:Nat):lv a b i 0=(i:Int):=by
  cases i
  · exact lv_0 a b 0
  · exact zLv a b _
theorem zNj (a b:List UInt8) (i j:Nat):lv a b (i+1) (j+1)=min (min (lv a b i (j+1)+1) (lv a b (i+1) j+1)) (lv a b i j+bif bAt a (i:Int)==bAt b (j:Int) then 0 else 1):=by rw [lv]
theorem lv_c (a b:List UInt8) (i j:Nat):lv a b (i+1) (j+1)=(min (min (lv a b i (j+1)+1) (lv a b (i+1) j+1)) (lv a b i j+1))∨lv a b (i+1) (j+1)=min (min (lv a b i (j+1)+1) (lv a b (i+1) j+1)) (lv a b i j):=by
  rw [zNj]
  cases bAt a (i:Int)==bAt b (j:Int)
  · exact .inl rfl
  · rw [cond_true,Int.add_zero];exact .inr rfl
theorem lv_r (a b:List UInt8) (i j:Nat):lv a b i (j+1)≤lv a b i j+1:=by
  cases i
  · rw [lv_0,lv_0];omega
  · have:=lv_c a b ‹_› j;omega
theorem lv_d (a b:List UInt8) (i j:Nat):lv a b (i+1) j≤lv a b i j+1:=by
  cases j
  · rw [zLv,zP1];omega
  · have:=lv_c a b i ‹_›;omega
theorem lv_u (a b : List UInt8) (i : Nat) : ∀ j, lv a b i j ≤ lv a b (i + 1) j + 1
  | 0=>by rw [zLv,zP1];omega
  | j+1=>by
    have h:=lv_c a b i j
    have h1:=lv_r a b i j
    have h2:=lv_u a b i j
    omega
theorem lv_l (a b : List UInt8) (j : Nat) : ∀ i, lv a b i j ≤ lv a b i (j + 1) + 1
  | 0=>by rw [lv_0,lv_0];omega
  | i+1=>by
    have h:=lv_c a b i j
    have h1:=lv_d a b i j
    have h2:=lv_l a b j i
    omega
theorem zG5 (a b : List UInt8) : ∀ (n i j : Nat), i + j ≤ n → 0 ≤ lv a b i j ∧ lv a b i j ≤ (i : Int) + j
  | n,0,j,_=>by rw [lv_0];omega
  | n,i+1,0,_=>by rw [zLv];omega
  | 0,i+1,j+1,h=>by omega
  | n+1,i+1,j+1,h=>by
    have h0:=lv_c a b i j
    have h1:=zG5 a b n i (j+1) (by omega)
    have h2:=zG5 a b n (i+1) j (by omega)
    have h3:=zG5 a b n i j (by omega)
    omega
theorem zPW (a b:List UInt8) (i j:Nat) (h:(bAt a (i:Int)==bAt b (j:Int))=true):lv a b (i+1) (j+1)=lv a b i j:=by
  rw [zNj,h,cond_true]
  have h1:=lv_u a b i j
  have h2:=lv_l a b j i
  omega
theorem zPd (a b:List UInt8) (i j:Nat) (h:(bAt a (i:Int)==bAt b (j:Int))=false):lv a b (i+1) (j+1)=1+min (min (lv a b i (j+1)) (lv a b (i+1) j)) (lv a b i j):=by
  rw [zNj,h,cond_false]
  omega
def zEs (a b:List UInt8) (i:Nat):List Int:=(List.range (b.length+1)).map (lv a b i)
def zEk (a b:List UInt8):List (List Int):=(List.range (a.length+1)).map (zEs a b)
theorem zCB (a b:List UInt8) (i:Nat):(zEs a b i).length=b.length+1:=by simp [zEs]
theorem zE9 (a b:List UInt8):(zEk a b).length=a.length+1:=by simp [zEk]
theorem zEM {a b:List UInt8} {i j:Nat} (h:j≤b.length):(zEs a b i)[j]? = some (lv a b i j):=by
  simp only [zEs,List.getElem?_map,List.getElem?_range (show j<b.length+1 by omega)]
  rfl
theorem zGD {a b:List UInt8} {i:Nat} (h:i≤a.length):(zEk a b)[i]? = some (zEs a b i):=by
  simp only [zEk,List.getElem?_map,List.getElem?_range (show i<a.length+1 by omega)]
  rfl
theorem zJC {α β : Type} {xs : List α} {r : Option β} {L : Nat → Int → List α → Option β}
    (hs:∀ k (i:Nat) ys x,xs[i]? = some x→ys.length=xs.length→ys.take i=xs.take i→L (k+1) ((i:Nat):Int) ys=L k ((i+1:Nat):Int) (ys.set i x)) (he:∀ k,L (k+1) ((xs.length:Nat):Int) xs=r) {ys:List α} {fu:Nat} (hf:xs.length<fu) (hy:ys.length=xs.length):L fu 0 ys=r:=by
  have key:∀ m i k ys,i+m=xs.length→m<k→ys.length=xs.length→ys.take i=xs.take i→L k ((i:Nat):Int) ys=r:=by
    intro m
    induction m with
    | zero=>
      intro i k ys hi hk hy ht
      obtain ⟨k,rfl⟩:∃ q,k=q+1:=⟨k-1,by omega⟩
      obtain rfl:i=xs.length:=by omega
      rw [List.take_of_length_le (by omega),List.take_of_length_le (by omega)] at ht
      rw [ht,he]
    | succ m ih=>
      intro i k ys hi hk hy ht
      obtain ⟨k,rfl⟩:∃ q,k=q+1:=⟨k-1,by omega⟩
      have hlt:i<xs.length:=by omega
      rw [hs k i ys _ (List.getElem?_eq_getElem hlt) hy ht]
      refine ih (i+1) k _ (by omega) (by omega) (by rw [List.length_set,hy]) ?_
      apply List.ext_getElem?
      intro j
      rw [List.getElem?_take,List.getElem?_take]
      split
      · rename_i hj
        rcases Nat.lt_or_ge j i with h | h
        · have := congrArg (fun l => l[j]?) ht
          simp only [List.getElem?_take,if_pos h] at this
          rw [List.getElem?_set_ne (by omega)]
          exact this
        · obtain rfl : j = i := by omega
          rw [List.getElem?_set_self (by omega),List.getElem?_eq_getElem hlt]
      · rfl
  exact key xs.length 0 fu ys (by omega) hf hy rfl
theorem zKO {α:Type} {xs ys:List α} {i j:Nat} (h:ys.take i=xs.take i) (hj:j<i):ys[j]? = xs[j]?:=by
  have:=congrArg (fun l=>l[j]?) h
  simpa only [List.getElem?_take,if_pos hj] using this
theorem zN3 (i:Nat):(((i+1:Nat):Int)==(0:Int))=false:=by
  rw [beq_eq_false_iff_ne];omega
theorem zNX:(((0:Nat):Int)==(0:Int))=true:=rfl
theorem zKa (n:Nat):((n:Int)+1).toNat=n+1:=by omega
theorem zM2 {fu : Nat} {a b : List UInt8} {i : Nat} {T : List (List Int)} (hT : T.length = a.length + 1) (hi : i ≤ a.length) (hp : T.take i = (zEk a b).take i) (ha : a.length ≤ 40) (hb : b.length ≤ 40) (hf : 1048577 ≤ fu) {ys : List Int} (hy : ys.length = b.length + 1) :
    zAR fu a b false (i:Int) T fu 0 (T.set i ys)=some (T.set i (zEs a b i)):=by
  have hiT:i<T.length:=by omega
  have hl:∀ zs:List Int,inR (i:Int) (T.set i zs).length=true:=fun zs=>zAx (by rw [List.length_set];omega)
  have hg:∀ zs:List Int,gtD (T.set i zs) (i:Int)=zs:=fun zs=>zAq (List.getElem?_set_self hiT)
  refine zJC (xs:=zEs a b i) (L:=fun k j ys=>zAR fu a b false (i:Int) T k j (T.set i ys)) (fun k j zs x hx hz ht=>?_) (fun k=>?_) (by rw [zCB];omega) (by rw [zCB,hy])
  · have hj : j < b.length + 1 := by have := zDK hx; rwa [zCB] at this
    rw [zCB] at hz
    have hjz:j<zs.length:=by omega
    rw [zEM (by omega)] at hx
    injection hx with hx
    subst hx
    show zAR fu a b false (i:Int) T (k+1) (j:Int) (T.set i zs)=zAR fu a b false (i:Int) T k ((j+1:Nat):Int) (T.set i (zs.set j _))
    rw [zAR,Int.toNat_natCast,hg,List.length_replicate,zKa,lt_t hj,cond_true]
    simp only [hl,hg,zAx hjz,zCL,zGV,List.set_set,zCg (show j≤4294967296 by omega),zBH]
    cases i with
    | zero=>
      rw [zNX,cond_true,lv_0]
    | succ i=>
      rw [zN3,cond_false]
      cases j with
      | zero=>rw [zNX,cond_true,zLv]
      | succ j=>
        have e1:gtD (T.set (i+1) zs) (i:Int)=zEs a b i:=zAq (by rw [List.getElem?_set_ne (by omega),zKO hp (Nat.lt_succ_self i),zGD (by omega)])
        have e2:gtD zs (j:Int)=lv a b (i+1) j:=zAq (by rw [zKO ht (Nat.lt_succ_self j),zEM (by omega)])
        have e3:gtD (zEs a b i) ((j+1:Nat):Int)=lv a b i (j+1):=zAq (zEM (by omega))
        have e4:gtD (zEs a b i) (j:Int)=lv a b i j:=zAq (zEM (by omega))
        have p1:=zG5 a b _ i (j+1) (Nat.le_refl _)
        have p2:=zG5 a b _ (i+1) j (Nat.le_refl _)
        have p3:=zG5 a b _ i j (Nat.le_refl _)
        rw [zN3,cond_false]
        simp only [zJp, zIE i (by omega), zIE j (by omega), zAx (show i < a.length by omega), zAx (show j < b.length by omega), zAx (show i < (T.set (i + 1) zs).length by rw [List.length_set]; omega), e1, e2, e3, e4,
          zAx (show j+1<(zEs a b i).length by rw [zCB];omega),zAx (show j<(zEs a b i).length by rw [zCB];omega),zAx (show j<zs.length by omega),zCL,Bool.false_and,zBK,cond_false,
          show (true&&(false==true))=false from rfl,Bool.not_false,Bool.true_or,
          zAl (show -9223372036854775808≤lv a b i (j+1)+1 by omega) (by omega),zAl (show -9223372036854775808≤lv a b (i+1) j+1 by omega) (by omega),zAl (show -9223372036854775808≤lv a b i j+1 by omega) (by omega),zAl (show -9223372036854775808≤lv a b i j+0 by omega) (by omega)]
        rw [zNj]
        cases bAt a (i:Int)==bAt b (j:Int) <;> rfl
  · show zAR fu a b false (i : Int) T (k + 1) _ (T.set i (zEs a b i)) = _
    rw [zAR,Int.toNat_natCast,hg,List.length_replicate,zKa,zCB,lt_f]
    rfl
theorem zLc {fu:Nat} {a b:List UInt8} (hf:1048577≤fu) (ha:a.length≤40) (hb:b.length≤40):zCX fu a b false=some (zEk a b):=by
  unfold zCX
  rw [ck_t (zAl (by omega) (by omega)),ck_t (show mkOK ((a.length:Int)+1)=true from zLI (n:=a.length+1) (by omega)),zKa]
  have h:=zJC (xs:=zEk a b) (r:=some (zEk a b)) (L:=zBQ fu a b false) (fun k i T x hx hT hp=>by
    have hi:=zDK hx
    rw [zE9] at hi hT
    rw [zGD (by omega)] at hx
    injection hx with hx
    subst hx
    rw [zBQ, List.length_replicate, zKa, lt_t hi, cond_true, ck_t (zAl (by omega) (by omega)), ck_t (show mkOK ((b.length : Int) + 1) = true from zLI (n := b.length + 1) (by omega)), zKa, zGV, ck_t (zAx (by omega)), ck_t (zAx (by rw [List.length_set]; omega)),
      zM2 hT (by omega) hp ha hb hf (by rw [List.length_replicate]),zA5,ck_t (zEC (by omega)),zBH]) (fun k=>by
    rw [zBQ,List.length_replicate,zKa,zE9,lt_f]
    rfl) (ys:=List.replicate (a.length+1) []) (show (zEk a b).length<fu by rw [zE9];omega) (by rw [zE9,List.length_replicate])
  rw [h,zA5]
theorem zMZ {fu : Nat} {a b : List UInt8} {i : Nat} (hi : i ≤ a.length) (ha : a.length ≤ 40) (hb : b.length ≤ 40) (hf : 1048577 ≤ fu) {ys : List Int} (hy : ys.length = b.length + 1) :
    zAU fu a b false (i:Int) ((zEk a b).take i) fu 0 ys=some (zEs a b i):=by
  refine zJC (xs:=zEs a b i) (L:=fun k j ys=>zAU fu a b false (i:Int) ((zEk a b).take i) k j ys) (fun k j zs x hx hz ht=>?_) (fun k=>?_) (by rw [zCB];omega) (by rw [zCB,hy])
  · have hj : j < b.length + 1 := by have := zDK hx; rwa [zCB] at this
    rw [zCB] at hz
    have hjz:j<zs.length:=by omega
    rw [zEM (by omega)] at hx
    injection hx with hx
    subst hx
    show zAU fu a b false (i:Int) ((zEk a b).take i) (k+1) (j:Int) zs=zAU fu a b false (i:Int) ((zEk a b).take i) k ((j+1:Nat):Int) (zs.set j _)
    rw [zAU,show decide ((j:Int)≤(b.length:Int))=true from decide_eq_true (by omega),cond_true]
    simp only [Bool.false_and,zBK,cond_false,show (true&&(false==true))=false from rfl,Bool.not_false,Bool.true_or,zAx hjz,zCL,zGV,zCg (show j≤4294967296 by omega),zBH]
    cases i with
    | zero=>rw [zNX,cond_true,lv_0]
    | succ i=>
      rw [zN3,cond_false]
      cases j with
      | zero=>rw [zNX,cond_true,zLv]
      | succ j=>
        have e1:gtD ((zEk a b).take (i+1)) (i:Int)=zEs a b i:=zAq (by rw [List.getElem?_take,if_pos (Nat.lt_succ_self i),zGD (by omega)])
        have e2:gtD zs (j:Int)=lv a b (i+1) j:=zAq (by rw [zKO ht (Nat.lt_succ_self j),zEM (by omega)])
        have e3:gtD (zEs a b i) ((j+1:Nat):Int)=lv a b i (j+1):=zAq (zEM (by omega))
        have e4:gtD (zEs a b i) (j:Int)=lv a b i j:=zAq (zEM (by omega))
        have p1:=zG5 a b _ i (j+1) (Nat.le_refl _)
        have p2:=zG5 a b _ (i+1) j (Nat.le_refl _)
        have p3:=zG5 a b _ i j (Nat.le_refl _)
        have hl:((zEk a b).take (i+1)).length=i+1:=by rw [List.length_take,zE9];omega
        rw [zN3,cond_false]
        simp only [zJp, zIE i (by omega), zIE j (by omega), zAx (show i < a.length by omega), zAx (show j < b.length by omega), zAx (show i < ((zEk a b).take (i + 1)).length by rw [hl]; omega), e1, e2, e3, e4,
          zAx (show j+1<(zEs a b i).length by rw [zCB];omega),zAx (show j<(zEs a b i).length by rw [zCB];omega),zAx (show j<zs.length by omega),zCL]
        cases hc:bAt a (i:Int)==bAt b (j:Int)
        · rw [cond_false,ck_t (zAl (by omega) (by omega)),zPd _ _ _ _ hc]
        · rw [cond_true,zPW _ _ _ _ hc]
  · show zAU fu a b false (i : Int) ((zEk a b).take i) (k + 1) _ (zEs a b i) = _
    rw [zAU,zCB,show decide (((b.length+1:Nat):Int)≤(b.length:Int))=false from decide_eq_false (by omega)]
    rfl
theorem zLt {fu:Nat} {a b:List UInt8} (hf:1048577≤fu) (ha:a.length≤40) (hb:b.length≤40):zDC fu a b false=some (zEk a b):=by
  unfold zDC
  have key:∀ m i k,i+m=a.length+1→m<k→zBm fu a b false k ((i:Nat):Int) ((zEk a b).take i)=some (zEk a b):=by
    intro m
    induction m with
    | zero=>
      intro i k hi hk
      obtain ⟨k,rfl⟩:∃ q,k=q+1:=⟨k-1,by omega⟩
      rw [zBm,show decide ((i:Int)≤(a.length:Int))=false from decide_eq_false (by omega),cond_false,List.take_of_length_le (by rw [zE9];omega)]
    | succ m ih=>
      intro i k hi hk
      obtain ⟨k,rfl⟩:∃ q,k=q+1:=⟨k-1,by omega⟩
      have hl:((zEk a b).take i).length=i:=by rw [List.length_take,zE9];omega
      rw [zBm, show decide ((i : Int) ≤ (a.length : Int)) = true from decide_eq_true (by omega), cond_true, ck_t (zAl (by omega) (by omega)), ck_t (show mkOK ((b.length : Int) + 1) = true from zLI (n := b.length + 1) (by omega)), zKa,
        zMZ (by omega) ha hb hf (by rw [List.length_replicate]),zA5,hl,List.length_singleton,ck_t (zBV (by omega)),ck_t (zEC (by omega)),zBH]
      have:(zEk a b).take i ++ [zEs a b i]=(zEk a b).take (i+1):=by
        rw [List.take_add_one,zGD (by omega)]
        rfl
      rw [this]
      exact ih (i+1) k (by omega) (by omega)
  have:=key (a.length+1) 0 fu (by omega) (by omega)
  rw [show ((0:Nat):Int)=0 from rfl,List.take_zero] at this
  rw [this,zA5]
def zHZ (a b:List UInt8):Int:=bif decide (a.length≤40)&&decide (b.length≤40) then lv a b a.length b.length else -1
theorem zLq {fu:Nat} {a b:List UInt8} (hf:1048577≤fu):zCK fu a b=some (zHZ a b):=by
  unfold zCK zE2 zHZ
  rw [zBK]
  by_cases h:a.length≤40∧b.length≤40
  · rw [show decide ((40 : Int) < (a.length : Int)) = false from decide_eq_false (by omega), show decide ((40 : Int) < (b.length : Int)) = false from decide_eq_false (by omega), decide_eq_true h.1, decide_eq_true h.2, Bool.or_false, cond_false, zLc hf h.1 h.2, zA5,
      ck_t (zAx (by rw [zE9];omega)),zAq (zGD (Nat.le_refl _)),ck_t (zAx (by rw [zCB];omega)),zA5,zAq (zEM (Nat.le_refl _))]
    rfl
  · have:(decide ((40:Int)<(a.length:Int)) || decide ((40:Int)<(b.length:Int)))=true:=by
      rw [Bool.or_eq_true,decide_eq_true_eq,decide_eq_true_eq];omega
    have h2:(decide (a.length≤40)&&decide (b.length≤40))=false:=by
      rw [Bool.and_eq_false_iff,decide_eq_false_iff_not,decide_eq_false_iff_not];omega
    rw [this,h2]
    rfl
theorem zLZ {fu:Nat} {a b:List UInt8} (hf:1048577≤fu):zCO fu a b=some (zHZ a b):=by
  unfold zCO zEf zHZ
  rw [zBK,zA5]
  by_cases h:a.length≤40∧b.length≤40
  · rw [show decide ((a.length : Int) ≤ 40) = true from decide_eq_true (by omega), show decide ((b.length : Int) ≤ 40) = true from decide_eq_true (by omega), decide_eq_true h.1, decide_eq_true h.2, Bool.and_self, Bool.not_true, cond_false, zLt hf h.1 h.2, zA5,
      ck_t (zAx (by rw [zE9];omega)),zAq (zGD (Nat.le_refl _)),ck_t (zAx (by rw [zCB];omega)),zAq (zEM (Nat.le_refl _))]
    rfl
  · have:(decide ((a.length:Int)≤40)&&decide ((b.length:Int)≤40))=false:=by
      rw [Bool.and_eq_false_iff,decide_eq_false_iff_not,decide_eq_false_iff_not];omega
    have h2:(decide (a.length≤40)&&decide (b.length≤40))=false:=by
      rw [Bool.and_eq_false_iff,decide_eq_false_iff_not,decide_eq_false_iff_not];omega
    rw [this,h2]
    rfl
theorem zNB (a b:List UInt8):-1≤zHZ a b:=by
  unfold zHZ
  cases decide (a.length≤40)&&decide (b.length≤40)
  · exact Int.le_refl _
  · have := (zG5 a b _ a.length b.length (Nat.le_refl _)).1
    rw [cond_true];omega
end Go.Proofs.YtcodfkieaoomnaaGreatDoor
namespace Go.Proofs.YtcodfkieaoomnaaGreatDoor
open Go.RowKit
set_option linter.unusedVariables false
set_option linter.unusedSimpArgs false
def mrgN : Nat → List (List UInt8) → List (List UInt8) → Nat
  | 0,_,_=>0
  | _+1,[],_=>0
  | _+1,_::_,[]=>0
  | n+1,x::xs,y::ys=>bif bLt x y then mrgN n xs (y::ys) else bif bLt y x then mrgN n (x::xs) ys else mrgN n xs ys+1
theorem zMd {α:Type} (x:α) (xs:List α):subL (x::xs) 1 (((x::xs).length:Nat):Int)=xs:=by
  rw [show (1:Int)=((1:Nat):Int) from rfl,zHy]
  rfl
theorem zNO {fu : Nat} : ∀ (n k : Nat) (xs ys : List (List UInt8)) (c : Int), xs.length + ys.length ≤ n → n < k → 0 ≤ c → c + n ≤ 4294967296 → zAa fu k xs ys c = some (c + mrgN n xs ys)
  | 0,k,xs,ys,c,hn,hk,h0,h1=>by
    obtain ⟨k,rfl⟩:∃ q,k=q+1:=⟨k-1,by omega⟩
    obtain rfl:xs = []:=List.eq_nil_of_length_eq_zero (by omega)
    rw [zAa]
    simp [zBK,mrgN]
  | n+1,k,[],ys,c,hn,hk,h0,h1=>by
    obtain ⟨k,rfl⟩:∃ q,k=q+1:=⟨k-1,by omega⟩
    rw [zAa]
    simp [zBK,mrgN]
  | n+1,k,x::xs,[],c,hn,hk,h0,h1=>by
    obtain ⟨k,rfl⟩:∃ q,k=q+1:=⟨k-1,by omega⟩
    rw [zAa]
    simp [zBK,mrgN]
  | n+1,k,x::xs,y::ys,c,hn,hk,h0,h1=>by
    obtain ⟨k,rfl⟩:∃ q,k=q+1:=⟨k-1,by omega⟩
    simp only [List.length_cons] at hn
    have hx:decide ((0:Int)<((x::xs).length:Int))=true:=lt_0 (by simp)
    have hy:decide ((0:Int)<((y::ys).length:Int))=true:=lt_0 (by simp)
    have sx:subR (1:Int) (((x::xs).length:Nat):Int) (x::xs).length=true:=zLQ (k:=1) (by simp)
    have sy:subR (1:Int) (((y::ys).length:Nat):Int) (y::ys).length=true:=zLQ (k:=1) (by simp)
    rw [zAa,hx,hy]
    simp only [Bool.and_self,zBK,cond_true,zKL (show 0<(x::xs).length by simp),zKL (show 0<(y::ys).length by simp),zCL,zN8 (show (x::xs)[0]? = some x from rfl),zN8 (show (y::ys)[0]? = some y from rfl),sx,sy,zMd,zAl (show -9223372036854775808≤c+1 by omega) (show c+1≤9223372036854775807 by omega)]
    unfold mrgN
    cases bLt x y
    · cases bLt y x
      · rw [cond_false, cond_false, cond_false, cond_false, zNO n k xs ys (c + 1) (by omega) (by omega) (by omega) (by omega)]
        congr 1
        omega
      · rw [cond_false, cond_true, cond_false, cond_true]
        exact zNO n k (x::xs) ys c (by simp;omega) (by omega) h0 (by omega)
    · rw [cond_true, cond_true]
      exact zNO n k xs (y::ys) c (by simp;omega) (by omega) h0 (by omega)
theorem zGn : ∀ (n : Nat) (xs ys : List (List UInt8)), xs.length + ys.length ≤ n → zBw bLt xs → zBw bLt ys → mrgN n xs ys = (xs.filter fun x => ys.any fun y => y == x).length
  | 0,xs,ys,hn,_,_=>by
    obtain rfl:xs = []:=List.eq_nil_of_length_eq_zero (by omega)
    rfl
  | n+1,[],ys,hn,_,_=>rfl
  | n+1,x::xs,[],hn,_,_=>by
    rw [show ((x::xs).filter fun z=>([]:List (List UInt8)).any fun y=>y==z) = [] from List.filter_eq_nil_iff.2 (fun _ _=>by simp)]
    rfl
  | n+1,x::xs,y::ys,hn,hx,hy=>by
    simp only [List.length_cons] at hn
    obtain ⟨x1,x2⟩:=List.pairwise_cons.1 hx
    obtain ⟨y1,y2⟩:=List.pairwise_cons.1 hy
    have S:=zDD
    unfold mrgN
    have no:∀ {a b:List UInt8},bLt a b=true→(b==a)=false:=fun {a b} h=>by
      rw [beq_eq_false_iff_ne]
      intro e
      rw [e,zFE] at h
      cases h
    cases h1:bLt x y
    · cases h2 : bLt y x
      · have e := zK8 h1 h2
        subst e
        rw [cond_false,cond_false,zGn n xs ys (by omega) x2 y2,List.filter_cons,if_pos (by simp),List.length_cons]
        congr 2
        apply List.filter_congr
        intro z hz
        rw [List.any_cons, show (x == z) = false from by
          have:=no (x1 z hz)
          rwa [Bool.beq_comm] at this,Bool.false_or]
      · rw [cond_false, cond_true, zGn n (x :: xs) ys (by simp; omega) hx y2]
        congr 1
        apply List.filter_congr
        intro z hz
        have hyz:bLt y z=true:=by
          rcases List.mem_cons.1 hz with rfl | hz
          · exact h2
          · exact S.tr y x z h2 (x1 z hz)
        rw [List.any_cons, show (y == z) = false from by
          have:=no hyz
          rwa [Bool.beq_comm] at this,Bool.false_or]
    · rw [cond_true, zGn n xs (y :: ys) (by simp; omega) x2 hy, List.filter_cons, if_neg]
      intro hc
      rw [List.any_eq_true] at hc
      obtain ⟨z,hz,e⟩:=hc
      rw [beq_iff_eq] at e
      subst e
      rcases List.mem_cons.1 hz with rfl | hz
      · rw [zFE] at h1
        cases h1
      · have := S.tr z y z h1 (y1 z hz)
        rw [zFE] at this
        cases this
theorem zIc {α : Type} {lt : α → α → Bool} (S : Sto lt) {b : α → α → Bool} (hb : ∀ p x, b p x = false → lt p x = true) : ∀ (xs : List α) (p : α), adjB b p xs = false → zBw lt (p :: xs)
  | [],p,_=>List.pairwise_cons.2 ⟨fun y h=>(by cases h),List.Pairwise.nil⟩
  | x::xs,p,h=>by
    unfold adjB at h
    rw [Bool.or_eq_false_iff] at h
    have ih:=zIc S hb xs x h.2
    have hpx:=hb p x h.1
    refine List.pairwise_cons.2 ⟨fun y hy=>?_,ih⟩
    rcases List.mem_cons.1 hy with rfl | hy
    · exact hpx
    · exact S.tr p x y hpx ((List.pairwise_cons.1 ih).1 y hy)
theorem zFI {l:List (List UInt8)} (h:tokB l=true):zBw bLt l:=by
  unfold tokB at h
  cases l with
  | nil=>exact List.Pairwise.nil
  | cons x xs=>
    rw [Bool.not_eq_true',zIe,Bool.or_eq_false_iff] at h
    exact zIc zDD (fun p x hb=>by
      rw [Bool.or_eq_false_iff] at hb
      simpa using hb.2) xs x h.2
theorem zMo {l:List (List UInt8)} (h:zBw bLt l):(l.mergeSort fun x y=>!(bLt y x))=l:=
  zKg zDD (List.mergeSort_perm l _) (zI2 zDD l) (h.w zDD)
theorem zOY {l:List (List UInt8)} (h:zBw bLt l):setL l=l:=
  zEj zDD (zGg l) h fun x=>zGo
def zEw (a b:List (List UInt8)):List (List UInt8):=a.filter fun x=>b.any fun y=>y==x
theorem zJt (a b:List (List UInt8)):(zEw a b).length≤a.length:=List.length_filter_le _ _
theorem zMF {fu:Nat} {a b:List (List UInt8)} (hf:4294967296<fu∨a.length+b.length<fu) (ha:a.length≤1048576) (hb:b.length≤1048576) (sa:zBw bLt a) (sb:zBw bLt b):zDe fu a b=some ((zEw a b).length:Int):=by
  unfold zDe zDG
  have hfu:a.length+b.length<fu:=by omega
  rw [zKU (by omega),zA5,zKU (by omega),zA5,zKb (by omega),zA5,zKb (by omega),zA5,zMo sa,zMo sb,zNO (a.length+b.length) fu a b 0 (Nat.le_refl _) hfu (by omega) (by omega),zA5,zA5,zGn _ a b (Nat.le_refl _) sa sb]
  simp [zEw]
theorem zMH {a b:List (List UInt8)} (sa:zBw bLt a) (sb:zBw bLt b):((b.foldl (putS bLt) (a.foldl (putS bLt) [])).length:Int)=a.length+b.length-(zEw a b).length:=by
  obtain ⟨h1,h2⟩:=zFJ zDD a [] List.Pairwise.nil
  obtain ⟨h3,h4⟩:=zFJ zDD b _ h1
  have hn:=zBw.nodup zDD h3
  have hb2:(a++b.filter fun x=>!(a.any fun y=>y==x)).Nodup:=by
    refine List.nodup_append.2 ⟨zBw.nodup zDD sa,(zBw.nodup zDD sb).sublist List.filter_sublist,fun x hx y hy e=>?_⟩
    subst e
    have:=(List.mem_filter.1 hy).2
    simp at this
    exact this _ hx rfl
  have hp:(b.foldl (putS bLt) (a.foldl (putS bLt) [])).Perm (a++b.filter fun x=>!(a.any fun y=>y==x)):=by
    refine (List.perm_ext_iff_of_nodup hn hb2).2 fun x=>?_
    rw [h4,h2,List.mem_append,List.mem_filter]
    by_cases hx:x ∈ a
    · simp [hx]
    · simp [hx]
      exact fun _ y hy e=>hx (e ▸ hy)
  have hl:=hp.length_eq
  rw [List.length_append] at hl
  have e1:zEw a b=zEw b a:=by
    refine zEj zDD (sa.sublist List.filter_sublist) (sb.sublist List.filter_sublist) fun x=>?_
    unfold zEw
    rw [List.mem_filter,List.mem_filter]
    simp
    exact And.comm
  have e2:(zEw b a).length+(b.filter fun x=>!(a.any fun y=>y==x)).length=b.length:=by
    have h:∀ l:List (List UInt8),(l.filter fun x=>a.any fun y=>y==x).length+(l.filter fun x=>!(a.any fun y=>y==x)).length=l.length:=by
      intro l
      induction l with
      | nil=>rfl
      | cons z l ih=>
        simp only [List.filter_cons,List.length_cons]
        cases a.any fun y=>y==z <;> simp <;> omega
    exact h b
  rw [e1]
  omega
theorem zKd {fu:Nat} {a b:List (List UInt8)} (hf:1048577≤fu) (ha:a.length≤524288) (hb:b.length≤524288):zBz fu a b=some (b.foldl (putS bLt) (a.foldl (putS bLt) [])):=by
  unfold zBz
  have grow:∀ (acc:List (List UInt8)) x,(putS bLt acc x).length≤acc.length+1:=fun acc x=>by
    unfold putS putW
    cases (acc[plc bLt x acc]? == some x)
    · rw [cond_false,zF6];exact Nat.le_refl _
    · rw [cond_true];omega
  have h:=zDw (xs:=a) (g:=putS bLt) (Inv:=fun i acc=>acc.length≤i) (L:=fun k i acc=>zAm fu a k i acc) (fun k i acc x hx hacc=>by
    have hi:=zDK hx
    show zAm fu a (k+1) (i:Int) acc=_
    rw [zAm,lt_t hi,cond_true]
    simp only [zAx hi,zAq hx,zCL,zMn (show acc.length<fu by omega) (show acc.length≤2147483648 by omega),zA5,zCg (show i≤4294967296 by omega),zBH,cond_false]) (fun i acc x hx hacc=>Nat.le_trans (grow acc x) (Nat.succ_le_succ hacc)) (fun k acc hacc=>by show zAm fu a (k+1) (a.length:Int) acc=_;rw [zAm,lt_f];rfl) (a:=[]) (Nat.zero_le _) (show a.length<fu by omega)
  have h':=zDw (xs:=b) (g:=putS bLt) (Inv:=fun i acc=>acc.length≤a.length+i) (L:=fun k i acc=>zAo fu b k i acc) (fun k i acc x hx hacc=>by
    have hi:=zDK hx
    show zAo fu b (k+1) (i:Int) acc=_
    rw [zAo,lt_t hi,cond_true]
    simp only [zAx hi,zAq hx,zCL,zMn (show acc.length<fu by omega) (show acc.length≤2147483648 by omega),zA5,zCg (show i≤4294967296 by omega),zBH,cond_false]) (fun i acc x hx hacc=>by have:=grow acc x;show _≤a.length+(i+1);omega) (fun k acc hacc=>by show zAo fu b (k+1) (b.length:Int) acc=_;rw [zAo,lt_f];rfl) (a:=a.foldl (putS bLt) []) h.2 (show b.length<fu by omega)
  rw [h.1,zA5,h'.1,zA5]
end Go.Proofs.YtcodfkieaoomnaaGreatDoor
namespace Go.Proofs.YtcodfkieaoomnaaGreatDoor
open Go.RowKit
set_option linter.unusedVariables false
set_option linter.unusedSimpArgs false
def edS (a b:List UInt8):Int:=bif decide (zHZ a b<0) then 0 else bif (max (a.length:Int) (b.length:Int))==(0:Int) then 1000 else (1000*(max (a.length:Int) (b.length:Int)-zHZ a b)).tdiv (max (a.length:Int) (b.length:Int))
theorem zNR (a b:List UInt8):zHZ a b≤(a.length:Int)+b.length:=by
  unfold zHZ
  cases decide (a.length≤40)&&decide (b.length≤40)
  · rw [cond_false];omega
  · exact (zG5 a b _ a.length b.length (Nat.le_refl _)).2
theorem zJM {x y:Int} (h0:-1000000000000≤x) (h1:x≤1000000000000) (hy:y ≠ 0):-9223372036854775808≤x.tdiv y∧x.tdiv y≤9223372036854775807:=by
  have h1:(x.tdiv y).natAbs=x.natAbs / y.natAbs:=Int.natAbs_tdiv x y
  have h2:x.natAbs / y.natAbs≤x.natAbs:=Nat.div_le_self _ _
  have h3:x.natAbs≤1000000000000:=by omega
  generalize x.tdiv y=z at h1 ⊢
  generalize x.natAbs / y.natAbs=q at h1 h2
  omega
theorem zPK {a b:List UInt8} (ha:a.length≤1048576) (hb:b.length≤1048576) {k:Option Int} (h:k=some (zHZ a b)):(cl true k fun x1=>
    bif decide (x1 < (0 : Int)) then (some (0 : Int)) else (bif (max (a.length : Int) (b.length : Int)) == (0 : Int) then (some (1000 : Int)) else (
      ck (i64B ((max (a.length:Int) (b.length:Int))-x1))<|ck (i64B ((1000:Int)*((max (a.length:Int) (b.length:Int))-x1)))<|ck ((max (a.length:Int) (b.length:Int)) != 0) <|
      ck (i64B (((1000:Int)*((max (a.length:Int) (b.length:Int))-x1)).tdiv (max (a.length:Int) (b.length:Int))))<|some (((1000:Int)*((max (a.length:Int) (b.length:Int))-x1)).tdiv (max (a.length:Int) (b.length:Int))))))=some (edS a b):=by
  have h1:=zNB a b
  have h2:=zNR a b
  rw [h,zA5]
  unfold edS
  generalize zHZ a b=d at h1 h2 ⊢
  have hm:(0:Int)≤max (a.length:Int) (b.length:Int)∧max (a.length:Int) (b.length:Int)≤1048576:=by omega
  generalize max (a.length:Int) (b.length:Int)=m at hm ⊢
  cases decide (d<0)
  · rw [cond_false, cond_false]
    cases hm0:m==(0:Int)
    · have hne : m ≠ 0 := by simpa using hm0
      have hq:=zJM (x:=1000*(m-d)) (y:=m) (by omega) (by omega) hne
      rw [cond_false,cond_false,ck_t (zAl (by omega) (by omega)),ck_t (zAl (by omega) (by omega)),ck_t (by simpa using hne),ck_t (zAl hq.1 hq.2)]
    · rfl
  · rfl
theorem zNS {fu:Nat} {a b:List UInt8} (hf:1048577≤fu) (ha:a.length≤1048576) (hb:b.length≤1048576):zDk fu a b=some (edS a b):=zPK ha hb (zLq hf)
theorem zNf {fu:Nat} {a b:List UInt8} (hf:1048577≤fu) (ha:a.length≤1048576) (hb:b.length≤1048576):zDj fu a b=some (edS a b):=zPK ha hb (zLZ hf)
def txS (a b:List UInt8):Int:=bif (nrmL a == []) || (nrmL b == []) then 0 else edS (nrmL a) (nrmL b)
theorem zLC {fu:Nat} {a b:List UInt8} (hf:1048577≤fu) (ha:a.length≤262144) (hb:b.length≤262144):zCY fu a b=some (txS a b):=by
  have h1:=zG6 a
  have h2:=zG6 b
  unfold zCY txS
  rw [zH9 (by omega) (by omega),zA5,zH9 (by omega) (by omega),zA5,zBK,zNS hf (by omega) (by omega),zA5]
  cases (nrmL a == []) || (nrmL b == []) <;> rfl
theorem zKy {fu:Nat} {a b:List UInt8} (hf:1048577≤fu) (ha:a.length≤262144) (hb:b.length≤262144):zDT fu a b=some (txS a b):=by
  have h1:=zG6 a
  have h2:=zG6 b
  unfold zDT txS
  rw [zHM (by omega) (by omega),zA5,zHM (by omega) (by omega),zA5,zBK,zNf hf (by omega) (by omega),zA5]
  cases (nrmL a == []) || (nrmL b == []) <;> rfl
def jacS (a b:List (List UInt8)):Int:=bif !(tokB a&&tokB b) then 0 else bif ((a.length:Int)+b.length-(zEw a b).length)==(0:Int) then 1000 else ((1000:Int)*((zEw a b).length:Int)).tdiv ((a.length:Int)+b.length-(zEw a b).length)
theorem zMW {fu:Nat} {a b:List (List UInt8)} (hf:1048577≤fu) (ha:a.length≤1000) (hea:∀ t ∈ a,t.length≤1048576) (hb:b.length≤1000) (heb:∀ t ∈ b,t.length≤1048576):zDd fu a b=some (jacS a b):=by
  unfold zDd zD0 jacS
  rw [zLN hf (by omega) hea,zA5,zLN hf (by omega) heb]
  cases h1:tokB a
  · rfl
  · cases h2 : tokB b
    · rfl
    · have hle := zJt a b
      rw [show (true&&(true==true))=true from rfl,zA5,zBK,zA5,zMF (.inr (by omega)) (by omega) (by omega) (zFI h1) (zFI h2),zA5]
      generalize (zEw a b).length=c at hle ⊢
      simp only [Bool.and_self,Bool.not_true,cond_false]
      unfold zDx
      rw [ck_t (zAl (by omega) (by omega)),ck_t (zAl (by omega) (by omega)),ck_t (zAl (by omega) (by omega))]
      cases h0:((a.length:Int)+b.length-(c:Int))==(0:Int)
      · have hne : ((a.length : Int) + b.length - (c : Int)) ≠ 0 := by simpa using h0
        have hq:=zJM (x:=1000*(c:Int)) (y:=(a.length:Int)+b.length-(c:Int)) (by omega) (by omega) hne
        rw [cond_false,cond_false,ck_t (by simpa using hne),ck_t (zAl hq.1 hq.2),zA5]
      · rfl
theorem zMI {fu:Nat} {a b:List (List UInt8)} (hf:1048577≤fu) (ha:a.length≤1000) (hea:∀ t ∈ a,t.length≤1048576) (hb:b.length≤1000) (heb:∀ t ∈ b,t.length≤1048576):zDh fu a b=some (jacS a b):=by
  unfold zDh zEd jacS
  rw [zKm hf (by omega) hea,zA5,zKm hf (by omega) heb]
  cases h1:tokB a
  · rfl
  · cases h2 : tokB b
    · rfl
    · have hle := zJt a b
      have hc:((a.filter fun x=>b.any fun y=>y==x).foldl (putS bLt) [])=zEw a b:=by
        rw [zMQ,zOY (zFI h1)]
        rfl
      have hu:=zMH (zFI h1) (zFI h2)
      rw [show (true&&(true==true))=true from rfl,zA5,zBK,zA5,zJu hf (by omega) (by omega),zA5,zKd hf (by omega) (by omega),zA5,hc,hu]
      generalize (zEw a b).length=c at hle ⊢
      simp only [Bool.and_self,Bool.not_true,cond_false]
      unfold zEL
      cases h0:((a.length:Int)+b.length-(c:Int))==(0:Int)
      · have hne : ((a.length : Int) + b.length - (c : Int)) ≠ 0 := by simpa using h0
        have hq:=zJM (x:=1000*(c:Int)) (y:=(a.length:Int)+b.length-(c:Int)) (by omega) (by omega) hne
        rw [cond_false,cond_false,ck_t (zAl (by omega) (by omega)),ck_t (by simpa using hne),ck_t (zAl hq.1 hq.2),zA5]
      · rfl
def seS (a b:List (List UInt8)):Int:=bif ((a.length:Int)==(0:Int)) || ((b.length:Int)==(0:Int)) then 0 else jacS a b
theorem zL9 {fu:Nat} {a b:List (List UInt8)} (hf:1048577≤fu) (ha:a.length≤1000) (hea:∀ t ∈ a,t.length≤1048576) (hb:b.length≤1000) (heb:∀ t ∈ b,t.length≤1048576):zCi fu a b=some (seS a b):=by
  unfold zCi seS
  rw [zMW hf ha hea hb heb,zBK,zA5]
  cases ((a.length:Int)==(0:Int)) || ((b.length:Int)==(0:Int)) <;> rfl
theorem zKo {fu:Nat} {a b:List (List UInt8)} (hf:1048577≤fu) (ha:a.length≤1000) (hea:∀ t ∈ a,t.length≤1048576) (hb:b.length≤1000) (heb:∀ t ∈ b,t.length≤1048576):zDW fu a b=some (seS a b):=by
  unfold zDW seS
  rw [zMI hf ha hea hb heb,zBK,zA5]
  cases ((a.length:Int)==(0:Int)) || ((b.length:Int)==(0:Int)) <;> rfl
def yrS (p q:Int):Int:=bif decide (0<p)&&decide (0<q) then (1000*(max (10-max (p-q) (q-p)) 0)).tdiv 10 else 0
theorem zPB {fu:Nat} {p q:Int} (hp:1000≤p∧p≤9999) (hq:1000≤q∧q≤9999):zCa fu p q 10=some ((1000*(max (10-max (p-q) (q-p)) 0)).tdiv 10)∧zCh fu p q 10=some ((1000*(max (10-max (p-q) (q-p)) 0)).tdiv 10):=by
  have i1:inI p 0 9999=true:=by unfold inI;rw [decide_eq_true (by omega),decide_eq_true (by omega)];rfl
  have i2:inI q 0 9999=true:=by unfold inI;rw [decide_eq_true (by omega),decide_eq_true (by omega)];rfl
  have i3:inI 10 1 9999=true:=rfl
  have hz:(0:Int)≤max (10-max (p-q) (q-p)) 0∧max (10-max (p-q) (q-p)) 0≤10:=by omega
  have hd:=zJM (x:=1000*(max (10-max (p-q) (q-p)) 0)) (y:=10) (by omega) (by omega) (by decide)
  constructor
  · unfold zCa
    rw [zF2,i1,zA5,zF2,i2,show (true&&((!true)==false))=true from rfl,zA5,zBK,zF2,i3]
    show ck (i64B (p-q)) _=_
    rw [ck_t (zAl (by omega) (by omega)),ck_t (zAl (by omega) (by omega)),ck_t (zAl (by omega) (by omega)),ck_t (zAl (by omega) (by omega)),ck_t (show ((10:Int) != 0)=true from rfl),ck_t (zAl hd.1 hd.2)]
  · unfold zCh zET
    rw [zIN,i1,zA5,zA5,zIN,i2,zA5,show (true&&((!true)==false))=true from rfl,zA5,zBK,zIN,i3]
    show ck (i64B (max p q-min p q)) _=_
    have e:max p q-min p q=max (p-q) (q-p):=by omega
    rw [e] at *
    rw [ck_t (zAl (by omega) (by omega))]
    by_cases h:10≤max (p-q) (q-p)
    · rw [decide_eq_true h, cond_true, show max (10 - max (p - q) (q - p)) 0 = 0 by omega]
      rfl
    · have e2 : max (10 - max (p - q) (q - p)) 0 = 10 - max (p - q) (q - p) := by omega
      rw [e2] at hd ⊢
      rw [decide_eq_false h,cond_false,ck_t (zAl (by omega) (by omega)),ck_t (zAl (by omega) (by omega)),ck_t (show ((10:Int) != 0)=true from rfl),ck_t (zAl hd.1 hd.2)]
theorem zNm {fu:Nat} {a b:List UInt8} {p q:Int} (hp:p=0∨(1000≤p∧p≤9999)) (hq:q=0∨(1000≤q∧q≤9999)) (h1:zBP fu a=some p) (h2:zBP fu b=some q):zD2 fu a b=some (yrS p q):=by
  unfold zD2 yrS
  rw [h1,zA5,h2,zA5,zBK]
  rcases hp with rfl | hp
  · rfl
  · rcases hq with rfl | hq
    · rw [show ((0 : Int) == 0) = true from rfl, Bool.or_true, decide_eq_false (show ¬ (0 : Int) < 0 by omega), Bool.and_false]
      rfl
    · rw [show (p == (0 : Int)) = false by rw [beq_eq_false_iff_ne]; omega, show (q == (0 : Int)) = false by rw [beq_eq_false_iff_ne]; omega, Bool.or_self, cond_false, (zPB hp hq).1, zA5, decide_eq_true (by omega), decide_eq_true (by omega)]
      rfl
def cpL : List UInt8 → List UInt8 → Nat
  | a::x,b::y=>bif a==b then cpL x y+1 else 0
  | _,_=>0
theorem zO2 : ∀ x y : List UInt8, cpL x y ≤ x.length ∧ cpL x y ≤ y.length
  | [],y=>by simp [cpL]
  | a::x,[]=>by simp [cpL]
  | a::x,b::y=>by
    have:=zO2 x y
    unfold cpL
    cases a==b
    · simp
    · rw [cond_true,List.length_cons,List.length_cons];omega
theorem zJ7 : ∀ x y : List UInt8, cpL x y = cpL y x
  | [],[]=>rfl
  | [],_::_=>rfl
  | _::_,[]=>rfl
  | a::x,b::y=>by
    unfold cpL
    rw [zJ7 x y,show (a==b)=(b==a) from Bool.beq_comm]
theorem zKp : ∀ x : List UInt8, cpL x x = x.length
  | []=>rfl
  | a::x=>by
    unfold cpL
    rw [zKp x,beq_self_eq_true]
    rfl
theorem zM1 : ∀ x y : List UInt8, cpL x y = x.length ↔ y.take x.length = x
  | [],y=>by simp [cpL]
  | a::x,[]=>by simp [cpL]
  | a::x,b::y=>by
    have ih:=zM1 x y
    unfold cpL
    cases h:a==b
    · rw [cond_false]
      constructor
      · intro h2;simp at h2
      · intro h2
        have h3:a ≠ b:=by simpa using h
        simp at h2
        exact absurd h2.1.symm h3
    · have h3 : a = b := by simpa using h
      subst h3
      rw [cond_true,List.length_cons,List.take_succ_cons]
      constructor
      · intro h2;rw [ih.1 (by omega)]
      · intro h2
        injection h2 with _ h2
        rw [ih.2 h2]
def csL (x y:List UInt8):Nat:=cpL x.reverse y.reverse
theorem zKJ {x y:List UInt8}:csL x y=x.length ↔ y.drop (y.length-x.length)=x∧x.length≤y.length:=by
  unfold csL
  have:=zM1 x.reverse y.reverse
  rw [List.length_reverse] at this
  rw [this]
  constructor
  · intro h
    have hl:=congrArg List.length h
    rw [List.length_take,List.length_reverse,List.length_reverse] at hl
    have h2:=congrArg List.reverse h
    rw [List.reverse_reverse,List.reverse_take,List.reverse_reverse,List.length_reverse] at h2
    exact ⟨h2,by omega⟩
  · rintro ⟨h, hle⟩
    have h2:=congrArg List.reverse h
    rw [List.reverse_drop] at h2
    rw [← h2]
    congr 1
    omega
theorem zLz {x:List UInt8} {i:Nat} (h:i<x.length):bAt x (((x.length:Int)-1)-(i:Int))=(((x.reverse[i]'(by rw [List.length_reverse];exact h)).toNat:Nat):Int):=by
  rw [show ((x.length:Int)-1)-(i:Int)=((x.length-1-i:Nat):Int) by omega,zDl (List.getElem?_eq_getElem (show x.length-1-i<x.length by omega)),List.getElem_reverse]
theorem zIh {x:List UInt8} {i:Nat} (h:i<x.length):x.drop i=x[i]::x.drop (i+1):=List.drop_eq_getElem_cons h
theorem zMD {c d:UInt8}:(((c.toNat:Int))==(d.toNat:Int))=(c==d):=by
  by_cases h:c=d
  · subst h;simp
  · rw [zHl h,beq_eq_false_iff_ne.2 h]
theorem phL {x y : List UInt8} {L : Nat → Int → Option Int} (hx : x.length ≤ 1048576) (hy : y.length ≤ 1048576)
    (hL : ∀ k (i : Int), L (k + 1) i = (
      bd ((decide (i<(x.length:Int)))&&(decide (i<(y.length:Int)))) fun x11=>
      ck (!(true&&(x11==true)) || i64B ((x.length:Int)-(1:Int))) <|
      ck (!(true&&(x11==true)) || i64B (((x.length:Int)-(1:Int))-i)) <|
      ck (!(true&&(x11==true)) || inR (((x.length:Int)-(1:Int))-i) x.length) <|
      ck (!(true&&(x11==true)) || i64B ((y.length:Int)-(1:Int))) <|
      ck (!(true&&(x11==true)) || i64B (((y.length:Int)-(1:Int))-i)) <|
      ck (!(true&&(x11==true)) || inR (((y.length:Int)-(1:Int))-i) y.length) <|
      bd (x11&&((bAt x (((x.length:Int)-(1:Int))-i))==(bAt y (((y.length:Int)-(1:Int))-i)))) fun x19=>
      bif x19 then (ck (i64B (i+(1:Int)))<|L k (i+(1:Int))) else (some i))) :
    ∀ m i k,i+m=min x.length y.length→m<k→L k (i:Int)=some ((i+cpL (x.reverse.drop i) (y.reverse.drop i):Nat):Int):=by
  intro m
  induction m with
  | zero=>
    intro i k hi hk
    obtain ⟨k,rfl⟩:∃ q,k=q+1:=⟨k-1,by omega⟩
    have hf:(decide ((i:Int)<(x.length:Int))&&decide ((i:Int)<(y.length:Int)))=false:=by
      rw [Bool.and_eq_false_iff,decide_eq_false_iff_not,decide_eq_false_iff_not]
      omega
    have h0:cpL (x.reverse.drop i) (y.reverse.drop i)=0:=by
      have:=zO2 (x.reverse.drop i) (y.reverse.drop i)
      rw [List.length_drop,List.length_drop,List.length_reverse,List.length_reverse] at this
      omega
    rw [hL,hf,h0]
    rfl
  | succ m ih=>
    intro i k hi hk
    obtain ⟨k,rfl⟩:∃ q,k=q+1:=⟨k-1,by omega⟩
    have hix:i<x.length:=by omega
    have hiy:i<y.length:=by omega
    have i1:i64B ((x.length:Int)-1)=true:=zAl (by omega) (by omega)
    have i2:i64B (((x.length:Int)-1)-(i:Int))=true:=zAl (by omega) (by omega)
    have i3:inR (((x.length:Int)-1)-(i:Int)) x.length=true:=zDP.2 ⟨by omega,by omega⟩
    have i4:i64B ((y.length:Int)-1)=true:=zAl (by omega) (by omega)
    have i5:i64B (((y.length:Int)-1)-(i:Int))=true:=zAl (by omega) (by omega)
    have i6:inR (((y.length:Int)-1)-(i:Int)) y.length=true:=zDP.2 ⟨by omega,by omega⟩
    rw [hL,lt_t hix,lt_t hiy,zBK,i1,i2,i3,i4,i5,i6,zLz hix,zLz hiy,zMD,zBK]
    rw [zIh (x:=x.reverse) (by rw [List.length_reverse];exact hix),zIh (x:=y.reverse) (by rw [List.length_reverse];exact hiy),cpL]
    simp only [Bool.or_true,zCL,Bool.and_self,Bool.true_and]
    cases (x.reverse[i]'(by rw [List.length_reverse];exact hix)==y.reverse[i]'(by rw [List.length_reverse];exact hiy))
    · rfl
    · rw [cond_true, cond_true, zBH, ck_t (zCg (by omega)), ih (i + 1) k (by omega) (by omega)]
      congr 2
      omega
def phS (x y:List UInt8):Int:=bif (decide (x.length<4) || decide (y.length<4)) || decide (csL x y<4) then 0 else bif x==y then 1000 else bif (decide (7≤csL x y) || decide (csL x y=x.length)) || decide (csL x y=y.length) then 800 else 400
theorem decN {a b:Nat}:decide ((a:Int)<(b:Int))=decide (a<b):=by
  by_cases h:a<b
  · rw [decide_eq_true h,decide_eq_true (by omega)]
  · rw [decide_eq_false h,decide_eq_false (by omega)]
theorem decL {a b:Nat}:decide ((a:Int)≤(b:Int))=decide (a≤b):=by
  by_cases h:a≤b
  · rw [decide_eq_true h,decide_eq_true (by omega)]
  · rw [decide_eq_false h,decide_eq_false (by omega)]
theorem beqN {a b:Nat}:((a:Int)==(b:Int))=decide (a=b):=by
  by_cases h:a=b
  · rw [decide_eq_true h,h];simp
  · rw [decide_eq_false h,beq_eq_false_iff_ne];omega
theorem zP2 {x y:List UInt8}:(x==y)=(decide (csL x y=x.length)&&decide (csL x y=y.length)):=by
  rw [Bool.eq_iff_iff,beq_iff_eq,Bool.and_eq_true,decide_eq_true_eq,decide_eq_true_eq]
  constructor
  · rintro rfl
    unfold csL
    rw [zKp,List.length_reverse]
    exact ⟨rfl,rfl⟩
  · rintro ⟨h1, h2⟩
    have:=(zKJ.1 h1).1
    rw [show y.length-x.length=0 by omega,List.drop_zero] at this
    exact this.symm
theorem zLD {fu:Nat} {x y:List UInt8} (hx:x.length≤1048576) (hy:y.length≤1048576):zBi fu x y=some (decide (csL x y=y.length)):=by
  unfold zBi zAY
  have hc:csL x y=csL y x:=zJ7 _ _
  rw [hc,decL]
  by_cases h:y.length≤x.length
  · have e:subL x ((x.length:Int)-(y.length:Int)) (x.length:Int)=x.drop (x.length-y.length):=by
      rw [show ((x.length:Int)-(y.length:Int))=((x.length-y.length:Nat):Int) by omega,zHy]
    rw [decide_eq_true h,zAl (show -9223372036854775808≤(x.length:Int)-(y.length:Int) by omega) (by omega),zBf.2 (show (0:Int)≤(x.length:Int)-(y.length:Int)∧(x.length:Int)-(y.length:Int)≤(x.length:Int)∧(x.length:Int)≤(x.length:Int) by omega),e,zBK]
    simp only [Bool.or_true,zCL,Bool.true_and,zA5]
    congr 1
    rw [Bool.eq_iff_iff,beq_iff_eq,decide_eq_true_eq,zKJ]
    exact ⟨fun h1=>⟨h1,h⟩,fun h1=>h1.1⟩
  · rw [decide_eq_false h, decide_eq_false (fun h1 => h (zKJ.1 h1).2)]
    rfl
theorem zNd {fu:Nat} {a b:List UInt8} (hf:1048577≤fu) (ha:a.length≤1048576) (hb:b.length≤1048576):zCp fu a b=some (phS (dgL a) (dgL b)):=by
  have h1:=zIz a
  have h2:=zIz b
  unfold zCp phS
  rw [zL5 (by omega) ha,zA5,zL5 (by omega) hb,zA5]
  generalize dgL a=x at h1 ⊢
  generalize dgL b=y at h2 ⊢
  have hl:=phL (x:=x) (y:=y) (L:=zBL fu x y) (by omega) (by omega) (fun k i=>by rw [zBL]) (min x.length y.length) 0 fu (by omega) (by omega)
  rw [List.drop_zero,List.drop_zero,Nat.zero_add] at hl
  have hl:zBL fu x y fu (0:Int)=some ((csL x y:Nat):Int):=hl
  rw [hl,zA5,zBK,zBK,show decide ((x.length:Int)<(4:Int))=decide (x.length<4) from decN (b:=4),show decide ((y.length:Int)<(4:Int))=decide (y.length<4) from decN (b:=4),show decide (((csL x y:Nat):Int)<(4:Int))=decide (csL x y<4) from decN (b:=4),show decide ((7:Int)≤((csL x y:Nat):Int))=decide (7≤csL x y) from decL (a:=7),zLD (by omega) (by omega),zLD (by omega) (by omega),show csL y x=csL x y from zJ7 _ _]
  generalize decide (csL x y=x.length)=p
  generalize decide (csL x y=y.length)=q
  generalize decide (7≤csL x y)=s
  generalize ((decide (x.length<4) || decide (y.length<4)) || decide (csL x y<4))=t
  generalize (x==y)=e
  cases t <;> cases e <;> cases s <;> cases p <;> cases q <;> rfl
theorem zNL {fu:Nat} {a b:List UInt8} (hf:1048577≤fu) (ha:a.length≤1048576) (hb:b.length≤1048576):zCv fu a b=some (phS (dgL a) (dgL b)):=by
  have h1:=zIz a
  have h2:=zIz b
  unfold zCv phS
  rw [zL8 (by omega) ha,zA5,zL8 (by omega) hb,zA5]
  generalize dgL a=x at h1 ⊢
  generalize dgL b=y at h2 ⊢
  have hl:=phL (x:=x) (y:=y) (L:=zBI fu x y) (by omega) (by omega) (fun k i=>by rw [zBI]) (min x.length y.length) 0 fu (by omega) (by omega)
  rw [List.drop_zero,List.drop_zero,Nat.zero_add] at hl
  have hl:zBI fu x y fu (0:Int)=some ((csL x y:Nat):Int):=hl
  rw [hl,zA5,zBK,zBK,zBK,zBK,zBK,show decide ((x.length:Int)<(4:Int))=decide (x.length<4) from decN (b:=4),show decide ((y.length:Int)<(4:Int))=decide (y.length<4) from decN (b:=4),show decide (((csL x y:Nat):Int)<(4:Int))=decide (csL x y<4) from decN (b:=4),show decide ((7:Int)≤((csL x y:Nat):Int))=decide (7≤csL x y) from decL (a:=7),beqN,beqN,← zP2]
  generalize decide (csL x y=x.length)=p
  generalize decide (csL x y=y.length)=q
  generalize decide (7≤csL x y)=s
  generalize ((decide (x.length<4) || decide (y.length<4)) || decide (csL x y<4))=t
  generalize (x==y)=e
  cases t <;> cases e <;> cases s <;> cases p <;> cases q <;> rfl
def ftL (a0 a1 a3:List UInt8) (p:Int) (b0 b1 b3:List UInt8) (q:Int):List Int:=[txS a0 b0,seS (tokL a0) (tokL b0),seS (skL a0) (skL b0),txS a1 b1,yrS p q,phS (dgL a3) (dgL b3)]
theorem pf_t {r s : RecT} (hr : zMy r) (hs : zMy s) (h1 : recB r = true) (h2 : recB s = true) : ∃ (a0 a1 a2 a3 b0 b1 b2 b3 : List UInt8) (p q : Int), r.2.2.2 = [a0, a1, a2, a3] ∧ s.2.2.2 = [b0, b1, b2, b3] ∧ (a0.length ≤ 40 ∧ a1.length ≤ 40 ∧ a2.length ≤ 40 ∧ a3.length ≤ 40) ∧ (b0.length ≤ 40 ∧ b1.length ≤ 40 ∧ b2.length ≤ 40 ∧ b3.length ≤ 40) ∧ (p = 0 ∨ (1000 ≤ p ∧ p ≤ 9999)) ∧ (q = 0 ∨ (1000 ≤ q ∧ q ≤ 9999)) ∧ YrI a2 p ∧ YrI b2 q ∧
    ∀ fu,1048577≤fu→zAr fu r s=some (ftL a0 a1 a3 p b0 b1 b3 q)∧zB1 fu r s=some (ftL a0 a1 a3 p b0 b1 b3 q):=by
  obtain ⟨a0,a1,a2,a3,ea,ha0,ha1,ha2,ha3⟩:=zIq h1
  obtain ⟨b0,b1,b2,b3,eb,hb0,hb1,hb2,hb3⟩:=zIq h2
  obtain ⟨p,hp,hpy,hpp⟩:=zOE (s:=a2) (by omega)
  obtain ⟨q,hq,hqy,hqq⟩:=zOE (s:=b2) (by omega)
  refine ⟨a0,a1,a2,a3,b0,b1,b2,b3,p,q,ea,eb,⟨ha0,ha1,ha2,ha3⟩,⟨hb0,hb1,hb2,hb3⟩,hp,hq,hpy,hqy,fun fu hf=>?_⟩
  have ta:=zGy a0
  have tb:=zGy b0
  have sa:=zMz a0
  have sb:=zMz b0
  have ma:∀ t ∈ tokL a0,t.length≤1048576:=fun t ht=>by have:=(zHn ht).2.1;omega
  have mb:∀ t ∈ tokL b0,t.length≤1048576:=fun t ht=>by have:=(zHn ht).2.1;omega
  have na:∀ t ∈ skL a0,t.length≤1048576:=fun t ht=>by have:=zMO ht;omega
  have nb:∀ t ∈ skL b0,t.length≤1048576:=fun t ht=>by have:=zMO ht;omega
  have i0:∀ w x y z:List UInt8,inR (0:Int) ([w,x,y,z]:List (List UInt8)).length=true:=fun _ _ _ _=>rfl
  have i1:∀ w x y z:List UInt8,inR (1:Int) ([w,x,y,z]:List (List UInt8)).length=true:=fun _ _ _ _=>rfl
  have i2:∀ w x y z:List UInt8,inR (2:Int) ([w,x,y,z]:List (List UInt8)).length=true:=fun _ _ _ _=>rfl
  have i3:∀ w x y z:List UInt8,inR (3:Int) ([w,x,y,z]:List (List UInt8)).length=true:=fun _ _ _ _=>rfl
  have g0:∀ w x y z:List UInt8,gtD [w,x,y,z] (0:Int)=w:=fun _ _ _ _=>rfl
  have g1:∀ w x y z:List UInt8,gtD [w,x,y,z] (1:Int)=x:=fun _ _ _ _=>rfl
  have g2:∀ w x y z:List UInt8,gtD [w,x,y,z] (2:Int)=y:=fun _ _ _ _=>rfl
  have g3:∀ w x y z:List UInt8,gtD [w,x,y,z] (3:Int)=z:=fun _ _ _ _=>rfl
  constructor
  · unfold zAr zE0
    rw [zGr hf hr,h1,zA5,zGr hf hs,h2]
    rw [ea,eb]
    simp only [i0,i1,i2,i3,g0,g1,g2,g3,zCL]
    have e1:=zLC (fu:=fu) (a:=a0) (b:=b0) hf (by omega) (by omega)
    have e2:=zHu (fu:=fu) (s:=a0) hf (by omega)
    have e3:=zHu (fu:=fu) (s:=b0) hf (by omega)
    have e4:=zL9 (fu:=fu) (a:=tokL a0) (b:=tokL b0) hf (by omega) ma (by omega) mb
    have e5:=zLM (fu:=fu) (s:=a0) hf (by omega)
    have e6:=zLM (fu:=fu) (s:=b0) hf (by omega)
    have e7:=zL9 (fu:=fu) (a:=skL a0) (b:=skL b0) hf (by omega) na (by omega) nb
    have e8:=zLC (fu:=fu) (a:=a1) (b:=b1) hf (by omega) (by omega)
    have e9:=zNm hp hq (hpp fu hf).1 (hqq fu hf).1
    have e10:=zNd (fu:=fu) (a:=a3) (b:=b3) hf (by omega) (by omega)
    simp only [e1,e2,e3,e4,e5,e6,e7,e8,e9,e10,zA5,zBK,Bool.not_true,Bool.or_self,cond_false,show (true&&(false==false))=true from rfl]
    rfl
  · unfold zB1
    rw [zH5 hf hr,h1,zA5,zH5 hf hs,h2]
    rw [ea,eb]
    simp only [i0,i1,i2,i3,g0,g1,g2,g3,zCL]
    have e1:=zKy (fu:=fu) (a:=a0) (b:=b0) hf (by omega) (by omega)
    have e2:=zHt (fu:=fu) (s:=a0) hf (by omega)
    have e3:=zHt (fu:=fu) (s:=b0) hf (by omega)
    have e4:=zKo (fu:=fu) (a:=tokL a0) (b:=tokL b0) hf (by omega) ma (by omega) mb
    have e5:=zLJ (fu:=fu) (s:=a0) hf (by omega)
    have e6:=zLJ (fu:=fu) (s:=b0) hf (by omega)
    have e7:=zKo (fu:=fu) (a:=skL a0) (b:=skL b0) hf (by omega) na (by omega) nb
    have e8:=zKy (fu:=fu) (a:=a1) (b:=b1) hf (by omega) (by omega)
    have e9:=(hpp fu hf).2
    have e9':=(hqq fu hf).2
    have e10:=zNL (fu:=fu) (a:=a3) (b:=b3) hf (by omega) (by omega)
    simp only [e1,e2,e3,e4,e5,e6,e7,e8,e9,e9',e10,zA5,zBK,Bool.not_true,Bool.or_self,cond_false,show (true&&(false==false))=true from rfl]
    unfold ftL yrS
    cases hpq:decide (0<p)&&decide (0<q)
    · rfl
    · rw [Bool.and_eq_true, decide_eq_true_eq, decide_eq_true_eq] at hpq
      rw [cond_true,(zPB (by omega) (by omega)).2,zA5]
      rfl
theorem zI4 {a0 a1:RecT} (h0:(qP qI (qP qI (qP qI (qS qB)))) a0) (h1:(qP qI (qP qI (qP qI (qS qB)))) a1) (hw:zCC a0+zCC a1≤1048576):∃ r:List Int,zB1 1048577 a0 a1=some r∧zAr 1048577 a0 a1=some r∧zG3 r≤1048576:=by
  have k0:=zM8 (r:=a0) (by omega)
  have k1:=zM8 (r:=a1) (by omega)
  cases hb:recB a0&&recB a1
  · refine ⟨[], ?_, ?_, by decide⟩
    · unfold zB1
      rw [zH5 (Nat.le_refl _) k0,zA5,zH5 (Nat.le_refl _) k1]
      revert hb
      cases recB a0 <;> cases recB a1 <;> intro hb <;> first | rfl | cases hb
    · unfold zAr
      rw [zGr (Nat.le_refl _) k0,zA5,zGr (Nat.le_refl _) k1]
      revert hb
      cases recB a0 <;> cases recB a1 <;> intro hb <;> first | rfl | cases hb
  · rw [Bool.and_eq_true] at hb
    obtain ⟨x0,x1,x2,x3,y0,y1,y2,y3,p,q,_,_,_,_,_,_,_,_,h⟩:=pf_t k0 k1 hb.1 hb.2
    exact ⟨_,(h _ (Nat.le_refl _)).2,(h _ (Nat.le_refl _)).1,by unfold zG3 wL ftL;simp⟩
end Go.Proofs.YtcodfkieaoomnaaGreatDoor
