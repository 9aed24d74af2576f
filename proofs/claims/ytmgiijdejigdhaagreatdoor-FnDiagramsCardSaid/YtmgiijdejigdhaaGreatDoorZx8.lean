/- Own texts laid together. No statement of the seat is proved here. -/
import Derived.Test.YtmgiijdejigdhaaGreatDoorZx7
import Derived.Lib.SplitLaws
import Derived.Lib.AtoiAll
namespace Go.Proofs.YtmgiijdejigdhaaGreatDoor
open Go.RowKit
set_option linter.unusedVariables false
set_option linter.unusedSimpArgs false
theorem zPg:∀ d:Nat,d<10->strB [IntKind.u8.wrap ((48:Int)+(d:Int))] = [UInt8.ofNat (48+d)]:=by
  intro d hd
  have:∀ d:Fin 10,strB [IntKind.u8.wrap ((48:Int)+((d.val:Nat):Int))] = [UInt8.ofNat (48+d.val)]:=by decide
  exact this ⟨d,hd⟩
theorem zNU (n:Int):(if n.tmod 10<0 then 0-n.tmod 10 else n.tmod 10)=((n.natAbs % 10:Nat):Int)/\(n.tdiv 10).natAbs=n.natAbs / 10:=by
  cases n with
  | ofNat u=>
    have h1:(Int.ofNat u).tmod 10=((u % 10:Nat):Int):=rfl
    have h2:(Int.ofNat u).tdiv 10=((u / 10:Nat):Int):=rfl
    rw [h1,h2]
    refine ⟨?_,?_⟩
    . rw [if_neg (by omega)];rfl
    . rw [Int.natAbs_natCast];rfl
  | negSucc u=>
    have h1:(Int.negSucc u).tmod 10 = -(((u+1) % 10:Nat):Int):=rfl
    have h2:(Int.negSucc u).tdiv 10 = -(((u+1) / 10:Nat):Int):=rfl
    rw [h1,h2,show (Int.negSucc u).natAbs=u+1 from rfl]
    refine ⟨?_,?_⟩
    . split <;> omega
    . rw [Int.natAbs_neg,Int.natAbs_natCast]
def decT (u:Nat):List UInt8:=if u=0 then [] else Lib.decDigits u
theorem zM3 (u:Nat) (h:u ≠ 0):decT u=decT (u / 10) ++ [UInt8.ofNat (48+u % 10)]:=by
  unfold decT
  rw [if_neg h,Lib.decDigits]
  by_cases h10:u<10
  . rw [dif_pos h10,if_pos (by omega),List.nil_append,Nat.mod_eq_of_lt h10]
  . rw [dif_neg h10,if_neg (by omega)]
theorem zMk (k u:Nat) (h:u<10 ^ (k+1)):(decT u).length<=k+1:=by
  unfold decT
  split
  . simp
  . exact zEw k u h
theorem zII {fu : Nat} : ∀ (k : Nat) (n : Int) (acc : List UInt8), n.natAbs < 10 ^ k -> n.natAbs <= 9223372036854775808 -> acc.length + k <= 1000 -> ∀ q, k < q -> zBn fu q n acc = some (decT n.natAbs ++ acc)
  | 0,n,acc,h,hn,hl,q,hq=>by
    obtain ⟨q,rfl⟩:∃ z,q=z+1:=⟨q-1,by omega⟩
    have:n=0:=by rw [Nat.pow_zero] at h;omega
    subst this
    rw [zBn]
    rfl
  | k+1,n,acc,h,hn,hl,q,hq=>by
    obtain ⟨q,rfl⟩:∃ z,q=z+1:=⟨q-1,by omega⟩
    by_cases h0:n=0
    . subst h0
      rw [zBn]
      rfl
    . obtain ⟨h1, h2⟩ := zNU n
      have hm:n.natAbs % 10<10:=Nat.mod_lt _ (by omega)
      have hu:n.natAbs ≠ 0:=by omega
      have hd:=zPg (n.natAbs % 10) hm
      have ih:=zII (fu:=fu) k (n.tdiv 10) ([UInt8.ofNat (48+n.natAbs % 10)]++acc) (by rw [h2];rw [Nat.pow_succ] at h;omega) (by rw [h2];omega) (by simp;omega) q (by omega)
      have hr:-9223372036854775808<=n.tdiv 10/\n.tdiv 10<=9223372036854775807:=by
        generalize n.tdiv 10=z at h2
        omega
      have hlen:zBu (([UInt8.ofNat (48+n.natAbs % 10)]:List UInt8)++acc).length=true:=zDg (by simp;omega)
      have fin:decT (n.tdiv 10).natAbs++([UInt8.ofNat (48+n.natAbs % 10)]++acc)=decT n.natAbs++acc:=by rw [h2,zM3 _ hu,List.append_assoc]
      rw [zBn,show (n != (0:Int))=true from by simpa using h0,cond_true,ck_t (show ((10:Int) != 0)=true from rfl)]
      by_cases ht:n.tmod 10<0
      . rw [if_pos ht] at h1
        rw [decide_eq_true ht,cond_true,h1,ck_t (zBt (by omega) (by omega)),ck_t (zBt (by omega) (by omega)),hd,ck_t hlen,ck_t (show ((10:Int) != 0)=true from rfl),ck_t (zBt hr.1 hr.2),ih,fin]
      . rw [if_neg ht] at h1
        rw [decide_eq_false ht,cond_false,h1,ck_t (zBt (by omega) (by omega)),hd,ck_t hlen,ck_t (show ((10:Int) != 0)=true from rfl),ck_t (zBt hr.1 hr.2),ih,fin]
theorem zFU {fu:Nat} {n:Int} (hf:1048577<=fu) (h0:-9223372036854775808<=n) (h1:n<=9223372036854775807):zAj fu n=some (Lib.itoa n):=by
  unfold zAj
  by_cases hz:n=0
  . subst hz
    rw [show ((0:Int)==0)=true from rfl,cond_true]
    unfold Lib.itoa
    rw [if_neg (by decide),show (0:Int).toNat=0 from rfl,Lib.decDigits,dif_pos (by decide)]
    rfl
  . have hd := zII (fu := fu) 20 n [] (by omega) (by omega) (by simp) fu (by omega)
    have hl:=zMk 19 n.natAbs (by omega)
    rw [List.append_nil] at hd
    have hu:n.natAbs ≠ 0:=by omega
    have e:decT n.natAbs=Lib.decDigits n.natAbs:=if_neg hu
    rw [show (n==(0:Int))=false from by simpa using hz,cond_false,hd,zAI]
    unfold Lib.itoa
    by_cases hneg:n<0
    . rw [decide_eq_true hneg, cond_true, if_pos hneg, ck_t (zDg (by simp; omega)), e]
      rfl
    . rw [decide_eq_false hneg,cond_false,if_neg hneg,e,show n.natAbs=n.toNat from by omega]
theorem zHI {fu:Nat} {n:Int} (h0:-9223372036854775808<=n) (h1:n<=9223372036854775807):zCC fu n=some (Lib.itoa n):=by
  unfold zCC zMN
  rw [ck_t (zBt h0 h1)]
  rfl
theorem zGY {fu:Nat} {n:Int} (h0:0<=n) (h1:n<=5):zBf fu n=some (gtD zCU n):=by
  unfold zBf
  rw [show zC7 fu n 0 5=some (decide (0<=n)&&decide (n<=5)) from rfl,zAI,decide_eq_true h0,decide_eq_true h1,Bool.and_self,Bool.not_true,cond_false,ck_t (zDb.2 ⟨h0,by show n<6;omega⟩)]
  rfl
theorem zNk {n:Int} (h0:0<=n) (h1:n<=5):inR n zCU.length=true:=zDb.2 ⟨h0,by show n<6;omega⟩
theorem zFT (n:Int):(gtD zCU n).length<=6:=by
  unfold gtD
  have:∀ k:Nat,(zCU.getD k default).length<=6:=fun k=>by
    match k with
    | 0=>decide
    | 1=>decide
    | 2=>decide
    | 3=>decide
    | 4=>decide
    | 5=>decide
    | k+6=>rw [List.getD_eq_getElem?_getD,List.getElem?_eq_none (by show 6<=k+6;omega)];decide
  exact this _
theorem zBI {l:List UInt8} (h:l.length<=1000000):zBu l.length=true:=zDg (by omega)
def jn (sep : List UInt8) : List (List UInt8) -> List UInt8
  | []=>[]
  | x::xs=>x++(xs.map (sep ++ ·)).flatten
theorem zKG (sep:List UInt8) (xs:List (List UInt8)) (x:List UInt8) (h:xs ≠ []):jn sep (xs ++ [x])=jn sep xs++sep++x:=by
  cases xs with
  | nil=>exact (h rfl).elim
  | cons y ys=>simp [jn,List.append_assoc]
theorem zLF (sep x:List UInt8):jn sep [x]=x:=by simp [jn]
theorem zPV (sep : List UInt8) (m : Nat) : ∀ (xs : List (List UInt8)), (∀ x ∈ xs, x.length <= m) -> (jn sep xs).length <= xs.length * (m + sep.length)
  | [],h=>by simp [jn]
  | x::xs,h=>by
    unfold jn
    have hx:=h x List.mem_cons_self
    have key:∀ ys:List (List UInt8),(∀ y ∈ ys,y.length<=m)->((ys.map (sep ++ ·)).flatten).length<=ys.length*(m+sep.length):=by
      intro ys hy
      induction ys with
      | nil=>simp
      | cons y ys ih=>
        have h1:=hy y List.mem_cons_self
        have h2:=ih fun z hz=>hy z (List.mem_cons_of_mem _ hz)
        rw [List.map_cons,List.flatten_cons,List.length_append,List.length_append,List.length_cons,Nat.add_mul,Nat.one_mul]
        omega
    have:=key xs fun z hz=>h z (List.mem_cons_of_mem _ hz)
    rw [List.length_append,List.length_cons,Nat.add_mul,Nat.one_mul]
    omega
theorem zDi {n:Int} (h0:-9223372036854775808<=n) (h1:n<=9223372036854775807):(Lib.itoa n).length<=21:=zKy h0 h1
def zDa (t:TTst):List UInt8:=gtD zCU t.1++(bif t.2.2 then [60] else [62,61])++Lib.itoa t.2.1
theorem zMf {t:TTst} (h:(0<=t.1/\t.1<=5)/\1<=t.2.1/\t.2.1<=1000):(zDa t).length<=30:=by
  have e2:=zDi (n:=t.2.1) (by omega) (by omega)
  have e5:=zFT t.1
  unfold zDa
  cases t.2.2 <;> simp <;> omega
def zER (l:List TTst):List UInt8:=jn [44] (l.map zDa)
theorem zMC {l:List TTst} (h3:l.length<=3) (hb:∀ t ∈ l,(0<=t.1/\t.1<=5)/\1<=t.2.1/\t.2.1<=1000):(zER l).length<=93:=by
  have:=zPV [44] 30 (l.map zDa) (fun x hx=>by
    obtain ⟨t,ht,rfl⟩:=List.mem_map.1 hx
    exact zMf (hb t ht))
  rw [List.length_map] at this
  unfold zER
  simp at this
  omega
theorem zMW {fu : Nat} {r : List (List TTst)} {l : List TTst} {i : Nat} {acc : List UInt8} (hl : r[i]? = some l) (hf : 1048577 <= fu) (h3 : l.length <= 3) (hb : ∀ t ∈ l, (0 <= t.1 /\ t.1 <= 5) /\ 1 <= t.2.1 /\ t.2.1 <= 1000) (ha : acc.length <= 1000) :
    zAt fu r (i:Int) fu acc (0:Int)=some (acc++jn [44] (l.map zDa)):=by
  have hi:=zDd hl
  have hg:=zAw hl
  have key:∀ m j k (a:List UInt8),j+m=l.length->m<k->a=acc++jn [44] ((l.map zDa).take j)->a.length<=1000+40*j->zAt fu r (i:Int) k a (j:Int)=some (acc++jn [44] (l.map zDa)):=by
    intro m
    induction m with
    | zero=>
      intro j k a hj hk he hal
      obtain ⟨k,rfl⟩:∃ q,k=q+1:=⟨k-1,by omega⟩
      obtain rfl:j=l.length:=by omega
      rw [zAt,ck_t (zC2 hi),hg,lt_f,cond_false,he,List.take_of_length_le (by simp)]
    | succ m ih=>
      intro j k a hj hk he hal
      obtain ⟨k,rfl⟩:∃ q,k=q+1:=⟨k-1,by omega⟩
      have hlt:j<l.length:=by omega
      have hgj:gtD l (j:Int)=l[j]:=zAw (List.getElem?_eq_getElem hlt)
      have hq:=hb l[j] (List.getElem_mem hlt)
      have e2:=zDi (n:=l[j].2.1) (by omega) (by omega)
      have e5:=zFT l[j].1
      have ht:(l.map zDa).take (j+1)=(l.map zDa).take j ++ [zDa l[j]]:=by rw [List.take_add_one,List.getElem?_map,List.getElem?_eq_getElem hlt];rfl
      rw [zAt,ck_t (zC2 hi),hg,lt_t hlt,cond_true,ck_t (zC2 hi),ck_t (zC2 hlt),hgj,zFU hf (by omega) (by omega),zGY (by omega) (by omega)]
      rcases Nat.eq_zero_or_pos j with rfl | hp
      . have h0 : a = acc := by rw [he]; simp [jn]
        subst h0
        rw [show decide ((0:Int)<((0:Nat):Int))=false from rfl,cond_false,zAI,ck_t (zBI (by simp only [List.length_append,List.length_cons,List.length_nil];omega))]
        have nx:zAt fu r (i:Int) k (a++zDa l[0]) ((0+1:Nat):Int)=some (a++jn [44] (l.map zDa)):=by
          refine ih 1 k _ (by omega) (by omega) ?_ (by unfold zDa;cases l[0].2.2 <;> simp <;> omega)
          rw [ht,List.take_zero,List.nil_append,zLF]
        rw [<- nx]
        unfold zDa
        cases l[0].2.2
        . rw [cond_false, ck_t (zBI (by simp only [List.length_append, List.length_cons, List.length_nil]; omega)), zAI, ck_t (zBI (by simp only [List.length_append, List.length_cons, List.length_nil]; omega)), ck_t (zCG (by omega)), zBj]
          simp only [List.append_assoc,cond_false]
        . rw [cond_true, ck_t (zBI (by simp only [List.length_append, List.length_cons, List.length_nil]; omega)), zAI, ck_t (zBI (by simp only [List.length_append, List.length_cons, List.length_nil]; omega)), ck_t (zCG (by omega)), zBj]
          simp only [List.append_assoc,cond_true]
      . rw [show decide ((0 : Int) < (j : Int)) = true from decide_eq_true (by omega), cond_true, ck_t (zBI (by simp only [List.length_append, List.length_cons, List.length_nil]; omega)), zAI, ck_t (zBI (by simp only [List.length_append, List.length_cons, List.length_nil]; omega))]
        have nx:zAt fu r (i:Int) k (a ++ [44]++zDa l[j]) ((j+1:Nat):Int)=some (acc++jn [44] (l.map zDa)):=by
          refine ih (j+1) k _ (by omega) (by omega) ?_ (by unfold zDa;cases l[j].2.2 <;> simp <;> omega)
          rw [ht, zKG _ _ _ (by
            intro hz
            have:=congrArg List.length hz
            rw [List.length_take,List.length_map,List.length_nil] at this
            omega),he]
          simp only [List.append_assoc]
        rw [<- nx]
        unfold zDa
        cases l[j].2.2
        . rw [cond_false, ck_t (zBI (by simp only [List.length_append, List.length_cons, List.length_nil]; omega)), zAI, ck_t (zBI (by simp only [List.length_append, List.length_cons, List.length_nil]; omega)), ck_t (zCG (by omega)), zBj]
          simp only [List.append_assoc,cond_false]
        . rw [cond_true, ck_t (zBI (by simp only [List.length_append, List.length_cons, List.length_nil]; omega)), zAI, ck_t (zBI (by simp only [List.length_append, List.length_cons, List.length_nil]; omega)), ck_t (zCG (by omega)), zBj]
          simp only [List.append_assoc,cond_true]
  have:=key l.length 0 fu acc (by omega) (by omega) (by simp [jn]) (by omega)
  rwa [show ((0:Nat):Int)=0 from rfl] at this
theorem zMQ {fu : Nat} {r : List (List TTst)} {l : List TTst} {i : Nat} {acc : List UInt8} (hl : r[i]? = some l) (hf : 1048577 <= fu) (h3 : l.length <= 3) (hb : ∀ t ∈ l, (0 <= t.1 /\ t.1 <= 5) /\ 1 <= t.2.1 /\ t.2.1 <= 1000) (ha : acc.length <= 1000) :
    zAu fu r (i:Int) fu acc (0:Int)=some (acc++jn [44] (l.map zDa)):=by
  have hi:=zDd hl
  have hg:=zAw hl
  have key:∀ m j k (a:List UInt8),j+m=l.length->m<k->a=acc++jn [44] ((l.map zDa).take j)->a.length<=1000+40*j->zAu fu r (i:Int) k a (j:Int)=some (acc++jn [44] (l.map zDa)):=by
    intro m
    induction m with
    | zero=>
      intro j k a hj hk he hal
      obtain ⟨k,rfl⟩:∃ q,k=q+1:=⟨k-1,by omega⟩
      obtain rfl:j=l.length:=by omega
      rw [zAu,ck_t (zC2 hi),hg,lt_f,cond_false,he,List.take_of_length_le (by simp)]
    | succ m ih=>
      intro j k a hj hk he hal
      obtain ⟨k,rfl⟩:∃ q,k=q+1:=⟨k-1,by omega⟩
      have hlt:j<l.length:=by omega
      have hgj:gtD l (j:Int)=l[j]:=zAw (List.getElem?_eq_getElem hlt)
      have hq:=hb l[j] (List.getElem_mem hlt)
      have e2:=zDi (n:=l[j].2.1) (by omega) (by omega)
      have e5:=zFT l[j].1
      have ht:(l.map zDa).take (j+1)=(l.map zDa).take j ++ [zDa l[j]]:=by rw [List.take_add_one,List.getElem?_map,List.getElem?_eq_getElem hlt];rfl
      rw [zAu,ck_t (zC2 hi),hg,lt_t hlt,cond_true,ck_t (zC2 hi),ck_t (zC2 hlt),hgj,zFU hf (by omega) (by omega),zGY (by omega) (by omega)]
      rcases Nat.eq_zero_or_pos j with rfl | hp
      . have h0 : a = acc := by rw [he]; simp [jn]
        subst h0
        rw [show decide ((0:Int)<((0:Nat):Int))=false from rfl,cond_false,zAI,ck_t (zBI (by simp only [List.length_append,List.length_cons,List.length_nil];omega))]
        have nx:zAu fu r (i:Int) k (a++zDa l[0]) ((0+1:Nat):Int)=some (a++jn [44] (l.map zDa)):=by
          refine ih 1 k _ (by omega) (by omega) ?_ (by unfold zDa;cases l[0].2.2 <;> simp <;> omega)
          rw [ht,List.take_zero,List.nil_append,zLF]
        rw [<- nx]
        unfold zDa
        cases l[0].2.2
        . rw [cond_false, ck_t (zBI (by simp only [List.length_append, List.length_cons, List.length_nil]; omega)), zAI, ck_t (zBI (by simp only [List.length_append, List.length_cons, List.length_nil]; omega)), ck_t (zCG (by omega)), zBj]
          simp only [List.append_assoc,cond_false]
        . rw [cond_true, ck_t (zBI (by simp only [List.length_append, List.length_cons, List.length_nil]; omega)), zAI, ck_t (zBI (by simp only [List.length_append, List.length_cons, List.length_nil]; omega)), ck_t (zCG (by omega)), zBj]
          simp only [List.append_assoc,cond_true]
      . rw [show decide ((0 : Int) < (j : Int)) = true from decide_eq_true (by omega), cond_true, ck_t (zBI (by simp only [List.length_append, List.length_cons, List.length_nil]; omega)), zAI, ck_t (zBI (by simp only [List.length_append, List.length_cons, List.length_nil]; omega))]
        have nx:zAu fu r (i:Int) k (a ++ [44]++zDa l[j]) ((j+1:Nat):Int)=some (acc++jn [44] (l.map zDa)):=by
          refine ih (j+1) k _ (by omega) (by omega) ?_ (by unfold zDa;cases l[j].2.2 <;> simp <;> omega)
          rw [ht, zKG _ _ _ (by
            intro hz
            have:=congrArg List.length hz
            rw [List.length_take,List.length_map,List.length_nil] at this
            omega),he]
          simp only [List.append_assoc]
        rw [<- nx]
        unfold zDa
        cases l[j].2.2
        . rw [cond_false, ck_t (zBI (by simp only [List.length_append, List.length_cons, List.length_nil]; omega)), zAI, ck_t (zBI (by simp only [List.length_append, List.length_cons, List.length_nil]; omega)), ck_t (zCG (by omega)), zBj]
          simp only [List.append_assoc,cond_false]
        . rw [cond_true, ck_t (zBI (by simp only [List.length_append, List.length_cons, List.length_nil]; omega)), zAI, ck_t (zBI (by simp only [List.length_append, List.length_cons, List.length_nil]; omega)), ck_t (zCG (by omega)), zBj]
          simp only [List.append_assoc,cond_true]
  have:=key l.length 0 fu acc (by omega) (by omega) (by simp [jn]) (by omega)
  rwa [show ((0:Nat):Int)=0 from rfl] at this
theorem zNH {fu:Nat} {r:List (List TTst)} (hf:1048577<=fu) (hr:RsOK r):zD2 fu r=some (bif rsB r then jn [32,111,114,32] (r.map zER) else []):=by
  unfold zD2
  rw [zG7 hf hr,zAI]
  cases hv:rsB r
  . rfl
  . obtain ⟨h3, hb⟩ := zHa hv
    have key:∀ m i k (a:List UInt8),i+m=r.length->m<k->a=jn [32,111,114,32] ((r.map zER).take i)->a.length<=100*i->zBk fu r k a (i:Int)=some (jn [32,111,114,32] (r.map zER)):=by
      intro m
      induction m with
      | zero=>
        intro i k a hi hk he hal
        obtain ⟨k,rfl⟩:∃ q,k=q+1:=⟨k-1,by omega⟩
        obtain rfl:i=r.length:=by omega
        rw [zBk,lt_f,cond_false,he,List.take_of_length_le (by simp)]
      | succ m ih=>
        intro i k a hi hk he hal
        obtain ⟨k,rfl⟩:∃ q,k=q+1:=⟨k-1,by omega⟩
        have hlt:i<r.length:=by omega
        have hg:=List.getElem?_eq_getElem hlt
        obtain ⟨hl3,hlb⟩:=hb r[i] (List.getElem_mem hlt)
        have hrl:=zMC hl3 hlb
        have ht:(r.map zER).take (i+1)=(r.map zER).take i ++ [zER r[i]]:=by rw [List.take_add_one,List.getElem?_map,hg];rfl
        rw [zBk,lt_t hlt,cond_true]
        rcases Nat.eq_zero_or_pos i with rfl | hp
        . have h0 : a = [] := by rw [he]; rfl
          subst h0
          rw [show decide ((0:Int)<((0:Nat):Int))=false from rfl,cond_false,zMQ hg hf hl3 hlb (by simp),zAI,ck_t (zCG (by omega)),zBj]
          refine ih 1 k _ (by omega) (by omega) ?_ (by rw [List.nil_append];exact Nat.le_trans hrl (by omega))
          rw [ht,List.take_zero,List.nil_append,List.nil_append,zLF]
          rfl
        . rw [show decide ((0 : Int) < (i : Int)) = true from decide_eq_true (by omega), cond_true, ck_t (zBI (by simp only [List.length_append, List.length_cons, List.length_nil]; omega)), zMW hg hf hl3 hlb (by simp; omega), zAI, ck_t (zCG (by omega)), zBj]
          refine ih (i + 1) k _ (by omega) (by omega) ?_ (by
            have:(jn [44] (r[i].map zDa)).length<=93:=hrl
            simp;omega)
          rw [ht, zKG _ _ _ (by
            intro hz
            have:=congrArg List.length hz
            rw [List.length_take,List.length_map,List.length_nil] at this
            omega),he]
          rfl
    have:=key r.length 0 fu [] (by omega) (by omega) rfl (Nat.le_refl _)
    rw [show ((0:Nat):Int)=0 from rfl] at this
    rw [Bool.not_true,cond_false,this,zAI]
    rfl
def spC (c : UInt8) : List UInt8 -> List (List UInt8)
  | []=>[[]]
  | b :: s => if b = c then [] :: spC c s else match spC c s with
    | []=>[[b]]
    | x::xs=>(b::x)::xs
theorem zOx (c:UInt8) (s:List UInt8):spC c s ≠ []:=by
  cases s with
  | nil=>simp [spC]
  | cons b s=>
    unfold spC
    split
    . simp
    . cases spC c s <;> simp
theorem zGW {c : UInt8} : ∀ {s : List UInt8}, c ∉ s -> spC c s = [s]
  | [],_=>rfl
  | b::s,h=>by
    have h1:b ≠ c:=fun e=>h (e ▸ List.mem_cons_self)
    have h2:=zGW (c:=c) (s:=s) fun h'=>h (List.mem_cons_of_mem _ h')
    unfold spC
    rw [if_neg h1,h2]
theorem zIF {c : UInt8} : ∀ {x s : List UInt8}, c ∉ x -> spC c (x ++ c :: s) = x :: spC c s
  | [],s,_=>by
    show spC c (c::s)=_
    rw [spC,if_pos rfl]
  | b::x,s,h=>by
    have h1:b ≠ c:=fun e=>h (e ▸ List.mem_cons_self)
    have h2:=zIF (c:=c) (x:=x) (s:=s) fun h'=>h (List.mem_cons_of_mem _ h')
    rw [List.cons_append,spC,if_neg h1,h2]
theorem zIR (c : UInt8) : ∀ s : List UInt8, ∀ x ∈ spC c s, x.length <= s.length
  | [],x,hx=>by rw [spC] at hx;rw [List.mem_singleton.1 hx];exact Nat.le_refl _
  | b::s,x,hx=>by
    unfold spC at hx
    split at hx
    . rcases List.mem_cons.1 hx with rfl | hx
      . exact Nat.zero_le _
      . exact Nat.le_succ_of_le (zIR c s x hx)
    . cases h : spC c s with
      | nil=>exact absurd h (zOx c s)
      | cons y ys=>
        rw [h] at hx
        rcases List.mem_cons.1 hx with rfl | hx
        . have := zIR c s y (by rw [h]; exact List.mem_cons_self)
          simp only [List.length_cons];omega
        . have := zIR c s x (by rw [h]; exact List.mem_cons_of_mem _ hx)
          simp only [List.length_cons];omega
theorem zNj {c : UInt8} : ∀ {x : List UInt8} {xs : List (List UInt8)}, (∀ y ∈ x :: xs, c ∉ y) -> spC c (x ++ (xs.map ([c] ++ ·)).flatten) = x :: xs
  | x,[],h=>by
    rw [List.map_nil,List.flatten_nil,List.append_nil]
    exact zGW (h x List.mem_cons_self)
  | x,y::ys,h=>by
    rw [List.map_cons,List.flatten_cons,show x++(([c]++y)++(ys.map ([c] ++ ·)).flatten)=x++c::(y++(ys.map ([c] ++ ·)).flatten) by simp,zIF (h x List.mem_cons_self),zNj fun z hz=>h z (List.mem_cons_of_mem _ hz)]
theorem zJP {t:List UInt8} {i:Nat} {c:UInt8} (h:t[i]? = some c):bAt t (i:Int)=(c.toNat:Int):=by
  unfold bAt
  simp [List.getD_eq_getElem?_getD,h]
theorem zNL {s:List UInt8} {a b:Nat}:subL s (a:Int) (b:Int)=(s.drop a).take (b-a):=by simp [subL]
theorem zN8 {fu : Nat} {s : List UInt8} {c : UInt8} (hs : s.length <= 1048576) : ∀ m i a k (acc : List (List UInt8)), i + m = s.length -> m < k -> a <= i -> acc.length <= i -> c ∉ (s.drop a).take (i - a) ->
    ∃ q:Nat × List (List UInt8),zCy fu s (c.toNat:Int) k (a:Int) (i:Int) acc=some ((q.1:Int),q.2)/\q.1<=s.length/\q.2.length<=s.length/\q.2 ++ [s.drop q.1]=acc++spC c (s.drop a):=by
  intro m
  induction m with
  | zero=>
    intro i a k acc hi hk ha hacc hn
    obtain ⟨k,rfl⟩:∃ z,k=z+1:=⟨k-1,by omega⟩
    obtain rfl:i=s.length:=by omega
    refine ⟨(a,acc),by rw [zCy,lt_f];rfl,ha,hacc,?_⟩
    rw [List.take_of_length_le (by simp)] at hn
    rw [zGW hn]
  | succ m ih=>
    intro i a k acc hi hk ha hacc hn
    obtain ⟨k,rfl⟩:∃ z,k=z+1:=⟨k-1,by omega⟩
    have hlt:i<s.length:=by omega
    have hx:=List.getElem?_eq_getElem hlt
    have hdrop:s.drop a=(s.drop a).take (i-a)++s[i]::s.drop (i+1):=by
      have h1:(s.drop a).drop (i-a)=s[i]::s.drop (i+1):=by
        rw [List.drop_drop,show a+(i-a)=i by omega]
        exact List.drop_eq_getElem_cons hlt
      rw [<- h1,List.take_append_drop]
    rw [zCy,lt_t hlt,cond_true,ck_t (zC2 hlt),zJP hx]
    by_cases hc:s[i]=c
    . have e : ((s[i].toNat : Int) == (c.toNat : Int)) = true := by rw [hc]; simp
      obtain ⟨q,h1,h2,h3,h4⟩:=ih (i+1) (i+1) k (acc ++ [(s.drop a).take (i-a)]) (by omega) (by omega) (Nat.le_refl _) (by simp;omega) (by simp)
      refine ⟨q,?_,h2,h3,?_⟩
      . rw [e, cond_true, ck_t (zDJ.2 ⟨by omega, by omega, by omega⟩), ck_t (zDg (by simp; omega)), ck_t (zCG (by omega)), ck_t (zCG (by omega)), zBj, zNL]
        exact h1
      . have e3 := congrArg (spC c) hdrop
        rw [hc,zIF hn] at e3
        rw [h4,e3,List.append_assoc]
        rfl
    . have e:((s[i].toNat:Int)==(c.toNat:Int))=false:=by
        rw [beq_eq_false_iff_ne]
        intro h
        exact hc (UInt8.toNat_inj.1 (by omega))
      obtain ⟨q, h1, h2, h3, h4⟩ := ih (i + 1) a k acc (by omega) (by omega) (by omega) (by omega) (by
        have ht:(s.drop a).take (i+1-a)=(s.drop a).take (i-a) ++ [s[i]]:=by
          rw [show i+1-a=(i-a)+1 by omega,List.take_add_one,List.getElem?_drop,show a+(i-a)=i by omega,hx]
          rfl
        rw [ht]
        intro h
        rcases List.mem_append.1 h with h | h
        . exact hn h
        . exact hc (List.mem_singleton.1 h).symm)
      refine ⟨q,?_,h2,h3,h4⟩
      rw [e,cond_false,ck_t (zCG (by omega)),zBj]
      exact h1
theorem zLv {fu:Nat} {s:List UInt8} {c:UInt8} (hf:1048577<=fu) (hs:s.length<=1048576):zDY fu s (c.toNat:Int)=some (spC c s):=by
  obtain ⟨q,h1,h2,h3,h4⟩:=zN8 (fu:=fu) (c:=c) hs s.length 0 0 fu [] (by omega) (by omega) (Nat.le_refl _) (Nat.zero_le _) (by simp)
  unfold zDY
  have e:subL s (q.1:Int) (s.length:Int)=s.drop q.1:=by
    unfold subL
    exact List.take_of_length_le (by simp only [List.length_drop];omega)
  rw [show (0:Int)=((0:Nat):Int) from rfl,h1,zAI]
  dsimp only
  rw [ck_t (zDJ.2 ⟨by omega,by omega,by omega⟩),e,ck_t (zDg (by simp;omega)),h4]
  simp
def IsI (s:List UInt8) (n:Int):Prop:=Lib.itoa n=s/\-999999999<=n/\n<=999999999
theorem zJB (d:Nat) (h:d<10):(UInt8.ofNat (48+d)).toNat=48+d:=by
  rw [UInt8.toNat_ofNat']
  omega
theorem zGG {u:Nat} (h:u<10):Lib.decDigits u = [UInt8.ofNat (48+u)]:=by rw [Lib.decDigits,dif_pos h]
theorem zGQ {u:Nat} (h:¬ u<10):Lib.decDigits u=Lib.decDigits (u / 10) ++ [UInt8.ofNat (48+u % 10)]:=by rw [Lib.decDigits,dif_neg h]
theorem zM2 (u:Nat):∀ c ∈ Lib.decDigits u,48<=c.toNat/\c.toNat<=57:=by
  induction u using Nat.strongRecOn with
  | _ u ih=>
    intro c hc
    by_cases h:u<10
    . rw [zGG h] at hc
      rw [List.mem_singleton.1 hc,zJB u h]
      omega
    . rw [zGQ h] at hc
      rcases List.mem_append.1 hc with hc | hc
      . exact ih (u / 10) (by omega) c hc
      . rw [List.mem_singleton.1 hc, zJB _ (Nat.mod_lt _ (by omega))]
        omega
theorem zNw (u:Nat):Lib.decDigits u ≠ []:=by
  by_cases h:u<10
  . rw [zGG h];simp
  . rw [zGQ h];simp
def scS (p:Nat × Nat) (c:UInt8):Nat × Nat:=if 48<=c.toNat/\c.toNat<=57 then (p.1*10+(c.toNat-48),p.2+1) else p
theorem zNs (u:Nat):(Lib.decDigits u).foldl scS (0,0)=(u,(Lib.decDigits u).length):=by
  induction u using Nat.strongRecOn with
  | _ u ih=>
    by_cases h:u<10
    . rw [zGG h]
      have:=zJB u h
      simp only [List.foldl_cons,List.foldl_nil,scS,this,List.length_singleton]
      rw [if_pos (by omega)]
      simp
    . have hd := zJB (u % 10) (Nat.mod_lt _ (by omega))
      rw [zGQ h,List.foldl_append,ih (u / 10) (by omega)]
      simp only [List.foldl_cons,List.foldl_nil,scS,hd,List.length_append,List.length_singleton]
      rw [if_pos (by omega)]
      congr 1
      omega
theorem zOt : ∀ (s : List UInt8) (p : Nat × Nat), p.1 < 10 ^ p.2 -> (s.foldl scS p).1 < 10 ^ (s.foldl scS p).2
  | [],p,h=>h
  | c::s,p,h=>by
    rw [List.foldl_cons]
    refine zOt s _ ?_
    unfold scS
    split
    . show p.1 * 10 + (c.toNat - 48) < 10 ^ (p.2 + 1)
      rw [Nat.pow_succ]
      omega
    . exact h
theorem zNp : ∀ (s : List UInt8) (p : Nat × Nat), (s.foldl scS p).2 <= p.2 + s.length
  | [],p=>Nat.le_refl _
  | c::s,p=>by
    have:=zNp s (scS p c)
    rw [List.foldl_cons,List.length_cons]
    have h:(scS p c).2<=p.2+1:=by
      unfold scS
      split
      . exact Nat.le_refl _
      . exact Nat.le_succ _
    omega
theorem zL4 {k:Nat} (h:k<=11):10 ^ k<=100000000000:=Nat.le_trans (Nat.pow_le_pow_right (by omega) h) (by omega)
theorem zP0 {fu : Nat} {s : List UInt8} (hs : s.length <= 1048576) : ∀ m i k (p : Nat × Nat), (i + m = s.length \/ (m = 0 /\ 11 <= i)) -> i <= 11 -> m < k -> p.1 < 10 ^ p.2 -> p.2 <= i -> (s.take 11).take i = s.take i ->
    zBR fu s k (p.1:Int) (p.2:Int) (i:Int)=some (((((s.take 11).drop i).foldl scS p).1:Int),((((s.take 11).drop i).foldl scS p).2:Int)):=by
  intro m
  induction m with
  | zero=>
    intro i k p hi h11 hk hp hpi ht
    obtain ⟨k,rfl⟩:∃ z,k=z+1:=⟨k-1,by omega⟩
    have hd:(s.take 11).drop i = []:=List.drop_eq_nil_of_le (by rw [List.length_take];omega)
    have hc:(decide ((i:Int)<(s.length:Int))&&decide ((i:Int)<11))=false:=by
      rw [Bool.and_eq_false_imp,decide_eq_true_eq,decide_eq_false_iff_not]
      omega
    rw [zBR,zD9,hc,cond_false,hd]
    rfl
  | succ m ih=>
    intro i k p hi h11 hk hp hpi ht
    obtain ⟨k,rfl⟩:∃ z,k=z+1:=⟨k-1,by omega⟩
    have hlt:i<s.length:=by omega
    by_cases h:i<11
    . have hc:(decide ((i:Int)<(s.length:Int))&&decide ((i:Int)<11))=true:=by
        rw [Bool.and_eq_true,decide_eq_true_eq,decide_eq_true_eq]
        omega
      have hx:=List.getElem?_eq_getElem hlt
      have hb:=zJP hx
      have h256:s[i].toNat<256:=UInt8.toNat_lt _
      have hdrop:(s.take 11).drop i=s[i]::(s.take 11).drop (i+1):=by
        rw [List.drop_eq_getElem_cons (by rw [List.length_take];omega),List.getElem_take]
      have hpb:p.1<=100000000000:=Nat.le_of_lt (Nat.lt_of_lt_of_le hp (zL4 (by omega)))
      have hw:IntKind.i64.wrap (IntKind.u8.wrap ((s[i].toNat:Int)-48))=((s[i].toNat-48:Nat):Int)\/s[i].toNat<48:=by
        rcases Nat.lt_or_ge s[i].toNat 48 with h' | h'
        . exact .inr h'
        . left
          have e:((s[i].toNat:Int)-48)=((s[i].toNat-48:Nat):Int):=by omega
          rw [e]
          have h1:IntKind.u8.wrap ((s[i].toNat-48:Nat):Int)=((s[i].toNat-48:Nat):Int):=by
            unfold IntKind.wrap
            simp [IntKind.bits,IntKind.signed]
            omega
          rw [h1]
          exact IntWalk.i64_in _ (by omega)
      have hnext:∀ q:Nat × Nat,q.1<10 ^ q.2->q.2<=i+1->zBR fu s k (q.1:Int) (q.2:Int) ((i+1:Nat):Int)=some (((((s.take 11).drop (i+1)).foldl scS q).1:Int),((((s.take 11).drop (i+1)).foldl scS q).2:Int)):=fun q h1 h2=>
        ih (i+1) k q (by omega) (by omega) (by omega) h1 h2 (by rw [List.take_take,Nat.min_eq_left (by omega)])
      rw [zBR,zD9,hc,cond_true,ck_t (zC2 hlt),hb,ck_t (by rw [zC2 hlt,Bool.or_true]),zD9,hdrop,List.foldl_cons]
      by_cases hdg:48<=s[i].toNat/\s[i].toNat<=57
      . have hd:(decide ((48:Int)<=(s[i].toNat:Int))&&decide ((s[i].toNat:Int)<=57))=true:=by
          rw [Bool.and_eq_true,decide_eq_true_eq,decide_eq_true_eq]
          omega
        have hw':=hw.resolve_right (by omega)
        have e:scS p s[i]=(p.1*10+(s[i].toNat-48),p.2+1):=if_pos hdg
        have hq:=hnext (p.1*10+(s[i].toNat-48),p.2+1) (by show _<10 ^ (p.2+1);rw [Nat.pow_succ];omega) (by show p.2+1<=i+1;omega)
        rw [hd,cond_true,hw',ck_t (zBt (by omega) (by omega)),ck_t (zC2 hlt),ck_t (zBt (by omega) (by omega)),ck_t (zBt (by omega) (by omega)),ck_t (zCG (by omega)),e,<- hq]
        congr 1
      . have hd:(decide ((48:Int)<=(s[i].toNat:Int))&&decide ((s[i].toNat:Int)<=57))=false:=by
          rw [Bool.and_eq_false_imp,decide_eq_true_eq,decide_eq_false_iff_not]
          omega
        have e:scS p s[i]=p:=if_neg hdg
        rw [hd,cond_false,ck_t (zCG (by omega)),e,zBj]
        exact hnext p hp (by omega)
    . have hd : (s.take 11).drop i = [] := List.drop_eq_nil_of_le (by rw [List.length_take]; omega)
      have hc:(decide ((i:Int)<(s.length:Int))&&decide ((i:Int)<11))=false:=by
        rw [Bool.and_eq_false_imp,decide_eq_true_eq,decide_eq_false_iff_not]
        omega
      rw [zBR,zD9,hc,cond_false,hd]
      rfl
theorem zHN {n:Int} (h:0<=n):Lib.itoa n=Lib.decDigits n.toNat:=by unfold Lib.itoa;rw [if_neg (by omega)]
theorem zLi {n:Int} (h:n<0):Lib.itoa n=45::Lib.decDigits n.natAbs:=by unfold Lib.itoa;rw [if_pos h]
theorem zNE {u:Nat} (h:u<=999999999):(Lib.decDigits u).length<=9:=zEw 8 u (by omega)
theorem zJO {s:List UInt8} {n:Int} (h:IsI s n):s.length<=10/\0<s.length/\s.foldl scS (0,0)=(n.natAbs,(Lib.decDigits n.natAbs).length)/\(Lib.decDigits n.natAbs).length<=9/\(s[0]? = some 45 ↔ n<0):=by
  obtain ⟨rfl,h1,h2⟩:=h
  have hl:=zNE (u:=n.natAbs) (by omega)
  have hp:=List.length_pos_iff.2 (zNw n.natAbs)
  by_cases hn:n<0
  . rw [zLi hn]
    refine ⟨by simp;omega,by simp,?_,hl,by simp [hn]⟩
    rw [List.foldl_cons,show scS (0,0) 45=(0,0) from rfl,zNs]
  . rw [zHN (by omega), show n.toNat = n.natAbs by omega]
    refine ⟨by omega,hp,zNs _,hl,?_⟩
    constructor
    . intro h
      have:=zM2 n.natAbs 45 (List.mem_of_getElem? h)
      exact absurd this.1 (by decide)
    . intro h;omega
def RdI (s:List UInt8) (r:Int × Bool):Prop:=(∃ n,IsI s n/\r=(n,true))\/((∀ n,¬ IsI s n)/\r=(0,false))
theorem zOP {s:List UInt8} {n m:Int} (h:IsI s n) (k:IsI s m):n=m:=by
  have a:=zJO h
  have b:=zJO k
  have e:n.natAbs=m.natAbs:=by
    have:=a.2.2.1.symm.trans b.2.2.1
    injection this
  have:=a.2.2.2.2
  have:=b.2.2.2.2
  by_cases hs:s[0]? = some 45
  . have := a.2.2.2.2.1 hs
    have:=b.2.2.2.2.1 hs
    omega
  . have h1 : ¬ n < 0 := fun h => hs (a.2.2.2.2.2 h)
    have h2:¬ m<0:=fun h=>hs (b.2.2.2.2.2 h)
    omega
theorem RdI.one {s:List UInt8} {r q:Int × Bool} (h:RdI s r) (k:RdI s q):r=q:=by
  rcases h with ⟨n,h1,rfl⟩ | ⟨h1,rfl⟩ <;> rcases k with ⟨m,k1,rfl⟩ | ⟨k1,rfl⟩
  . rw [zOP h1 k1]
  . exact absurd h1 (k1 n)
  . exact absurd k1 (h1 m)
  . rfl
theorem RdI.no {s:List UInt8} (h:RdI s (0,false)):∀ n,¬ IsI s n:=by
  rcases h with ⟨n,_,h⟩ | ⟨h,_⟩
  . cases h
  . exact h
theorem zIz {fu:Nat} {s:List UInt8} (hf:1048577<=fu) (hs:s.length<=1048576):∃ r,zCJ fu s=some r/\RdI s r:=by
  have hsc:=zP0 (fu:=fu) hs s.length 0 fu (0,0) (.inl (by omega)) (by omega) (by omega) (by decide) (Nat.le_refl _) (by simp)
  rw [List.drop_zero] at hsc
  have hlt:=zOt (s.take 11) (0,0) (by decide)
  have hct:=zNp (s.take 11) (0,0)
  have htk:(s.take 11).length<=11:=by rw [List.length_take];omega
  generalize hp:(s.take 11).foldl scS (0,0)=p at hsc hlt hct
  have hpb:p.1<=100000000000:=Nat.le_of_lt (Nat.lt_of_lt_of_le hlt (zL4 (by omega)))
  have hM:zBR fu s fu 0 0 0=some ((p.1:Int),(p.2:Int)):=hsc
  have h45:((decide ((0:Int)<(s.length:Int)))&&((bAt s (0:Int))==(45:Int)))=decide (s[0]? = some 45):=by
    cases s with
    | nil=>rfl
    | cons b l=>
      have hb:bAt (b::l) (0:Int)=(b.toNat:Int):=zJP (i:=0) rfl
      rw [hb,decide_eq_true (by simp),Bool.true_and]
      by_cases e:b=45
      . subst e;rfl
      . rw [decide_eq_false (by simpa using e), beq_eq_false_iff_ne]
        intro h
        exact e (UInt8.toNat_inj.1 (by show b.toNat=45;omega))
  have hck:(!(true&&((decide ((0:Int)<(s.length:Int)))==true)) || inR (0:Int) s.length)=true:=by
    cases s with
    | nil=>rfl
    | cons b l=>rw [zDb.2 ⟨Int.le_refl _,by simp⟩,Bool.or_true]
  have arm : ∀ z : Int, (z = (p.1 : Int) /\ s[0]? ≠ some 45) \/ (z = 0 - (p.1 : Int) /\ s[0]? = some 45) ->
      ∃ r,(bd ((decide ((9:Int)<(p.2:Int))) || (decide ((10:Int)<(s.length:Int)))) fun x33=>
        cl (true&&(x33==false)) (zAj fu z) fun x35=>
        bd (x33 || (!(x35==s))) fun x37=>
        bif x37 then (some ((0:Int),false)) else (some (z,true)))=some r/\RdI s r:=by
    intro z hz
    rw [zD9]
    have key:∀ n,IsI s n->n=z/\p.2<=9/\s.length<=10:=fun n hn=>by
      obtain ⟨a1,a2,a3,a4,a5⟩:=zJO hn
      rw [List.take_of_length_le (by omega),a3] at hp
      subst hp
      refine ⟨?_,a4,a1⟩
      rcases hz with ⟨rfl,h⟩ | ⟨rfl,h⟩
      . have : ¬ n < 0 := fun hn => h (a5.2 hn)
        show n=(n.natAbs:Int)
        omega
      . have := a5.1 h
        show n=0-(n.natAbs:Int)
        omega
    cases hg:(decide ((9:Int)<(p.2:Int))) || (decide ((10:Int)<(s.length:Int)))
    . rw [Bool.or_eq_false_iff, decide_eq_false_iff_not, decide_eq_false_iff_not] at hg
      have h9:p.1<1000000000:=Nat.lt_of_lt_of_le hlt (Nat.le_trans (Nat.pow_le_pow_right (n:=10) (by omega) (show p.2<=9 by omega)) (by omega))
      rw [show (true&&(false==false))=true from rfl,zFU hf (by omega) (by omega),zAI,zD9,Bool.false_or]
      cases he:Lib.itoa z==s
      . refine ⟨_, by rw [Bool.not_false, cond_true], .inr ⟨fun n hn => ?_, rfl⟩⟩
        obtain ⟨rfl,_⟩:=key n hn
        rw [hn.1,beq_self_eq_true] at he
        cases he
      . exact ⟨_,by rw [Bool.not_true,cond_false],.inl ⟨z,⟨by simpa using he,by omega,by omega⟩,rfl⟩⟩
    . rw [show (true && (true == false)) = false from rfl, zNZ, zD9, Bool.true_or, cond_true]
      refine ⟨_,rfl,.inr ⟨fun n hn=>?_,rfl⟩⟩
      obtain ⟨_,h1,h2⟩:=key n hn
      rw [Bool.or_eq_true,decide_eq_true_eq,decide_eq_true_eq] at hg
      omega
  unfold zCJ
  rw [hM,zAI,ck_t hck,zD9,h45]
  by_cases hs0:s[0]? = some 45
  . rw [decide_eq_true hs0, cond_true, ck_t (zBt (by omega) (by omega))]
    exact arm _ (.inr ⟨rfl,hs0⟩)
  . rw [decide_eq_false hs0, cond_false]
    exact arm _ (.inl ⟨rfl,hs0⟩)
theorem zLC {p:Nat->List UInt8->Prop} (h0:p 0 [110,97,109,101]) (h1:p 1 [116,111,107,101,110,115]) (h2:p 2 [115,111,117,110,100]) (h3:p 3 [99,105,116,121]) (h4:p 4 [121,101,97,114]) (h5:p 5 [112,104,111,110,101]) (i:Nat) (hi:i<6):p i (gtD zCU (i:Int)):=by
  match i,hi with
  | 0,_=>exact h0
  | 1,_=>exact h1
  | 2,_=>exact h2
  | 3,_=>exact h3
  | 4,_=>exact h4
  | 5,_=>exact h5
theorem zOl {i:Nat} (hi:i<6):∀ c ∈ gtD zCU (i:Int),97<=c.toNat:=
  zLC (p:=fun _ l=>∀ c ∈ l,97<=c.toNat) (by decide) (by decide) (by decide) (by decide) (by decide) (by decide) i hi
theorem zKS {i:Nat} (hi:i<6):gtD zCU (i:Int) ≠ []:=
  zLC (p:=fun _ l=>l ≠ []) (by decide) (by decide) (by decide) (by decide) (by decide) (by decide) i hi
theorem zO6 {i m:Nat} (hi:i<6) (hm:m<6) (h:i ≠ m):(gtD zCU (i:Int)).head? ≠ (gtD zCU (m:Int)).head?:=by
  have key:∀ a b:Fin 6,a.val ≠ b.val->(zCU.getD a.val default).head? ≠ (zCU.getD b.val default).head?:=by decide
  exact key ⟨i,hi⟩ ⟨m,hm⟩ h
theorem zOh {a b r:List UInt8} (ha:a ≠ []) (hb:b ≠ []) (h:a.head? ≠ b.head?):((a++r).take b.length==b)=false:=by
  cases a with
  | nil=>exact (ha rfl).elim
  | cons c a=>
    cases b with
    | nil=>exact (hb rfl).elim
    | cons d b=>
      have hcd:¬ c=d:=fun e=>h (by simp [e])
      rw [beq_eq_false_iff_ne]
      intro e
      simp at e
      exact hcd e.1
theorem zNl {l:List UInt8} {n:Nat} (h:∀ c ∈ l,n<=c.toNat) {d:UInt8} (hd:d.toNat<n):d ∉ l:=fun hm=>by have:=h d hm;omega
theorem zO0 {n:Int} (h:0<=n):∀ c ∈ Lib.itoa n,48<=c.toNat/\c.toNat<=57:=by
  rw [zHN h]
  exact zM2 _
theorem zOT {n:Int} (h:0<=n):Lib.itoa n ≠ []:=by
  rw [zHN h]
  exact zNw _
def zKk (t:TTst):Prop:=(0<=t.1/\t.1<=5)/\1<=t.2.1/\t.2.1<=1000
theorem zLG {t:TTst} (h:zKk t):∀ c ∈ zDa t,48<=c.toNat:=by
  obtain ⟨i,e⟩:∃ i:Nat,t.1=i:=⟨t.1.toNat,by have:=h.1;omega⟩
  have hi:i<6:=by have:=h.1;omega
  intro c hc
  unfold zDa at hc
  rcases List.mem_append.1 hc with hc | hc
  . rcases List.mem_append.1 hc with hc | hc
    . rw [e] at hc
      have:=zOl hi c hc
      omega
    . cases hb : t.2.2
      . rw [hb] at hc
        exact (show ∀ c ∈ ([62,61]:List UInt8),48<=c.toNat by decide) c hc
      . rw [hb] at hc
        exact (show ∀ c ∈ ([60]:List UInt8),48<=c.toNat by decide) c hc
  . exact (zO0 (by have:=h.2;omega) c hc).1
theorem zPR {sep : List UInt8} : ∀ {xs : List (List UInt8)} {c : UInt8}, c ∈ jn sep xs -> c ∈ sep \/ ∃ x ∈ xs, c ∈ x
  | [],c,h=>by simp [jn] at h
  | x::xs,c,h=>by
    rw [jn,List.mem_append] at h
    rcases h with h | h
    . exact .inr ⟨x,List.mem_cons_self ..,h⟩
    . obtain ⟨z, hz, hc⟩ := List.mem_flatten.1 h
      obtain ⟨y,hy,rfl⟩:=List.mem_map.1 hz
      rcases List.mem_append.1 hc with hc | hc
      . exact .inl hc
      . exact .inr ⟨y,List.mem_cons_of_mem _ hy,hc⟩
theorem zMo {l:List TTst} (h:∀ t ∈ l,zKk t):∀ c ∈ zER l,44<=c.toNat:=by
  intro c hc
  unfold zER at hc
  rcases zPR hc with hc | ⟨x,hx,hc⟩
  . exact (show ∀ c ∈ ([44]:List UInt8),44<=c.toNat by decide) c hc
  . obtain ⟨t, ht, rfl⟩ := List.mem_map.1 hx
    have:=zLG (h t ht) c hc
    omega
abbrev sepR:List UInt8:=[32,111,114,32]
def sp (s:List UInt8):List (List UInt8):=Lib.splitK sepR 0 (Lib.count s sepR) s
theorem zNK {n:Int} {r:Int × Bool} (h:RdI (Lib.itoa n) r) (h0:0<=n) (h1:n<=1000):r=(n,true):=
  h.one (.inl ⟨n,⟨rfl,by omega,by omega⟩,rfl⟩)
def nmO (fu:Nat) (x:List UInt8) (i:Int):Option TTst:=
  bif decide ((gtD zCU i).length < x.length) && (x.take (gtD zCU i).length == gtD zCU i) then (
    bif bAt (x.drop (gtD zCU i).length) 0==60 then some (i,((zCJ fu ((x.drop (gtD zCU i).length).drop 1)).getD default).1,true)
    else bif decide (2<(x.drop (gtD zCU i).length).length)&&((x.drop (gtD zCU i).length).take 2 == [62,61]) then some (i,((zCJ fu ((x.drop (gtD zCU i).length).drop 2)).getD default).1,false) else none)
  else none
theorem zLO {α β ρ σ : Type} {xs : List α} {V : α -> Option β} {f : β -> ρ} {e : σ} {L : Nat -> Int -> Option (Ex ρ σ)}
    (hs:∀ k (i:Nat) x,xs[i]? = some x->L (k+1) (i:Int)=match V x with | some v=>some (.ret (f v)) | none=>L k ((i+1:Nat):Int)) (he:∀ k,L (k+1) (xs.length:Int)=some (.go e)) {fu:Nat} (hf:xs.length<fu) :
    L fu (0:Int)=some (match xs.findSome? V with | some v=>.ret (f v) | none=>.go e):=by
  have key:∀ m i k,i+m=xs.length->m<k->L k ((i:Nat):Int)=some (match (xs.drop i).findSome? V with | some v=>.ret (f v) | none=>.go e):=by
    intro m
    induction m with
    | zero=>
      intro i k hi hk
      obtain ⟨k,rfl⟩:∃ q,k=q+1:=⟨k-1,by omega⟩
      obtain rfl:i=xs.length:=by omega
      rw [he,List.drop_length]
      rfl
    | succ m ih=>
      intro i k hi hk
      obtain ⟨k,rfl⟩:∃ q,k=q+1:=⟨k-1,by omega⟩
      have hx:=List.getElem?_eq_getElem (show i<xs.length by omega)
      rw [hs k i _ hx,zDt hx,List.findSome?_cons]
      cases V xs[i]
      . exact ih (i+1) k (by omega) (by omega)
      . rfl
  have:=key xs.length 0 fu (by omega) hf
  rwa [show ((0:Nat):Int)=0 from rfl,List.drop_zero] at this
def six0:List Int:=(List.range 6).map fun (j:Nat)=>(j:Int)
theorem zMg {i:Nat} {n:Int} (h:six0[i]? = some n):i<6/\n=(i:Int):=by
  have hi:i<6:=by have:=zDd h;simpa [six0] using this
  unfold six0 at h
  rw [List.getElem?_map,List.getElem?_range hi] at h
  exact ⟨hi,(Option.some.inj h).symm⟩
def tS (fu:Nat) (x:List UInt8):TTst:=match six0.findSome? (nmO fu x) with | some t=>t | none=>((0:Int),(0:Int),false)
theorem zP3 {a b:Nat}:decide ((a:Int)<(b:Int))=decide (a<b):=by
  by_cases h:a<b
  . rw [decide_eq_true h,decide_eq_true (by omega)]
  . rw [decide_eq_false h,decide_eq_false (by omega)]
theorem zMh {fu:Nat} {x:List UInt8} (hf:1048577<=fu) (hx:x.length<=1048576):zEH fu x=some (tS fu x):=by
  unfold zEH tS
  have h:=zLO (xs:=six0) (V:=nmO fu x) (f:=fun t=>t) (e:=((0:Int),(0:Int),false)) (L:=fun k i=>zBe fu x k i ((0:Int),(0:Int),false)) (fun k i n hn=>by
    obtain ⟨hi,rfl⟩:=zMg hn
    have hlen:=zFT (i:Int)
    show zBe fu x (k+1) (i:Int) _=_
    rw [zBe,show decide ((i:Int)<(6:Int))=true from decide_eq_true (by omega),cond_true,zGY (by omega) (by omega),zAI]
    unfold nmO
    generalize hname:gtD zCU (i:Int)=nm at hlen
    rw [zP3]
    by_cases hlt:nm.length<x.length
    . rw [decide_eq_true hlt, zLB (by omega), Bool.or_true, zF2, zD9, zHO]
      cases hb:(x.take nm.length==nm)
      . rw [Bool.and_false,cond_false,cond_false,ck_t (zCG (by omega)),zBj]
      . rw [Bool.and_true, cond_true, cond_true, ck_t (zKA (by omega)), zHM]
        generalize hu:x.drop nm.length=u
        have hul:u.length=x.length-nm.length:=by rw [<- hu,List.length_drop]
        obtain ⟨r1,hr1,_⟩:=zIz (fu:=fu) (s:=u.drop 1) hf (by rw [List.length_drop];omega)
        obtain ⟨r2,hr2,_⟩:=zIz (fu:=fu) (s:=u.drop 2) hf (by rw [List.length_drop];omega)
        have e1:subL u (1:Int) (u.length:Int)=u.drop 1:=zHM u 1
        have e2:subL u (2:Int) (u.length:Int)=u.drop 2:=zHM u 2
        have e3:subL u 0 (2:Int)=u.take 2:=zHO u 2
        rw [ck_t (zJy (by omega))]
        cases bAt u 0==60
        . rw [cond_false, cond_false, e3]
          by_cases h2:2<u.length
          . rw [show decide ((2 : Int) < (u.length : Int)) = true from decide_eq_true (by omega), show subR 0 (2 : Int) u.length = true from zLB (k := 2) (by omega), Bool.or_true, zF2, zD9, decide_eq_true h2]
            cases (u.take 2 == [62,61])
            . rw [Bool.and_false,cond_false,cond_false,ck_t (zCG (by omega)),zBj]
            . rw [Bool.and_true, cond_true, cond_true, ck_t (show subR (2 : Int) (u.length : Int) u.length = true from zKA (k := 2) (by omega)), e2, hr2, zAI]
              rfl
          . rw [show decide ((2 : Int) < (u.length : Int)) = false from decide_eq_false (by omega), decide_eq_false h2]
            show ck true _=_
            rw [zF2,zD9,Bool.false_and,cond_false,cond_false,ck_t (zCG (by omega)),zBj]
        . rw [cond_true, cond_true, ck_t (show subR (1 : Int) (u.length : Int) u.length = true from zKA (k := 1) (by omega)), e1, hr1, zAI]
          rfl
    . rw [decide_eq_false hlt]
      show ck true _=_
      rw [zF2,zD9,Bool.false_and,Bool.false_and,cond_false,cond_false,ck_t (zCG (by omega)),zBj]) (fun k=>by
    show zBe fu x (k+1) (6:Int) _=_
    rw [zBe]
    rfl) (show six0.length<fu by have:six0.length=6:=rfl;omega)
  have h':zBe fu x fu (0:Int) ((0:Int),((0:Int),false))=_:=h
  rw [h',zAI]
  cases six0.findSome? (nmO fu x) <;> rfl
theorem zI9 {α β : Type} {V : α -> Option β} {b : β} : ∀ {xs : List α} {i : Nat} {x : α}, xs[i]? = some x -> V x = some b -> (∀ j y, j < i -> xs[j]? = some y -> V y = none) -> xs.findSome? V = some b
  | [],i,x,h,_,_=>by simp at h
  | z::xs,0,x,h,hV,_=>by
    simp at h
    subst h
    rw [List.findSome?_cons,hV]
  | z::xs,i+1,x,h,hV,hn=>by
    rw [List.findSome?_cons,hn 0 z (by omega) rfl]
    exact zI9 (i:=i) h hV fun j y hj hy=>hn (j+1) y (by omega) hy
theorem tS_t {fu:Nat} {t:TTst} (hf:1048577<=fu) (h:zKk t):tS fu (zDa t)=t:=by
  obtain ⟨n,thr,below⟩:=t
  obtain ⟨i,e⟩:∃ i:Nat,n=i:=⟨n.toNat,by have:=h.1;simp only at this;omega⟩
  subst e
  have hi:i<6:=by have:=h.1.2;simp only at this;omega
  have h1:1<=thr/\thr<=1000:=h.2
  have e5:=zDi (n:=thr) (by omega) (by omega)
  obtain ⟨r,hr,hd⟩:=zIz (fu:=fu) (s:=Lib.itoa thr) hf (by omega)
  obtain rfl:=zNK hd (by omega) h1.2
  have hne:=List.length_pos_iff.2 (zOT (n:=thr) (by omega))
  have hat:six0[i]? = some (i:Int):=by
    unfold six0
    rw [List.getElem?_map,List.getElem?_range hi]
    rfl
  have key:six0.findSome? (nmO fu (zDa ((i:Int),thr,below)))=some ((i:Int),thr,below):=by
    refine zI9 hat ?_ fun j y hj hy=>?_
    . unfold nmO zDa
      cases below
      . have e1 : (gtD zCU (i : Int) ++ ([62, 61] : List UInt8) ++ Lib.itoa thr).take (gtD zCU (i : Int)).length = gtD zCU (i : Int) := by rw [List.append_assoc, List.take_left]
        have e2:(gtD zCU (i:Int)++([62,61]:List UInt8)++Lib.itoa thr).drop (gtD zCU (i:Int)).length=62::61::Lib.itoa thr:=by rw [List.append_assoc,List.drop_left];rfl
        simp only [cond_false,e1,e2,beq_self_eq_true,Bool.and_true]
        rw [decide_eq_true (by simp),cond_true,show (bAt (62::61::Lib.itoa thr) 0==60)=false from rfl,cond_false,decide_eq_true (by simp;omega)]
        show (bif true&&(([62,61]:List UInt8) == [62,61]) then some (_,((zCJ fu (Lib.itoa thr)).getD default).1,false) else none)=_
        rw [hr]
        rfl
      . have e1 : (gtD zCU (i : Int) ++ ([60] : List UInt8) ++ Lib.itoa thr).take (gtD zCU (i : Int)).length = gtD zCU (i : Int) := by rw [List.append_assoc, List.take_left]
        have e2:(gtD zCU (i:Int)++([60]:List UInt8)++Lib.itoa thr).drop (gtD zCU (i:Int)).length=60::Lib.itoa thr:=by rw [List.append_assoc,List.drop_left];rfl
        simp only [cond_true,e1,e2,beq_self_eq_true,Bool.and_true]
        rw [decide_eq_true (by simp),cond_true,show (bAt (60::Lib.itoa thr) 0==60)=true from rfl,cond_true]
        show some (_,((zCJ fu (Lib.itoa thr)).getD default).1,true)=_
        rw [hr]
        rfl
    . obtain ⟨hj6, rfl⟩ := zMg hy
      unfold nmO zDa
      rw [List.append_assoc,zOh (zKS hi) (zKS hj6) (zO6 hi hj6 (by omega)),Bool.and_false]
      rfl
  unfold tS
  rw [key]
def frT (R:List (List TTst)):List UInt8:=jn sepR (R.map zER)
def fr (R:List (List TTst)):List UInt8:=bif rsB R then frT R else []
theorem zLe {l:List TTst} (h:∀ t ∈ l,zKk t) (hl:l ≠ []):spC 44 (zER l)=l.map zDa:=by
  have hno:∀ y ∈ l.map zDa,(44:UInt8) ∉ y:=fun y hy=>by
    obtain ⟨t,ht,rfl⟩:=List.mem_map.1 hy
    exact zNl (zLG (h t ht)) (by decide)
  cases l with
  | nil=>exact (hl rfl).elim
  | cons t l=>exact zNj hno
theorem zLh {R:List (List TTst)} (h:rsB R=true):1<=R.length/\R.length<=3/\∀ l ∈ R,(l ≠ []/\l.length<=3)/\∀ t ∈ l,zKk t:=by
  obtain ⟨h1,h2⟩:=zHa h
  unfold rsB at h
  rw [Bool.and_eq_true,zCi] at h
  obtain ⟨⟨h3,_⟩,h4⟩:=h
  refine ⟨by omega,h1,fun l hl=>⟨⟨fun e=>?_,(h2 l hl).1⟩,(h2 l hl).2⟩⟩
  subst e
  have:(R.any fun l=>!(zHk l))=true:=List.any_eq_true.2 ⟨[],hl,rfl⟩
  rw [this] at h4
  cases h4
theorem zN3 {l:List TTst} (h:∀ t ∈ l,zKk t):(32:UInt8) ∉ zER l:=zNl (zMo h) (by decide)
theorem zP2 {R:List (List TTst)} (h:rsB R=true):frT R ≠ []:=by
  obtain ⟨h1,_,h3⟩:=zLh h
  match R,h1,h3 with
  | l::R,_,h3=>
    obtain ⟨⟨hl,_⟩,ht⟩:=h3 l (List.mem_cons_self ..)
    match l,hl,ht with
    | t::l,_,ht=>
      have hk:=ht t (List.mem_cons_self ..)
      obtain ⟨i,e⟩:∃ i:Nat,t.1=i:=⟨t.1.toNat,by have:=hk.1;omega⟩
      have hn:=zKS (i:=i) (by have:=hk.1;omega)
      unfold frT zER
      rw [List.map_cons,List.map_cons,jn,jn]
      unfold zDa
      rw [e]
      intro h
      simp at h
      exact hn h.1
structure PRk (s : List UInt8) (r : List (List TTst) × Bool) : Prop where
  no:r=([],false)\/∃ R,r=(R,true)/\fr R=s/\s ≠ []
  yes:∀ R,rsB R=true->frT R=s->r=(R,true)
theorem zPS {R:List (List TTst)} {s:List UInt8} (h:fr R=s) (hs:s ≠ []):rsB R=true/\frT R=s:=by
  unfold fr at h
  cases hv:rsB R
  . rw [hv] at h
    exact (hs h.symm).elim
  . rw [hv] at h
    exact ⟨rfl,h⟩
theorem PRk.one {s:List UInt8} {r q:List (List TTst) × Bool} (h:PRk s r) (k:PRk s q):r=q:=by
  rcases h.no with h1 | ⟨R,h1,h2,h3⟩
  . rcases k.no with k1 | ⟨Q, k1, k2, k3⟩
    . rw [h1,k1]
    . obtain ⟨a, b⟩ := zPS k2 k3
      rw [h.yes Q a b,k1]
  . obtain ⟨a, b⟩ := zPS h2 h3
    rw [h1,k.yes R a b]
theorem zLd {α β : Type} {xs : List α} {N : Nat} {f : α -> β} {L : Nat -> Int -> List β -> Option (List β)}
    (hs:∀ k (i:Nat) acc x,xs[i]? = some x->i<N->acc.length=i->L (k+1) (i:Int) acc=L k ((i+1:Nat):Int) (acc ++ [f x]))
    (he:∀ k (i:Nat) acc,(i=xs.length\/i=N)->L (k+1) (i:Int) acc=some acc) {fu:Nat} (hf:N<fu):L fu (0:Int) []=some ((xs.take N).map f):=by
  have key:∀ m i k acc,i+m=N->i<=xs.length->m<k->acc.length=i->L k ((i:Nat):Int) acc=some (acc++((xs.drop i).take m).map f):=by
    intro m
    induction m with
    | zero=>
      intro i k acc hi hl hk ha
      obtain ⟨k,rfl⟩:∃ q,k=q+1:=⟨k-1,by omega⟩
      rw [he k i acc (.inr (by omega)),List.take_zero,List.map_nil,List.append_nil]
    | succ m ih=>
      intro i k acc hi hl hk ha
      obtain ⟨k,rfl⟩:∃ q,k=q+1:=⟨k-1,by omega⟩
      by_cases hlt:i<xs.length
      . have hx := List.getElem?_eq_getElem hlt
        rw [hs k i acc _ hx (by omega) ha,ih (i+1) k _ (by omega) (by omega) (by omega) (by rw [List.length_append,List.length_singleton,ha]),zDt hx,List.take_succ_cons,List.map_cons,List.append_assoc]
        rfl
      . rw [he k i acc (.inl (by omega)),List.drop_eq_nil_of_le (by omega),List.take_nil,List.map_nil,List.append_nil]
  have:=key N 0 fu [] (by omega) (Nat.zero_le _) hf rfl
  rwa [show ((0:Nat):Int)=0 from rfl,List.drop_zero,List.nil_append] at this
def rulS (fu:Nat) (q:List UInt8):List TTst:=((spC 44 q).take 4).map (tS fu)
theorem zNb {fu:Nat} {q:List UInt8} (hf:1048577<=fu) (hq:q.length<=1048576):zBw fu (spC 44 q) fu (0:Int) []=some (rulS fu q):=by
  refine zLd (xs:=spC 44 q) (N:=4) (f:=tS fu) (L:=zBw fu (spC 44 q)) (fun k i acc x hx h4 ha=>?_) (fun k i acc h=>?_) (show 4<fu by omega)
  . have hi := zDd hx
    have hxl:=zIR 44 q x (zE2 hx)
    rw [zBw,zD9,lt_t hi,decide_eq_true (show (i:Int)<=3 by omega),Bool.and_self,cond_true,ck_t (zC2 hi),zAw hx,zMh hf (by omega),zAI,ck_t (zDg (by rw [List.length_singleton];omega)),ck_t (zCG (by omega)),zBj]
  . have hc:(decide ((i:Int)<((spC 44 q).length:Int))&&decide ((i:Int)<=3))=false:=by
      rw [Bool.and_eq_false_imp,decide_eq_true_eq,decide_eq_false_iff_not]
      omega
    rw [zBw,zD9,hc]
    rfl
def goN {α σ : Type} (g : Nat -> σ -> α -> σ) (xs : List α) : Nat -> Nat -> σ -> σ
  | 0,_,s=>s
  | m + 1, i, s => match xs[i]? with
    | some x=>goN g xs m (i+1) (g i s x)
    | none=>s
theorem zNX {α σ : Type} {xs : List α} {N : Nat} {g : Nat -> σ -> α -> σ} {Inv : Nat -> σ -> Prop} {L : Nat -> Int -> σ -> Option σ}
    (hs:∀ k (i:Nat) s x,xs[i]? = some x->i<N->Inv i s->L (k+1) (i:Int) s=L k ((i+1:Nat):Int) (g i s x)) (hI:∀ (i:Nat) s x,xs[i]? = some x->Inv i s->Inv (i+1) (g i s x))
    (he:∀ k (i:Nat) s,(xs.length<=i\/i=N)->L (k+1) (i:Int) s=some s) {s:σ} (h0:Inv 0 s) {fu:Nat} (hf:N<fu) :
    L fu (0:Int) s=some (goN g xs N 0 s)/\∃ i,i<=N/\Inv i (goN g xs N 0 s):=by
  have key:∀ m i k s,i+m=N->m<k->Inv i s->L k ((i:Nat):Int) s=some (goN g xs m i s)/\∃ j,j<=N/\Inv j (goN g xs m i s):=by
    intro m
    induction m with
    | zero=>
      intro i k s hi hk hv
      obtain ⟨k,rfl⟩:∃ q,k=q+1:=⟨k-1,by omega⟩
      exact ⟨he k i s (.inr (by omega)),i,by omega,hv⟩
    | succ m ih=>
      intro i k s hi hk hv
      obtain ⟨k,rfl⟩:∃ q,k=q+1:=⟨k-1,by omega⟩
      by_cases hlt:i<xs.length
      . have hx := List.getElem?_eq_getElem hlt
        have e:goN g xs (m+1) i s=goN g xs m (i+1) (g i s xs[i]):=by rw [goN,hx]
        rw [e,hs k i s _ hx (by omega) hv]
        exact ih (i+1) k _ (by omega) (by omega) (hI i s _ hx hv)
      . have hx : xs[i]? = none := List.getElem?_eq_none (by omega)
        have e:goN g xs (m+1) i s=s:=by rw [goN,hx]
        rw [e]
        exact ⟨he k i s (.inl (by omega)),i,by omega,hv⟩
  exact key N 0 fu s (by omega) hf h0
def gS (fu:Nat) (i:Nat) (acc:List (List TTst)) (q:List UInt8):List (List TTst):=bif i % 2==1 then acc else acc ++ [rulS fu q]
theorem zNT {fu:Nat} {s:List UInt8} (hf:1048577<=fu) (hs:s.length<=1048576):∃ R,zB9 fu (spC 32 s) fu (0:Int) [] []=some R/\R=goN (gS fu) (spC 32 s) 7 0 []/\RsOK R:=by
  have h:=zNX (xs:=spC 32 s) (N:=7) (g:=gS fu) (Inv:=fun i acc=>acc.length<=i/\∀ l ∈ acc,l.length<=4) (L:=fun k i acc=>zB9 fu (spC 32 s) k i acc []) (fun k i acc q hx h7 hv=>by
    have hi:=zDd hx
    have hql:=zIR 32 s q (zE2 hx)
    show zB9 fu (spC 32 s) (k+1) (i:Int) acc []=_
    rw [zB9,zD9,lt_t hi,decide_eq_true (show (i:Int)<=6 by omega),Bool.and_self,cond_true]
    show (bif ((((i % 2:Nat):Int))==(1:Int)) then _ else _)=_
    have e:((((i % 2:Nat):Int))==(1:Int))=(i % 2==1):=by
      rcases Nat.mod_two_eq_zero_or_one i with h | h <;> rw [h] <;> rfl
    rw [e]
    unfold gS
    cases i % 2==1
    . have hcut : zDY fu q (44 : Int) = some (spC 44 q) := zLv (c := 44) hf (by omega)
      rw [cond_false,cond_false,ck_t (zC2 hi),zAw hx,hcut,zAI,zNb hf (by omega),zAI,ck_t (zDg (by first | (rw [List.length_singleton];have:=hv.1;omega) | (have:=hv.1;omega))),ck_t (zCG (by omega)),zBj]
    . rw [cond_true,cond_true,ck_t (zCG (by omega)),zBj]) (fun i acc q hx hv=>by
    unfold gS
    cases i % 2==1
    . refine ⟨?_, fun l hl => ?_⟩
      . have := hv.1
        rw [cond_false,List.length_append,List.length_singleton]
        omega
      . rw [cond_false] at hl
        rcases List.mem_append.1 hl with hl | hl
        . exact hv.2 l hl
        . rw [List.mem_singleton.1 hl]
          unfold rulS
          rw [List.length_map,List.length_take]
          omega
    . exact ⟨Nat.le_succ_of_le hv.1,hv.2⟩) (fun k i acc h=>by
    have hc:(decide ((i:Int)<((spC 32 s).length:Int))&&decide ((i:Int)<=6))=false:=by
      rw [Bool.and_eq_false_imp,decide_eq_true_eq,decide_eq_false_iff_not]
      omega
    show zB9 fu (spC 32 s) (k+1) (i:Int) acc []=_
    rw [zB9,zD9,hc]
    rfl) (s:=[]) ⟨Nat.le_refl _,fun l hl=>by cases hl⟩ (show 7<fu by omega)
  obtain ⟨h1,j,hj,h2,h3⟩:=h
  exact ⟨_,h1,rfl,by omega,fun l hl=>by have:=h3 l hl;omega⟩
theorem zOn {fu:Nat} {l:List TTst} (hf:1048577<=fu) (h:∀ t ∈ l,zKk t) (hl:l ≠ []) (h3:l.length<=3):rulS fu (zER l)=l:=by
  unfold rulS
  rw [zLe h hl,List.take_of_length_le (by rw [List.length_map];omega),List.map_map]
  refine (List.map_congr_left fun t ht=>?_).trans (List.map_id l)
  exact tS_t hf (h t ht)
theorem zMH {x y:List UInt8} (hx:(32:UInt8) ∉ x):spC 32 (x++sepR++y)=x::[111,114]::spC 32 y:=by
  rw [List.append_assoc]
  show spC 32 (x++32::(([111,114]:List UInt8)++32::y))=_
  rw [zIF hx,zIF (by decide)]
theorem zMl {fu:Nat} {s:List UInt8} (hf:1048577<=fu) (hs:s.length<=1048576):∃ r,zDc fu s=some r/\PRk s r:=by
  unfold zDc
  have hcut:zDY fu s (32:Int)=some (spC 32 s):=zLv (c:=32) hf hs
  obtain ⟨Q,hQ,eQ,hok⟩:=zNT (fu:=fu) hf hs
  have efr:zD2 fu Q=some (fr Q):=zNH hf hok
  rw [hcut,zAI,hQ,zAI,efr,zGe,zD9]
  have hval:∀ R,rsB R=true->frT R=s->Q=R:=fun R hv e=>by
    obtain ⟨k1,k2,k3⟩:=zLh hv
    have hr:∀ l ∈ R,rulS fu (zER l)=l/\(32:UInt8) ∉ zER l:=fun l hl=>⟨zOn hf (k3 l hl).2 (k3 l hl).1.1 (k3 l hl).1.2,zN3 (k3 l hl).2⟩
    rw [eQ,<- e]
    unfold frT
    match R,k1,k2,hr with
    | [a],_,_,hr=>
      obtain ⟨a1,a2⟩:=hr a (by simp)
      rw [List.map_cons,List.map_nil,zLF,zGW a2]
      show ([] ++ [rulS fu (zER a)])=_
      rw [a1]
      rfl
    | [a,b],_,_,hr=>
      obtain ⟨a1,a2⟩:=hr a (by simp)
      obtain ⟨b1,b2⟩:=hr b (by simp)
      have e2:jn sepR ([a,b].map zER)=zER a++sepR++zER b:=by simp [jn]
      rw [e2,zMH a2,zGW b2]
      show ([] ++ [rulS fu (zER a)] ++ [rulS fu (zER b)])=_
      rw [a1,b1]
      rfl
    | [a,b,c],_,_,hr=>
      obtain ⟨a1,a2⟩:=hr a (by simp)
      obtain ⟨b1,b2⟩:=hr b (by simp)
      obtain ⟨c1,c2⟩:=hr c (by simp)
      have e2:jn sepR ([a,b,c].map zER)=zER a++sepR++(zER b++sepR++zER c):=by simp [jn]
      rw [e2,zMH a2,zMH b2,zGW c2]
      show ([] ++ [rulS fu (zER a)] ++ [rulS fu (zER b)] ++ [rulS fu (zER c)])=_
      rw [a1,b1,c1]
      rfl
  cases hn:(s == [])
  . have hne : s ≠ [] := by simpa using hn
    rw [show (bif (true&&(false==false)) then fr Q else default)=fr Q from rfl,Bool.false_or]
    cases hb:(fr Q==s)
    . refine ⟨_, rfl, .inl rfl, fun R hv e => ?_⟩
      obtain rfl:=hval R hv e
      have:fr Q=s:=by unfold fr;rw [hv];exact e
      rw [this] at hb
      simp at hb
    . refine ⟨_, rfl, .inr ⟨_, rfl, eq_of_beq hb, hne⟩, fun R hv e => ?_⟩
      rw [hval R hv e]
  . refine ⟨_, rfl, .inl rfl, fun R hv e => ?_⟩
    have e0:s = []:=by simpa using hn
    exact absurd (e.trans e0) (zP2 hv)
def Sm {α:Type} (o:Option α) (P:α->Prop):Prop:=∃ r,o=some r/\P r
section
variable {α β:Type}
theorem Sm.some {r:α} {P:α->Prop} (h:P r):Sm (some r) P:=⟨r,rfl,h⟩
theorem Sm.cl [Inhabited α] {o:Option α} {P:α->Prop} {k:α->Option β} {Q:β->Prop} (h:Sm o P) (hk:∀ r,P r->Sm (k r) Q):Sm (cl true o k) Q:=by
  obtain ⟨r,rfl,hr⟩:=h
  rw [zAI]
  exact hk r hr
theorem Sm.ck {o:Option α} {P:α->Prop} {b:Bool} (hb:b=true) (h:Sm o P):Sm (ck b o) P:=by rw [ck_t hb];exact h
theorem Sm.bd {e:α} {k:α->Option β} {Q:β->Prop} (h:Sm (k e) Q):Sm (bd e k) Q:=h
theorem Sm.bif {x y:Option α} {P:α->Prop} {b:Bool} (h1:b=true->Sm x P) (h2:b=false->Sm y P):Sm (bif b then x else y) P:=by
  cases b
  . exact h2 rfl
  . exact h1 rfl
theorem Sm.mono {o:Option α} {P Q:α->Prop} (h:Sm o P) (hq:∀ r,P r->Q r):Sm o Q:=let ⟨r,e,hr⟩:=h;⟨r,e,hq r hr⟩
end
abbrev TCur:=List Int × Int × Int
def COK (c:TCur):Prop:=c.1.length<=1048576/\(∀ x ∈ c.1,0<=x/\x<=255)/\0<=c.2.1
theorem zJK {n:Int} (h0:-9223372036854775808<=n) (h1:n<=9223372036854775807):IntKind.i64.wrap n=n:=IntWalk.i64_in _ (by omega)
theorem zMJ (a:Int) {m:Nat} (hm:m<=4611686018427387904):0<=bitI (fun u v=>u &&& v) .i64 a (m:Int)/\bitI (fun u v=>u &&& v) .i64 a (m:Int)<=m:=by
  unfold bitI
  dsimp only
  have h:((BitVec.ofInt IntKind.i64.bits a) &&& (BitVec.ofInt IntKind.i64.bits (m:Int))).toNat<=m:=by
    rw [BitVec.toNat_and]
    refine Nat.le_trans Nat.and_le_right ?_
    rw [show (BitVec.ofInt IntKind.i64.bits (m:Int))=BitVec.ofNat IntKind.i64.bits m from BitVec.ofInt_natCast _ _,BitVec.toNat_ofNat]
    exact Nat.mod_le _ _
  rw [zJK (by omega) (by omega)]
  omega
theorem zJD {α:Type} [Inhabited α] {xs:List α} {i:Int} (h0:0<=i) (h1:i<xs.length):gtD xs i ∈ xs:=by
  obtain ⟨n,rfl⟩:∃ n:Nat,i=(n:Int):=⟨i.toNat,by omega⟩
  have hn:n<xs.length:=by omega
  rw [zAw (List.getElem?_eq_getElem hn)]
  exact List.getElem_mem hn
theorem zPJ {fu:Nat} {b:List Int} (hf:1048577<=fu) (hb:b.length<=1048576) (hx:∀ x ∈ b,0<=x/\x<=255):Sm (zEZ fu b) COK:=by
  unfold zEZ
  refine .ck (zBt (by omega) (by omega)) ?_
  have key:∀ m i k (h:Int),i+m=b.length->m<k->0<=h->h<=1100000000->Sm (zDM fu b k h (i:Int)) fun _=>True:=by
    intro m
    induction m with
    | zero=>
      intro i k h hi hk h0 h1
      obtain ⟨k,rfl⟩:∃ q,k=q+1:=⟨k-1,by omega⟩
      obtain rfl:i=b.length:=by omega
      rw [zDM,lt_f]
      exact .some trivial
    | succ m ih=>
      intro i k h hi hk h0 h1
      obtain ⟨k,rfl⟩:∃ q,k=q+1:=⟨k-1,by omega⟩
      have hlt:i<b.length:=by omega
      have hm:=hx _ (zJD (xs:=b) (i:=(i:Int)) (by omega) (by omega))
      rw [zDM]
      refine .bd (.bif (fun _=>?_) fun _=>.some trivial)
      rw [zJK (n:=gtD b (i:Int)) (by omega) (by omega)]
      refine .ck (zBt (by omega) (by omega)) (.ck (zC2 hlt) (.ck (zBt (by omega) (by omega)) (.ck (zBt (by omega) (by omega)) (.ck (zCG (by omega)) ?_))))
      have hq:=zMJ (h*131+gtD b (i:Int)+7) (m:=1073741823) (by omega)
      exact ih (i+1) k _ (by omega) (by omega) hq.1 (Int.le_trans hq.2 (by omega))
  refine .cl (key b.length 0 fu _ (by omega) (by omega) (by omega) (by omega)) fun s _=>.some ⟨hb,hx,Int.le_refl _⟩
theorem zJx {fu:Nat} {c:TCur} (hc:COK c):Sm (zDG fu c) fun r=>COK r.2/\0<=r.1/\r.1<=255:=by
  unfold zDG
  refine .ck rfl (.ck rfl (.bif (fun h=>?_) fun h=>?_))
  . rw [decide_eq_true_eq] at h
    replace h:c.2.1<(c.1.length:Int):=h
    have hi:=hc.2.2
    have hl:=hc.1
    refine .ck (zDb.2 ⟨hi,h⟩) (.some ⟨⟨hl,hc.2.1,?_⟩,zMJ _ (m:=255) (by omega)⟩)
    show 0<=IntKind.i64.wrap (c.2.1+1)
    rw [zJK (by omega) (by omega)]
    omega
  . exact .some ⟨⟨hc.1,hc.2.1,hc.2.2⟩,zMJ _ (m:=255) (by omega)⟩
theorem zLs {x n:Int} (h0:0<=x) (hn:0<n):0<=x.tmod n/\x.tmod n<n:=⟨Int.tmod_nonneg _ h0,Int.tmod_lt_of_pos _ hn⟩
theorem zFZ {fu:Nat} {c:TCur} {n:Int} (hc:COK c):Sm (zBh fu c n) fun r=>COK r.2/\0<=r.1/\(0<n->r.1<n):=by
  unfold zBh
  refine .bif (fun h=>?_) fun h=>?_
  . rw [decide_eq_true_eq] at h
    exact .some ⟨hc,Int.le_refl _,fun h'=>by omega⟩
  . rw [decide_eq_false_iff_not] at h
    have hn:(n != 0)=true:=by simp;omega
    refine .bif (fun _=>?_) fun _=>?_
    . refine .cl (zJx hc) fun r hr => .ck hn (.some ?_)
      have:=zLs (n:=n) hr.2.1 (by omega)
      exact ⟨hr.1,this.1,fun _=>this.2⟩
    . refine .cl (zJx hc) fun r1 h1 => .cl (zJx h1.1) fun r2 h2 => .cl (zJx h2.1) fun r3 h3 => .cl (zJx h3.1) fun r4 h4 => ?_
      have a1:=h1.2;have a2:=h2.2;have a3:=h3.2;have a4:=h4.2
      refine .ck (zBt (by omega) (by omega)) (.ck (zBt (by omega) (by omega)) (.ck (zBt (by omega) (by omega)) (.ck (zBt (by omega) (by omega)) (.ck (zBt (by omega) (by omega)) (.ck (zBt (by omega) (by omega)) (.ck hn (.some ?_)))))))
      have:=zLs (x:=r1.1*16777216+r2.1*65536+r3.1*256+r4.1) (n:=n) (by omega) (by omega)
      exact ⟨h4.1,this.1,fun _=>this.2⟩
theorem zMj {fu:Nat} {c:TCur} {n:Int} (hc:COK c):Sm (zDj fu c n) fun r=>COK r.2:=by
  unfold zDj
  exact .cl (zFZ hc) fun r hr=>.some hr.1
theorem zPN {fu:Nat} {c:TCur} {l:List (List UInt8)} (hc:COK c) (hl:0<l.length):Sm (zEj fu c l) fun r=>COK r.2/\r.1 ∈ l:=by
  unfold zEj
  refine .cl (zFZ hc) fun r hr=>?_
  have h1:=hr.2.2 (by omega)
  exact .ck (zDb.2 ⟨hr.2.1,h1⟩) (.some ⟨hr.1,zJD hr.2.1 h1⟩)
theorem zFL {fu:Nat} {c:TCur} {l:List Int} (hc:COK c) (hl:0<l.length):Sm (zBr fu c l) fun r=>COK r.2/\r.1 ∈ l:=by
  unfold zBr
  refine .cl (zFZ hc) fun r hr=>?_
  have h1:=hr.2.2 (by omega)
  exact .ck (zDb.2 ⟨hr.2.1,h1⟩) (.some ⟨hr.1,zJD hr.2.1 h1⟩)
theorem zMn {α:Type} {xs:List α} {lo hi:Int}:(subL xs lo hi).length<=xs.length:=by
  unfold subL
  rw [List.length_take,List.length_drop]
  omega
theorem it3 {n:Nat} {a b c:Nat} (h:n=a*100+b*10+c) (ha:0<a) (h1:a<10) (h2:b<10) (h3:c<10):Lib.itoa (n:Int) = [UInt8.ofNat (48+a),UInt8.ofNat (48+b),UInt8.ofNat (48+c)]:=by
  rw [zHN (by omega),Int.toNat_natCast,zGQ (by omega),zGQ (by omega),zGG (by omega),show n % 10=c by omega,show n / 10 % 10=b by omega,show n / 10 / 10=a by omega]
  rfl
theorem zPF:Lib.itoa 1000 = [49,48,48,48]:=by
  rw [zHN (by omega)]
  show Lib.decDigits 1000=_
  rw [zGQ (by omega),zGQ (by omega),zGQ (by omega),zGG (by omega)]
  rfl
theorem zPf:Lib.itoa 400 = [52,48,48]:=it3 (n:=400) (a:=4) (b:=0) (c:=0) rfl (by omega) (by omega) (by omega) (by omega)
theorem zPn:Lib.itoa 500 = [53,48,48]:=it3 (n:=500) (a:=5) (b:=0) (c:=0) rfl (by omega) (by omega) (by omega) (by omega)
theorem zPa:Lib.itoa 600 = [54,48,48]:=it3 (n:=600) (a:=6) (b:=0) (c:=0) rfl (by omega) (by omega) (by omega) (by omega)
theorem zPl:Lib.itoa 700 = [55,48,48]:=it3 (n:=700) (a:=7) (b:=0) (c:=0) rfl (by omega) (by omega) (by omega) (by omega)
theorem zPr:Lib.itoa 800 = [56,48,48]:=it3 (n:=800) (a:=8) (b:=0) (c:=0) rfl (by omega) (by omega) (by omega) (by omega)
theorem zPZ:Lib.itoa 900 = [57,48,48]:=it3 (n:=900) (a:=9) (b:=0) (c:=0) rfl (by omega) (by omega) (by omega) (by omega)
def knw:List (List (List TTst)):=[[[(0,800,false),(5,800,false)]],[[(0,900,false)],[(1,500,false),(5,400,false)]],[[(2,500,false),(4,700,false)],[(5,1000,false)]],[[(0,700,false),(4,500,true)]],[[(1,1000,false)],[(0,800,false),(3,500,false),(4,800,false)],[(5,1000,false)]],[[(5,500,true)],[(5,500,false)]],[[(0,600,false)]]]
def lit:List (List UInt8):=[[110,97,109,101,62,61,56,48,48,44,112,104,111,110,101,62,61,56,48,48],[110,97,109,101,62,61,57,48,48,32,111,114,32,116,111,107,101,110,115,62,61,53,48,48,44,112,104,111,110,101,62,61,52,48,48],[115,111,117,110,100,62,61,53,48,48,44,121,101,97,114,62,61,55,48,48,32,111,114,32,112,104,111,110,101,62,61,49,48,48,48],[110,97,109,101,62,61,55,48,48,44,121,101,97,114,60,53,48,48],[116,111,107,101,110,115,62,61,49,48,48,48,32,111,114,32,110,97,109,101,62,61,56,48,48,44,99,105,116,121,62,61,53,48,48,44,121,101,97,114,62,61,56,48,48,32,111,114,32,112,104,111,110,101,62,61,49,48,48,48],[112,104,111,110,101,60,53,48,48,32,111,114,32,112,104,111,110,101,62,61,53,48,48],[110,97,109,101,62,61,54,48,48]]
theorem zO9:knw.map frT=lit:=by
  unfold knw
  simp only [List.map_cons,List.map_nil,frT,zER,zDa,jn,zPf,zPn,zPa,zPl,zPr,zPZ,zPF,cond_true,cond_false]
  rfl
theorem zPP:∀ R ∈ knw,rsB R=true:=by decide
theorem zOd:∀ s ∈ lit,s.length<=100:=by decide
def RB (r:List (List TTst)):Prop:=r ≠ []/\r.length<=3/\∀ l ∈ r,l ≠ []/\l.length<=3
theorem zOV {fu:Nat} {c:TCur} (hf:1048577<=fu) (hc:COK c):Sm (zE5 fu c) fun r=>COK r.2/\RB r.1:=by
  unfold zE5
  refine Sm.cl (zPN (l:=lit) hc (by decide)) fun p ⟨h1,h2⟩=>?_
  have hl:=zOd _ h2
  rw [<- zO9] at h2
  obtain ⟨R,hR,e⟩:=List.mem_map.1 h2
  have hv:=zPP R hR
  obtain ⟨r,hr,hk⟩:=zMl (fu:=fu) (s:=p.1) hf (by omega)
  rw [hr,zAI,hk.yes R hv e]
  obtain ⟨k1,k2,k3⟩:=zLh hv
  exact Sm.some ⟨h1,fun e=>(by have e:R = []:=e;rw [e] at k1;simp at k1),k2,fun l hl=>(k3 l hl).1⟩
theorem zMb {fu:Nat} (hf:1048577<=fu):∀ (m i k:Nat) (c:TCur) (l:List TTst),i+m=6->m<k->COK c->l.length<=3->(m=0->l ≠ [])->Sm (zC3 fu k (i:Int) c l) fun r=>COK r.1/\r.2 ≠ []/\r.2.length<=3:=by
  intro m
  induction m with
  | zero=>
    intro i k c l hi hk hc hl hn
    obtain ⟨k,rfl⟩:∃ q,k=q+1:=⟨k-1,by omega⟩
    rw [zC3,decide_eq_false (by omega),cond_false]
    exact Sm.some ⟨hc,hn rfl,hl⟩
  | succ m ih=>
    intro i k c l hi hk hc hl hn
    obtain ⟨k,rfl⟩:∃ q,k=q+1:=⟨k-1,by omega⟩
    rw [zC3,decide_eq_true (by omega),cond_true]
    by_cases h3:l.length<3
    . rw [decide_eq_true (by omega), cond_true]
      refine Sm.cl (zMj hc) fun x hx=>?_
      rw [zD9,zD9,zD9,Bool.true_and]
      refine Sm.bif (fun h=>?_) fun h=>?_
      . refine Sm.cl (zFL hx (by decide)) fun y hy => Sm.cl (zMj hy.1) fun z hz => ?_
        refine Sm.ck (zDg (by rw [List.length_singleton];omega)) (Sm.ck (zCG (by omega)) ?_)
        exact ih (i+1) k _ _ (by omega) (by omega) hz (by rw [List.length_append,List.length_singleton];omega) fun _=>by simp
      . refine Sm.ck (zCG (by omega)) ?_
        refine ih (i+1) k _ _ (by omega) (by omega) hx hl fun e hl0=>?_
        have h5:i=5:=by omega
        subst h5
        rw [hl0,Bool.or_eq_false_iff] at h
        exact absurd h.2 (by decide)
    . rw [decide_eq_false (by omega), cond_false]
      refine Sm.ck (zCG (by omega)) ?_
      exact ih (i+1) k _ _ (by omega) (by omega) hc hl fun _ e=>by rw [e] at h3;exact h3 (by decide)
theorem zME {fu:Nat} (hf:1048577<=fu):∀ (n k:Nat) (c:TCur) (r:List (List TTst)),n<k->COK c->r.length+n<=3->(n=0->r ≠ [])->(∀ l ∈ r,l ≠ []/\l.length<=3)->Sm (zCY fu k (n:Int) c r) fun q=>COK q.1/\RB q.2:=by
  intro n
  induction n with
  | zero=>
    intro k c r hk hc hr hn hl
    obtain ⟨k,rfl⟩:∃ q,k=q+1:=⟨k-1,by omega⟩
    rw [zCY,decide_eq_false (by omega),cond_false]
    exact Sm.some ⟨hc,hn rfl,(by show r.length<=3;omega),hl⟩
  | succ n ih=>
    intro k c r hk hc hr hn hl
    obtain ⟨k,rfl⟩:∃ q,k=q+1:=⟨k-1,by omega⟩
    rw [zCY,decide_eq_true (by omega),cond_true]
    refine Sm.cl (zMb hf 6 0 fu c [] (by omega) (by omega) hc (Nat.zero_le _) (by omega)) fun s ⟨s1,s2,s3⟩=>?_
    refine Sm.ck (zDg (by omega)) (Sm.ck (zBt (by omega) (by omega)) ?_)
    rw [show ((n+1:Nat):Int)-1=(n:Int) by omega]
    refine ih k _ _ (by omega) s1 (by rw [List.length_append,List.length_singleton];omega) (fun _=>by simp) fun l hm=>?_
    rcases List.mem_append.1 hm with hm | hm
    . exact hl l hm
    . rw [List.mem_singleton.1 hm]
      exact ⟨s2,s3⟩
theorem zM6 {fu:Nat} {c:TCur} (hf:1048577<=fu) (hc:COK c):Sm (zDe fu c) fun r=>COK r.2/\RB r.1:=by
  unfold zDe
  refine Sm.cl (zMj hc) fun x hx=>Sm.bif (fun _=>?_) fun _=>?_
  . exact Sm.cl (zOV hf hx) fun r ⟨h1,h2⟩=>Sm.some ⟨h1,h2⟩
  . refine Sm.cl (zFZ hx) fun y ⟨h1, h2, h3⟩ => ?_
    have h3:=h3 (by decide)
    obtain ⟨n,hn⟩:∃ n:Nat,y.1=n:=⟨y.1.toNat,by omega⟩
    refine Sm.ck (zBt (by omega) (by omega)) ?_
    rw [show (1:Int)+y.1=((n+1:Nat):Int) by omega]
    exact Sm.cl (zME hf (n+1) fu _ [] (by omega) h1 (by simp;omega) (by omega) fun l hl=>by cases hl) fun s ⟨s1,s2⟩=>Sm.some ⟨s1,s2⟩
theorem zPI {fu:Nat} {c:TCur} (hf:1048577<=fu) (hc:COK c):Sm (zEd fu c) fun r=>RsOK r.1/\COK r.2:=by
  unfold zEd
  refine Sm.cl (zM6 hf hc) fun r ⟨h1,h2,h3,h4⟩=>Sm.cl (zFZ h1) fun y ⟨y1,_,_⟩=>?_
  have hp:=List.length_pos_iff.2 h2
  have hg:gtD r.1 (0:Int) ∈ r.1:=zJD (by omega) (by omega)
  have hgl:=List.length_pos_iff.2 (h4 _ hg).1
  have hok:RsOK r.1:=⟨by omega,fun l hl=>by have:=(h4 l hl).2;omega⟩
  have hset:∀ l':List TTst,l'.length<=3->RsOK (r.1.set (0:Int).toNat l'):=fun l' hl'=>by
    refine ⟨by rw [List.length_set];omega,fun l hl=>?_⟩
    rcases List.mem_or_eq_of_mem_set hl with hl | rfl
    . have:=(h4 l hl).2;omega
    . omega
  refine Sm.bif (fun _=>?_) fun _=>Sm.bif (fun _=>?_) fun _=>Sm.bif (fun _=>?_) fun _=>Sm.some ⟨hok,y1⟩
  . refine Sm.ck (zJy hp) (Sm.cl (zFL y1 (by decide)) fun z hz => Sm.ck (zJy hgl) (Sm.some ⟨?_, hz.1⟩))
    exact hset _ (by rw [List.length_set];exact (h4 _ hg).2)
  . refine Sm.ck (zJy hp) (Sm.cl (zFL y1 (by decide)) fun z hz => Sm.ck (zJy hgl) (Sm.some ⟨?_, hz.1⟩))
    exact hset _ (by rw [List.length_set];exact (h4 _ hg).2)
  . refine Sm.ck (zDg (by omega)) (Sm.some ⟨⟨by rw [List.length_append, List.length_singleton]; omega, fun l hl => ?_⟩, y1⟩)
    rcases List.mem_append.1 hl with hl | hl
    . exact hok.2 l hl
    . rw [List.mem_singleton.1 hl];exact Nat.zero_le _
theorem zOm {fu:Nat}:∀ (m i k:Nat) (c:TCur) (l:List Int),i+m=6->m<k->COK c->l.length=i->Sm (zCb fu k (i:Int) c l) fun r=>COK r.1/\r.2.length=6:=by
  intro m
  induction m with
  | zero=>
    intro i k c l hi hk hc hl
    obtain ⟨k,rfl⟩:∃ q,k=q+1:=⟨k-1,by omega⟩
    rw [zCb,decide_eq_false (by omega),cond_false]
    exact Sm.some ⟨hc,(by show l.length=6;omega)⟩
  | succ m ih=>
    intro i k c l hi hk hc hl
    obtain ⟨k,rfl⟩:∃ q,k=q+1:=⟨k-1,by omega⟩
    rw [zCb,decide_eq_true (by omega),cond_true]
    refine Sm.cl (zFL hc (by decide)) fun x hx=>Sm.ck (zDg (by rw [List.length_singleton];omega)) (Sm.ck (zCG (by omega)) ?_)
    exact ih (i+1) k _ _ (by omega) (by omega) hx.1 (by rw [List.length_append,List.length_singleton,hl])
theorem zPk {fu:Nat} {c:TCur} (hf:1048577<=fu) (hc:COK c):Sm (zE8 fu c) fun r=>COK r.2/\r.1.length=6:=by
  unfold zE8
  exact Sm.cl (zOm 6 0 fu c [] (by omega) (by omega) hc rfl) fun s ⟨h1,h2⟩=>Sm.some ⟨h1,h2⟩
theorem zNt {fu:Nat} {c:TCur} (hf:1048577<=fu) (hc:COK c):Sm (zEX fu c) fun r=>COK r.2/\r.1.length<=6:=by
  unfold zEX
  refine Sm.cl (zPk hf hc) fun x ⟨h1,h2⟩=>Sm.cl (zFZ h1) fun y ⟨y1,_,_⟩=>Sm.bif (fun _=>?_) fun _=>Sm.bif (fun _=>?_) fun _=>Sm.some ⟨y1,(by show x.1.length<=6;omega)⟩
  . exact Sm.cl (zFL y1 (by decide)) fun z hz=>Sm.ck (zJy (by omega)) (Sm.some ⟨hz.1,(by show (x.1.set _ _).length<=6;rw [List.length_set];omega)⟩)
  . refine Sm.ck (zDJ.2 ⟨by omega, by omega, by omega⟩) (Sm.some ⟨y1, ?_⟩)
    have:=zMn (xs:=x.1) (lo:=1) (hi:=(x.1.length:Int))
    show (subL x.1 1 (x.1.length:Int)).length<=6
    omega
theorem zNR {fu:Nat} {b:List Int} (hf:1048577<=fu) (hb:b.length<=1048576) (hx:∀ x ∈ b,0<=x/\x<=255):Sm (zDC fu b) fun r=>RsOK r.1/\r.2.length<=6:=by
  unfold zDC
  exact Sm.cl (zPJ hf hb hx) fun c hc=>Sm.cl (zPI hf hc) fun r ⟨r1,r2⟩=>Sm.cl (zNt hf r2) fun x ⟨_,x2⟩=>Sm.some ⟨r1,x2⟩
theorem zOk {fu:Nat} {c:TCur} (hf:1048577<=fu) (hc:COK c):Sm (zEc fu c) fun r=>COK r.2/\r.1.2.length<=600:=by
  unfold zEc
  refine Sm.cl (zM6 hf hc) fun r ⟨h1,h2,h3,h4⟩=>?_
  have hok:RsOK r.1:=⟨by omega,fun l hl=>by have:=(h4 l hl).2;omega⟩
  have hD:Sm (zC4 fu r.1) fun d=>d.1.2.length<=511:=by
    rw [zLm hf hok]
    refine Sm.some ?_
    unfold diaL
    cases hv:rsB r.1
    . exact Nat.zero_le _
    . exact zKu hv
  refine Sm.cl hD fun d hd=>Sm.cl (zFZ h1) fun y ⟨y1,_,_⟩=>Sm.bif (fun _=>?_) fun _=>Sm.bif (fun _=>?_) fun _=>Sm.some ⟨y1,by show d.1.2.length<=600;omega⟩
  . exact Sm.cl (zFL y1 (by decide)) fun z hz=>Sm.some ⟨hz.1,by show d.1.2.length<=600;omega⟩
  . refine Sm.cl (zFZ y1) fun z ⟨z1, _, _⟩ => Sm.cl (zFL z1 (by decide)) fun p hp => Sm.cl (zFZ hp.1) fun q ⟨q1, _, _⟩ => Sm.cl (zFZ q1) fun s ⟨s1, _, _⟩ => Sm.ck (zDg (by rw [List.length_singleton]; omega)) (Sm.some ⟨s1, ?_⟩)
    show (d.1.2 ++ [_]).length<=600
    rw [List.length_append,List.length_singleton]
    omega
theorem zOG {fu:Nat} {b:List Int} (hf:1048577<=fu) (hb:b.length<=1048576) (hx:∀ x ∈ b,0<=x/\x<=255):Sm (zCD fu b) fun r=>r.1.2.length<=600/\r.2.length<=6:=by
  unfold zCD
  exact Sm.cl (zPJ hf hb hx) fun c hc=>Sm.cl (zOk hf hc) fun r ⟨r1,r2⟩=>Sm.cl (zNt hf r1) fun x ⟨_,x2⟩=>Sm.some ⟨r2,x2⟩
theorem zM7 {b:Int} {ns:List zA4} (h:vdB b ns=true):ns.length<=200/\(0<=b/\b<=201)/\∀ (i:Nat) x,ns[i]? = some x->(0<=x.1/\x.1<=5)/\(1<=x.2.1/\x.2.1<=1000)/\(0<=x.2.2.1/\x.2.2.1<=201)/\(0<=x.2.2.2/\x.2.2.2<=201):=by
  unfold vdB at h
  rw [Bool.and_eq_true,Bool.and_eq_true,decide_eq_true_eq,zCi] at h
  obtain ⟨⟨h1,h2⟩,h3⟩:=h
  refine ⟨by omega,by omega,fun i x hx=>?_⟩
  have hn:zFC (badB ns) 0 ns.length=none:=by
    cases hq:zFC (badB ns) 0 ns.length with
    | none=>rfl
    | some j=>rw [hq] at h1;simp at h1
  have hi:=zDd hx
  have hb:=zH0 hn i (Nat.zero_le _) (by omega)
  unfold badB chB at hb
  rw [zAw hx] at hb
  have e:∀ {p:Int} {lo hi:Int},(!inI p lo hi)=false->lo<=p/\p<=hi:=fun h=>zCi.1 (by simpa using h)
  simp only [Bool.or_eq_false_iff,Bool.not_eq_false',Bool.and_eq_true,zCi] at hb
  omega
def zI3 (i:Nat) (x:zA4):List UInt8:=[59,32]++Lib.itoa ((i:Int)+2) ++ [58,32]++gtD zCU x.1 ++ [62,61]++Lib.itoa x.2.1 ++ [32]++Lib.itoa x.2.2.2 ++ [32]++Lib.itoa x.2.2.1
def zMF (ns:List zA4) (acc:List UInt8):List UInt8:=ns.zipIdx.foldl (fun a x=>a++zI3 x.2 x.1) acc
theorem zKr {α:Type} {xs:List α} {i:Nat} {x:α × Nat} (h:xs.zipIdx[i]? = some x):xs[i]? = some x.1/\x.2=i:=by
  rw [List.getElem?_zipIdx] at h
  cases hx:xs[i]? with
  | none=>rw [hx] at h;cases h
  | some y=>
    rw [hx] at h
    injection h with h
    subst h
    exact ⟨rfl,by simp⟩
theorem zH9 {i:Nat} {x:zA4} (hi:i<=300) (h:(0<=x.1/\x.1<=5)/\(1<=x.2.1/\x.2.1<=1000)/\(0<=x.2.2.1/\x.2.2.1<=201)/\(0<=x.2.2.2/\x.2.2.2<=201)):(zI3 i x).length<=200:=by
  have h1:=zDi (n:=(i:Int)+2) (by omega) (by omega)
  have h2:=zDi (n:=x.2.1) (by omega) (by omega)
  have h3:=zDi (n:=x.2.2.1) (by omega) (by omega)
  have h4:=zDi (n:=x.2.2.2) (by omega) (by omega)
  have h5:=zFT x.1
  unfold zI3
  simp only [List.length_append,List.length_cons,List.length_nil]
  omega
theorem zNF {fu:Nat} {b:Int} {ns:List zA4} (hf:1048577<=fu) (hn:ns.length<=1048576):zCe fu (b,ns)=some (bif vdB b ns then zMF ns ([114,111,111,116,32]++Lib.itoa b) else []):=by
  unfold zCe
  rw [zJY hn hf,zAI]
  cases hv:vdB b ns
  . rfl
  . obtain ⟨hl, hb, hx⟩ := zM7 hv
    have hb1:=zDi (n:=b) (by omega) (by omega)
    have h:=zEf (xs:=ns.zipIdx) (g:=fun a x=>a++zI3 x.2 x.1) (Inv:=fun i acc=>acc.length<=100+200*i) (L:=fun k i acc=>zB0 fu (b,ns) k acc i) (fun k i acc x hz hacc=>by
      obtain ⟨h1,h2⟩:=zKr hz
      have hi:=zDd h1
      have hq:=hx i _ h1
      have e0:=zH9 (i:=i) (by omega) hq
      have e1:=zDi (n:=(i:Int)+2) (by omega) (by omega)
      have e2:=zDi (n:=x.1.2.1) (by omega) (by omega)
      have e3:=zDi (n:=x.1.2.2.1) (by omega) (by omega)
      have e4:=zDi (n:=x.1.2.2.2) (by omega) (by omega)
      have e5:=zFT x.1.1
      have hg:gtD ns (i:Int)=x.1:=zAw h1
      show zB0 fu (b,ns) (k+1) acc (i:Int)=zB0 fu (b,ns) k (acc++zI3 x.2 x.1) ((i+1:Nat):Int)
      rw [h2]
      rw [zB0]
      dsimp only
      rw [lt_t hi, cond_true, ck_t (zC2 hi), hg, ck_t (zBI (by simp only [List.length_append, List.length_cons, List.length_nil]; omega)), ck_t (zBt (by omega) (by omega)), zFU hf (by omega) (by omega), zAI, ck_t (zBI (by simp only [List.length_append, List.length_cons, List.length_nil]; omega)), ck_t (zBI (by simp only [List.length_append, List.length_cons, List.length_nil]; omega)), zGY (by omega) (by omega), zAI, ck_t (zBI (by simp only [List.length_append, List.length_cons, List.length_nil]; omega)), ck_t (zBI (by simp only [List.length_append, List.length_cons, List.length_nil]; omega)), zFU hf (by omega) (by omega), zAI,
        ck_t (zBI (by simp only [List.length_append,List.length_cons,List.length_nil];omega)),ck_t (zBI (by simp only [List.length_append,List.length_cons,List.length_nil];omega)),zFU hf (by omega) (by omega),zAI,ck_t (zBI (by simp only [List.length_append,List.length_cons,List.length_nil];omega)),ck_t (zBI (by simp only [List.length_append,List.length_cons,List.length_nil];omega)),zFU hf (by omega) (by omega),zAI,ck_t (zBI (by simp only [List.length_append,List.length_cons,List.length_nil];omega)),ck_t (zCG (by omega)),zBj]
      unfold zI3
      simp only [List.append_assoc]) (fun i acc x hz hacc=>by
      obtain ⟨h1,h2⟩:=zKr hz
      have hi:=zDd h1
      have e0:=zH9 (i:=i) (by omega) (hx i _ h1)
      show (acc++zI3 x.2 x.1).length<=_
      rw [h2,List.length_append]
      omega) (fun k acc hacc=>by
      show zB0 fu (b,ns) (k+1) acc _=_
      rw [List.length_zipIdx,zB0]
      dsimp only
      rw [lt_f]
      rfl) (a:=[114,111,111,116,32]++Lib.itoa b) (by simp;omega) (show ns.zipIdx.length<fu by rw [List.length_zipIdx];omega)
    rw [Bool.not_true,cond_false]
    dsimp only
    rw [zFU hf (by omega) (by omega),zAI,ck_t (zBI (by simp only [List.length_append,List.length_cons,List.length_nil];omega)),h.1,zAI]
    rfl
theorem zMY {fu:Nat} {t:Int × Int × Bool} (h:0<=t.1/\t.1<=5) (h':1<=t.2.1/\t.2.1<=1000):zE4 fu t=some (gtD zCU t.1++(bif t.2.2 then [60] else [62,61])++Lib.itoa t.2.1):=by
  unfold zE4
  have e2:=zDi (n:=t.2.1) (by omega) (by omega)
  have e5:=zFT t.1
  rw [ck_t (zNk h.1 h.2),ck_t (zBI (by simp only [List.length_append,List.length_cons,List.length_nil];omega)),zHI (by omega) (by omega),zAI,ck_t (zBI (by simp only [List.length_append,List.length_cons,List.length_nil];omega)),ck_t (zBI (by simp only [List.length_append,List.length_cons,List.length_nil];omega)),zAI,ck_t (zNk h.1 h.2),ck_t (zBI (by simp only [List.length_append,List.length_cons,List.length_nil];omega))]
  cases t.2.2 <;> rfl
theorem zMs {fu:Nat} {b:Int} {ns:List zA4} (hf:1048577<=fu) (hn:ns.length<=1048576):zCf fu (b,ns)=some (bif vdB b ns then zMF ns ([114,111,111,116,32]++Lib.itoa b) else []):=by
  unfold zCf
  rw [zHX hn hf,zAI]
  cases hv:vdB b ns
  . rfl
  . obtain ⟨hl, hb, hx⟩ := zM7 hv
    have hb1:=zDi (n:=b) (by omega) (by omega)
    have h:=zEf (xs:=ns.zipIdx) (g:=fun a x=>a++zI3 x.2 x.1) (Inv:=fun i acc=>acc.length<=100+200*i) (L:=fun k i acc=>zAz fu (b,ns) k acc i) (fun k i acc x hz hacc=>by
      obtain ⟨h1,h2⟩:=zKr hz
      have hi:=zDd h1
      have hq:=hx i _ h1
      have e0:=zH9 (i:=i) (by omega) hq
      have e1:=zDi (n:=(i:Int)+2) (by omega) (by omega)
      have e2:=zDi (n:=x.1.2.1) (by omega) (by omega)
      have e3:=zDi (n:=x.1.2.2.1) (by omega) (by omega)
      have e4:=zDi (n:=x.1.2.2.2) (by omega) (by omega)
      have e5:=zFT x.1.1
      have hg:gtD ns (i:Int)=x.1:=zAw h1
      show zAz fu (b,ns) (k+1) acc (i:Int)=zAz fu (b,ns) k (acc++zI3 x.2 x.1) ((i+1:Nat):Int)
      rw [h2]
      rw [zAz]
      dsimp only
      rw [lt_t hi,cond_true,ck_t (zC2 hi),hg,ck_t (zBt (by omega) (by omega)),zHI (by omega) (by omega),zAI,ck_t (zBI (by simp only [List.length_append,List.length_cons,List.length_nil];omega)),ck_t (zBI (by simp only [List.length_append,List.length_cons,List.length_nil];omega)),zMY hq.1 hq.2.1,zAI]
      dsimp only [cond_false]
      rw [ck_t (zBI (by simp only [List.length_append,List.length_cons,List.length_nil];omega)),ck_t (zBI (by simp only [List.length_append,List.length_cons,List.length_nil];omega)),zHI (by omega) (by omega),zAI,ck_t (zBI (by simp only [List.length_append,List.length_cons,List.length_nil];omega)),ck_t (zBI (by simp only [List.length_append,List.length_cons,List.length_nil];omega)),zHI (by omega) (by omega),zAI,ck_t (zBI (by simp only [List.length_append,List.length_cons,List.length_nil];omega)),ck_t (zBI (by simp only [List.length_append,List.length_cons,List.length_nil];omega)),ck_t (zCG (by omega)),zBj]
      unfold zI3
      simp only [List.append_assoc,cond_false]) (fun i acc x hz hacc=>by
      obtain ⟨h1,h2⟩:=zKr hz
      have hi:=zDd h1
      have e0:=zH9 (i:=i) (by omega) (hx i _ h1)
      show (acc++zI3 x.2 x.1).length<=_
      rw [h2,List.length_append]
      omega) (fun k acc hacc=>by
      show zAz fu (b,ns) (k+1) acc _=_
      rw [List.length_zipIdx,zAz]
      dsimp only
      rw [lt_f]
      rfl) (a:=[114,111,111,116,32]++Lib.itoa b) (by simp;omega) (show ns.zipIdx.length<fu by rw [List.length_zipIdx];omega)
    rw [Bool.not_true,cond_false]
    dsimp only
    rw [zHI (by omega) (by omega),zAI,ck_t (zBI (by simp only [List.length_append,List.length_cons,List.length_nil];omega)),h.1,zAI]
    rfl
theorem zM5 {fu:Nat} {l:List zA4} (hf:1048577<=fu) (hl:l.length<=1048576):zAm fu l l=some true:=by
  unfold zAm
  rw [bne_self_eq_false,cond_false]
  have h:=zHQ (xs:=l) (p:=fun _=>false) (r:=false) (L:=zAS fu l l) (fun k i x hx=>by
    have hi:=zDd hx
    rw [zAS,lt_t hi,cond_true,ck_t (zC2 hi),ck_t (zC2 hi),beq_self_eq_true,Bool.not_true,cond_false,ck_t (zCG (by omega)),zBj,cond_false]) (fun k=>by rw [zAS,lt_f];rfl) (show l.length<fu by omega)
  rw [h,zAI]
  have:(l.any fun _=>false)=false:=by
    rw [<- Bool.not_eq_true,List.any_eq_true]
    rintro ⟨x,_,h⟩
    cases h
  rw [this]
  rfl
theorem zO5 {fu:Nat} {d:DgT} (hf:1048577<=fu) (hl:d.2.length<=1048576):zDD fu d d=some true:=by
  unfold zDD
  rw [beq_self_eq_true,zM5 hf hl]
  rfl
theorem zNM {r:LRu}:(diaL r).1.2.length<=511:=by
  unfold diaL
  cases hv:rsB r
  . exact Nat.zero_le _
  . exact zKu hv
theorem zIb {fu:Nat} {b:List Int} (hf:1048577<=fu) (hx:∀ x ∈ b,0<=x/\x<=255):zEB fu b=some true:=by
  unfold zEB zGV
  rw [zAI]
  cases hl:decide ((1048576:Int)<(b.length:Int))
  . rw [decide_eq_false_iff_not] at hl
    have hb:b.length<=1048576:=by omega
    rw [cond_false]
    obtain ⟨r,hr,hok,hfl⟩:=zNR (fu:=fu) hf hb hx
    obtain ⟨q,hq,q1,q2⟩:=zOG (fu:=fu) hf hb hx
    obtain ⟨⟨qb,qn⟩,qf⟩:=q
    have q1:qn.length<=600:=q1
    have q2:qf.length<=6:=q2
    obtain ⟨ze,e1,e2⟩:=zPj (b:=qb) (ns:=qn) (xs:=qf) (fu:=fu) (by omega) (by omega) hf
    obtain ⟨zt,t1,t2⟩:=zPY (b:=qb) (ns:=qn) (xs:=qf) (fu:=fu) (by omega) (by omega) hf
    have hdl:=zNM (r:=r.1)
    have hF:=zMs (fu:=fu) (b:=(diaL r.1).1.1) (ns:=(diaL r.1).1.2) hf (by omega)
    have hF':=zNF (fu:=fu) (b:=(diaL r.1).1.1) (ns:=(diaL r.1).1.2) hf (by omega)
    have kT:(true&&(false==false))=true:=rfl
    have kB:(bif true then true else (default:Bool))=true:=rfl
    generalize (bif vdB (diaL r.1).1.1 (diaL r.1).1.2 then zMF (diaL r.1).1.2 ([114,111,111,116,32]++Lib.itoa (diaL r.1).1.1) else [])=tx at hF hF'
    have hF:zCf fu (diaL r.1).1=some tx:=hF
    have hF':zCe fu (diaL r.1).1=some tx:=hF'
    rw [hr,zAI,zO8 hf hok,zAI,zLm hf hok,zAI,bne_self_eq_false,kT,zO5 hf (by omega),zAI,zD9]
    rw [show (false || !true)=false from rfl,kT,zMO (by omega) hok hf,zAI,zJr (by omega) hok hf,zAI,zD9,bne_self_eq_false,Bool.or_self,kT,hF,zAI,hF',zAI,zD9,show (tx==tx)=true from beq_self_eq_true tx,show (false || !true)=false from rfl,cond_false,hq,zAI]
    rw [e2,zAI,e1,zAI,bne_self_eq_false,kT,t2,zAI,t1,zAI,zD9,bne_self_eq_false,Bool.or_self,kT,zHX (by omega) hf,zAI,zJY (by omega) hf,zAI,zD9,bne_self_eq_false,Bool.or_self,cond_false]
    cases hv:rsB r.1 with
    | false=>
      have hd:diaL r.1=((0,[]),false):=by unfold diaL;rw [hv];rfl
      rw [hd]
      rfl
    | true=>
      have hd:diaL r.1=(diaR r.1,true):=by unfold diaL;rw [hv];rfl
      have hvd:=zHX (ns:=(diaR r.1).2) (b:=(diaR r.1).1) (fu:=fu) (by have:=zKC hv;omega) hf
      rw [zK0 hv] at hvd
      have hvd:zBF fu (diaR r.1)=some true:=hvd
      obtain ⟨b1,z,b2,b3⟩:=zOb (f:=r.2) (fu:=fu) hv (by omega) hf
      rw [hd]
      have k3:(true&&((!(diaR r.1,true).2)==false))=true:=rfl
      rw [k3,hvd,zAI]
      have k4:(true&&(true==true))=true:=rfl
      rw [k4,b1,zAI,zLR (by omega) hok hf,zAI,zD9,beq_self_eq_true]
      rw [show (true&&true)=true from rfl,k4,b3,zAI,zJa hf hok,zAI,zD9,zD9,decide_eq_true b2]
      rfl
  . rw [cond_true]
end Go.Proofs.YtmgiijdejigdhaaGreatDoor
