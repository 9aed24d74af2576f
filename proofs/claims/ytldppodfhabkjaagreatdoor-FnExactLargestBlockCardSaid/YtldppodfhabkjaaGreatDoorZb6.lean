/- Own texts laid together. No statement of the seat is proved here. -/
import Derived.Test.YtldppodfhabkjaaGreatDoorZb5
namespace Go.Proofs.YtldppodfhabkjaaGreatDoor
open Go.RowKit
set_option linter.unusedVariables false
set_option linter.unusedSimpArgs false
theorem zNx:∀ d:Nat,d<10→strB [IntKind.u8.wrap ((48:Int)+(d:Int))] = [UInt8.ofNat (48+d)]:=by
  intro d hd
  have:∀ d:Fin 10,strB [IntKind.u8.wrap ((48:Int)+((d.val:Nat):Int))] = [UInt8.ofNat (48+d.val)]:=by decide
  exact this ⟨d,hd⟩
theorem zMB (n:Int):(if n.tmod 10<0 then 0-n.tmod 10 else n.tmod 10)=((n.natAbs % 10:Nat):Int)∧(n.tdiv 10).natAbs=n.natAbs / 10:=by
  cases n with
  | ofNat u=>
    have h1:(Int.ofNat u).tmod 10=((u % 10:Nat):Int):=rfl
    have h2:(Int.ofNat u).tdiv 10=((u / 10:Nat):Int):=rfl
    rw [h1,h2]
    refine ⟨?_,?_⟩
    · rw [if_neg (by omega)];rfl
    · rw [Int.natAbs_natCast];rfl
  | negSucc u=>
    have h1:(Int.negSucc u).tmod 10 = -(((u+1) % 10:Nat):Int):=rfl
    have h2:(Int.negSucc u).tdiv 10 = -(((u+1) / 10:Nat):Int):=rfl
    rw [h1,h2,show (Int.negSucc u).natAbs=u+1 from rfl]
    refine ⟨?_,?_⟩
    · split <;> omega
    · rw [Int.natAbs_neg,Int.natAbs_natCast]
def decT (u:Nat):List UInt8:=if u=0 then [] else Lib.decDigits u
theorem zKu (u:Nat) (h:u ≠ 0):decT u=decT (u / 10) ++ [UInt8.ofNat (48+u % 10)]:=by
  unfold decT
  rw [if_neg h,Lib.decDigits]
  by_cases h10:u<10
  · rw [dif_pos h10,if_pos (by omega),List.nil_append,Nat.mod_eq_of_lt h10]
  · rw [dif_neg h10,if_neg (by omega)]
theorem zLn (k u:Nat) (h:u<10 ^ (k+1)):(decT u).length≤k+1:=by
  unfold decT
  split
  · simp
  · exact zDt k u h
theorem zGl {fu : Nat} : ∀ (k : Nat) (n : Int) (acc : List UInt8), n.natAbs < 10 ^ k → n.natAbs ≤ 9223372036854775808 → acc.length + k ≤ 1000 → ∀ q, k < q → zAy fu q n acc = some (decT n.natAbs ++ acc)
  | 0,n,acc,h,hn,hl,q,hq=>by
    obtain ⟨q,rfl⟩:∃ z,q=z+1:=⟨q-1,by omega⟩
    have:n=0:=by rw [Nat.pow_zero] at h;omega
    subst this
    rw [zAy]
    rfl
  | k+1,n,acc,h,hn,hl,q,hq=>by
    obtain ⟨q,rfl⟩:∃ z,q=z+1:=⟨q-1,by omega⟩
    by_cases h0:n=0
    · subst h0
      rw [zAy]
      rfl
    · obtain ⟨h1, h2⟩ := zMB n
      have hm:n.natAbs % 10<10:=Nat.mod_lt _ (by omega)
      have hu:n.natAbs ≠ 0:=by omega
      have hd:=zNx (n.natAbs % 10) hm
      have ih:=zGl (fu:=fu) k (n.tdiv 10) ([UInt8.ofNat (48+n.natAbs % 10)]++acc) (by rw [h2];rw [Nat.pow_succ] at h;omega) (by rw [h2];omega) (by simp;omega) q (by omega)
      have hr:-9223372036854775808≤n.tdiv 10∧n.tdiv 10≤9223372036854775807:=by
        generalize n.tdiv 10=z at h2
        omega
      have hlen:zBD (([UInt8.ofNat (48+n.natAbs % 10)]:List UInt8)++acc).length=true:=zAh (by simp;omega)
      have fin:decT (n.tdiv 10).natAbs++([UInt8.ofNat (48+n.natAbs % 10)]++acc)=decT n.natAbs++acc:=by rw [h2,zKu _ hu,List.append_assoc]
      rw [zAy,show (n != (0:Int))=true from by simpa using h0,cond_true,ck_t (show ((10:Int) != 0)=true from rfl)]
      by_cases ht:n.tmod 10<0
      · rw [if_pos ht] at h1
        rw [decide_eq_true ht,cond_true,h1,ck_t (zD7 (by omega) (by omega)),ck_t (zD7 (by omega) (by omega)),hd,ck_t hlen,ck_t (show ((10:Int) != 0)=true from rfl),ck_t (zD7 hr.1 hr.2),ih,fin]
      · rw [if_neg ht] at h1
        rw [decide_eq_false ht,cond_false,h1,ck_t (zD7 (by omega) (by omega)),hd,ck_t hlen,ck_t (show ((10:Int) != 0)=true from rfl),ck_t (zD7 hr.1 hr.2),ih,fin]
theorem zHp {fu:Nat} {n:Int} (hf:1048577≤fu) (h0:-9223372036854775808≤n) (h1:n≤9223372036854775807):zBH fu n=some (Lib.itoa n):=by
  unfold zBH
  by_cases hz:n=0
  · subst hz
    rw [show ((0:Int)==0)=true from rfl,cond_true]
    unfold Lib.itoa
    rw [if_neg (by decide),show (0:Int).toNat=0 from rfl,Lib.decDigits,dif_pos (by decide)]
    rfl
  · have hd := zGl (fu := fu) 20 n [] (by omega) (by omega) (by simp) fu (by omega)
    have hl:=zLn 19 n.natAbs (by omega)
    rw [List.append_nil] at hd
    have hu:n.natAbs ≠ 0:=by omega
    have e:decT n.natAbs=Lib.decDigits n.natAbs:=if_neg hu
    rw [show (n==(0:Int))=false from by simpa using hz,cond_false,hd,zA6]
    unfold Lib.itoa
    by_cases hneg:n<0
    · rw [decide_eq_true hneg, cond_true, if_pos hneg, ck_t (zAh (by simp; omega)), e]
      rfl
    · rw [decide_eq_false hneg,cond_false,if_neg hneg,e,show n.natAbs=n.toNat from by omega]
theorem zHb {fu:Nat} {n:Int} (h0:-9223372036854775808≤n) (h1:n≤9223372036854775807):zBa fu n=some (Lib.itoa n):=by
  unfold zBa zKm
  rw [ck_t (zD7 h0 h1)]
  rfl
theorem zMw {n:Int} (h0:-9223372036854775808≤n) (h1:n≤9223372036854775807):(Lib.itoa n).length≤21:=zJP h0 h1
end Go.Proofs.YtldppodfhabkjaaGreatDoor
namespace Go.Proofs.YtldppodfhabkjaaGreatDoor
open Go.RowKit
set_option linter.unusedVariables false
set_option linter.unusedSimpArgs false
def IsI (s:List UInt8) (n:Int):Prop:=Lib.itoa n=s∧-999999999≤n∧n≤999999999
theorem zH0 (d:Nat) (h:d<10):(UInt8.ofNat (48+d)).toNat=48+d:=by
  rw [UInt8.toNat_ofNat']
  omega
theorem zFz {u:Nat} (h:u<10):Lib.decDigits u = [UInt8.ofNat (48+u)]:=by rw [Lib.decDigits,dif_pos h]
theorem zHY {u:Nat} (h:¬ u<10):Lib.decDigits u=Lib.decDigits (u / 10) ++ [UInt8.ofNat (48+u % 10)]:=by rw [Lib.decDigits,dif_neg h]
theorem zKe (u:Nat):∀ c ∈ Lib.decDigits u,48≤c.toNat∧c.toNat≤57:=by
  induction u using Nat.strongRecOn with
  | _ u ih=>
    intro c hc
    by_cases h:u<10
    · rw [zFz h] at hc
      rw [List.mem_singleton.1 hc,zH0 u h]
      omega
    · rw [zHY h] at hc
      rcases List.mem_append.1 hc with hc | hc
      · exact ih (u / 10) (by omega) c hc
      · rw [List.mem_singleton.1 hc, zH0 _ (Nat.mod_lt _ (by omega))]
        omega
theorem zKG (u:Nat):Lib.decDigits u ≠ []:=by
  by_cases h:u<10
  · rw [zFz h];simp
  · rw [zHY h];simp
def scS (p:Nat × Nat) (c:UInt8):Nat × Nat:=if 48≤c.toNat∧c.toNat≤57 then (p.1*10+(c.toNat-48),p.2+1) else p
theorem zMC (u:Nat):(Lib.decDigits u).foldl scS (0,0)=(u,(Lib.decDigits u).length):=by
  induction u using Nat.strongRecOn with
  | _ u ih=>
    by_cases h:u<10
    · rw [zFz h]
      have:=zH0 u h
      simp only [List.foldl_cons,List.foldl_nil,scS,this,List.length_singleton]
      rw [if_pos (by omega)]
      simp
    · have hd := zH0 (u % 10) (Nat.mod_lt _ (by omega))
      rw [zHY h,List.foldl_append,ih (u / 10) (by omega)]
      simp only [List.foldl_cons,List.foldl_nil,scS,hd,List.length_append,List.length_singleton]
      rw [if_pos (by omega)]
      congr 1
      omega
theorem zNO : ∀ (s : List UInt8) (p : Nat × Nat), p.1 < 10 ^ p.2 → (s.foldl scS p).1 < 10 ^ (s.foldl scS p).2
  | [],p,h=>h
  | c::s,p,h=>by
    rw [List.foldl_cons]
    refine zNO s _ ?_
    unfold scS
    split
    · show p.1 * 10 + (c.toNat - 48) < 10 ^ (p.2 + 1)
      rw [Nat.pow_succ]
      omega
    · exact h
theorem zMI : ∀ (s : List UInt8) (p : Nat × Nat), (s.foldl scS p).2 ≤ p.2 + s.length
  | [],p=>Nat.le_refl _
  | c::s,p=>by
    have:=zMI s (scS p c)
    rw [List.foldl_cons,List.length_cons]
    have h:(scS p c).2≤p.2+1:=by
      unfold scS
      split
      · exact Nat.le_refl _
      · exact Nat.le_succ _
    omega
theorem zJU {k:Nat} (h:k≤11):10 ^ k≤100000000000:=Nat.le_trans (Nat.pow_le_pow_right (by omega) h) (by omega)
theorem zNK {fu : Nat} {s : List UInt8} (hs : s.length ≤ 1048576) : ∀ m i k (p : Nat × Nat), (i + m = s.length ∨ (m = 0 ∧ 11 ≤ i)) → i ≤ 11 → m < k → p.1 < 10 ^ p.2 → p.2 ≤ i → (s.take 11).take i = s.take i →
    zAn fu s k (p.1:Int) (p.2:Int) (i:Int)=some (((((s.take 11).drop i).foldl scS p).1:Int),((((s.take 11).drop i).foldl scS p).2:Int)):=by
  intro m
  induction m with
  | zero=>
    intro i k p hi h11 hk hp hpi ht
    obtain ⟨k,rfl⟩:∃ z,k=z+1:=⟨k-1,by omega⟩
    have hd:(s.take 11).drop i = []:=List.drop_eq_nil_of_le (by rw [List.length_take];omega)
    have hc:(decide ((i:Int)<(s.length:Int))&&decide ((i:Int)<11))=false:=by
      rw [Bool.and_eq_false_imp,decide_eq_true_eq,decide_eq_false_iff_not]
      omega
    rw [zAn,zCW,hc,cond_false,hd]
    rfl
  | succ m ih=>
    intro i k p hi h11 hk hp hpi ht
    obtain ⟨k,rfl⟩:∃ z,k=z+1:=⟨k-1,by omega⟩
    have hlt:i<s.length:=by omega
    by_cases h:i<11
    · have hc:(decide ((i:Int)<(s.length:Int))&&decide ((i:Int)<11))=true:=by
        rw [Bool.and_eq_true,decide_eq_true_eq,decide_eq_true_eq]
        omega
      have hx:=List.getElem?_eq_getElem hlt
      have hb:=zI1 hx
      have h256:s[i].toNat<256:=UInt8.toNat_lt _
      have hdrop:(s.take 11).drop i=s[i]::(s.take 11).drop (i+1):=by
        rw [List.drop_eq_getElem_cons (by rw [List.length_take];omega),List.getElem_take]
      have hpb:p.1≤100000000000:=Nat.le_of_lt (Nat.lt_of_lt_of_le hp (zJU (by omega)))
      have hw:IntKind.i64.wrap (IntKind.u8.wrap ((s[i].toNat:Int)-48))=((s[i].toNat-48:Nat):Int)∨s[i].toNat<48:=by
        rcases Nat.lt_or_ge s[i].toNat 48 with h' | h'
        · exact .inr h'
        · left
          have e:((s[i].toNat:Int)-48)=((s[i].toNat-48:Nat):Int):=by omega
          rw [e]
          have h1:IntKind.u8.wrap ((s[i].toNat-48:Nat):Int)=((s[i].toNat-48:Nat):Int):=by
            unfold IntKind.wrap
            simp [IntKind.bits,IntKind.signed]
            omega
          rw [h1]
          exact IntWalk.i64_in _ (by omega)
      have hnext:∀ q:Nat × Nat,q.1<10 ^ q.2→q.2≤i+1→zAn fu s k (q.1:Int) (q.2:Int) ((i+1:Nat):Int)=some (((((s.take 11).drop (i+1)).foldl scS q).1:Int),((((s.take 11).drop (i+1)).foldl scS q).2:Int)):=fun q h1 h2=>
        ih (i+1) k q (by omega) (by omega) (by omega) h1 h2 (by rw [List.take_take,Nat.min_eq_left (by omega)])
      rw [zAn,zCW,hc,cond_true,ck_t (zBC hlt),hb,ck_t (by rw [zBC hlt,Bool.or_true]),zCW,hdrop,List.foldl_cons]
      by_cases hdg:48≤s[i].toNat∧s[i].toNat≤57
      · have hd:(decide ((48:Int)≤(s[i].toNat:Int))&&decide ((s[i].toNat:Int)≤57))=true:=by
          rw [Bool.and_eq_true,decide_eq_true_eq,decide_eq_true_eq]
          omega
        have hw':=hw.resolve_right (by omega)
        have e:scS p s[i]=(p.1*10+(s[i].toNat-48),p.2+1):=if_pos hdg
        have hq:=hnext (p.1*10+(s[i].toNat-48),p.2+1) (by show _<10 ^ (p.2+1);rw [Nat.pow_succ];omega) (by show p.2+1≤i+1;omega)
        rw [hd,cond_true,hw',ck_t (zD7 (by omega) (by omega)),ck_t (zBC hlt),ck_t (zD7 (by omega) (by omega)),ck_t (zD7 (by omega) (by omega)),ck_t (zCl (by omega)),e,← hq]
        congr 1
      · have hd:(decide ((48:Int)≤(s[i].toNat:Int))&&decide ((s[i].toNat:Int)≤57))=false:=by
          rw [Bool.and_eq_false_imp,decide_eq_true_eq,decide_eq_false_iff_not]
          omega
        have e:scS p s[i]=p:=if_neg hdg
        rw [hd,cond_false,ck_t (zCl (by omega)),e,zB1]
        exact hnext p hp (by omega)
    · have hd : (s.take 11).drop i = [] := List.drop_eq_nil_of_le (by rw [List.length_take]; omega)
      have hc:(decide ((i:Int)<(s.length:Int))&&decide ((i:Int)<11))=false:=by
        rw [Bool.and_eq_false_imp,decide_eq_true_eq,decide_eq_false_iff_not]
        omega
      rw [zAn,zCW,hc,cond_false,hd]
      rfl
theorem zJT {n:Int} (h:0≤n):Lib.itoa n=Lib.decDigits n.toNat:=by unfold Lib.itoa;rw [if_neg (by omega)]
theorem zIW {n:Int} (h:n<0):Lib.itoa n=45::Lib.decDigits n.natAbs:=by unfold Lib.itoa;rw [if_pos h]
theorem zLb {u:Nat} (h:u≤999999999):(Lib.decDigits u).length≤9:=zDt 8 u (by omega)
theorem zHf {s:List UInt8} {n:Int} (h:IsI s n):s.length≤10∧0<s.length∧s.foldl scS (0,0)=(n.natAbs,(Lib.decDigits n.natAbs).length)∧(Lib.decDigits n.natAbs).length≤9∧(s[0]? = some 45 ↔ n<0):=by
  obtain ⟨rfl,h1,h2⟩:=h
  have hl:=zLb (u:=n.natAbs) (by omega)
  have hp:=List.length_pos_iff.2 (zKG n.natAbs)
  by_cases hn:n<0
  · rw [zIW hn]
    refine ⟨by simp;omega,by simp,?_,hl,by simp [hn]⟩
    rw [List.foldl_cons,show scS (0,0) 45=(0,0) from rfl,zMC]
  · rw [zJT (by omega), show n.toNat = n.natAbs by omega]
    refine ⟨by omega,hp,zMC _,hl,?_⟩
    constructor
    · intro h
      have:=zKe n.natAbs 45 (List.mem_of_getElem? h)
      exact absurd this.1 (by decide)
    · intro h;omega
def RdI (s:List UInt8) (r:Int × Bool):Prop:=(∃ n,IsI s n∧r=(n,true))∨((∀ n,¬ IsI s n)∧r=(0,false))
theorem zMd {s:List UInt8} {n m:Int} (h:IsI s n) (k:IsI s m):n=m:=by
  have a:=zHf h
  have b:=zHf k
  have e:n.natAbs=m.natAbs:=by
    have:=a.2.2.1.symm.trans b.2.2.1
    injection this
  have:=a.2.2.2.2
  have:=b.2.2.2.2
  by_cases hs:s[0]? = some 45
  · have := a.2.2.2.2.1 hs
    have:=b.2.2.2.2.1 hs
    omega
  · have h1 : ¬ n < 0 := fun h => hs (a.2.2.2.2.2 h)
    have h2:¬ m<0:=fun h=>hs (b.2.2.2.2.2 h)
    omega
theorem RdI.one {s:List UInt8} {r q:Int × Bool} (h:RdI s r) (k:RdI s q):r=q:=by
  rcases h with ⟨n,h1,rfl⟩ | ⟨h1,rfl⟩ <;> rcases k with ⟨m,k1,rfl⟩ | ⟨k1,rfl⟩
  · rw [zMd h1 k1]
  · exact absurd h1 (k1 n)
  · exact absurd k1 (h1 m)
  · rfl
theorem RdI.no {s:List UInt8} (h:RdI s (0,false)):∀ n,¬ IsI s n:=by
  rcases h with ⟨n,_,h⟩ | ⟨h,_⟩
  · cases h
  · exact h
theorem zLf {fu:Nat} {s:List UInt8} (hf:1048577≤fu) (hs:s.length≤1048576):∃ r,zCp fu s=some r∧RdI s r:=by
  have hsc:=zNK (fu:=fu) hs s.length 0 fu (0,0) (.inl (by omega)) (by omega) (by omega) (by decide) (Nat.le_refl _) (by simp)
  rw [List.drop_zero] at hsc
  have hlt:=zNO (s.take 11) (0,0) (by decide)
  have hct:=zMI (s.take 11) (0,0)
  have htk:(s.take 11).length≤11:=by rw [List.length_take];omega
  generalize hp:(s.take 11).foldl scS (0,0)=p at hsc hlt hct
  have hpb:p.1≤100000000000:=Nat.le_of_lt (Nat.lt_of_lt_of_le hlt (zJU (by omega)))
  have hM:zAn fu s fu 0 0 0=some ((p.1:Int),(p.2:Int)):=hsc
  have h45:((decide ((0:Int)<(s.length:Int)))&&((bAt s (0:Int))==(45:Int)))=decide (s[0]? = some 45):=by
    cases s with
    | nil=>rfl
    | cons b l=>
      have hb:bAt (b::l) (0:Int)=(b.toNat:Int):=zI1 (i:=0) rfl
      rw [hb,decide_eq_true (by simp),Bool.true_and]
      by_cases e:b=45
      · subst e;rfl
      · rw [decide_eq_false (by simpa using e), beq_eq_false_iff_ne]
        intro h
        exact e (UInt8.toNat_inj.1 (by show b.toNat=45;omega))
  have hck:(!(true&&((decide ((0:Int)<(s.length:Int)))==true)) || inR (0:Int) s.length)=true:=by
    cases s with
    | nil=>rfl
    | cons b l=>rw [zDQ.2 ⟨Int.le_refl _,by simp⟩,Bool.or_true]
  have arm : ∀ z : Int, (z = (p.1 : Int) ∧ s[0]? ≠ some 45) ∨ (z = 0 - (p.1 : Int) ∧ s[0]? = some 45) →
      ∃ r,(bd ((decide ((9:Int)<(p.2:Int))) || (decide ((10:Int)<(s.length:Int)))) fun x33=>
        cl (true&&(x33==false)) (zBH fu z) fun x35=>
        bd (x33 || (!(x35==s))) fun x37=>
        bif x37 then (some ((0:Int),false)) else (some (z,true)))=some r∧RdI s r:=by
    intro z hz
    rw [zCW]
    have key:∀ n,IsI s n→n=z∧p.2≤9∧s.length≤10:=fun n hn=>by
      obtain ⟨a1,a2,a3,a4,a5⟩:=zHf hn
      rw [List.take_of_length_le (by omega),a3] at hp
      subst hp
      refine ⟨?_,a4,a1⟩
      rcases hz with ⟨rfl,h⟩ | ⟨rfl,h⟩
      · have : ¬ n < 0 := fun hn => h (a5.2 hn)
        show n=(n.natAbs:Int)
        omega
      · have := a5.1 h
        show n=0-(n.natAbs:Int)
        omega
    cases hg:(decide ((9:Int)<(p.2:Int))) || (decide ((10:Int)<(s.length:Int)))
    · rw [Bool.or_eq_false_iff, decide_eq_false_iff_not, decide_eq_false_iff_not] at hg
      have h9:p.1<1000000000:=Nat.lt_of_lt_of_le hlt (Nat.le_trans (Nat.pow_le_pow_right (n:=10) (by omega) (show p.2≤9 by omega)) (by omega))
      rw [show (true&&(false==false))=true from rfl,zHp hf (by omega) (by omega),zA6,zCW,Bool.false_or]
      cases he:Lib.itoa z==s
      · refine ⟨_, by rw [Bool.not_false, cond_true], .inr ⟨fun n hn => ?_, rfl⟩⟩
        obtain ⟨rfl,_⟩:=key n hn
        rw [hn.1,beq_self_eq_true] at he
        cases he
      · exact ⟨_,by rw [Bool.not_true,cond_false],.inl ⟨z,⟨by simpa using he,by omega,by omega⟩,rfl⟩⟩
    · rw [show (true && (true == false)) = false from rfl, zJR, zCW, Bool.true_or, cond_true]
      refine ⟨_,rfl,.inr ⟨fun n hn=>?_,rfl⟩⟩
      obtain ⟨_,h1,h2⟩:=key n hn
      rw [Bool.or_eq_true,decide_eq_true_eq,decide_eq_true_eq] at hg
      omega
  unfold zCp
  rw [hM,zA6,ck_t hck,zCW,h45]
  by_cases hs0:s[0]? = some 45
  · rw [decide_eq_true hs0, cond_true, ck_t (zD7 (by omega) (by omega))]
    exact arm _ (.inr ⟨rfl,hs0⟩)
  · rw [decide_eq_false hs0, cond_false]
    exact arm _ (.inl ⟨rfl,hs0⟩)
theorem zKf : ∀ (xs : List UInt8) (acc v d : Nat), Lib.parseUint10 acc xs = .ok v → v < 1000000000 → d < 10 → Lib.parseUint10 acc (xs ++ [UInt8.ofNat (48 + d)]) = .ok (v * 10 + d)
  | [],acc,v,d,h,hv,hd=>by
    simp only [Lib.parseUint10] at h
    injection h with h
    subst h
    have:=zH0 d hd
    simp only [List.nil_append,Lib.parseUint10,this]
    rw [if_pos (by omega),if_neg (by omega),if_neg (by omega)]
    congr 1
    omega
  | c::xs,acc,v,d,h,hv,hd=>by
    rw [List.cons_append]
    simp only [Lib.parseUint10] at h ⊢
    split at h
    · rename_i h1
      rw [if_pos h1]
      split at h
      · cases h
      · rename_i h2
        rw [if_neg h2]
        split at h
        · cases h
        · rename_i h3
          rw [if_neg h3]
          exact zKf xs _ v d h hv hd
    · cases h
theorem zNe (u:Nat) (h:u≤999999999):Lib.parseUint10 0 (Lib.decDigits u) = .ok u:=by
  induction u using Nat.strongRecOn with
  | _ u ih=>
    by_cases h10:u<10
    · rw [zFz h10]
      have:=zKf [] 0 0 u rfl (by omega) h10
      rw [List.nil_append] at this
      simpa using this
    · rw [zHY h10, zKf _ 0 (u / 10) (u % 10) (ih (u / 10) (by omega) (by omega)) (by omega) (Nat.mod_lt _ (by omega))]
      congr 1
      omega
theorem zKc {n:Int} (h1:-999999999≤n) (h2:n≤999999999):Lib.atoiAll (Lib.itoa n) = .ok n:=by
  have hm:∀ u:Nat,u≤999999999→Lib.parseMag (Lib.decDigits u) = .ok u:=fun u hu=>by
    unfold Lib.parseMag
    rw [if_neg (zKG u),zNe u hu]
  by_cases hn:n<0
  · rw [zIW hn]
    unfold Lib.atoiAll
    simp only [show ((45:UInt8).toNat=43∨(45:UInt8).toNat=45)=True from by simp,if_true,hm n.natAbs (by omega)]
    simp only [show ((45:UInt8).toNat=45)=True from by simp,not_true,false_and,if_false,true_and,if_true]
    rw [if_neg (by omega)]
    congr 1
    omega
  · rw [zJT (by omega)]
    have hne:=zKG n.toNat
    have hdg:=zKe n.toNat
    have hm':=hm n.toNat (by omega)
    cases hd:Lib.decDigits n.toNat with
    | nil=>exact absurd hd hne
    | cons c r=>
      rw [hd] at hdg hm'
      have hc:=hdg c List.mem_cons_self
      unfold Lib.atoiAll
      simp only []
      rw [if_neg (by omega),hm']
      simp only []
      rw [if_neg (by omega),if_neg (by omega),if_neg (by omega)]
      congr 1
      omega
theorem zLz {s:List UInt8} {v:Int} (h:Lib.atoiAll s = .ok v):-9223372036854775808≤v∧v≤9223372036854775807:=by
  unfold Lib.atoiAll at h
  cases s with
  | nil=>cases h
  | cons c r=>
    simp only [] at h
    cases hm:Lib.parseMag (if c.toNat=43∨c.toNat=45 then r else c::r) with
    | ok u=>
      rw [hm] at h
      simp only [] at h
      split at h
      · cases h
      · split at h
        · cases h
        · injection h with h
          split at h <;> omega
    | _=>rw [hm] at h;cases h
theorem zLL {fu:Nat} {s:List UInt8} (hs:s.length≤1048576):∃ r,zCt fu s=some r∧RdI s r:=by
  unfold zCt zKv
  rw [ck_t (zAh (by omega)),zA6]
  have no:∀ n,IsI s n→Lib.atoiAll s = .ok n:=fun n hn=>by rw [← hn.1];exact zKc hn.2.1 hn.2.2
  have bad:∀ a:Int,(∀ n,¬ IsI s n)→∃ r,(cl (true&&(true==false)) (zBa fu a) fun x4=>
      bd (true || (!(x4==s))) fun x6=>
      cl (true&&(x6==false)) (zBX fu a (-999999999:Int) (999999999:Int)) fun x8=>
      bd (x6 || (!x8)) fun x10=>
      bif x10 then (some ((0:Int),false)) else (some (a,true)))=some r∧RdI s r:=fun a h=>⟨_,rfl,.inr ⟨h,rfl⟩⟩
  cases hc:Lib.atoiAll s with
  | range=>
    have e:zIg s=(Lib.atoiSat s,true):=by unfold zIg;rw [hc]
    rw [e]
    exact bad _ fun n hn=>by rw [no n hn] at hc;cases hc
  | ok v=>
    have e:zIg s=(v,false):=by unfold zIg;rw [hc]
    have hv:=zLz hc
    rw [e]
    dsimp only
    rw [show (true&&(false==false))=true from rfl,zHb hv.1 hv.2,zA6,zCW,Bool.false_or]
    have key:∀ n,IsI s n→n=v:=fun n hn=>by
      have:=(no n hn).symm.trans hc
      injection this
    cases he:Lib.itoa v==s
    · rw [Bool.not_false, show (true && (true == false)) = false from rfl, zJR, zCW, Bool.true_or, cond_true]
      refine ⟨_,rfl,.inr ⟨fun n hn=>?_,rfl⟩⟩
      obtain rfl:=key n hn
      rw [hn.1,beq_self_eq_true] at he
      cases he
    · rw [Bool.not_true, show (true && (false == false)) = true from rfl, show zBX fu v (-999999999) 999999999 = some (decide (-999999999 ≤ v) && decide (v ≤ 999999999)) from rfl, zA6, zCW, Bool.false_or]
      cases hw:decide (-999999999≤v)&&decide (v≤999999999)
      · rw [Bool.not_false, cond_true]
        refine ⟨_,rfl,.inr ⟨fun n hn=>?_,rfl⟩⟩
        obtain rfl:=key n hn
        rw [decide_eq_true hn.2.1,decide_eq_true hn.2.2] at hw
        cases hw
      · rw [Bool.not_true, cond_false]
        rw [Bool.and_eq_true,decide_eq_true_eq,decide_eq_true_eq] at hw
        exact ⟨_,rfl,.inl ⟨v,⟨by simpa using he,hw.1,hw.2⟩,rfl⟩⟩
  | _=>
    have e:zIg s=(0,true):=by unfold zIg;rw [hc]
    rw [e]
    exact bad 0 fun n hn=>by rw [no n hn] at hc;cases hc
end Go.Proofs.YtldppodfhabkjaaGreatDoor
namespace Go.Proofs.YtldppodfhabkjaaGreatDoor
open Go.RowKit
set_option linter.unusedVariables false
set_option linter.unusedSimpArgs false
theorem zFq {fu:Nat} {x lo hi:Int}:zBX fu x lo hi=some (inI x lo hi):=rfl
theorem zNT {n:Int} (h0:-9223372036854775808≤n) (h1:n≤9223372036854775807):IntKind.i64.wrap n=n:=IntWalk.i64_in _ (by omega)
def ntC (c:UInt8):Bool:=!(inI c.toNat 32 126)
def txB (s:List UInt8):Bool:=!(s.any ntC)&&decide (s.length≤40)
theorem zNN {n:Nat}:decide ((n:Int)≤(40:Int))=decide (n≤40):=by
  by_cases h:n≤40
  · rw [decide_eq_true h,decide_eq_true (by omega)]
  · rw [decide_eq_false h,decide_eq_false (by omega)]
theorem zLm {fu:Nat} {s:List UInt8} (hf:s.length<fu) (hl:s.length≤1048576):zDa fu s=some (txB s):=by
  unfold zDa
  have h:=zFB (xs:=s) (p:=ntC) (r:=false) (L:=zBz fu s) (fun k i c hc=>by
    have hi:=zCm hc
    have hcu:c.toNat<256:=c.toNat_lt
    rw [zBz,lt_t hi,cond_true,ck_t (zBC hi),zDw hc,zNT (by omega) (by omega),zFq,zA6,zB1,ck_t (zCF (by omega))]
    rfl) (fun k=>by rw [zBz,lt_f];rfl) hf
  rw [h,zA6,zNN]
  unfold txB
  cases s.any ntC <;> rfl
theorem zLp {fu:Nat} {s:List UInt8} (hf:s.length<fu) (hl:s.length≤1048576):zDb fu s=some (txB s):=by
  unfold zDb
  have h:=zFB (xs:=s) (p:=ntC) (r:=false) (L:=zBw fu s) (fun k i c hc=>by
    have hi:=zCm hc
    have e:(decide ((c.toNat:Int)<(32:Int)) || decide ((126:Int)<(c.toNat:Int)))=ntC c:=by
      unfold ntC inI
      by_cases h1:(32:Int)≤(c.toNat:Int)
      · by_cases h2 : (c.toNat : Int) ≤ 126
        · rw [decide_eq_true h1,decide_eq_true h2,decide_eq_false (by omega),decide_eq_false (by omega)];rfl
        · rw [decide_eq_true h1,decide_eq_false h2,decide_eq_false (by omega),decide_eq_true (by omega)];rfl
      · rw [decide_eq_false h1,decide_eq_true (by omega),Bool.true_or,Bool.false_and];rfl
    rw [zBw,lt_t hi,cond_true,ck_t (zBC hi),zBC hi,Bool.or_true,zCz,zDw hc,zCW,e,zB1,ck_t (zCF (by omega))]) (fun k=>by rw [zBw,lt_f];rfl) hf
  rw [h,zA6,zNN]
  unfold txB
  cases s.any ntC <;> rfl
def pcC (c:UInt8):Bool:=((c.toNat:Int)==(124:Int)) || ((c.toNat:Int)==(59:Int))
def flB (s:List UInt8):Bool:=txB s && !(s.any pcC)
theorem zNB (c:UInt8):([124,59]:List UInt8).contains c=pcC c:=by
  revert c
  refine zJb ?_
  decide +kernel
theorem zMK : ∀ s : List UInt8, Lib.containsAny s [124, 59] = s.any pcC
  | []=>rfl
  | b::l=>by
    have ih:=zMK l
    have hg:=Lib.indexAny_ge [124,59] l
    unfold Lib.containsAny at ih ⊢
    rw [Lib.indexAny,List.any_cons,← ih,zNB]
    cases pcC b
    · rw [if_neg (by decide), Bool.false_or]
      by_cases h:Lib.indexAny l [124,59] = -1
      · rw [if_pos (by simpa using h),h]
      · rw [if_neg (by simpa using h),decide_eq_true (by omega),decide_eq_true (by omega)]
    · rw [if_pos rfl];rfl
theorem zML {s:List UInt8} (h:txB s=true):(s.all fun b=>decide (b.toNat<128))=true∧s.length≤40:=by
  unfold txB at h
  rw [Bool.and_eq_true,decide_eq_true_eq,Bool.not_eq_true',List.any_eq_false] at h
  refine ⟨?_,h.2⟩
  rw [List.all_eq_true]
  intro b hb
  have:=h.1 b hb
  unfold ntC inI at this
  rw [Bool.not_eq_true,Bool.not_eq_false',Bool.and_eq_true,decide_eq_true_eq,decide_eq_true_eq] at this
  exact decide_eq_true (by omega)
theorem zM6 {fu:Nat} {s:List UInt8} (hf:s.length<fu) (hl:s.length≤1048576):zDD fu s=some (flB s):=by
  unfold zDD flB
  rw [zLm hf hl,zA6]
  cases h:txB s with
  | false=>rfl
  | true=>
    obtain ⟨h1,h2⟩:=zML h
    unfold zEZ
    rw [h1,decide_eq_true (show s.length<4294967281 by omega),show ((true&&decide (([124,59]:List UInt8).length<4294967281))&&true&&(([124,59]:List UInt8).all fun b=>decide (b.toNat<128)))=true from rfl,zCz,zMK]
    rfl
theorem zM7 {fu:Nat} {s:List UInt8} (hf:s.length<fu) (hl:s.length≤1048576):zDG fu s=some (flB s):=by
  unfold zDG
  have h:=zFB (xs:=s) (p:=pcC) (r:=false) (L:=zBg fu s) (fun k i c hc=>by
    have hi:=zCm hc
    rw [zBg,lt_t hi,cond_true,ck_t (zBC hi),zBC hi,Bool.or_true,zCz,zDw hc,zCW,zB1,ck_t (zCF (by omega))]
    rfl) (fun k=>by rw [zBg,lt_f];rfl) hf
  rw [h,zA6,zLp hf hl]
  unfold flB
  cases s.any pcC
  · rw [Bool.not_false,Bool.and_true];rfl
  · rw [Bool.not_true,Bool.and_false];rfl
abbrev RecT:=Int × Int × Int × List (List UInt8)
def recB (r:RecT):Bool:=((inI r.1 0 3&&inI r.2.1 1 99)&&inI r.2.2.1 1 999)&&(((r.2.2.2.length:Int)==(4:Int)) && !(r.2.2.2.any fun s=>!(flB s)))
def zIO (r:RecT):Prop:=r.2.2.2.length≤1048576∧∀ s ∈ r.2.2.2,s.length≤1048576
theorem zJ3 {fu:Nat} {l:List (List UInt8)} {F:List UInt8→Option Bool} {p:List UInt8→Bool} (hF:∀ x ∈ l,F x=some (p x)) (hf:l.length<fu) (hl:l.length≤1048576):zAi fu l F=some (l.any p):=by
  unfold zAi zB6
  have h:=zL1 (xs:=l) (p:=p) (L:=zAO fu l F) (fun k i y hy=>by
    have hi:=zCm hy
    rw [zAO,lt_t hi,cond_true,ck_t (zBC hi),zAu hy,hF y (zDX hy),zA6,zB1,ck_t (zCF (by omega))]) (fun k=>by rw [zAO,lt_f];rfl) hf
  rw [h,zA6]
  cases hi:ixI 0 (l.map p) with
  | none=>
    have h2:=zI3 hi
    have:l.any p=false:=by
      rw [List.any_eq_false]
      intro y hy
      have:=h2 (p y) (List.mem_map_of_mem hy)
      simp [this]
    rw [this]
    rfl
  | some j=>
    obtain ⟨_,h2,_⟩:=zI8 hi
    have:l.any p=true:=by
      rw [Nat.sub_zero,List.getElem?_map] at h2
      obtain ⟨y,hy,e⟩:=Option.map_eq_some_iff.1 h2
      rw [List.any_eq_true]
      exact ⟨y,List.mem_of_getElem? hy,e⟩
    rw [this]
    show some (decide (0≤(j:Int)))=some true
    rw [decide_eq_true (by omega)]
theorem zKM {fu:Nat} {r:RecT} (hf:1048577≤fu) (h:zIO r):zC1 fu r=some (recB r):=by
  unfold zC1 recB
  rw [zFq,zFq,zFq,zJ3 (p:=fun s=>!(flB s)) (fun s hs=>by
    unfold zC9
    rw [zM6 (by have:=h.2 s hs;omega) (h.2 s hs)]
    rfl) (by have:=h.1;omega) h.1]
  generalize inI r.1 0 3=a
  generalize inI r.2.1 1 99=b
  generalize inI r.2.2.1 1 999=c
  generalize ((r.2.2.2.length:Int)==(4:Int))=d
  generalize (r.2.2.2.any fun s=>!(flB s))=e
  cases a <;> cases b <;> cases c <;> cases d <;> cases e <;> rfl
theorem zIM {fu:Nat} {r:RecT} (hf:1048577≤fu) (h:zIO r):zBY fu r=some (recB r):=by
  unfold zBY recB
  have hl:=zFB (xs:=r.2.2.2) (p:=fun s=>!(flB s)) (r:=false) (L:=zAx fu r) (fun k i s hs=>by
    have hi:=zCm hs
    have h1:=h.1
    have h2:=h.2 s (zDX hs)
    rw [zAx,lt_t hi,cond_true,ck_t (zBC hi),zAu hs,zM7 (by omega) h2,zA6,zB1,ck_t (zCF (by omega))]) (fun k=>by rw [zAx,lt_f];rfl) (show r.2.2.2.length<fu by have:=h.1;omega)
  rw [hl,zA6,zJY,zJY,zJY]
  generalize inI r.1 0 3=a
  generalize inI r.2.1 1 99=b
  generalize inI r.2.2.1 1 999=c
  generalize ((r.2.2.2.length:Int)==(4:Int))=d
  generalize (r.2.2.2.any fun s=>!(flB s))=e
  cases a <;> cases b <;> cases c <;> cases d <;> cases e <;> rfl
theorem zK1 {r:RecT} (h:recB r=true):∃ a b c d:List UInt8,r.2.2.2 = [a,b,c,d]∧a.length≤40∧b.length≤40∧c.length≤40∧d.length≤40:=by
  unfold recB at h
  rw [Bool.and_eq_true] at h
  obtain ⟨_,h⟩:=h
  rw [Bool.and_eq_true,Bool.not_eq_true',List.any_eq_false] at h
  obtain ⟨h1,h2⟩:=h
  have hl:∀ s ∈ r.2.2.2,s.length≤40:=fun s hs=>by
    have:=h2 s hs
    unfold flB at this
    rw [Bool.not_eq_true,Bool.not_eq_false',Bool.and_eq_true] at this
    exact (zML this.1).2
  rw [beq_iff_eq] at h1
  generalize r.2.2.2=l at h1 hl
  match l,h1,hl with
  | [a,b,c,d],_,hl=>exact ⟨a,b,c,d,rfl,hl a (by simp),hl b (by simp),hl c (by simp),hl d (by simp)⟩
  | [],h1,_=>simp at h1
  | [_],h1,_=>simp at h1
  | [_,_],h1,_=>simp at h1
  | [_,_,_],h1,_=>simp at h1
  | _::_::_::_::_::_,h1,_=>simp at h1;omega
def dgC (c:UInt8):Bool:=dgI c.toNat
def dgL (s:List UInt8):List UInt8:=s.filter dgC
theorem zME (s:List UInt8):dgL s=s.foldl (fun (a:List UInt8) c=>bif dgC c then a ++ [c] else a) []:=by
  have key:∀ (s a:List UInt8),s.foldl (fun (a:List UInt8) c=>bif dgC c then a ++ [c] else a) a=a++s.filter dgC:=by
    intro s
    induction s with
    | nil=>intro a;simp
    | cons c s ih=>
      intro a
      rw [List.foldl_cons,ih,List.filter_cons]
      cases dgC c <;> simp
  rw [key,List.nil_append]
  rfl
theorem zLl {fu:Nat} {s:List UInt8} (hf:s.length<fu) (hl:s.length≤1048576):zCq fu s=some (dgL s):=by
  unfold zCq
  have h:=zCf (xs:=s) (g:=fun (a:List UInt8) c=>bif dgC c then a ++ [c] else a) (Inv:=fun i a=>a.length≤i) (L:=fun k i (a:List UInt8)=>(zAs fu s k i (bytL a)).map strB) (fun k i a c hc ha=>by
    have hi:=zCm hc
    rw [zAs,lt_t hi,cond_true,ck_t (zBC hi),zBC hi,zCz,zDw hc,show zCj fu (c.toNat:Int)=some (dgC c) from rfl,zA6,zAh (by rw [zBk];show a.length+1≤4294967296;omega),zCz,zB1,zCF (show i≤4294967296 by omega),zCz,zCz]
    cases dgC c
    · rfl
    · rw [cond_true,cond_true,zEI,zD3]) (fun i a c hc ha=>by
    show (bif dgC c then a ++ [c] else a).length≤i+1
    cases dgC c
    · exact Nat.le_succ_of_le ha
    · rw [cond_true,List.length_append,List.length_singleton];omega) (fun k a ha=>by rw [zAs,lt_f,cond_false,Option.map_some,zDc]) (a:=[]) (Nat.zero_le _) hf
  rw [zME,← h.1]
  show cl true (zAs fu s fu 0 (bytL [])) _=_
  cases zAs fu s fu 0 (bytL []) <;> rfl
theorem zLQ {fu:Nat} {s:List UInt8} (hf:s.length<fu) (hl:s.length≤1048576):zCn fu s=some (dgL s):=by
  unfold zCn
  have h:=zCf (xs:=s) (g:=fun (a:List UInt8) c=>bif dgC c then a ++ [c] else a) (Inv:=fun i a=>a.length≤i) (L:=fun k i (a:List UInt8)=>(zAt fu s k i (bytL a)).map strB) (fun k i a c hc ha=>by
    have hi:=zCm hc
    rw [zAt,lt_t hi,cond_true,ck_t (zBC hi),zBC hi,Bool.or_true,zCz,zCz,zDw hc,zCW,show (decide ((48:Int)≤(c.toNat:Int))&&decide ((c.toNat:Int)≤(57:Int)))=dgC c from rfl,zAh (by rw [zBk];show a.length+1≤4294967296;omega),zCz,zB1,zCF (show i≤4294967296 by omega),zCz,zCz]
    cases dgC c
    · rfl
    · rw [cond_true,cond_true,zEI,zD3]) (fun i a c hc ha=>by
    show (bif dgC c then a ++ [c] else a).length≤i+1
    cases dgC c
    · exact Nat.le_succ_of_le ha
    · rw [cond_true,List.length_append,List.length_singleton];omega) (fun k a ha=>by rw [zAt,lt_f,cond_false,Option.map_some,zDc]) (a:=[]) (Nat.zero_le _) hf
  rw [zME,← h.1]
  show cl true (zAt fu s fu 0 (bytL [])) _=_
  cases zAt fu s fu 0 (bytL []) <;> rfl
theorem zIx (s:List UInt8):(dgL s).length≤s.length:=List.length_filter_le _ _
def YrI (s:List UInt8) (y:Int):Prop:=∃ r,RdI s r∧y=bif r.2&&inI r.1 1000 9999 then r.1 else 0
theorem YrI.one {s:List UInt8} {y z:Int} (h:YrI s y) (k:YrI s z):y=z:=by
  obtain ⟨r,h1,rfl⟩:=h
  obtain ⟨q,k1,rfl⟩:=k
  rw [h1.one k1]
theorem YrI.range {s:List UInt8} {y:Int} (h:YrI s y):y=0∨(1000≤y∧y≤9999):=by
  obtain ⟨r,_,rfl⟩:=h
  cases hb:r.2&&inI r.1 1000 9999
  · exact .inl rfl
  · right
    rw [Bool.and_eq_true] at hb
    have:=hb.2
    unfold inI at this
    rw [Bool.and_eq_true,decide_eq_true_eq,decide_eq_true_eq] at this
    exact this
theorem zLh {fu:Nat} {s:List UInt8} (hs:s.length≤1048576):∃ y,zBb fu s=some y∧YrI s y:=by
  obtain ⟨r,h1,h2⟩:=zLL (fu:=fu) hs
  refine ⟨_,?_,r,h2,rfl⟩
  unfold zBb
  rw [h1,zA6,zFq]
  generalize inI r.1 1000 9999=b
  cases r.2 <;> cases b <;> rfl
theorem zJL {fu:Nat} {s:List UInt8} (hf:1048577≤fu) (hs:s.length≤1048576):∃ y,zBd fu s=some y∧YrI s y:=by
  obtain ⟨r,h1,h2⟩:=zLf (fu:=fu) hf hs
  refine ⟨_,?_,r,h2,rfl⟩
  unfold zBd
  rw [h1,zA6,zJY]
  generalize inI r.1 1000 9999=b
  cases r.2 <;> cases b <;> rfl
theorem zNS {s:List UInt8} (hs:s.length≤1048576):∃ y:Int,(y=0∨(1000≤y∧y≤9999))∧YrI s y∧∀ fu,1048577≤fu→zBb fu s=some y∧zBd fu s=some y:=by
  obtain ⟨y,h1,h2⟩:=zJL (fu:=1048577) (Nat.le_refl _) hs
  refine ⟨y,h2.range,h2,fun fu hf=>?_⟩
  obtain ⟨a,a1,a2⟩:=zLh (fu:=fu) hs
  obtain ⟨b,b1,b2⟩:=zJL (fu:=fu) hf hs
  rw [a1,b1,a2.one h2,b2.one h2]
  exact ⟨rfl,rfl⟩
end Go.Proofs.YtldppodfhabkjaaGreatDoor
namespace Go.Proofs.YtldppodfhabkjaaGreatDoor
open Go.RowKit
set_option linter.unusedVariables false
set_option linter.unusedSimpArgs false
theorem zGc {α β : Type} {xs : List α} {f : α → β} {a0 : List β} {L : Nat → Int → List β → Option (List β)}
    (hs:∀ k (i:Nat) a x,xs[i]? = some x→a.length=a0.length+i→L (k+1) (i:Int) a=L k ((i+1:Nat):Int) (a ++ [f x])) (he:∀ k a,L (k+1) (xs.length:Int) a=some a) {fu:Nat} (hf:xs.length<fu) :
    L fu (0:Int) a0=some (a0++xs.map f):=by
  have h:=zCf (xs:=xs) (g:=fun (a:List β) x=>a ++ [f x]) (Inv:=fun i a=>a.length=a0.length+i) (L:=L) hs (fun i a x hx ha=>by rw [List.length_append,List.length_singleton];omega) (fun k a _=>he k a) (a:=a0) rfl hf
  rw [h.1]
  congr 1
  have key:∀ (xs:List α) (a:List β),xs.foldl (fun (a:List β) x=>a ++ [f x]) a=a++xs.map f:=by
    intro xs
    induction xs with
    | nil=>intro a;simp
    | cons x xs ih=>intro a;rw [List.foldl_cons,ih];simp
  exact key xs a0
theorem zH9 {α : Type} {xs : List α} {f : α → List UInt8} {a0 : List (List UInt8)} {L : Nat → Int → List (List UInt8) → Option (List (List UInt8))}
    (hs:∀ k (i:Nat) a x,xs[i]? = some x→a.length≤a0.length+i→L (k+1) (i:Int) a=L k ((i+1:Nat):Int) (putS bLt a (f x))) (he:∀ k a,L (k+1) (xs.length:Int) a=some a) {fu:Nat} (hf:xs.length<fu) :
    L fu (0:Int) a0=some ((xs.map f).foldl (putS bLt) a0)∧((xs.map f).foldl (putS bLt) a0).length≤a0.length+xs.length:=by
  have h:=zCf (xs:=xs) (g:=fun (a:List (List UInt8)) x=>putS bLt a (f x)) (Inv:=fun i a=>a.length≤a0.length+i) (L:=L) hs (fun i a x hx ha=>by
    show (putS bLt a (f x)).length≤a0.length+(i+1)
    unfold putS putW
    cases (a[plc bLt (f x) a]? == some (f x))
    · rw [cond_false,zDu];omega
    · rw [cond_true];omega) (fun k a _=>he k a) (a:=a0) (Nat.le_refl _) hf
  rw [List.foldl_map]
  exact h
def k1L (n:List UInt8):List (List UInt8):=(skL n).map ([115] ++ ·)
def k2L (d:List UInt8):List (List UInt8):=bif decide (4≤(dgL d).length) then [[112]++(dgL d).drop ((dgL d).length-4)] else []
def k3L (n:List UInt8) (y:Int):List (List UInt8):=bif decide (0<y) then (tokL n).map (fun t=>([121]++Lib.itoa y)++t.take 1) else []
def bkL (n d:List UInt8) (y:Int):List (List UInt8):=setL ((k1L n++k2L d)++k3L n y)
theorem zHh {t:List UInt8}:subL t 0 (1:Int)=t.take 1:=by
  rw [show ((1:Int))=((1:Nat):Int) from rfl,zF5]
theorem dec4 {n:Nat}:decide ((4:Int)≤(n:Int))=decide (4≤n):=by
  by_cases h:4≤n
  · rw [decide_eq_true h,decide_eq_true (by omega)]
  · rw [decide_eq_false h,decide_eq_false (by omega)]
theorem sub4 {l:List UInt8} (h:4≤l.length):subL l ((l.length:Int)-4) (l.length:Int)=l.drop (l.length-4):=by
  rw [show ((l.length:Int)-4)=((l.length-4:Nat):Int) by omega,zIN]
theorem zLA {y:Int} (h:y=0∨(1000≤y∧y≤9999)):(Lib.itoa y).length≤21:=zMw (by omega) (by omega)
theorem zHc {n t:List UInt8} (hn:n.length≤40) (h:t ∈ tokL n):1≤t.length∧t.length≤80:=by
  obtain ⟨h1,h2,_⟩:=zI9 h
  have:t.length ≠ 0:=fun e=>h1 (List.eq_nil_of_length_eq_zero e)
  omega
theorem zLM {fu:Nat} {r:RecT} {a b c d:List UInt8} {y:Int} (hf:1048577≤fu) (hr:r.2.2.2 = [a,b,c,d]) (ha:a.length≤40) (hc:c.length≤40) (hd:d.length≤40) (hy:y=0∨(1000≤y∧y≤9999)) (hyp:zBb fu c=some y):zBx fu r=some (bkL a d y):=by
  have hsk:=zJ2 a
  have htk:=zFG a
  have hdg:=zIx d
  have hit:=zLA hy
  unfold zBx
  rw [hr,show inR (0:Int) ([a,b,c,d]:List (List UInt8)).length=true from rfl,show inR (3:Int) ([a,b,c,d]:List (List UInt8)).length=true from rfl,show inR (2:Int) ([a,b,c,d]:List (List UInt8)).length=true from rfl,show gtD [a,b,c,d] (0:Int)=a from rfl,show gtD [a,b,c,d] (3:Int)=d from rfl,show gtD [a,b,c,d] (2:Int)=c from rfl]
  simp only [zCz]
  rw [zLq hf (by omega),zA6]
  have h1:=zGc (xs:=skL a) (f:=([115] ++ ·)) (a0:=[]) (L:=zBO fu (skL a)) (fun k i acc x hx hacc=>by
    have hi:=zCm hx
    have hx4:=zJB (zDX hx)
    have hacc:acc.length=0+i:=hacc
    rw [zBO,lt_t hi,cond_true,ck_t (zBC hi),zAu hx,ck_t (zAh (by simp;omega)),ck_t (zAh (by simp;omega)),zB1,ck_t (zCF (by omega))]) (fun k a=>by rw [zBO,lt_f,cond_false]) (fu:=fu) (by omega)
  rw [h1,zA6,List.nil_append,zLl (by omega) (by omega),zA6,hyp,dec4]
  have hk1:(k1L a).length=(skL a).length:=by simp [k1L]
  have h3:∀ (acc0:List (List UInt8)),acc0.length≤1000→0<y→zB8 fu y (tokL a) fu (0:Int) acc0=some (acc0++k3L a y)∧zBA fu y (tokL a) fu (0:Int) acc0=some (acc0++k3L a y):=fun acc0 h0 hy0=>by
    have e:k3L a y=(tokL a).map fun t=>([121]++Lib.itoa y)++t.take 1:=by unfold k3L;rw [decide_eq_true hy0];rfl
    rw [e]
    constructor
    · refine zGc (xs := tokL a) (f := fun t => ([121] ++ Lib.itoa y) ++ t.take 1) (a0 := acc0) (L := zB8 fu y (tokL a)) (fun k i acc x hx hacc => ?_) (fun k a => by rw [zB8, lt_f, cond_false]) (by omega)
      have hi:=zCm hx
      have hx4:=zHc ha (zDX hx)
      rw [zB8,lt_t hi,cond_true,ck_t (zBC hi),zHb (by omega) (by omega),zA6,zAu hx,zHh,ck_t (zAh (by simp;omega)),ck_t (zBG.2 ⟨Int.le_refl _,by omega,by omega⟩),ck_t (zAh (by simp;omega)),ck_t (zAh (by simp;omega)),zB1,ck_t (zCF (by omega))]
    · refine zGc (xs := tokL a) (f := fun t => ([121] ++ Lib.itoa y) ++ t.take 1) (a0 := acc0) (L := zBA fu y (tokL a)) (fun k i acc x hx hacc => ?_) (fun k a => by rw [zBA, lt_f, cond_false]) (by omega)
      have hi:=zCm hx
      have hx4:=zHc ha (zDX hx)
      rw [zBA,lt_t hi,cond_true,ck_t (zBC hi),zHb (by omega) (by omega),zA6,zAu hx,zHh,ck_t (zAh (by simp;omega)),ck_t (zBG.2 ⟨Int.le_refl _,by omega,by omega⟩),ck_t (zAh (by simp;omega)),ck_t (zAh (by simp;omega)),zB1,ck_t (zCF (by omega))]
  have h2n:(k2L d).length≤1:=by
    unfold k2L
    cases decide (4≤(dgL d).length)
    · exact Nat.zero_le _
    · exact Nat.le_refl _
  have h3n:(k3L a y).length≤(tokL a).length:=by
    unfold k3L
    cases decide (0<y)
    · exact Nat.zero_le _
    · rw [cond_true,List.length_map];exact Nat.le_refl _
  have e1:(skL a).map ([115] ++ ·)=k1L a:=rfl
  rw [e1]
  cases h4:decide (4≤(dgL d).length) with
  | true=>
    have h44:4≤(dgL d).length:=of_decide_eq_true h4
    have e2:k1L a++([([112]:List UInt8)++subL (dgL d) (((dgL d).length:Int)-4) ((dgL d).length:Int)]:List (List UInt8))=k1L a++k2L d:=by unfold k2L;rw [h4,sub4 h44];rfl
    rw [cond_true,ck_t (zD7 (by omega) (by omega)),ck_t (zBG.2 ⟨by omega,by omega,Int.le_refl _⟩),ck_t (zAh (by rw [sub4 h44];simp;omega)),ck_t (zAh (by simp;omega)),zA6,e2]
    cases hy0:decide (0<y) with
    | true=>
      rw [cond_true,zGj hf (by omega),zA6,(h3 _ (by rw [List.length_append];omega) (of_decide_eq_true hy0)).1,zA6,zDN hf (by rw [List.length_append,List.length_append];omega),zA6]
      rfl
    | false=>
      rw [cond_false,zDN hf (by rw [List.length_append];omega),zA6]
      have:k3L a y = []:=by unfold k3L;rw [hy0];rfl
      unfold bkL
      rw [this,List.append_nil]
      rfl
  | false=>
    have e2:k1L a=k1L a++k2L d:=by unfold k2L;rw [h4];simp
    rw [cond_false,zA6,e2]
    cases hy0:decide (0<y) with
    | true=>
      rw [cond_true,zGj hf (by omega),zA6,(h3 _ (by rw [List.length_append];omega) (of_decide_eq_true hy0)).2,zA6,zDN hf (by rw [List.length_append,List.length_append];omega),zA6]
      rfl
    | false=>
      rw [cond_false,zDN hf (by rw [List.length_append];omega),zA6]
      have:k3L a y = []:=by unfold k3L;rw [hy0];rfl
      unfold bkL
      rw [this,List.append_nil]
      rfl
theorem zJe {fu:Nat} {r:RecT} {a b c d:List UInt8} {y:Int} (hf:1048577≤fu) (hok:zIO r) (hb:recB r=true) (hr:r.2.2.2 = [a,b,c,d]) (ha:a.length≤40) (hc:c.length≤40) (hd:d.length≤40) (hy:y=0∨(1000≤y∧y≤9999)) (hyp:zBd fu c=some y):zBI fu r=some (bkL a d y):=by
  have hsk:=zJ2 a
  have htk:=zFG a
  have hdg:=zIx d
  have hit:=zLA hy
  unfold zBI
  rw [zIM hf hok,zA6,hb,hr,show inR (0:Int) ([a,b,c,d]:List (List UInt8)).length=true from rfl,show inR (3:Int) ([a,b,c,d]:List (List UInt8)).length=true from rfl,show inR (2:Int) ([a,b,c,d]:List (List UInt8)).length=true from rfl,show gtD [a,b,c,d] (0:Int)=a from rfl,show gtD [a,b,c,d] (3:Int)=d from rfl,show gtD [a,b,c,d] (2:Int)=c from rfl]
  simp only [zCz,Bool.not_true,cond_false]
  rw [zLW hf (by omega),zA6]
  obtain ⟨h1,l1⟩:=zH9 (xs:=skL a) (f:=([115] ++ ·)) (a0:=[]) (L:=zBR fu (skL a)) (fun k i acc x hx hacc=>by
    have hi:=zCm hx
    have hx4:=zJB (zDX hx)
    have hacc:acc.length≤0+i:=hacc
    rw [zBR,lt_t hi,cond_true,ck_t (zBC hi),zAu hx,ck_t (zAh (by simp;omega)),zIZ (by omega) (by omega),zA6,zB1,ck_t (zCF (by omega)),cond_false]) (fun k a=>by rw [zBR,lt_f,cond_false]) (fu:=fu) (by omega)
  have l1:((k1L a).foldl (putS bLt) []).length≤(skL a).length:=by
    have:((k1L a).foldl (putS bLt) []).length≤0+(skL a).length:=l1
    omega
  rw [h1,zA6,show ((skL a).map ([115] ++ ·))=k1L a from rfl,zLQ (by omega) (by omega),zA6,hyp,zIa hf (by omega),dec4]
  have h3:∀ (acc0:List (List UInt8)),acc0.length≤1000→zAz fu (tokL a) y fu (0:Int) acc0=some ((k3L a y).foldl (putS bLt) acc0)∧zB0 fu (tokL a) y fu (0:Int) acc0=some ((k3L a y).foldl (putS bLt) acc0):=fun acc0 h0=>by
    cases hy0:decide (0<y) with
    | true=>
      have e:k3L a y=(tokL a).map fun t=>([121]++Lib.itoa y)++t.take 1:=by unfold k3L;rw [hy0];rfl
      rw [e]
      constructor
      · refine (zH9 (xs := tokL a) (f := fun t => ([121] ++ Lib.itoa y) ++ t.take 1) (a0 := acc0) (L := zAz fu (tokL a) y) (fun k i acc x hx hacc => ?_) (fun k a => by rw [zAz, lt_f, Bool.false_and, zCW, cond_false]) (by omega)).1
        have hi:=zCm hx
        have hx4:=zHc ha (zDX hx)
        rw [zAz,lt_t hi,hy0,Bool.true_and,zCW,cond_true,zHp hf (by omega) (by omega),zA6,ck_t (zAh (by simp;omega)),ck_t (zBC hi),zAu hx,zHh,ck_t (zBG.2 ⟨Int.le_refl _,by omega,by omega⟩),ck_t (zAh (by simp;omega)),zIZ (by omega) (by omega),zA6,zB1,ck_t (zCF (by omega)),cond_false]
      · refine (zH9 (xs := tokL a) (f := fun t => ([121] ++ Lib.itoa y) ++ t.take 1) (a0 := acc0) (L := zB0 fu (tokL a) y) (fun k i acc x hx hacc => ?_) (fun k a => by rw [zB0, lt_f, Bool.false_and, zCW, cond_false]) (by omega)).1
        have hi:=zCm hx
        have hx4:=zHc ha (zDX hx)
        rw [zB0,lt_t hi,hy0,Bool.true_and,zCW,cond_true,zHp hf (by omega) (by omega),zA6,ck_t (zAh (by simp;omega)),ck_t (zBC hi),zAu hx,zHh,ck_t (zBG.2 ⟨Int.le_refl _,by omega,by omega⟩),ck_t (zAh (by simp;omega)),zIZ (by omega) (by omega),zA6,zB1,ck_t (zCF (by omega)),cond_false]
    | false=>
      have e:k3L a y = []:=by unfold k3L;rw [hy0];rfl
      rw [e]
      obtain ⟨k,rfl⟩:∃ k,fu=k+1:=⟨fu-1,by omega⟩
      constructor
      · rw [zAz,hy0,Bool.and_false,zCW,cond_false];rfl
      · rw [zB0,hy0,Bool.and_false,zCW,cond_false];rfl
  have fin:(k3L a y).foldl (putS bLt) ((k2L d).foldl (putS bLt) ((k1L a).foldl (putS bLt) []))=bkL a d y:=by
    rw [← List.foldl_append,← List.foldl_append,zGY,← List.append_assoc]
    rfl
  cases h4:decide (4≤(dgL d).length) with
  | true=>
    have h44:4≤(dgL d).length:=of_decide_eq_true h4
    have e2:(k2L d).foldl (putS bLt) ((k1L a).foldl (putS bLt) [])=putS bLt ((k1L a).foldl (putS bLt) []) ([112]++(dgL d).drop ((dgL d).length-4)):=by unfold k2L;rw [h4];rfl
    have l2:(putS bLt ((k1L a).foldl (putS bLt) []) ([112]++(dgL d).drop ((dgL d).length-4))).length≤(skL a).length+1:=by
      generalize (k1L a).foldl (putS bLt) []=z at l1 ⊢
      generalize ([112]++(dgL d).drop ((dgL d).length-4):List UInt8)=x
      unfold putS putW
      cases (z[plc bLt x z]? == some x)
      · rw [cond_false,zDu];omega
      · rw [cond_true];omega
    rw [cond_true,ck_t (zD7 (by omega) (by omega)),ck_t (zBG.2 ⟨by omega,by omega,Int.le_refl _⟩),ck_t (zAh (by rw [sub4 h44];simp;omega)),zIZ (by omega) (by omega),zA6,cond_false,zA6,zA6,sub4 h44,(h3 _ (by omega)).1,zA6,← e2,fin]
  | false=>
    have e2:(k2L d).foldl (putS bLt) ((k1L a).foldl (putS bLt) [])=(k1L a).foldl (putS bLt) []:=by unfold k2L;rw [h4];rfl
    rw [cond_false,zA6,zA6,(h3 _ (by omega)).2,zA6,← e2,fin]
theorem zMg {r:RecT} (h:zD2 r≤1048576):zIO r:=by
  unfold zD2 zDW wL at h
  exact ⟨by omega,fun s hs=>Nat.le_trans (zIK (f:=fun s:List UInt8=>s.length) hs) (by omega)⟩
end Go.Proofs.YtldppodfhabkjaaGreatDoor
namespace Go.Proofs.YtldppodfhabkjaaGreatDoor
open Go.RowKit
set_option linter.unusedVariables false
set_option linter.unusedSimpArgs false
theorem zIj {fu:Nat} {a b:List (List UInt8)} (hf:1048577≤fu) (ha:a.length≤524288) (hb:b.length≤524288):zBu fu a b=some (b.foldl (putS bLt) (a.foldl (putS bLt) [])):=by
  unfold zBu
  have grow:∀ (acc:List (List UInt8)) x,(putS bLt acc x).length≤acc.length+1:=fun acc x=>by
    unfold putS putW
    cases (acc[plc bLt x acc]? == some x)
    · rw [cond_false,zDu];exact Nat.le_refl _
    · rw [cond_true];omega
  have h:=zCf (xs:=a) (g:=putS bLt) (Inv:=fun i acc=>acc.length≤i) (L:=fun k i acc=>zAm fu a k i acc) (fun k i acc x hx hacc=>by
    have hi:=zCm hx
    show zAm fu a (k+1) (i:Int) acc=_
    rw [zAm,lt_t hi,cond_true]
    simp only [zBC hi,zAu hx,zCz,zIZ (show acc.length<fu by omega) (show acc.length≤2147483648 by omega),zA6,zCF (show i≤4294967296 by omega),zB1,cond_false]) (fun i acc x hx hacc=>Nat.le_trans (grow acc x) (Nat.succ_le_succ hacc)) (fun k acc hacc=>by show zAm fu a (k+1) (a.length:Int) acc=_;rw [zAm,lt_f];rfl) (a:=[]) (Nat.zero_le _) (show a.length<fu by omega)
  have h':=zCf (xs:=b) (g:=putS bLt) (Inv:=fun i acc=>acc.length≤a.length+i) (L:=fun k i acc=>zAl fu b k i acc) (fun k i acc x hx hacc=>by
    have hi:=zCm hx
    show zAl fu b (k+1) (i:Int) acc=_
    rw [zAl,lt_t hi,cond_true]
    simp only [zBC hi,zAu hx,zCz,zIZ (show acc.length<fu by omega) (show acc.length≤2147483648 by omega),zA6,zCF (show i≤4294967296 by omega),zB1,cond_false]) (fun i acc x hx hacc=>by have:=grow acc x;show _≤a.length+(i+1);omega) (fun k acc hacc=>by show zAl fu b (k+1) (b.length:Int) acc=_;rw [zAl,lt_f];rfl) (a:=a.foldl (putS bLt) []) h.2 (show b.length<fu by omega)
  rw [h.1,zA6,h'.1,zA6]
end Go.Proofs.YtldppodfhabkjaaGreatDoor
namespace Go.Proofs.YtldppodfhabkjaaGreatDoor
open Go.RowKit
set_option linter.unusedVariables false
set_option linter.unusedSimpArgs false
def kk (r:RecT):List (List UInt8):=(zBI 1048577 r).getD []
theorem kk_t {r:RecT} (hok:zIO r) (hb:recB r=true):(∀ fu,1048577≤fu→zBI fu r=some (kk r)∧zBx fu r=some (kk r))∧(kk r).length≤200∧(∀ x ∈ kk r,x.length≤120)∧zCk bLt (kk r):=by
  obtain ⟨a,b,c,d,hr,ha,hb2,hc,hd⟩:=zK1 hb
  obtain ⟨y,hy,_,hyp⟩:=zNS (s:=c) (by omega)
  have e:kk r=bkL a d y:=by unfold kk;rw [zJe (Nat.le_refl _) hok hb hr ha hc hd hy (hyp _ (Nat.le_refl _)).2];rfl
  have hsk:=zJ2 a
  have htk:=zFG a
  have hdg:=zIx d
  have hit:=zLA hy
  have h2n:(k2L d).length≤1:=by
    unfold k2L
    cases decide (4≤(dgL d).length)
    · exact Nat.zero_le _
    · exact Nat.le_refl _
  have h3n:(k3L a y).length≤(tokL a).length:=by
    unfold k3L
    cases decide (0<y)
    · exact Nat.zero_le _
    · rw [cond_true,List.length_map];exact Nat.le_refl _
  rw [e]
  refine ⟨fun fu hf=>⟨zJe hf hok hb hr ha hc hd hy (hyp fu hf).2,zLM hf hr ha hc hd hy (hyp fu hf).1⟩,?_,fun x hx=>?_,zE9 _⟩
  · have := zE6 ((k1L a ++ k2L d) ++ k3L a y)
    rw [List.length_append,List.length_append] at this
    have hk1:(k1L a).length=(skL a).length:=by simp [k1L]
    unfold bkL
    omega
  · unfold bkL at hx
    rw [zEJ] at hx
    rcases List.mem_append.1 hx with hx | hx
    · rcases List.mem_append.1 hx with hx | hx
      · obtain ⟨t, ht, rfl⟩ := List.mem_map.1 hx
        have:=zJB ht
        simp;omega
      · unfold k2L at hx
        cases h4:decide (4≤(dgL d).length)
        · rw [h4] at hx;cases hx
        · rw [h4, cond_true, List.mem_singleton] at hx
          rw [hx]
          simp;omega
    · unfold k3L at hx
      cases h4:decide (0<y)
      · rw [h4] at hx;cases hx
      · rw [h4, cond_true] at hx
        obtain ⟨t,ht,rfl⟩:=List.mem_map.1 hx
        simp;omega
def zGR (rs:List RecT):Bool:=!(rs.any fun r=>!(recB r))&&decide (rs.length≤12)
theorem zGf {rs:List RecT} (h:zGR rs=true):rs.length≤12∧∀ r ∈ rs,recB r=true:=by
  unfold zGR at h
  rw [Bool.and_eq_true,decide_eq_true_eq] at h
  refine ⟨h.2,fun r hr=>?_⟩
  cases hb:recB r with
  | true=>rfl
  | false=>
    have:(rs.any fun r=>!(recB r))=true:=List.any_eq_true.2 ⟨r,hr,by rw [hb];rfl⟩
    rw [this] at h
    cases h.1
theorem zJH {fu:Nat} {l:List RecT} {F:RecT→Option Bool} {p:RecT→Bool} (hF:∀ x ∈ l,F x=some (p x)) (hf:l.length<fu) (hl:l.length≤1048576):zAP fu l F=some (l.any p):=by
  unfold zAP zAg
  have h:=zL1 (xs:=l) (p:=p) (L:=zAE fu l F) (fun k i y hy=>by
    have hi:=zCm hy
    rw [zAE,lt_t hi,cond_true]
    simp only [zBC hi,zAu hy,zCz,hF y (zDX hy),zA6,zCF (show i≤4294967296 by omega),zB1]) (fun k=>by rw [zAE,lt_f];rfl) hf
  rw [h,zA6]
  cases hi:ixI 0 (l.map p) with
  | none=>
    have h2:=zI3 hi
    have:(l.any p)=false:=by
      rw [List.any_eq_false]
      intro y hy
      have:=h2 (p y) (List.mem_map_of_mem hy)
      simp [this]
    rw [this]
    rfl
  | some j=>
    obtain ⟨_,h2,_⟩:=zI8 hi
    have:(l.any p)=true:=by
      rw [Nat.sub_zero,List.getElem?_map] at h2
      obtain ⟨y,hy,e⟩:=Option.map_eq_some_iff.1 h2
      rw [List.any_eq_true]
      exact ⟨y,List.mem_of_getElem? hy,e⟩
    rw [this]
    show some (decide (0≤(j:Int)))=some true
    rw [decide_eq_true (by omega)]
theorem zL0 {fu:Nat} {rs:List RecT} (hf:1048577≤fu) (hl:rs.length≤1048576) (hok:∀ r ∈ rs,zIO r):zCT fu rs=some !(rs.any fun r=>!(recB r)):=by
  unfold zCT
  rw [zJH (p:=fun r=>!(recB r)) (fun r hr=>by unfold zCX;rw [zKM hf (hok r hr),zA6]) (by omega) hl,zA6]
theorem zJn {fu:Nat} {rs:List RecT} (hf:1048577≤fu) (hl:rs.length≤1048576) (hok:∀ r ∈ rs,zIO r):zDE fu rs=some (zGR rs):=by
  unfold zDE
  have h:=zFB (xs:=rs) (p:=fun r=>!(recB r)) (r:=false) (L:=zBh fu rs) (fun k i y hy=>by
    have hi:=zCm hy
    rw [zBh,lt_t hi,cond_true]
    simp only [zBC hi,zAu hy,zCz,zIM hf (hok y (zDX hy)),zA6,zCF (show i≤4294967296 by omega),zB1]) (fun k=>by rw [zBh,lt_f];rfl) (show rs.length<fu by omega)
  rw [h,zA6]
  unfold zGR
  have e:decide ((rs.length:Int)≤(12:Int))=decide (rs.length≤12):=by
    by_cases h:rs.length≤12
    · rw [decide_eq_true h,decide_eq_true (by omega)]
    · rw [decide_eq_false h,decide_eq_false (by omega)]
  cases rs.any fun r=>!(recB r)
  · rw [cond_false,zIo,e];rfl
  · rw [cond_true,zMz];rfl
def idxF (k : List UInt8) : Nat → List RecT → List Int
  | _,[]=>[]
  | i,r::rs=>(bif (kk r).any (fun y=>y==k) then [(i:Int)] else [])++idxF k (i+1) rs
theorem zJI (k : List UInt8) : ∀ (rs : List RecT) (i : Nat) (r : RecT), idxF k i (rs ++ [r]) = idxF k i rs ++ (bif (kk r).any (fun y => y == k) then [((i + rs.length : Nat) : Int)] else [])
  | [],i,r=>by simp [idxF]
  | s::rs,i,r=>by
    rw [List.cons_append,idxF,idxF,zJI k rs (i+1) r,List.append_assoc,List.length_cons,show i+1+rs.length=i+(rs.length+1) by omega]
theorem zIF {k:List UInt8} {rs:List RecT} {i:Nat} {r:RecT} (h:rs[i]? = some r):idxF k 0 (rs.take (i+1))=idxF k 0 (rs.take i)++(bif (kk r).any (fun y=>y==k) then [(i:Int)] else []):=by
  have hi:=zCm h
  rw [List.take_add_one,h,Option.toList_some,zJI,List.length_take,Nat.min_eq_left (by omega),Nat.zero_add]
theorem zGb (k : List UInt8) : ∀ (rs : List RecT) (i : Nat), (idxF k i rs).length ≤ rs.length
  | [],i=>Nat.le_refl _
  | r::rs,i=>by
    have:=zGb k rs (i+1)
    rw [idxF,List.length_append,List.length_cons]
    cases (kk r).any (fun y=>y==k)
    · rw [cond_false];simp only [List.length_nil];omega
    · rw [cond_true];simp only [List.length_singleton];omega
theorem zM2 {rs:List RecT} (h:∀ r ∈ rs,(kk r).length≤200):(rs.flatMap kk).length≤200*rs.length:=by
  induction rs with
  | nil=>simp
  | cons r rs ih=>
    have h1:=ih fun s hs=>h s (List.mem_cons_of_mem _ hs)
    have h2:=h r List.mem_cons_self
    rw [List.flatMap_cons,List.length_append,List.length_cons]
    omega
theorem zHH {rs:List RecT} {i:Nat} {r:RecT} (h:rs[i]? = some r):(rs.take (i+1)).flatMap kk=(rs.take i).flatMap kk++kk r:=by
  rw [List.take_add_one,h,Option.toList_some,List.flatMap_append]
  simp
def OKs (rs:List RecT):Prop:=∀ r ∈ rs,zIO r
theorem zFE {rs:List RecT} (hok:OKs rs) (hb:∀ r ∈ rs,recB r=true) (hn:rs.length≤12) (i:Nat):((rs.take i).flatMap kk).length≤2400:=by
  have:=zM2 (rs:=rs.take i) fun r hr=>(kk_t (hok r (List.mem_of_mem_take hr)) (hb r (List.mem_of_mem_take hr))).2.1
  have h2:(rs.take i).length≤12:=by rw [List.length_take];omega
  omega
theorem zLS {fu i : Nat} {ks K0 : List (List UInt8)} {ms0 : List UInt8 → List Int} {n0 : Nat} (hf : 1048577 ≤ fu) (hk : zCk bLt ks) (hl : ks.length ≤ 200) (hK : K0.length ≤ 2400) (hm : ∀ s, (ms0 s).length ≤ 12) (hn : n0 ≤ 2400) :
    zAX fu (i:Int) ks fu (0:Int) K0 (ms0,[],n0)=some (K0++ks,((fun s=>bif ks.any (fun y=>y==s) then ms0 s ++ [(i:Int)] else ms0 s),[],n0+ks.length)):=by
  have h := zEX (L := fun k j (a : List (List UInt8) × (List UInt8 → List Int) × List (List UInt8) × Nat) => zAX fu (i : Int) ks k j a.1 a.2) (n := ks.length) (r := (K0 ++ ks, ((fun s => bif ks.any (fun y => y == s) then ms0 s ++ [(i : Int)] else ms0 s), ([] : List (List UInt8)), n0 + ks.length)))
    (fun j=>(K0++ks.take j,((fun s=>bif (ks.take j).any (fun y=>y==s) then ms0 s ++ [(i:Int)] else ms0 s),([]:List (List UInt8)),n0+j))) (fun k j hj=>?_) (fun k=>?_) (show ks.length<fu by omega)
  · rw [← h]
    congr 1
    simp
  · have hx := List.getElem?_eq_getElem hj
    have hnd:=zCk.nodup zFT hk
    have hni:ks[j] ∉ ks.take j:=fun hm=>by
      obtain ⟨q,hq⟩:=List.mem_iff_getElem?.1 hm
      rw [List.getElem?_take] at hq
      split at hq
      · rename_i hqj
        have:=(List.getElem?_inj (by omega:q<ks.length) hnd).1 (hq.trans hx.symm)
        omega
      · cases hq
    have hany:(ks.take j).any (fun y=>y==ks[j])=false:=by
      rw [List.any_eq_false]
      intro y hy e
      exact hni (by rw [← of_decide_eq_true (p:=y=ks[j]) (by simpa using e)];exact hy)
    have hlen:(K0++ks.take j).length≤2600:=by rw [List.length_append,List.length_take];omega
    have hmx:=hm ks[j]
    show zAX fu (i:Int) ks (k+1) (j:Int) (K0++ks.take j) ((fun s=>bif (ks.take j).any (fun y=>y==s) then ms0 s ++ [(i:Int)] else ms0 s),([]:List (List UInt8)),n0+j)=zAX fu (i:Int) ks k ((j+1:Nat):Int) (K0++ks.take (j+1)) ((fun s=>bif (ks.take (j+1)).any (fun y=>y==s) then ms0 s ++ [(i:Int)] else ms0 s),([]:List (List UInt8)),n0+(j+1))
    rw [zAX,lt_t hj,cond_true,ck_t (zBC hj),zAu hx,ck_t (zAh (by simp only [List.length_singleton];omega)),ck_t (decide_eq_true (by simp))]
    simp only [hany,cond_false]
    rw [ck_t (zAh (by simp only [List.length_singleton];omega)),ck_t (decide_eq_true (by unfold maxLen;omega)),ck_t (zCl (by omega)),zB1]
    have e1:K0++ks.take j ++ [ks[j]]=K0++ks.take (j+1):=by rw [List.take_add_one,hx,Option.toList_some,List.append_assoc]
    have e2:(fun s'=>if s'=ks[j] then ms0 ks[j] ++ [(i:Int)] else bif (ks.take j).any (fun y=>y==s') then ms0 s' ++ [(i:Int)] else ms0 s')=fun s=>bif (ks.take (j+1)).any (fun y=>y==s) then ms0 s ++ [(i:Int)] else ms0 s:=by
      funext s
      rw [List.take_add_one,hx,Option.toList_some,List.any_append,List.any_cons,List.any_nil,Bool.or_false]
      by_cases e:s=ks[j]
      · subst e
        rw [if_pos rfl,beq_self_eq_true,Bool.or_true,cond_true]
      · rw [if_neg e,beq_eq_false_iff_ne.2 (Ne.symm e),Bool.or_false]
    rw [e1,e2]
    rfl
  · show zAX fu (i : Int) ks (k + 1) (ks.length : Int) _ _ = _
    rw [zAX,lt_f,cond_false,List.take_length]
theorem zLa {fu : Nat} {rs : List RecT} (hf : 1048577 ≤ fu) (hok : OKs rs) (hb : ∀ r ∈ rs, recB r = true) (hn : rs.length ≤ 12) :
    zAT fu rs fu (0:Int) [] ((fun _=>[]:List UInt8→List Int),([]:List (List UInt8)),(0:Nat))=some (rs.flatMap kk,((fun s=>idxF s 0 rs),[],(rs.flatMap kk).length)):=by
  have h := zEX (L := fun k j (a : List (List UInt8) × (List UInt8 → List Int) × List (List UInt8) × Nat) => zAT fu rs k j a.1 a.2) (n := rs.length) (r := (rs.flatMap kk, ((fun s => idxF s 0 rs), ([] : List (List UInt8)), (rs.flatMap kk).length)))
    (fun j=>((rs.take j).flatMap kk,((fun s=>idxF s 0 (rs.take j)),([]:List (List UInt8)),((rs.take j).flatMap kk).length))) (fun k j hj=>?_) (fun k=>?_) (show rs.length<fu by omega)
  · exact h
  · have hx := List.getElem?_eq_getElem hj
    have hm:=zDX hx
    obtain ⟨h1,h2,h3,h4⟩:=kk_t (hok _ hm) (hb _ hm)
    have hft:=zFE hok hb hn j
    show zAT fu rs (k+1) (j:Int) ((rs.take j).flatMap kk) ((fun s=>idxF s 0 (rs.take j)),([]:List (List UInt8)),((rs.take j).flatMap kk).length)=zAT fu rs k ((j+1:Nat):Int) ((rs.take (j+1)).flatMap kk) ((fun s=>idxF s 0 (rs.take (j+1))),([]:List (List UInt8)),((rs.take (j+1)).flatMap kk).length)
    rw [zAT,lt_t hj,cond_true,ck_t (zBC hj),zAu hx,(h1 fu hf).2,zA6,zLS hf h4 h2 hft (fun s=>by have:=zGb s (rs.take j) 0;rw [List.length_take] at this;omega) hft,zA6,ck_t (zCl (by omega)),zB1]
    have e2:(fun s=>bif (kk rs[j]).any (fun y=>y==s) then idxF s 0 (rs.take j) ++ [(j:Int)] else idxF s 0 (rs.take j))=fun s=>idxF s 0 (rs.take (j+1)):=by
      funext s
      rw [zIF hx]
      cases (kk rs[j]).any (fun y=>y==s)
      · rw [cond_false,cond_false,List.append_nil]
      · rfl
    show zAT fu rs k ((j+1:Nat):Int) ((rs.take j).flatMap kk++kk rs[j]) ((fun s=>bif (kk rs[j]).any (fun y=>y==s) then idxF s 0 (rs.take j) ++ [(j:Int)] else idxF s 0 (rs.take j)),([]:List (List UInt8)),((rs.take j).flatMap kk).length+(kk rs[j]).length)=_
    rw [e2,← List.length_append,← zHH hx]
  · show zAT fu rs (k + 1) (rs.length : Int) _ _ = _
    rw [zAT,lt_f,cond_false,List.take_length]
theorem zLk {fu : Nat} {xs : List (List UInt8)} {ms : List UInt8 → List Int} {n : Nat} (hf : 1048577 ≤ fu) (hk : zCk bLt xs) (hl : xs.length ≤ 2400) :
    zAR fu xs fu (0:Int) (ms,[],n) []=some (xs.map fun k=>(k,ms k)):=by
  have h := zEX (L := fun k j (a : ((List UInt8 → List Int) × List (List UInt8) × Nat) × List (List UInt8 × List Int)) => zAR fu xs k j a.1 a.2) (n := xs.length) (r := xs.map fun k => (k, ms k))
    (fun j=>((ms,(xs.take j).reverse,n),(xs.take j).map fun k=>(k,ms k))) (fun k j hj=>?_) (fun k=>?_) (show xs.length<fu by omega)
  · exact h
  · have hx := List.getElem?_eq_getElem hj
    have hnd:=zCk.nodup zFT hk
    have hni:xs[j] ∉ (xs.take j).reverse:=fun hm=>by
      obtain ⟨q,hq⟩:=List.mem_iff_getElem?.1 (List.mem_reverse.1 hm)
      rw [List.getElem?_take] at hq
      split at hq
      · rename_i hqj
        have:=(List.getElem?_inj (by omega:q<xs.length) hnd).1 (hq.trans hx.symm)
        omega
      · cases hq
    show zAR fu xs (k+1) (j:Int) (ms,(xs.take j).reverse,n) ((xs.take j).map fun k=>(k,ms k))=zAR fu xs k ((j+1:Nat):Int) (ms,(xs.take (j+1)).reverse,n) ((xs.take (j+1)).map fun k=>(k,ms k))
    rw [zAR,lt_t hj,cond_true,ck_t (zBC hj),zAu hx,ck_t (decide_eq_true hni),ck_t (zAh (by rw [List.length_map,List.length_take];omega)),ck_t (zCl (by omega)),zB1]
    rw [List.take_add_one,hx,Option.toList_some,List.reverse_append,List.map_append]
    rfl
  · show zAR fu xs (k + 1) (xs.length : Int) _ _ = _
    rw [zAR,lt_f,cond_false,List.take_length]
def zEc (rs:List RecT):List (List UInt8 × List Int):=bif zGR rs then (setL (rs.flatMap kk)).map (fun k=>(k,idxF k 0 rs)) else []
theorem zIm {rs:List RecT} (hok:OKs rs) (hg:zGR rs=true):(setL (rs.flatMap kk)).length≤2400:=by
  obtain ⟨hn,hb⟩:=zGf hg
  have h1:=zFE hok hb hn rs.length
  rw [List.take_length] at h1
  have h2:=zE6 (rs.flatMap kk)
  omega
theorem zN6 {fu:Nat} {rs:List RecT} (hf:1048577≤fu) (hl:rs.length≤1048576) (hok:OKs rs):zBt fu rs=some (zEc rs):=by
  unfold zBt zEc
  rw [zL0 hf hl hok]
  by_cases h12:rs.length≤12
  · have hd : decide ((12 : Int) < (rs.length : Int)) = false := decide_eq_false (by omega)
    rw [hd]
    cases hg:zGR rs with
    | false=>
      have:(rs.any fun r=>!(recB r))=true:=by
        unfold zGR at hg
        rw [decide_eq_true h12,Bool.and_true] at hg
        simpa using hg
      rw [this]
      rfl
    | true=>
      obtain ⟨hn,hb⟩:=zGf hg
      have hany:(rs.any fun r=>!(recB r))=false:=by
        rw [List.any_eq_false]
        intro r hr
        rw [hb r hr]
        exact Bool.false_ne_true
      rw [hany,show (true&&(false==false))=true from rfl,zA6,zCW,show (false || !(!false))=false from rfl,cond_false,zLa hf hok hb hn,zA6]
      have h1:=zFE hok hb hn rs.length
      rw [List.take_length] at h1
      show (cl true (zAr fu (rs.flatMap kk)) fun x=>cl true (zAR fu x fu (0:Int) ((fun s=>idxF s 0 rs),[],(rs.flatMap kk).length) []) fun s=>some s)=_
      rw [zDN hf (by omega),zA6,show cmpL ((rs.flatMap kk).mergeSort fun x y=>!(bLt y x))=setL (rs.flatMap kk) from rfl,zLk hf (zE9 _) (zIm hok hg),zA6]
      rfl
  · have hd : decide ((12 : Int) < (rs.length : Int)) = true := decide_eq_true (by omega)
    have hg:zGR rs=false:=by unfold zGR;rw [decide_eq_false h12,Bool.and_false]
    rw [hd,hg]
    rfl
theorem zLN (A B:List (List UInt8)):B.foldl (putS bLt) ((setL A).foldl (putS bLt) [])=setL (A++B):=by
  rw [← List.foldl_append,zGY]
  refine zFi zFT (zE9 _) (zE9 _) fun x=>?_
  rw [zEJ,zEJ,List.mem_append,List.mem_append,zEJ]
theorem zLt {fu:Nat} {rs:List RecT} (hf:1048577≤fu) (hok:OKs rs) (hb:∀ r ∈ rs,recB r=true) (hn:rs.length≤12):zAY fu rs fu [] (0:Int)=some (setL (rs.flatMap kk)):=by
  have h:=zEX (L:=fun k j (a:List (List UInt8))=>zAY fu rs k a j) (n:=rs.length) (r:=setL (rs.flatMap kk)) (fun j=>setL ((rs.take j).flatMap kk)) (fun k j hj=>?_) (fun k=>?_) (show rs.length<fu by omega)
  · have e:setL ((rs.take 0).flatMap kk) = []:=by
      rw [List.take_zero]
      show cmpL (([]:List (List UInt8)).mergeSort fun x y=>!(bLt y x)) = []
      rw [List.mergeSort_nil]
      rfl
    rw [← h,← e]
  · have hx := List.getElem?_eq_getElem hj
    have hm:=zDX hx
    obtain ⟨h1,h2,h3,h4⟩:=kk_t (hok _ hm) (hb _ hm)
    have hft:=zFE hok hb hn j
    have hsl:=zE6 ((rs.take j).flatMap kk)
    show zAY fu rs (k+1) (setL ((rs.take j).flatMap kk)) (j:Int)=zAY fu rs k (setL ((rs.take (j+1)).flatMap kk)) ((j+1:Nat):Int)
    rw [zAY,lt_t hj,cond_true,ck_t (zBC hj),zAu hx,(h1 fu hf).1,zA6,zIj hf (by omega) (by omega),zA6,ck_t (zCl (by omega)),zB1,zLN,zHH hx]
  · show zAY fu rs (k + 1) _ (rs.length : Int) = _
    rw [zAY,lt_f,cond_false,List.take_length]
theorem zLV {fu:Nat} {rs:List RecT} {keys:List (List UInt8)} {key:List UInt8} {q:Nat} (hf:1048577≤fu) (hok:OKs rs) (hb:∀ r ∈ rs,recB r=true) (hn:rs.length≤12) (hq:keys[q]? = some key):zAS fu rs keys (q:Int) fu (0:Int) (key,[])=some (key,idxF key 0 rs):=by
  have h:=zEX (L:=fun k j (a:List UInt8 × List Int)=>zAS fu rs keys (q:Int) k j a) (n:=rs.length) (r:=(key,idxF key 0 rs)) (fun j=>(key,idxF key 0 (rs.take j))) (fun k j hj=>?_) (fun k=>?_) (show rs.length<fu by omega)
  · exact h
  · have hx := List.getElem?_eq_getElem hj
    have hm:=zDX hx
    obtain ⟨h1,h2,h3,h4⟩:=kk_t (hok _ hm) (hb _ hm)
    have hlen:(idxF key 0 (rs.take j)).length≤12:=by have:=zGb key (rs.take j) 0;rw [List.length_take] at this;omega
    show zAS fu rs keys (q:Int) (k+1) (j:Int) (key,idxF key 0 (rs.take j))=zAS fu rs keys (q:Int) k ((j+1:Nat):Int) (key,idxF key 0 (rs.take (j+1)))
    rw [zAS,lt_t hj,cond_true,ck_t (zBC hj),zAu hx,(h1 fu hf).1,zA6,ck_t (zBC (zCm hq)),zAu hq,zNr (by omega) (by omega),zA6,zIF hx]
    cases (kk rs[j]).any (fun y=>y==key)
    · rw [cond_false,cond_false,ck_t (zCl (by omega)),zB1,List.append_nil]
    · rw [cond_true,cond_true,ck_t (zAh (by simp only [List.length_singleton];omega)),ck_t (zCl (by omega)),zB1]
  · show zAS fu rs keys (q : Int) (k + 1) (rs.length : Int) _ = _
    rw [zAS,lt_f,cond_false,List.take_length]
theorem zLw {fu:Nat} {rs:List RecT} {keys:List (List UInt8)} (hf:1048577≤fu) (hok:OKs rs) (hb:∀ r ∈ rs,recB r=true) (hn:rs.length≤12) (hk:keys.length≤2400):zAv fu rs keys fu (0:Int) []=some (keys.map fun k=>(k,idxF k 0 rs)):=by
  have h:=zGc (xs:=keys) (f:=fun k=>(k,idxF k 0 rs)) (a0:=[]) (L:=zAv fu rs keys) (fun k i acc x hx hacc=>by
    have hi:=zCm hx
    have hacc:acc.length=0+i:=hacc
    rw [zAv,lt_t hi,cond_true,ck_t (zBC hi),zAu hx,zLV hf hok hb hn hx,zA6,ck_t (zAh (by simp only [List.length_singleton];omega)),ck_t (zCl (by omega)),zB1]) (fun k a=>by rw [zAv,lt_f,cond_false]) (fu:=fu) (by omega)
  rw [h,List.nil_append]
theorem zMe {fu:Nat} {rs:List RecT} (hf:1048577≤fu) (hl:rs.length≤1048576) (hok:OKs rs):zBs fu rs=some (zEc rs):=by
  unfold zBs zEc
  rw [zJn hf hl hok,zA6]
  cases hg:zGR rs with
  | false=>rfl
  | true=>
    obtain ⟨hn,hb⟩:=zGf hg
    rw [Bool.not_true,cond_false,zLt hf hok hb hn,zA6,zLw hf hok hb hn (zIm hok hg),zA6]
    rfl
theorem zK3 {rs:List RecT} (hok:OKs rs):(zEc rs).length≤2400∧∀ b ∈ zEc rs,b.1.length≤120∧b.2.length≤12:=by
  unfold zEc
  cases hg:zGR rs with
  | false=>exact ⟨Nat.zero_le _,fun b hb=>by cases hb⟩
  | true=>
    obtain ⟨hn,hb⟩:=zGf hg
    rw [cond_true]
    refine ⟨by rw [List.length_map];exact zIm hok hg,fun b hbm=>?_⟩
    obtain ⟨k,hk,rfl⟩:=List.mem_map.1 hbm
    rw [zEJ,List.mem_flatMap] at hk
    obtain ⟨r,hr,hk⟩:=hk
    exact ⟨(kk_t (hok r hr) (hb r hr)).2.2.1 k hk,Nat.le_trans (zGb k rs 0) hn⟩
theorem zMu {rs:List RecT} (h:zCw rs≤1048576):rs.length≤1048576∧OKs rs:=by
  unfold zCw wL at h
  exact ⟨by omega,fun r hr=>zMg (Nat.le_trans (zIK (f:=zD2) hr) (by omega))⟩
def zLo (bs:List (List UInt8 × List Int)):Int:=bs.foldl (fun m b=>max m (b.2.length:Int)) 0
theorem zMx {fu:Nat} {bs:List (List UInt8 × List Int)} (hf:bs.length<fu) (hl:bs.length≤4294967296):zAc fu bs fu (0:Int) (0:Int)=some (zLo bs):=
  (zCf (xs:=bs) (g:=fun (m:Int) (b:List UInt8 × List Int)=>max m (b.2.length:Int)) (Inv:=fun _ _=>True) (L:=fun k i a=>zAc fu bs k a i) (fun k i a x hx _=>by
    have hi:=zCm hx
    show zAc fu bs (k+1) a (i:Int)=_
    rw [zAc,lt_t hi,cond_true,ck_t (zBC hi),zAu hx,ck_t (zCl (by omega)),zB1]) (fun _ _ _ _ _=>trivial) (fun k a _=>by show zAc fu bs (k+1) a (bs.length:Int)=_;rw [zAc,lt_f,cond_false]) (a:=0) trivial hf).1
theorem zMs {fu:Nat} {bs:List (List UInt8 × List Int)} (hf:bs.length<fu) (hl:bs.length≤4294967296):zAb fu bs fu (0:Int) (0:Int)=some (zLo bs):=
  (zCf (xs:=bs) (g:=fun (m:Int) (b:List UInt8 × List Int)=>max m (b.2.length:Int)) (Inv:=fun _ _=>True) (L:=fun k i a=>zAb fu bs k a i) (fun k i a x hx _=>by
    have hi:=zCm hx
    show zAb fu bs (k+1) a (i:Int)=_
    rw [zAb,lt_t hi,cond_true,ck_t (zBC hi),zAu hx,ck_t (zCl (by omega)),zB1]) (fun _ _ _ _ _=>trivial) (fun k a _=>by show zAb fu bs (k+1) a (bs.length:Int)=_;rw [zAb,lt_f,cond_false]) (a:=0) trivial hf).1
theorem zKt {fu:Nat} {rs:List RecT} (hf:1048577≤fu) (hl:rs.length≤1048576) (hok:OKs rs):zBL fu rs=some (zLo (zEc rs))∧zBQ fu rs=some (zLo (zEc rs)):=by
  have h1:=(zK3 hok).1
  constructor
  · unfold zBL
    rw [zMe hf hl hok,zA6,zMs (by omega) (by omega),zA6]
  · unfold zBQ
    rw [zN6 hf hl hok,zA6,zMx (by omega) (by omega),zA6]
theorem zGx {a0:List RecT} (h0:(qS (qP qI (qP qI (qP qI (qS qB))))) a0) (hw:zCw a0≤1048576):∃ r:Int,zBL 1048577 a0=some r∧zBQ 1048577 a0=some r:=by
  obtain ⟨hl,hok⟩:=zMu hw
  exact ⟨_,zKt (Nat.le_refl _) hl hok⟩
end Go.Proofs.YtldppodfhabkjaaGreatDoor
