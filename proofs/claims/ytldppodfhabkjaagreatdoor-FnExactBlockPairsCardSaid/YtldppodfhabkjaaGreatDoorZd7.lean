/- Own texts laid together. No statement of the seat is proved here. -/
import Derived.Test.YtldppodfhabkjaaGreatDoorZd6
namespace Go.Proofs.YtldppodfhabkjaaGreatDoor
open Go.RowKit
set_option linter.unusedVariables false
set_option linter.unusedSimpArgs false
def IsI (s:List UInt8) (n:Int):Prop:=Lib.itoa n=s∧-999999999≤n∧n≤999999999
theorem zIf (d:Nat) (h:d<10):(UInt8.ofNat (48+d)).toNat=48+d:=by
  rw [UInt8.toNat_ofNat']
  omega
theorem zGq {u:Nat} (h:u<10):Lib.decDigits u = [UInt8.ofNat (48+u)]:=by rw [Lib.decDigits,dif_pos h]
theorem zJm {u:Nat} (h:¬ u<10):Lib.decDigits u=Lib.decDigits (u / 10) ++ [UInt8.ofNat (48+u % 10)]:=by rw [Lib.decDigits,dif_neg h]
theorem zMi (u:Nat):∀ c ∈ Lib.decDigits u,48≤c.toNat∧c.toNat≤57:=by
  induction u using Nat.strongRecOn with
  | _ u ih=>
    intro c hc
    by_cases h:u<10
    · rw [zGq h] at hc
      rw [List.mem_singleton.1 hc,zIf u h]
      omega
    · rw [zJm h] at hc
      rcases List.mem_append.1 hc with hc | hc
      · exact ih (u / 10) (by omega) c hc
      · rw [List.mem_singleton.1 hc, zIf _ (Nat.mod_lt _ (by omega))]
        omega
theorem zNM (u:Nat):Lib.decDigits u ≠ []:=by
  by_cases h:u<10
  · rw [zGq h];simp
  · rw [zJm h];simp
def scS (p:Nat × Nat) (c:UInt8):Nat × Nat:=if 48≤c.toNat∧c.toNat≤57 then (p.1*10+(c.toNat-48),p.2+1) else p
theorem zOQ (u:Nat):(Lib.decDigits u).foldl scS (0,0)=(u,(Lib.decDigits u).length):=by
  induction u using Nat.strongRecOn with
  | _ u ih=>
    by_cases h:u<10
    · rw [zGq h]
      have:=zIf u h
      simp only [List.foldl_cons,List.foldl_nil,scS,this,List.length_singleton]
      rw [if_pos (by omega)]
      simp
    · have hd := zIf (u % 10) (Nat.mod_lt _ (by omega))
      rw [zJm h,List.foldl_append,ih (u / 10) (by omega)]
      simp only [List.foldl_cons,List.foldl_nil,scS,hd,List.length_append,List.length_singleton]
      rw [if_pos (by omega)]
      congr 1
      omega
theorem zPa : ∀ (s : List UInt8) (p : Nat × Nat), p.1 < 10 ^ p.2 → (s.foldl scS p).1 < 10 ^ (s.foldl scS p).2
  | [],p,h=>h
  | c::s,p,h=>by
    rw [List.foldl_cons]
    refine zPa s _ ?_
    unfold scS
    split
    · show p.1 * 10 + (c.toNat - 48) < 10 ^ (p.2 + 1)
      rw [Nat.pow_succ]
      omega
    · exact h
theorem zOT : ∀ (s : List UInt8) (p : Nat × Nat), (s.foldl scS p).2 ≤ p.2 + s.length
  | [],p=>Nat.le_refl _
  | c::s,p=>by
    have:=zOT s (scS p c)
    rw [List.foldl_cons,List.length_cons]
    have h:(scS p c).2≤p.2+1:=by
      unfold scS
      split
      · exact Nat.le_refl _
      · exact Nat.le_succ _
    omega
theorem zLj {k:Nat} (h:k≤11):10 ^ k≤100000000000:=Nat.le_trans (Nat.pow_le_pow_right (by omega) h) (by omega)
theorem zPP {fu : Nat} {s : List UInt8} (hs : s.length ≤ 1048576) : ∀ m i k (p : Nat × Nat), (i + m = s.length ∨ (m = 0 ∧ 11 ≤ i)) → i ≤ 11 → m < k → p.1 < 10 ^ p.2 → p.2 ≤ i → (s.take 11).take i = s.take i →
    zAx fu s k (p.1:Int) (p.2:Int) (i:Int)=some (((((s.take 11).drop i).foldl scS p).1:Int),((((s.take 11).drop i).foldl scS p).2:Int)):=by
  intro m
  induction m with
  | zero=>
    intro i k p hi h11 hk hp hpi ht
    obtain ⟨k,rfl⟩:∃ z,k=z+1:=⟨k-1,by omega⟩
    have hd:(s.take 11).drop i = []:=List.drop_eq_nil_of_le (by rw [List.length_take];omega)
    have hc:(decide ((i:Int)<(s.length:Int))&&decide ((i:Int)<11))=false:=by
      rw [Bool.and_eq_false_imp,decide_eq_true_eq,decide_eq_false_iff_not]
      omega
    rw [zAx,zCf,hc,cond_false,hd]
    rfl
  | succ m ih=>
    intro i k p hi h11 hk hp hpi ht
    obtain ⟨k,rfl⟩:∃ z,k=z+1:=⟨k-1,by omega⟩
    have hlt:i<s.length:=by omega
    by_cases h:i<11
    · have hc:(decide ((i:Int)<(s.length:Int))&&decide ((i:Int)<11))=true:=by
        rw [Bool.and_eq_true,decide_eq_true_eq,decide_eq_true_eq]
        omega
      have hx:=List.getElem?_eq_getElem hlt
      have hb:=zJI hx
      have h256:s[i].toNat<256:=UInt8.toNat_lt _
      have hdrop:(s.take 11).drop i=s[i]::(s.take 11).drop (i+1):=by
        rw [List.drop_eq_getElem_cons (by rw [List.length_take];omega),List.getElem_take]
      have hpb:p.1≤100000000000:=Nat.le_of_lt (Nat.lt_of_lt_of_le hp (zLj (by omega)))
      have hw:IntKind.i64.wrap (IntKind.u8.wrap ((s[i].toNat:Int)-48))=((s[i].toNat-48:Nat):Int)∨s[i].toNat<48:=by
        rcases Nat.lt_or_ge s[i].toNat 48 with h' | h'
        · exact .inr h'
        · left
          have e:((s[i].toNat:Int)-48)=((s[i].toNat-48:Nat):Int):=by omega
          rw [e]
          have h1:IntKind.u8.wrap ((s[i].toNat-48:Nat):Int)=((s[i].toNat-48:Nat):Int):=by
            unfold IntKind.wrap
            simp [IntKind.bits,IntKind.signed]
            omega
          rw [h1]
          exact IntWalk.i64_in _ (by omega)
      have hnext:∀ q:Nat × Nat,q.1<10 ^ q.2→q.2≤i+1→zAx fu s k (q.1:Int) (q.2:Int) ((i+1:Nat):Int)=some (((((s.take 11).drop (i+1)).foldl scS q).1:Int),((((s.take 11).drop (i+1)).foldl scS q).2:Int)):=fun q h1 h2=>
        ih (i+1) k q (by omega) (by omega) (by omega) h1 h2 (by rw [List.take_take,Nat.min_eq_left (by omega)])
      rw [zAx,zCf,hc,cond_true,ck_t (zB0 hlt),hb,ck_t (by rw [zB0 hlt,Bool.or_true]),zCf,hdrop,List.foldl_cons]
      by_cases hdg:48≤s[i].toNat∧s[i].toNat≤57
      · have hd:(decide ((48:Int)≤(s[i].toNat:Int))&&decide ((s[i].toNat:Int)≤57))=true:=by
          rw [Bool.and_eq_true,decide_eq_true_eq,decide_eq_true_eq]
          omega
        have hw':=hw.resolve_right (by omega)
        have e:scS p s[i]=(p.1*10+(s[i].toNat-48),p.2+1):=if_pos hdg
        have hq:=hnext (p.1*10+(s[i].toNat-48),p.2+1) (by show _<10 ^ (p.2+1);rw [Nat.pow_succ];omega) (by show p.2+1≤i+1;omega)
        rw [hd,cond_true,hw',ck_t (zC4 (by omega) (by omega)),ck_t (zB0 hlt),ck_t (zC4 (by omega) (by omega)),ck_t (zC4 (by omega) (by omega)),ck_t (zC2 (by omega)),e,← hq]
        congr 1
      · have hd:(decide ((48:Int)≤(s[i].toNat:Int))&&decide ((s[i].toNat:Int)≤57))=false:=by
          rw [Bool.and_eq_false_imp,decide_eq_true_eq,decide_eq_false_iff_not]
          omega
        have e:scS p s[i]=p:=if_neg hdg
        rw [hd,cond_false,ck_t (zC2 (by omega)),e,zAo]
        exact hnext p hp (by omega)
    · have hd : (s.take 11).drop i = [] := List.drop_eq_nil_of_le (by rw [List.length_take]; omega)
      have hc:(decide ((i:Int)<(s.length:Int))&&decide ((i:Int)<11))=false:=by
        rw [Bool.and_eq_false_imp,decide_eq_true_eq,decide_eq_false_iff_not]
        omega
      rw [zAx,zCf,hc,cond_false,hd]
      rfl
theorem zLi {n:Int} (h:0≤n):Lib.itoa n=Lib.decDigits n.toNat:=by unfold Lib.itoa;rw [if_neg (by omega)]
theorem zKQ {n:Int} (h:n<0):Lib.itoa n=45::Lib.decDigits n.natAbs:=by unfold Lib.itoa;rw [if_pos h]
theorem zOD {u:Nat} (h:u≤999999999):(Lib.decDigits u).length≤9:=zEl 8 u (by omega)
theorem zJR {s:List UInt8} {n:Int} (h:IsI s n):s.length≤10∧0<s.length∧s.foldl scS (0,0)=(n.natAbs,(Lib.decDigits n.natAbs).length)∧(Lib.decDigits n.natAbs).length≤9∧(s[0]? = some 45 ↔ n<0):=by
  obtain ⟨rfl,h1,h2⟩:=h
  have hl:=zOD (u:=n.natAbs) (by omega)
  have hp:=List.length_pos_iff.2 (zNM n.natAbs)
  by_cases hn:n<0
  · rw [zKQ hn]
    refine ⟨by simp;omega,by simp,?_,hl,by simp [hn]⟩
    rw [List.foldl_cons,show scS (0,0) 45=(0,0) from rfl,zOQ]
  · rw [zLi (by omega), show n.toNat = n.natAbs by omega]
    refine ⟨by omega,hp,zOQ _,hl,?_⟩
    constructor
    · intro h
      have:=zMi n.natAbs 45 (List.mem_of_getElem? h)
      exact absurd this.1 (by decide)
    · intro h;omega
def RdI (s:List UInt8) (r:Int × Bool):Prop:=(∃ n,IsI s n∧r=(n,true))∨((∀ n,¬ IsI s n)∧r=(0,false))
theorem zOt {s:List UInt8} {n m:Int} (h:IsI s n) (k:IsI s m):n=m:=by
  have a:=zJR h
  have b:=zJR k
  have e:n.natAbs=m.natAbs:=by
    have:=a.2.2.1.symm.trans b.2.2.1
    injection this
  have:=a.2.2.2.2
  have:=b.2.2.2.2
  by_cases hs:s[0]? = some 45
  · have := a.2.2.2.2.1 hs
    have:=b.2.2.2.2.1 hs
    omega
  · have h1 : ¬ n < 0 := fun h => hs (a.2.2.2.2.2 h)
    have h2:¬ m<0:=fun h=>hs (b.2.2.2.2.2 h)
    omega
theorem RdI.one {s:List UInt8} {r q:Int × Bool} (h:RdI s r) (k:RdI s q):r=q:=by
  rcases h with ⟨n,h1,rfl⟩ | ⟨h1,rfl⟩ <;> rcases k with ⟨m,k1,rfl⟩ | ⟨k1,rfl⟩
  · rw [zOt h1 k1]
  · exact absurd h1 (k1 n)
  · exact absurd k1 (h1 m)
  · rfl
theorem RdI.no {s:List UInt8} (h:RdI s (0,false)):∀ n,¬ IsI s n:=by
  rcases h with ⟨n,_,h⟩ | ⟨h,_⟩
  · cases h
  · exact h
theorem zOA {fu:Nat} {s:List UInt8} (hf:1048577≤fu) (hs:s.length≤1048576):∃ r,zDc fu s=some r∧RdI s r:=by
  have hsc:=zPP (fu:=fu) hs s.length 0 fu (0,0) (.inl (by omega)) (by omega) (by omega) (by decide) (Nat.le_refl _) (by simp)
  rw [List.drop_zero] at hsc
  have hlt:=zPa (s.take 11) (0,0) (by decide)
  have hct:=zOT (s.take 11) (0,0)
  have htk:(s.take 11).length≤11:=by rw [List.length_take];omega
  generalize hp:(s.take 11).foldl scS (0,0)=p at hsc hlt hct
  have hpb:p.1≤100000000000:=Nat.le_of_lt (Nat.lt_of_lt_of_le hlt (zLj (by omega)))
  have hM:zAx fu s fu 0 0 0=some ((p.1:Int),(p.2:Int)):=hsc
  have h45:((decide ((0:Int)<(s.length:Int)))&&((bAt s (0:Int))==(45:Int)))=decide (s[0]? = some 45):=by
    cases s with
    | nil=>rfl
    | cons b l=>
      have hb:bAt (b::l) (0:Int)=(b.toNat:Int):=zJI (i:=0) rfl
      rw [hb,decide_eq_true (by simp),Bool.true_and]
      by_cases e:b=45
      · subst e;rfl
      · rw [decide_eq_false (by simpa using e), beq_eq_false_iff_ne]
        intro h
        exact e (UInt8.toNat_inj.1 (by show b.toNat=45;omega))
  have hck:(!(true&&((decide ((0:Int)<(s.length:Int)))==true)) || inR (0:Int) s.length)=true:=by
    cases s with
    | nil=>rfl
    | cons b l=>rw [zDi.2 ⟨Int.le_refl _,by simp⟩,Bool.or_true]
  have arm : ∀ z : Int, (z = (p.1 : Int) ∧ s[0]? ≠ some 45) ∨ (z = 0 - (p.1 : Int) ∧ s[0]? = some 45) →
      ∃ r,(bd ((decide ((9:Int)<(p.2:Int))) || (decide ((10:Int)<(s.length:Int)))) fun x33=>
        cl (true&&(x33==false)) (zBc fu z) fun x35=>
        bd (x33 || (!(x35==s))) fun x37=>
        bif x37 then (some ((0:Int),false)) else (some (z,true)))=some r∧RdI s r:=by
    intro z hz
    rw [zCf]
    have key:∀ n,IsI s n→n=z∧p.2≤9∧s.length≤10:=fun n hn=>by
      obtain ⟨a1,a2,a3,a4,a5⟩:=zJR hn
      rw [List.take_of_length_le (by omega),a3] at hp
      subst hp
      refine ⟨?_,a4,a1⟩
      rcases hz with ⟨rfl,h⟩ | ⟨rfl,h⟩
      · have : ¬ n < 0 := fun hn => h (a5.2 hn)
        show n=(n.natAbs:Int)
        omega
      · have := a5.1 h
        show n=0-(n.natAbs:Int)
        omega
    cases hg:(decide ((9:Int)<(p.2:Int))) || (decide ((10:Int)<(s.length:Int)))
    · rw [Bool.or_eq_false_iff, decide_eq_false_iff_not, decide_eq_false_iff_not] at hg
      have h9:p.1<1000000000:=Nat.lt_of_lt_of_le hlt (Nat.le_trans (Nat.pow_le_pow_right (n:=10) (by omega) (show p.2≤9 by omega)) (by omega))
      rw [show (true&&(false==false))=true from rfl,zJV hf (by omega) (by omega),zA8,zCf,Bool.false_or]
      cases he:Lib.itoa z==s
      · refine ⟨_, by rw [Bool.not_false, cond_true], .inr ⟨fun n hn => ?_, rfl⟩⟩
        obtain ⟨rfl,_⟩:=key n hn
        rw [hn.1,beq_self_eq_true] at he
        cases he
      · exact ⟨_,by rw [Bool.not_true,cond_false],.inl ⟨z,⟨by simpa using he,by omega,by omega⟩,rfl⟩⟩
    · rw [show (true && (true == false)) = false from rfl, zLZ, zCf, Bool.true_or, cond_true]
      refine ⟨_,rfl,.inr ⟨fun n hn=>?_,rfl⟩⟩
      obtain ⟨_,h1,h2⟩:=key n hn
      rw [Bool.or_eq_true,decide_eq_true_eq,decide_eq_true_eq] at hg
      omega
  unfold zDc
  rw [hM,zA8,ck_t hck,zCf,h45]
  by_cases hs0:s[0]? = some 45
  · rw [decide_eq_true hs0, cond_true, ck_t (zC4 (by omega) (by omega))]
    exact arm _ (.inr ⟨rfl,hs0⟩)
  · rw [decide_eq_false hs0, cond_false]
    exact arm _ (.inl ⟨rfl,hs0⟩)
theorem zMS : ∀ (xs : List UInt8) (acc v d : Nat), Lib.parseUint10 acc xs = .ok v → v < 1000000000 → d < 10 → Lib.parseUint10 acc (xs ++ [UInt8.ofNat (48 + d)]) = .ok (v * 10 + d)
  | [],acc,v,d,h,hv,hd=>by
    simp only [Lib.parseUint10] at h
    injection h with h
    subst h
    have:=zIf d hd
    simp only [List.nil_append,Lib.parseUint10,this]
    rw [if_pos (by omega),if_neg (by omega),if_neg (by omega)]
    congr 1
    omega
  | c::xs,acc,v,d,h,hv,hd=>by
    rw [List.cons_append]
    simp only [Lib.parseUint10] at h ⊢
    split at h
    · rename_i h1
      rw [if_pos h1]
      split at h
      · cases h
      · rename_i h2
        rw [if_neg h2]
        split at h
        · cases h
        · rename_i h3
          rw [if_neg h3]
          exact zMS xs _ v d h hv hd
    · cases h
theorem zPc (u:Nat) (h:u≤999999999):Lib.parseUint10 0 (Lib.decDigits u) = .ok u:=by
  induction u using Nat.strongRecOn with
  | _ u ih=>
    by_cases h10:u<10
    · rw [zGq h10]
      have:=zMS [] 0 0 u rfl (by omega) h10
      rw [List.nil_append] at this
      simpa using this
    · rw [zJm h10, zMS _ 0 (u / 10) (u % 10) (ih (u / 10) (by omega) (by omega)) (by omega) (Nat.mod_lt _ (by omega))]
      congr 1
      omega
theorem zMm {n:Int} (h1:-999999999≤n) (h2:n≤999999999):Lib.atoiAll (Lib.itoa n) = .ok n:=by
  have hm:∀ u:Nat,u≤999999999→Lib.parseMag (Lib.decDigits u) = .ok u:=fun u hu=>by
    unfold Lib.parseMag
    rw [if_neg (zNM u),zPc u hu]
  by_cases hn:n<0
  · rw [zKQ hn]
    unfold Lib.atoiAll
    simp only [show ((45:UInt8).toNat=43∨(45:UInt8).toNat=45)=True from by simp,if_true,hm n.natAbs (by omega)]
    simp only [show ((45:UInt8).toNat=45)=True from by simp,not_true,false_and,if_false,true_and,if_true]
    rw [if_neg (by omega)]
    congr 1
    omega
  · rw [zLi (by omega)]
    have hne:=zNM n.toNat
    have hdg:=zMi n.toNat
    have hm':=hm n.toNat (by omega)
    cases hd:Lib.decDigits n.toNat with
    | nil=>exact absurd hd hne
    | cons c r=>
      rw [hd] at hdg hm'
      have hc:=hdg c List.mem_cons_self
      unfold Lib.atoiAll
      simp only []
      rw [if_neg (by omega),hm']
      simp only []
      rw [if_neg (by omega),if_neg (by omega),if_neg (by omega)]
      congr 1
      omega
theorem zOI {s:List UInt8} {v:Int} (h:Lib.atoiAll s = .ok v):-9223372036854775808≤v∧v≤9223372036854775807:=by
  unfold Lib.atoiAll at h
  cases s with
  | nil=>cases h
  | cons c r=>
    simp only [] at h
    cases hm:Lib.parseMag (if c.toNat=43∨c.toNat=45 then r else c::r) with
    | ok u=>
      rw [hm] at h
      simp only [] at h
      split at h
      · cases h
      · split at h
        · cases h
        · injection h with h
          split at h <;> omega
    | _=>rw [hm] at h;cases h
theorem zO1 {fu:Nat} {s:List UInt8} (hs:s.length≤1048576):∃ r,zDU fu s=some r∧RdI s r:=by
  unfold zDU zNE
  rw [ck_t (zAg (by omega)),zA8]
  have no:∀ n,IsI s n→Lib.atoiAll s = .ok n:=fun n hn=>by rw [← hn.1];exact zMm hn.2.1 hn.2.2
  have bad:∀ a:Int,(∀ n,¬ IsI s n)→∃ r,(cl (true&&(true==false)) (zC0 fu a) fun x4=>
      bd (true || (!(x4==s))) fun x6=>
      cl (true&&(x6==false)) (zBu fu a (-999999999:Int) (999999999:Int)) fun x8=>
      bd (x6 || (!x8)) fun x10=>
      bif x10 then (some ((0:Int),false)) else (some (a,true)))=some r∧RdI s r:=fun a h=>⟨_,rfl,.inr ⟨h,rfl⟩⟩
  cases hc:Lib.atoiAll s with
  | range=>
    have e:zKL s=(Lib.atoiSat s,true):=by unfold zKL;rw [hc]
    rw [e]
    exact bad _ fun n hn=>by rw [no n hn] at hc;cases hc
  | ok v=>
    have e:zKL s=(v,false):=by unfold zKL;rw [hc]
    have hv:=zOI hc
    rw [e]
    dsimp only
    rw [show (true&&(false==false))=true from rfl,zJv hv.1 hv.2,zA8,zCf,Bool.false_or]
    have key:∀ n,IsI s n→n=v:=fun n hn=>by
      have:=(no n hn).symm.trans hc
      injection this
    cases he:Lib.itoa v==s
    · rw [Bool.not_false, show (true && (true == false)) = false from rfl, zLZ, zCf, Bool.true_or, cond_true]
      refine ⟨_,rfl,.inr ⟨fun n hn=>?_,rfl⟩⟩
      obtain rfl:=key n hn
      rw [hn.1,beq_self_eq_true] at he
      cases he
    · rw [Bool.not_true, show (true && (false == false)) = true from rfl, show zBu fu v (-999999999) 999999999 = some (decide (-999999999 ≤ v) && decide (v ≤ 999999999)) from rfl, zA8, zCf, Bool.false_or]
      cases hw:decide (-999999999≤v)&&decide (v≤999999999)
      · rw [Bool.not_false, cond_true]
        refine ⟨_,rfl,.inr ⟨fun n hn=>?_,rfl⟩⟩
        obtain rfl:=key n hn
        rw [decide_eq_true hn.2.1,decide_eq_true hn.2.2] at hw
        cases hw
      · rw [Bool.not_true, cond_false]
        rw [Bool.and_eq_true,decide_eq_true_eq,decide_eq_true_eq] at hw
        exact ⟨_,rfl,.inl ⟨v,⟨by simpa using he,hw.1,hw.2⟩,rfl⟩⟩
  | _=>
    have e:zKL s=(0,true):=by unfold zKL;rw [hc]
    rw [e]
    exact bad 0 fun n hn=>by rw [no n hn] at hc;cases hc
end Go.Proofs.YtldppodfhabkjaaGreatDoor
namespace Go.Proofs.YtldppodfhabkjaaGreatDoor
open Go.RowKit
set_option linter.unusedVariables false
set_option linter.unusedSimpArgs false
theorem zHE {fu:Nat} {x lo hi:Int}:zBu fu x lo hi=some (inI x lo hi):=rfl
theorem zQ2 {n:Int} (h0:-9223372036854775808≤n) (h1:n≤9223372036854775807):IntKind.i64.wrap n=n:=IntWalk.i64_in _ (by omega)
def ntC (c:UInt8):Bool:=!(inI c.toNat 32 126)
def txB (s:List UInt8):Bool:=!(s.any ntC)&&decide (s.length≤40)
theorem zPd {n:Nat}:decide ((n:Int)≤(40:Int))=decide (n≤40):=by
  by_cases h:n≤40
  · rw [decide_eq_true h,decide_eq_true (by omega)]
  · rw [decide_eq_false h,decide_eq_false (by omega)]
theorem zNT {fu:Nat} {s:List UInt8} (hf:s.length<fu) (hl:s.length≤1048576):zEF fu s=some (txB s):=by
  unfold zEF
  have h:=zGB (xs:=s) (p:=ntC) (r:=false) (L:=zCW fu s) (fun k i c hc=>by
    have hi:=zD7 hc
    have hcu:c.toNat<256:=c.toNat_lt
    rw [zCW,lt_t hi,cond_true,ck_t (zB0 hi),zEo hc,zQ2 (by omega) (by omega),zHE,zA8,zAo,ck_t (zCg (by omega))]
    rfl) (fun k=>by rw [zCW,lt_f];rfl) hf
  rw [h,zA8,zPd]
  unfold txB
  cases s.any ntC <;> rfl
theorem zO0 {fu:Nat} {s:List UInt8} (hf:s.length<fu) (hl:s.length≤1048576):zEL fu s=some (txB s):=by
  unfold zEL
  have h:=zGB (xs:=s) (p:=ntC) (r:=false) (L:=zCU fu s) (fun k i c hc=>by
    have hi:=zD7 hc
    have e:(decide ((c.toNat:Int)<(32:Int)) || decide ((126:Int)<(c.toNat:Int)))=ntC c:=by
      unfold ntC inI
      by_cases h1:(32:Int)≤(c.toNat:Int)
      · by_cases h2 : (c.toNat : Int) ≤ 126
        · rw [decide_eq_true h1,decide_eq_true h2,decide_eq_false (by omega),decide_eq_false (by omega)];rfl
        · rw [decide_eq_true h1,decide_eq_false h2,decide_eq_false (by omega),decide_eq_true (by omega)];rfl
      · rw [decide_eq_false h1,decide_eq_true (by omega),Bool.true_or,Bool.false_and];rfl
    rw [zCU,lt_t hi,cond_true,ck_t (zB0 hi),zB0 hi,Bool.or_true,zCu,zEo hc,zCf,e,zAo,ck_t (zCg (by omega))]) (fun k=>by rw [zCU,lt_f];rfl) hf
  rw [h,zA8,zPd]
  unfold txB
  cases s.any ntC <;> rfl
def pcC (c:UInt8):Bool:=((c.toNat:Int)==(124:Int)) || ((c.toNat:Int)==(59:Int))
def flB (s:List UInt8):Bool:=txB s && !(s.any pcC)
theorem zPO (c:UInt8):([124,59]:List UInt8).contains c=pcC c:=by
  revert c
  refine zLP ?_
  decide +kernel
theorem zOX : ∀ s : List UInt8, Lib.containsAny s [124, 59] = s.any pcC
  | []=>rfl
  | b::l=>by
    have ih:=zOX l
    have hg:=Lib.indexAny_ge [124,59] l
    unfold Lib.containsAny at ih ⊢
    rw [Lib.indexAny,List.any_cons,← ih,zPO]
    cases pcC b
    · rw [if_neg (by decide), Bool.false_or]
      by_cases h:Lib.indexAny l [124,59] = -1
      · rw [if_pos (by simpa using h),h]
      · rw [if_neg (by simpa using h),decide_eq_true (by omega),decide_eq_true (by omega)]
    · rw [if_pos rfl];rfl
theorem zOa {s:List UInt8} (h:txB s=true):(s.all fun b=>decide (b.toNat<128))=true∧s.length≤40:=by
  unfold txB at h
  rw [Bool.and_eq_true,decide_eq_true_eq,Bool.not_eq_true',List.any_eq_false] at h
  refine ⟨?_,h.2⟩
  rw [List.all_eq_true]
  intro b hb
  have:=h.1 b hb
  unfold ntC inI at this
  rw [Bool.not_eq_true,Bool.not_eq_false',Bool.and_eq_true,decide_eq_true_eq,decide_eq_true_eq] at this
  exact decide_eq_true (by omega)
theorem zO5 {fu:Nat} {s:List UInt8} (hf:s.length<fu) (hl:s.length≤1048576):zDo fu s=some (flB s):=by
  unfold zDo flB
  rw [zNT hf hl,zA8]
  cases h:txB s with
  | false=>rfl
  | true=>
    obtain ⟨h1,h2⟩:=zOa h
    unfold zFW
    rw [h1,decide_eq_true (show s.length<4294967281 by omega),show ((true&&decide (([124,59]:List UInt8).length<4294967281))&&true&&(([124,59]:List UInt8).all fun b=>decide (b.toNat<128)))=true from rfl,zCu,zOX]
    rfl
theorem zO3 {fu:Nat} {s:List UInt8} (hf:s.length<fu) (hl:s.length≤1048576):zDm fu s=some (flB s):=by
  unfold zDm
  have h:=zGB (xs:=s) (p:=pcC) (r:=false) (L:=zC5 fu s) (fun k i c hc=>by
    have hi:=zD7 hc
    rw [zC5,lt_t hi,cond_true,ck_t (zB0 hi),zB0 hi,Bool.or_true,zCu,zEo hc,zCf,zAo,ck_t (zCg (by omega))]
    rfl) (fun k=>by rw [zC5,lt_f];rfl) hf
  rw [h,zA8,zO0 hf hl]
  unfold flB
  cases s.any pcC
  · rw [Bool.not_false,Bool.and_true];rfl
  · rw [Bool.not_true,Bool.and_false];rfl
abbrev RecT:=Int × Int × Int × List (List UInt8)
def recB (r:RecT):Bool:=((inI r.1 0 3&&inI r.2.1 1 99)&&inI r.2.2.1 1 999)&&(((r.2.2.2.length:Int)==(4:Int)) && !(r.2.2.2.any fun s=>!(flB s)))
def zKD (r:RecT):Prop:=r.2.2.2.length≤1048576∧∀ s ∈ r.2.2.2,s.length≤1048576
theorem zLC {fu:Nat} {l:List (List UInt8)} {F:List UInt8→Option Bool} {p:List UInt8→Bool} (hF:∀ x ∈ l,F x=some (p x)) (hf:l.length<fu) (hl:l.length≤1048576):zAu fu l F=some (l.any p):=by
  unfold zAu zBK
  have h:=zN1 (xs:=l) (p:=p) (L:=zAV fu l F) (fun k i y hy=>by
    have hi:=zD7 hy
    rw [zAV,lt_t hi,cond_true,ck_t (zB0 hi),zAW hy,hF y (zDh hy),zA8,zAo,ck_t (zCg (by omega))]) (fun k=>by rw [zAV,lt_f];rfl) hf
  rw [h,zA8]
  cases hi:ixI 0 (l.map p) with
  | none=>
    have h2:=zJU hi
    have:l.any p=false:=by
      rw [List.any_eq_false]
      intro y hy
      have:=h2 (p y) (List.mem_map_of_mem hy)
      simp [this]
    rw [this]
    rfl
  | some j=>
    obtain ⟨_,h2,_⟩:=zJp hi
    have:l.any p=true:=by
      rw [Nat.sub_zero,List.getElem?_map] at h2
      obtain ⟨y,hy,e⟩:=Option.map_eq_some_iff.1 h2
      rw [List.any_eq_true]
      exact ⟨y,List.mem_of_getElem? hy,e⟩
    rw [this]
    show some (decide (0≤(j:Int)))=some true
    rw [decide_eq_true (by omega)]
theorem zMN {fu:Nat} {r:RecT} (hf:1048577≤fu) (h:zKD r):zCY fu r=some (recB r):=by
  unfold zCY recB
  rw [zHE,zHE,zHE,zLC (p:=fun s=>!(flB s)) (fun s hs=>by
    unfold zCe
    rw [zO5 (by have:=h.2 s hs;omega) (h.2 s hs)]
    rfl) (by have:=h.1;omega) h.1]
  generalize inI r.1 0 3=a
  generalize inI r.2.1 1 99=b
  generalize inI r.2.2.1 1 999=c
  generalize ((r.2.2.2.length:Int)==(4:Int))=d
  generalize (r.2.2.2.any fun s=>!(flB s))=e
  cases a <;> cases b <;> cases c <;> cases d <;> cases e <;> rfl
theorem zKA {fu:Nat} {r:RecT} (hf:1048577≤fu) (h:zKD r):zBv fu r=some (recB r):=by
  unfold zBv recB
  have hl:=zGB (xs:=r.2.2.2) (p:=fun s=>!(flB s)) (r:=false) (L:=zBA fu r) (fun k i s hs=>by
    have hi:=zD7 hs
    have h1:=h.1
    have h2:=h.2 s (zDh hs)
    rw [zBA,lt_t hi,cond_true,ck_t (zB0 hi),zAW hs,zO3 (by omega) h2,zA8,zAo,ck_t (zCg (by omega))]) (fun k=>by rw [zBA,lt_f];rfl) (show r.2.2.2.length<fu by have:=h.1;omega)
  rw [hl,zA8,zLg,zLg,zLg]
  generalize inI r.1 0 3=a
  generalize inI r.2.1 1 99=b
  generalize inI r.2.2.1 1 999=c
  generalize ((r.2.2.2.length:Int)==(4:Int))=d
  generalize (r.2.2.2.any fun s=>!(flB s))=e
  cases a <;> cases b <;> cases c <;> cases d <;> cases e <;> rfl
theorem zMA {r:RecT} (h:recB r=true):∃ a b c d:List UInt8,r.2.2.2 = [a,b,c,d]∧a.length≤40∧b.length≤40∧c.length≤40∧d.length≤40:=by
  unfold recB at h
  rw [Bool.and_eq_true] at h
  obtain ⟨_,h⟩:=h
  rw [Bool.and_eq_true,Bool.not_eq_true',List.any_eq_false] at h
  obtain ⟨h1,h2⟩:=h
  have hl:∀ s ∈ r.2.2.2,s.length≤40:=fun s hs=>by
    have:=h2 s hs
    unfold flB at this
    rw [Bool.not_eq_true,Bool.not_eq_false',Bool.and_eq_true] at this
    exact (zOa this.1).2
  rw [beq_iff_eq] at h1
  generalize r.2.2.2=l at h1 hl
  match l,h1,hl with
  | [a,b,c,d],_,hl=>exact ⟨a,b,c,d,rfl,hl a (by simp),hl b (by simp),hl c (by simp),hl d (by simp)⟩
  | [],h1,_=>simp at h1
  | [_],h1,_=>simp at h1
  | [_,_],h1,_=>simp at h1
  | [_,_,_],h1,_=>simp at h1
  | _::_::_::_::_::_,h1,_=>simp at h1;omega
def dgC (c:UInt8):Bool:=dgI c.toNat
def dgL (s:List UInt8):List UInt8:=s.filter dgC
theorem zOS (s:List UInt8):dgL s=s.foldl (fun (a:List UInt8) c=>bif dgC c then a ++ [c] else a) []:=by
  have key:∀ (s a:List UInt8),s.foldl (fun (a:List UInt8) c=>bif dgC c then a ++ [c] else a) a=a++s.filter dgC:=by
    intro s
    induction s with
    | nil=>intro a;simp
    | cons c s ih=>
      intro a
      rw [List.foldl_cons,ih,List.filter_cons]
      cases dgC c <;> simp
  rw [key,List.nil_append]
  rfl
theorem zOH {fu:Nat} {s:List UInt8} (hf:s.length<fu) (hl:s.length≤1048576):zDa fu s=some (dgL s):=by
  unfold zDa
  have h:=zDq (xs:=s) (g:=fun (a:List UInt8) c=>bif dgC c then a ++ [c] else a) (Inv:=fun i a=>a.length≤i) (L:=fun k i (a:List UInt8)=>(zB6 fu s k i (bytL a)).map strB) (fun k i a c hc ha=>by
    have hi:=zD7 hc
    rw [zB6,lt_t hi,cond_true,ck_t (zB0 hi),zB0 hi,zCu,zEo hc,show zDQ fu (c.toNat:Int)=some (dgC c) from rfl,zA8,zAg (by rw [zCC];show a.length+1≤4294967296;omega),zCu,zAo,zCg (show i≤4294967296 by omega),zCu,zCu]
    cases dgC c
    · rfl
    · rw [cond_true,cond_true,zFA,zDe]) (fun i a c hc ha=>by
    show (bif dgC c then a ++ [c] else a).length≤i+1
    cases dgC c
    · exact Nat.le_succ_of_le ha
    · rw [cond_true,List.length_append,List.length_singleton];omega) (fun k a ha=>by rw [zB6,lt_f,cond_false,Option.map_some,zEE]) (a:=[]) (Nat.zero_le _) hf
  rw [zOS,← h.1]
  show cl true (zB6 fu s fu 0 (bytL [])) _=_
  cases zB6 fu s fu 0 (bytL []) <;> rfl
theorem zOO {fu:Nat} {s:List UInt8} (hf:s.length<fu) (hl:s.length≤1048576):zDR fu s=some (dgL s):=by
  unfold zDR
  have h:=zDq (xs:=s) (g:=fun (a:List UInt8) c=>bif dgC c then a ++ [c] else a) (Inv:=fun i a=>a.length≤i) (L:=fun k i (a:List UInt8)=>(zB7 fu s k i (bytL a)).map strB) (fun k i a c hc ha=>by
    have hi:=zD7 hc
    rw [zB7,lt_t hi,cond_true,ck_t (zB0 hi),zB0 hi,Bool.or_true,zCu,zCu,zEo hc,zCf,show (decide ((48:Int)≤(c.toNat:Int))&&decide ((c.toNat:Int)≤(57:Int)))=dgC c from rfl,zAg (by rw [zCC];show a.length+1≤4294967296;omega),zCu,zAo,zCg (show i≤4294967296 by omega),zCu,zCu]
    cases dgC c
    · rfl
    · rw [cond_true,cond_true,zFA,zDe]) (fun i a c hc ha=>by
    show (bif dgC c then a ++ [c] else a).length≤i+1
    cases dgC c
    · exact Nat.le_succ_of_le ha
    · rw [cond_true,List.length_append,List.length_singleton];omega) (fun k a ha=>by rw [zB7,lt_f,cond_false,Option.map_some,zEE]) (a:=[]) (Nat.zero_le _) hf
  rw [zOS,← h.1]
  show cl true (zB7 fu s fu 0 (bytL [])) _=_
  cases zB7 fu s fu 0 (bytL []) <;> rfl
theorem zKg (s:List UInt8):(dgL s).length≤s.length:=List.length_filter_le _ _
def YrI (s:List UInt8) (y:Int):Prop:=∃ r,RdI s r∧y=bif r.2&&inI r.1 1000 9999 then r.1 else 0
theorem YrI.one {s:List UInt8} {y z:Int} (h:YrI s y) (k:YrI s z):y=z:=by
  obtain ⟨r,h1,rfl⟩:=h
  obtain ⟨q,k1,rfl⟩:=k
  rw [h1.one k1]
theorem YrI.range {s:List UInt8} {y:Int} (h:YrI s y):y=0∨(1000≤y∧y≤9999):=by
  obtain ⟨r,_,rfl⟩:=h
  cases hb:r.2&&inI r.1 1000 9999
  · exact .inl rfl
  · right
    rw [Bool.and_eq_true] at hb
    have:=hb.2
    unfold inI at this
    rw [Bool.and_eq_true,decide_eq_true_eq,decide_eq_true_eq] at this
    exact this
theorem zNm {fu:Nat} {s:List UInt8} (hs:s.length≤1048576):∃ y,zC1 fu s=some y∧YrI s y:=by
  obtain ⟨r,h1,h2⟩:=zO1 (fu:=fu) hs
  refine ⟨_,?_,r,h2,rfl⟩
  unfold zC1
  rw [h1,zA8,zHE]
  generalize inI r.1 1000 9999=b
  cases r.2 <;> cases b <;> rfl
theorem zLb {fu:Nat} {s:List UInt8} (hf:1048577≤fu) (hs:s.length≤1048576):∃ y,zBx fu s=some y∧YrI s y:=by
  obtain ⟨r,h1,h2⟩:=zOA (fu:=fu) hf hs
  refine ⟨_,?_,r,h2,rfl⟩
  unfold zBx
  rw [h1,zA8,zLg]
  generalize inI r.1 1000 9999=b
  cases r.2 <;> cases b <;> rfl
theorem zPf {s:List UInt8} (hs:s.length≤1048576):∃ y:Int,(y=0∨(1000≤y∧y≤9999))∧YrI s y∧∀ fu,1048577≤fu→zC1 fu s=some y∧zBx fu s=some y:=by
  obtain ⟨y,h1,h2⟩:=zLb (fu:=1048577) (Nat.le_refl _) hs
  refine ⟨y,h2.range,h2,fun fu hf=>?_⟩
  obtain ⟨a,a1,a2⟩:=zNm (fu:=fu) hs
  obtain ⟨b,b1,b2⟩:=zLb (fu:=fu) hf hs
  rw [a1,b1,a2.one h2,b2.one h2]
  exact ⟨rfl,rfl⟩
end Go.Proofs.YtldppodfhabkjaaGreatDoor
namespace Go.Proofs.YtldppodfhabkjaaGreatDoor
open Go.RowKit
set_option linter.unusedVariables false
set_option linter.unusedSimpArgs false
theorem zGs {α β : Type} {xs : List α} {f : α → β} {a0 : List β} {L : Nat → Int → List β → Option (List β)}
    (hs:∀ k (i:Nat) a x,xs[i]? = some x→a.length=a0.length+i→L (k+1) (i:Int) a=L k ((i+1:Nat):Int) (a ++ [f x])) (he:∀ k a,L (k+1) (xs.length:Int) a=some a) {fu:Nat} (hf:xs.length<fu) :
    L fu (0:Int) a0=some (a0++xs.map f):=by
  have h:=zDq (xs:=xs) (g:=fun (a:List β) x=>a ++ [f x]) (Inv:=fun i a=>a.length=a0.length+i) (L:=L) hs (fun i a x hx ha=>by rw [List.length_append,List.length_singleton];omega) (fun k a _=>he k a) (a:=a0) rfl hf
  rw [h.1]
  congr 1
  have key:∀ (xs:List α) (a:List β),xs.foldl (fun (a:List β) x=>a ++ [f x]) a=a++xs.map f:=by
    intro xs
    induction xs with
    | nil=>intro a;simp
    | cons x xs ih=>intro a;rw [List.foldl_cons,ih];simp
  exact key xs a0
theorem zIN {α : Type} {xs : List α} {f : α → List UInt8} {a0 : List (List UInt8)} {L : Nat → Int → List (List UInt8) → Option (List (List UInt8))}
    (hs:∀ k (i:Nat) a x,xs[i]? = some x→a.length≤a0.length+i→L (k+1) (i:Int) a=L k ((i+1:Nat):Int) (putS bLt a (f x))) (he:∀ k a,L (k+1) (xs.length:Int) a=some a) {fu:Nat} (hf:xs.length<fu) :
    L fu (0:Int) a0=some ((xs.map f).foldl (putS bLt) a0)∧((xs.map f).foldl (putS bLt) a0).length≤a0.length+xs.length:=by
  have h:=zDq (xs:=xs) (g:=fun (a:List (List UInt8)) x=>putS bLt a (f x)) (Inv:=fun i a=>a.length≤a0.length+i) (L:=L) hs (fun i a x hx ha=>by
    show (putS bLt a (f x)).length≤a0.length+(i+1)
    unfold putS putW
    cases (a[plc bLt (f x) a]? == some (f x))
    · rw [cond_false,zE9];omega
    · rw [cond_true];omega) (fun k a _=>he k a) (a:=a0) (Nat.le_refl _) hf
  rw [List.foldl_map]
  exact h
def k1L (n:List UInt8):List (List UInt8):=(skL n).map ([115] ++ ·)
def k2L (d:List UInt8):List (List UInt8):=bif decide (4≤(dgL d).length) then [[112]++(dgL d).drop ((dgL d).length-4)] else []
def k3L (n:List UInt8) (y:Int):List (List UInt8):=bif decide (0<y) then (tokL n).map (fun t=>([121]++Lib.itoa y)++t.take 1) else []
def bkL (n d:List UInt8) (y:Int):List (List UInt8):=setL ((k1L n++k2L d)++k3L n y)
theorem zJr {t:List UInt8}:subL t 0 (1:Int)=t.take 1:=by
  rw [show ((1:Int))=((1:Nat):Int) from rfl,zFO]
theorem dec4 {n:Nat}:decide ((4:Int)≤(n:Int))=decide (4≤n):=by
  by_cases h:4≤n
  · rw [decide_eq_true h,decide_eq_true (by omega)]
  · rw [decide_eq_false h,decide_eq_false (by omega)]
theorem sub4 {l:List UInt8} (h:4≤l.length):subL l ((l.length:Int)-4) (l.length:Int)=l.drop (l.length-4):=by
  rw [show ((l.length:Int)-4)=((l.length-4:Nat):Int) by omega,zH8]
theorem zNA {y:Int} (h:y=0∨(1000≤y∧y≤9999)):(Lib.itoa y).length≤21:=zOg (by omega) (by omega)
theorem zJo {n t:List UInt8} (hn:n.length≤40) (h:t ∈ tokL n):1≤t.length∧t.length≤80:=by
  obtain ⟨h1,h2,_⟩:=zJL h
  have:t.length ≠ 0:=fun e=>h1 (List.eq_nil_of_length_eq_zero e)
  omega
theorem zNi {fu:Nat} {r:RecT} {a b c d:List UInt8} {y:Int} (hf:1048577≤fu) (hr:r.2.2.2 = [a,b,c,d]) (ha:a.length≤40) (hc:c.length≤40) (hd:d.length≤40) (hy:y=0∨(1000≤y∧y≤9999)) (hyp:zC1 fu c=some y):zCX fu r=some (bkL a d y):=by
  have hsk:=zKz a
  have htk:=zGA a
  have hdg:=zKg d
  have hit:=zNA hy
  unfold zCX
  rw [hr,show inR (0:Int) ([a,b,c,d]:List (List UInt8)).length=true from rfl,show inR (3:Int) ([a,b,c,d]:List (List UInt8)).length=true from rfl,show inR (2:Int) ([a,b,c,d]:List (List UInt8)).length=true from rfl,show gtD [a,b,c,d] (0:Int)=a from rfl,show gtD [a,b,c,d] (3:Int)=d from rfl,show gtD [a,b,c,d] (2:Int)=c from rfl]
  simp only [zCu]
  rw [zO9 hf (by omega),zA8]
  have h1:=zGs (xs:=skL a) (f:=([115] ++ ·)) (a0:=[]) (L:=zBm fu (skL a)) (fun k i acc x hx hacc=>by
    have hi:=zD7 hx
    have hx4:=zL3 (zDh hx)
    have hacc:acc.length=0+i:=hacc
    rw [zBm,lt_t hi,cond_true,ck_t (zB0 hi),zAW hx,ck_t (zAg (by simp;omega)),ck_t (zAg (by simp;omega)),zAo,ck_t (zCg (by omega))]) (fun k a=>by rw [zBm,lt_f,cond_false]) (fu:=fu) (by omega)
  rw [h1,zA8,List.nil_append,zOH (by omega) (by omega),zA8,hyp,dec4]
  have hk1:(k1L a).length=(skL a).length:=by simp [k1L]
  have h3:∀ (acc0:List (List UInt8)),acc0.length≤1000→0<y→zBR fu y (tokL a) fu (0:Int) acc0=some (acc0++k3L a y)∧zBP fu y (tokL a) fu (0:Int) acc0=some (acc0++k3L a y):=fun acc0 h0 hy0=>by
    have e:k3L a y=(tokL a).map fun t=>([121]++Lib.itoa y)++t.take 1:=by unfold k3L;rw [decide_eq_true hy0];rfl
    rw [e]
    constructor
    · refine zGs (xs := tokL a) (f := fun t => ([121] ++ Lib.itoa y) ++ t.take 1) (a0 := acc0) (L := zBR fu y (tokL a)) (fun k i acc x hx hacc => ?_) (fun k a => by rw [zBR, lt_f, cond_false]) (by omega)
      have hi:=zD7 hx
      have hx4:=zJo ha (zDh hx)
      rw [zBR,lt_t hi,cond_true,ck_t (zB0 hi),zJv (by omega) (by omega),zA8,zAW hx,zJr,ck_t (zAg (by simp;omega)),ck_t (zBJ.2 ⟨Int.le_refl _,by omega,by omega⟩),ck_t (zAg (by simp;omega)),ck_t (zAg (by simp;omega)),zAo,ck_t (zCg (by omega))]
    · refine zGs (xs := tokL a) (f := fun t => ([121] ++ Lib.itoa y) ++ t.take 1) (a0 := acc0) (L := zBP fu y (tokL a)) (fun k i acc x hx hacc => ?_) (fun k a => by rw [zBP, lt_f, cond_false]) (by omega)
      have hi:=zD7 hx
      have hx4:=zJo ha (zDh hx)
      rw [zBP,lt_t hi,cond_true,ck_t (zB0 hi),zJv (by omega) (by omega),zA8,zAW hx,zJr,ck_t (zAg (by simp;omega)),ck_t (zBJ.2 ⟨Int.le_refl _,by omega,by omega⟩),ck_t (zAg (by simp;omega)),ck_t (zAg (by simp;omega)),zAo,ck_t (zCg (by omega))]
  have h2n:(k2L d).length≤1:=by
    unfold k2L
    cases decide (4≤(dgL d).length)
    · exact Nat.zero_le _
    · exact Nat.le_refl _
  have h3n:(k3L a y).length≤(tokL a).length:=by
    unfold k3L
    cases decide (0<y)
    · exact Nat.zero_le _
    · rw [cond_true,List.length_map];exact Nat.le_refl _
  have e1:(skL a).map ([115] ++ ·)=k1L a:=rfl
  rw [e1]
  cases h4:decide (4≤(dgL d).length) with
  | true=>
    have h44:4≤(dgL d).length:=of_decide_eq_true h4
    have e2:k1L a++([([112]:List UInt8)++subL (dgL d) (((dgL d).length:Int)-4) ((dgL d).length:Int)]:List (List UInt8))=k1L a++k2L d:=by unfold k2L;rw [h4,sub4 h44];rfl
    rw [cond_true,ck_t (zC4 (by omega) (by omega)),ck_t (zBJ.2 ⟨by omega,by omega,Int.le_refl _⟩),ck_t (zAg (by rw [sub4 h44];simp;omega)),ck_t (zAg (by simp;omega)),zA8,e2]
    cases hy0:decide (0<y) with
    | true=>
      rw [cond_true,zIK hf (by omega),zA8,(h3 _ (by rw [List.length_append];omega) (of_decide_eq_true hy0)).1,zA8,zE3 hf (by rw [List.length_append,List.length_append];omega),zA8]
      rfl
    | false=>
      rw [cond_false,zE3 hf (by rw [List.length_append];omega),zA8]
      have:k3L a y = []:=by unfold k3L;rw [hy0];rfl
      unfold bkL
      rw [this,List.append_nil]
      rfl
  | false=>
    have e2:k1L a=k1L a++k2L d:=by unfold k2L;rw [h4];simp
    rw [cond_false,zA8,e2]
    cases hy0:decide (0<y) with
    | true=>
      rw [cond_true,zIK hf (by omega),zA8,(h3 _ (by rw [List.length_append];omega) (of_decide_eq_true hy0)).2,zA8,zE3 hf (by rw [List.length_append,List.length_append];omega),zA8]
      rfl
    | false=>
      rw [cond_false,zE3 hf (by rw [List.length_append];omega),zA8]
      have:k3L a y = []:=by unfold k3L;rw [hy0];rfl
      unfold bkL
      rw [this,List.append_nil]
      rfl
theorem zLL {fu:Nat} {r:RecT} {a b c d:List UInt8} {y:Int} (hf:1048577≤fu) (hok:zKD r) (hb:recB r=true) (hr:r.2.2.2 = [a,b,c,d]) (ha:a.length≤40) (hc:c.length≤40) (hd:d.length≤40) (hy:y=0∨(1000≤y∧y≤9999)) (hyp:zBx fu c=some y):zBd fu r=some (bkL a d y):=by
  have hsk:=zKz a
  have htk:=zGA a
  have hdg:=zKg d
  have hit:=zNA hy
  unfold zBd
  rw [zKA hf hok,zA8,hb,hr,show inR (0:Int) ([a,b,c,d]:List (List UInt8)).length=true from rfl,show inR (3:Int) ([a,b,c,d]:List (List UInt8)).length=true from rfl,show inR (2:Int) ([a,b,c,d]:List (List UInt8)).length=true from rfl,show gtD [a,b,c,d] (0:Int)=a from rfl,show gtD [a,b,c,d] (3:Int)=d from rfl,show gtD [a,b,c,d] (2:Int)=c from rfl]
  simp only [zCu,Bool.not_true,cond_false]
  rw [zNp hf (by omega),zA8]
  obtain ⟨h1,l1⟩:=zIN (xs:=skL a) (f:=([115] ++ ·)) (a0:=[]) (L:=zBh fu (skL a)) (fun k i acc x hx hacc=>by
    have hi:=zD7 hx
    have hx4:=zL3 (zDh hx)
    have hacc:acc.length≤0+i:=hacc
    rw [zBh,lt_t hi,cond_true,ck_t (zB0 hi),zAW hx,ck_t (zAg (by simp;omega)),zK9 (by omega) (by omega),zA8,zAo,ck_t (zCg (by omega)),cond_false]) (fun k a=>by rw [zBh,lt_f,cond_false]) (fu:=fu) (by omega)
  have l1:((k1L a).foldl (putS bLt) []).length≤(skL a).length:=by
    have:((k1L a).foldl (putS bLt) []).length≤0+(skL a).length:=l1
    omega
  rw [h1,zA8,show ((skL a).map ([115] ++ ·))=k1L a from rfl,zOO (by omega) (by omega),zA8,hyp,zKI hf (by omega),dec4]
  have h3:∀ (acc0:List (List UInt8)),acc0.length≤1000→zBC fu (tokL a) y fu (0:Int) acc0=some ((k3L a y).foldl (putS bLt) acc0)∧zBB fu (tokL a) y fu (0:Int) acc0=some ((k3L a y).foldl (putS bLt) acc0):=fun acc0 h0=>by
    cases hy0:decide (0<y) with
    | true=>
      have e:k3L a y=(tokL a).map fun t=>([121]++Lib.itoa y)++t.take 1:=by unfold k3L;rw [hy0];rfl
      rw [e]
      constructor
      · refine (zIN (xs := tokL a) (f := fun t => ([121] ++ Lib.itoa y) ++ t.take 1) (a0 := acc0) (L := zBC fu (tokL a) y) (fun k i acc x hx hacc => ?_) (fun k a => by rw [zBC, lt_f, Bool.false_and, zCf, cond_false]) (by omega)).1
        have hi:=zD7 hx
        have hx4:=zJo ha (zDh hx)
        rw [zBC,lt_t hi,hy0,Bool.true_and,zCf,cond_true,zJV hf (by omega) (by omega),zA8,ck_t (zAg (by simp;omega)),ck_t (zB0 hi),zAW hx,zJr,ck_t (zBJ.2 ⟨Int.le_refl _,by omega,by omega⟩),ck_t (zAg (by simp;omega)),zK9 (by omega) (by omega),zA8,zAo,ck_t (zCg (by omega)),cond_false]
      · refine (zIN (xs := tokL a) (f := fun t => ([121] ++ Lib.itoa y) ++ t.take 1) (a0 := acc0) (L := zBB fu (tokL a) y) (fun k i acc x hx hacc => ?_) (fun k a => by rw [zBB, lt_f, Bool.false_and, zCf, cond_false]) (by omega)).1
        have hi:=zD7 hx
        have hx4:=zJo ha (zDh hx)
        rw [zBB,lt_t hi,hy0,Bool.true_and,zCf,cond_true,zJV hf (by omega) (by omega),zA8,ck_t (zAg (by simp;omega)),ck_t (zB0 hi),zAW hx,zJr,ck_t (zBJ.2 ⟨Int.le_refl _,by omega,by omega⟩),ck_t (zAg (by simp;omega)),zK9 (by omega) (by omega),zA8,zAo,ck_t (zCg (by omega)),cond_false]
    | false=>
      have e:k3L a y = []:=by unfold k3L;rw [hy0];rfl
      rw [e]
      obtain ⟨k,rfl⟩:∃ k,fu=k+1:=⟨fu-1,by omega⟩
      constructor
      · rw [zBC,hy0,Bool.and_false,zCf,cond_false];rfl
      · rw [zBB,hy0,Bool.and_false,zCf,cond_false];rfl
  have fin:(k3L a y).foldl (putS bLt) ((k2L d).foldl (putS bLt) ((k1L a).foldl (putS bLt) []))=bkL a d y:=by
    rw [← List.foldl_append,← List.foldl_append,zI0,← List.append_assoc]
    rfl
  cases h4:decide (4≤(dgL d).length) with
  | true=>
    have h44:4≤(dgL d).length:=of_decide_eq_true h4
    have e2:(k2L d).foldl (putS bLt) ((k1L a).foldl (putS bLt) [])=putS bLt ((k1L a).foldl (putS bLt) []) ([112]++(dgL d).drop ((dgL d).length-4)):=by unfold k2L;rw [h4];rfl
    have l2:(putS bLt ((k1L a).foldl (putS bLt) []) ([112]++(dgL d).drop ((dgL d).length-4))).length≤(skL a).length+1:=by
      generalize (k1L a).foldl (putS bLt) []=z at l1 ⊢
      generalize ([112]++(dgL d).drop ((dgL d).length-4):List UInt8)=x
      unfold putS putW
      cases (z[plc bLt x z]? == some x)
      · rw [cond_false,zE9];omega
      · rw [cond_true];omega
    rw [cond_true,ck_t (zC4 (by omega) (by omega)),ck_t (zBJ.2 ⟨by omega,by omega,Int.le_refl _⟩),ck_t (zAg (by rw [sub4 h44];simp;omega)),zK9 (by omega) (by omega),zA8,cond_false,zA8,zA8,sub4 h44,(h3 _ (by omega)).1,zA8,← e2,fin]
  | false=>
    have e2:(k2L d).foldl (putS bLt) ((k1L a).foldl (putS bLt) [])=(k1L a).foldl (putS bLt) []:=by unfold k2L;rw [h4];rfl
    rw [cond_false,zA8,zA8,(h3 _ (by omega)).2,zA8,← e2,fin]
theorem zOr {r:RecT} (h:zCZ r≤1048576):zKD r:=by
  unfold zCZ zCz wL at h
  exact ⟨by omega,fun s hs=>Nat.le_trans (zGQ (f:=fun s:List UInt8=>s.length) hs) (by omega)⟩
theorem zPV {α : Type} {f : α → Nat} {m : Nat} : ∀ {xs : List α}, (∀ x ∈ xs, f x ≤ m) → wL f xs ≤ xs.length * (m + 1)
  | [],_=>by simp [wL]
  | x::xs,h=>by
    have h1:=zPV (f:=f) (xs:=xs) fun y hy=>h y (List.mem_cons_of_mem _ hy)
    have h2:=h x List.mem_cons_self
    unfold wL at h1 ⊢
    rw [List.length_cons,List.map_cons,List.sum_cons,Nat.add_mul,Nat.one_mul]
    omega
end Go.Proofs.YtldppodfhabkjaaGreatDoor
namespace Go.Proofs.YtldppodfhabkjaaGreatDoor
open Go.RowKit
set_option linter.unusedVariables false
set_option linter.unusedSimpArgs false
theorem zKw {fu:Nat} {a b:List (List UInt8)} (hf:1048577≤fu) (ha:a.length≤524288) (hb:b.length≤524288):zCK fu a b=some (b.foldl (putS bLt) (a.foldl (putS bLt) [])):=by
  unfold zCK
  have grow:∀ (acc:List (List UInt8)) x,(putS bLt acc x).length≤acc.length+1:=fun acc x=>by
    unfold putS putW
    cases (acc[plc bLt x acc]? == some x)
    · rw [cond_false,zE9];exact Nat.le_refl _
    · rw [cond_true];omega
  have h:=zDq (xs:=a) (g:=putS bLt) (Inv:=fun i acc=>acc.length≤i) (L:=fun k i acc=>zAw fu a k i acc) (fun k i acc x hx hacc=>by
    have hi:=zD7 hx
    show zAw fu a (k+1) (i:Int) acc=_
    rw [zAw,lt_t hi,cond_true]
    simp only [zB0 hi,zAW hx,zCu,zK9 (show acc.length<fu by omega) (show acc.length≤2147483648 by omega),zA8,zCg (show i≤4294967296 by omega),zAo,cond_false]) (fun i acc x hx hacc=>Nat.le_trans (grow acc x) (Nat.succ_le_succ hacc)) (fun k acc hacc=>by show zAw fu a (k+1) (a.length:Int) acc=_;rw [zAw,lt_f];rfl) (a:=[]) (Nat.zero_le _) (show a.length<fu by omega)
  have h':=zDq (xs:=b) (g:=putS bLt) (Inv:=fun i acc=>acc.length≤a.length+i) (L:=fun k i acc=>zAy fu b k i acc) (fun k i acc x hx hacc=>by
    have hi:=zD7 hx
    show zAy fu b (k+1) (i:Int) acc=_
    rw [zAy,lt_t hi,cond_true]
    simp only [zB0 hi,zAW hx,zCu,zK9 (show acc.length<fu by omega) (show acc.length≤2147483648 by omega),zA8,zCg (show i≤4294967296 by omega),zAo,cond_false]) (fun i acc x hx hacc=>by have:=grow acc x;show _≤a.length+(i+1);omega) (fun k acc hacc=>by show zAy fu b (k+1) (b.length:Int) acc=_;rw [zAy,lt_f];rfl) (a:=a.foldl (putS bLt) []) h.2 (show b.length<fu by omega)
  rw [h.1,zA8,h'.1,zA8]
end Go.Proofs.YtldppodfhabkjaaGreatDoor
namespace Go.Proofs.YtldppodfhabkjaaGreatDoor
open Go.RowKit
set_option linter.unusedVariables false
set_option linter.unusedSimpArgs false
def kk (r:RecT):List (List UInt8):=(zBd 1048577 r).getD []
theorem kk_t {r:RecT} (hok:zKD r) (hb:recB r=true):(∀ fu,1048577≤fu→zBd fu r=some (kk r)∧zCX fu r=some (kk r))∧(kk r).length≤200∧(∀ x ∈ kk r,x.length≤120)∧zDC bLt (kk r):=by
  obtain ⟨a,b,c,d,hr,ha,hb2,hc,hd⟩:=zMA hb
  obtain ⟨y,hy,_,hyp⟩:=zPf (s:=c) (by omega)
  have e:kk r=bkL a d y:=by unfold kk;rw [zLL (Nat.le_refl _) hok hb hr ha hc hd hy (hyp _ (Nat.le_refl _)).2];rfl
  have hsk:=zKz a
  have htk:=zGA a
  have hdg:=zKg d
  have hit:=zNA hy
  have h2n:(k2L d).length≤1:=by
    unfold k2L
    cases decide (4≤(dgL d).length)
    · exact Nat.zero_le _
    · exact Nat.le_refl _
  have h3n:(k3L a y).length≤(tokL a).length:=by
    unfold k3L
    cases decide (0<y)
    · exact Nat.zero_le _
    · rw [cond_true,List.length_map];exact Nat.le_refl _
  rw [e]
  refine ⟨fun fu hf=>⟨zLL hf hok hb hr ha hc hd hy (hyp fu hf).2,zNi hf hr ha hc hd hy (hyp fu hf).1⟩,?_,fun x hx=>?_,zF0 _⟩
  · have := zEw ((k1L a ++ k2L d) ++ k3L a y)
    rw [List.length_append,List.length_append] at this
    have hk1:(k1L a).length=(skL a).length:=by simp [k1L]
    unfold bkL
    omega
  · unfold bkL at hx
    rw [zF8] at hx
    rcases List.mem_append.1 hx with hx | hx
    · rcases List.mem_append.1 hx with hx | hx
      · obtain ⟨t, ht, rfl⟩ := List.mem_map.1 hx
        have:=zL3 ht
        simp;omega
      · unfold k2L at hx
        cases h4:decide (4≤(dgL d).length)
        · rw [h4] at hx;cases hx
        · rw [h4, cond_true, List.mem_singleton] at hx
          rw [hx]
          simp;omega
    · unfold k3L at hx
      cases h4:decide (0<y)
      · rw [h4] at hx;cases hx
      · rw [h4, cond_true] at hx
        obtain ⟨t,ht,rfl⟩:=List.mem_map.1 hx
        simp;omega
def zHo (rs:List RecT):Bool:=!(rs.any fun r=>!(recB r))&&decide (rs.length≤12)
theorem zHx {rs:List RecT} (h:zHo rs=true):rs.length≤12∧∀ r ∈ rs,recB r=true:=by
  unfold zHo at h
  rw [Bool.and_eq_true,decide_eq_true_eq] at h
  refine ⟨h.2,fun r hr=>?_⟩
  cases hb:recB r with
  | true=>rfl
  | false=>
    have:(rs.any fun r=>!(recB r))=true:=List.any_eq_true.2 ⟨r,hr,by rw [hb];rfl⟩
    rw [this] at h
    cases h.1
theorem zKq {fu:Nat} {l:List RecT} {F:RecT→Option Bool} {p:RecT→Bool} (hF:∀ x ∈ l,F x=some (p x)) (hf:l.length<fu) (hl:l.length≤1048576):zAX fu l F=some (l.any p):=by
  unfold zAX zAt
  have h:=zN1 (xs:=l) (p:=p) (L:=zAM fu l F) (fun k i y hy=>by
    have hi:=zD7 hy
    rw [zAM,lt_t hi,cond_true]
    simp only [zB0 hi,zAW hy,zCu,hF y (zDh hy),zA8,zCg (show i≤4294967296 by omega),zAo]) (fun k=>by rw [zAM,lt_f];rfl) hf
  rw [h,zA8]
  cases hi:ixI 0 (l.map p) with
  | none=>
    have h2:=zJU hi
    have:(l.any p)=false:=by
      rw [List.any_eq_false]
      intro y hy
      have:=h2 (p y) (List.mem_map_of_mem hy)
      simp [this]
    rw [this]
    rfl
  | some j=>
    obtain ⟨_,h2,_⟩:=zJp hi
    have:(l.any p)=true:=by
      rw [Nat.sub_zero,List.getElem?_map] at h2
      obtain ⟨y,hy,e⟩:=Option.map_eq_some_iff.1 h2
      rw [List.any_eq_true]
      exact ⟨y,List.mem_of_getElem? hy,e⟩
    rw [this]
    show some (decide (0≤(j:Int)))=some true
    rw [decide_eq_true (by omega)]
theorem zN7 {fu:Nat} {rs:List RecT} (hf:1048577≤fu) (hl:rs.length≤1048576) (hok:∀ r ∈ rs,zKD r):zD4 fu rs=some !(rs.any fun r=>!(recB r)):=by
  unfold zD4
  rw [zKq (p:=fun r=>!(recB r)) (fun r hr=>by unfold zD9;rw [zMN hf (hok r hr),zA8]) (by omega) hl,zA8]
theorem zM5 {fu:Nat} {rs:List RecT} (hf:1048577≤fu) (hl:rs.length≤1048576) (hok:∀ r ∈ rs,zKD r):zDv fu rs=some (zHo rs):=by
  unfold zDv
  have h:=zGB (xs:=rs) (p:=fun r=>!(recB r)) (r:=false) (L:=zC6 fu rs) (fun k i y hy=>by
    have hi:=zD7 hy
    rw [zC6,lt_t hi,cond_true]
    simp only [zB0 hi,zAW hy,zCu,zKA hf (hok y (zDh hy)),zA8,zCg (show i≤4294967296 by omega),zAo]) (fun k=>by rw [zC6,lt_f];rfl) (show rs.length<fu by omega)
  rw [h,zA8]
  unfold zHo
  have e:decide ((rs.length:Int)≤(12:Int))=decide (rs.length≤12):=by
    by_cases h:rs.length≤12
    · rw [decide_eq_true h,decide_eq_true (by omega)]
    · rw [decide_eq_false h,decide_eq_false (by omega)]
  cases rs.any fun r=>!(recB r)
  · rw [cond_false,zL5,e];rfl
  · rw [cond_true,zP5];rfl
def idxF (k : List UInt8) : Nat → List RecT → List Int
  | _,[]=>[]
  | i,r::rs=>(bif (kk r).any (fun y=>y==k) then [(i:Int)] else [])++idxF k (i+1) rs
theorem zLS (k : List UInt8) : ∀ (rs : List RecT) (i : Nat) (r : RecT), idxF k i (rs ++ [r]) = idxF k i rs ++ (bif (kk r).any (fun y => y == k) then [((i + rs.length : Nat) : Int)] else [])
  | [],i,r=>by simp [idxF]
  | s::rs,i,r=>by
    rw [List.cons_append,idxF,idxF,zLS k rs (i+1) r,List.append_assoc,List.length_cons,show i+1+rs.length=i+(rs.length+1) by omega]
theorem zJy {k:List UInt8} {rs:List RecT} {i:Nat} {r:RecT} (h:rs[i]? = some r):idxF k 0 (rs.take (i+1))=idxF k 0 (rs.take i)++(bif (kk r).any (fun y=>y==k) then [(i:Int)] else []):=by
  have hi:=zD7 h
  rw [List.take_add_one,h,Option.toList_some,zLS,List.length_take,Nat.min_eq_left (by omega),Nat.zero_add]
theorem zHy (k : List UInt8) : ∀ (rs : List RecT) (i : Nat), (idxF k i rs).length ≤ rs.length
  | [],i=>Nat.le_refl _
  | r::rs,i=>by
    have:=zHy k rs (i+1)
    rw [idxF,List.length_append,List.length_cons]
    cases (kk r).any (fun y=>y==k)
    · rw [cond_false];simp only [List.length_nil];omega
    · rw [cond_true];simp only [List.length_singleton];omega
theorem zNX {rs:List RecT} (h:∀ r ∈ rs,(kk r).length≤200):(rs.flatMap kk).length≤200*rs.length:=by
  induction rs with
  | nil=>simp
  | cons r rs ih=>
    have h1:=ih fun s hs=>h s (List.mem_cons_of_mem _ hs)
    have h2:=h r List.mem_cons_self
    rw [List.flatMap_cons,List.length_append,List.length_cons]
    omega
theorem zIr {rs:List RecT} {i:Nat} {r:RecT} (h:rs[i]? = some r):(rs.take (i+1)).flatMap kk=(rs.take i).flatMap kk++kk r:=by
  rw [List.take_add_one,h,Option.toList_some,List.flatMap_append]
  simp
def OKs (rs:List RecT):Prop:=∀ r ∈ rs,zKD r
theorem zGD {rs:List RecT} (hok:OKs rs) (hb:∀ r ∈ rs,recB r=true) (hn:rs.length≤12) (i:Nat):((rs.take i).flatMap kk).length≤2400:=by
  have:=zNX (rs:=rs.take i) fun r hr=>(kk_t (hok r (List.mem_of_mem_take hr)) (hb r (List.mem_of_mem_take hr))).2.1
  have h2:(rs.take i).length≤12:=by rw [List.length_take];omega
  omega
theorem zO2 {fu i : Nat} {ks K0 : List (List UInt8)} {ms0 : List UInt8 → List Int} {n0 : Nat} (hf : 1048577 ≤ fu) (hk : zDC bLt ks) (hl : ks.length ≤ 200) (hK : K0.length ≤ 2400) (hm : ∀ s, (ms0 s).length ≤ 12) (hn : n0 ≤ 2400) :
    zAk fu (i:Int) ks fu (0:Int) K0 (ms0,[],n0)=some (K0++ks,((fun s=>bif ks.any (fun y=>y==s) then ms0 s ++ [(i:Int)] else ms0 s),[],n0+ks.length)):=by
  have h := zEX (L := fun k j (a : List (List UInt8) × (List UInt8 → List Int) × List (List UInt8) × Nat) => zAk fu (i : Int) ks k j a.1 a.2) (n := ks.length) (r := (K0 ++ ks, ((fun s => bif ks.any (fun y => y == s) then ms0 s ++ [(i : Int)] else ms0 s), ([] : List (List UInt8)), n0 + ks.length)))
    (fun j=>(K0++ks.take j,((fun s=>bif (ks.take j).any (fun y=>y==s) then ms0 s ++ [(i:Int)] else ms0 s),([]:List (List UInt8)),n0+j))) (fun k j hj=>?_) (fun k=>?_) (show ks.length<fu by omega)
  · rw [← h]
    congr 1
    simp
  · have hx := List.getElem?_eq_getElem hj
    have hnd:=zDC.nodup zGj hk
    have hni:ks[j] ∉ ks.take j:=fun hm=>by
      obtain ⟨q,hq⟩:=List.mem_iff_getElem?.1 hm
      rw [List.getElem?_take] at hq
      split at hq
      · rename_i hqj
        have:=(List.getElem?_inj (by omega:q<ks.length) hnd).1 (hq.trans hx.symm)
        omega
      · cases hq
    have hany:(ks.take j).any (fun y=>y==ks[j])=false:=by
      rw [List.any_eq_false]
      intro y hy e
      exact hni (by rw [← of_decide_eq_true (p:=y=ks[j]) (by simpa using e)];exact hy)
    have hlen:(K0++ks.take j).length≤2600:=by rw [List.length_append,List.length_take];omega
    have hmx:=hm ks[j]
    show zAk fu (i:Int) ks (k+1) (j:Int) (K0++ks.take j) ((fun s=>bif (ks.take j).any (fun y=>y==s) then ms0 s ++ [(i:Int)] else ms0 s),([]:List (List UInt8)),n0+j)=zAk fu (i:Int) ks k ((j+1:Nat):Int) (K0++ks.take (j+1)) ((fun s=>bif (ks.take (j+1)).any (fun y=>y==s) then ms0 s ++ [(i:Int)] else ms0 s),([]:List (List UInt8)),n0+(j+1))
    rw [zAk,lt_t hj,cond_true,ck_t (zB0 hj),zAW hx,ck_t (zAg (by simp only [List.length_singleton];omega)),ck_t (decide_eq_true (by simp))]
    simp only [hany,cond_false]
    rw [ck_t (zAg (by simp only [List.length_singleton];omega)),ck_t (decide_eq_true (by unfold maxLen;omega)),ck_t (zC2 (by omega)),zAo]
    have e1:K0++ks.take j ++ [ks[j]]=K0++ks.take (j+1):=by rw [List.take_add_one,hx,Option.toList_some,List.append_assoc]
    have e2:(fun s'=>if s'=ks[j] then ms0 ks[j] ++ [(i:Int)] else bif (ks.take j).any (fun y=>y==s') then ms0 s' ++ [(i:Int)] else ms0 s')=fun s=>bif (ks.take (j+1)).any (fun y=>y==s) then ms0 s ++ [(i:Int)] else ms0 s:=by
      funext s
      rw [List.take_add_one,hx,Option.toList_some,List.any_append,List.any_cons,List.any_nil,Bool.or_false]
      by_cases e:s=ks[j]
      · subst e
        rw [if_pos rfl,beq_self_eq_true,Bool.or_true,cond_true]
      · rw [if_neg e,beq_eq_false_iff_ne.2 (Ne.symm e),Bool.or_false]
    rw [e1,e2]
    rfl
  · show zAk fu (i : Int) ks (k + 1) (ks.length : Int) _ _ = _
    rw [zAk,lt_f,cond_false,List.take_length]
theorem zO8 {fu : Nat} {rs : List RecT} (hf : 1048577 ≤ fu) (hok : OKs rs) (hb : ∀ r ∈ rs, recB r = true) (hn : rs.length ≤ 12) :
    zAd fu rs fu (0:Int) [] ((fun _=>[]:List UInt8→List Int),([]:List (List UInt8)),(0:Nat))=some (rs.flatMap kk,((fun s=>idxF s 0 rs),[],(rs.flatMap kk).length)):=by
  have h := zEX (L := fun k j (a : List (List UInt8) × (List UInt8 → List Int) × List (List UInt8) × Nat) => zAd fu rs k j a.1 a.2) (n := rs.length) (r := (rs.flatMap kk, ((fun s => idxF s 0 rs), ([] : List (List UInt8)), (rs.flatMap kk).length)))
    (fun j=>((rs.take j).flatMap kk,((fun s=>idxF s 0 (rs.take j)),([]:List (List UInt8)),((rs.take j).flatMap kk).length))) (fun k j hj=>?_) (fun k=>?_) (show rs.length<fu by omega)
  · exact h
  · have hx := List.getElem?_eq_getElem hj
    have hm:=zDh hx
    obtain ⟨h1,h2,h3,h4⟩:=kk_t (hok _ hm) (hb _ hm)
    have hft:=zGD hok hb hn j
    show zAd fu rs (k+1) (j:Int) ((rs.take j).flatMap kk) ((fun s=>idxF s 0 (rs.take j)),([]:List (List UInt8)),((rs.take j).flatMap kk).length)=zAd fu rs k ((j+1:Nat):Int) ((rs.take (j+1)).flatMap kk) ((fun s=>idxF s 0 (rs.take (j+1))),([]:List (List UInt8)),((rs.take (j+1)).flatMap kk).length)
    rw [zAd,lt_t hj,cond_true,ck_t (zB0 hj),zAW hx,(h1 fu hf).2,zA8,zO2 hf h4 h2 hft (fun s=>by have:=zHy s (rs.take j) 0;rw [List.length_take] at this;omega) hft,zA8,ck_t (zC2 (by omega)),zAo]
    have e2:(fun s=>bif (kk rs[j]).any (fun y=>y==s) then idxF s 0 (rs.take j) ++ [(j:Int)] else idxF s 0 (rs.take j))=fun s=>idxF s 0 (rs.take (j+1)):=by
      funext s
      rw [zJy hx]
      cases (kk rs[j]).any (fun y=>y==s)
      · rw [cond_false,cond_false,List.append_nil]
      · rfl
    show zAd fu rs k ((j+1:Nat):Int) ((rs.take j).flatMap kk++kk rs[j]) ((fun s=>bif (kk rs[j]).any (fun y=>y==s) then idxF s 0 (rs.take j) ++ [(j:Int)] else idxF s 0 (rs.take j)),([]:List (List UInt8)),((rs.take j).flatMap kk).length+(kk rs[j]).length)=_
    rw [e2,← List.length_append,← zIr hx]
  · show zAd fu rs (k + 1) (rs.length : Int) _ _ = _
    rw [zAd,lt_f,cond_false,List.take_length]
theorem zNw {fu : Nat} {xs : List (List UInt8)} {ms : List UInt8 → List Int} {n : Nat} (hf : 1048577 ≤ fu) (hk : zDC bLt xs) (hl : xs.length ≤ 2400) :
    zAc fu xs fu (0:Int) (ms,[],n) []=some (xs.map fun k=>(k,ms k)):=by
  have h := zEX (L := fun k j (a : ((List UInt8 → List Int) × List (List UInt8) × Nat) × List (List UInt8 × List Int)) => zAc fu xs k j a.1 a.2) (n := xs.length) (r := xs.map fun k => (k, ms k))
    (fun j=>((ms,(xs.take j).reverse,n),(xs.take j).map fun k=>(k,ms k))) (fun k j hj=>?_) (fun k=>?_) (show xs.length<fu by omega)
  · exact h
  · have hx := List.getElem?_eq_getElem hj
    have hnd:=zDC.nodup zGj hk
    have hni:xs[j] ∉ (xs.take j).reverse:=fun hm=>by
      obtain ⟨q,hq⟩:=List.mem_iff_getElem?.1 (List.mem_reverse.1 hm)
      rw [List.getElem?_take] at hq
      split at hq
      · rename_i hqj
        have:=(List.getElem?_inj (by omega:q<xs.length) hnd).1 (hq.trans hx.symm)
        omega
      · cases hq
    show zAc fu xs (k+1) (j:Int) (ms,(xs.take j).reverse,n) ((xs.take j).map fun k=>(k,ms k))=zAc fu xs k ((j+1:Nat):Int) (ms,(xs.take (j+1)).reverse,n) ((xs.take (j+1)).map fun k=>(k,ms k))
    rw [zAc,lt_t hj,cond_true,ck_t (zB0 hj),zAW hx,ck_t (decide_eq_true hni),ck_t (zAg (by rw [List.length_map,List.length_take];omega)),ck_t (zC2 (by omega)),zAo]
    rw [List.take_add_one,hx,Option.toList_some,List.reverse_append,List.map_append]
    rfl
  · show zAc fu xs (k + 1) (xs.length : Int) _ _ = _
    rw [zAc,lt_f,cond_false,List.take_length]
def zEn (rs:List RecT):List (List UInt8 × List Int):=bif zHo rs then (setL (rs.flatMap kk)).map (fun k=>(k,idxF k 0 rs)) else []
theorem zKf {rs:List RecT} (hok:OKs rs) (hg:zHo rs=true):(setL (rs.flatMap kk)).length≤2400:=by
  obtain ⟨hn,hb⟩:=zHx hg
  have h1:=zGD hok hb hn rs.length
  rw [List.take_length] at h1
  have h2:=zEw (rs.flatMap kk)
  omega
theorem zOi {fu:Nat} {rs:List RecT} (hf:1048577≤fu) (hl:rs.length≤1048576) (hok:OKs rs):zCQ fu rs=some (zEn rs):=by
  unfold zCQ zEn
  rw [zN7 hf hl hok]
  by_cases h12:rs.length≤12
  · have hd : decide ((12 : Int) < (rs.length : Int)) = false := decide_eq_false (by omega)
    rw [hd]
    cases hg:zHo rs with
    | false=>
      have:(rs.any fun r=>!(recB r))=true:=by
        unfold zHo at hg
        rw [decide_eq_true h12,Bool.and_true] at hg
        simpa using hg
      rw [this]
      rfl
    | true=>
      obtain ⟨hn,hb⟩:=zHx hg
      have hany:(rs.any fun r=>!(recB r))=false:=by
        rw [List.any_eq_false]
        intro r hr
        rw [hb r hr]
        exact Bool.false_ne_true
      rw [hany,show (true&&(false==false))=true from rfl,zA8,zCf,show (false || !(!false))=false from rfl,cond_false,zO8 hf hok hb hn,zA8]
      have h1:=zGD hok hb hn rs.length
      rw [List.take_length] at h1
      show (cl true (zB5 fu (rs.flatMap kk)) fun x=>cl true (zAc fu x fu (0:Int) ((fun s=>idxF s 0 rs),[],(rs.flatMap kk).length) []) fun s=>some s)=_
      rw [zE3 hf (by omega),zA8,show cmpL ((rs.flatMap kk).mergeSort fun x y=>!(bLt y x))=setL (rs.flatMap kk) from rfl,zNw hf (zF0 _) (zKf hok hg),zA8]
      rfl
  · have hd : decide ((12 : Int) < (rs.length : Int)) = true := decide_eq_true (by omega)
    have hg:zHo rs=false:=by unfold zHo;rw [decide_eq_false h12,Bool.and_false]
    rw [hd,hg]
    rfl
theorem zNU (A B:List (List UInt8)):B.foldl (putS bLt) ((setL A).foldl (putS bLt) [])=setL (A++B):=by
  rw [← List.foldl_append,zI0]
  refine zFe zGj (zF0 _) (zF0 _) fun x=>?_
  rw [zF8,zF8,List.mem_append,List.mem_append,zF8]
theorem zOJ {fu:Nat} {rs:List RecT} (hf:1048577≤fu) (hok:OKs rs) (hb:∀ r ∈ rs,recB r=true) (hn:rs.length≤12):zAl fu rs fu [] (0:Int)=some (setL (rs.flatMap kk)):=by
  have h:=zEX (L:=fun k j (a:List (List UInt8))=>zAl fu rs k a j) (n:=rs.length) (r:=setL (rs.flatMap kk)) (fun j=>setL ((rs.take j).flatMap kk)) (fun k j hj=>?_) (fun k=>?_) (show rs.length<fu by omega)
  · have e:setL ((rs.take 0).flatMap kk) = []:=by
      rw [List.take_zero]
      show cmpL (([]:List (List UInt8)).mergeSort fun x y=>!(bLt y x)) = []
      rw [List.mergeSort_nil]
      rfl
    rw [← h,← e]
  · have hx := List.getElem?_eq_getElem hj
    have hm:=zDh hx
    obtain ⟨h1,h2,h3,h4⟩:=kk_t (hok _ hm) (hb _ hm)
    have hft:=zGD hok hb hn j
    have hsl:=zEw ((rs.take j).flatMap kk)
    show zAl fu rs (k+1) (setL ((rs.take j).flatMap kk)) (j:Int)=zAl fu rs k (setL ((rs.take (j+1)).flatMap kk)) ((j+1:Nat):Int)
    rw [zAl,lt_t hj,cond_true,ck_t (zB0 hj),zAW hx,(h1 fu hf).1,zA8,zKw hf (by omega) (by omega),zA8,ck_t (zC2 (by omega)),zAo,zNU,zIr hx]
  · show zAl fu rs (k + 1) _ (rs.length : Int) = _
    rw [zAl,lt_f,cond_false,List.take_length]
theorem zNs {fu:Nat} {rs:List RecT} {keys:List (List UInt8)} {key:List UInt8} {q:Nat} (hf:1048577≤fu) (hok:OKs rs) (hb:∀ r ∈ rs,recB r=true) (hn:rs.length≤12) (hq:keys[q]? = some key):zAb fu rs keys (q:Int) fu (0:Int) (key,[])=some (key,idxF key 0 rs):=by
  have h:=zEX (L:=fun k j (a:List UInt8 × List Int)=>zAb fu rs keys (q:Int) k j a) (n:=rs.length) (r:=(key,idxF key 0 rs)) (fun j=>(key,idxF key 0 (rs.take j))) (fun k j hj=>?_) (fun k=>?_) (show rs.length<fu by omega)
  · exact h
  · have hx := List.getElem?_eq_getElem hj
    have hm:=zDh hx
    obtain ⟨h1,h2,h3,h4⟩:=kk_t (hok _ hm) (hb _ hm)
    have hlen:(idxF key 0 (rs.take j)).length≤12:=by have:=zHy key (rs.take j) 0;rw [List.length_take] at this;omega
    show zAb fu rs keys (q:Int) (k+1) (j:Int) (key,idxF key 0 (rs.take j))=zAb fu rs keys (q:Int) k ((j+1:Nat):Int) (key,idxF key 0 (rs.take (j+1)))
    rw [zAb,lt_t hj,cond_true,ck_t (zB0 hj),zAW hx,(h1 fu hf).1,zA8,ck_t (zB0 (zD7 hq)),zAW hq,zQ5 (by omega) (by omega),zA8,zJy hx]
    cases (kk rs[j]).any (fun y=>y==key)
    · rw [cond_false,cond_false,ck_t (zC2 (by omega)),zAo,List.append_nil]
    · rw [cond_true,cond_true,ck_t (zAg (by simp only [List.length_singleton];omega)),ck_t (zC2 (by omega)),zAo]
  · show zAb fu rs keys (q : Int) (k + 1) (rs.length : Int) _ = _
    rw [zAb,lt_f,cond_false,List.take_length]
theorem zO6 {fu:Nat} {rs:List RecT} {keys:List (List UInt8)} (hf:1048577≤fu) (hok:OKs rs) (hb:∀ r ∈ rs,recB r=true) (hn:rs.length≤12) (hk:keys.length≤2400):zB9 fu rs keys fu (0:Int) []=some (keys.map fun k=>(k,idxF k 0 rs)):=by
  have h:=zGs (xs:=keys) (f:=fun k=>(k,idxF k 0 rs)) (a0:=[]) (L:=zB9 fu rs keys) (fun k i acc x hx hacc=>by
    have hi:=zD7 hx
    have hacc:acc.length=0+i:=hacc
    rw [zB9,lt_t hi,cond_true,ck_t (zB0 hi),zAW hx,zNs hf hok hb hn hx,zA8,ck_t (zAg (by simp only [List.length_singleton];omega)),ck_t (zC2 (by omega)),zAo]) (fun k a=>by rw [zB9,lt_f,cond_false]) (fu:=fu) (by omega)
  rw [h,List.nil_append]
theorem zP7 {fu:Nat} {rs:List RecT} (hf:1048577≤fu) (hl:rs.length≤1048576) (hok:OKs rs):zCN fu rs=some (zEn rs):=by
  unfold zCN zEn
  rw [zM5 hf hl hok,zA8]
  cases hg:zHo rs with
  | false=>rfl
  | true=>
    obtain ⟨hn,hb⟩:=zHx hg
    rw [Bool.not_true,cond_false,zOJ hf hok hb hn,zA8,zO6 hf hok hb hn (zKf hok hg),zA8]
    rfl
theorem zIw {rs:List RecT} (hok:OKs rs):(zEn rs).length≤2400∧∀ b ∈ zEn rs,b.1.length≤120∧b.2.length≤12:=by
  unfold zEn
  cases hg:zHo rs with
  | false=>exact ⟨Nat.zero_le _,fun b hb=>by cases hb⟩
  | true=>
    obtain ⟨hn,hb⟩:=zHx hg
    rw [cond_true]
    refine ⟨by rw [List.length_map];exact zKf hok hg,fun b hbm=>?_⟩
    obtain ⟨k,hk,rfl⟩:=List.mem_map.1 hbm
    rw [zF8,List.mem_flatMap] at hk
    obtain ⟨r,hr,hk⟩:=hk
    exact ⟨(kk_t (hok r hr) (hb r hr)).2.2.1 k hk,Nat.le_trans (zHy k rs 0) hn⟩
theorem zP0 {rs:List RecT} (h:zCb rs≤1048576):rs.length≤1048576∧OKs rs:=by
  unfold zCb wL at h
  exact ⟨by omega,fun r hr=>zOr (Nat.le_trans (zGQ (f:=zCZ) hr) (by omega))⟩
end Go.Proofs.YtldppodfhabkjaaGreatDoor
namespace Go.Proofs.YtldppodfhabkjaaGreatDoor
open Go.RowKit
set_option linter.unusedVariables false
set_option linter.unusedSimpArgs false
abbrev PrT:=Int × Int
def ltQ (a b:PrT):Bool:=decide (a.1<b.1) || (a.1==b.1&&decide (a.2<b.2))
theorem zLA {a b:PrT}:ltQ a b=true ↔ a.1<b.1∨(a.1=b.1∧a.2<b.2):=by simp [ltQ]
theorem zPB (a b:PrT):ltP a b=ltQ a b:=by
  rw [Bool.eq_iff_iff,zLA]
  unfold ltP
  rw [decide_eq_true_eq]
  exact zMe a b
theorem zPX {a b:PrT}:ltQ a b=false ↔ ¬ (a.1<b.1∨(a.1=b.1∧a.2<b.2)):=by
  rw [← zLA]
  simp
theorem zJD:Sto ltQ:=⟨fun a=>by rw [zPX];omega,fun a b c h k=>by rw [zLA] at *;omega,fun a b h k=>by rw [zPX] at *;exact Prod.ext (by omega) (by omega)⟩
theorem zLD {fu : Nat} {s : List PrT} {i : Nat} (hl : s.length ≤ 1048576) (hi0 : 0 < i) : ∀ m j w k ys q, i + j + m = s.length → m < k → 1 ≤ j → w ≤ i + j - 1 → ys.length = s.length → ys.drop (i + j - 1) = s.drop (i + j - 1) → s[i + j - 1]? = some q → ys.take w ++ cmpA q (s.drop (i + j)) = cmpL s →
    ∃ (w':Nat) (ys':List PrT),zAJ fu (i:Int) (s.length-i) k (w:Int) (j:Int) ys=some ((w':Int),ys')∧ys'.length=s.length∧w'≤s.length∧ys'.take w'=cmpL s:=by
  intro m
  induction m with
  | zero=>
    intro j w k ys q hm hk hj hw hlen hdr hq hc
    obtain ⟨k,rfl⟩:∃ q,k=q+1:=⟨k-1,by omega⟩
    refine ⟨w,ys,?_,hlen,by omega,?_⟩
    · rw [zAJ, decide_eq_false (show ¬ (j : Int) < ((s.length - i : Nat) : Int) by omega)]
      rfl
    · rw [show i + j = s.length by omega, List.drop_length] at hc
      simpa [cmpA] using hc
  | succ m ih=>
    intro j w k ys q hm hk hj hw hlen hdr hq hc
    obtain ⟨k,rfl⟩:∃ q,k=q+1:=⟨k-1,by omega⟩
    have hx:=List.getElem?_eq_getElem (show i+j<s.length by omega)
    have hat:∀ n,i+j-1≤n→ys[n]? = s[n]?:=fun n hn=>by
      have:=congrArg (fun l=>l[n-(i+j-1)]?) hdr
      simp only [List.getElem?_drop] at this
      rwa [show i+j-1+(n-(i+j-1))=n by omega] at this
    have hyx:ys[i+j]? = some s[i+j]:=(hat _ (by omega)).trans hx
    have hyq:ys[i+j-1]? = some q:=(hat _ (Nat.le_refl _)).trans hq
    have e1:((i:Int)+(j:Int))=((i+j:Nat):Int):=rfl
    have e2:((i:Int)+((j:Int)-1))=((i+j-1:Nat):Int):=by omega
    rw [zAJ,decide_eq_true (show (j:Int)<((s.length-i:Nat):Int) by omega),cond_true,ck_t (zL1 (by omega) (by omega)),ck_t (decide_eq_true (by omega)),e1,ck_t (zB0 (by omega)),ck_t (zC4 (by omega) (by omega)),ck_t (zL1 (by omega) (by omega)),ck_t (decide_eq_true (by omega)),e2,ck_t (zB0 (by omega)),zAW hyx,zAW hyq]
    rw [zCl hx,cmpA] at hc
    cases hb:(s[i+j]==q)
    · rw [Bool.not_false, cond_true, ck_t (zL1 (by omega) (by omega)), ck_t (decide_eq_true (by omega)), ck_t (zB0 (by omega)), ck_t (zB0 (by omega)), ck_t (zC2 (by omega)), ck_t (zC2 (by omega)), zAo, zAo, zGT]
      rw [hb,cond_false] at hc
      have:=ih (j+1) (w+1) k (ys.set w s[i+j]) s[i+j] (by omega) (by omega) (by omega) (by omega) (by rw [List.length_set];exact hlen) ?_ ?_ ?_
      · exact this
      · rw [List.drop_set_of_lt (by omega)]
        have:=congrArg (fun l=>l.drop 1) hdr
        simp only [List.drop_drop] at this
        rwa [show i+(j+1)-1=i+j-1+1 by omega]
      · rw [show i + (j + 1) - 1 = i + j by omega]
        exact hx
      · rw [List.take_add_one, List.take_set_of_le (Nat.le_refl _), List.getElem?_set_self (by omega)]
        simpa [Nat.add_assoc] using hc
    · rw [Bool.not_true, cond_false, ck_t (zC2 (by omega)), zAo]
      rw [hb,cond_true] at hc
      refine ih (j+1) w k ys s[i+j] (by omega) (by omega) (by omega) (by omega) hlen ?_ ?_ hc
      · have := congrArg (fun l => l.drop 1) hdr
        simp only [List.drop_drop] at this
        rwa [show i+(j+1)-1=i+j-1+1 by omega]
      · rw [show i + (j + 1) - 1 = i + j by omega]
        exact hx
theorem zLr {fu:Nat} {s:List PrT} (hf:1048577≤fu) (hl:s.length≤1048576):zAh fu s=some (cmpL s):=by
  unfold zAh
  by_cases h2:s.length<2
  · rw [decide_eq_true (by omega), cond_true]
    match s,h2 with
    | [],_=>rfl
    | [x],_=>rfl
  · rw [decide_eq_false (by omega), cond_false]
    have key : ∀ m i k q, i + m = s.length → m < k → 0 < i → s[i - 1]? = some q → s.take i ++ cmpA q (s.drop i) = cmpL s →
        zAK fu k (i:Int) s=some (Ex.ret (cmpL s))∨(zAK fu k (i:Int) s=some (Ex.go s)∧cmpL s=s):=by
      intro m
      induction m with
      | zero=>
        intro i k q hm hk hi hq hc
        obtain ⟨k,rfl⟩:∃ q,k=q+1:=⟨k-1,by omega⟩
        obtain rfl:i=s.length:=by omega
        right
        refine ⟨by rw [zAK,lt_f];rfl,?_⟩
        rw [List.drop_length,List.take_length] at hc
        simpa [cmpA] using hc.symm
      | succ m ih=>
        intro i k q hm hk hi hq hc
        obtain ⟨k,rfl⟩:∃ q,k=q+1:=⟨k-1,by omega⟩
        have hlt:i<s.length:=by omega
        have hx:=List.getElem?_eq_getElem hlt
        have e1:((i:Int)-1)=((i-1:Nat):Int):=by omega
        rw [zAK,lt_t hlt,cond_true,ck_t (zB0 hlt),ck_t (zC4 (by omega) (by omega)),e1,ck_t (zB0 (by omega)),zAW hx,zAW hq]
        have hc':=hc
        rw [zCl hx,cmpA] at hc
        cases hb:(s[i]==q)
        · rw [cond_false, ck_t (zC2 (by omega)), zAo]
          rw [hb,cond_false] at hc
          refine ih (i+1) k s[i] (by omega) (by omega) (by omega) (by rw [Nat.add_sub_cancel];exact hx) ?_
          have ht:s.take (i+1)=s.take i ++ [s[i]]:=by rw [List.take_add_one,hx];rfl
          rw [ht,List.append_assoc]
          exact hc
        · left
          rw [hb,cond_true] at hc
          obtain ⟨w',ys',h3,h4,h5,h6⟩:=zLD (fu:=fu) hl hi (s.length-i-1) 1 i fu s s[i] (by omega) (by omega) (Nat.le_refl _) (by omega) rfl rfl (by rw [Nat.add_sub_cancel];exact hx) hc
          rw [cond_true,ck_t (zJw (Nat.le_of_lt hlt)),zCf,Int.toNat_natCast,Int.toNat_natCast,show ((1:Int))=((1:Nat):Int) from rfl,h3,zA8]
          simp only [h4,zBJ.2 ⟨show (0:Int)≤(w':Int) by omega,show (w':Int)≤(s.length:Int) by omega,show (s.length:Int)≤(s.length:Int) from Int.le_refl _⟩,zCf,Int.toNat_natCast,zCu,beq_self_eq_true]
          have e3:(ys'.take w'++List.replicate (s.length-w') ((0:Int),(0:Int)))=(ys'.take w'++List.replicate (ys'.length-w') ((0:Int),(0:Int))):=by rw [h4]
          rw [e3,ck_t (by rw [zHg (by omega)];exact zLV (by omega)),zK1 (by omega),h6]
    obtain ⟨x0,t,hs⟩:∃ x t,s=x::t:=by
      cases s with
      | nil=>simp at h2
      | cons x t=>exact ⟨x,t,rfl⟩
    have hk:=key (s.length-1) 1 fu x0 (by omega) (by omega) (by omega) (by rw [hs];rfl) (by rw [hs];rfl)
    rw [show ((1:Int))=((1:Nat):Int) from rfl]
    rcases hk with h | ⟨h,e⟩
    · rw [h]
      rfl
    · rw [h, e]
      rfl
def prsN (m:List Int) (i:Nat):List PrT:=(List.range i).flatMap fun q=>(m.drop (q+1)).map fun b=>(m.getD q 0,b)
theorem zIP (m:List Int) (i:Nat):prsN m (i+1)=prsN m i++(m.drop (i+1)).map fun b=>(m.getD i 0,b):=by
  unfold prsN
  rw [List.range_succ,List.flatMap_append]
  simp
theorem zHv {m : List Int} (h : m.length ≤ 12) : ∀ i, (prsN m i).length ≤ 12 * i
  | 0=>Nat.le_refl _
  | i+1=>by
    have:=zHv h i
    rw [zIP,List.length_append,List.length_map,List.length_drop]
    omega
abbrev BlT:=List UInt8 × List Int
def prsB (most:Int) (b:BlT):List PrT:=bif decide (most<(b.2.length:Int)) then [] else prsN b.2 b.2.length
def BsOK (bs:List BlT):Prop:=bs.length≤2400∧∀ b ∈ bs,b.2.length≤12
theorem zNt {most:Int} {b:BlT} (h:b.2.length≤12):(prsB most b).length≤144:=by
  unfold prsB
  cases decide (most<(b.2.length:Int))
  · rw [cond_false]
    have:=zHv h b.2.length
    omega
  · exact Nat.zero_le _
theorem zGr {most : Int} : ∀ {bs : List BlT}, (∀ b ∈ bs, b.2.length ≤ 12) → (bs.flatMap (prsB most)).length ≤ 144 * bs.length
  | [],_=>Nat.le_refl _
  | b::bs,h=>by
    have h1:=zGr (most:=most) (bs:=bs) fun c hc=>h c (List.mem_cons_of_mem _ hc)
    have h2:=zNt (most:=most) (h b List.mem_cons_self)
    rw [List.flatMap_cons,List.length_append,List.length_cons]
    omega
theorem zK6 {most:Int} {bs:List BlT} {i:Nat} {b:BlT} (h:bs[i]? = some b):(bs.take (i+1)).flatMap (prsB most)=(bs.take i).flatMap (prsB most)++prsB most b:=by
  rw [List.take_add_one,h,Option.toList_some,List.flatMap_append]
  simp
theorem zLY {m:List Int} {i:Nat}:gtD m (i:Int)=m.getD i 0:=by
  unfold gtD
  rw [Int.toNat_natCast]
  rfl
theorem zIs {m:List Int} {i:Nat}:subL m ((i:Int)+1) (m.length:Int)=m.drop (i+1):=by
  rw [zAo,zH8]
theorem zNy {fu : Nat} {bs : List BlT} {q i : Nat} {b : BlT} {acc : List PrT} (hf : 1048577 ≤ fu) (hb : bs[q]? = some b) (hm : b.2.length ≤ 12) (hi : i < b.2.length) (ha : acc.length ≤ 1000000) :
    zBG fu bs (q:Int) (i:Int) fu (0:Int) acc=some (acc++(b.2.drop (i+1)).map fun y=>(b.2.getD i 0,y)):=by
  refine zGs (xs:=b.2.drop (i+1)) (f:=fun y=>(b.2.getD i 0,y)) (a0:=acc) (L:=zBG fu bs (q:Int) (i:Int)) (fun k j a y hy hacc=>?_) (fun k a=>?_) (by rw [List.length_drop];omega)
  · have hj := zD7 hy
    have hl:(b.2.drop (i+1)).length≤12:=by rw [List.length_drop];omega
    rw [zBG,zAW hb,zIs,lt_t hj,cond_true,ck_t (zB0 hj),zAW hy,zLY,ck_t (zAg (by simp only [List.length_singleton];omega)),ck_t (zC2 (by omega)),zAo]
  · rw [zBG,zAW hb,zIs,lt_f,cond_false]
theorem zNk {fu : Nat} {bs : List BlT} {q : Nat} {b : BlT} {acc : List PrT} (hf : 1048577 ≤ fu) (hb : bs[q]? = some b) (hm : b.2.length ≤ 12) (ha : acc.length ≤ 500000) :
    zAr fu bs (q:Int) fu (0:Int) acc=some (acc++prsN b.2 b.2.length):=by
  have h:=zEX (L:=zAr fu bs (q:Int)) (n:=b.2.length) (r:=acc++prsN b.2 b.2.length) (fun i=>acc++prsN b.2 i) (fun k i hi=>?_) (fun k=>?_) (show b.2.length<fu by omega)
  · rw [← h]
    congr 1
    show acc=acc ++ []
    rw [List.append_nil]
  · have hl := zHv hm i
    show zAr fu bs (q:Int) (k+1) (i:Int) (acc++prsN b.2 i)=zAr fu bs (q:Int) k ((i+1:Nat):Int) (acc++prsN b.2 (i+1))
    rw [zAr,zAW hb,lt_t hi,cond_true,ck_t (zB0 hi),ck_t (zC2 (by omega)),zAo,ck_t (zJw (by omega)),zNy hf hb hm hi (by rw [List.length_append];omega),zA8,ck_t (zC4 (by omega) (by omega)),zIP,List.append_assoc]
  · show zAr fu bs (q : Int) (k + 1) (b.2.length : Int) _ = _
    rw [zAr,zAW hb,lt_f,cond_false]
theorem zNq {fu:Nat} {bs:List BlT} {most:Int} (hf:1048577≤fu) (hb:BsOK bs):zAi fu most bs fu (0:Int) []=some (bs.flatMap (prsB most)):=by
  have hb1:=hb.1
  have h:=zEX (L:=zAi fu most bs) (n:=bs.length) (r:=bs.flatMap (prsB most)) (fun i=>(bs.take i).flatMap (prsB most)) (fun k i hi=>?_) (fun k=>?_) (show bs.length<fu by omega)
  · exact h
  · have hx := List.getElem?_eq_getElem hi
    have hm:=hb.2 _ (zDh hx)
    have hl:=zGr (most:=most) (bs:=bs.take i) fun c hc=>hb.2 c (List.mem_of_mem_take hc)
    have hl2:(bs.take i).length≤2400:=by rw [List.length_take];omega
    show zAi fu most bs (k+1) (i:Int) ((bs.take i).flatMap (prsB most))=zAi fu most bs k ((i+1:Nat):Int) ((bs.take (i+1)).flatMap (prsB most))
    rw [zAi,lt_t hi,cond_true,ck_t (zB0 hi),zAW hx,zK6 hx]
    unfold prsB
    cases decide (most<(bs[i].2.length:Int))
    · rw [cond_false, zNk hf hx hm (by unfold prsB at hl; omega), zA8, ck_t (zC2 (by omega)), zAo]
      rfl
    · rw [cond_true,ck_t (zC2 (by omega)),zAo,cond_true,List.append_nil]
  · show zAi fu most bs (k + 1) (bs.length : Int) _ = _
    rw [zAi,lt_f,cond_false,List.take_length]
def zGp (bs:List BlT) (most:Int):List PrT:=cmpL ((bs.flatMap (prsB most)).mergeSort fun x y=>!(ltQ y x))
theorem zJq (bs:List BlT) (most:Int):zDC ltQ (zGp bs most):=zIU zJD (zIE zJD _)
theorem zM0 {bs:List BlT} {most:Int} {p:PrT}:p ∈ zGp bs most ↔ p ∈ bs.flatMap (prsB most):=by
  unfold zGp
  rw [zLT,List.mem_mergeSort]
theorem zLp {bs:List BlT} {most:Int} (hb:BsOK bs):(zGp bs most).length≤345600:=by
  have h1:=zGr (most:=most) hb.2
  have h2:=hb.1
  have h3:(zGp bs most).length≤(bs.flatMap (prsB most)).length:=by
    unfold zGp
    have:∀ l:List PrT,(cmpL l).length≤l.length:=fun l=>by
      cases l with
      | nil=>exact Nat.le_refl _
      | cons x xs=>have:=zGl (p:=x) (l:=xs);simp [cmpL];omega
    have:=this ((bs.flatMap (prsB most)).mergeSort fun x y=>!(ltQ y x))
    rwa [List.length_mergeSort] at this
  omega
theorem zII {rs:List RecT} (hok:OKs rs):BsOK (zEn rs):=⟨(zIw hok).1,fun b hb=>((zIw hok).2 b hb).2⟩
theorem zLF {fu:Nat} {rs:List RecT} {most:Int} (hf:1048577≤fu) (hl:rs.length≤1048576) (hok:OKs rs):zBU fu rs most=some (zGp (zEn rs) most):=by
  have hb:=zII hok
  have h1:=zGr (most:=most) hb.2
  have h2:=hb.1
  unfold zBU
  rw [zOi hf hl hok,zA8,zNq hf hb,zA8]
  unfold zJs
  rw [ck_t (zAg (by omega)),zA8]
  have e:(fun x y:PrT=>!(ltP y x))=fun x y=>!(ltQ y x):=by
    funext x y
    rw [zPB]
  rw [e,zLr hf (by rw [List.length_mergeSort];omega),zA8]
  rfl
theorem zPo {fu:Nat} {l:List PrT} {x:PrT} (hf:l.length<fu) (hl:l.length≤2147483648):zEJ fu l x=some (putS ltQ l x):=by
  unfold zEJ
  have h:=zLd (lt:=ltQ) (x:=x) (l:=l) (L:=zCS fu l x) (fun k i y hy=>by
    have hi:=zD7 hy
    rw [zCS]
    simp only [lt_t hi,zB0 hi,zAW hy,zCf,Bool.or_true,Bool.true_and,zCu,zCg (show i≤4294967296 by omega),zAo,ltQ]) (fun k=>by rw [zCS,lt_f];rfl) hf
  have hp:=zNK (lt:=ltQ) (x:=x) l
  rw [h,zA8]
  simp only [zCf,zFO,zH8,zLV hp,zJw hp,zCu,List.length_nil,List.length_append,List.length_take,List.length_drop,List.length_singleton,List.nil_append,Nat.zero_add,zAg (show min (plc ltQ x l) l.length≤4294967296 by omega),zAg (show min (plc ltQ x l) l.length+1≤4294967296 by omega),zAg (show min (plc ltQ x l) l.length+1+(l.length-plc ltQ x l)≤4294967296 by omega)]
  have hins:l.take (plc ltQ x l) ++ [x]++l.drop (plc ltQ x l)=putW ltQ l x:=by simp [putW,zKx]
  rw [hins]
  unfold putS
  by_cases hlt:plc ltQ x l<l.length
  · have hg := List.getElem?_eq_getElem hlt
    rw [lt_t hlt,zB0 hlt,zAW hg,hg]
    have:(some l[plc ltQ x l]==some x)=(l[plc ltQ x l]==x):=rfl
    rw [this]
    cases (l[plc ltQ x l]==x) <;> rfl
  · have e : decide (((plc ltQ x l : Nat) : Int) < (l.length : Int)) = false := decide_eq_false (by omega)
    have e2:l[plc ltQ x l]? = none:=List.getElem?_eq_none (by omega)
    rw [e,e2]
    rfl
theorem zEu : ∀ (l a : List PrT), (l.foldl (putS ltQ) a).length ≤ a.length + l.length
  | [],a=>Nat.le_refl _
  | x::l,a=>by
    have h1:=zEu l (putS ltQ a x)
    have h2:(putS ltQ a x).length≤a.length+1:=by
      unfold putS putW
      cases (a[plc ltQ x a]? == some x)
      · rw [cond_false,zE9];exact Nat.le_refl _
      · exact Nat.le_succ _
    rw [List.foldl_cons,List.length_cons]
    omega
theorem zOn {σ ρ:Type} {L:Nat→Int→σ→Option ρ} {n s:Nat} {r:ρ} (St:Nat→σ) (hs:∀ k i,s≤i→i<n→L (k+1) (i:Int) (St i)=L k ((i+1:Nat):Int) (St (i+1))) (he:∀ k,L (k+1) (n:Int) (St n)=some r) (hsn:s≤n) {fu:Nat} (hf:n<fu):L fu (s:Int) (St s)=some r:=by
  have key:∀ m i k,i+m=n→s≤i→m<k→L k ((i:Nat):Int) (St i)=some r:=by
    intro m
    induction m with
    | zero=>
      intro i k hi hsi hk
      obtain ⟨k,rfl⟩:∃ q,k=q+1:=⟨k-1,by omega⟩
      obtain rfl:i=n:=by omega
      exact he k
    | succ m ih=>
      intro i k hi hsi hk
      obtain ⟨k,rfl⟩:∃ q,k=q+1:=⟨k-1,by omega⟩
      rw [hs k i hsi (by omega)]
      exact ih (i+1) k (by omega) (by omega) (by omega)
  exact key (n-s) s fu (by omega) (Nat.le_refl _) (by omega)
theorem zNb {fu : Nat} {bs : List BlT} {q i : Nat} {b : BlT} {acc : List PrT} (hf : 1048577 ≤ fu) (hb : bs[q]? = some b) (hm : b.2.length ≤ 12) (hi : i < b.2.length) (ha : acc.length ≤ 1000000) :
    zAq fu bs (q:Int) (i:Int) fu ((i+1:Nat):Int) acc=some (((b.2.drop (i+1)).map fun y=>(b.2.getD i 0,y)).foldl (putS ltQ) acc):=by
  have h:=zOn (L:=zAq fu bs (q:Int) (i:Int)) (n:=b.2.length) (s:=i+1) (r:=((b.2.drop (i+1)).map fun y=>(b.2.getD i 0,y)).foldl (putS ltQ) acc) (fun j=>(((b.2.drop (i+1)).take (j-(i+1))).map fun y=>(b.2.getD i 0,y)).foldl (putS ltQ) acc) (fun k j hs hj=>?_) (fun k=>?_) (by omega) (show b.2.length<fu by omega)
  · rw [← h, Nat.sub_self]
    rfl
  · have hx := List.getElem?_eq_getElem hj
    have hd:(b.2.drop (i+1))[j-(i+1)]? = some b.2[j]:=by rw [List.getElem?_drop,show i+1+(j-(i+1))=j by omega];exact hx
    have hlen:((((b.2.drop (i+1)).take (j-(i+1))).map fun y=>(b.2.getD i 0,y)).foldl (putS ltQ) acc).length≤1000012:=by
      have:=zEu (((b.2.drop (i+1)).take (j-(i+1))).map fun y=>(b.2.getD i 0,y)) acc
      rw [List.length_map,List.length_take] at this
      omega
    show zAq fu bs (q:Int) (i:Int) (k+1) (j:Int) ((((b.2.drop (i+1)).take (j-(i+1))).map fun y=>(b.2.getD i 0,y)).foldl (putS ltQ) acc)=zAq fu bs (q:Int) (i:Int) k ((j+1:Nat):Int) ((((b.2.drop (i+1)).take (j+1-(i+1))).map fun y=>(b.2.getD i 0,y)).foldl (putS ltQ) acc)
    rw [zAq,zAW hb,lt_t hj,cond_true,ck_t (zB0 hi),ck_t (zB0 hj),zLY,zAW hx,zPo (by omega) (by omega),zA8,ck_t (zC2 (by omega)),zAo]
    rw [show j+1-(i+1)=j-(i+1)+1 by omega,List.take_add_one,hd,Option.toList_some,List.map_append,List.foldl_append]
    rfl
  · show zAq fu bs (q : Int) (i : Int) (k + 1) (b.2.length : Int) _ = _
    rw [zAq,zAW hb,lt_f,cond_false,List.take_of_length_le (by rw [List.length_drop];exact Nat.le_refl _)]
theorem zOE {fu : Nat} {bs : List BlT} {q : Nat} {b : BlT} {most : Int} {acc : List PrT} (hf : 1048577 ≤ fu) (hb : bs[q]? = some b) (hm : b.2.length ≤ 12) (ha : acc.length ≤ 500000) :
    zAj fu most bs (q:Int) fu (0:Int) acc=some ((prsB most b).foldl (putS ltQ) acc):=by
  unfold prsB
  cases hd:decide (most<(b.2.length:Int)) with
  | true=>
    have hm':=of_decide_eq_true hd
    obtain ⟨k,rfl⟩:∃ k,fu=k+1:=⟨fu-1,by omega⟩
    rw [zAj,zAW hb,decide_eq_false (show ¬ (b.2.length:Int)≤most by omega),Bool.and_false,zCf,cond_false]
    rfl
  | false=>
    have hm':=of_decide_eq_false hd
    have h:=zEX (L:=zAj fu most bs (q:Int)) (n:=b.2.length) (r:=(prsN b.2 b.2.length).foldl (putS ltQ) acc) (fun i=>(prsN b.2 i).foldl (putS ltQ) acc) (fun k i hi=>?_) (fun k=>?_) (show b.2.length<fu by omega)
    · exact h
    · have hl := zHv hm i
      have hl2:=zEu (prsN b.2 i) acc
      show zAj fu most bs (q:Int) (k+1) (i:Int) ((prsN b.2 i).foldl (putS ltQ) acc)=zAj fu most bs (q:Int) k ((i+1:Nat):Int) ((prsN b.2 (i+1)).foldl (putS ltQ) acc)
      rw [zAj,zAW hb,lt_t hi,decide_eq_true (show (b.2.length:Int)≤most by omega),zCf,Bool.and_self,cond_true,ck_t (zC2 (by omega)),zAo,zNb hf hb hm hi (by omega),zA8,ck_t (zC4 (by omega) (by omega)),zIP,List.foldl_append]
    · show zAj fu most bs (q : Int) (k + 1) (b.2.length : Int) _ = _
      rw [zAj,zAW hb,lt_f,Bool.false_and,zCf,cond_false]
theorem zNv {fu:Nat} {bs:List BlT} {most:Int} (hf:1048577≤fu) (hb:BsOK bs):zAp fu most bs fu (0:Int) []=some ((bs.flatMap (prsB most)).foldl (putS ltQ) []):=by
  have hb1:=hb.1
  have h:=zEX (L:=zAp fu most bs) (n:=bs.length) (r:=(bs.flatMap (prsB most)).foldl (putS ltQ) []) (fun i=>((bs.take i).flatMap (prsB most)).foldl (putS ltQ) []) (fun k i hi=>?_) (fun k=>?_) (show bs.length<fu by omega)
  · exact h
  · have hx := List.getElem?_eq_getElem hi
    have hm:=hb.2 _ (zDh hx)
    have hl:=zGr (most:=most) (bs:=bs.take i) fun c hc=>hb.2 c (List.mem_of_mem_take hc)
    have hl2:(bs.take i).length≤2400:=by rw [List.length_take];omega
    have hl3:=zEu ((bs.take i).flatMap (prsB most)) []
    have hl3:(((bs.take i).flatMap (prsB most)).foldl (putS ltQ) []).length≤0+((bs.take i).flatMap (prsB most)).length:=hl3
    show zAp fu most bs (k+1) (i:Int) (((bs.take i).flatMap (prsB most)).foldl (putS ltQ) [])=zAp fu most bs k ((i+1:Nat):Int) (((bs.take (i+1)).flatMap (prsB most)).foldl (putS ltQ) [])
    rw [zAp,lt_t hi,cond_true,ck_t (zB0 hi),zOE hf hx hm (by omega),zA8,ck_t (zC2 (by omega)),zAo,zK6 hx,List.foldl_append]
  · show zAp fu most bs (k + 1) (bs.length : Int) _ = _
    rw [zAp,lt_f,cond_false,List.take_length]
theorem zL2 {fu:Nat} {rs:List RecT} {most:Int} (hf:1048577≤fu) (hl:rs.length≤1048576) (hok:OKs rs):zBp fu rs most=some (zGp (zEn rs) most):=by
  have hb:=zII hok
  unfold zBp
  rw [zP7 hf hl hok,zA8,zNv hf hb,zA8]
  congr 1
  obtain ⟨h1,h2⟩:=zHO zJD ((zEn rs).flatMap (prsB most)) [] List.Pairwise.nil
  refine zFe zJD h1 (zJq _ _) fun x=>?_
  rw [h2,zM0]
  simp
theorem zJM {a0:List RecT} {a1:Int} (h0:(qS (qP qI (qP qI (qP qI (qS qB))))) a0) (h1:qI a1) (hw:zCb a0≤1048576):∃ r:List PrT,zBp 1048577 a0 a1=some r∧zBU 1048577 a0 a1=some r∧zDS r≤1048576:=by
  obtain ⟨hl,hok⟩:=zP0 hw
  refine ⟨_,zL2 (Nat.le_refl _) hl hok,zLF (Nat.le_refl _) hl hok,?_⟩
  have h:=zLp (most:=a1) (zII hok)
  unfold zDS
  have h2:=zPV (f:=zDx) (m:=0) (xs:=zGp (zEn a0) a1) fun _ _=>Nat.le_refl _
  omega
end Go.Proofs.YtldppodfhabkjaaGreatDoor
