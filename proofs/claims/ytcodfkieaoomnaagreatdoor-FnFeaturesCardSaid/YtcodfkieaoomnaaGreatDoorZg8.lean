/- Own texts laid together. No statement of the seat is proved here. -/
import Derived.Test.YtcodfkieaoomnaaGreatDoorZg7
namespace Go.Proofs.YtcodfkieaoomnaaGreatDoor
open Go.RowKit
set_option linter.unusedVariables false
set_option linter.unusedSimpArgs false
theorem zEr {fu:Nat} {x lo hi:Int}:zBB fu x lo hi=some (inI x lo hi):=rfl
theorem zPA {n:Int} (h0:-9223372036854775808≤n) (h1:n≤9223372036854775807):IntKind.i64.wrap n=n:=IntWalk.i64_in _ (by omega)
def ntC (c:UInt8):Bool:=!(inI c.toNat 32 126)
def txB (s:List UInt8):Bool:=!(s.any ntC)&&decide (s.length≤40)
theorem zPJ {n:Nat}:decide ((n:Int)≤(40:Int))=decide (n≤40):=by
  by_cases h:n≤40
  · rw [decide_eq_true h,decide_eq_true (by omega)]
  · rw [decide_eq_false h,decide_eq_false (by omega)]
theorem zNL {fu:Nat} {s:List UInt8} (hf:s.length<fu) (hl:s.length≤1048576):zE7 fu s=some (txB s):=by
  unfold zE7
  have h:=zFI (xs:=s) (p:=ntC) (r:=false) (L:=zCJ fu s) (fun k i c hc=>by
    have hi:=zDn hc
    have hcu:c.toNat<256:=c.toNat_lt
    rw [zCJ,lt_t hi,cond_true,ck_t (zBF hi),zDy hc,zPA (by omega) (by omega),zEr,zA6,zBe,ck_t (zCU (by omega))]
    rfl) (fun k=>by rw [zCJ,lt_f];rfl) hf
  rw [h,zA6,zPJ]
  unfold txB
  cases s.any ntC <;> rfl
theorem zNE {fu:Nat} {s:List UInt8} (hf:s.length<fu) (hl:s.length≤1048576):zE9 fu s=some (txB s):=by
  unfold zE9
  have h:=zFI (xs:=s) (p:=ntC) (r:=false) (L:=zCE fu s) (fun k i c hc=>by
    have hi:=zDn hc
    have e:(decide ((c.toNat:Int)<(32:Int)) || decide ((126:Int)<(c.toNat:Int)))=ntC c:=by
      unfold ntC inI
      by_cases h1:(32:Int)≤(c.toNat:Int)
      · by_cases h2 : (c.toNat : Int) ≤ 126
        · rw [decide_eq_true h1,decide_eq_true h2,decide_eq_false (by omega),decide_eq_false (by omega)];rfl
        · rw [decide_eq_true h1,decide_eq_false h2,decide_eq_false (by omega),decide_eq_true (by omega)];rfl
      · rw [decide_eq_false h1,decide_eq_true (by omega),Bool.true_or,Bool.false_and];rfl
    rw [zCE,lt_t hi,cond_true,ck_t (zBF hi),zBF hi,Bool.or_true,zCK,zDy hc,zBN,e,zBe,ck_t (zCU (by omega))]) (fun k=>by rw [zCE,lt_f];rfl) hf
  rw [h,zA6,zPJ]
  unfold txB
  cases s.any ntC <;> rfl
def pcC (c:UInt8):Bool:=((c.toNat:Int)==(124:Int)) || ((c.toNat:Int)==(59:Int))
def flB (s:List UInt8):Bool:=txB s && !(s.any pcC)
theorem zPb (c:UInt8):([124,59]:List UInt8).contains c=pcC c:=by
  revert c
  refine zK8 ?_
  decide +kernel
theorem zO8 : ∀ s : List UInt8, Lib.containsAny s [124, 59] = s.any pcC
  | []=>rfl
  | b::l=>by
    have ih:=zO8 l
    have hg:=Lib.indexAny_ge [124,59] l
    unfold Lib.containsAny at ih ⊢
    rw [Lib.indexAny,List.any_cons,← ih,zPb]
    cases pcC b
    · rw [if_neg (by decide), Bool.false_or]
      by_cases h:Lib.indexAny l [124,59] = -1
      · rw [if_pos (by simpa using h),h]
      · rw [if_neg (by simpa using h),decide_eq_true (by omega),decide_eq_true (by omega)]
    · rw [if_pos rfl];rfl
theorem zO7 {s:List UInt8} (h:txB s=true):(s.all fun b=>decide (b.toNat<128))=true∧s.length≤40:=by
  unfold txB at h
  rw [Bool.and_eq_true,decide_eq_true_eq,Bool.not_eq_true',List.any_eq_false] at h
  refine ⟨?_,h.2⟩
  rw [List.all_eq_true]
  intro b hb
  have:=h.1 b hb
  unfold ntC inI at this
  rw [Bool.not_eq_true,Bool.not_eq_false',Bool.and_eq_true,decide_eq_true_eq,decide_eq_true_eq] at this
  exact decide_eq_true (by omega)
theorem zNZ {fu:Nat} {s:List UInt8} (hf:s.length<fu) (hl:s.length≤1048576):zDq fu s=some (flB s):=by
  unfold zDq flB
  rw [zNL hf hl,zA6]
  cases h:txB s with
  | false=>rfl
  | true=>
    obtain ⟨h1,h2⟩:=zO7 h
    unfold zFe
    rw [h1,decide_eq_true (show s.length<4294967281 by omega),show ((true&&decide (([124,59]:List UInt8).length<4294967281))&&true&&(([124,59]:List UInt8).all fun b=>decide (b.toNat<128)))=true from rfl,zCK,zO8]
    rfl
theorem zNj {fu:Nat} {s:List UInt8} (hf:s.length<fu) (hl:s.length≤1048576):zDg fu s=some (flB s):=by
  unfold zDg
  have h:=zFI (xs:=s) (p:=pcC) (r:=false) (L:=zBt fu s) (fun k i c hc=>by
    have hi:=zDn hc
    rw [zBt,lt_t hi,cond_true,ck_t (zBF hi),zBF hi,Bool.or_true,zCK,zDy hc,zBN,zBe,ck_t (zCU (by omega))]
    rfl) (fun k=>by rw [zBt,lt_f];rfl) hf
  rw [h,zA6,zNE hf hl]
  unfold flB
  cases s.any pcC
  · rw [Bool.not_false,Bool.and_true];rfl
  · rw [Bool.not_true,Bool.and_false];rfl
abbrev RecT:=Int × Int × Int × List (List UInt8)
def recB (r:RecT):Bool:=((inI r.1 0 3&&inI r.2.1 1 99)&&inI r.2.2.1 1 999)&&(((r.2.2.2.length:Int)==(4:Int)) && !(r.2.2.2.any fun s=>!(flB s)))
def zKn (r:RecT):Prop:=r.2.2.2.length≤1048576∧∀ s ∈ r.2.2.2,s.length≤1048576
theorem zKf {fu:Nat} {l:List (List UInt8)} {F:List UInt8→Option Bool} {p:List UInt8→Bool} (hF:∀ x ∈ l,F x=some (p x)) (hf:l.length<fu) (hl:l.length≤1048576):zAm fu l F=some (l.any p):=by
  unfold zAm zBK
  have h:=zN1 (xs:=l) (p:=p) (L:=zAZ fu l F) (fun k i y hy=>by
    have hi:=zDn hy
    rw [zAZ,lt_t hi,cond_true,ck_t (zBF hi),zBC hy,hF y (zGB hy),zA6,zBe,ck_t (zCU (by omega))]) (fun k=>by rw [zAZ,lt_f];rfl) hf
  rw [h,zA6]
  cases hi:ixI 0 (l.map p) with
  | none=>
    have h2:=zKr hi
    have:l.any p=false:=by
      rw [List.any_eq_false]
      intro y hy
      have:=h2 (p y) (List.mem_map_of_mem hy)
      simp [this]
    rw [this]
    rfl
  | some j=>
    obtain ⟨_,h2,_⟩:=zJ5 hi
    have:l.any p=true:=by
      rw [Nat.sub_zero,List.getElem?_map] at h2
      obtain ⟨y,hy,e⟩:=Option.map_eq_some_iff.1 h2
      rw [List.any_eq_true]
      exact ⟨y,List.mem_of_getElem? hy,e⟩
    rw [this]
    show some (decide (0≤(j:Int)))=some true
    rw [decide_eq_true (by omega)]
theorem zHG {fu:Nat} {r:RecT} (hf:1048577≤fu) (h:zKn r):zBl fu r=some (recB r):=by
  unfold zBl recB
  rw [zEr,zEr,zEr,zKf (p:=fun s=>!(flB s)) (fun s hs=>by
    unfold zCd
    rw [zNZ (by have:=h.2 s hs;omega) (h.2 s hs)]
    rfl) (by have:=h.1;omega) h.1]
  generalize inI r.1 0 3=a
  generalize inI r.2.1 1 99=b
  generalize inI r.2.2.1 1 999=c
  generalize ((r.2.2.2.length:Int)==(4:Int))=d
  generalize (r.2.2.2.any fun s=>!(flB s))=e
  cases a <;> cases b <;> cases c <;> cases d <;> cases e <;> rfl
theorem zFS {fu:Nat} {r:RecT} (hf:1048577≤fu) (h:zKn r):zBI fu r=some (recB r):=by
  unfold zBI recB
  have hl:=zFI (xs:=r.2.2.2) (p:=fun s=>!(flB s)) (r:=false) (L:=zB9 fu r) (fun k i s hs=>by
    have hi:=zDn hs
    have h1:=h.1
    have h2:=h.2 s (zGB hs)
    rw [zB9,lt_t hi,cond_true,ck_t (zBF hi),zBC hs,zNj (by omega) h2,zA6,zBe,ck_t (zCU (by omega))]) (fun k=>by rw [zB9,lt_f];rfl) (show r.2.2.2.length<fu by have:=h.1;omega)
  rw [hl,zA6,zIc,zIc,zIc]
  generalize inI r.1 0 3=a
  generalize inI r.2.1 1 99=b
  generalize inI r.2.2.1 1 999=c
  generalize ((r.2.2.2.length:Int)==(4:Int))=d
  generalize (r.2.2.2.any fun s=>!(flB s))=e
  cases a <;> cases b <;> cases c <;> cases d <;> cases e <;> rfl
theorem zIs {r:RecT} (h:recB r=true):∃ a b c d:List UInt8,r.2.2.2 = [a,b,c,d]∧a.length≤40∧b.length≤40∧c.length≤40∧d.length≤40:=by
  unfold recB at h
  rw [Bool.and_eq_true] at h
  obtain ⟨_,h⟩:=h
  rw [Bool.and_eq_true,Bool.not_eq_true',List.any_eq_false] at h
  obtain ⟨h1,h2⟩:=h
  have hl:∀ s ∈ r.2.2.2,s.length≤40:=fun s hs=>by
    have:=h2 s hs
    unfold flB at this
    rw [Bool.not_eq_true,Bool.not_eq_false',Bool.and_eq_true] at this
    exact (zO7 this.1).2
  rw [beq_iff_eq] at h1
  generalize r.2.2.2=l at h1 hl
  match l,h1,hl with
  | [a,b,c,d],_,hl=>exact ⟨a,b,c,d,rfl,hl a (by simp),hl b (by simp),hl c (by simp),hl d (by simp)⟩
  | [],h1,_=>simp at h1
  | [_],h1,_=>simp at h1
  | [_,_],h1,_=>simp at h1
  | [_,_,_],h1,_=>simp at h1
  | _::_::_::_::_::_,h1,_=>simp at h1;omega
def dgC (c:UInt8):Bool:=dgI c.toNat
def dgL (s:List UInt8):List UInt8:=s.filter dgC
theorem zOF (s:List UInt8):dgL s=s.foldl (fun (a:List UInt8) c=>bif dgC c then a ++ [c] else a) []:=by
  have key:∀ (s a:List UInt8),s.foldl (fun (a:List UInt8) c=>bif dgC c then a ++ [c] else a) a=a++s.filter dgC:=by
    intro s
    induction s with
    | nil=>intro a;simp
    | cons c s ih=>
      intro a
      rw [List.foldl_cons,ih,List.filter_cons]
      cases dgC c <;> simp
  rw [key,List.nil_append]
  rfl
theorem zLI {fu:Nat} {s:List UInt8} (hf:s.length<fu) (hl:s.length≤1048576):zCt fu s=some (dgL s):=by
  unfold zCt
  have h:=zEA (xs:=s) (g:=fun (a:List UInt8) c=>bif dgC c then a ++ [c] else a) (Inv:=fun i a=>a.length≤i) (L:=fun k i (a:List UInt8)=>(zB4 fu s k i (bytL a)).map strB) (fun k i a c hc ha=>by
    have hi:=zDn hc
    rw [zB4,lt_t hi,cond_true,ck_t (zBF hi),zBF hi,zCK,zDy hc,show zCQ fu (c.toNat:Int)=some (dgC c) from rfl,zA6,zBg (by rw [zBz];show a.length+1≤4294967296;omega),zCK,zBe,zCU (show i≤4294967296 by omega),zCK,zCK]
    cases dgC c
    · rfl
    · rw [cond_true,cond_true,zFG,zDf]) (fun i a c hc ha=>by
    show (bif dgC c then a ++ [c] else a).length≤i+1
    cases dgC c
    · exact Nat.le_succ_of_le ha
    · rw [cond_true,List.length_append,List.length_singleton];omega) (fun k a ha=>by rw [zB4,lt_f,cond_false,Option.map_some,zEB]) (a:=[]) (Nat.zero_le _) hf
  rw [zOF,← h.1]
  show cl true (zB4 fu s fu 0 (bytL [])) _=_
  cases zB4 fu s fu 0 (bytL []) <;> rfl
theorem zKx {fu:Nat} {s:List UInt8} (hf:s.length<fu) (hl:s.length≤1048576):zCw fu s=some (dgL s):=by
  unfold zCw
  have h:=zEA (xs:=s) (g:=fun (a:List UInt8) c=>bif dgC c then a ++ [c] else a) (Inv:=fun i a=>a.length≤i) (L:=fun k i (a:List UInt8)=>(zB5 fu s k i (bytL a)).map strB) (fun k i a c hc ha=>by
    have hi:=zDn hc
    rw [zB5,lt_t hi,cond_true,ck_t (zBF hi),zBF hi,Bool.or_true,zCK,zCK,zDy hc,zBN,show (decide ((48:Int)≤(c.toNat:Int))&&decide ((c.toNat:Int)≤(57:Int)))=dgC c from rfl,zBg (by rw [zBz];show a.length+1≤4294967296;omega),zCK,zBe,zCU (show i≤4294967296 by omega),zCK,zCK]
    cases dgC c
    · rfl
    · rw [cond_true,cond_true,zFG,zDf]) (fun i a c hc ha=>by
    show (bif dgC c then a ++ [c] else a).length≤i+1
    cases dgC c
    · exact Nat.le_succ_of_le ha
    · rw [cond_true,List.length_append,List.length_singleton];omega) (fun k a ha=>by rw [zB5,lt_f,cond_false,Option.map_some,zEB]) (a:=[]) (Nat.zero_le _) hf
  rw [zOF,← h.1]
  show cl true (zB5 fu s fu 0 (bytL [])) _=_
  cases zB5 fu s fu 0 (bytL []) <;> rfl
theorem zJE (s:List UInt8):(dgL s).length≤s.length:=List.length_filter_le _ _
def YrI (s:List UInt8) (y:Int):Prop:=∃ r,RdI s r∧y=bif r.2&&inI r.1 1000 9999 then r.1 else 0
theorem YrI.one {s:List UInt8} {y z:Int} (h:YrI s y) (k:YrI s z):y=z:=by
  obtain ⟨r,h1,rfl⟩:=h
  obtain ⟨q,k1,rfl⟩:=k
  rw [h1.one k1]
theorem YrI.range {s:List UInt8} {y:Int} (h:YrI s y):y=0∨(1000≤y∧y≤9999):=by
  obtain ⟨r,_,rfl⟩:=h
  cases hb:r.2&&inI r.1 1000 9999
  · exact .inl rfl
  · right
    rw [Bool.and_eq_true] at hb
    have:=hb.2
    unfold inI at this
    rw [Bool.and_eq_true,decide_eq_true_eq,decide_eq_true_eq] at this
    exact this
theorem zNO {fu:Nat} {s:List UInt8} (hs:s.length≤1048576):∃ y,zBZ fu s=some y∧YrI s y:=by
  obtain ⟨r,h1,h2⟩:=zNy (fu:=fu) hs
  refine ⟨_,?_,r,h2,rfl⟩
  unfold zBZ
  rw [h1,zA6,zEr]
  generalize inI r.1 1000 9999=b
  cases r.2 <;> cases b <;> rfl
theorem zKu {fu:Nat} {s:List UInt8} (hf:1048577≤fu) (hs:s.length≤1048576):∃ y,zBm fu s=some y∧YrI s y:=by
  obtain ⟨r,h1,h2⟩:=zNz (fu:=fu) hf hs
  refine ⟨_,?_,r,h2,rfl⟩
  unfold zBm
  rw [h1,zA6,zIc]
  generalize inI r.1 1000 9999=b
  cases r.2 <;> cases b <;> rfl
theorem zMC {s:List UInt8} (hs:s.length≤1048576):∃ y:Int,(y=0∨(1000≤y∧y≤9999))∧YrI s y∧∀ fu,1048577≤fu→zBZ fu s=some y∧zBm fu s=some y:=by
  obtain ⟨y,h1,h2⟩:=zKu (fu:=1048577) (Nat.le_refl _) hs
  refine ⟨y,h2.range,h2,fun fu hf=>?_⟩
  obtain ⟨a,a1,a2⟩:=zNO (fu:=fu) hs
  obtain ⟨b,b1,b2⟩:=zKu (fu:=fu) hf hs
  rw [a1,b1,a2.one h2,b2.one h2]
  exact ⟨rfl,rfl⟩
end Go.Proofs.YtcodfkieaoomnaaGreatDoor
namespace Go.Proofs.YtcodfkieaoomnaaGreatDoor
open Go.RowKit
set_option linter.unusedVariables false
set_option linter.unusedSimpArgs false
end Go.Proofs.YtcodfkieaoomnaaGreatDoor
namespace Go.Proofs.YtcodfkieaoomnaaGreatDoor
open Go.RowKit
set_option linter.unusedVariables false
set_option linter.unusedSimpArgs false
end Go.Proofs.YtcodfkieaoomnaaGreatDoor
namespace Go.Proofs.YtcodfkieaoomnaaGreatDoor
open Go.RowKit
set_option linter.unusedVariables false
set_option linter.unusedSimpArgs false
def lv (a b : List UInt8) : Nat → Nat → Int
  | 0,j=>(j:Int)
  | i+1,0=>((i+1:Nat):Int)
  | i+1,j+1=>min (min (lv a b i (j+1)+1) (lv a b (i+1) j+1)) (lv a b i j+bif bAt a (i:Int)==bAt b (j:Int) then 0 else 1)
  termination_by i j=>(i,j)
theorem lv_0 (a b:List UInt8) (j:Nat):lv a b 0 j=(j:Int):=by rw [lv]
theorem zJu (a b:List UInt8) (i:Nat):lv a b (i+1) 0=((i+1:Nat):Int):=by rw [lv]
theorem zOs (a b:List UInt8) (i:Nat):lv a b i 0=(i:Int):=by
  cases i
  · exact lv_0 a b 0
  · exact zJu a b _
theorem zKh (a b:List UInt8) (i j:Nat):lv a b (i+1) (j+1)=min (min (lv a b i (j+1)+1) (lv a b (i+1) j+1)) (lv a b i j+bif bAt a (i:Int)==bAt b (j:Int) then 0 else 1):=by rw [lv]
theorem lv_c (a b:List UInt8) (i j:Nat):lv a b (i+1) (j+1)=(min (min (lv a b i (j+1)+1) (lv a b (i+1) j+1)) (lv a b i j+1))∨lv a b (i+1) (j+1)=min (min (lv a b i (j+1)+1) (lv a b (i+1) j+1)) (lv a b i j):=by
  rw [zKh]
  cases bAt a (i:Int)==bAt b (j:Int)
  · exact .inl rfl
  · rw [cond_true,Int.add_zero];exact .inr rfl
theorem lv_r (a b:List UInt8) (i j:Nat):lv a b i (j+1)≤lv a b i j+1:=by
  cases i
  · rw [lv_0,lv_0];omega
  · have:=lv_c a b ‹_› j;omega
theorem lv_d (a b:List UInt8) (i j:Nat):lv a b (i+1) j≤lv a b i j+1:=by
  cases j
  · rw [zJu,zOs];omega
  · have:=lv_c a b i ‹_›;omega
theorem lv_u (a b : List UInt8) (i : Nat) : ∀ j, lv a b i j ≤ lv a b (i + 1) j + 1
  | 0=>by rw [zJu,zOs];omega
  | j+1=>by
    have h:=lv_c a b i j
    have h1:=lv_r a b i j
    have h2:=lv_u a b i j
    omega
theorem lv_l (a b : List UInt8) (j : Nat) : ∀ i, lv a b i j ≤ lv a b i (j + 1) + 1
  | 0=>by rw [lv_0,lv_0];omega
  | i+1=>by
    have h:=lv_c a b i j
    have h1:=lv_d a b i j
    have h2:=lv_l a b j i
    omega
theorem zGS (a b : List UInt8) : ∀ (n i j : Nat), i + j ≤ n → 0 ≤ lv a b i j ∧ lv a b i j ≤ (i : Int) + j
  | n,0,j,_=>by rw [lv_0];omega
  | n,i+1,0,_=>by rw [zJu];omega
  | 0,i+1,j+1,h=>by omega
  | n+1,i+1,j+1,h=>by
    have h0:=lv_c a b i j
    have h1:=zGS a b n i (j+1) (by omega)
    have h2:=zGS a b n (i+1) j (by omega)
    have h3:=zGS a b n i j (by omega)
    omega
theorem zPd (a b:List UInt8) (i j:Nat) (h:(bAt a (i:Int)==bAt b (j:Int))=true):lv a b (i+1) (j+1)=lv a b i j:=by
  rw [zKh,h,cond_true]
  have h1:=lv_u a b i j
  have h2:=lv_l a b j i
  omega
theorem zPz (a b:List UInt8) (i j:Nat) (h:(bAt a (i:Int)==bAt b (j:Int))=false):lv a b (i+1) (j+1)=1+min (min (lv a b i (j+1)) (lv a b (i+1) j)) (lv a b i j):=by
  rw [zKh,h,cond_false]
  omega
def zF8 (a b:List UInt8) (i:Nat):List Int:=(List.range (b.length+1)).map (lv a b i)
def zEz (a b:List UInt8):List (List Int):=(List.range (a.length+1)).map (zF8 a b)
theorem zCL (a b:List UInt8) (i:Nat):(zF8 a b i).length=b.length+1:=by simp [zF8]
theorem zE8 (a b:List UInt8):(zEz a b).length=a.length+1:=by simp [zEz]
theorem zEZ {a b:List UInt8} {i j:Nat} (h:j≤b.length):(zF8 a b i)[j]? = some (lv a b i j):=by
  simp only [zF8,List.getElem?_map,List.getElem?_range (show j<b.length+1 by omega)]
  rfl
theorem zGa {a b:List UInt8} {i:Nat} (h:i≤a.length):(zEz a b)[i]? = some (zF8 a b i):=by
  simp only [zEz,List.getElem?_map,List.getElem?_range (show i<a.length+1 by omega)]
  rfl
theorem zJB {α β : Type} {xs : List α} {r : Option β} {L : Nat → Int → List α → Option β}
    (hs:∀ k (i:Nat) ys x,xs[i]? = some x→ys.length=xs.length→ys.take i=xs.take i→L (k+1) ((i:Nat):Int) ys=L k ((i+1:Nat):Int) (ys.set i x)) (he:∀ k,L (k+1) ((xs.length:Nat):Int) xs=r) {ys:List α} {fu:Nat} (hf:xs.length<fu) (hy:ys.length=xs.length):L fu 0 ys=r:=by
  have key:∀ m i k ys,i+m=xs.length→m<k→ys.length=xs.length→ys.take i=xs.take i→L k ((i:Nat):Int) ys=r:=by
    intro m
    induction m with
    | zero=>
      intro i k ys hi hk hy ht
      obtain ⟨k,rfl⟩:∃ q,k=q+1:=⟨k-1,by omega⟩
      obtain rfl:i=xs.length:=by omega
      rw [List.take_of_length_le (by omega),List.take_of_length_le (by omega)] at ht
      rw [ht,he]
    | succ m ih=>
      intro i k ys hi hk hy ht
      obtain ⟨k,rfl⟩:∃ q,k=q+1:=⟨k-1,by omega⟩
      have hlt:i<xs.length:=by omega
      rw [hs k i ys _ (List.getElem?_eq_getElem hlt) hy ht]
      refine ih (i+1) k _ (by omega) (by omega) (by rw [List.length_set,hy]) ?_
      apply List.ext_getElem?
      intro j
      rw [List.getElem?_take,List.getElem?_take]
      split
      · rename_i hj
        rcases Nat.lt_or_ge j i with h | h
        · have := congrArg (fun l => l[j]?) ht
          simp only [List.getElem?_take,if_pos h] at this
          rw [List.getElem?_set_ne (by omega)]
          exact this
        · obtain rfl : j = i := by omega
          rw [List.getElem?_set_self (by omega),List.getElem?_eq_getElem hlt]
      · rfl
  exact key xs.length 0 fu ys (by omega) hf hy rfl
theorem zKU {α:Type} {xs ys:List α} {i j:Nat} (h:ys.take i=xs.take i) (hj:j<i):ys[j]? = xs[j]?:=by
  have:=congrArg (fun l=>l[j]?) h
  simpa only [List.getElem?_take,if_pos hj] using this
theorem zNK (i:Nat):(((i+1:Nat):Int)==(0:Int))=false:=by
  rw [beq_eq_false_iff_ne];omega
theorem zNl:(((0:Nat):Int)==(0:Int))=true:=rfl
theorem zKi (n:Nat):((n:Int)+1).toNat=n+1:=by omega
theorem zMl {fu : Nat} {a b : List UInt8} {i : Nat} {T : List (List Int)} (hT : T.length = a.length + 1) (hi : i ≤ a.length) (hp : T.take i = (zEz a b).take i) (ha : a.length ≤ 40) (hb : b.length ≤ 40) (hf : 1048577 ≤ fu) {ys : List Int} (hy : ys.length = b.length + 1) :
    zAU fu a b false (i:Int) T fu 0 (T.set i ys)=some (T.set i (zF8 a b i)):=by
  have hiT:i<T.length:=by omega
  have hl:∀ zs:List Int,inR (i:Int) (T.set i zs).length=true:=fun zs=>zBF (by rw [List.length_set];omega)
  have hg:∀ zs:List Int,gtD (T.set i zs) (i:Int)=zs:=fun zs=>zBC (List.getElem?_set_self hiT)
  refine zJB (xs:=zF8 a b i) (L:=fun k j ys=>zAU fu a b false (i:Int) T k j (T.set i ys)) (fun k j zs x hx hz ht=>?_) (fun k=>?_) (by rw [zCL];omega) (by rw [zCL,hy])
  · have hj : j < b.length + 1 := by have := zDn hx; rwa [zCL] at this
    rw [zCL] at hz
    have hjz:j<zs.length:=by omega
    rw [zEZ (by omega)] at hx
    injection hx with hx
    subst hx
    show zAU fu a b false (i:Int) T (k+1) (j:Int) (T.set i zs)=zAU fu a b false (i:Int) T k ((j+1:Nat):Int) (T.set i (zs.set j _))
    rw [zAU,Int.toNat_natCast,hg,List.length_replicate,zKi,lt_t hj,cond_true]
    simp only [hl,hg,zBF hjz,zCK,zJX,List.set_set,zCU (show j≤4294967296 by omega),zBe]
    cases i with
    | zero=>
      rw [zNl,cond_true,lv_0]
    | succ i=>
      rw [zNK,cond_false]
      cases j with
      | zero=>rw [zNl,cond_true,zJu]
      | succ j=>
        have e1:gtD (T.set (i+1) zs) (i:Int)=zF8 a b i:=zBC (by rw [List.getElem?_set_ne (by omega),zKU hp (Nat.lt_succ_self i),zGa (by omega)])
        have e2:gtD zs (j:Int)=lv a b (i+1) j:=zBC (by rw [zKU ht (Nat.lt_succ_self j),zEZ (by omega)])
        have e3:gtD (zF8 a b i) ((j+1:Nat):Int)=lv a b i (j+1):=zBC (zEZ (by omega))
        have e4:gtD (zF8 a b i) (j:Int)=lv a b i j:=zBC (zEZ (by omega))
        have p1:=zGS a b _ i (j+1) (Nat.le_refl _)
        have p2:=zGS a b _ (i+1) j (Nat.le_refl _)
        have p3:=zGS a b _ i j (Nat.le_refl _)
        rw [zNK,cond_false]
        simp only [zJp, zIa i (by omega), zIa j (by omega), zBF (show i < a.length by omega), zBF (show j < b.length by omega), zBF (show i < (T.set (i + 1) zs).length by rw [List.length_set]; omega), e1, e2, e3, e4,
          zBF (show j+1<(zF8 a b i).length by rw [zCL];omega),zBF (show j<(zF8 a b i).length by rw [zCL];omega),zBF (show j<zs.length by omega),zCK,Bool.false_and,zBN,cond_false,
          show (true&&(false==true))=false from rfl,Bool.not_false,Bool.true_or,
          zAl (show -9223372036854775808≤lv a b i (j+1)+1 by omega) (by omega),zAl (show -9223372036854775808≤lv a b (i+1) j+1 by omega) (by omega),zAl (show -9223372036854775808≤lv a b i j+1 by omega) (by omega),zAl (show -9223372036854775808≤lv a b i j+0 by omega) (by omega)]
        rw [zKh]
        cases bAt a (i:Int)==bAt b (j:Int) <;> rfl
  · show zAU fu a b false (i : Int) T (k + 1) _ (T.set i (zF8 a b i)) = _
    rw [zAU,Int.toNat_natCast,hg,List.length_replicate,zKi,zCL,lt_f]
    rfl
theorem zLX {fu:Nat} {a b:List UInt8} (hf:1048577≤fu) (ha:a.length≤40) (hb:b.length≤40):zCf fu a b false=some (zEz a b):=by
  unfold zCf
  rw [ck_t (zAl (by omega) (by omega)),ck_t (show mkOK ((a.length:Int)+1)=true from zMN (n:=a.length+1) (by omega)),zKi]
  have h:=zJB (xs:=zEz a b) (r:=some (zEz a b)) (L:=zBb fu a b false) (fun k i T x hx hT hp=>by
    have hi:=zDn hx
    rw [zE8] at hi hT
    rw [zGa (by omega)] at hx
    injection hx with hx
    subst hx
    rw [zBb, List.length_replicate, zKi, lt_t hi, cond_true, ck_t (zAl (by omega) (by omega)), ck_t (show mkOK ((b.length : Int) + 1) = true from zMN (n := b.length + 1) (by omega)), zKi, zJX, ck_t (zBF (by omega)), ck_t (zBF (by rw [List.length_set]; omega)),
      zMl hT (by omega) hp ha hb hf (by rw [List.length_replicate]),zA6,ck_t (zFs (by omega)),zBe]) (fun k=>by
    rw [zBb,List.length_replicate,zKi,zE8,lt_f]
    rfl) (ys:=List.replicate (a.length+1) []) (show (zEz a b).length<fu by rw [zE8];omega) (by rw [zE8,List.length_replicate])
  rw [h,zA6]
theorem zMZ {fu : Nat} {a b : List UInt8} {i : Nat} (hi : i ≤ a.length) (ha : a.length ≤ 40) (hb : b.length ≤ 40) (hf : 1048577 ≤ fu) {ys : List Int} (hy : ys.length = b.length + 1) :
    zAX fu a b false (i:Int) ((zEz a b).take i) fu 0 ys=some (zF8 a b i):=by
  refine zJB (xs:=zF8 a b i) (L:=fun k j ys=>zAX fu a b false (i:Int) ((zEz a b).take i) k j ys) (fun k j zs x hx hz ht=>?_) (fun k=>?_) (by rw [zCL];omega) (by rw [zCL,hy])
  · have hj : j < b.length + 1 := by have := zDn hx; rwa [zCL] at this
    rw [zCL] at hz
    have hjz:j<zs.length:=by omega
    rw [zEZ (by omega)] at hx
    injection hx with hx
    subst hx
    show zAX fu a b false (i:Int) ((zEz a b).take i) (k+1) (j:Int) zs=zAX fu a b false (i:Int) ((zEz a b).take i) k ((j+1:Nat):Int) (zs.set j _)
    rw [zAX,show decide ((j:Int)≤(b.length:Int))=true from decide_eq_true (by omega),cond_true]
    simp only [Bool.false_and,zBN,cond_false,show (true&&(false==true))=false from rfl,Bool.not_false,Bool.true_or,zBF hjz,zCK,zJX,zCU (show j≤4294967296 by omega),zBe]
    cases i with
    | zero=>rw [zNl,cond_true,lv_0]
    | succ i=>
      rw [zNK,cond_false]
      cases j with
      | zero=>rw [zNl,cond_true,zJu]
      | succ j=>
        have e1:gtD ((zEz a b).take (i+1)) (i:Int)=zF8 a b i:=zBC (by rw [List.getElem?_take,if_pos (Nat.lt_succ_self i),zGa (by omega)])
        have e2:gtD zs (j:Int)=lv a b (i+1) j:=zBC (by rw [zKU ht (Nat.lt_succ_self j),zEZ (by omega)])
        have e3:gtD (zF8 a b i) ((j+1:Nat):Int)=lv a b i (j+1):=zBC (zEZ (by omega))
        have e4:gtD (zF8 a b i) (j:Int)=lv a b i j:=zBC (zEZ (by omega))
        have p1:=zGS a b _ i (j+1) (Nat.le_refl _)
        have p2:=zGS a b _ (i+1) j (Nat.le_refl _)
        have p3:=zGS a b _ i j (Nat.le_refl _)
        have hl:((zEz a b).take (i+1)).length=i+1:=by rw [List.length_take,zE8];omega
        rw [zNK,cond_false]
        simp only [zJp, zIa i (by omega), zIa j (by omega), zBF (show i < a.length by omega), zBF (show j < b.length by omega), zBF (show i < ((zEz a b).take (i + 1)).length by rw [hl]; omega), e1, e2, e3, e4,
          zBF (show j+1<(zF8 a b i).length by rw [zCL];omega),zBF (show j<(zF8 a b i).length by rw [zCL];omega),zBF (show j<zs.length by omega),zCK]
        cases hc:bAt a (i:Int)==bAt b (j:Int)
        · rw [cond_false,ck_t (zAl (by omega) (by omega)),zPz _ _ _ _ hc]
        · rw [cond_true,zPd _ _ _ _ hc]
  · show zAX fu a b false (i : Int) ((zEz a b).take i) (k + 1) _ (zF8 a b i) = _
    rw [zAX,zCL,show decide (((b.length+1:Nat):Int)≤(b.length:Int))=false from decide_eq_false (by omega)]
    rfl
theorem zLd {fu:Nat} {a b:List UInt8} (hf:1048577≤fu) (ha:a.length≤40) (hb:b.length≤40):zDF fu a b false=some (zEz a b):=by
  unfold zDF
  have key:∀ m i k,i+m=a.length+1→m<k→zBx fu a b false k ((i:Nat):Int) ((zEz a b).take i)=some (zEz a b):=by
    intro m
    induction m with
    | zero=>
      intro i k hi hk
      obtain ⟨k,rfl⟩:∃ q,k=q+1:=⟨k-1,by omega⟩
      rw [zBx,show decide ((i:Int)≤(a.length:Int))=false from decide_eq_false (by omega),cond_false,List.take_of_length_le (by rw [zE8];omega)]
    | succ m ih=>
      intro i k hi hk
      obtain ⟨k,rfl⟩:∃ q,k=q+1:=⟨k-1,by omega⟩
      have hl:((zEz a b).take i).length=i:=by rw [List.length_take,zE8];omega
      rw [zBx, show decide ((i : Int) ≤ (a.length : Int)) = true from decide_eq_true (by omega), cond_true, ck_t (zAl (by omega) (by omega)), ck_t (show mkOK ((b.length : Int) + 1) = true from zMN (n := b.length + 1) (by omega)), zKi,
        zMZ (by omega) ha hb hf (by rw [List.length_replicate]),zA6,hl,List.length_singleton,ck_t (zBg (by omega)),ck_t (zFs (by omega)),zBe]
      have:(zEz a b).take i ++ [zF8 a b i]=(zEz a b).take (i+1):=by
        rw [List.take_add_one,zGa (by omega)]
        rfl
      rw [this]
      exact ih (i+1) k (by omega) (by omega)
  have:=key (a.length+1) 0 fu (by omega) (by omega)
  rw [show ((0:Nat):Int)=0 from rfl,List.take_zero] at this
  rw [this,zA6]
def zFl (a b:List UInt8):Int:=bif decide (a.length≤40)&&decide (b.length≤40) then lv a b a.length b.length else -1
theorem zLo {fu:Nat} {a b:List UInt8} (hf:1048577≤fu):zCa fu a b=some (zFl a b):=by
  unfold zCa zEE zFl
  rw [zBN]
  by_cases h:a.length≤40∧b.length≤40
  · rw [show decide ((40 : Int) < (a.length : Int)) = false from decide_eq_false (by omega), show decide ((40 : Int) < (b.length : Int)) = false from decide_eq_false (by omega), decide_eq_true h.1, decide_eq_true h.2, Bool.or_false, cond_false, zLX hf h.1 h.2, zA6,
      ck_t (zBF (by rw [zE8];omega)),zBC (zGa (Nat.le_refl _)),ck_t (zBF (by rw [zCL];omega)),zA6,zBC (zEZ (Nat.le_refl _))]
    rfl
  · have:(decide ((40:Int)<(a.length:Int)) || decide ((40:Int)<(b.length:Int)))=true:=by
      rw [Bool.or_eq_true,decide_eq_true_eq,decide_eq_true_eq];omega
    have h2:(decide (a.length≤40)&&decide (b.length≤40))=false:=by
      rw [Bool.and_eq_false_iff,decide_eq_false_iff_not,decide_eq_false_iff_not];omega
    rw [this,h2]
    rfl
theorem zLq {fu:Nat} {a b:List UInt8} (hf:1048577≤fu):zCZ fu a b=some (zFl a b):=by
  unfold zCZ zEs zFl
  rw [zBN,zA6]
  by_cases h:a.length≤40∧b.length≤40
  · rw [show decide ((a.length : Int) ≤ 40) = true from decide_eq_true (by omega), show decide ((b.length : Int) ≤ 40) = true from decide_eq_true (by omega), decide_eq_true h.1, decide_eq_true h.2, Bool.and_self, Bool.not_true, cond_false, zLd hf h.1 h.2, zA6,
      ck_t (zBF (by rw [zE8];omega)),zBC (zGa (Nat.le_refl _)),ck_t (zBF (by rw [zCL];omega)),zBC (zEZ (Nat.le_refl _))]
    rfl
  · have:(decide ((a.length:Int)≤40)&&decide ((b.length:Int)≤40))=false:=by
      rw [Bool.and_eq_false_iff,decide_eq_false_iff_not,decide_eq_false_iff_not];omega
    have h2:(decide (a.length≤40)&&decide (b.length≤40))=false:=by
      rw [Bool.and_eq_false_iff,decide_eq_false_iff_not,decide_eq_false_iff_not];omega
    rw [this,h2]
    rfl
theorem zN5 (a b:List UInt8):-1≤zFl a b:=by
  unfold zFl
  cases decide (a.length≤40)&&decide (b.length≤40)
  · exact Int.le_refl _
  · have := (zGS a b _ a.length b.length (Nat.le_refl _)).1
    rw [cond_true];omega
end Go.Proofs.YtcodfkieaoomnaaGreatDoor
namespace Go.Proofs.YtcodfkieaoomnaaGreatDoor
open Go.RowKit
set_option linter.unusedVariables false
set_option linter.unusedSimpArgs false
def mrgN : Nat → List (List UInt8) → List (List UInt8) → Nat
  | 0,_,_=>0
  | _+1,[],_=>0
  | _+1,_::_,[]=>0
  | n+1,x::xs,y::ys=>bif bLt x y then mrgN n xs (y::ys) else bif bLt y x then mrgN n (x::xs) ys else mrgN n xs ys+1
theorem zMP {α:Type} (x:α) (xs:List α):subL (x::xs) 1 (((x::xs).length:Nat):Int)=xs:=by
  rw [show (1:Int)=((1:Nat):Int) from rfl,zGT]
  rfl
theorem zNh {fu : Nat} : ∀ (n k : Nat) (xs ys : List (List UInt8)) (c : Int), xs.length + ys.length ≤ n → n < k → 0 ≤ c → c + n ≤ 4294967296 → zAf fu k xs ys c = some (c + mrgN n xs ys)
  | 0,k,xs,ys,c,hn,hk,h0,h1=>by
    obtain ⟨k,rfl⟩:∃ q,k=q+1:=⟨k-1,by omega⟩
    obtain rfl:xs = []:=List.eq_nil_of_length_eq_zero (by omega)
    rw [zAf]
    simp [zBN,mrgN]
  | n+1,k,[],ys,c,hn,hk,h0,h1=>by
    obtain ⟨k,rfl⟩:∃ q,k=q+1:=⟨k-1,by omega⟩
    rw [zAf]
    simp [zBN,mrgN]
  | n+1,k,x::xs,[],c,hn,hk,h0,h1=>by
    obtain ⟨k,rfl⟩:∃ q,k=q+1:=⟨k-1,by omega⟩
    rw [zAf]
    simp [zBN,mrgN]
  | n+1,k,x::xs,y::ys,c,hn,hk,h0,h1=>by
    obtain ⟨k,rfl⟩:∃ q,k=q+1:=⟨k-1,by omega⟩
    simp only [List.length_cons] at hn
    have hx:decide ((0:Int)<((x::xs).length:Int))=true:=lt_0 (by simp)
    have hy:decide ((0:Int)<((y::ys).length:Int))=true:=lt_0 (by simp)
    have sx:subR (1:Int) (((x::xs).length:Nat):Int) (x::xs).length=true:=zLQ (k:=1) (by simp)
    have sy:subR (1:Int) (((y::ys).length:Nat):Int) (y::ys).length=true:=zLQ (k:=1) (by simp)
    rw [zAf,hx,hy]
    simp only [Bool.and_self,zBN,cond_true,zKB (show 0<(x::xs).length by simp),zKB (show 0<(y::ys).length by simp),zCK,zNI (show (x::xs)[0]? = some x from rfl),zNI (show (y::ys)[0]? = some y from rfl),sx,sy,zMP,zAl (show -9223372036854775808≤c+1 by omega) (show c+1≤9223372036854775807 by omega)]
    unfold mrgN
    cases bLt x y
    · cases bLt y x
      · rw [cond_false, cond_false, cond_false, cond_false, zNh n k xs ys (c + 1) (by omega) (by omega) (by omega) (by omega)]
        congr 1
        omega
      · rw [cond_false, cond_true, cond_false, cond_true]
        exact zNh n k (x::xs) ys c (by simp;omega) (by omega) h0 (by omega)
    · rw [cond_true, cond_true]
      exact zNh n k xs (y::ys) c (by simp;omega) (by omega) h0 (by omega)
theorem zHJ : ∀ (n : Nat) (xs ys : List (List UInt8)), xs.length + ys.length ≤ n → zBc bLt xs → zBc bLt ys → mrgN n xs ys = (xs.filter fun x => ys.any fun y => y == x).length
  | 0,xs,ys,hn,_,_=>by
    obtain rfl:xs = []:=List.eq_nil_of_length_eq_zero (by omega)
    rfl
  | n+1,[],ys,hn,_,_=>rfl
  | n+1,x::xs,[],hn,_,_=>by
    rw [show ((x::xs).filter fun z=>([]:List (List UInt8)).any fun y=>y==z) = [] from List.filter_eq_nil_iff.2 (fun _ _=>by simp)]
    rfl
  | n+1,x::xs,y::ys,hn,hx,hy=>by
    simp only [List.length_cons] at hn
    obtain ⟨x1,x2⟩:=List.pairwise_cons.1 hx
    obtain ⟨y1,y2⟩:=List.pairwise_cons.1 hy
    have S:=zD8
    unfold mrgN
    have no:∀ {a b:List UInt8},bLt a b=true→(b==a)=false:=fun {a b} h=>by
      rw [beq_eq_false_iff_ne]
      intro e
      rw [e,zFc] at h
      cases h
    cases h1:bLt x y
    · cases h2 : bLt y x
      · have e := zKN h1 h2
        subst e
        rw [cond_false,cond_false,zHJ n xs ys (by omega) x2 y2,List.filter_cons,if_pos (by simp),List.length_cons]
        congr 2
        apply List.filter_congr
        intro z hz
        rw [List.any_cons, show (x == z) = false from by
          have:=no (x1 z hz)
          rwa [Bool.beq_comm] at this,Bool.false_or]
      · rw [cond_false, cond_true, zHJ n (x :: xs) ys (by simp; omega) hx y2]
        congr 1
        apply List.filter_congr
        intro z hz
        have hyz:bLt y z=true:=by
          rcases List.mem_cons.1 hz with rfl | hz
          · exact h2
          · exact S.tr y x z h2 (x1 z hz)
        rw [List.any_cons, show (y == z) = false from by
          have:=no hyz
          rwa [Bool.beq_comm] at this,Bool.false_or]
    · rw [cond_true, zHJ n xs (y :: ys) (by simp; omega) x2 hy, List.filter_cons, if_neg]
      intro hc
      rw [List.any_eq_true] at hc
      obtain ⟨z,hz,e⟩:=hc
      rw [beq_iff_eq] at e
      subst e
      rcases List.mem_cons.1 hz with rfl | hz
      · rw [zFc] at h1
        cases h1
      · have := S.tr z y z h1 (y1 z hz)
        rw [zFc] at this
        cases this
theorem zIo {α : Type} {lt : α → α → Bool} (S : Sto lt) {b : α → α → Bool} (hb : ∀ p x, b p x = false → lt p x = true) : ∀ (xs : List α) (p : α), adjB b p xs = false → zBc lt (p :: xs)
  | [],p,_=>List.pairwise_cons.2 ⟨fun y h=>(by cases h),List.Pairwise.nil⟩
  | x::xs,p,h=>by
    unfold adjB at h
    rw [Bool.or_eq_false_iff] at h
    have ih:=zIo S hb xs x h.2
    have hpx:=hb p x h.1
    refine List.pairwise_cons.2 ⟨fun y hy=>?_,ih⟩
    rcases List.mem_cons.1 hy with rfl | hy
    · exact hpx
    · exact S.tr p x y hpx ((List.pairwise_cons.1 ih).1 y hy)
theorem zDV {l:List (List UInt8)} (h:tokB l=true):zBc bLt l:=by
  unfold tokB at h
  cases l with
  | nil=>exact List.Pairwise.nil
  | cons x xs=>
    rw [Bool.not_eq_true',zIe,Bool.or_eq_false_iff] at h
    exact zIo zD8 (fun p x hb=>by
      rw [Bool.or_eq_false_iff] at hb
      simpa using hb.2) xs x h.2
theorem zMq {l:List (List UInt8)} (h:zBc bLt l):(l.mergeSort fun x y=>!(bLt y x))=l:=
  zKc zD8 (List.mergeSort_perm l _) (zIN zD8 l) (h.w zD8)
theorem zOX {l:List (List UInt8)} (h:zBc bLt l):setL l=l:=
  zEX zD8 (zFn l) h fun x=>zFo
def zE5 (a b:List (List UInt8)):List (List UInt8):=a.filter fun x=>b.any fun y=>y==x
theorem zH9 (a b:List (List UInt8)):(zE5 a b).length≤a.length:=List.length_filter_le _ _
theorem zMx {fu:Nat} {a b:List (List UInt8)} (hf:4294967296<fu∨a.length+b.length<fu) (ha:a.length≤1048576) (hb:b.length≤1048576) (sa:zBc bLt a) (sb:zBc bLt b):zDi fu a b=some ((zE5 a b).length:Int):=by
  unfold zDi zDL
  have hfu:a.length+b.length<fu:=by omega
  rw [zKk (by omega),zA6,zKk (by omega),zA6,zKa (by omega),zA6,zKa (by omega),zA6,zMq sa,zMq sb,zNh (a.length+b.length) fu a b 0 (Nat.le_refl _) hfu (by omega) (by omega),zA6,zA6,zHJ _ a b (Nat.le_refl _) sa sb]
  simp [zE5]
theorem zN2 {a b:List (List UInt8)} (sa:zBc bLt a) (sb:zBc bLt b):((b.foldl (putS bLt) (a.foldl (putS bLt) [])).length:Int)=a.length+b.length-(zE5 a b).length:=by
  obtain ⟨h1,h2⟩:=zFU zD8 a [] List.Pairwise.nil
  obtain ⟨h3,h4⟩:=zFU zD8 b _ h1
  have hn:=zBc.nodup zD8 h3
  have hb2:(a++b.filter fun x=>!(a.any fun y=>y==x)).Nodup:=by
    refine List.nodup_append.2 ⟨zBc.nodup zD8 sa,(zBc.nodup zD8 sb).sublist List.filter_sublist,fun x hx y hy e=>?_⟩
    subst e
    have:=(List.mem_filter.1 hy).2
    simp at this
    exact this _ hx rfl
  have hp:(b.foldl (putS bLt) (a.foldl (putS bLt) [])).Perm (a++b.filter fun x=>!(a.any fun y=>y==x)):=by
    refine (List.perm_ext_iff_of_nodup hn hb2).2 fun x=>?_
    rw [h4,h2,List.mem_append,List.mem_filter]
    by_cases hx:x ∈ a
    · simp [hx]
    · simp [hx]
      exact fun _ y hy e=>hx (e ▸ hy)
  have hl:=hp.length_eq
  rw [List.length_append] at hl
  have e1:zE5 a b=zE5 b a:=by
    refine zEX zD8 (sa.sublist List.filter_sublist) (sb.sublist List.filter_sublist) fun x=>?_
    unfold zE5
    rw [List.mem_filter,List.mem_filter]
    simp
    exact And.comm
  have e2:(zE5 b a).length+(b.filter fun x=>!(a.any fun y=>y==x)).length=b.length:=by
    have h:∀ l:List (List UInt8),(l.filter fun x=>a.any fun y=>y==x).length+(l.filter fun x=>!(a.any fun y=>y==x)).length=l.length:=by
      intro l
      induction l with
      | nil=>rfl
      | cons z l ih=>
        simp only [List.filter_cons,List.length_cons]
        cases a.any fun y=>y==z <;> simp <;> omega
    exact h b
  rw [e1]
  omega
theorem zKH {fu:Nat} {a b:List (List UInt8)} (hf:1048577≤fu) (ha:a.length≤524288) (hb:b.length≤524288):zC9 fu a b=some (b.foldl (putS bLt) (a.foldl (putS bLt) [])):=by
  unfold zC9
  have grow:∀ (acc:List (List UInt8)) x,(putS bLt acc x).length≤acc.length+1:=fun acc x=>by
    unfold putS putW
    cases (acc[plc bLt x acc]? == some x)
    · rw [cond_false,zFD];exact Nat.le_refl _
    · rw [cond_true];omega
  have h:=zEA (xs:=a) (g:=putS bLt) (Inv:=fun i acc=>acc.length≤i) (L:=fun k i acc=>zAr fu a k i acc) (fun k i acc x hx hacc=>by
    have hi:=zDn hx
    show zAr fu a (k+1) (i:Int) acc=_
    rw [zAr,lt_t hi,cond_true]
    simp only [zBF hi,zBC hx,zCK,zM4 (show acc.length<fu by omega) (show acc.length≤2147483648 by omega),zA6,zCU (show i≤4294967296 by omega),zBe,cond_false]) (fun i acc x hx hacc=>Nat.le_trans (grow acc x) (Nat.succ_le_succ hacc)) (fun k acc hacc=>by show zAr fu a (k+1) (a.length:Int) acc=_;rw [zAr,lt_f];rfl) (a:=[]) (Nat.zero_le _) (show a.length<fu by omega)
  have h':=zEA (xs:=b) (g:=putS bLt) (Inv:=fun i acc=>acc.length≤a.length+i) (L:=fun k i acc=>zAp fu b k i acc) (fun k i acc x hx hacc=>by
    have hi:=zDn hx
    show zAp fu b (k+1) (i:Int) acc=_
    rw [zAp,lt_t hi,cond_true]
    simp only [zBF hi,zBC hx,zCK,zM4 (show acc.length<fu by omega) (show acc.length≤2147483648 by omega),zA6,zCU (show i≤4294967296 by omega),zBe,cond_false]) (fun i acc x hx hacc=>by have:=grow acc x;show _≤a.length+(i+1);omega) (fun k acc hacc=>by show zAp fu b (k+1) (b.length:Int) acc=_;rw [zAp,lt_f];rfl) (a:=a.foldl (putS bLt) []) h.2 (show b.length<fu by omega)
  rw [h.1,zA6,h'.1,zA6]
end Go.Proofs.YtcodfkieaoomnaaGreatDoor
namespace Go.Proofs.YtcodfkieaoomnaaGreatDoor
open Go.RowKit
set_option linter.unusedVariables false
set_option linter.unusedSimpArgs false
def edS (a b:List UInt8):Int:=bif decide (zFl a b<0) then 0 else bif (max (a.length:Int) (b.length:Int))==(0:Int) then 1000 else (1000*(max (a.length:Int) (b.length:Int)-zFl a b)).tdiv (max (a.length:Int) (b.length:Int))
theorem zNw (a b:List UInt8):zFl a b≤(a.length:Int)+b.length:=by
  unfold zFl
  cases decide (a.length≤40)&&decide (b.length≤40)
  · rw [cond_false];omega
  · exact (zGS a b _ a.length b.length (Nat.le_refl _)).2
theorem zJ2 {x y:Int} (h0:-1000000000000≤x) (h1:x≤1000000000000) (hy:y ≠ 0):-9223372036854775808≤x.tdiv y∧x.tdiv y≤9223372036854775807:=by
  have h1:(x.tdiv y).natAbs=x.natAbs / y.natAbs:=Int.natAbs_tdiv x y
  have h2:x.natAbs / y.natAbs≤x.natAbs:=Nat.div_le_self _ _
  have h3:x.natAbs≤1000000000000:=by omega
  generalize x.tdiv y=z at h1 ⊢
  generalize x.natAbs / y.natAbs=q at h1 h2
  omega
theorem zP4 {a b:List UInt8} (ha:a.length≤1048576) (hb:b.length≤1048576) {k:Option Int} (h:k=some (zFl a b)):(cl true k fun x1=>
    bif decide (x1 < (0 : Int)) then (some (0 : Int)) else (bif (max (a.length : Int) (b.length : Int)) == (0 : Int) then (some (1000 : Int)) else (
      ck (i64B ((max (a.length:Int) (b.length:Int))-x1))<|ck (i64B ((1000:Int)*((max (a.length:Int) (b.length:Int))-x1)))<|ck ((max (a.length:Int) (b.length:Int)) != 0) <|
      ck (i64B (((1000:Int)*((max (a.length:Int) (b.length:Int))-x1)).tdiv (max (a.length:Int) (b.length:Int))))<|some (((1000:Int)*((max (a.length:Int) (b.length:Int))-x1)).tdiv (max (a.length:Int) (b.length:Int))))))=some (edS a b):=by
  have h1:=zN5 a b
  have h2:=zNw a b
  rw [h,zA6]
  unfold edS
  generalize zFl a b=d at h1 h2 ⊢
  have hm:(0:Int)≤max (a.length:Int) (b.length:Int)∧max (a.length:Int) (b.length:Int)≤1048576:=by omega
  generalize max (a.length:Int) (b.length:Int)=m at hm ⊢
  cases decide (d<0)
  · rw [cond_false, cond_false]
    cases hm0:m==(0:Int)
    · have hne : m ≠ 0 := by simpa using hm0
      have hq:=zJ2 (x:=1000*(m-d)) (y:=m) (by omega) (by omega) hne
      rw [cond_false,cond_false,ck_t (zAl (by omega) (by omega)),ck_t (zAl (by omega) (by omega)),ck_t (by simpa using hne),ck_t (zAl hq.1 hq.2)]
    · rfl
  · rfl
theorem zNd {fu:Nat} {a b:List UInt8} (hf:1048577≤fu) (ha:a.length≤1048576) (hb:b.length≤1048576):zDw fu a b=some (edS a b):=zP4 ha hb (zLo hf)
theorem zO4 {fu:Nat} {a b:List UInt8} (hf:1048577≤fu) (ha:a.length≤1048576) (hb:b.length≤1048576):zDv fu a b=some (edS a b):=zP4 ha hb (zLq hf)
def txS (a b:List UInt8):Int:=bif (nrmL a == []) || (nrmL b == []) then 0 else edS (nrmL a) (nrmL b)
theorem zLK {fu:Nat} {a b:List UInt8} (hf:1048577≤fu) (ha:a.length≤262144) (hb:b.length≤262144):zCi fu a b=some (txS a b):=by
  have h1:=zGD a
  have h2:=zGD b
  unfold zCi txS
  rw [zHi (by omega) (by omega),zA6,zHi (by omega) (by omega),zA6,zBN,zNd hf (by omega) (by omega),zA6]
  cases (nrmL a == []) || (nrmL b == []) <;> rfl
theorem zKv {fu:Nat} {a b:List UInt8} (hf:1048577≤fu) (ha:a.length≤262144) (hb:b.length≤262144):zDX fu a b=some (txS a b):=by
  have h1:=zGD a
  have h2:=zGD b
  unfold zDX txS
  rw [zGZ (by omega) (by omega),zA6,zGZ (by omega) (by omega),zA6,zBN,zO4 hf (by omega) (by omega),zA6]
  cases (nrmL a == []) || (nrmL b == []) <;> rfl
def jacS (a b:List (List UInt8)):Int:=bif !(tokB a&&tokB b) then 0 else bif ((a.length:Int)+b.length-(zE5 a b).length)==(0:Int) then 1000 else ((1000:Int)*((zE5 a b).length:Int)).tdiv ((a.length:Int)+b.length-(zE5 a b).length)
theorem zMt {fu:Nat} {a b:List (List UInt8)} (hf:1048577≤fu) (ha:a.length≤1000) (hea:∀ t ∈ a,t.length≤1048576) (hb:b.length≤1000) (heb:∀ t ∈ b,t.length≤1048576):zDm fu a b=some (jacS a b):=by
  unfold zDm zD7 jacS
  rw [zLR hf (by omega) hea,zA6,zLR hf (by omega) heb]
  cases h1:tokB a
  · rfl
  · cases h2 : tokB b
    · rfl
    · have hle := zH9 a b
      rw [show (true&&(true==true))=true from rfl,zA6,zBN,zA6,zMx (.inr (by omega)) (by omega) (by omega) (zDV h1) (zDV h2),zA6]
      generalize (zE5 a b).length=c at hle ⊢
      simp only [Bool.and_self,Bool.not_true,cond_false]
      unfold zEH
      rw [ck_t (zAl (by omega) (by omega)),ck_t (zAl (by omega) (by omega)),ck_t (zAl (by omega) (by omega))]
      cases h0:((a.length:Int)+b.length-(c:Int))==(0:Int)
      · have hne : ((a.length : Int) + b.length - (c : Int)) ≠ 0 := by simpa using h0
        have hq:=zJ2 (x:=1000*(c:Int)) (y:=(a.length:Int)+b.length-(c:Int)) (by omega) (by omega) hne
        rw [cond_false,cond_false,ck_t (by simpa using hne),ck_t (zAl hq.1 hq.2),zA6]
      · rfl
theorem zMD {fu:Nat} {a b:List (List UInt8)} (hf:1048577≤fu) (ha:a.length≤1000) (hea:∀ t ∈ a,t.length≤1048576) (hb:b.length≤1000) (heb:∀ t ∈ b,t.length≤1048576):zDk fu a b=some (jacS a b):=by
  unfold zDk zEu jacS
  rw [zLO hf (by omega) hea,zA6,zLO hf (by omega) heb]
  cases h1:tokB a
  · rfl
  · cases h2 : tokB b
    · rfl
    · have hle := zH9 a b
      have hc:((a.filter fun x=>b.any fun y=>y==x).foldl (putS bLt) [])=zE5 a b:=by
        rw [zMv,zOX (zDV h1)]
        rfl
      have hu:=zN2 (zDV h1) (zDV h2)
      rw [show (true&&(true==true))=true from rfl,zA6,zBN,zA6,zJi hf (by omega) (by omega),zA6,zKH hf (by omega) (by omega),zA6,hc,hu]
      generalize (zE5 a b).length=c at hle ⊢
      simp only [Bool.and_self,Bool.not_true,cond_false]
      unfold zEY
      cases h0:((a.length:Int)+b.length-(c:Int))==(0:Int)
      · have hne : ((a.length : Int) + b.length - (c : Int)) ≠ 0 := by simpa using h0
        have hq:=zJ2 (x:=1000*(c:Int)) (y:=(a.length:Int)+b.length-(c:Int)) (by omega) (by omega) hne
        rw [cond_false,cond_false,ck_t (zAl (by omega) (by omega)),ck_t (by simpa using hne),ck_t (zAl hq.1 hq.2),zA6]
      · rfl
def seS (a b:List (List UInt8)):Int:=bif ((a.length:Int)==(0:Int)) || ((b.length:Int)==(0:Int)) then 0 else jacS a b
theorem zL2 {fu:Nat} {a b:List (List UInt8)} (hf:1048577≤fu) (ha:a.length≤1000) (hea:∀ t ∈ a,t.length≤1048576) (hb:b.length≤1000) (heb:∀ t ∈ b,t.length≤1048576):zCr fu a b=some (seS a b):=by
  unfold zCr seS
  rw [zMt hf ha hea hb heb,zBN,zA6]
  cases ((a.length:Int)==(0:Int)) || ((b.length:Int)==(0:Int)) <;> rfl
theorem zL0 {fu:Nat} {a b:List (List UInt8)} (hf:1048577≤fu) (ha:a.length≤1000) (hea:∀ t ∈ a,t.length≤1048576) (hb:b.length≤1000) (heb:∀ t ∈ b,t.length≤1048576):zDZ fu a b=some (seS a b):=by
  unfold zDZ seS
  rw [zMD hf ha hea hb heb,zBN,zA6]
  cases ((a.length:Int)==(0:Int)) || ((b.length:Int)==(0:Int)) <;> rfl
def yrS (p q:Int):Int:=bif decide (0<p)&&decide (0<q) then (1000*(max (10-max (p-q) (q-p)) 0)).tdiv 10 else 0
theorem zP3 {fu:Nat} {p q:Int} (hp:1000≤p∧p≤9999) (hq:1000≤q∧q≤9999):zCm fu p q 10=some ((1000*(max (10-max (p-q) (q-p)) 0)).tdiv 10)∧zCk fu p q 10=some ((1000*(max (10-max (p-q) (q-p)) 0)).tdiv 10):=by
  have i1:inI p 0 9999=true:=by unfold inI;rw [decide_eq_true (by omega),decide_eq_true (by omega)];rfl
  have i2:inI q 0 9999=true:=by unfold inI;rw [decide_eq_true (by omega),decide_eq_true (by omega)];rfl
  have i3:inI 10 1 9999=true:=rfl
  have hz:(0:Int)≤max (10-max (p-q) (q-p)) 0∧max (10-max (p-q) (q-p)) 0≤10:=by omega
  have hd:=zJ2 (x:=1000*(max (10-max (p-q) (q-p)) 0)) (y:=10) (by omega) (by omega) (by decide)
  constructor
  · unfold zCm
    rw [zEr,i1,zA6,zEr,i2,show (true&&((!true)==false))=true from rfl,zA6,zBN,zEr,i3]
    show ck (i64B (p-q)) _=_
    rw [ck_t (zAl (by omega) (by omega)),ck_t (zAl (by omega) (by omega)),ck_t (zAl (by omega) (by omega)),ck_t (zAl (by omega) (by omega)),ck_t (show ((10:Int) != 0)=true from rfl),ck_t (zAl hd.1 hd.2)]
  · unfold zCk zEi
    rw [zIc,i1,zA6,zA6,zIc,i2,zA6,show (true&&((!true)==false))=true from rfl,zA6,zBN,zIc,i3]
    show ck (i64B (max p q-min p q)) _=_
    have e:max p q-min p q=max (p-q) (q-p):=by omega
    rw [e] at *
    rw [ck_t (zAl (by omega) (by omega))]
    by_cases h:10≤max (p-q) (q-p)
    · rw [decide_eq_true h, cond_true, show max (10 - max (p - q) (q - p)) 0 = 0 by omega]
      rfl
    · have e2 : max (10 - max (p - q) (q - p)) 0 = 10 - max (p - q) (q - p) := by omega
      rw [e2] at hd ⊢
      rw [decide_eq_false h,cond_false,ck_t (zAl (by omega) (by omega)),ck_t (zAl (by omega) (by omega)),ck_t (show ((10:Int) != 0)=true from rfl),ck_t (zAl hd.1 hd.2)]
theorem zNT {fu:Nat} {a b:List UInt8} {p q:Int} (hp:p=0∨(1000≤p∧p≤9999)) (hq:q=0∨(1000≤q∧q≤9999)) (h1:zBZ fu a=some p) (h2:zBZ fu b=some q):zDB fu a b=some (yrS p q):=by
  unfold zDB yrS
  rw [h1,zA6,h2,zA6,zBN]
  rcases hp with rfl | hp
  · rfl
  · rcases hq with rfl | hq
    · rw [show ((0 : Int) == 0) = true from rfl, Bool.or_true, decide_eq_false (show ¬ (0 : Int) < 0 by omega), Bool.and_false]
      rfl
    · rw [show (p == (0 : Int)) = false by rw [beq_eq_false_iff_ne]; omega, show (q == (0 : Int)) = false by rw [beq_eq_false_iff_ne]; omega, Bool.or_self, cond_false, (zP3 hp hq).1, zA6, decide_eq_true (by omega), decide_eq_true (by omega)]
      rfl
def cpL : List UInt8 → List UInt8 → Nat
  | a::x,b::y=>bif a==b then cpL x y+1 else 0
  | _,_=>0
theorem zOI : ∀ x y : List UInt8, cpL x y ≤ x.length ∧ cpL x y ≤ y.length
  | [],y=>by simp [cpL]
  | a::x,[]=>by simp [cpL]
  | a::x,b::y=>by
    have:=zOI x y
    unfold cpL
    cases a==b
    · simp
    · rw [cond_true,List.length_cons,List.length_cons];omega
theorem zI0 : ∀ x y : List UInt8, cpL x y = cpL y x
  | [],[]=>rfl
  | [],_::_=>rfl
  | _::_,[]=>rfl
  | a::x,b::y=>by
    unfold cpL
    rw [zI0 x y,show (a==b)=(b==a) from Bool.beq_comm]
theorem zLA : ∀ x : List UInt8, cpL x x = x.length
  | []=>rfl
  | a::x=>by
    unfold cpL
    rw [zLA x,beq_self_eq_true]
    rfl
theorem zMo : ∀ x y : List UInt8, cpL x y = x.length ↔ y.take x.length = x
  | [],y=>by simp [cpL]
  | a::x,[]=>by simp [cpL]
  | a::x,b::y=>by
    have ih:=zMo x y
    unfold cpL
    cases h:a==b
    · rw [cond_false]
      constructor
      · intro h2;simp at h2
      · intro h2
        have h3:a ≠ b:=by simpa using h
        simp at h2
        exact absurd h2.1.symm h3
    · have h3 : a = b := by simpa using h
      subst h3
      rw [cond_true,List.length_cons,List.take_succ_cons]
      constructor
      · intro h2;rw [ih.1 (by omega)]
      · intro h2
        injection h2 with _ h2
        rw [ih.2 h2]
def csL (x y:List UInt8):Nat:=cpL x.reverse y.reverse
theorem zKq {x y:List UInt8}:csL x y=x.length ↔ y.drop (y.length-x.length)=x∧x.length≤y.length:=by
  unfold csL
  have:=zMo x.reverse y.reverse
  rw [List.length_reverse] at this
  rw [this]
  constructor
  · intro h
    have hl:=congrArg List.length h
    rw [List.length_take,List.length_reverse,List.length_reverse] at hl
    have h2:=congrArg List.reverse h
    rw [List.reverse_reverse,List.reverse_take,List.reverse_reverse,List.length_reverse] at h2
    exact ⟨h2,by omega⟩
  · rintro ⟨h, hle⟩
    have h2:=congrArg List.reverse h
    rw [List.reverse_drop] at h2
    rw [← h2]
    congr 1
    omega
theorem zMf {x:List UInt8} {i:Nat} (h:i<x.length):bAt x (((x.length:Int)-1)-(i:Int))=(((x.reverse[i]'(by rw [List.length_reverse];exact h)).toNat:Nat):Int):=by
  rw [show ((x.length:Int)-1)-(i:Int)=((x.length-1-i:Nat):Int) by omega,zDy (List.getElem?_eq_getElem (show x.length-1-i<x.length by omega)),List.getElem_reverse]
theorem zIw {x:List UInt8} {i:Nat} (h:i<x.length):x.drop i=x[i]::x.drop (i+1):=List.drop_eq_getElem_cons h
theorem zLs {c d:UInt8}:(((c.toNat:Int))==(d.toNat:Int))=(c==d):=by
  by_cases h:c=d
  · subst h;simp
  · rw [zI2 h,beq_eq_false_iff_ne.2 h]
theorem phL {x y : List UInt8} {L : Nat → Int → Option Int} (hx : x.length ≤ 1048576) (hy : y.length ≤ 1048576)
    (hL : ∀ k (i : Int), L (k + 1) i = (
      bd ((decide (i<(x.length:Int)))&&(decide (i<(y.length:Int)))) fun x11=>
      ck (!(true&&(x11==true)) || i64B ((x.length:Int)-(1:Int))) <|
      ck (!(true&&(x11==true)) || i64B (((x.length:Int)-(1:Int))-i)) <|
      ck (!(true&&(x11==true)) || inR (((x.length:Int)-(1:Int))-i) x.length) <|
      ck (!(true&&(x11==true)) || i64B ((y.length:Int)-(1:Int))) <|
      ck (!(true&&(x11==true)) || i64B (((y.length:Int)-(1:Int))-i)) <|
      ck (!(true&&(x11==true)) || inR (((y.length:Int)-(1:Int))-i) y.length) <|
      bd (x11&&((bAt x (((x.length:Int)-(1:Int))-i))==(bAt y (((y.length:Int)-(1:Int))-i)))) fun x19=>
      bif x19 then (ck (i64B (i+(1:Int)))<|L k (i+(1:Int))) else (some i))) :
    ∀ m i k,i+m=min x.length y.length→m<k→L k (i:Int)=some ((i+cpL (x.reverse.drop i) (y.reverse.drop i):Nat):Int):=by
  intro m
  induction m with
  | zero=>
    intro i k hi hk
    obtain ⟨k,rfl⟩:∃ q,k=q+1:=⟨k-1,by omega⟩
    have hf:(decide ((i:Int)<(x.length:Int))&&decide ((i:Int)<(y.length:Int)))=false:=by
      rw [Bool.and_eq_false_iff,decide_eq_false_iff_not,decide_eq_false_iff_not]
      omega
    have h0:cpL (x.reverse.drop i) (y.reverse.drop i)=0:=by
      have:=zOI (x.reverse.drop i) (y.reverse.drop i)
      rw [List.length_drop,List.length_drop,List.length_reverse,List.length_reverse] at this
      omega
    rw [hL,hf,h0]
    rfl
  | succ m ih=>
    intro i k hi hk
    obtain ⟨k,rfl⟩:∃ q,k=q+1:=⟨k-1,by omega⟩
    have hix:i<x.length:=by omega
    have hiy:i<y.length:=by omega
    have i1:i64B ((x.length:Int)-1)=true:=zAl (by omega) (by omega)
    have i2:i64B (((x.length:Int)-1)-(i:Int))=true:=zAl (by omega) (by omega)
    have i3:inR (((x.length:Int)-1)-(i:Int)) x.length=true:=zCe.2 ⟨by omega,by omega⟩
    have i4:i64B ((y.length:Int)-1)=true:=zAl (by omega) (by omega)
    have i5:i64B (((y.length:Int)-1)-(i:Int))=true:=zAl (by omega) (by omega)
    have i6:inR (((y.length:Int)-1)-(i:Int)) y.length=true:=zCe.2 ⟨by omega,by omega⟩
    rw [hL,lt_t hix,lt_t hiy,zBN,i1,i2,i3,i4,i5,i6,zMf hix,zMf hiy,zLs,zBN]
    rw [zIw (x:=x.reverse) (by rw [List.length_reverse];exact hix),zIw (x:=y.reverse) (by rw [List.length_reverse];exact hiy),cpL]
    simp only [Bool.or_true,zCK,Bool.and_self,Bool.true_and]
    cases (x.reverse[i]'(by rw [List.length_reverse];exact hix)==y.reverse[i]'(by rw [List.length_reverse];exact hiy))
    · rfl
    · rw [cond_true, cond_true, zBe, ck_t (zCU (by omega)), ih (i + 1) k (by omega) (by omega)]
      congr 2
      omega
def phS (x y:List UInt8):Int:=bif (decide (x.length<4) || decide (y.length<4)) || decide (csL x y<4) then 0 else bif x==y then 1000 else bif (decide (7≤csL x y) || decide (csL x y=x.length)) || decide (csL x y=y.length) then 800 else 400
theorem decN {a b:Nat}:decide ((a:Int)<(b:Int))=decide (a<b):=by
  by_cases h:a<b
  · rw [decide_eq_true h,decide_eq_true (by omega)]
  · rw [decide_eq_false h,decide_eq_false (by omega)]
theorem decL {a b:Nat}:decide ((a:Int)≤(b:Int))=decide (a≤b):=by
  by_cases h:a≤b
  · rw [decide_eq_true h,decide_eq_true (by omega)]
  · rw [decide_eq_false h,decide_eq_false (by omega)]
theorem beqN {a b:Nat}:((a:Int)==(b:Int))=decide (a=b):=by
  by_cases h:a=b
  · rw [decide_eq_true h,h];simp
  · rw [decide_eq_false h,beq_eq_false_iff_ne];omega
theorem zP8 {x y:List UInt8}:(x==y)=(decide (csL x y=x.length)&&decide (csL x y=y.length)):=by
  rw [Bool.eq_iff_iff,beq_iff_eq,Bool.and_eq_true,decide_eq_true_eq,decide_eq_true_eq]
  constructor
  · rintro rfl
    unfold csL
    rw [zLA,List.length_reverse]
    exact ⟨rfl,rfl⟩
  · rintro ⟨h1, h2⟩
    have:=(zKq.1 h1).1
    rw [show y.length-x.length=0 by omega,List.drop_zero] at this
    exact this.symm
theorem zLE {fu:Nat} {x y:List UInt8} (hx:x.length≤1048576) (hy:y.length≤1048576):zBr fu x y=some (decide (csL x y=y.length)):=by
  unfold zBr zAd
  have hc:csL x y=csL y x:=zI0 _ _
  rw [hc,decL]
  by_cases h:y.length≤x.length
  · have e:subL x ((x.length:Int)-(y.length:Int)) (x.length:Int)=x.drop (x.length-y.length):=by
      rw [show ((x.length:Int)-(y.length:Int))=((x.length-y.length:Nat):Int) by omega,zGT]
    rw [decide_eq_true h,zAl (show -9223372036854775808≤(x.length:Int)-(y.length:Int) by omega) (by omega),zBj.2 (show (0:Int)≤(x.length:Int)-(y.length:Int)∧(x.length:Int)-(y.length:Int)≤(x.length:Int)∧(x.length:Int)≤(x.length:Int) by omega),e,zBN]
    simp only [Bool.or_true,zCK,Bool.true_and,zA6]
    congr 1
    rw [Bool.eq_iff_iff,beq_iff_eq,decide_eq_true_eq,zKq]
    exact ⟨fun h1=>⟨h1,h⟩,fun h1=>h1.1⟩
  · rw [decide_eq_false h, decide_eq_false (fun h1 => h (zKq.1 h1).2)]
    rfl
theorem zNb {fu:Nat} {a b:List UInt8} (hf:1048577≤fu) (ha:a.length≤1048576) (hb:b.length≤1048576):zCs fu a b=some (phS (dgL a) (dgL b)):=by
  have h1:=zJE a
  have h2:=zJE b
  unfold zCs phS
  rw [zLI (by omega) ha,zA6,zLI (by omega) hb,zA6]
  generalize dgL a=x at h1 ⊢
  generalize dgL b=y at h2 ⊢
  have hl:=phL (x:=x) (y:=y) (L:=zBT fu x y) (by omega) (by omega) (fun k i=>by rw [zBT]) (min x.length y.length) 0 fu (by omega) (by omega)
  rw [List.drop_zero,List.drop_zero,Nat.zero_add] at hl
  have hl:zBT fu x y fu (0:Int)=some ((csL x y:Nat):Int):=hl
  rw [hl,zA6,zBN,zBN,show decide ((x.length:Int)<(4:Int))=decide (x.length<4) from decN (b:=4),show decide ((y.length:Int)<(4:Int))=decide (y.length<4) from decN (b:=4),show decide (((csL x y:Nat):Int)<(4:Int))=decide (csL x y<4) from decN (b:=4),show decide ((7:Int)≤((csL x y:Nat):Int))=decide (7≤csL x y) from decL (a:=7),zLE (by omega) (by omega),zLE (by omega) (by omega),show csL y x=csL x y from zI0 _ _]
  generalize decide (csL x y=x.length)=p
  generalize decide (csL x y=y.length)=q
  generalize decide (7≤csL x y)=s
  generalize ((decide (x.length<4) || decide (y.length<4)) || decide (csL x y<4))=t
  generalize (x==y)=e
  cases t <;> cases e <;> cases s <;> cases p <;> cases q <;> rfl
theorem zNJ {fu:Nat} {a b:List UInt8} (hf:1048577≤fu) (ha:a.length≤1048576) (hb:b.length≤1048576):zD1 fu a b=some (phS (dgL a) (dgL b)):=by
  have h1:=zJE a
  have h2:=zJE b
  unfold zD1 phS
  rw [zKx (by omega) ha,zA6,zKx (by omega) hb,zA6]
  generalize dgL a=x at h1 ⊢
  generalize dgL b=y at h2 ⊢
  have hl:=phL (x:=x) (y:=y) (L:=zBU fu x y) (by omega) (by omega) (fun k i=>by rw [zBU]) (min x.length y.length) 0 fu (by omega) (by omega)
  rw [List.drop_zero,List.drop_zero,Nat.zero_add] at hl
  have hl:zBU fu x y fu (0:Int)=some ((csL x y:Nat):Int):=hl
  rw [hl,zA6,zBN,zBN,zBN,zBN,zBN,show decide ((x.length:Int)<(4:Int))=decide (x.length<4) from decN (b:=4),show decide ((y.length:Int)<(4:Int))=decide (y.length<4) from decN (b:=4),show decide (((csL x y:Nat):Int)<(4:Int))=decide (csL x y<4) from decN (b:=4),show decide ((7:Int)≤((csL x y:Nat):Int))=decide (7≤csL x y) from decL (a:=7),beqN,beqN,← zP8]
  generalize decide (csL x y=x.length)=p
  generalize decide (csL x y=y.length)=q
  generalize decide (7≤csL x y)=s
  generalize ((decide (x.length<4) || decide (y.length<4)) || decide (csL x y<4))=t
  generalize (x==y)=e
  cases t <;> cases e <;> cases s <;> cases p <;> cases q <;> rfl
def ftL (a0 a1 a3:List UInt8) (p:Int) (b0 b1 b3:List UInt8) (q:Int):List Int:=[txS a0 b0,seS (tokL a0) (tokL b0),seS (skL a0) (skL b0),txS a1 b1,yrS p q,phS (dgL a3) (dgL b3)]
theorem pf_t {r s : RecT} (hr : zKn r) (hs : zKn s) (h1 : recB r = true) (h2 : recB s = true) : ∃ (a0 a1 a2 a3 b0 b1 b2 b3 : List UInt8) (p q : Int), r.2.2.2 = [a0, a1, a2, a3] ∧ s.2.2.2 = [b0, b1, b2, b3] ∧ (a0.length ≤ 40 ∧ a1.length ≤ 40 ∧ a2.length ≤ 40 ∧ a3.length ≤ 40) ∧ (b0.length ≤ 40 ∧ b1.length ≤ 40 ∧ b2.length ≤ 40 ∧ b3.length ≤ 40) ∧ (p = 0 ∨ (1000 ≤ p ∧ p ≤ 9999)) ∧ (q = 0 ∨ (1000 ≤ q ∧ q ≤ 9999)) ∧ YrI a2 p ∧ YrI b2 q ∧
    ∀ fu,1048577≤fu→zAv fu r s=some (ftL a0 a1 a3 p b0 b1 b3 q)∧zBM fu r s=some (ftL a0 a1 a3 p b0 b1 b3 q):=by
  obtain ⟨a0,a1,a2,a3,ea,ha0,ha1,ha2,ha3⟩:=zIs h1
  obtain ⟨b0,b1,b2,b3,eb,hb0,hb1,hb2,hb3⟩:=zIs h2
  obtain ⟨p,hp,hpy,hpp⟩:=zMC (s:=a2) (by omega)
  obtain ⟨q,hq,hqy,hqq⟩:=zMC (s:=b2) (by omega)
  refine ⟨a0,a1,a2,a3,b0,b1,b2,b3,p,q,ea,eb,⟨ha0,ha1,ha2,ha3⟩,⟨hb0,hb1,hb2,hb3⟩,hp,hq,hpy,hqy,fun fu hf=>?_⟩
  have ta:=zHP a0
  have tb:=zHP b0
  have sa:=zML a0
  have sb:=zML b0
  have ma:∀ t ∈ tokL a0,t.length≤1048576:=fun t ht=>by have:=(zHO ht).2.1;omega
  have mb:∀ t ∈ tokL b0,t.length≤1048576:=fun t ht=>by have:=(zHO ht).2.1;omega
  have na:∀ t ∈ skL a0,t.length≤1048576:=fun t ht=>by have:=zM2 ht;omega
  have nb:∀ t ∈ skL b0,t.length≤1048576:=fun t ht=>by have:=zM2 ht;omega
  have i0:∀ w x y z:List UInt8,inR (0:Int) ([w,x,y,z]:List (List UInt8)).length=true:=fun _ _ _ _=>rfl
  have i1:∀ w x y z:List UInt8,inR (1:Int) ([w,x,y,z]:List (List UInt8)).length=true:=fun _ _ _ _=>rfl
  have i2:∀ w x y z:List UInt8,inR (2:Int) ([w,x,y,z]:List (List UInt8)).length=true:=fun _ _ _ _=>rfl
  have i3:∀ w x y z:List UInt8,inR (3:Int) ([w,x,y,z]:List (List UInt8)).length=true:=fun _ _ _ _=>rfl
  have g0:∀ w x y z:List UInt8,gtD [w,x,y,z] (0:Int)=w:=fun _ _ _ _=>rfl
  have g1:∀ w x y z:List UInt8,gtD [w,x,y,z] (1:Int)=x:=fun _ _ _ _=>rfl
  have g2:∀ w x y z:List UInt8,gtD [w,x,y,z] (2:Int)=y:=fun _ _ _ _=>rfl
  have g3:∀ w x y z:List UInt8,gtD [w,x,y,z] (3:Int)=z:=fun _ _ _ _=>rfl
  constructor
  · unfold zAv zEM
    rw [zHG hf hr,h1,zA6,zHG hf hs,h2]
    rw [ea,eb]
    simp only [i0,i1,i2,i3,g0,g1,g2,g3,zCK]
    have e1:=zLK (fu:=fu) (a:=a0) (b:=b0) hf (by omega) (by omega)
    have e2:=zIP (fu:=fu) (s:=a0) hf (by omega)
    have e3:=zIP (fu:=fu) (s:=b0) hf (by omega)
    have e4:=zL2 (fu:=fu) (a:=tokL a0) (b:=tokL b0) hf (by omega) ma (by omega) mb
    have e5:=zLG (fu:=fu) (s:=a0) hf (by omega)
    have e6:=zLG (fu:=fu) (s:=b0) hf (by omega)
    have e7:=zL2 (fu:=fu) (a:=skL a0) (b:=skL b0) hf (by omega) na (by omega) nb
    have e8:=zLK (fu:=fu) (a:=a1) (b:=b1) hf (by omega) (by omega)
    have e9:=zNT hp hq (hpp fu hf).1 (hqq fu hf).1
    have e10:=zNb (fu:=fu) (a:=a3) (b:=b3) hf (by omega) (by omega)
    simp only [e1,e2,e3,e4,e5,e6,e7,e8,e9,e10,zA6,zBN,Bool.not_true,Bool.or_self,cond_false,show (true&&(false==false))=true from rfl]
    rfl
  · unfold zBM
    rw [zFS hf hr,h1,zA6,zFS hf hs,h2]
    rw [ea,eb]
    simp only [i0,i1,i2,i3,g0,g1,g2,g3,zCK]
    have e1:=zKv (fu:=fu) (a:=a0) (b:=b0) hf (by omega) (by omega)
    have e2:=zIM (fu:=fu) (s:=a0) hf (by omega)
    have e3:=zIM (fu:=fu) (s:=b0) hf (by omega)
    have e4:=zL0 (fu:=fu) (a:=tokL a0) (b:=tokL b0) hf (by omega) ma (by omega) mb
    have e5:=zLS (fu:=fu) (s:=a0) hf (by omega)
    have e6:=zLS (fu:=fu) (s:=b0) hf (by omega)
    have e7:=zL0 (fu:=fu) (a:=skL a0) (b:=skL b0) hf (by omega) na (by omega) nb
    have e8:=zKv (fu:=fu) (a:=a1) (b:=b1) hf (by omega) (by omega)
    have e9:=(hpp fu hf).2
    have e9':=(hqq fu hf).2
    have e10:=zNJ (fu:=fu) (a:=a3) (b:=b3) hf (by omega) (by omega)
    simp only [e1,e2,e3,e4,e5,e6,e7,e8,e9,e9',e10,zA6,zBN,Bool.not_true,Bool.or_self,cond_false,show (true&&(false==false))=true from rfl]
    unfold ftL yrS
    cases hpq:decide (0<p)&&decide (0<q)
    · rfl
    · rw [Bool.and_eq_true, decide_eq_true_eq, decide_eq_true_eq] at hpq
      rw [cond_true,(zP3 (by omega) (by omega)).2,zA6]
      rfl
end Go.Proofs.YtcodfkieaoomnaaGreatDoor
namespace Go.Proofs.YtcodfkieaoomnaaGreatDoor
open Go.RowKit
set_option linter.unusedVariables false
set_option linter.unusedSimpArgs false
def Sm {α:Type} (o:Option α) (P:α→Prop):Prop:=∃ r,o=some r∧P r
section
variable {α β:Type}
theorem Sm.some {r:α} {P:α→Prop} (h:P r):Sm (some r) P:=⟨r,rfl,h⟩
theorem Sm.cl [Inhabited α] {o:Option α} {P:α→Prop} {k:α→Option β} {Q:β→Prop} (h:Sm o P) (hk:∀ r,P r→Sm (k r) Q):Sm (cl true o k) Q:=by
  obtain ⟨r,rfl,hr⟩:=h
  rw [zA6]
  exact hk r hr
theorem Sm.ck {o:Option α} {P:α→Prop} {b:Bool} (hb:b=true) (h:Sm o P):Sm (ck b o) P:=by rw [ck_t hb];exact h
theorem Sm.bd {e:α} {k:α→Option β} {Q:β→Prop} (h:Sm (k e) Q):Sm (bd e k) Q:=h
theorem Sm.bif {x y:Option α} {P:α→Prop} {b:Bool} (h1:b=true→Sm x P) (h2:b=false→Sm y P):Sm (bif b then x else y) P:=by
  cases b
  · exact h2 rfl
  · exact h1 rfl
theorem Sm.mono {o:Option α} {P Q:α→Prop} (h:Sm o P) (hq:∀ r,P r→Q r):Sm o Q:=let ⟨r,e,hr⟩:=h;⟨r,e,hq r hr⟩
end
abbrev TCur:=List Int × Int × Int
def COK (c:TCur):Prop:=c.1.length≤1048576∧(∀ x ∈ c.1,0≤x∧x≤255)∧0≤c.2.1
theorem zJO {n:Int} (h0:-9223372036854775808≤n) (h1:n≤9223372036854775807):IntKind.i64.wrap n=n:=IntWalk.i64_in _ (by omega)
theorem zMQ (a:Int) {m:Nat} (hm:m≤4611686018427387904):0≤bitI (fun u v=>u &&& v) .i64 a (m:Int)∧bitI (fun u v=>u &&& v) .i64 a (m:Int)≤m:=by
  unfold bitI
  dsimp only
  have h:((BitVec.ofInt IntKind.i64.bits a) &&& (BitVec.ofInt IntKind.i64.bits (m:Int))).toNat≤m:=by
    rw [BitVec.toNat_and]
    refine Nat.le_trans Nat.and_le_right ?_
    rw [show (BitVec.ofInt IntKind.i64.bits (m:Int))=BitVec.ofNat IntKind.i64.bits m from BitVec.ofInt_natCast _ _,BitVec.toNat_ofNat]
    exact Nat.mod_le _ _
  rw [zJO (by omega) (by omega)]
  omega
theorem zKA {α:Type} [Inhabited α] {xs:List α} {i:Int} (h0:0≤i) (h1:i<xs.length):gtD xs i ∈ xs:=by
  obtain ⟨n,rfl⟩:∃ n:Nat,i=(n:Int):=⟨i.toNat,by omega⟩
  have hn:n<xs.length:=by omega
  rw [zBC (List.getElem?_eq_getElem hn)]
  exact List.getElem_mem hn
theorem zPo {fu:Nat} {b:List Int} (hf:1048577≤fu) (hb:b.length≤1048576) (hx:∀ x ∈ b,0≤x∧x≤255):Sm (zEg fu b) COK:=by
  unfold zEg
  refine .ck (zAl (by omega) (by omega)) ?_
  have key:∀ m i k (h:Int),i+m=b.length→m<k→0≤h→h≤1100000000→Sm (zCX fu b k h (i:Int)) fun _=>True:=by
    intro m
    induction m with
    | zero=>
      intro i k h hi hk h0 h1
      obtain ⟨k,rfl⟩:∃ q,k=q+1:=⟨k-1,by omega⟩
      obtain rfl:i=b.length:=by omega
      rw [zCX,lt_f]
      exact .some trivial
    | succ m ih=>
      intro i k h hi hk h0 h1
      obtain ⟨k,rfl⟩:∃ q,k=q+1:=⟨k-1,by omega⟩
      have hlt:i<b.length:=by omega
      have hm:=hx _ (zKA (xs:=b) (i:=(i:Int)) (by omega) (by omega))
      rw [zCX]
      refine .bd (.bif (fun _=>?_) fun _=>.some trivial)
      rw [zJO (n:=gtD b (i:Int)) (by omega) (by omega)]
      refine .ck (zAl (by omega) (by omega)) (.ck (zBF hlt) (.ck (zAl (by omega) (by omega)) (.ck (zAl (by omega) (by omega)) (.ck (zFs (by omega)) ?_))))
      have hq:=zMQ (h*131+gtD b (i:Int)+7) (m:=1073741823) (by omega)
      exact ih (i+1) k _ (by omega) (by omega) hq.1 (Int.le_trans hq.2 (by omega))
  refine .cl (key b.length 0 fu _ (by omega) (by omega) (by omega) (by omega)) fun s _=>.some ⟨hb,hx,Int.le_refl _⟩
theorem zJd {fu:Nat} {c:TCur} (hc:COK c):Sm (zCO fu c) fun r=>COK r.2∧0≤r.1∧r.1≤255:=by
  unfold zCO
  refine .ck rfl (.ck rfl (.bif (fun h=>?_) fun h=>?_))
  · rw [decide_eq_true_eq] at h
    replace h:c.2.1<(c.1.length:Int):=h
    have hi:=hc.2.2
    have hl:=hc.1
    refine .ck (zCe.2 ⟨hi,h⟩) (.some ⟨⟨hl,hc.2.1,?_⟩,zMQ _ (m:=255) (by omega)⟩)
    show 0≤IntKind.i64.wrap (c.2.1+1)
    rw [zJO (by omega) (by omega)]
    omega
  · exact .some ⟨⟨hc.1,hc.2.1,hc.2.2⟩,zMQ _ (m:=255) (by omega)⟩
theorem zMc {x n:Int} (h0:0≤x) (hn:0<n):0≤x.tmod n∧x.tmod n<n:=⟨Int.tmod_nonneg _ h0,Int.tmod_lt_of_pos _ hn⟩
theorem zGU {fu:Nat} {c:TCur} {n:Int} (hc:COK c):Sm (zBR fu c n) fun r=>COK r.2∧0≤r.1∧(0<n→r.1<n):=by
  unfold zBR
  refine .bif (fun h=>?_) fun h=>?_
  · rw [decide_eq_true_eq] at h
    exact .some ⟨hc,Int.le_refl _,fun h'=>by omega⟩
  · rw [decide_eq_false_iff_not] at h
    have hn:(n != 0)=true:=by simp;omega
    refine .bif (fun _=>?_) fun _=>?_
    · refine .cl (zJd hc) fun r hr => .ck hn (.some ?_)
      have:=zMc (n:=n) hr.2.1 (by omega)
      exact ⟨hr.1,this.1,fun _=>this.2⟩
    · refine .cl (zJd hc) fun r1 h1 => .cl (zJd h1.1) fun r2 h2 => .cl (zJd h2.1) fun r3 h3 => .cl (zJd h3.1) fun r4 h4 => ?_
      have a1:=h1.2;have a2:=h2.2;have a3:=h3.2;have a4:=h4.2
      refine .ck (zAl (by omega) (by omega)) (.ck (zAl (by omega) (by omega)) (.ck (zAl (by omega) (by omega)) (.ck (zAl (by omega) (by omega)) (.ck (zAl (by omega) (by omega)) (.ck (zAl (by omega) (by omega)) (.ck hn (.some ?_)))))))
      have:=zMc (x:=r1.1*16777216+r2.1*65536+r3.1*256+r4.1) (n:=n) (by omega) (by omega)
      exact ⟨h4.1,this.1,fun _=>this.2⟩
theorem zOA {fu:Nat} {c:TCur} {n:Int} (hc:COK c):Sm (zDW fu c n) fun r=>COK r.2:=by
  unfold zDW
  exact .cl (zGU hc) fun r hr=>.some hr.1
theorem zPD {fu:Nat} {c:TCur} {l:List (List UInt8)} (hc:COK c) (hl:0<l.length):Sm (zBX fu c l) fun r=>COK r.2∧r.1 ∈ l:=by
  unfold zBX
  refine .cl (zGU hc) fun r hr=>?_
  have h1:=hr.2.2 (by omega)
  exact .ck (zCe.2 ⟨hr.2.1,h1⟩) (.some ⟨hr.1,zKA hr.2.1 h1⟩)
theorem zKP {fu:Nat} {c:TCur} {l:List (List UInt8)} (m:Nat) (hc:COK c) (hl:0<l.length) (hm:∀ s ∈ l,s.length≤m):Sm (zBX fu c l) fun r=>COK r.2∧r.1.length≤m:=
  (zPD hc hl).mono fun r hr=>⟨hr.1,hm _ hr.2⟩
theorem zIF {fu:Nat} {c:TCur} {l:List Int} (hc:COK c) (hl:0<l.length):Sm (zCB fu c l) fun r=>COK r.2∧r.1 ∈ l:=by
  unfold zCB
  refine .cl (zGU hc) fun r hr=>?_
  have h1:=hr.2.2 (by omega)
  exact .ck (zCe.2 ⟨hr.2.1,h1⟩) (.some ⟨hr.1,zKA hr.2.1 h1⟩)
theorem lenS {l:List UInt8} (h:l.length≤4294967296):zC2 l.length=true:=zBg h
theorem zOK {fu:Nat} {c:TCur} (hc:COK c):Sm (zDc fu c) fun r=>COK r.2∧r.1.length≤40:=by
  unfold zDc
  refine .cl (zKP 10 hc (by decide) (by decide)) fun a ha=>.cl (zKP 10 ha.1 (by decide) (by decide)) fun b hb=>.cl (zGU hb.1) fun n hn=>?_
  have h1:=ha.2;have h2:=hb.2
  refine .bif (fun _=>?_) fun _=>.bif (fun _=>?_) fun _=>.bif (fun _=>?_) fun _=>?_
  · exact .ck (lenS (by simp;omega)) (.ck (lenS (by simp;omega)) (.some ⟨hn.1,by simp;omega⟩))
  · refine .ck (lenS (by simp; omega)) (.cl (zKP 10 hn.1 (by decide) (by decide)) fun p hp => ?_)
    have h3:=hp.2
    exact .ck (lenS (by simp;omega)) (.ck (lenS (by simp;omega)) (.ck (lenS (by simp;omega)) (.some ⟨hp.1,by simp;omega⟩)))
  · exact .some ⟨hn.1,by show a.1.length≤40;omega⟩
  · exact .ck (lenS (by simp;omega)) (.ck (lenS (by simp;omega)) (.some ⟨hn.1,by simp;omega⟩))
end Go.Proofs.YtcodfkieaoomnaaGreatDoor
namespace Go.Proofs.YtcodfkieaoomnaaGreatDoor
open Go.RowKit
set_option linter.unusedVariables false
set_option linter.unusedSimpArgs false
theorem zPB (a b:List UInt8):∀ n i j,i+j≤n→lv a b i j=lv b a j i:=by
  intro n
  induction n with
  | zero=>
    intro i j h
    obtain rfl:i=0:=by omega
    obtain rfl:j=0:=by omega
    rw [lv_0,lv_0]
  | succ n ih=>
    intro i j h
    cases i with
    | zero=>rw [lv_0,zOs]
    | succ i=>
      cases j with
      | zero=>rw [zJu,lv_0]
      | succ j=>
        rw [zKh,zKh,ih i (j+1) (by omega),ih (i+1) j (by omega),ih i j (by omega),show (bAt a (i:Int)==bAt b (j:Int))=(bAt b (j:Int)==bAt a (i:Int)) from Bool.beq_comm,min_comm' (lv b a (j+1) i+1)]
where
  min_comm' (x:Int) {y:Int}:min x y=min y x:=by omega
theorem zMA (a b:List UInt8):zFl a b=zFl b a:=by
  unfold zFl
  rw [zPB a b _ _ _ (Nat.le_refl _),Bool.and_comm]
theorem zOi (a b:List UInt8):edS a b=edS b a:=by
  unfold edS
  rw [zMA a b,show max (a.length:Int) (b.length:Int)=max (b.length:Int) (a.length:Int) by omega]
theorem zMm (a b:List UInt8):txS a b=txS b a:=by
  unfold txS
  rw [zOi,Bool.or_comm]
theorem zJl {a b:List (List UInt8)} (sa:zBc bLt a) (sb:zBc bLt b):zE5 a b=zE5 b a:=
  zEX zD8 (sa.sublist List.filter_sublist) (sb.sublist List.filter_sublist) fun x=>by
    unfold zE5
    rw [List.mem_filter,List.mem_filter,zKM,zKM]
    exact And.comm
theorem zNN (a b:List (List UInt8)):jacS a b=jacS b a:=by
  unfold jacS
  rw [Bool.and_comm]
  cases h:tokB b&&tokB a
  · rfl
  · rw [Bool.and_eq_true] at h
    rw [zJl (zDV h.2) (zDV h.1),show (a.length:Int)+b.length=(b.length:Int)+a.length by omega]
theorem zMs (a b:List (List UInt8)):seS a b=seS b a:=by
  unfold seS
  rw [zNN,Bool.or_comm]
theorem zOx (p q:Int):yrS p q=yrS q p:=by
  unfold yrS
  rw [Bool.and_comm,show max (p-q) (q-p)=max (q-p) (p-q) by omega]
theorem zOb (x y:List UInt8):phS x y=phS y x:=by
  unfold phS
  rw [show csL x y=csL y x from zI0 _ _,show (x==y)=(y==x) from Bool.beq_comm,Bool.or_comm (decide (x.length<4))]
  generalize decide (7≤csL y x)=s
  generalize decide (csL y x=x.length)=p
  generalize decide (csL y x=y.length)=q
  cases s <;> cases p <;> cases q <;> rfl
theorem zOj (a0 a1 a3:List UInt8) (p:Int) (b0 b1 b3:List UInt8) (q:Int):ftL a0 a1 a3 p b0 b1 b3 q=ftL b0 b1 b3 q a0 a1 a3 p:=by
  unfold ftL
  rw [zMm a0,zMs (tokL a0),zMs (skL a0),zMm a1,zOx p,zOb (dgL a3)]
theorem zPj (a b:List UInt8):∀ i j,lv a b i j≤max (i:Int) j:=by
  intro i
  induction i with
  | zero=>intro j;rw [lv_0];omega
  | succ i ih=>
    intro j
    cases j with
    | zero=>rw [zJu];omega
    | succ j=>
      have:=ih j
      rw [zKh]
      cases bAt a (i:Int)==bAt b (j:Int)
      · rw [cond_false];omega
      · rw [cond_true];omega
theorem zJ7 {x m:Int} (h0:0≤x) (h1:x≤m) (hm:0<m):0≤(1000*x).tdiv m∧(1000*x).tdiv m≤1000:=by
  rw [Int.tdiv_eq_ediv_of_nonneg (by omega)]
  exact ⟨Int.ediv_nonneg (by omega) (by omega),Int.ediv_le_of_le_mul hm (by omega)⟩
def In1 (x:Int):Prop:=0≤x∧x≤1000
theorem zLW:In1 0:=⟨by omega,by omega⟩
theorem zJJ:In1 1000:=⟨by omega,by omega⟩
theorem zMn (a b:List UInt8):zFl a b≤max (a.length:Int) b.length:=by
  unfold zFl
  cases decide (a.length≤40)&&decide (b.length≤40)
  · rw [cond_false];omega
  · exact zPj a b _ _
theorem zPU (a b:List UInt8):In1 (edS a b):=by
  have h:=zMn a b
  unfold edS
  cases hd:decide (zFl a b<0)
  · rw [cond_false]
    rw [decide_eq_false_iff_not] at hd
    have hm:(0:Int)≤max (a.length:Int) (b.length:Int):=by omega
    generalize max (a.length:Int) (b.length:Int)=m at h hm ⊢
    cases h0:m==(0:Int)
    · have : m ≠ 0 := by simpa using h0
      exact zJ7 (by omega) (by omega) (by omega)
    · exact zJJ
  · exact zLW
theorem zON (a b:List UInt8):In1 (txS a b):=by
  unfold txS
  cases (nrmL a == []) || (nrmL b == [])
  · exact zPU _ _
  · exact zLW
theorem zOr (a b:List (List UInt8)):In1 (jacS a b):=by
  unfold jacS
  cases h:tokB a&&tokB b
  · exact zLW
  · rw [Bool.and_eq_true] at h
    have h1:=zH9 a b
    have h2:=zH9 b a
    rw [← zJl (zDV h.1) (zDV h.2)] at h2
    rw [Bool.not_true,cond_false]
    generalize (zE5 a b).length=c at h1 h2 ⊢
    cases h0:((a.length:Int)+b.length-(c:Int))==(0:Int)
    · have : ((a.length : Int) + b.length - (c : Int)) ≠ 0 := by simpa using h0
      exact zJ7 (by omega) (by omega) (by omega)
    · exact zJJ
theorem zOH (a b:List (List UInt8)):In1 (seS a b):=by
  unfold seS
  cases ((a.length:Int)==(0:Int)) || ((b.length:Int)==(0:Int))
  · exact zOr a b
  · exact zLW
theorem zPk (p q:Int):In1 (yrS p q):=by
  unfold yrS
  cases decide (0<p)&&decide (0<q)
  · exact zLW
  · exact zJ7 (by omega) (by omega) (by omega)
theorem zPg (x y:List UInt8):In1 (phS x y):=by
  unfold phS
  cases (decide (x.length<4) || decide (y.length<4)) || decide (csL x y<4)
  · cases x == y
    · cases (decide (7 ≤ csL x y) || decide (csL x y = x.length)) || decide (csL x y = y.length)
      · exact ⟨by decide,by decide⟩
      · exact ⟨by decide,by decide⟩
    · exact zJJ
  · exact zLW
theorem zKO {fu:Nat} {l:List Int} {F:Int→Option Bool} {p:Int→Bool} (hF:∀ x ∈ l,F x=some (p x)) (hf:l.length<fu) (hl:l.length≤1048576) (hp:l.any p=false):zBE fu l F=some false:=by
  unfold zBE zBo
  have h:=zN1 (xs:=l) (p:=p) (L:=zAi fu l F) (fun k i y hy=>by
    have hi:=zDn hy
    rw [zAi,lt_t hi,cond_true,ck_t (zBF hi),zBC hy,hF y (zGB hy),zA6,zBe,ck_t (zCU (by omega))]) (fun k=>by rw [zAi,lt_f];rfl) hf
  rw [h,zA6]
  cases hi:ixI 0 (l.map p) with
  | none=>rfl
  | some j=>
    exfalso
    obtain ⟨_,h2,_⟩:=zJ5 hi
    rw [Nat.sub_zero,List.getElem?_map] at h2
    obtain ⟨y,hy,e⟩:=Option.map_eq_some_iff.1 h2
    rw [List.any_eq_false] at hp
    exact hp y (List.mem_of_getElem? hy) e
theorem zPP {fu:Nat} {a b c d e f:Int} (hf:1048577≤fu) (ha:In1 a) (hb:In1 b) (hc:In1 c) (hd:In1 d) (he:In1 e) (hg:In1 f):zBp fu [a,b,c,d,e,f]=some true:=by
  have key:∀ x ∈ [a,b,c,d,e,f],inI x 0 1000=true:=by
    intro x hx
    have:In1 x:=by
      simp only [List.mem_cons,List.not_mem_nil,or_false] at hx
      rcases hx with rfl | rfl | rfl | rfl | rfl | rfl <;> assumption
    unfold inI
    rw [decide_eq_true this.1,decide_eq_true this.2]
    rfl
  unfold zBp
  rw [zKO (p:=fun x=>!(inI x 0 1000)) (fun x _=>by
    unfold zC8
    rw [zEr]
    rfl) (by simp;omega) (by simp) (by
    rw [List.any_eq_false]
    intro x hx
    rw [key x hx]
    decide)]
  rfl
theorem zOv (a:List UInt8):∀ i,lv a a i i=0:=by
  intro i
  induction i with
  | zero=>rw [lv_0];rfl
  | succ i ih=>rw [zPd a a i i (beq_self_eq_true _),ih]
theorem zO3 {a:List UInt8} (h:a.length≤40) (h0:a ≠ []):edS a a=1000:=by
  have hl:0<a.length:=List.length_pos_iff.2 h0
  unfold edS zFl
  rw [decide_eq_true h,Bool.and_self,cond_true,zOv,show decide ((0:Int)<0)=false from rfl,cond_false,show max (a.length:Int) (a.length:Int)=(a.length:Int) by omega,show (((a.length:Nat):Int)==(0:Int))=false by rw [beq_eq_false_iff_ne];omega,cond_false,Int.sub_zero]
  exact Int.mul_tdiv_cancel _ (by omega)
theorem zOt (s:List UInt8):∀ (o:List UInt8 × Bool) (n:Nat),o.1.length+(bif o.2 then 1 else 0)≤n→(s.foldl coS o).1.length+(bif (s.foldl coS o).2 then 1 else 0)≤n+s.length:=by
  induction s with
  | nil=>intro o n h;simpa using h
  | cons c s ih=>
    intro o n h
    rw [List.foldl_cons,List.length_cons]
    have h2:(coS o c).1.length+(bif (coS o c).2 then 1 else 0)≤n+1:=by
      cases hc:c==32
      · rw [zJe hc]
        have:(coT o).length≤n:=by
          unfold coT
          cases ho:o.2
          · rw [ho] at h
            rw [Bool.and_false,cond_false]
            simp at h;omega
          · rw [ho] at h
            rw [Bool.and_true]
            cases !o.1.isEmpty
            · rw [cond_false];simp at h;omega
            · rw [cond_true,List.length_append,List.length_singleton];simpa using h
        show (coT o ++ [c]).length+0≤n+1
        rw [List.length_append,List.length_singleton];omega
      · rw [zK3 hc]
        show o.1.length+1≤n+1
        omega
    have:=ih _ _ h2
    omega
theorem zN7 (s:List UInt8):(nrmL s).length≤s.length:=by
  have h1:=zHz (s.map fld)
  have h2:=zOt (strL (s.map fld)) ([],false) 0 (Nat.le_refl _)
  rw [List.length_map] at h1
  unfold nrmL colL
  omega
theorem zNt {a:List UInt8} (h:a.length≤40) (h0:nrmL a ≠ []):txS a a=1000:=by
  have:=zN7 a
  unfold txS
  rw [show (nrmL a == [])=false by simpa using h0,Bool.or_self,cond_false,zO3 (by omega) h0]
def smdg (c:UInt8):Bool:=smI c.toNat || dgI c.toNat
theorem zOP {P : UInt8 → Prop} (h32 : P 32) : ∀ (s : List UInt8) (o : List UInt8 × Bool), (∀ c ∈ s, P c) → (∀ c ∈ o.1, P c) → ∀ c ∈ (s.foldl coS o).1, P c
  | [],o,_,ho=>ho
  | b::s,o,hs,ho=>by
    rw [List.foldl_cons]
    refine zOP h32 s _ (fun c hc=>hs c (List.mem_cons_of_mem _ hc)) ?_
    cases h:b==32
    · rw [zJe h]
      intro c hc
      rcases List.mem_append.1 hc with hc | hc
      · unfold coT at hc
        cases hb:(!o.1.isEmpty&&o.2)
        · rw [hb] at hc;exact ho c hc
        · rw [hb] at hc
          rcases List.mem_append.1 hc with hc | hc
          · exact ho c hc
          · rw [List.mem_singleton.1 hc];exact h32
      · rw [List.mem_singleton.1 hc];exact hs b List.mem_cons_self
    · rw [zK3 h]
      exact ho
theorem zPC (c:UInt8):(smdg (mkC (fld c)) || mkC (fld c)==32)=true:=by
  revert c
  refine zK8 ?_
  decide +kernel
theorem zOa (s:List UInt8):∀ c ∈ nrmL s,(smdg c || c==32)=true:=by
  refine zOP (P:=fun c=>(smdg c || c==32)=true) rfl _ _ (fun c hc=>?_) fun c h=>by cases h
  unfold strL at hc
  obtain ⟨b,hb,rfl⟩:=List.mem_map.1 hc
  obtain ⟨d,_,rfl⟩:=List.mem_map.1 (List.mem_filter.1 hb).1
  exact zPC d
theorem zP7 {s t:List UInt8} (h:t ∈ tokL s):tokX t=false:=by
  have h0:=(zHO h).1
  unfold tokL at h
  rw [zFo] at h
  unfold neL at h
  obtain ⟨h1,_⟩:=List.mem_filter.1 h
  unfold tokX
  rw [show (t == [])=false by simpa using h0,Bool.false_or,List.any_eq_false]
  intro b hb
  obtain ⟨h3,h4⟩:=zIq 32 _ t h1 b hb
  have:=zOa s b h3
  rw [show (b==32)=false from beq_eq_false_iff_ne.2 h4,Bool.or_false] at this
  unfold smdg at this
  unfold naC
  revert this
  cases smI b.toNat <;> cases dgI b.toNat <;> decide
theorem zPQ {l:List (List UInt8)} (hx:∀ t ∈ l,tokX t=false):∀ p,zBc bLt (p::l)→adjB (fun p x=>tokX x || !(bLt p x)) p l=false:=by
  induction l with
  | nil=>intro p _;rfl
  | cons t l ih=>
    intro p h
    rw [adjB,hx t List.mem_cons_self,(List.pairwise_cons.1 h).1 t List.mem_cons_self,ih (fun u hu=>hx u (List.mem_cons_of_mem _ hu)) t (List.pairwise_cons.1 h).2]
    rfl
theorem zOq {l:List (List UInt8)} (hx:∀ t ∈ l,tokX t=false) (h:zBc bLt l):tokB l=true:=by
  unfold tokB
  cases l with
  | nil=>rfl
  | cons t l=>
    rw [zIe,hx t List.mem_cons_self,zPQ (fun u hu=>hx u (List.mem_cons_of_mem _ hu)) t h]
    rfl
theorem zKG (c : UInt8) : ∀ (s : List UInt8) (b : UInt8), b ∈ s → b ≠ c → ∃ x ∈ spC c s, b ∈ x
  | [],b,h,_=>by cases h
  | a::s,b,h,hb=>by
    unfold spC
    by_cases hac:a=c
    · rw [if_pos hac]
      rcases List.mem_cons.1 h with rfl | h
      · exact absurd hac hb
      · obtain ⟨x, h1, h2⟩ := zKG c s b h hb
        exact ⟨x,List.mem_cons_of_mem _ h1,h2⟩
    · rw [if_neg hac]
      cases hs:spC c s with
      | nil=>exact absurd hs (zK0 c s)
      | cons y ys=>
        rcases List.mem_cons.1 h with rfl | h
        · exact ⟨_,List.mem_cons_self,List.mem_cons_self⟩
        · obtain ⟨x, h1, h2⟩ := zKG c s b h hb
          rw [hs] at h1
          rcases List.mem_cons.1 h1 with rfl | h1
          · exact ⟨_,List.mem_cons_self,List.mem_cons_of_mem _ h2⟩
          · exact ⟨x,List.mem_cons_of_mem _ h1,h2⟩
theorem zOh {s:List UInt8} (h:nrmL s ≠ []):tokL s ≠ []:=by
  have hl:=zKm (strL (s.map fld)) _ (Nat.le_refl _)
  rw [zGc] at hl
  rcases hl with h0 | ⟨l,d,h0,hd⟩
  · exact absurd h0 h
  · have hd' : d ≠ 32 := by simpa using hd
    have hm:d ∈ nrmL s:=by
      show d ∈ ((strL (s.map fld)).foldl coS ([],false)).1
      rw [h0]
      simp
    obtain ⟨x,h1,h2⟩:=zKG 32 (nrmL s) d hm hd'
    have h3:x ∈ neL (spC 32 (nrmL s)):=List.mem_filter.2 ⟨h1,by cases x with | nil=>cases h2 | cons _ _=>rfl⟩
    have h4:x ∈ tokL s:=zFo.2 h3
    intro e
    rw [e] at h4
    cases h4
theorem zNC {s:List UInt8} (h:nrmL s ≠ []):seS (tokL s) (tokL s)=1000:=by
  have h0:=zOh h
  have hs:zBc bLt (tokL s):=zFn _
  have hb:=zOq (fun t ht=>zP7 ht) hs
  have hi:zE5 (tokL s) (tokL s)=tokL s:=by
    unfold zE5
    rw [List.filter_eq_self]
    intro x hx
    exact zKM.2 hx
  have hl:0<(tokL s).length:=List.length_pos_iff.2 h0
  unfold seS jacS
  rw [hb,hi]
  generalize (tokL s).length=n at hl ⊢
  rw [show ((n:Int)==(0:Int))=false by rw [beq_eq_false_iff_ne];omega,Bool.or_self,cond_false,Bool.and_self,Bool.not_true,cond_false,show (n:Int)+n-n=(n:Int) by omega,show ((n:Int)==(0:Int))=false by rw [beq_eq_false_iff_ne];omega,cond_false]
  exact Int.mul_tdiv_cancel _ (by omega)
def RecS (r:RecT):Prop:=r.2.2.2.length≤4∧∀ s ∈ r.2.2.2,s.length≤40
theorem RecS.ok {r:RecT} (h:RecS r):zKn r:=⟨by have:=h.1;omega,fun s hs=>by have:=h.2 s hs;omega⟩
theorem zOT {fu:Nat} {c:TCur} (hc:COK c):Sm (zDj fu c) fun r=>COK r.2∧r.1.length≤40:=by
  unfold zDj
  exact .cl (zKP 40 hc (by decide) (by decide)) fun a ha=>.some ha
theorem zMI {fu:Nat} {c:TCur} (hc:COK c):Sm (zDR fu c) fun r=>COK r.2∧r.1.length=4∧∀ s ∈ r.1,s.length≤40:=by
  unfold zDR
  refine .cl (zOK hc) fun a ha=>.cl (zKP 40 ha.1 (by decide) (by decide)) fun b hb=>.cl (zKP 40 hb.1 (by decide) (by decide)) fun d hd=>.cl (zOT hd.1) fun e he=>.some ⟨he.1,rfl,fun s hs=>?_⟩
  simp only [List.mem_cons,List.not_mem_nil,or_false] at hs
  rcases hs with rfl | rfl | rfl | rfl
  · exact ha.2
  · exact hb.2
  · exact hd.2
  · exact he.2
theorem zNU {fu:Nat} {c:TCur} (hc:COK c):Sm (zDO fu c) fun r=>COK r.2∧r.1.2.2.2.length=4∧∀ s ∈ r.1.2.2.2,s.length≤40:=by
  unfold zDO
  refine .cl (zGU hc) fun a ha=>.cl (zGU ha.1) fun b hb=>?_
  have b1:=hb.2.1;have b2:=hb.2.2 (by omega)
  refine .ck (zAl (by omega) (by omega)) (.cl (zGU hb.1) fun d hd=>?_)
  have d1:=hd.2.1;have d2:=hd.2.2 (by omega)
  exact .ck (zAl (by omega) (by omega)) (.cl (zMI hd.1) fun e he=>.some he)
theorem zL9 {fu:Nat} {c:TCur} (hc:COK c):Sm (zE6 fu c) fun r=>COK r.2∧RecS r.1:=by
  unfold zE6
  refine .cl (zNU hc) fun a ha=>?_
  obtain ⟨a1,a2,a3⟩:=ha
  have ra:RecS a.1:=⟨by omega,a3⟩
  refine .cl (zGU a1) fun b hb=>.bif (fun _=>?_) fun _=>.bif (fun _=>?_) fun _=>.bif (fun _=>?_) fun _=>.bif (fun _=>?_) fun _=>.bif (fun _=>?_) fun _=>?_
  · exact .cl (zIF hb.1 (by decide)) fun d hd=>.some ⟨hd.1,ra⟩
  · exact .cl (zIF hb.1 (by decide)) fun d hd=>.some ⟨hd.1,ra⟩
  · exact .cl (zIF hb.1 (by decide)) fun d hd=>.some ⟨hd.1,ra⟩
  · refine .ck (zBj.2 ⟨by omega, by omega, Int.le_refl _⟩) (.some ⟨hb.1, ?_, fun s hs => a3 s ?_⟩)
    · show (subL a.1.2.2.2 1 (a.1.2.2.2.length : Int)).length ≤ 4
      rw [show ((1:Int))=((1:Nat):Int) from rfl,zGT,List.length_drop]
      omega
    · have hs : s ∈ subL a.1.2.2.2 1 (a.1.2.2.2.length : Int) := hs
      rw [show ((1:Int))=((1:Nat):Int) from rfl,zGT] at hs
      exact List.mem_of_mem_drop hs
  · refine .cl (zKP 40 hb.1 (by decide) (by decide)) fun d hd => .ck (zCe.2 ⟨Int.le_refl _, by omega⟩) (.some ⟨hd.1, ?_, fun s hs => ?_⟩)
    · show (a.1.2.2.2.set _ _).length ≤ 4
      rw [List.length_set]
      omega
    · have hs : s ∈ a.1.2.2.2.set _ d.1 := hs
      rcases List.mem_or_eq_of_mem_set hs with hs | rfl
      · exact a3 s hs
      · exact hd.2
  · exact .some ⟨hb.1,ra⟩
theorem zNo {fu:Nat} {c:TCur} (hc:COK c):Sm (zEd fu c) fun r=>RecS r.1∧RecS r.2.1:=by
  unfold zEd
  refine .cl (zL9 hc) fun a ha=>.cl (zOA ha.1) fun b hb=>.bif (fun _=>?_) fun _=>?_
  · have h1 := ha.2.1
    have hcp:Sm (zEJ fu a.1) fun r=>r=a.1:=by
      unfold zEJ
      exact .ck (zBg (by simp;omega)) (.some rfl)
    refine .cl hcp fun d hd=>.cl (zOA hb) fun e he=>?_
    subst hd
    refine .bd (.bif (fun h=>?_) fun _=>.some ⟨ha.2,ha.2⟩)
    rw [Bool.and_eq_true,decide_eq_true_eq] at h
    refine .cl (zOK he) fun g hg=>.ck (zCe.2 ⟨Int.le_refl _,by omega⟩) (.some ⟨ha.2,?_,fun s hs=>?_⟩)
    · show (a.1.2.2.2.set _ _).length ≤ 4
      rw [List.length_set]
      omega
    · have hs : s ∈ a.1.2.2.2.set _ g.1 := hs
      rcases List.mem_or_eq_of_mem_set hs with hs | rfl
      · exact ha.2.2 s hs
      · exact hg.2
  · exact .cl (zL9 hb) fun d hd=>.some ⟨ha.2,hd.2⟩
theorem zOk {fu:Nat} {b:List Int} (hf:1048577≤fu) (hb:b.length≤1048576) (hx:∀ x ∈ b,0≤x∧x≤255):Sm (zBi fu b) fun r=>RecS r.1∧RecS r.2:=by
  unfold zBi
  exact .cl (zPo hf hb hx) fun c hc=>.cl (zNo hc) fun r hr=>.some hr
theorem zLL (fu:Nat) (l:List Int) (hf:l.length<fu) (hl:l.length≤1048576):zCv fu l l=some true:=by
  unfold zCv
  have h:=zFI (xs:=l) (p:=fun _=>false) (r:=false) (L:=zBf fu l l) (fun k i x hx=>by
    have hi:=zDn hx
    rw [zBf,lt_t hi,cond_true,ck_t (zBF hi),ck_t (zBF hi),bne_self_eq_false,cond_false,zBe,ck_t (zCU (by omega))]
    rfl) (fun k=>by rw [zBf,lt_f];rfl) hf
  rw [bne_self_eq_false,cond_false,h,zA6,show (l.any fun _=>false)=false by simp]
  rfl
theorem zPY {fu:Nat} {r s:RecT} (hf:1048577≤fu) (hr:zKn r) (hs:zKn s) (h:(recB r&&recB s)=false):zAv fu r s=some []∧zBM fu r s=some []:=by
  constructor
  · unfold zAv
    rw [zHG hf hr,zA6,zHG hf hs]
    revert h
    cases recB r <;> cases recB s <;> intro h <;> first | rfl | cases h
  · unfold zBM
    rw [zFS hf hr,zA6,zFS hf hs]
    revert h
    cases recB r <;> cases recB s <;> intro h <;> first | rfl | cases h
theorem zIj {fu:Nat} {b:List Int} (hf:1048577≤fu) (hx:∀ x ∈ b,0≤x∧x≤255):zDe fu b=some true:=by
  unfold zDe zGW
  rw [zA6]
  cases hl:decide ((1048576:Int)<(b.length:Int))
  · rw [decide_eq_false_iff_not] at hl
    have hb:b.length≤1048576:=by omega
    rw [cond_false]
    obtain ⟨d,hd,d1,d2⟩:=zOk hf hb hx
    have k1:=d1.ok
    have k2:=d2.ok
    rw [hd,zA6]
    cases hv:recB d.1&&recB d.2
    · obtain ⟨e1, e2⟩ := zPY hf k1 k2 hv
      have e3:=(zPY hf k2 k1 (by rw [Bool.and_comm];exact hv)).1
      rw [e1,zA6,e2,zA6,zLL fu [] (by simp;omega) (by simp),zA6,show (true&&((!true)==false))=true from rfl,e3,zA6,zLL fu [] (by simp;omega) (by simp),zA6,zBN,zFS hf k1,zFS hf k2]
      revert hv
      cases recB d.1 <;> cases recB d.2 <;> intro hv <;> first | rfl | cases hv
    · rw [Bool.and_eq_true] at hv
      obtain ⟨a0,a1,a2,a3,b0,b1,b2,b3,p,q,ea,eb,ha,hb4,hp,hq,yp,yq,h⟩:=pf_t k1 k2 hv.1 hv.2
      obtain ⟨e1,e2⟩:=h fu hf
      obtain ⟨a0',a1',a2',a3',b0',b1',b2',b3',p',q',ea',eb',_,_,_,_,yp',yq',h'⟩:=pf_t k2 k1 hv.2 hv.1
      have e3:=(h' fu hf).1
      obtain ⟨a0'',a1'',a2'',a3'',b0'',b1'',b2'',b3'',p'',q'',ea'',eb'',_,_,_,_,yp'',yq'',h''⟩:=pf_t k1 k1 hv.1 hv.1
      have e4:=(h'' fu hf).1
      rw [eb] at ea'
      rw [ea] at eb' ea'' eb''
      simp only [List.cons.injEq,and_true] at ea' eb' ea'' eb''
      obtain ⟨rfl,rfl,rfl,rfl⟩:=ea'
      obtain ⟨rfl,rfl,rfl,rfl⟩:=eb'
      obtain ⟨rfl,rfl,rfl,rfl⟩:=ea''
      obtain ⟨rfl,rfl,rfl,rfl⟩:=eb''
      obtain rfl:=(yp'.one yq).symm
      obtain rfl:=(yq'.one yp).symm
      obtain rfl:=(yp''.one yp).symm
      obtain rfl:=(yq''.one yp).symm
      rw [zOj] at e3
      obtain ⟨z,hz,yz,hzz⟩:=zMC (s:=a2) (by omega)
      obtain rfl:=(yz.one yp).symm
      have e5:=(hzz fu hf).2
      have e6:zBY fu a0=some (nrmL a0):=zGZ (by omega) (by omega)
      have hlen:(ftL a0 a1 a3 p b0 b1 b3 q).length=6:=rfl
      have i0:inR (0:Int) d.1.2.2.2.length=true:=by rw [ea];rfl
      have i2:inR (2:Int) d.1.2.2.2.length=true:=by rw [ea];rfl
      have g0:gtD d.1.2.2.2 (0:Int)=a0:=by rw [ea];rfl
      have g2:gtD d.1.2.2.2 (2:Int)=a2:=by rw [ea];rfl
      rw [e1,zA6,e2,zA6,zLL fu _ (by rw [hlen];omega) (by rw [hlen];omega),zA6,show (true&&((!true)==false))=true from rfl,e3,zA6,zLL fu _ (by rw [hlen];omega) (by rw [hlen];omega),zA6,zBN,Bool.not_true,Bool.or_self,cond_false,hlen,show (((6:Nat):Int)==(0:Int))=false from rfl,cond_false,e4,zA6,ck_t i0,g0,e6,zA6]
      have h0:∀ x y z w u v:Int,inR (0:Int) ([x,y,z,w,u,v]:List Int).length=true:=fun _ _ _ _ _ _=>rfl
      have h1:∀ x y z w u v:Int,inR (1:Int) ([x,y,z,w,u,v]:List Int).length=true:=fun _ _ _ _ _ _=>rfl
      have h4:∀ x y z w u v:Int,inR (4:Int) ([x,y,z,w,u,v]:List Int).length=true:=fun _ _ _ _ _ _=>rfl
      have c1:(!(nrmL a0==([]:List UInt8))&&((gtD (ftL a0 a1 a3 p a0 a1 a3 p) (0:Int) != (1000:Int)) || (gtD (ftL a0 a1 a3 p a0 a1 a3 p) (1:Int) != (1000:Int))))=false:=by
        by_cases hn:nrmL a0 = []
        · rw [hn];rfl
        · rw [show gtD (ftL a0 a1 a3 p a0 a1 a3 p) (0 : Int) = txS a0 a0 from rfl, show gtD (ftL a0 a1 a3 p a0 a1 a3 p) (1 : Int) = seS (tokL a0) (tokL a0) from rfl, zNt (by omega) hn, zNC hn]
          simp
      have c2:(decide ((0:Int)<p)&&(gtD (ftL a0 a1 a3 p a0 a1 a3 p) (4:Int) != (1000:Int)))=false:=by
        by_cases hn:0<p
        · rw [show gtD (ftL a0 a1 a3 p a0 a1 a3 p) (4 : Int) = yrS p p from rfl]
          unfold yrS
          rw [decide_eq_true hn,Bool.and_self,cond_true,Int.sub_self]
          rfl
        · rw [decide_eq_false hn];rfl
      have l6:(ftL a0 a1 a3 p a0 a1 a3 p).length=6:=rfl
      rw [l6,show inR (0:Int) 6=true from rfl,show inR (1:Int) 6=true from rfl,show inR (4:Int) 6=true from rfl,Bool.or_true,Bool.or_true,zCK,zCK,zBN,zBN,c1,cond_false,ck_t i2,g2,e5,zA6,Bool.or_true,zCK,zBN,c2,cond_false]
      unfold ftL
      rw [zPP hf (zON _ _) (zOH _ _) (zOH _ _) (zON _ _) (zPk _ _) (zPg _ _),zA6]
  · rw [cond_true]
end Go.Proofs.YtcodfkieaoomnaaGreatDoor
