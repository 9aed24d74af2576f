/- Own texts laid together. No statement of the seat is proved here. -/
import Derived.Test.YtldppodfhabkjaaGreatDoorZf7
namespace Go.Proofs.YtldppodfhabkjaaGreatDoor
open Go.RowKit
set_option linter.unusedVariables false
set_option linter.unusedSimpArgs false
theorem zHJ {α β : Type} {xs : List α} {f : α -> β} {a0 : List β} {L : Nat -> Int -> List β -> Option (List β)}
    (hs:∀ k (i:Nat) a x,xs[i]? = some x->a.length=a0.length+i->L (k+1) (i:Int) a=L k ((i+1:Nat):Int) (a ++ [f x])) (he:∀ k a,L (k+1) (xs.length:Int) a=some a) {fu:Nat} (hf:xs.length<fu) :
    L fu (0:Int) a0=some (a0++xs.map f):=by
  have h:=zCz (xs:=xs) (g:=fun (a:List β) x=>a ++ [f x]) (Inv:=fun i a=>a.length=a0.length+i) (L:=L) hs (fun i a x hx ha=>by rw [List.length_append,List.length_singleton];omega) (fun k a _=>he k a) (a:=a0) rfl hf
  rw [h.1]
  congr 1
  have key:∀ (xs:List α) (a:List β),xs.foldl (fun (a:List β) x=>a ++ [f x]) a=a++xs.map f:=by
    intro xs
    induction xs with
    | nil=>intro a;simp
    | cons x xs ih=>intro a;rw [List.foldl_cons,ih];simp
  exact key xs a0
theorem zJ3 {α : Type} {xs : List α} {f : α -> List UInt8} {a0 : List (List UInt8)} {L : Nat -> Int -> List (List UInt8) -> Option (List (List UInt8))}
    (hs:∀ k (i:Nat) a x,xs[i]? = some x->a.length<=a0.length+i->L (k+1) (i:Int) a=L k ((i+1:Nat):Int) (putS bLt a (f x))) (he:∀ k a,L (k+1) (xs.length:Int) a=some a) {fu:Nat} (hf:xs.length<fu) :
    L fu (0:Int) a0=some ((xs.map f).foldl (putS bLt) a0)/\((xs.map f).foldl (putS bLt) a0).length<=a0.length+xs.length:=by
  have h:=zCz (xs:=xs) (g:=fun (a:List (List UInt8)) x=>putS bLt a (f x)) (Inv:=fun i a=>a.length<=a0.length+i) (L:=L) hs (fun i a x hx ha=>by
    show (putS bLt a (f x)).length<=a0.length+(i+1)
    unfold putS putW
    cases (a[plc bLt (f x) a]? == some (f x))
    . rw [cond_false,zEO];omega
    . rw [cond_true];omega) (fun k a _=>he k a) (a:=a0) (Nat.le_refl _) hf
  rw [List.foldl_map]
  exact h
def k1L (n:List UInt8):List (List UInt8):=(skL n).map ([115] ++ ·)
def k2L (d:List UInt8):List (List UInt8):=bif decide (4<=(dgL d).length) then [[112]++(dgL d).drop ((dgL d).length-4)] else []
def k3L (n:List UInt8) (y:Int):List (List UInt8):=bif decide (0<y) then (tokL n).map (fun t=>([121]++Lib.itoa y)++t.take 1) else []
def bkL (n d:List UInt8) (y:Int):List (List UInt8):=setL ((k1L n++k2L d)++k3L n y)
theorem zK4 {t:List UInt8}:subL t 0 (1:Int)=t.take 1:=by
  rw [show ((1:Int))=((1:Nat):Int) from rfl,zFp]
theorem dec4 {n:Nat}:decide ((4:Int)<=(n:Int))=decide (4<=n):=by
  by_cases h:4<=n
  . rw [decide_eq_true h,decide_eq_true (by omega)]
  . rw [decide_eq_false h,decide_eq_false (by omega)]
theorem sub4 {l:List UInt8} (h:4<=l.length):subL l ((l.length:Int)-4) (l.length:Int)=l.drop (l.length-4):=by
  rw [show ((l.length:Int)-4)=((l.length-4:Nat):Int) by omega,zFo]
theorem zLi {y:Int} (h:y=0\/(1000<=y/\y<=9999)):(Lib.itoa y).length<=21:=zOs (by omega) (by omega)
theorem zK9 {n t:List UInt8} (hn:n.length<=40) (h:t ∈ tokL n):1<=t.length/\t.length<=80:=by
  obtain ⟨h1,h2,_⟩:=zK2 h
  have:t.length ≠ 0:=fun e=>h1 (List.eq_nil_of_length_eq_zero e)
  omega
theorem zLr {fu:Nat} {r:RecT} {a b c d:List UInt8} {y:Int} (hf:1048577<=fu) (hr:r.2.2.2 = [a,b,c,d]) (ha:a.length<=40) (hc:c.length<=40) (hd:d.length<=40) (hy:y=0\/(1000<=y/\y<=9999)) (hyp:zCF fu c=some y):zCH fu r=some (bkL a d y):=by
  have hsk:=zK3 a
  have htk:=zG3 a
  have hdg:=zJX d
  have hit:=zLi hy
  unfold zCH
  rw [hr,show inR (0:Int) ([a,b,c,d]:List (List UInt8)).length=true from rfl,show inR (3:Int) ([a,b,c,d]:List (List UInt8)).length=true from rfl,show inR (2:Int) ([a,b,c,d]:List (List UInt8)).length=true from rfl,show gtD [a,b,c,d] (0:Int)=a from rfl,show gtD [a,b,c,d] (3:Int)=d from rfl,show gtD [a,b,c,d] (2:Int)=c from rfl]
  simp only [zCf]
  rw [zO9 hf (by omega),zAA]
  have h1:=zHJ (xs:=skL a) (f:=([115] ++ ·)) (a0:=[]) (L:=zC9 fu (skL a)) (fun k i acc x hx hacc=>by
    have hi:=zCq hx
    have hx4:=zJw (zDL hx)
    have hacc:acc.length=0+i:=hacc
    rw [zC9,lt_t hi,cond_true,ck_t (zB6 hi),zAa hx,ck_t (zAj (by simp;omega)),ck_t (zAj (by simp;omega)),zAm,ck_t (zCp (by omega))]) (fun k a=>by rw [zC9,lt_f,cond_false]) (fu:=fu) (by omega)
  rw [h1,zAA,List.nil_append,zNv (by omega) (by omega),zAA,hyp,dec4]
  have hk1:(k1L a).length=(skL a).length:=by simp [k1L]
  have h3:∀ (acc0:List (List UInt8)),acc0.length<=1000->0<y->zBo fu y (tokL a) fu (0:Int) acc0=some (acc0++k3L a y)/\zBm fu y (tokL a) fu (0:Int) acc0=some (acc0++k3L a y):=fun acc0 h0 hy0=>by
    have e:k3L a y=(tokL a).map fun t=>([121]++Lib.itoa y)++t.take 1:=by unfold k3L;rw [decide_eq_true hy0];rfl
    rw [e]
    constructor
    . refine zHJ (xs := tokL a) (f := fun t => ([121] ++ Lib.itoa y) ++ t.take 1) (a0 := acc0) (L := zBo fu y (tokL a)) (fun k i acc x hx hacc => ?_) (fun k a => by rw [zBo, lt_f, cond_false]) (by omega)
      have hi:=zCq hx
      have hx4:=zK9 ha (zDL hx)
      rw [zBo,lt_t hi,cond_true,ck_t (zB6 hi),zJg (by omega) (by omega),zAA,zAa hx,zK4,ck_t (zAj (by simp;omega)),ck_t (zBb.2 ⟨Int.le_refl _,by omega,by omega⟩),ck_t (zAj (by simp;omega)),ck_t (zAj (by simp;omega)),zAm,ck_t (zCp (by omega))]
    . refine zHJ (xs := tokL a) (f := fun t => ([121] ++ Lib.itoa y) ++ t.take 1) (a0 := acc0) (L := zBm fu y (tokL a)) (fun k i acc x hx hacc => ?_) (fun k a => by rw [zBm, lt_f, cond_false]) (by omega)
      have hi:=zCq hx
      have hx4:=zK9 ha (zDL hx)
      rw [zBm,lt_t hi,cond_true,ck_t (zB6 hi),zJg (by omega) (by omega),zAA,zAa hx,zK4,ck_t (zAj (by simp;omega)),ck_t (zBb.2 ⟨Int.le_refl _,by omega,by omega⟩),ck_t (zAj (by simp;omega)),ck_t (zAj (by simp;omega)),zAm,ck_t (zCp (by omega))]
  have h2n:(k2L d).length<=1:=by
    unfold k2L
    cases decide (4<=(dgL d).length)
    . exact Nat.zero_le _
    . exact Nat.le_refl _
  have h3n:(k3L a y).length<=(tokL a).length:=by
    unfold k3L
    cases decide (0<y)
    . exact Nat.zero_le _
    . rw [cond_true,List.length_map];exact Nat.le_refl _
  have e1:(skL a).map ([115] ++ ·)=k1L a:=rfl
  rw [e1]
  cases h4:decide (4<=(dgL d).length) with
  | true=>
    have h44:4<=(dgL d).length:=of_decide_eq_true h4
    have e2:k1L a++([([112]:List UInt8)++subL (dgL d) (((dgL d).length:Int)-4) ((dgL d).length:Int)]:List (List UInt8))=k1L a++k2L d:=by unfold k2L;rw [h4,sub4 h44];rfl
    rw [cond_true,ck_t (zCM (by omega) (by omega)),ck_t (zBb.2 ⟨by omega,by omega,Int.le_refl _⟩),ck_t (zAj (by rw [sub4 h44];simp;omega)),ck_t (zAj (by simp;omega)),zAA,e2]
    cases hy0:decide (0<y) with
    | true=>
      rw [cond_true,zId hf (by omega),zAA,(h3 _ (by rw [List.length_append];omega) (of_decide_eq_true hy0)).1,zAA,zDt hf (by rw [List.length_append,List.length_append];omega),zAA]
      rfl
    | false=>
      rw [cond_false,zDt hf (by rw [List.length_append];omega),zAA]
      have:k3L a y = []:=by unfold k3L;rw [hy0];rfl
      unfold bkL
      rw [this,List.append_nil]
      rfl
  | false=>
    have e2:k1L a=k1L a++k2L d:=by unfold k2L;rw [h4];simp
    rw [cond_false,zAA,e2]
    cases hy0:decide (0<y) with
    | true=>
      rw [cond_true,zId hf (by omega),zAA,(h3 _ (by rw [List.length_append];omega) (of_decide_eq_true hy0)).2,zAA,zDt hf (by rw [List.length_append,List.length_append];omega),zAA]
      rfl
    | false=>
      rw [cond_false,zDt hf (by rw [List.length_append];omega),zAA]
      have:k3L a y = []:=by unfold k3L;rw [hy0];rfl
      unfold bkL
      rw [this,List.append_nil]
      rfl
theorem zJj {fu:Nat} {r:RecT} {a b c d:List UInt8} {y:Int} (hf:1048577<=fu) (hok:zHm r) (hb:recB r=true) (hr:r.2.2.2 = [a,b,c,d]) (ha:a.length<=40) (hc:c.length<=40) (hd:d.length<=40) (hy:y=0\/(1000<=y/\y<=9999)) (hyp:zCG fu c=some y):zBa fu r=some (bkL a d y):=by
  have hsk:=zK3 a
  have htk:=zG3 a
  have hdg:=zJX d
  have hit:=zLi hy
  unfold zBa
  rw [zIa hf hok,zAA,hb,hr,show inR (0:Int) ([a,b,c,d]:List (List UInt8)).length=true from rfl,show inR (3:Int) ([a,b,c,d]:List (List UInt8)).length=true from rfl,show inR (2:Int) ([a,b,c,d]:List (List UInt8)).length=true from rfl,show gtD [a,b,c,d] (0:Int)=a from rfl,show gtD [a,b,c,d] (3:Int)=d from rfl,show gtD [a,b,c,d] (2:Int)=c from rfl]
  simp only [zCf,Bool.not_true,cond_false]
  rw [zO0 hf (by omega),zAA]
  obtain ⟨h1,l1⟩:=zJ3 (xs:=skL a) (f:=([115] ++ ·)) (a0:=[]) (L:=zC8 fu (skL a)) (fun k i acc x hx hacc=>by
    have hi:=zCq hx
    have hx4:=zJw (zDL hx)
    have hacc:acc.length<=0+i:=hacc
    rw [zC8,lt_t hi,cond_true,ck_t (zB6 hi),zAa hx,ck_t (zAj (by simp;omega)),zKl (by omega) (by omega),zAA,zAm,ck_t (zCp (by omega)),cond_false]) (fun k a=>by rw [zC8,lt_f,cond_false]) (fu:=fu) (by omega)
  have l1:((k1L a).foldl (putS bLt) []).length<=(skL a).length:=by
    have:((k1L a).foldl (putS bLt) []).length<=0+(skL a).length:=l1
    omega
  rw [h1,zAA,show ((skL a).map ([115] ++ ·))=k1L a from rfl,zNg (by omega) (by omega),zAA,hyp,zKh hf (by omega),dec4]
  have h3:∀ (acc0:List (List UInt8)),acc0.length<=1000->zBY fu (tokL a) y fu (0:Int) acc0=some ((k3L a y).foldl (putS bLt) acc0)/\zBX fu (tokL a) y fu (0:Int) acc0=some ((k3L a y).foldl (putS bLt) acc0):=fun acc0 h0=>by
    cases hy0:decide (0<y) with
    | true=>
      have e:k3L a y=(tokL a).map fun t=>([121]++Lib.itoa y)++t.take 1:=by unfold k3L;rw [hy0];rfl
      rw [e]
      constructor
      . refine (zJ3 (xs := tokL a) (f := fun t => ([121] ++ Lib.itoa y) ++ t.take 1) (a0 := acc0) (L := zBY fu (tokL a) y) (fun k i acc x hx hacc => ?_) (fun k a => by rw [zBY, lt_f, Bool.false_and, zCT, cond_false]) (by omega)).1
        have hi:=zCq hx
        have hx4:=zK9 ha (zDL hx)
        rw [zBY,lt_t hi,hy0,Bool.true_and,zCT,cond_true,zJn hf (by omega) (by omega),zAA,ck_t (zAj (by simp;omega)),ck_t (zB6 hi),zAa hx,zK4,ck_t (zBb.2 ⟨Int.le_refl _,by omega,by omega⟩),ck_t (zAj (by simp;omega)),zKl (by omega) (by omega),zAA,zAm,ck_t (zCp (by omega)),cond_false]
      . refine (zJ3 (xs := tokL a) (f := fun t => ([121] ++ Lib.itoa y) ++ t.take 1) (a0 := acc0) (L := zBX fu (tokL a) y) (fun k i acc x hx hacc => ?_) (fun k a => by rw [zBX, lt_f, Bool.false_and, zCT, cond_false]) (by omega)).1
        have hi:=zCq hx
        have hx4:=zK9 ha (zDL hx)
        rw [zBX,lt_t hi,hy0,Bool.true_and,zCT,cond_true,zJn hf (by omega) (by omega),zAA,ck_t (zAj (by simp;omega)),ck_t (zB6 hi),zAa hx,zK4,ck_t (zBb.2 ⟨Int.le_refl _,by omega,by omega⟩),ck_t (zAj (by simp;omega)),zKl (by omega) (by omega),zAA,zAm,ck_t (zCp (by omega)),cond_false]
    | false=>
      have e:k3L a y = []:=by unfold k3L;rw [hy0];rfl
      rw [e]
      obtain ⟨k,rfl⟩:∃ k,fu=k+1:=⟨fu-1,by omega⟩
      constructor
      . rw [zBY,hy0,Bool.and_false,zCT,cond_false];rfl
      . rw [zBX,hy0,Bool.and_false,zCT,cond_false];rfl
  have fin:(k3L a y).foldl (putS bLt) ((k2L d).foldl (putS bLt) ((k1L a).foldl (putS bLt) []))=bkL a d y:=by
    rw [<- List.foldl_append,<- List.foldl_append,zIL,<- List.append_assoc]
    rfl
  cases h4:decide (4<=(dgL d).length) with
  | true=>
    have h44:4<=(dgL d).length:=of_decide_eq_true h4
    have e2:(k2L d).foldl (putS bLt) ((k1L a).foldl (putS bLt) [])=putS bLt ((k1L a).foldl (putS bLt) []) ([112]++(dgL d).drop ((dgL d).length-4)):=by unfold k2L;rw [h4];rfl
    have l2:(putS bLt ((k1L a).foldl (putS bLt) []) ([112]++(dgL d).drop ((dgL d).length-4))).length<=(skL a).length+1:=by
      generalize (k1L a).foldl (putS bLt) []=z at l1 ⊢
      generalize ([112]++(dgL d).drop ((dgL d).length-4):List UInt8)=x
      unfold putS putW
      cases (z[plc bLt x z]? == some x)
      . rw [cond_false,zEO];omega
      . rw [cond_true];omega
    rw [cond_true,ck_t (zCM (by omega) (by omega)),ck_t (zBb.2 ⟨by omega,by omega,Int.le_refl _⟩),ck_t (zAj (by rw [sub4 h44];simp;omega)),zKl (by omega) (by omega),zAA,cond_false,zAA,zAA,sub4 h44,(h3 _ (by omega)).1,zAA,<- e2,fin]
  | false=>
    have e2:(k2L d).foldl (putS bLt) ((k1L a).foldl (putS bLt) [])=(k1L a).foldl (putS bLt) []:=by unfold k2L;rw [h4];rfl
    rw [cond_false,zAA,zAA,(h3 _ (by omega)).2,zAA,<- e2,fin]
theorem zOR {r:RecT} (hok:zHm r):∃ l:List (List UInt8),(∀ fu,1048577<=fu->zBa fu r=some l/\zBs fu r=some l)/\l.length<=200/\(∀ x ∈ l,x.length<=120)/\zDQ bLt l:=by
  cases hb:recB r with
  | false=>
    refine ⟨[],fun fu hf=>⟨?_,?_⟩,by simp,(fun x hx=>by cases hx),List.Pairwise.nil⟩
    . unfold zBa
      rw [zIa hf hok,zAA,hb]
      rfl
    . unfold zBs
      rw [zIX hf hok,zAA,hb]
      rfl
  | true=>
    obtain ⟨a,b,c,d,hr,ha,hb2,hc,hd⟩:=zJK hb
    obtain ⟨y,hy,_,hyp⟩:=zOS (s:=c) (by omega)
    have hsk:=zK3 a
    have htk:=zG3 a
    have hdg:=zJX d
    have hit:=zLi hy
    have h2n:(k2L d).length<=1:=by
      unfold k2L
      cases decide (4<=(dgL d).length)
      . exact Nat.zero_le _
      . exact Nat.le_refl _
    have h3n:(k3L a y).length<=(tokL a).length:=by
      unfold k3L
      cases decide (0<y)
      . exact Nat.zero_le _
      . rw [cond_true,List.length_map];exact Nat.le_refl _
    refine ⟨bkL a d y,fun fu hf=>⟨zJj hf hok hb hr ha hc hd hy (hyp fu hf).2,?_⟩,?_,fun x hx=>?_,zEt _⟩
    . unfold zBs
      rw [zIX hf hok,zAA,hb,zLr hf hr ha hc hd hy (hyp fu hf).1]
      rfl
    . have := zEL ((k1L a ++ k2L d) ++ k3L a y)
      rw [List.length_append,List.length_append] at this
      have hk1:(k1L a).length=(skL a).length:=by simp [k1L]
      unfold bkL
      omega
    . unfold bkL at hx
      rw [zEu] at hx
      rcases List.mem_append.1 hx with hx | hx
      . rcases List.mem_append.1 hx with hx | hx
        . obtain ⟨t, ht, rfl⟩ := List.mem_map.1 hx
          have:=zJw ht
          simp;omega
        . unfold k2L at hx
          cases h4:decide (4<=(dgL d).length)
          . rw [h4] at hx;cases hx
          . rw [h4, cond_true, List.mem_singleton] at hx
            rw [hx]
            simp;omega
      . unfold k3L at hx
        cases h4:decide (0<y)
        . rw [h4] at hx;cases hx
        . rw [h4, cond_true] at hx
          obtain ⟨t,ht,rfl⟩:=List.mem_map.1 hx
          simp;omega
theorem zLD {fu:Nat} {a b:List (List UInt8)} (hf:1048577<=fu) (ha:a.length<=524288) (hb:b.length<=524288):zCh fu a b=some (b.foldl (putS bLt) (a.foldl (putS bLt) [])):=by
  unfold zCh
  have grow:∀ (acc:List (List UInt8)) x,(putS bLt acc x).length<=acc.length+1:=fun acc x=>by
    unfold putS putW
    cases (acc[plc bLt x acc]? == some x)
    . rw [cond_false,zEO];exact Nat.le_refl _
    . rw [cond_true];omega
  have h:=zCz (xs:=a) (g:=putS bLt) (Inv:=fun i acc=>acc.length<=i) (L:=fun k i acc=>zBI fu a k i acc) (fun k i acc x hx hacc=>by
    have hi:=zCq hx
    show zBI fu a (k+1) (i:Int) acc=_
    rw [zBI,lt_t hi,cond_true]
    simp only [zB6 hi,zAa hx,zCf,zKl (show acc.length<fu by omega) (show acc.length<=2147483648 by omega),zAA,zCp (show i<=4294967296 by omega),zAm,cond_false]) (fun i acc x hx hacc=>Nat.le_trans (grow acc x) (Nat.succ_le_succ hacc)) (fun k acc hacc=>by show zBI fu a (k+1) (a.length:Int) acc=_;rw [zBI,lt_f];rfl) (a:=[]) (Nat.zero_le _) (show a.length<fu by omega)
  have h':=zCz (xs:=b) (g:=putS bLt) (Inv:=fun i acc=>acc.length<=a.length+i) (L:=fun k i acc=>zBC fu b k i acc) (fun k i acc x hx hacc=>by
    have hi:=zCq hx
    show zBC fu b (k+1) (i:Int) acc=_
    rw [zBC,lt_t hi,cond_true]
    simp only [zB6 hi,zAa hx,zCf,zKl (show acc.length<fu by omega) (show acc.length<=2147483648 by omega),zAA,zCp (show i<=4294967296 by omega),zAm,cond_false]) (fun i acc x hx hacc=>by have:=grow acc x;show _<=a.length+(i+1);omega) (fun k acc hacc=>by show zBC fu b (k+1) (b.length:Int) acc=_;rw [zBC,lt_f];rfl) (a:=a.foldl (putS bLt) []) h.2 (show b.length<fu by omega)
  rw [h.1,zAA,h'.1,zAA]
def kk (r:RecT):List (List UInt8):=(zBa 1048577 r).getD []
theorem kk_t {r:RecT} (hok:zHm r) (hb:recB r=true):(∀ fu,1048577<=fu->zBa fu r=some (kk r)/\zCH fu r=some (kk r))/\(kk r).length<=200/\(∀ x ∈ kk r,x.length<=120)/\zDQ bLt (kk r):=by
  obtain ⟨a,b,c,d,hr,ha,hb2,hc,hd⟩:=zJK hb
  obtain ⟨y,hy,_,hyp⟩:=zOS (s:=c) (by omega)
  have e:kk r=bkL a d y:=by unfold kk;rw [zJj (Nat.le_refl _) hok hb hr ha hc hd hy (hyp _ (Nat.le_refl _)).2];rfl
  have hsk:=zK3 a
  have htk:=zG3 a
  have hdg:=zJX d
  have hit:=zLi hy
  have h2n:(k2L d).length<=1:=by
    unfold k2L
    cases decide (4<=(dgL d).length)
    . exact Nat.zero_le _
    . exact Nat.le_refl _
  have h3n:(k3L a y).length<=(tokL a).length:=by
    unfold k3L
    cases decide (0<y)
    . exact Nat.zero_le _
    . rw [cond_true,List.length_map];exact Nat.le_refl _
  rw [e]
  refine ⟨fun fu hf=>⟨zJj hf hok hb hr ha hc hd hy (hyp fu hf).2,zLr hf hr ha hc hd hy (hyp fu hf).1⟩,?_,fun x hx=>?_,zEt _⟩
  . have := zEL ((k1L a ++ k2L d) ++ k3L a y)
    rw [List.length_append,List.length_append] at this
    have hk1:(k1L a).length=(skL a).length:=by simp [k1L]
    unfold bkL
    omega
  . unfold bkL at hx
    rw [zEu] at hx
    rcases List.mem_append.1 hx with hx | hx
    . rcases List.mem_append.1 hx with hx | hx
      . obtain ⟨t, ht, rfl⟩ := List.mem_map.1 hx
        have:=zJw ht
        simp;omega
      . unfold k2L at hx
        cases h4:decide (4<=(dgL d).length)
        . rw [h4] at hx;cases hx
        . rw [h4, cond_true, List.mem_singleton] at hx
          rw [hx]
          simp;omega
    . unfold k3L at hx
      cases h4:decide (0<y)
      . rw [h4] at hx;cases hx
      . rw [h4, cond_true] at hx
        obtain ⟨t,ht,rfl⟩:=List.mem_map.1 hx
        simp;omega
def zI5 (rs:List RecT):Bool:=!(rs.any fun r=>!(recB r))&&decide (rs.length<=12)
theorem zIN {rs:List RecT} (h:zI5 rs=true):rs.length<=12/\∀ r ∈ rs,recB r=true:=by
  unfold zI5 at h
  rw [Bool.and_eq_true,decide_eq_true_eq] at h
  refine ⟨h.2,fun r hr=>?_⟩
  cases hb:recB r with
  | true=>rfl
  | false=>
    have:(rs.any fun r=>!(recB r))=true:=List.any_eq_true.2 ⟨r,hr,by rw [hb];rfl⟩
    rw [this] at h
    cases h.1
theorem zLI {fu:Nat} {l:List RecT} {F:RecT->Option Bool} {p:RecT->Bool} (hF:∀ x ∈ l,F x=some (p x)) (hf:l.length<fu) (hl:l.length<=1048576):zAd fu l F=some (l.any p):=by
  unfold zAd zB4
  have h:=zJq (xs:=l) (p:=p) (L:=zAR fu l F) (fun k i y hy=>by
    have hi:=zCq hy
    rw [zAR,lt_t hi,cond_true]
    simp only [zB6 hi,zAa hy,zCf,hF y (zDL hy),zAA,zCp (show i<=4294967296 by omega),zAm]) (fun k=>by rw [zAR,lt_f];rfl) hf
  rw [h,zAA]
  cases hi:ixI 0 (l.map p) with
  | none=>
    have h2:=zHZ hi
    have:(l.any p)=false:=by
      rw [List.any_eq_false]
      intro y hy
      have:=h2 (p y) (List.mem_map_of_mem hy)
      simp [this]
    rw [this]
    rfl
  | some j=>
    obtain ⟨_,h2,_⟩:=zHh hi
    have:(l.any p)=true:=by
      rw [Nat.sub_zero,List.getElem?_map] at h2
      obtain ⟨y,hy,e⟩:=Option.map_eq_some_iff.1 h2
      rw [List.any_eq_true]
      exact ⟨y,List.mem_of_getElem? hy,e⟩
    rw [this]
    show some (decide (0<=(j:Int)))=some true
    rw [decide_eq_true (by omega)]
theorem zMV {fu:Nat} {rs:List RecT} (hf:1048577<=fu) (hl:rs.length<=1048576) (hok:∀ r ∈ rs,zHm r):zDN fu rs=some !(rs.any fun r=>!(recB r)):=by
  unfold zDN
  rw [zLI (p:=fun r=>!(recB r)) (fun r hr=>by unfold zDc;rw [zIX hf (hok r hr),zAA]) (by omega) hl,zAA]
theorem zM5 {fu:Nat} {rs:List RecT} (hf:1048577<=fu) (hl:rs.length<=1048576) (hok:∀ r ∈ rs,zHm r):zEB fu rs=some (zI5 rs):=by
  unfold zEB
  have h:=zFE (xs:=rs) (p:=fun r=>!(recB r)) (r:=false) (L:=zCR fu rs) (fun k i y hy=>by
    have hi:=zCq hy
    rw [zCR,lt_t hi,cond_true]
    simp only [zB6 hi,zAa hy,zCf,zIa hf (hok y (zDL hy)),zAA,zCp (show i<=4294967296 by omega),zAm]) (fun k=>by rw [zCR,lt_f];rfl) (show rs.length<fu by omega)
  rw [h,zAA]
  unfold zI5
  have e:decide ((rs.length:Int)<=(12:Int))=decide (rs.length<=12):=by
    by_cases h:rs.length<=12
    . rw [decide_eq_true h,decide_eq_true (by omega)]
    . rw [decide_eq_false h,decide_eq_false (by omega)]
  cases rs.any fun r=>!(recB r)
  . rw [cond_false,zHl,e];rfl
  . rw [cond_true,zOu];rfl
def idxF (k : List UInt8) : Nat -> List RecT -> List Int
  | _,[]=>[]
  | i,r::rs=>(bif (kk r).any (fun y=>y==k) then [(i:Int)] else [])++idxF k (i+1) rs
theorem zLt (k : List UInt8) : ∀ (rs : List RecT) (i : Nat) (r : RecT), idxF k i (rs ++ [r]) = idxF k i rs ++ (bif (kk r).any (fun y => y == k) then [((i + rs.length : Nat) : Int)] else [])
  | [],i,r=>by simp [idxF]
  | s::rs,i,r=>by
    rw [List.cons_append,idxF,idxF,zLt k rs (i+1) r,List.append_assoc,List.length_cons,show i+1+rs.length=i+(rs.length+1) by omega]
theorem zKR {k:List UInt8} {rs:List RecT} {i:Nat} {r:RecT} (h:rs[i]? = some r):idxF k 0 (rs.take (i+1))=idxF k 0 (rs.take i)++(bif (kk r).any (fun y=>y==k) then [(i:Int)] else []):=by
  have hi:=zCq h
  rw [List.take_add_one,h,Option.toList_some,zLt,List.length_take,Nat.min_eq_left (by omega),Nat.zero_add]
theorem zIR (k : List UInt8) : ∀ (rs : List RecT) (i : Nat), (idxF k i rs).length <= rs.length
  | [],i=>Nat.le_refl _
  | r::rs,i=>by
    have:=zIR k rs (i+1)
    rw [idxF,List.length_append,List.length_cons]
    cases (kk r).any (fun y=>y==k)
    . rw [cond_false];simp only [List.length_nil];omega
    . rw [cond_true];simp only [List.length_singleton];omega
theorem zO3 {rs:List RecT} (h:∀ r ∈ rs,(kk r).length<=200):(rs.flatMap kk).length<=200*rs.length:=by
  induction rs with
  | nil=>simp
  | cons r rs ih=>
    have h1:=ih fun s hs=>h s (List.mem_cons_of_mem _ hs)
    have h2:=h r List.mem_cons_self
    rw [List.flatMap_cons,List.length_append,List.length_cons]
    omega
theorem zJT {rs:List RecT} {i:Nat} {r:RecT} (h:rs[i]? = some r):(rs.take (i+1)).flatMap kk=(rs.take i).flatMap kk++kk r:=by
  rw [List.take_add_one,h,Option.toList_some,List.flatMap_append]
  simp
def OKs (rs:List RecT):Prop:=∀ r ∈ rs,zHm r
theorem zGj {rs:List RecT} (hok:OKs rs) (hb:∀ r ∈ rs,recB r=true) (hn:rs.length<=12) (i:Nat):((rs.take i).flatMap kk).length<=2400:=by
  have:=zO3 (rs:=rs.take i) fun r hr=>(kk_t (hok r (List.mem_of_mem_take hr)) (hb r (List.mem_of_mem_take hr))).2.1
  have h2:(rs.take i).length<=12:=by rw [List.length_take];omega
  omega
theorem zNu {fu i : Nat} {ks K0 : List (List UInt8)} {ms0 : List UInt8 -> List Int} {n0 : Nat} (hf : 1048577 <= fu) (hk : zDQ bLt ks) (hl : ks.length <= 200) (hK : K0.length <= 2400) (hm : ∀ s, (ms0 s).length <= 12) (hn : n0 <= 2400) :
    zAs fu (i:Int) ks fu (0:Int) K0 (ms0,[],n0)=some (K0++ks,((fun s=>bif ks.any (fun y=>y==s) then ms0 s ++ [(i:Int)] else ms0 s),[],n0+ks.length)):=by
  have h := zEb (L := fun k j (a : List (List UInt8) × (List UInt8 -> List Int) × List (List UInt8) × Nat) => zAs fu (i : Int) ks k j a.1 a.2) (n := ks.length) (r := (K0 ++ ks, ((fun s => bif ks.any (fun y => y == s) then ms0 s ++ [(i : Int)] else ms0 s), ([] : List (List UInt8)), n0 + ks.length)))
    (fun j=>(K0++ks.take j,((fun s=>bif (ks.take j).any (fun y=>y==s) then ms0 s ++ [(i:Int)] else ms0 s),([]:List (List UInt8)),n0+j))) (fun k j hj=>?_) (fun k=>?_) (show ks.length<fu by omega)
  . rw [<- h]
    congr 1
    simp
  . have hx := List.getElem?_eq_getElem hj
    have hnd:=zDQ.nodup zH3 hk
    have hni:ks[j] ∉ ks.take j:=fun hm=>by
      obtain ⟨q,hq⟩:=List.mem_iff_getElem?.1 hm
      rw [List.getElem?_take] at hq
      split at hq
      . rename_i hqj
        have:=(List.getElem?_inj (by omega:q<ks.length) hnd).1 (hq.trans hx.symm)
        omega
      . cases hq
    have hany:(ks.take j).any (fun y=>y==ks[j])=false:=by
      rw [List.any_eq_false]
      intro y hy e
      exact hni (by rw [<- of_decide_eq_true (p:=y=ks[j]) (by simpa using e)];exact hy)
    have hlen:(K0++ks.take j).length<=2600:=by rw [List.length_append,List.length_take];omega
    have hmx:=hm ks[j]
    show zAs fu (i:Int) ks (k+1) (j:Int) (K0++ks.take j) ((fun s=>bif (ks.take j).any (fun y=>y==s) then ms0 s ++ [(i:Int)] else ms0 s),([]:List (List UInt8)),n0+j)=zAs fu (i:Int) ks k ((j+1:Nat):Int) (K0++ks.take (j+1)) ((fun s=>bif (ks.take (j+1)).any (fun y=>y==s) then ms0 s ++ [(i:Int)] else ms0 s),([]:List (List UInt8)),n0+(j+1))
    rw [zAs,lt_t hj,cond_true,ck_t (zB6 hj),zAa hx,ck_t (zAj (by simp only [List.length_singleton];omega)),ck_t (decide_eq_true (by simp))]
    simp only [hany,cond_false]
    rw [ck_t (zAj (by simp only [List.length_singleton];omega)),ck_t (decide_eq_true (by unfold maxLen;omega)),ck_t (zC3 (by omega)),zAm]
    have e1:K0++ks.take j ++ [ks[j]]=K0++ks.take (j+1):=by rw [List.take_add_one,hx,Option.toList_some,List.append_assoc]
    have e2:(fun s'=>if s'=ks[j] then ms0 ks[j] ++ [(i:Int)] else bif (ks.take j).any (fun y=>y==s') then ms0 s' ++ [(i:Int)] else ms0 s')=fun s=>bif (ks.take (j+1)).any (fun y=>y==s) then ms0 s ++ [(i:Int)] else ms0 s:=by
      funext s
      rw [List.take_add_one,hx,Option.toList_some,List.any_append,List.any_cons,List.any_nil,Bool.or_false]
      by_cases e:s=ks[j]
      . subst e
        rw [if_pos rfl,beq_self_eq_true,Bool.or_true,cond_true]
      . rw [if_neg e,beq_eq_false_iff_ne.2 (Ne.symm e),Bool.or_false]
    rw [e1,e2]
    rfl
  . show zAs fu (i : Int) ks (k + 1) (ks.length : Int) _ _ = _
    rw [zAs,lt_f,cond_false,List.take_length]
theorem zOH {fu : Nat} {rs : List RecT} (hf : 1048577 <= fu) (hok : OKs rs) (hb : ∀ r ∈ rs, recB r = true) (hn : rs.length <= 12) :
    zAh fu rs fu (0:Int) [] ((fun _=>[]:List UInt8->List Int),([]:List (List UInt8)),(0:Nat))=some (rs.flatMap kk,((fun s=>idxF s 0 rs),[],(rs.flatMap kk).length)):=by
  have h := zEb (L := fun k j (a : List (List UInt8) × (List UInt8 -> List Int) × List (List UInt8) × Nat) => zAh fu rs k j a.1 a.2) (n := rs.length) (r := (rs.flatMap kk, ((fun s => idxF s 0 rs), ([] : List (List UInt8)), (rs.flatMap kk).length)))
    (fun j=>((rs.take j).flatMap kk,((fun s=>idxF s 0 (rs.take j)),([]:List (List UInt8)),((rs.take j).flatMap kk).length))) (fun k j hj=>?_) (fun k=>?_) (show rs.length<fu by omega)
  . exact h
  . have hx := List.getElem?_eq_getElem hj
    have hm:=zDL hx
    obtain ⟨h1,h2,h3,h4⟩:=kk_t (hok _ hm) (hb _ hm)
    have hft:=zGj hok hb hn j
    show zAh fu rs (k+1) (j:Int) ((rs.take j).flatMap kk) ((fun s=>idxF s 0 (rs.take j)),([]:List (List UInt8)),((rs.take j).flatMap kk).length)=zAh fu rs k ((j+1:Nat):Int) ((rs.take (j+1)).flatMap kk) ((fun s=>idxF s 0 (rs.take (j+1))),([]:List (List UInt8)),((rs.take (j+1)).flatMap kk).length)
    rw [zAh,lt_t hj,cond_true,ck_t (zB6 hj),zAa hx,(h1 fu hf).2,zAA,zNu hf h4 h2 hft (fun s=>by have:=zIR s (rs.take j) 0;rw [List.length_take] at this;omega) hft,zAA,ck_t (zC3 (by omega)),zAm]
    have e2:(fun s=>bif (kk rs[j]).any (fun y=>y==s) then idxF s 0 (rs.take j) ++ [(j:Int)] else idxF s 0 (rs.take j))=fun s=>idxF s 0 (rs.take (j+1)):=by
      funext s
      rw [zKR hx]
      cases (kk rs[j]).any (fun y=>y==s)
      . rw [cond_false,cond_false,List.append_nil]
      . rfl
    show zAh fu rs k ((j+1:Nat):Int) ((rs.take j).flatMap kk++kk rs[j]) ((fun s=>bif (kk rs[j]).any (fun y=>y==s) then idxF s 0 (rs.take j) ++ [(j:Int)] else idxF s 0 (rs.take j)),([]:List (List UInt8)),((rs.take j).flatMap kk).length+(kk rs[j]).length)=_
    rw [e2,<- List.length_append,<- zJT hx]
  . show zAh fu rs (k + 1) (rs.length : Int) _ _ = _
    rw [zAh,lt_f,cond_false,List.take_length]
theorem zNz {fu : Nat} {xs : List (List UInt8)} {ms : List UInt8 -> List Int} {n : Nat} (hf : 1048577 <= fu) (hk : zDQ bLt xs) (hl : xs.length <= 2400) :
    zAg fu xs fu (0:Int) (ms,[],n) []=some (xs.map fun k=>(k,ms k)):=by
  have h := zEb (L := fun k j (a : ((List UInt8 -> List Int) × List (List UInt8) × Nat) × List (List UInt8 × List Int)) => zAg fu xs k j a.1 a.2) (n := xs.length) (r := xs.map fun k => (k, ms k))
    (fun j=>((ms,(xs.take j).reverse,n),(xs.take j).map fun k=>(k,ms k))) (fun k j hj=>?_) (fun k=>?_) (show xs.length<fu by omega)
  . exact h
  . have hx := List.getElem?_eq_getElem hj
    have hnd:=zDQ.nodup zH3 hk
    have hni:xs[j] ∉ (xs.take j).reverse:=fun hm=>by
      obtain ⟨q,hq⟩:=List.mem_iff_getElem?.1 (List.mem_reverse.1 hm)
      rw [List.getElem?_take] at hq
      split at hq
      . rename_i hqj
        have:=(List.getElem?_inj (by omega:q<xs.length) hnd).1 (hq.trans hx.symm)
        omega
      . cases hq
    show zAg fu xs (k+1) (j:Int) (ms,(xs.take j).reverse,n) ((xs.take j).map fun k=>(k,ms k))=zAg fu xs k ((j+1:Nat):Int) (ms,(xs.take (j+1)).reverse,n) ((xs.take (j+1)).map fun k=>(k,ms k))
    rw [zAg,lt_t hj,cond_true,ck_t (zB6 hj),zAa hx,ck_t (decide_eq_true hni),ck_t (zAj (by rw [List.length_map,List.length_take];omega)),ck_t (zC3 (by omega)),zAm]
    rw [List.take_add_one,hx,Option.toList_some,List.reverse_append,List.map_append]
    rfl
  . show zAg fu xs (k + 1) (xs.length : Int) _ _ = _
    rw [zAg,lt_f,cond_false,List.take_length]
def zBS (rs:List RecT):List (List UInt8 × List Int):=bif zI5 rs then (setL (rs.flatMap kk)).map (fun k=>(k,idxF k 0 rs)) else []
theorem zKr {rs:List RecT} (hok:OKs rs) (hg:zI5 rs=true):(setL (rs.flatMap kk)).length<=2400:=by
  obtain ⟨hn,hb⟩:=zIN hg
  have h1:=zGj hok hb hn rs.length
  rw [List.take_length] at h1
  have h2:=zEL (rs.flatMap kk)
  omega
theorem zJc {fu:Nat} {rs:List RecT} (hf:1048577<=fu) (hl:rs.length<=1048576) (hok:OKs rs):zBh fu rs=some (zBS rs):=by
  unfold zBh zBS
  rw [zMV hf hl hok]
  by_cases h12:rs.length<=12
  . have hd : decide ((12 : Int) < (rs.length : Int)) = false := decide_eq_false (by omega)
    rw [hd]
    cases hg:zI5 rs with
    | false=>
      have:(rs.any fun r=>!(recB r))=true:=by
        unfold zI5 at hg
        rw [decide_eq_true h12,Bool.and_true] at hg
        simpa using hg
      rw [this]
      rfl
    | true=>
      obtain ⟨hn,hb⟩:=zIN hg
      have hany:(rs.any fun r=>!(recB r))=false:=by
        rw [List.any_eq_false]
        intro r hr
        rw [hb r hr]
        exact Bool.false_ne_true
      rw [hany,show (true&&(false==false))=true from rfl,zAA,zCT,show (false || !(!false))=false from rfl,cond_false,zOH hf hok hb hn,zAA]
      have h1:=zGj hok hb hn rs.length
      rw [List.take_length] at h1
      show (cl true (zBB fu (rs.flatMap kk)) fun x=>cl true (zAg fu x fu (0:Int) ((fun s=>idxF s 0 rs),[],(rs.flatMap kk).length) []) fun s=>some s)=_
      rw [zDt hf (by omega),zAA,show cmpL ((rs.flatMap kk).mergeSort fun x y=>!(bLt y x))=setL (rs.flatMap kk) from rfl,zNz hf (zEt _) (zKr hok hg),zAA]
      rfl
  . have hd : decide ((12 : Int) < (rs.length : Int)) = true := decide_eq_true (by omega)
    have hg:zI5 rs=false:=by unfold zI5;rw [decide_eq_false h12,Bool.and_false]
    rw [hd,hg]
    rfl
theorem zOG (A B:List (List UInt8)):B.foldl (putS bLt) ((setL A).foldl (putS bLt) [])=setL (A++B):=by
  rw [<- List.foldl_append,zIL]
  refine zFS zH3 (zEt _) (zEt _) fun x=>?_
  rw [zEu,zEu,List.mem_append,List.mem_append,zEu]
theorem zOC {fu:Nat} {rs:List RecT} (hf:1048577<=fu) (hok:OKs rs) (hb:∀ r ∈ rs,recB r=true) (hn:rs.length<=12):zAt fu rs fu [] (0:Int)=some (setL (rs.flatMap kk)):=by
  have h:=zEb (L:=fun k j (a:List (List UInt8))=>zAt fu rs k a j) (n:=rs.length) (r:=setL (rs.flatMap kk)) (fun j=>setL ((rs.take j).flatMap kk)) (fun k j hj=>?_) (fun k=>?_) (show rs.length<fu by omega)
  . have e:setL ((rs.take 0).flatMap kk) = []:=by
      rw [List.take_zero]
      show cmpL (([]:List (List UInt8)).mergeSort fun x y=>!(bLt y x)) = []
      rw [List.mergeSort_nil]
      rfl
    rw [<- h,<- e]
  . have hx := List.getElem?_eq_getElem hj
    have hm:=zDL hx
    obtain ⟨h1,h2,h3,h4⟩:=kk_t (hok _ hm) (hb _ hm)
    have hft:=zGj hok hb hn j
    have hsl:=zEL ((rs.take j).flatMap kk)
    show zAt fu rs (k+1) (setL ((rs.take j).flatMap kk)) (j:Int)=zAt fu rs k (setL ((rs.take (j+1)).flatMap kk)) ((j+1:Nat):Int)
    rw [zAt,lt_t hj,cond_true,ck_t (zB6 hj),zAa hx,(h1 fu hf).1,zAA,zLD hf (by omega) (by omega),zAA,ck_t (zC3 (by omega)),zAm,zOG,zJT hx]
  . show zAt fu rs (k + 1) _ (rs.length : Int) = _
    rw [zAt,lt_f,cond_false,List.take_length]
theorem zNf {fu:Nat} {rs:List RecT} {keys:List (List UInt8)} {key:List UInt8} {q:Nat} (hf:1048577<=fu) (hok:OKs rs) (hb:∀ r ∈ rs,recB r=true) (hn:rs.length<=12) (hq:keys[q]? = some key):zAi fu rs keys (q:Int) fu (0:Int) (key,[])=some (key,idxF key 0 rs):=by
  have h:=zEb (L:=fun k j (a:List UInt8 × List Int)=>zAi fu rs keys (q:Int) k j a) (n:=rs.length) (r:=(key,idxF key 0 rs)) (fun j=>(key,idxF key 0 (rs.take j))) (fun k j hj=>?_) (fun k=>?_) (show rs.length<fu by omega)
  . exact h
  . have hx := List.getElem?_eq_getElem hj
    have hm:=zDL hx
    obtain ⟨h1,h2,h3,h4⟩:=kk_t (hok _ hm) (hb _ hm)
    have hlen:(idxF key 0 (rs.take j)).length<=12:=by have:=zIR key (rs.take j) 0;rw [List.length_take] at this;omega
    show zAi fu rs keys (q:Int) (k+1) (j:Int) (key,idxF key 0 (rs.take j))=zAi fu rs keys (q:Int) k ((j+1:Nat):Int) (key,idxF key 0 (rs.take (j+1)))
    rw [zAi,lt_t hj,cond_true,ck_t (zB6 hj),zAa hx,(h1 fu hf).1,zAA,ck_t (zB6 (zCq hq)),zAa hq,zQD (by omega) (by omega),zAA,zKR hx]
    cases (kk rs[j]).any (fun y=>y==key)
    . rw [cond_false,cond_false,ck_t (zC3 (by omega)),zAm,List.append_nil]
    . rw [cond_true,cond_true,ck_t (zAj (by simp only [List.length_singleton];omega)),ck_t (zC3 (by omega)),zAm]
  . show zAi fu rs keys (q : Int) (k + 1) (rs.length : Int) _ = _
    rw [zAi,lt_f,cond_false,List.take_length]
theorem zNw {fu:Nat} {rs:List RecT} {keys:List (List UInt8)} (hf:1048577<=fu) (hok:OKs rs) (hb:∀ r ∈ rs,recB r=true) (hn:rs.length<=12) (hk:keys.length<=2400):zBU fu rs keys fu (0:Int) []=some (keys.map fun k=>(k,idxF k 0 rs)):=by
  have h:=zHJ (xs:=keys) (f:=fun k=>(k,idxF k 0 rs)) (a0:=[]) (L:=zBU fu rs keys) (fun k i acc x hx hacc=>by
    have hi:=zCq hx
    have hacc:acc.length=0+i:=hacc
    rw [zBU,lt_t hi,cond_true,ck_t (zB6 hi),zAa hx,zNf hf hok hb hn hx,zAA,ck_t (zAj (by simp only [List.length_singleton];omega)),ck_t (zC3 (by omega)),zAm]) (fun k a=>by rw [zBU,lt_f,cond_false]) (fu:=fu) (by omega)
  rw [h,List.nil_append]
theorem zJZ {fu:Nat} {rs:List RecT} (hf:1048577<=fu) (hl:rs.length<=1048576) (hok:OKs rs):zBg fu rs=some (zBS rs):=by
  unfold zBg zBS
  rw [zM5 hf hl hok,zAA]
  cases hg:zI5 rs with
  | false=>rfl
  | true=>
    obtain ⟨hn,hb⟩:=zIN hg
    rw [Bool.not_true,cond_false,zOC hf hok hb hn,zAA,zNw hf hok hb hn (zKr hok hg),zAA]
    rfl
theorem zGd {rs:List RecT} (hok:OKs rs):(zBS rs).length<=2400/\∀ b ∈ zBS rs,b.1.length<=120/\b.2.length<=12:=by
  unfold zBS
  cases hg:zI5 rs with
  | false=>exact ⟨Nat.zero_le _,fun b hb=>by cases hb⟩
  | true=>
    obtain ⟨hn,hb⟩:=zIN hg
    rw [cond_true]
    refine ⟨by rw [List.length_map];exact zKr hok hg,fun b hbm=>?_⟩
    obtain ⟨k,hk,rfl⟩:=List.mem_map.1 hbm
    rw [zEu,List.mem_flatMap] at hk
    obtain ⟨r,hr,hk⟩:=hk
    exact ⟨(kk_t (hok r hr) (hb r hr)).2.2.1 k hk,Nat.le_trans (zIR k rs 0) hn⟩
def zHg (bs:List (List UInt8 × List Int)):Int:=bs.foldl (fun m b=>max m (b.2.length:Int)) 0
theorem zOi {fu:Nat} {bs:List (List UInt8 × List Int)} (hf:bs.length<fu) (hl:bs.length<=4294967296):zAw fu bs fu (0:Int) (0:Int)=some (zHg bs):=
  (zCz (xs:=bs) (g:=fun (m:Int) (b:List UInt8 × List Int)=>max m (b.2.length:Int)) (Inv:=fun _ _=>True) (L:=fun k i a=>zAw fu bs k a i) (fun k i a x hx _=>by
    have hi:=zCq hx
    show zAw fu bs (k+1) a (i:Int)=_
    rw [zAw,lt_t hi,cond_true,ck_t (zB6 hi),zAa hx,ck_t (zC3 (by omega)),zAm]) (fun _ _ _ _ _=>trivial) (fun k a _=>by show zAw fu bs (k+1) a (bs.length:Int)=_;rw [zAw,lt_f,cond_false]) (a:=0) trivial hf).1
theorem zP5 {fu:Nat} {bs:List (List UInt8 × List Int)} (hf:bs.length<fu) (hl:bs.length<=4294967296):zAv fu bs fu (0:Int) (0:Int)=some (zHg bs):=
  (zCz (xs:=bs) (g:=fun (m:Int) (b:List UInt8 × List Int)=>max m (b.2.length:Int)) (Inv:=fun _ _=>True) (L:=fun k i a=>zAv fu bs k a i) (fun k i a x hx _=>by
    have hi:=zCq hx
    show zAv fu bs (k+1) a (i:Int)=_
    rw [zAv,lt_t hi,cond_true,ck_t (zB6 hi),zAa hx,ck_t (zC3 (by omega)),zAm]) (fun _ _ _ _ _=>trivial) (fun k a _=>by show zAv fu bs (k+1) a (bs.length:Int)=_;rw [zAv,lt_f,cond_false]) (a:=0) trivial hf).1
theorem zMp {fu:Nat} {rs:List RecT} (hf:1048577<=fu) (hl:rs.length<=1048576) (hok:OKs rs):zD0 fu rs=some (zHg (zBS rs))/\zCO fu rs=some (zHg (zBS rs)):=by
  have h1:=(zGd hok).1
  constructor
  . unfold zD0
    rw [zJZ hf hl hok,zAA,zP5 (by omega) (by omega),zAA]
  . unfold zCO
    rw [zJc hf hl hok,zAA,zOi (by omega) (by omega),zAA]
def zHa (bs:List (List UInt8 × List Int)) (most:Int):List (List UInt8):=(bs.filter fun b=>decide (most<(b.2.length:Int))).map (·.1)
theorem zI4 (most : Int) : ∀ (bs : List (List UInt8 × List Int)) (a : List (List UInt8)), bs.foldl (fun a b => bif decide (most < (b.2.length : Int)) then a ++ [b.1] else a) a = a ++ zHa bs most
  | [],a=>by simp [zHa]
  | b::bs,a=>by
    rw [List.foldl_cons,zI4 most bs]
    unfold zHa
    rw [List.filter_cons]
    cases decide (most<(b.2.length:Int))
    . rfl
    . rw [cond_true];simp
theorem zPL {fu:Nat} {most:Int} {bs:List (List UInt8 × List Int)} (hf:bs.length<fu) (hl:bs.length<=1048576):zAq fu most bs fu (0:Int) []=some (zHa bs most):=by
  have h:=(zCz (xs:=bs) (g:=fun (a:List (List UInt8)) (b:List UInt8 × List Int)=>bif decide (most<(b.2.length:Int)) then a ++ [b.1] else a) (Inv:=fun i a=>a.length<=i) (L:=zAq fu most bs) (fun k i a x hx ha=>by
    have hi:=zCq hx
    rw [zAq,lt_t hi,cond_true,ck_t (zB6 hi),zAa hx]
    cases decide (most<(x.2.length:Int))
    . rw [cond_false,cond_false,ck_t (zC3 (by omega)),zAm]
    . rw [cond_true,cond_true,ck_t (zAj (by simp only [List.length_singleton];omega)),ck_t (zC3 (by omega)),zAm]) (fun i a x hx ha=>by
    show (bif decide (most<(x.2.length:Int)) then a ++ [x.1] else a).length<=i+1
    cases decide (most<(x.2.length:Int))
    . exact Nat.le_succ_of_le ha
    . rw [cond_true,List.length_append,List.length_singleton];omega) (fun k a _=>by rw [zAq,lt_f,cond_false]) (a:=[]) (Nat.le_refl _) hf).1
  rw [h,zI4,List.nil_append]
theorem zP3 {fu:Nat} {most:Int} {bs:List (List UInt8 × List Int)} (hf:bs.length<fu) (hl:bs.length<=1048576):zAr fu most bs fu (0:Int) []=some (zHa bs most):=by
  have h:=(zCz (xs:=bs) (g:=fun (a:List (List UInt8)) (b:List UInt8 × List Int)=>bif decide (most<(b.2.length:Int)) then a ++ [b.1] else a) (Inv:=fun i a=>a.length<=i) (L:=zAr fu most bs) (fun k i a x hx ha=>by
    have hi:=zCq hx
    rw [zAr,lt_t hi,cond_true,ck_t (zB6 hi),zAa hx]
    cases decide (most<(x.2.length:Int))
    . rw [cond_false,cond_false,ck_t (zC3 (by omega)),zAm]
    . rw [cond_true,cond_true,ck_t (zB6 hi),ck_t (zAj (by simp only [List.length_singleton];omega)),ck_t (zC3 (by omega)),zAm]) (fun i a x hx ha=>by
    show (bif decide (most<(x.2.length:Int)) then a ++ [x.1] else a).length<=i+1
    cases decide (most<(x.2.length:Int))
    . exact Nat.le_succ_of_le ha
    . rw [cond_true,List.length_append,List.length_singleton];omega) (fun k a _=>by rw [zAr,lt_f,cond_false]) (a:=[]) (Nat.le_refl _) hf).1
  rw [h,zI4,List.nil_append]
theorem zPP {fu:Nat} {rs:List RecT} {most:Int} (hf:1048577<=fu) (hl:rs.length<=1048576) (hok:OKs rs):zC1 fu rs most=some (zHa (zBS rs) most)/\zBf fu rs most=some (zHa (zBS rs) most):=by
  have h1:=(zGd hok).1
  constructor
  . unfold zC1
    rw [zJZ hf hl hok,zAA,zP3 (by omega) (by omega),zAA]
  . unfold zBf
    rw [zJc hf hl hok,zAA,zPL (by omega) (by omega),zAA]
abbrev PrT:=Int × Int
def ltQ (a b:PrT):Bool:=decide (a.1<b.1) || (a.1==b.1&&decide (a.2<b.2))
theorem zL6 {a b:PrT}:ltQ a b=true ↔ a.1<b.1\/(a.1=b.1/\a.2<b.2):=by simp [ltQ]
theorem zPN (a b:PrT):ltP a b=ltQ a b:=by
  rw [Bool.eq_iff_iff,zL6]
  unfold ltP
  rw [decide_eq_true_eq]
  exact zMX a b
theorem zPn {a b:PrT}:ltQ a b=false ↔ ¬ (a.1<b.1\/(a.1=b.1/\a.2<b.2)):=by
  rw [<- zL6]
  simp
theorem zIV:Sto ltQ:=⟨fun a=>by rw [zPn];omega,fun a b c h k=>by rw [zL6] at *;omega,fun a b h k=>by rw [zPn] at *;exact Prod.ext (by omega) (by omega)⟩
theorem zLQ {fu : Nat} {s : List PrT} {i : Nat} (hl : s.length <= 1048576) (hi0 : 0 < i) : ∀ m j w k ys q, i + j + m = s.length -> m < k -> 1 <= j -> w <= i + j - 1 -> ys.length = s.length -> ys.drop (i + j - 1) = s.drop (i + j - 1) -> s[i + j - 1]? = some q -> ys.take w ++ cmpA q (s.drop (i + j)) = cmpL s ->
    ∃ (w':Nat) (ys':List PrT),zAL fu (i:Int) (s.length-i) k (w:Int) (j:Int) ys=some ((w':Int),ys')/\ys'.length=s.length/\w'<=s.length/\ys'.take w'=cmpL s:=by
  intro m
  induction m with
  | zero=>
    intro j w k ys q hm hk hj hw hlen hdr hq hc
    obtain ⟨k,rfl⟩:∃ q,k=q+1:=⟨k-1,by omega⟩
    refine ⟨w,ys,?_,hlen,by omega,?_⟩
    . rw [zAL, decide_eq_false (show ¬ (j : Int) < ((s.length - i : Nat) : Int) by omega)]
      rfl
    . rw [show i + j = s.length by omega, List.drop_length] at hc
      simpa [cmpA] using hc
  | succ m ih=>
    intro j w k ys q hm hk hj hw hlen hdr hq hc
    obtain ⟨k,rfl⟩:∃ q,k=q+1:=⟨k-1,by omega⟩
    have hx:=List.getElem?_eq_getElem (show i+j<s.length by omega)
    have hat:∀ n,i+j-1<=n->ys[n]? = s[n]?:=fun n hn=>by
      have:=congrArg (fun l=>l[n-(i+j-1)]?) hdr
      simp only [List.getElem?_drop] at this
      rwa [show i+j-1+(n-(i+j-1))=n by omega] at this
    have hyx:ys[i+j]? = some s[i+j]:=(hat _ (by omega)).trans hx
    have hyq:ys[i+j-1]? = some q:=(hat _ (Nat.le_refl _)).trans hq
    have e1:((i:Int)+(j:Int))=((i+j:Nat):Int):=rfl
    have e2:((i:Int)+((j:Int)-1))=((i+j-1:Nat):Int):=by omega
    rw [zAL,decide_eq_true (show (j:Int)<((s.length-i:Nat):Int) by omega),cond_true,ck_t (zL4 (by omega) (by omega)),ck_t (decide_eq_true (by omega)),e1,ck_t (zB6 (by omega)),ck_t (zCM (by omega) (by omega)),ck_t (zL4 (by omega) (by omega)),ck_t (decide_eq_true (by omega)),e2,ck_t (zB6 (by omega)),zAa hyx,zAa hyq]
    rw [zEg hx,cmpA] at hc
    cases hb:(s[i+j]==q)
    . rw [Bool.not_false, cond_true, ck_t (zL4 (by omega) (by omega)), ck_t (decide_eq_true (by omega)), ck_t (zB6 (by omega)), ck_t (zB6 (by omega)), ck_t (zC3 (by omega)), ck_t (zC3 (by omega)), zAm, zAm, zKv]
      rw [hb,cond_false] at hc
      have:=ih (j+1) (w+1) k (ys.set w s[i+j]) s[i+j] (by omega) (by omega) (by omega) (by omega) (by rw [List.length_set];exact hlen) ?_ ?_ ?_
      . exact this
      . rw [List.drop_set_of_lt (by omega)]
        have:=congrArg (fun l=>l.drop 1) hdr
        simp only [List.drop_drop] at this
        rwa [show i+(j+1)-1=i+j-1+1 by omega]
      . rw [show i + (j + 1) - 1 = i + j by omega]
        exact hx
      . rw [List.take_add_one, List.take_set_of_le (Nat.le_refl _), List.getElem?_set_self (by omega)]
        simpa [Nat.add_assoc] using hc
    . rw [Bool.not_true, cond_false, ck_t (zC3 (by omega)), zAm]
      rw [hb,cond_true] at hc
      refine ih (j+1) w k ys s[i+j] (by omega) (by omega) (by omega) (by omega) hlen ?_ ?_ hc
      . have := congrArg (fun l => l.drop 1) hdr
        simp only [List.drop_drop] at this
        rwa [show i+(j+1)-1=i+j-1+1 by omega]
      . rw [show i + (j + 1) - 1 = i + j by omega]
        exact hx
theorem zM8 {fu:Nat} {s:List PrT} (hf:1048577<=fu) (hl:s.length<=1048576):zAn fu s=some (cmpL s):=by
  unfold zAn
  by_cases h2:s.length<2
  . rw [decide_eq_true (by omega), cond_true]
    match s,h2 with
    | [],_=>rfl
    | [x],_=>rfl
  . rw [decide_eq_false (by omega), cond_false]
    have key : ∀ m i k q, i + m = s.length -> m < k -> 0 < i -> s[i - 1]? = some q -> s.take i ++ cmpA q (s.drop i) = cmpL s ->
        zAO fu k (i:Int) s=some (Ex.ret (cmpL s))\/(zAO fu k (i:Int) s=some (Ex.go s)/\cmpL s=s):=by
      intro m
      induction m with
      | zero=>
        intro i k q hm hk hi hq hc
        obtain ⟨k,rfl⟩:∃ q,k=q+1:=⟨k-1,by omega⟩
        obtain rfl:i=s.length:=by omega
        right
        refine ⟨by rw [zAO,lt_f];rfl,?_⟩
        rw [List.drop_length,List.take_length] at hc
        simpa [cmpA] using hc.symm
      | succ m ih=>
        intro i k q hm hk hi hq hc
        obtain ⟨k,rfl⟩:∃ q,k=q+1:=⟨k-1,by omega⟩
        have hlt:i<s.length:=by omega
        have hx:=List.getElem?_eq_getElem hlt
        have e1:((i:Int)-1)=((i-1:Nat):Int):=by omega
        rw [zAO,lt_t hlt,cond_true,ck_t (zB6 hlt),ck_t (zCM (by omega) (by omega)),e1,ck_t (zB6 (by omega)),zAa hx,zAa hq]
        have hc':=hc
        rw [zEg hx,cmpA] at hc
        cases hb:(s[i]==q)
        . rw [cond_false, ck_t (zC3 (by omega)), zAm]
          rw [hb,cond_false] at hc
          refine ih (i+1) k s[i] (by omega) (by omega) (by omega) (by rw [Nat.add_sub_cancel];exact hx) ?_
          have ht:s.take (i+1)=s.take i ++ [s[i]]:=by rw [List.take_add_one,hx];rfl
          rw [ht,List.append_assoc]
          exact hc
        . left
          rw [hb,cond_true] at hc
          obtain ⟨w',ys',h3,h4,h5,h6⟩:=zLQ (fu:=fu) hl hi (s.length-i-1) 1 i fu s s[i] (by omega) (by omega) (Nat.le_refl _) (by omega) rfl rfl (by rw [Nat.add_sub_cancel];exact hx) hc
          rw [cond_true,ck_t (zKi (Nat.le_of_lt hlt)),zCT,Int.toNat_natCast,Int.toNat_natCast,show ((1:Int))=((1:Nat):Int) from rfl,h3,zAA]
          simp only [h4,zBb.2 ⟨show (0:Int)<=(w':Int) by omega,show (w':Int)<=(s.length:Int) by omega,show (s.length:Int)<=(s.length:Int) from Int.le_refl _⟩,zCT,Int.toNat_natCast,zCf,beq_self_eq_true]
          have e3:(ys'.take w'++List.replicate (s.length-w') ((0:Int),(0:Int)))=(ys'.take w'++List.replicate (ys'.length-w') ((0:Int),(0:Int))):=by rw [h4]
          rw [e3,ck_t (by rw [zGK (by omega)];exact zKf (by omega)),zIf (by omega),h6]
    obtain ⟨x0,t,hs⟩:∃ x t,s=x::t:=by
      cases s with
      | nil=>simp at h2
      | cons x t=>exact ⟨x,t,rfl⟩
    have hk:=key (s.length-1) 1 fu x0 (by omega) (by omega) (by omega) (by rw [hs];rfl) (by rw [hs];rfl)
    rw [show ((1:Int))=((1:Nat):Int) from rfl]
    rcases hk with h | ⟨h,e⟩
    . rw [h]
      rfl
    . rw [h, e]
      rfl
def prsN (m:List Int) (i:Nat):List PrT:=(List.range i).flatMap fun q=>(m.drop (q+1)).map fun b=>(m.getD q 0,b)
theorem zIu (m:List Int) (i:Nat):prsN m (i+1)=prsN m i++(m.drop (i+1)).map fun b=>(m.getD i 0,b):=by
  unfold prsN
  rw [List.range_succ,List.flatMap_append]
  simp
theorem zIM {m : List Int} (h : m.length <= 12) : ∀ i, (prsN m i).length <= 12 * i
  | 0=>Nat.le_refl _
  | i+1=>by
    have:=zIM h i
    rw [zIu,List.length_append,List.length_map,List.length_drop]
    omega
theorem zNc {m:List Int} {i:Nat} (hi:i<=m.length) {p:PrT} (h:p ∈ prsN m i):p.1 ∈ m/\p.2 ∈ m:=by
  unfold prsN at h
  rw [List.mem_flatMap] at h
  obtain ⟨q,hq,h⟩:=h
  rw [List.mem_range] at hq
  obtain ⟨b,hb,rfl⟩:=List.mem_map.1 h
  have hlt:q<m.length:=by omega
  refine ⟨?_,List.mem_of_mem_drop hb⟩
  show m.getD q 0 ∈ m
  rw [List.getD_eq_getElem?_getD,List.getElem?_eq_getElem hlt]
  exact List.getElem_mem hlt
abbrev BlT:=List UInt8 × List Int
def prsB (most:Int) (b:BlT):List PrT:=bif decide (most<(b.2.length:Int)) then [] else prsN b.2 b.2.length
def BsOK (bs:List BlT):Prop:=bs.length<=2400/\∀ b ∈ bs,b.2.length<=12
theorem zNe {most:Int} {b:BlT} (h:b.2.length<=12):(prsB most b).length<=144:=by
  unfold prsB
  cases decide (most<(b.2.length:Int))
  . rw [cond_false]
    have:=zIM h b.2.length
    omega
  . exact Nat.zero_le _
theorem zHK {most : Int} : ∀ {bs : List BlT}, (∀ b ∈ bs, b.2.length <= 12) -> (bs.flatMap (prsB most)).length <= 144 * bs.length
  | [],_=>Nat.le_refl _
  | b::bs,h=>by
    have h1:=zHK (most:=most) (bs:=bs) fun c hc=>h c (List.mem_cons_of_mem _ hc)
    have h2:=zNe (most:=most) (h b List.mem_cons_self)
    rw [List.flatMap_cons,List.length_append,List.length_cons]
    omega
theorem zKn {most:Int} {bs:List BlT} {i:Nat} {b:BlT} (h:bs[i]? = some b):(bs.take (i+1)).flatMap (prsB most)=(bs.take i).flatMap (prsB most)++prsB most b:=by
  rw [List.take_add_one,h,Option.toList_some,List.flatMap_append]
  simp
theorem zLX {m:List Int} {i:Nat}:gtD m (i:Int)=m.getD i 0:=by
  unfold gtD
  rw [Int.toNat_natCast]
  rfl
theorem zJB {m:List Int} {i:Nat}:subL m ((i:Int)+1) (m.length:Int)=m.drop (i+1):=by
  rw [zAm,zFo]
theorem zOJ {fu : Nat} {bs : List BlT} {q i : Nat} {b : BlT} {acc : List PrT} (hf : 1048577 <= fu) (hb : bs[q]? = some b) (hm : b.2.length <= 12) (hi : i < b.2.length) (ha : acc.length <= 1000000) :
    zBe fu bs (q:Int) (i:Int) fu (0:Int) acc=some (acc++(b.2.drop (i+1)).map fun y=>(b.2.getD i 0,y)):=by
  refine zHJ (xs:=b.2.drop (i+1)) (f:=fun y=>(b.2.getD i 0,y)) (a0:=acc) (L:=zBe fu bs (q:Int) (i:Int)) (fun k j a y hy hacc=>?_) (fun k a=>?_) (by rw [List.length_drop];omega)
  . have hj := zCq hy
    have hl:(b.2.drop (i+1)).length<=12:=by rw [List.length_drop];omega
    rw [zBe,zAa hb,zJB,lt_t hj,cond_true,ck_t (zB6 hj),zAa hy,zLX,ck_t (zAj (by simp only [List.length_singleton];omega)),ck_t (zC3 (by omega)),zAm]
  . rw [zBe,zAa hb,zJB,lt_f,cond_false]
theorem zNV {fu : Nat} {bs : List BlT} {q : Nat} {b : BlT} {acc : List PrT} (hf : 1048577 <= fu) (hb : bs[q]? = some b) (hm : b.2.length <= 12) (ha : acc.length <= 500000) :
    zAy fu bs (q:Int) fu (0:Int) acc=some (acc++prsN b.2 b.2.length):=by
  have h:=zEb (L:=zAy fu bs (q:Int)) (n:=b.2.length) (r:=acc++prsN b.2 b.2.length) (fun i=>acc++prsN b.2 i) (fun k i hi=>?_) (fun k=>?_) (show b.2.length<fu by omega)
  . rw [<- h]
    congr 1
    show acc=acc ++ []
    rw [List.append_nil]
  . have hl := zIM hm i
    show zAy fu bs (q:Int) (k+1) (i:Int) (acc++prsN b.2 i)=zAy fu bs (q:Int) k ((i+1:Nat):Int) (acc++prsN b.2 (i+1))
    rw [zAy,zAa hb,lt_t hi,cond_true,ck_t (zB6 hi),ck_t (zC3 (by omega)),zAm,ck_t (zKi (by omega)),zOJ hf hb hm hi (by rw [List.length_append];omega),zAA,ck_t (zCM (by omega) (by omega)),zIu,List.append_assoc]
  . show zAy fu bs (q : Int) (k + 1) (b.2.length : Int) _ = _
    rw [zAy,zAa hb,lt_f,cond_false]
theorem zNb {fu:Nat} {bs:List BlT} {most:Int} (hf:1048577<=fu) (hb:BsOK bs):zAp fu most bs fu (0:Int) []=some (bs.flatMap (prsB most)):=by
  have hb1:=hb.1
  have h:=zEb (L:=zAp fu most bs) (n:=bs.length) (r:=bs.flatMap (prsB most)) (fun i=>(bs.take i).flatMap (prsB most)) (fun k i hi=>?_) (fun k=>?_) (show bs.length<fu by omega)
  . exact h
  . have hx := List.getElem?_eq_getElem hi
    have hm:=hb.2 _ (zDL hx)
    have hl:=zHK (most:=most) (bs:=bs.take i) fun c hc=>hb.2 c (List.mem_of_mem_take hc)
    have hl2:(bs.take i).length<=2400:=by rw [List.length_take];omega
    show zAp fu most bs (k+1) (i:Int) ((bs.take i).flatMap (prsB most))=zAp fu most bs k ((i+1:Nat):Int) ((bs.take (i+1)).flatMap (prsB most))
    rw [zAp,lt_t hi,cond_true,ck_t (zB6 hi),zAa hx,zKn hx]
    unfold prsB
    cases decide (most<(bs[i].2.length:Int))
    . rw [cond_false, zNV hf hx hm (by unfold prsB at hl; omega), zAA, ck_t (zC3 (by omega)), zAm]
      rfl
    . rw [cond_true,ck_t (zC3 (by omega)),zAm,cond_true,List.append_nil]
  . show zAp fu most bs (k + 1) (bs.length : Int) _ = _
    rw [zAp,lt_f,cond_false,List.take_length]
def zEX (bs:List BlT) (most:Int):List PrT:=cmpL ((bs.flatMap (prsB most)).mergeSort fun x y=>!(ltQ y x))
theorem zG0 (bs:List BlT) (most:Int):zDQ ltQ (zEX bs most):=zIw zIV (zIj zIV _)
theorem zHt {bs:List BlT} {most:Int} {p:PrT}:p ∈ zEX bs most ↔ p ∈ bs.flatMap (prsB most):=by
  unfold zEX
  rw [zLu,List.mem_mergeSort]
theorem zM9 {bs:List BlT} {most:Int} (hb:BsOK bs):(zEX bs most).length<=345600:=by
  have h1:=zHK (most:=most) hb.2
  have h2:=hb.1
  have h3:(zEX bs most).length<=(bs.flatMap (prsB most)).length:=by
    unfold zEX
    have:∀ l:List PrT,(cmpL l).length<=l.length:=fun l=>by
      cases l with
      | nil=>exact Nat.le_refl _
      | cons x xs=>have:=zH5 (p:=x) (l:=xs);simp [cmpL];omega
    have:=this ((bs.flatMap (prsB most)).mergeSort fun x y=>!(ltQ y x))
    rwa [List.length_mergeSort] at this
  omega
theorem zHb {rs:List RecT} (hok:OKs rs):BsOK (zBS rs):=⟨(zGd hok).1,fun b hb=>((zGd hok).2 b hb).2⟩
theorem zJ4 {fu:Nat} {rs:List RecT} {most:Int} (hf:1048577<=fu) (hl:rs.length<=1048576) (hok:OKs rs):zCQ fu rs most=some (zEX (zBS rs) most):=by
  have hb:=zHb hok
  have h1:=zHK (most:=most) hb.2
  have h2:=hb.1
  unfold zCQ
  rw [zJc hf hl hok,zAA,zNb hf hb,zAA]
  unfold zKC
  rw [ck_t (zAj (by omega)),zAA]
  have e:(fun x y:PrT=>!(ltP y x))=fun x y=>!(ltQ y x):=by
    funext x y
    rw [zPN]
  rw [e,zM8 hf (by rw [List.length_mergeSort];omega),zAA]
  rfl
theorem zPg {fu:Nat} {l:List PrT} {x:PrT} (hf:l.length<fu) (hl:l.length<=2147483648):zEi fu l x=some (putS ltQ l x):=by
  unfold zEi
  have h:=zLU (lt:=ltQ) (x:=x) (l:=l) (L:=zCn fu l x) (fun k i y hy=>by
    have hi:=zCq hy
    rw [zCn]
    simp only [lt_t hi,zB6 hi,zAa hy,zCT,Bool.or_true,Bool.true_and,zCf,zCp (show i<=4294967296 by omega),zAm,ltQ]) (fun k=>by rw [zCn,lt_f];rfl) hf
  have hp:=zNG (lt:=ltQ) (x:=x) l
  rw [h,zAA]
  simp only [zCT,zFp,zFo,zKf hp,zKi hp,zCf,List.length_nil,List.length_append,List.length_take,List.length_drop,List.length_singleton,List.nil_append,Nat.zero_add,zAj (show min (plc ltQ x l) l.length<=4294967296 by omega),zAj (show min (plc ltQ x l) l.length+1<=4294967296 by omega),zAj (show min (plc ltQ x l) l.length+1+(l.length-plc ltQ x l)<=4294967296 by omega)]
  have hins:l.take (plc ltQ x l) ++ [x]++l.drop (plc ltQ x l)=putW ltQ l x:=by simp [putW,zLB]
  rw [hins]
  unfold putS
  by_cases hlt:plc ltQ x l<l.length
  . have hg := List.getElem?_eq_getElem hlt
    rw [lt_t hlt,zB6 hlt,zAa hg,hg]
    have:(some l[plc ltQ x l]==some x)=(l[plc ltQ x l]==x):=rfl
    rw [this]
    cases (l[plc ltQ x l]==x) <;> rfl
  . have e : decide (((plc ltQ x l : Nat) : Int) < (l.length : Int)) = false := decide_eq_false (by omega)
    have e2:l[plc ltQ x l]? = none:=List.getElem?_eq_none (by omega)
    rw [e,e2]
    rfl
theorem zFC : ∀ (l a : List PrT), (l.foldl (putS ltQ) a).length <= a.length + l.length
  | [],a=>Nat.le_refl _
  | x::l,a=>by
    have h1:=zFC l (putS ltQ a x)
    have h2:(putS ltQ a x).length<=a.length+1:=by
      unfold putS putW
      cases (a[plc ltQ x a]? == some x)
      . rw [cond_false,zEO];exact Nat.le_refl _
      . exact Nat.le_succ _
    rw [List.foldl_cons,List.length_cons]
    omega
theorem zPC {σ ρ:Type} {L:Nat->Int->σ->Option ρ} {n s:Nat} {r:ρ} (St:Nat->σ) (hs:∀ k i,s<=i->i<n->L (k+1) (i:Int) (St i)=L k ((i+1:Nat):Int) (St (i+1))) (he:∀ k,L (k+1) (n:Int) (St n)=some r) (hsn:s<=n) {fu:Nat} (hf:n<fu):L fu (s:Int) (St s)=some r:=by
  have key:∀ m i k,i+m=n->s<=i->m<k->L k ((i:Nat):Int) (St i)=some r:=by
    intro m
    induction m with
    | zero=>
      intro i k hi hsi hk
      obtain ⟨k,rfl⟩:∃ q,k=q+1:=⟨k-1,by omega⟩
      obtain rfl:i=n:=by omega
      exact he k
    | succ m ih=>
      intro i k hi hsi hk
      obtain ⟨k,rfl⟩:∃ q,k=q+1:=⟨k-1,by omega⟩
      rw [hs k i hsi (by omega)]
      exact ih (i+1) k (by omega) (by omega) (by omega)
  exact key (n-s) s fu (by omega) (Nat.le_refl _) (by omega)
theorem zO5 {fu : Nat} {bs : List BlT} {q i : Nat} {b : BlT} {acc : List PrT} (hf : 1048577 <= fu) (hb : bs[q]? = some b) (hm : b.2.length <= 12) (hi : i < b.2.length) (ha : acc.length <= 1000000) :
    zAz fu bs (q:Int) (i:Int) fu ((i+1:Nat):Int) acc=some (((b.2.drop (i+1)).map fun y=>(b.2.getD i 0,y)).foldl (putS ltQ) acc):=by
  have h:=zPC (L:=zAz fu bs (q:Int) (i:Int)) (n:=b.2.length) (s:=i+1) (r:=((b.2.drop (i+1)).map fun y=>(b.2.getD i 0,y)).foldl (putS ltQ) acc) (fun j=>(((b.2.drop (i+1)).take (j-(i+1))).map fun y=>(b.2.getD i 0,y)).foldl (putS ltQ) acc) (fun k j hs hj=>?_) (fun k=>?_) (by omega) (show b.2.length<fu by omega)
  . rw [<- h, Nat.sub_self]
    rfl
  . have hx := List.getElem?_eq_getElem hj
    have hd:(b.2.drop (i+1))[j-(i+1)]? = some b.2[j]:=by rw [List.getElem?_drop,show i+1+(j-(i+1))=j by omega];exact hx
    have hlen:((((b.2.drop (i+1)).take (j-(i+1))).map fun y=>(b.2.getD i 0,y)).foldl (putS ltQ) acc).length<=1000012:=by
      have:=zFC (((b.2.drop (i+1)).take (j-(i+1))).map fun y=>(b.2.getD i 0,y)) acc
      rw [List.length_map,List.length_take] at this
      omega
    show zAz fu bs (q:Int) (i:Int) (k+1) (j:Int) ((((b.2.drop (i+1)).take (j-(i+1))).map fun y=>(b.2.getD i 0,y)).foldl (putS ltQ) acc)=zAz fu bs (q:Int) (i:Int) k ((j+1:Nat):Int) ((((b.2.drop (i+1)).take (j+1-(i+1))).map fun y=>(b.2.getD i 0,y)).foldl (putS ltQ) acc)
    rw [zAz,zAa hb,lt_t hj,cond_true,ck_t (zB6 hi),ck_t (zB6 hj),zLX,zAa hx,zPg (by omega) (by omega),zAA,ck_t (zC3 (by omega)),zAm]
    rw [show j+1-(i+1)=j-(i+1)+1 by omega,List.take_add_one,hd,Option.toList_some,List.map_append,List.foldl_append]
    rfl
  . show zAz fu bs (q : Int) (i : Int) (k + 1) (b.2.length : Int) _ = _
    rw [zAz,zAa hb,lt_f,cond_false,List.take_of_length_le (by rw [List.length_drop];exact Nat.le_refl _)]
theorem zNk {fu : Nat} {bs : List BlT} {q : Nat} {b : BlT} {most : Int} {acc : List PrT} (hf : 1048577 <= fu) (hb : bs[q]? = some b) (hm : b.2.length <= 12) (ha : acc.length <= 500000) :
    zAo fu most bs (q:Int) fu (0:Int) acc=some ((prsB most b).foldl (putS ltQ) acc):=by
  unfold prsB
  cases hd:decide (most<(b.2.length:Int)) with
  | true=>
    have hm':=of_decide_eq_true hd
    obtain ⟨k,rfl⟩:∃ k,fu=k+1:=⟨fu-1,by omega⟩
    rw [zAo,zAa hb,decide_eq_false (show ¬ (b.2.length:Int)<=most by omega),Bool.and_false,zCT,cond_false]
    rfl
  | false=>
    have hm':=of_decide_eq_false hd
    have h:=zEb (L:=zAo fu most bs (q:Int)) (n:=b.2.length) (r:=(prsN b.2 b.2.length).foldl (putS ltQ) acc) (fun i=>(prsN b.2 i).foldl (putS ltQ) acc) (fun k i hi=>?_) (fun k=>?_) (show b.2.length<fu by omega)
    . exact h
    . have hl := zIM hm i
      have hl2:=zFC (prsN b.2 i) acc
      show zAo fu most bs (q:Int) (k+1) (i:Int) ((prsN b.2 i).foldl (putS ltQ) acc)=zAo fu most bs (q:Int) k ((i+1:Nat):Int) ((prsN b.2 (i+1)).foldl (putS ltQ) acc)
      rw [zAo,zAa hb,lt_t hi,decide_eq_true (show (b.2.length:Int)<=most by omega),zCT,Bool.and_self,cond_true,ck_t (zC3 (by omega)),zAm,zO5 hf hb hm hi (by omega),zAA,ck_t (zCM (by omega) (by omega)),zIu,List.foldl_append]
    . show zAo fu most bs (q : Int) (k + 1) (b.2.length : Int) _ = _
      rw [zAo,zAa hb,lt_f,Bool.false_and,zCT,cond_false]
theorem zNX {fu:Nat} {bs:List BlT} {most:Int} (hf:1048577<=fu) (hb:BsOK bs):zAx fu most bs fu (0:Int) []=some ((bs.flatMap (prsB most)).foldl (putS ltQ) []):=by
  have hb1:=hb.1
  have h:=zEb (L:=zAx fu most bs) (n:=bs.length) (r:=(bs.flatMap (prsB most)).foldl (putS ltQ) []) (fun i=>((bs.take i).flatMap (prsB most)).foldl (putS ltQ) []) (fun k i hi=>?_) (fun k=>?_) (show bs.length<fu by omega)
  . exact h
  . have hx := List.getElem?_eq_getElem hi
    have hm:=hb.2 _ (zDL hx)
    have hl:=zHK (most:=most) (bs:=bs.take i) fun c hc=>hb.2 c (List.mem_of_mem_take hc)
    have hl2:(bs.take i).length<=2400:=by rw [List.length_take];omega
    have hl3:=zFC ((bs.take i).flatMap (prsB most)) []
    have hl3:(((bs.take i).flatMap (prsB most)).foldl (putS ltQ) []).length<=0+((bs.take i).flatMap (prsB most)).length:=hl3
    show zAx fu most bs (k+1) (i:Int) (((bs.take i).flatMap (prsB most)).foldl (putS ltQ) [])=zAx fu most bs k ((i+1:Nat):Int) (((bs.take (i+1)).flatMap (prsB most)).foldl (putS ltQ) [])
    rw [zAx,lt_t hi,cond_true,ck_t (zB6 hi),zNk hf hx hm (by omega),zAA,ck_t (zC3 (by omega)),zAm,zKn hx,List.foldl_append]
  . show zAx fu most bs (k + 1) (bs.length : Int) _ = _
    rw [zAx,lt_f,cond_false,List.take_length]
theorem zLL {fu:Nat} {rs:List RecT} {most:Int} (hf:1048577<=fu) (hl:rs.length<=1048576) (hok:OKs rs):zCt fu rs most=some (zEX (zBS rs) most):=by
  have hb:=zHb hok
  unfold zCt
  rw [zJZ hf hl hok,zAA,zNX hf hb,zAA]
  congr 1
  obtain ⟨h1,h2⟩:=zHs zIV ((zBS rs).flatMap (prsB most)) [] List.Pairwise.nil
  refine zFS zIV h1 (zG0 _ _) fun x=>?_
  rw [h2,zHt]
  simp
def Sm {α:Type} (o:Option α) (P:α->Prop):Prop:=∃ r,o=some r/\P r
section
variable {α β:Type}
theorem Sm.some {r:α} {P:α->Prop} (h:P r):Sm (some r) P:=⟨r,rfl,h⟩
theorem Sm.cl [Inhabited α] {o:Option α} {P:α->Prop} {k:α->Option β} {Q:β->Prop} (h:Sm o P) (hk:∀ r,P r->Sm (k r) Q):Sm (cl true o k) Q:=by
  obtain ⟨r,rfl,hr⟩:=h
  rw [zAA]
  exact hk r hr
theorem Sm.ck {o:Option α} {P:α->Prop} {b:Bool} (hb:b=true) (h:Sm o P):Sm (ck b o) P:=by rw [ck_t hb];exact h
theorem Sm.bd {e:α} {k:α->Option β} {Q:β->Prop} (h:Sm (k e) Q):Sm (bd e k) Q:=h
theorem Sm.bif {x y:Option α} {P:α->Prop} {b:Bool} (h1:b=true->Sm x P) (h2:b=false->Sm y P):Sm (bif b then x else y) P:=by
  cases b
  . exact h2 rfl
  . exact h1 rfl
theorem Sm.mono {o:Option α} {P Q:α->Prop} (h:Sm o P) (hq:∀ r,P r->Q r):Sm o Q:=let ⟨r,e,hr⟩:=h;⟨r,e,hq r hr⟩
end
abbrev TCur:=List Int × Int × Int
def COK (c:TCur):Prop:=c.1.length<=1048576/\(∀ x ∈ c.1,0<=x/\x<=255)/\0<=c.2.1
theorem zJt {n:Int} (h0:-9223372036854775808<=n) (h1:n<=9223372036854775807):IntKind.i64.wrap n=n:=IntWalk.i64_in _ (by omega)
theorem zMz (a:Int) {m:Nat} (hm:m<=4611686018427387904):0<=bitI (fun u v=>u &&& v) .i64 a (m:Int)/\bitI (fun u v=>u &&& v) .i64 a (m:Int)<=m:=by
  unfold bitI
  dsimp only
  have h:((BitVec.ofInt IntKind.i64.bits a) &&& (BitVec.ofInt IntKind.i64.bits (m:Int))).toNat<=m:=by
    rw [BitVec.toNat_and]
    refine Nat.le_trans Nat.and_le_right ?_
    rw [show (BitVec.ofInt IntKind.i64.bits (m:Int))=BitVec.ofNat IntKind.i64.bits m from BitVec.ofInt_natCast _ _,BitVec.toNat_ofNat]
    exact Nat.mod_le _ _
  rw [zJt (by omega) (by omega)]
  omega
theorem zIp {α:Type} [Inhabited α] {xs:List α} {i:Int} (h0:0<=i) (h1:i<xs.length):gtD xs i ∈ xs:=by
  obtain ⟨n,rfl⟩:∃ n:Nat,i=(n:Int):=⟨i.toNat,by omega⟩
  have hn:n<xs.length:=by omega
  rw [zAa (List.getElem?_eq_getElem hn)]
  exact List.getElem_mem hn
theorem zQE {fu:Nat} {b:List Int} (hf:1048577<=fu) (hb:b.length<=1048576) (hx:∀ x ∈ b,0<=x/\x<=255):Sm (zEy fu b) COK:=by
  unfold zEy
  refine .ck (zCM (by omega) (by omega)) ?_
  have key:∀ m i k (h:Int),i+m=b.length->m<k->0<=h->h<=1100000000->Sm (zCy fu b k h (i:Int)) fun _=>True:=by
    intro m
    induction m with
    | zero=>
      intro i k h hi hk h0 h1
      obtain ⟨k,rfl⟩:∃ q,k=q+1:=⟨k-1,by omega⟩
      obtain rfl:i=b.length:=by omega
      rw [zCy,lt_f]
      exact .some trivial
    | succ m ih=>
      intro i k h hi hk h0 h1
      obtain ⟨k,rfl⟩:∃ q,k=q+1:=⟨k-1,by omega⟩
      have hlt:i<b.length:=by omega
      have hm:=hx _ (zIp (xs:=b) (i:=(i:Int)) (by omega) (by omega))
      rw [zCy]
      refine .bd (.bif (fun _=>?_) fun _=>.some trivial)
      rw [zJt (n:=gtD b (i:Int)) (by omega) (by omega)]
      refine .ck (zCM (by omega) (by omega)) (.ck (zB6 hlt) (.ck (zCM (by omega) (by omega)) (.ck (zCM (by omega) (by omega)) (.ck (zC3 (by omega)) ?_))))
      have hq:=zMz (h*131+gtD b (i:Int)+7) (m:=1073741823) (by omega)
      exact ih (i+1) k _ (by omega) (by omega) hq.1 (Int.le_trans hq.2 (by omega))
  refine .cl (key b.length 0 fu _ (by omega) (by omega) (by omega) (by omega)) fun s _=>.some ⟨hb,hx,Int.le_refl _⟩
theorem zKS {fu:Nat} {c:TCur} (hc:COK c):Sm (zCo fu c) fun r=>COK r.2/\0<=r.1/\r.1<=255:=by
  unfold zCo
  refine .ck rfl (.ck rfl (.bif (fun h=>?_) fun h=>?_))
  . rw [decide_eq_true_eq] at h
    replace h:c.2.1<(c.1.length:Int):=h
    have hi:=hc.2.2
    have hl:=hc.1
    refine .ck (zCw.2 ⟨hi,h⟩) (.some ⟨⟨hl,hc.2.1,?_⟩,zMz _ (m:=255) (by omega)⟩)
    show 0<=IntKind.i64.wrap (c.2.1+1)
    rw [zJt (by omega) (by omega)]
    omega
  . exact .some ⟨⟨hc.1,hc.2.1,hc.2.2⟩,zMz _ (m:=255) (by omega)⟩
theorem zN0 {x n:Int} (h0:0<=x) (hn:0<n):0<=x.tmod n/\x.tmod n<n:=⟨Int.tmod_nonneg _ h0,Int.tmod_lt_of_pos _ hn⟩
theorem zFe {fu:Nat} {c:TCur} {n:Int} (hc:COK c):Sm (zBR fu c n) fun r=>COK r.2/\0<=r.1/\(0<n->r.1<n):=by
  unfold zBR
  refine .bif (fun h=>?_) fun h=>?_
  . rw [decide_eq_true_eq] at h
    exact .some ⟨hc,Int.le_refl _,fun h'=>by omega⟩
  . rw [decide_eq_false_iff_not] at h
    have hn:(n != 0)=true:=by simp;omega
    refine .bif (fun _=>?_) fun _=>?_
    . refine .cl (zKS hc) fun r hr => .ck hn (.some ?_)
      have:=zN0 (n:=n) hr.2.1 (by omega)
      exact ⟨hr.1,this.1,fun _=>this.2⟩
    . refine .cl (zKS hc) fun r1 h1 => .cl (zKS h1.1) fun r2 h2 => .cl (zKS h2.1) fun r3 h3 => .cl (zKS h3.1) fun r4 h4 => ?_
      have a1:=h1.2;have a2:=h2.2;have a3:=h3.2;have a4:=h4.2
      refine .ck (zCM (by omega) (by omega)) (.ck (zCM (by omega) (by omega)) (.ck (zCM (by omega) (by omega)) (.ck (zCM (by omega) (by omega)) (.ck (zCM (by omega) (by omega)) (.ck (zCM (by omega) (by omega)) (.ck hn (.some ?_)))))))
      have:=zN0 (x:=r1.1*16777216+r2.1*65536+r3.1*256+r4.1) (n:=n) (by omega) (by omega)
      exact ⟨h4.1,this.1,fun _=>this.2⟩
theorem zOW {fu:Nat} {c:TCur} {n:Int} (hc:COK c):Sm (zDz fu c n) fun r=>COK r.2:=by
  unfold zDz
  exact .cl (zFe hc) fun r hr=>.some hr.1
theorem zPh {fu:Nat} {c:TCur} {l:List (List UInt8)} (hc:COK c) (hl:0<l.length):Sm (zC5 fu c l) fun r=>COK r.2/\r.1 ∈ l:=by
  unfold zC5
  refine .cl (zFe hc) fun r hr=>?_
  have h1:=hr.2.2 (by omega)
  exact .ck (zCw.2 ⟨hr.2.1,h1⟩) (.some ⟨hr.1,zIp hr.2.1 h1⟩)
theorem zLE {fu:Nat} {c:TCur} {l:List (List UInt8)} (m:Nat) (hc:COK c) (hl:0<l.length) (hm:∀ s ∈ l,s.length<=m):Sm (zC5 fu c l) fun r=>COK r.2/\r.1.length<=m:=
  (zPh hc hl).mono fun r hr=>⟨hr.1,hm _ hr.2⟩
theorem zHY {fu:Nat} {c:TCur} {l:List Int} (hc:COK c) (hl:0<l.length):Sm (zCL fu c l) fun r=>COK r.2/\r.1 ∈ l:=by
  unfold zCL
  refine .cl (zFe hc) fun r hr=>?_
  have h1:=hr.2.2 (by omega)
  exact .ck (zCw.2 ⟨hr.2.1,h1⟩) (.some ⟨hr.1,zIp hr.2.1 h1⟩)
theorem lenS {l:List UInt8} (h:l.length<=4294967296):zBJ l.length=true:=zAj h
theorem zPd {fu:Nat} {c:TCur} (hc:COK c):Sm (zEU fu c) fun r=>COK r.2/\r.1.length<=40:=by
  unfold zEU
  refine .cl (zLE 10 hc (by decide) (by decide)) fun a ha=>.cl (zLE 10 ha.1 (by decide) (by decide)) fun b hb=>.cl (zFe hb.1) fun n hn=>?_
  have h1:=ha.2;have h2:=hb.2
  refine .bif (fun _=>?_) fun _=>.bif (fun _=>?_) fun _=>.bif (fun _=>?_) fun _=>?_
  . exact .ck (lenS (by simp;omega)) (.ck (lenS (by simp;omega)) (.some ⟨hn.1,by simp;omega⟩))
  . refine .ck (lenS (by simp; omega)) (.cl (zLE 10 hn.1 (by decide) (by decide)) fun p hp => ?_)
    have h3:=hp.2
    exact .ck (lenS (by simp;omega)) (.ck (lenS (by simp;omega)) (.ck (lenS (by simp;omega)) (.some ⟨hp.1,by simp;omega⟩)))
  . exact .some ⟨hn.1,by show a.1.length<=40;omega⟩
  . exact .ck (lenS (by simp;omega)) (.ck (lenS (by simp;omega)) (.some ⟨hn.1,by simp;omega⟩))
def RecS (r:RecT):Prop:=r.2.2.2.length<=4/\∀ s ∈ r.2.2.2,s.length<=40
theorem RecS.ok {r:RecT} (h:RecS r):zHm r:=⟨by have:=h.1;omega,fun s hs=>by have:=h.2 s hs;omega⟩
theorem zOr {fu:Nat} {c:TCur} (hc:COK c):Sm (zE6 fu c) fun r=>COK r.2/\r.1.length<=40:=by
  unfold zE6
  exact .cl (zLE 40 hc (by decide) (by decide)) fun a ha=>.some ha
theorem zNF {fu:Nat} {c:TCur} (hc:COK c):Sm (zDu fu c) fun r=>COK r.2/\r.1.length=4/\∀ s ∈ r.1,s.length<=40:=by
  unfold zDu
  refine .cl (zPd hc) fun a ha=>.cl (zLE 40 ha.1 (by decide) (by decide)) fun b hb=>.cl (zLE 40 hb.1 (by decide) (by decide)) fun d hd=>.cl (zOr hd.1) fun e he=>.some ⟨he.1,rfl,fun s hs=>?_⟩
  simp only [List.mem_cons,List.not_mem_nil,or_false] at hs
  rcases hs with rfl | rfl | rfl | rfl
  . exact ha.2
  . exact hb.2
  . exact hd.2
  . exact he.2
theorem zLn {fu:Nat} {c:TCur} (hc:COK c):Sm (zDP fu c) fun r=>COK r.2/\r.1.2.2.2.length=4/\∀ s ∈ r.1.2.2.2,s.length<=40:=by
  unfold zDP
  refine .cl (zFe hc) fun a ha=>.cl (zFe ha.1) fun b hb=>?_
  have b1:=hb.2.1;have b2:=hb.2.2 (by omega)
  refine .ck (zCM (by omega) (by omega)) (.cl (zFe hb.1) fun d hd=>?_)
  have d1:=hd.2.1;have d2:=hd.2.2 (by omega)
  exact .ck (zCM (by omega) (by omega)) (.cl (zNF hd.1) fun e he=>.some he)
theorem zNh {fu:Nat} {c:TCur} (hc:COK c):Sm (zEx fu c) fun r=>COK r.2/\RecS r.1:=by
  unfold zEx
  refine .cl (zLn hc) fun a ha=>?_
  obtain ⟨a1,a2,a3⟩:=ha
  have ra:RecS a.1:=⟨by omega,a3⟩
  refine .cl (zFe a1) fun b hb=>.bif (fun _=>?_) fun _=>.bif (fun _=>?_) fun _=>.bif (fun _=>?_) fun _=>.bif (fun _=>?_) fun _=>.bif (fun _=>?_) fun _=>?_
  . exact .cl (zHY hb.1 (by decide)) fun d hd=>.some ⟨hd.1,ra⟩
  . exact .cl (zHY hb.1 (by decide)) fun d hd=>.some ⟨hd.1,ra⟩
  . exact .cl (zHY hb.1 (by decide)) fun d hd=>.some ⟨hd.1,ra⟩
  . refine .ck (zBb.2 ⟨by omega, by omega, Int.le_refl _⟩) (.some ⟨hb.1, ?_, fun s hs => a3 s ?_⟩)
    . show (subL a.1.2.2.2 1 (a.1.2.2.2.length : Int)).length <= 4
      rw [show ((1:Int))=((1:Nat):Int) from rfl,zFo,List.length_drop]
      omega
    . have hs : s ∈ subL a.1.2.2.2 1 (a.1.2.2.2.length : Int) := hs
      rw [show ((1:Int))=((1:Nat):Int) from rfl,zFo] at hs
      exact List.mem_of_mem_drop hs
  . refine .cl (zLE 40 hb.1 (by decide) (by decide)) fun d hd => .ck (zCw.2 ⟨Int.le_refl _, by omega⟩) (.some ⟨hd.1, ?_, fun s hs => ?_⟩)
    . show (a.1.2.2.2.set _ _).length <= 4
      rw [List.length_set]
      omega
    . have hs : s ∈ a.1.2.2.2.set _ d.1 := hs
      rcases List.mem_or_eq_of_mem_set hs with hs | rfl
      . exact a3 s hs
      . exact hd.2
  . exact .some ⟨hb.1,ra⟩
def P4 (r:RecT):Prop:=r.2.2.2.length=4/\∀ s ∈ r.2.2.2,s.length<=40
theorem P4.s {r:RecT} (h:P4 r):RecS r:=⟨by have:=h.1;omega,h.2⟩
theorem zMi {fu : Nat} (hf : 1048577 <= fu) : ∀ (n k : Nat) (c : TCur) (acc : List RecT), n < k -> COK c -> acc.length + n <= 6 -> (∀ x ∈ acc, P4 x) -> Sm (zB9 fu k (n : Int) c acc) fun r => COK r.1 /\ r.2.length <= 6 /\ ∀ x ∈ r.2, P4 x
  | _,0,c,acc,hk,hc,hl,ha=>by omega
  | 0,k+1,c,acc,_,hc,hl,ha=>by
    rw [zB9,decide_eq_false (by omega),cond_false]
    exact .some ⟨hc,by show acc.length<=6;omega,ha⟩
  | n+1,k+1,c,acc,hk,hc,hl,ha=>by
    have go:∀ (c':TCur) (r:RecT),COK c'->P4 r->Sm (ck (zBJ (acc.length+([r]:List RecT).length))<|ck (i64B (((n+1:Nat):Int)-(1:Int)))<|zB9 fu k (((n+1:Nat):Int)-(1:Int)) c' (acc++([r]:List RecT))) fun r=>COK r.1/\r.2.length<=6/\∀ x ∈ r.2,P4 x:=fun c' r hc' hr=>by
      refine .ck (zAj (by simp only [List.length_singleton];omega)) (.ck (zCM (by omega) (by omega)) ?_)
      rw [zOU]
      refine zMi hf n k c' _ (by omega) hc' (by rw [List.length_append,List.length_singleton];omega) fun x hx=>?_
      rcases List.mem_append.1 hx with hx | hx
      . exact ha x hx
      . rw [List.mem_singleton.1 hx];exact hr
    rw [zB9,decide_eq_true (by omega),cond_true]
    refine .cl (zLn hc) fun x hx=>.bif (fun h0=>?_) fun _=>?_
    . have h0 := of_decide_eq_true h0
      refine .cl (zOW hx.1) fun y hy=>.bd (.bif (fun _=>?_) fun _=>go _ _ hy hx.2)
      refine .cl (zFe hy) fun z hz=>?_
      have z1:=hz.2.1
      have z2:=hz.2.2 (by omega)
      have hm:=ha _ (zIp z1 z2)
      refine .ck (zCw.2 ⟨z1,z2⟩) (.ck (zCw.2 ⟨Int.le_refl _,by rw [hm.1];decide⟩) (.ck (zCw.2 ⟨Int.le_refl _,by rw [hx.2.1];decide⟩) (go _ _ hz.1 ⟨?_,fun s hs=>?_⟩)))
      . show (x.1.2.2.2.set _ _).length = 4
        rw [List.length_set]
        exact hx.2.1
      . have hs : s ∈ x.1.2.2.2.set (0 : Int).toNat (gtD ((gtD acc z.1).2.2.2) (0 : Int)) := hs
        rcases List.mem_or_eq_of_mem_set hs with hs | rfl
        . exact hx.2.2 s hs
        . exact hm.2 _ (zIp (Int.le_refl _) (by rw [hm.1];decide))
    . exact go _ _ hx.1 hx.2
theorem zPb {fu:Nat} {c:TCur} (hf:1048577<=fu) (hc:COK c):Sm (zDR fu c) fun r=>COK r.2/\r.1.length<=7/\∀ x ∈ r.1,RecS x:=by
  unfold zDR
  refine .cl (zFe hc) fun a ha=>?_
  have a1:=ha.2.1
  have a2:=ha.2.2 (by omega)
  have hn:a.1=((a.1.toNat:Nat):Int):=by omega
  rw [hn]
  refine .cl (zMi hf a.1.toNat fu a.2 [] (by omega) ha.1 (by show 0+a.1.toNat<=6;omega) fun x hx=>by cases hx) fun d hd=>.cl (zOW hd.1) fun e he=>.bif (fun _=>?_) fun _=>.some ⟨he,by show d.2.length<=7;have:=hd.2.1;omega,fun x hx=>(hd.2.2 x hx).s⟩
  refine .cl (zNh he) fun g hg=>.ck (zAj (by have:=hd.2.1;simp only [List.length_singleton];omega)) (.some ⟨hg.1,?_,fun x hx=>?_⟩)
  . show (d.2 ++ [g.1]).length <= 7
    have:=hd.2.1
    rw [List.length_append,List.length_singleton]
    omega
  . have hx : x ∈ d.2 ++ [g.1] := hx
    rcases List.mem_append.1 hx with hx | hx
    . exact (hd.2.2 x hx).s
    . rw [List.mem_singleton.1 hx];exact hg.2
theorem zQ8 {fu:Nat} {b:List Int} (hf:1048577<=fu) (hb:b.length<=1048576) (hx:∀ x ∈ b,0<=x/\x<=255):Sm (zCY fu b) fun r=>r.1.length<=7/\OKs r.1/\0<=r.2/\r.2<=12:=by
  unfold zCY
  refine .cl (zQE hf hb hx) fun c hc=>.cl (zPb hf hc) fun d hd=>.cl (zHY hd.1 (by decide)) fun e he=>.some ⟨hd.2.1,fun r hr=>(hd.2.2 r hr).ok,?_⟩
  have h:=he.2
  simp only [List.mem_cons,List.not_mem_nil,or_false] at h
  show 0<=e.1/\e.1<=12
  omega
theorem zKq {fu:Nat} {r:RecT} (hf:1048577<=fu) (hok:zHm r):zBs fu r=some (kk r):=by
  obtain ⟨l,h1,_⟩:=zOR hok
  have e:kk r=l:=by unfold kk;rw [(h1 _ (Nat.le_refl _)).1];rfl
  rw [e]
  exact (h1 fu hf).2
theorem zLm (k : List UInt8) : ∀ (rs : List RecT) (i : Nat) (x : Int), x ∈ idxF k i rs -> ∃ (j : Nat) (r : RecT), rs[j]? = some r /\ x = ((i + j : Nat) : Int) /\ k ∈ kk r
  | [],i,x,h=>by cases h
  | r::rs,i,x,h=>by
    rw [idxF,List.mem_append] at h
    rcases h with h | h
    . cases ha : (kk r).any (fun y => y == k) with
      | false=>rw [ha] at h;cases h
      | true=>
        rw [ha,cond_true,List.mem_singleton] at h
        exact ⟨0,r,rfl,h,zNC.1 ha⟩
    . obtain ⟨j, r', h1, h2, h3⟩ := zLm k rs (i + 1) x h
      exact ⟨j+1,r',h1,by rw [h2];congr 1;omega,h3⟩
theorem zHo {rs:List RecT} {b:BlT} (h:b ∈ zBS rs) {x:Int} (hx:x ∈ b.2):∃ (j:Nat) (r:RecT),rs[j]? = some r/\x=(j:Int)/\b.1 ∈ kk r:=by
  unfold zBS at h
  cases hg:zI5 rs with
  | false=>rw [hg] at h;cases h
  | true=>
    rw [hg,cond_true] at h
    obtain ⟨k,_,rfl⟩:=List.mem_map.1 h
    obtain ⟨j,r,h1,h2,h3⟩:=zLm k rs 0 x hx
    exact ⟨j,r,h1,by rw [h2,Nat.zero_add],h3⟩
theorem zNO {rs:List RecT} {most:Int} {p:PrT} (h:p ∈ zEX (zBS rs) most):∃ (i j:Nat) (r s:RecT) (k:List UInt8),rs[i]? = some r/\rs[j]? = some s/\p.1=(i:Int)/\p.2=(j:Int)/\k ∈ kk r/\k ∈ kk s:=by
  rw [zHt,List.mem_flatMap] at h
  obtain ⟨b,hb,h⟩:=h
  unfold prsB at h
  cases hd:decide (most<(b.2.length:Int)) with
  | true=>rw [hd] at h;cases h
  | false=>
    rw [hd,cond_false] at h
    obtain ⟨h1,h2⟩:=zNc (Nat.le_refl _) h
    obtain ⟨i,r,i1,i2,i3⟩:=zHo hb h1
    obtain ⟨j,s,j1,j2,j3⟩:=zHo hb h2
    exact ⟨i,j,r,s,b.1,i1,j1,i2,j2,i3,j3⟩
theorem zMd {r:RecT} (hok:zHm r):(kk r).length<=200:=by
  obtain ⟨l,h1,h2,_⟩:=zOR hok
  have e:kk r=l:=by unfold kk;rw [(h1 _ (Nat.le_refl _)).1];rfl
  rw [e]
  exact h2
theorem zLq {fu:Nat} {r s:RecT} {k:List UInt8} (hf:1048577<=fu) (hr:zHm r) (hs:zHm s) (h1:k ∈ kk r) (h2:k ∈ kk s):zCu fu r s=some true:=by
  have l1:=zMd hr
  have l2:=zMd hs
  unfold zCu
  rw [zKq hf hr,zAA,zKq hf hs,zAA,zKb hf (by omega) (by omega),zAA]
  have:k ∈ (setL (kk r)).filter fun z=>(kk s).any fun w=>w==z:=List.mem_filter.2 ⟨zEu.2 h1,zNC.2 h2⟩
  have:=List.length_pos_of_mem this
  rw [decide_eq_true (by omega)]
theorem zNU {bs:List BlT} {most:Int} (hb:BsOK bs):(zEX bs most).length<=(zEX bs 12).length:=by
  have hs:∀ p,p ∈ zEX bs most->p ∈ zEX bs 12:=fun p hp=>by
    rw [zHt,List.mem_flatMap] at *
    obtain ⟨b,hbm,h⟩:=hp
    refine ⟨b,hbm,?_⟩
    unfold prsB at *
    rw [decide_eq_false (by have:=hb.2 b hbm;omega),cond_false]
    cases hd:decide (most<(b.2.length:Int)) with
    | true=>rw [hd] at h;cases h
    | false=>rw [hd] at h;exact h
  have e:zEX bs most=(zEX bs 12).filter fun p=>(zEX bs most).any fun q=>q==p:=by
    refine zFS zIV (zG0 _ _) ((zG0 _ _).sublist List.filter_sublist) fun p=>?_
    rw [List.mem_filter,List.any_eq_true]
    constructor
    . exact fun h=>⟨hs p h,p,h,beq_self_eq_true p⟩
    . rintro ⟨_, q, hq, e⟩
      rw [<- eq_of_beq e]
      exact hq
  rw [e]
  exact List.length_filter_le _ _
theorem zP7 {fu:Nat} {l:List (List UInt8)} (hf:1048577<=fu) (hl:l.length<=1048576):zDI fu l l=some true:=by
  unfold zDI
  rw [bne_self_eq_false,cond_false]
  have h:=zFE (xs:=l) (p:=fun _=>false) (r:=false) (L:=zBn fu l l) (fun k i x hx=>by
    have hi:=zCq hx
    rw [zBn,lt_t hi,cond_true,ck_t (zB6 hi),ck_t (zB6 hi),beq_self_eq_true,Bool.not_true,cond_false,ck_t (zC3 (by omega)),zAm,cond_false]) (fun k=>by rw [zBn,lt_f,cond_false]) (show l.length<fu by omega)
  rw [h,zAA]
  have:(l.any fun _=>false)=false:=by
    rw [List.any_eq_false]
    intro x _ h
    cases h
  rw [this]
  rfl
theorem zLv {most : Int} : ∀ (bs : List BlT) (a : Int), most < bs.foldl (fun m b => max m (b.2.length : Int)) a ↔ most < a \/ ∃ b ∈ bs, most < (b.2.length : Int)
  | [],a=>by simp
  | b::bs,a=>by
    rw [List.foldl_cons,zLv bs]
    constructor
    . rintro (h | ⟨c, hc, h⟩)
      . rcases Int.le_total a (b.2.length : Int) with h1 | h1
        . rw [Int.max_eq_right h1] at h
          exact .inr ⟨b,List.mem_cons_self,h⟩
        . rw [Int.max_eq_left h1] at h
          exact .inl h
      . exact .inr ⟨c,List.mem_cons_of_mem _ hc,h⟩
    . rintro (h | ⟨c, hc, h⟩)
      . exact .inl (Int.lt_of_lt_of_le h (Int.le_max_left _ _))
      . rcases List.mem_cons.1 hc with rfl | hc
        . exact .inl (Int.lt_of_lt_of_le h (Int.le_max_right _ _))
        . exact .inr ⟨c,hc,h⟩
theorem zMb {bs:List BlT} {most:Int} (h0:0<=most):decide ((0:Int)<((zHa bs most).length:Int))=decide (most<zHg bs):=by
  have e:(0:Int)<((zHa bs most).length:Int) ↔ most<zHg bs:=by
    unfold zHg
    rw [zLv]
    constructor
    . intro h
      have h1:0<(zHa bs most).length:=by omega
      obtain ⟨x,hx⟩:=List.exists_mem_of_length_pos h1
      obtain ⟨b,hb,_⟩:=List.mem_map.1 hx
      obtain ⟨hb1,hb2⟩:=List.mem_filter.1 hb
      exact .inr ⟨b,hb1,of_decide_eq_true hb2⟩
    . rintro (h | ⟨b, hb, h⟩)
      . omega
      . have : b.1 ∈ zHa bs most := List.mem_map.2 ⟨b, List.mem_filter.2 ⟨hb, decide_eq_true h⟩, rfl⟩
        have:=List.length_pos_of_mem this
        omega
  by_cases h:most<zHg bs
  . rw [decide_eq_true h,decide_eq_true (e.2 h)]
  . rw [decide_eq_false h,decide_eq_false fun h'=>h (e.1 h')]
theorem zOa {α:Type} (l:List α):(l.any fun _=>false)=false:=by
  rw [List.any_eq_false]
  intro x _ h
  cases h
theorem tff:(true&&(false==false))=true:=rfl
theorem zQB {fu:Nat} {d:List RecT × Int} {ps:List PrT} (hf:1048577<=fu) (hok:OKs d.1) (hl:d.1.length<=7) (hps:ps.length<=1048576) (hm:∀ p ∈ ps,p ∈ zEX (zBS d.1) d.2):zBy fu d ps ps fu (0:Int)=some (.go ()):=by
  have h:=zFE (xs:=ps) (p:=fun _=>false) (r:=false) (L:=zBy fu d ps ps) (fun k i p hp=>by
    have hi:=zCq hp
    obtain ⟨a,b,r,s,key,ha,hb,e1,e2,k1,k2⟩:=zNO (hm p (zDL hp))
    have ia:=zCq ha
    have ib:=zCq hb
    have s1:=zLq hf (hok r (zDL ha)) (hok s (zDL hb)) k1 k2
    have s2:=zLq hf (hok s (zDL hb)) (hok r (zDL ha)) k2 k1
    rw [zBy,lt_t hi,cond_true,ck_t (zB6 hi),zAa hp,beq_self_eq_true,Bool.not_true,tff,e1,e2,zB6 hi,zB6 ia,zB6 ib,zCf,Bool.or_true,zCf,zCf,zCf,zCf,zAa ha,zAa hb,s1,zAA,zCT,Bool.or_true,zCf,zCf,zCf,zCf,show (true&&((false || !true)==false))=true from rfl,s2,zAA,zCT,show ((false || !true) || !true)=false from rfl,cond_false,ck_t (zC3 (by omega)),zAm]
    rfl) (fun k=>by rw [zBy,lt_f,cond_false]) (show ps.length<fu by omega)
  rw [h,zOa]
  rfl
theorem zQ5 {fu q:Nat} {bs:List BlT} {b:BlT} {hk:List (List UInt8)} (hf:1048577<=fu) (hq:bs[q]? = some b) (hl:hk.length<=1048576) (hm:b.1 ∈ hk):zBO fu bs (q:Int) hk fu false (0:Int)=some true:=by
  have h:=(zCz (xs:=hk) (g:=fun (a:Bool) x=>a || (x==b.1)) (Inv:=fun _ _=>True) (L:=fun k i a=>zBO fu bs (q:Int) hk k a i) (fun k i a x hx _=>by
    have hi:=zCq hx
    show zBO fu bs (q:Int) hk (k+1) a (i:Int)=_
    rw [zBO,lt_t hi,cond_true,zB6 hi,zB6 (zCq hq),Bool.or_true,zCf,zCf,zAa hx,zAa hq,zCT,ck_t (zC3 (by omega)),zAm]) (fun _ _ _ _ _=>trivial) (fun k a _=>by show zBO fu bs (q:Int) hk (k+1) a (hk.length:Int)=_;rw [zBO,lt_f,cond_false]) (a:=false) trivial (show hk.length<fu by omega)).1
  rw [h]
  congr 1
  have key:∀ (l:List (List UInt8)) (a:Bool),(a=true\/b.1 ∈ l)->l.foldl (fun (a:Bool) x=>a || (x==b.1)) a=true:=by
    intro l
    induction l with
    | nil=>intro a ha;exact ha.elim id fun h=>by cases h
    | cons x l ih=>
      intro a ha
      rw [List.foldl_cons]
      refine ih _ ?_
      rcases ha with rfl | ha
      . exact .inl rfl
      . rcases List.mem_cons.1 ha with e | ha
        . left
          rw [e,beq_self_eq_true,Bool.or_true]
        . exact .inr ha
  exact key hk false (.inr hm)
theorem zQ4 {fu q:Nat} {d:List RecT × Int} {b:BlT} (hf:1048577<=fu) (hok:OKs d.1) (hq:(zBS d.1)[q]? = some b) (hb:b.2.length<=12):zBz fu d (zBS d.1) (q:Int) fu (0:Int)=some (.go ()):=by
  have h:=zFE (xs:=b.2) (p:=fun _=>false) (r:=false) (L:=zBz fu d (zBS d.1) (q:Int)) (fun k i x hx=>by
    have hi:=zCq hx
    obtain ⟨j,r,hj,e,hk⟩:=zHo (zDL hq) (zDL hx)
    have hro:=hok r (zDL hj)
    have hkl:=zMd hro
    rw [zBz,ck_t (zB6 (zCq hq)),zAa hq,lt_t hi,cond_true,ck_t (zB6 (zCq hq)),ck_t (zB6 hi),zAa hx,e,ck_t (zB6 (zCq hj)),zAa hj,zKq hf hro,zAA,zQ5 hf hq (by omega) hk,zAA,Bool.not_true,cond_false,ck_t (zC3 (by omega)),zAm,cond_false]) (fun k=>by rw [zBz,ck_t (zB6 (zCq hq)),zAa hq,lt_f,cond_false]) (show b.2.length<fu by omega)
  rw [h,zOa]
  rfl
theorem zQ0 {fu:Nat} {d:List RecT × Int} (hf:1048577<=fu) (hok:OKs d.1):zBE fu d (zBS d.1) fu (0:Int) (0:Int)=some (.go (zHg (zBS d.1))):=by
  obtain ⟨hb1,hb2⟩:=zHb hok
  have h:=zEb (L:=fun k i (a:Int)=>zBE fu d (zBS d.1) k a i) (n:=(zBS d.1).length) (r:=Ex.go (zHg (zBS d.1))) (fun i=>zHg ((zBS d.1).take i)) (fun k i hi=>?_) (fun k=>?_) (show (zBS d.1).length<fu by omega)
  . exact h
  . have hx := List.getElem?_eq_getElem hi
    show zBE fu d (zBS d.1) (k+1) (zHg ((zBS d.1).take i)) (i:Int)=zBE fu d (zBS d.1) k (zHg ((zBS d.1).take (i+1))) ((i+1:Nat):Int)
    rw [zBE,lt_t hi,cond_true,zQ4 hf hok hx (hb2 _ (zDL hx)),zAA,zHl,ck_t (zB6 hi),zAa hx,ck_t (zC3 (by omega)),zAm,List.take_add_one,hx,Option.toList_some]
    unfold zHg
    rw [List.foldl_append]
    rfl
  . show zBE fu d (zBS d.1) (k + 1) _ ((zBS d.1).length : Int) = _
    rw [zBE,lt_f,cond_false,List.take_length]
theorem zKV {fu:Nat} {b:List Int} (hf:1048577<=fu) (hx:∀ x ∈ b,0<=x/\x<=255):zEk fu b=some true:=by
  unfold zEk zGi
  rw [zAA]
  cases hl:decide ((1048576:Int)<(b.length:Int))
  . rw [decide_eq_false_iff_not] at hl
    have hb:b.length<=1048576:=by omega
    rw [cond_false]
    obtain ⟨d,hd,hn,hok,m0,m1⟩:=zQ8 hf hb hx
    have hbs:=zHb hok
    have hlen:d.1.length<=1048576:=by omega
    have hpl:=zM9 (most:=d.2) hbs
    have hle:=zNU (most:=d.2) hbs
    have hol:(zHa (zBS d.1) d.2).length<=1048576:=by
      have h1:(zHa (zBS d.1) d.2).length<=(zBS d.1).length:=by unfold zHa;rw [List.length_map];exact List.length_filter_le _ _
      have:=hbs.1
      omega
    obtain ⟨l1,l2⟩:=zMp hf hlen hok
    obtain ⟨o1,o2⟩:=zPP (most:=d.2) hf hlen hok
    rw [hd,zAA,zJ4 hf hlen hok,zAA,zLL hf hlen hok,zAA,zJ4 hf hlen hok,zAA,bne_self_eq_false,decide_eq_false (show ¬ ((zEX (zBS d.1) 12).length:Int)<((zEX (zBS d.1) d.2).length:Int) by omega),Bool.or_self,zCT,tff,l2,zAA,l1,zAA,bne_self_eq_false,Bool.or_self,zCT,tff,o2,zAA,o1,zAA,zP7 hf hol,zAA,Bool.not_true,Bool.or_self,zCT,cond_false,zQB hf hok hn (by omega) (fun p hp=>hp),zAA,zHl,zJc hf hlen hok,zAA,zQ0 hf hok,zAA,zHl,zAA,beq_self_eq_true,show (true&&(true==true))=true from rfl,zJZ hf hlen hok,zAA,beq_self_eq_true,Bool.and_self,zCT,show (true&&(true==true))=true from rfl,zAA,zCT,zMb m0,beq_self_eq_true,Bool.and_self]
  . rw [cond_true]
end Go.Proofs.YtldppodfhabkjaaGreatDoor
