/- Own texts laid together. No statement of the seat is proved here. -/
import Derived.Test.YtmgiijdejigdhaaGreatZx6
namespace Go.Proofs.YtmgiijdejigdhaaGreat
open Go.RowKit
set_option linter.unusedVariables false
set_option linter.unusedSimpArgs false
theorem zFX {α:Type} (xs:List α) (k:Nat):subL xs 0 (k:Int)=xs.take k:=by simp [subL]
theorem zHM {α:Type} (xs:List α) (k:Nat):subL xs (k:Int) (xs.length:Int)=xs.drop k:=by
  unfold subL
  rw [Int.toNat_natCast,Int.toNat_natCast]
  exact List.take_of_length_le (by simp)
theorem zIU {α:Type} {xs:List α} {k:Nat} (h:k<=xs.length):subR 0 (k:Int) xs.length=true:=zDM.2 ⟨by omega,by omega,by omega⟩
theorem zJH {α:Type} {xs:List α} {k:Nat} (h:k<=xs.length):subR (k:Int) (xs.length:Int) xs.length=true:=zDM.2 ⟨by omega,by omega,by omega⟩
theorem zNF {α : Type} {lt : α -> α -> Bool} {x : α} {l : List α} {L : Nat -> Int -> Option Int} (hs : ∀ k (i : Nat) y, l[i]? = some y -> L (k + 1) (i : Int) = bif lt y x then L k ((i + 1 : Nat) : Int) else some (i : Int)) (he : ∀ k, L (k + 1) (l.length : Int) = some (l.length : Int)) {fu : Nat} (hf : l.length < fu) :
    L fu (0:Int)=some ((plc lt x l:Nat):Int):=by
  have key:∀ m i k,i+m=l.length->m<k->L k ((i:Nat):Int)=some ((i+plc lt x (l.drop i):Nat):Int):=by
    intro m
    induction m with
    | zero=>
      intro i k hi hk
      obtain ⟨k,rfl⟩:∃ q,k=q+1:=⟨k-1,by omega⟩
      obtain rfl:i=l.length:=by omega
      rw [he,List.drop_length]
      rfl
    | succ m ih=>
      intro i k hi hk
      obtain ⟨k,rfl⟩:∃ q,k=q+1:=⟨k-1,by omega⟩
      have hx:=List.getElem?_eq_getElem (show i<l.length by omega)
      rw [hs k i _ hx,zDK hx,plc]
      cases lt l[i] x
      . rfl
      . rw [cond_true, cond_true, ih (i + 1) k (by omega) (by omega)]
        congr 2
        omega
  have:=key l.length 0 fu (by omega) hf
  rwa [show ((0:Nat):Int)=0 from rfl,List.drop_zero,Nat.zero_add] at this
theorem zM1 {fu:Nat} {l:List (List UInt8)} {x:List UInt8} {tw:Bool} (hf:l.length<fu) (hl:l.length<=2147483648):zDA fu l x tw=some (bif tw then putW bLt l x else putS bLt l x):=by
  unfold zDA
  have h:=zNF (lt:=bLt) (x:=x) (l:=l) (L:=zCr fu l x) (fun k i y hy=>by
    have hi:=zCk hy
    rw [zCr]
    simp only [lt_t hi,zBN hi,zAa hy,zBw,Bool.or_true,Bool.true_and,zDp,zD8 (show i<=4294967296 by omega),zBW]) (fun k=>by rw [zCr,lt_f];rfl) hf
  have hp:=zO0 (lt:=bLt) (x:=x) l
  rw [h,zAD]
  simp only [zBw,zFX,zHM,zIU hp,zJH hp,zDp,List.length_nil,List.length_append,List.length_take,List.length_drop,List.length_singleton,List.nil_append,Nat.zero_add,zBn (show min (plc bLt x l) l.length<=4294967296 by omega),zBn (show min (plc bLt x l) l.length+1<=4294967296 by omega),zBn (show min (plc bLt x l) l.length+1+(l.length-plc bLt x l)<=4294967296 by omega)]
  have hins:l.take (plc bLt x l) ++ [x]++l.drop (plc bLt x l)=putW bLt l x:=by simp [putW,zKG]
  rw [hins]
  unfold putS
  by_cases hlt:plc bLt x l<l.length
  . have hg := List.getElem?_eq_getElem hlt
    rw [lt_t hlt,zBN hlt,zAa hg,hg]
    have:(some l[plc bLt x l]==some x)=(l[plc bLt x l]==x):=rfl
    rw [this]
    cases tw <;> cases (l[plc bLt x l]==x) <;> rfl
  . have e : decide (((plc bLt x l : Nat) : Int) < (l.length : Int)) = false := decide_eq_false (by omega)
    have e2:l[plc bLt x l]? = none:=List.getElem?_eq_none (by omega)
    rw [e,e2]
    cases tw <;> rfl
theorem zOj {fu:Nat} {l:List (List UInt8)} {x:List UInt8} (hf:l.length<fu) (hl:l.length<=2147483648):zEE fu l x=some (l.any fun y=>y==x):=by
  unfold zEE
  have h:=zFr (xs:=l) (p:=fun y=>y==x) (r:=true) (L:=zCx fu l x) (fun k i y hy=>by
    have hi:=zCk hy
    rw [zCx,lt_t hi,cond_true]
    simp only [zBN hi,zAa hy,zDp,zD8 (show i<=4294967296 by omega),zBW]) (fun k=>by rw [zCx,lt_f];rfl) hf
  rw [h,zAD]
  cases l.any fun y=>y==x <;> rfl
theorem zOG {l:List (List UInt8)} {x:List UInt8}:(l.any fun y=>y==x)=true ↔ x ∈ l:=by simp
theorem zI1 {fu:Nat} {a b:List (List UInt8)} (hf:1048577<=fu) (ha:a.length<=1048576) (hb:b.length<=1048576):zBx fu a b=some ((a.filter fun x=>b.any fun y=>y==x).foldl (putS bLt) []):=by
  unfold zBx
  have h:=zDl (xs:=a) (g:=fun (acc:List (List UInt8)) x=>bif (b.any fun y=>y==x) then putS bLt acc x else acc) (Inv:=fun i acc=>acc.length<=i) (L:=fun k i acc=>zAq fu a b k i acc) (fun k i acc x hx hacc=>by
    have hi:=zCk hx
    show zAq fu a b (k+1) (i:Int) acc=_
    rw [zAq,lt_t hi,cond_true]
    simp only [zBN hi,zAa hx,zDp,zOj (show b.length<fu by omega) (show b.length<=2147483648 by omega),zM1 (show acc.length<fu by omega) (show acc.length<=2147483648 by omega),zAD,zD8 (show i<=4294967296 by omega),zBW,cond_false]
    cases b.any fun y=>y==x <;> rfl) (fun i acc x hx hacc=>by
    show (bif (b.any fun y=>y==x) then putS bLt acc x else acc).length<=i+1
    cases b.any fun y=>y==x
    . exact Nat.le_succ_of_le hacc
    . rw [cond_true]
      unfold putS putW
      cases (acc[plc bLt x acc]? == some x)
      . rw [cond_false,zEJ];omega
      . exact Nat.le_succ_of_le hacc) (fun k acc hacc=>by show zAq fu a b (k+1) (a.length:Int) acc=_;rw [zAq,lt_f];rfl) (a:=[]) (Nat.zero_le _) (show a.length<fu by omega)
  rw [h.1,zAD,List.foldl_filter]
  congr 1
  have:(fun (acc:List (List UInt8)) x=>bif (b.any fun y=>y==x) then putS bLt acc x else acc)=fun acc x=>if (b.any fun y=>y==x)=true then putS bLt acc x else acc:=by
    funext acc x
    cases b.any fun y=>y==x <;> rfl
  rw [this]
theorem zIf {fu:Nat} {l:List (List UInt8)} (hl:l.length<=4294967296):zAQ fu l=some l:=by
  unfold zAQ
  rw [List.nil_append,ck_t (zBn (by simpa using hl))]
theorem zLB {fu:Nat} {l:List (List UInt8)} (hl:l.length<=4294967296):zHc fu l=some (l.mergeSort fun x y=>!(bLt y x)):=by
  unfold zHc
  rw [ck_t (zBn hl)]
  have:(fun x y:List UInt8=>decide (x<=y))=fun x y=>!(bLt y x):=by
    funext x y
    exact zOo x y
  rw [this]
theorem zLw {fu:Nat} {l:List (List UInt8)} {x:List UInt8} (hf:l.length<fu) (hl:l.length<=2147483648):zBF fu l x=some (l.any fun y=>y==x):=by
  unfold zBF zC6
  have h:=zMV (xs:=l) (p:=fun y=>x==y) (L:=zAk fu l x) (fun k i y hy=>by
    have hi:=zCk hy
    rw [zAk,lt_t hi,cond_true]
    simp only [zBN hi,zAa hy,zDp,zD8 (show i<=4294967296 by omega),zBW]) (fun k=>by rw [zAk,lt_f];rfl) hf
  rw [h,zAD]
  have hc:(fun y:List UInt8=>x==y)=fun y=>y==x:=by
    funext y
    exact Bool.beq_comm
  rw [hc]
  cases hi:ixI 0 (l.map fun y=>y==x) with
  | none=>
    have h2:=zJm hi
    have:(l.any fun y=>y==x)=false:=by
      rw [List.any_eq_false]
      intro y hy
      have:=h2 (y==x) (List.mem_map_of_mem hy)
      simp [this]
    rw [this]
    rfl
  | some j=>
    obtain ⟨_,h2,_⟩:=zJi hi
    have:(l.any fun y=>y==x)=true:=by
      rw [Nat.sub_zero,List.getElem?_map] at h2
      obtain ⟨y,hy,e⟩:=Option.map_eq_some_iff.1 h2
      rw [List.any_eq_true]
      exact ⟨y,List.mem_of_getElem? hy,e⟩
    rw [this]
    show some (decide (0<=(j:Int)))=some true
    rw [decide_eq_true (by omega)]
theorem zKZ {α:Type} {z:α} {s:List α} {w:Nat} (h:w<=s.length):subL (s.take w++List.replicate (s.length-w) z) 0 (w:Int)=s.take w:=by
  rw [zFX,List.take_append_of_le_length (by simp;omega),List.take_take,Nat.min_self]
theorem zI4 {α:Type} {z:α} {s:List α} {w:Nat} (h:w<=s.length):(s.take w++List.replicate (s.length-w) z).length=s.length:=by simp;omega
theorem zM8 {fu : Nat} {s : List (List UInt8)} {i : Nat} (hl : s.length <= 1048576) (hi0 : 0 < i) : ∀ m j w k ys q, i + j + m = s.length -> m < k -> 1 <= j -> w <= i + j - 1 -> ys.length = s.length -> ys.drop (i + j - 1) = s.drop (i + j - 1) -> s[i + j - 1]? = some q -> ys.take w ++ cmpA q (s.drop (i + j)) = cmpL s ->
    ∃ (w':Nat) (ys':List (List UInt8)),zAZ fu (i:Int) (s.length-i) k (w:Int) (j:Int) ys=some ((w':Int),ys')/\ys'.length=s.length/\w'<=s.length/\ys'.take w'=cmpL s:=by
  intro m
  induction m with
  | zero=>
    intro j w k ys q hm hk hj hw hlen hdr hq hc
    obtain ⟨k,rfl⟩:∃ q,k=q+1:=⟨k-1,by omega⟩
    refine ⟨w,ys,?_,hlen,by omega,?_⟩
    . rw [zAZ, decide_eq_false (show ¬ (j : Int) < ((s.length - i : Nat) : Int) by omega)]
      rfl
    . rw [show i + j = s.length by omega, List.drop_length] at hc
      simpa [cmpA] using hc
  | succ m ih=>
    intro j w k ys q hm hk hj hw hlen hdr hq hc
    obtain ⟨k,rfl⟩:∃ q,k=q+1:=⟨k-1,by omega⟩
    have hx:=List.getElem?_eq_getElem (show i+j<s.length by omega)
    have hat:∀ n,i+j-1<=n->ys[n]? = s[n]?:=fun n hn=>by
      have:=congrArg (fun l=>l[n-(i+j-1)]?) hdr
      simp only [List.getElem?_drop] at this
      rwa [show i+j-1+(n-(i+j-1))=n by omega] at this
    have hyx:ys[i+j]? = some s[i+j]:=(hat _ (by omega)).trans hx
    have hyq:ys[i+j-1]? = some q:=(hat _ (Nat.le_refl _)).trans hq
    have e1:((i:Int)+(j:Int))=((i+j:Nat):Int):=rfl
    have e2:((i:Int)+((j:Int)-1))=((i+j-1:Nat):Int):=by omega
    rw [zAZ,decide_eq_true (show (j:Int)<((s.length-i:Nat):Int) by omega),cond_true,ck_t (zNT (by omega) (by omega)),ck_t (decide_eq_true (by omega)),e1,ck_t (zBN (by omega)),ck_t (zBm (by omega) (by omega)),ck_t (zNT (by omega) (by omega)),ck_t (decide_eq_true (by omega)),e2,ck_t (zBN (by omega)),zAa hyx,zAa hyq]
    rw [zDK hx,cmpA] at hc
    cases hb:(s[i+j]==q)
    . rw [Bool.not_false, cond_true, ck_t (zNT (by omega) (by omega)), ck_t (decide_eq_true (by omega)), ck_t (zBN (by omega)), ck_t (zBN (by omega)), ck_t (zDs (by omega)), ck_t (zDs (by omega)), zBW, zBW, zMw]
      rw [hb,cond_false] at hc
      have:=ih (j+1) (w+1) k (ys.set w s[i+j]) s[i+j] (by omega) (by omega) (by omega) (by omega) (by rw [List.length_set];exact hlen) ?_ ?_ ?_
      . exact this
      . rw [List.drop_set_of_lt (by omega)]
        have:=congrArg (fun l=>l.drop 1) hdr
        simp only [List.drop_drop] at this
        rwa [show i+(j+1)-1=i+j-1+1 by omega]
      . rw [show i + (j + 1) - 1 = i + j by omega]
        exact hx
      . rw [List.take_add_one, List.take_set_of_le (Nat.le_refl _), List.getElem?_set_self (by omega)]
        simpa [Nat.add_assoc] using hc
    . rw [Bool.not_true, cond_false, ck_t (zDs (by omega)), zBW]
      rw [hb,cond_true] at hc
      refine ih (j+1) w k ys s[i+j] (by omega) (by omega) (by omega) (by omega) hlen ?_ ?_ hc
      . have := congrArg (fun l => l.drop 1) hdr
        simp only [List.drop_drop] at this
        rwa [show i+(j+1)-1=i+j-1+1 by omega]
      . rw [show i + (j + 1) - 1 = i + j by omega]
        exact hx
theorem zMM {fu:Nat} {s:List (List UInt8)} (hf:1048577<=fu) (hl:s.length<=1048576):zBK fu s=some (cmpL s):=by
  unfold zBK
  by_cases h2:s.length<2
  . rw [decide_eq_true (by omega), cond_true]
    match s,h2 with
    | [],_=>rfl
    | [x],_=>rfl
  . rw [decide_eq_false (by omega), cond_false]
    have key : ∀ m i k q, i + m = s.length -> m < k -> 0 < i -> s[i - 1]? = some q -> s.take i ++ cmpA q (s.drop i) = cmpL s ->
        zAY fu k (i:Int) s=some (Ex.ret (cmpL s))\/(zAY fu k (i:Int) s=some (Ex.go s)/\cmpL s=s):=by
      intro m
      induction m with
      | zero=>
        intro i k q hm hk hi hq hc
        obtain ⟨k,rfl⟩:∃ q,k=q+1:=⟨k-1,by omega⟩
        obtain rfl:i=s.length:=by omega
        right
        refine ⟨by rw [zAY,lt_f];rfl,?_⟩
        rw [List.drop_length,List.take_length] at hc
        simpa [cmpA] using hc.symm
      | succ m ih=>
        intro i k q hm hk hi hq hc
        obtain ⟨k,rfl⟩:∃ q,k=q+1:=⟨k-1,by omega⟩
        have hlt:i<s.length:=by omega
        have hx:=List.getElem?_eq_getElem hlt
        have e1:((i:Int)-1)=((i-1:Nat):Int):=by omega
        rw [zAY,lt_t hlt,cond_true,ck_t (zBN hlt),ck_t (zBm (by omega) (by omega)),e1,ck_t (zBN (by omega)),zAa hx,zAa hq]
        have hc':=hc
        rw [zDK hx,cmpA] at hc
        cases hb:(s[i]==q)
        . rw [cond_false, ck_t (zDs (by omega)), zBW]
          rw [hb,cond_false] at hc
          refine ih (i+1) k s[i] (by omega) (by omega) (by omega) (by rw [Nat.add_sub_cancel];exact hx) ?_
          have ht:s.take (i+1)=s.take i ++ [s[i]]:=by rw [List.take_add_one,hx];rfl
          rw [ht,List.append_assoc]
          exact hc
        . left
          rw [hb,cond_true] at hc
          obtain ⟨w',ys',h3,h4,h5,h6⟩:=zM8 (fu:=fu) hl hi (s.length-i-1) 1 i fu s s[i] (by omega) (by omega) (Nat.le_refl _) (by omega) rfl rfl (by rw [Nat.add_sub_cancel];exact hx) hc
          rw [cond_true,ck_t (zJH (Nat.le_of_lt hlt)),zBw,Int.toNat_natCast,Int.toNat_natCast,show ((1:Int))=((1:Nat):Int) from rfl,h3,zAD]
          simp only [h4,zDM.2 ⟨show (0:Int)<=(w':Int) by omega,show (w':Int)<=(s.length:Int) by omega,show (s.length:Int)<=(s.length:Int) from Int.le_refl _⟩,zBw,Int.toNat_natCast,zDp,beq_self_eq_true]
          have e3:(ys'.take w'++List.replicate (s.length-w') ([]:List UInt8))=(ys'.take w'++List.replicate (ys'.length-w') ([]:List UInt8)):=by rw [h4]
          rw [e3,ck_t (by rw [zI4 (by omega)];exact zIU (by omega)),zKZ (by omega),h6]
    obtain ⟨x0,t,hs⟩:∃ x t,s=x::t:=by
      cases s with
      | nil=>simp at h2
      | cons x t=>exact ⟨x,t,rfl⟩
    have hk:=key (s.length-1) 1 fu x0 (by omega) (by omega) (by omega) (by rw [hs];rfl) (by rw [hs];rfl)
    rw [show ((1:Int))=((1:Nat):Int) from rfl]
    rcases hk with h | ⟨h,e⟩
    . rw [h]
      rfl
    . rw [h, e]
      rfl
theorem zL2 {fu:Nat} {l:List (List UInt8)} (hf:1048577<=fu) (hl:l.length<=1048576):zDX fu l=some (cmpL (l.mergeSort fun x y=>!(bLt y x))):=by
  unfold zDX
  rw [zIf (by omega),zAD,zLB (by omega),zAD,zMM hf (by rw [List.length_mergeSort];exact hl)]
  rfl
def setL (l:List (List UInt8)):List (List UInt8):=cmpL (l.mergeSort fun x y=>!(bLt y x))
theorem zHG (l:List (List UInt8)):zBo bLt (setL l):=zKz zCf (zEj zCf l)
theorem zGb {l:List (List UInt8)} {x:List UInt8}:x ∈ setL l ↔ x ∈ l:=by
  unfold setL
  rw [zNH,List.mem_mergeSort]
theorem zKw {l:List (List UInt8)}:(cmpL l).length<=l.length:=by
  cases l with
  | nil=>exact Nat.le_refl _
  | cons x xs=>
    have:=zIh (p:=x) (l:=xs)
    simp [cmpL]
    omega
theorem zIX (l:List (List UInt8)):(setL l).length<=l.length:=by
  have:=zKw (l:=l.mergeSort fun x y=>!(bLt y x))
  rwa [List.length_mergeSort] at this
theorem zK5 {fu:Nat} {s:List (List UInt8)} {F:List UInt8->Option Bool} {d:List UInt8->Bool} (hf:1048577<=fu) (hl:s.length<=1048576) (hF:∀ x ∈ s,F x=some (d x)):zAz fu s F=some (s.filter fun x=>!(d x)):=by
  unfold zAz zBZ
  have h:=zMV (xs:=s) (p:=d) (L:=zAb fu s F) (fun k i y hy=>by
    have hi:=zCk hy
    rw [zAb,lt_t hi,cond_true]
    simp only [zBN hi,zAa hy,zDp,hF y (zCn hy),zAD,zD8 (show i<=4294967296 by omega),zBW]) (fun k=>by rw [zAb,lt_f];rfl) (show s.length<fu by omega)
  rw [h,zAD]
  cases hix:ixI 0 (s.map d) with
  | none=>
    have h2:=zJm hix
    show (cl true (some (-1:Int)) fun x1=>_)=_
    rw [zAD]
    show some s=_
    congr 1
    symm
    rw [List.filter_eq_self]
    intro x hx
    rw [h2 (d x) (List.mem_map_of_mem hx)]
    rfl
  | some j=>
    obtain ⟨_,h2,h3⟩:=zJi hix
    rw [Nat.sub_zero] at h2 h3
    have hj:j<s.length:=by have:=zCk h2;simpa using this
    have hj':=List.getElem?_eq_getElem hj
    have hdj:d s[j]=true:=by
      rw [List.getElem?_map,hj'] at h2
      simpa using h2
    have hpre:s.take j=(s.take j).filter fun x=>!(d x):=by
      symm
      rw [List.filter_eq_self]
      intro x hx
      obtain ⟨q,hq⟩:=List.mem_iff_getElem?.1 hx
      rw [List.getElem?_take] at hq
      split at hq
      . rename_i hql
        have:=h3 q hql
        rw [List.getElem?_map,hq] at this
        have:d x=false:=by simpa using this
        rw [this]
        rfl
      . cases hq
    show (cl true (some (j:Int)) fun x1=>_)=_
    rw [zAD]
    have e0:((j:Int) == -1)=false:=by
      rw [beq_eq_false_iff_ne]
      omega
    rw [e0,cond_false,ck_t (zDs (by omega)),zBW]
    have key : ∀ m i w k ys, i + m = s.length -> m < k -> w <= i -> ys.length = s.length -> ys.drop i = s.drop i -> ys.take w = (s.take i).filter (fun x => !(d x)) ->
        ∃ (w':Nat) (ys':List (List UInt8)),zAV fu F k (w:Int) (i:Int) ys=some ((w':Int),ys')/\ys'.length=s.length/\w'<=s.length/\ys'.take w'=s.filter fun x=>!(d x):=by
      intro m
      induction m with
      | zero=>
        intro i w k ys hm hk hw hlen hdr hc
        obtain ⟨k,rfl⟩:∃ q,k=q+1:=⟨k-1,by omega⟩
        obtain rfl:i=s.length:=by omega
        refine ⟨w,ys,by rw [zAV,<- hlen,lt_f];rfl,hlen,hw,?_⟩
        rw [List.take_length] at hc
        exact hc
      | succ m ih=>
        intro i w k ys hm hk hw hlen hdr hc
        obtain ⟨k,rfl⟩:∃ q,k=q+1:=⟨k-1,by omega⟩
        have hlt:i<s.length:=by omega
        have hx:=List.getElem?_eq_getElem hlt
        have hyx:ys[i]? = some s[i]:=by
          have:=congrArg (fun l=>l[0]?) hdr
          simp only [List.getElem?_drop,Nat.add_zero] at this
          rw [this,hx]
        have hdr':∀ zs:List (List UInt8),zs.drop i=s.drop i->zs.drop (i+1)=s.drop (i+1):=fun zs hz=>by
          have:=congrArg (fun l=>l.drop 1) hz
          simpa only [List.drop_drop] using this
        rw [zAV,lt_t (by omega),cond_true,ck_t (zBN (by omega)),zAa hyx,hF _ (zCn hx),zAD]
        have ht:(s.take (i+1)).filter (fun x=>!(d x))=(s.take i).filter (fun x=>!(d x))++(bif d s[i] then [] else [s[i]]):=by
          rw [List.take_add_one,hx,List.filter_append]
          congr 1
          show [s[i]].filter _=_
          rw [List.filter_cons]
          cases d s[i] <;> rfl
        cases hd:d s[i]
        . rw [Bool.not_false, cond_true, ck_t (zBN (by omega)), ck_t (zDs (by omega)), ck_t (zDs (by omega)), zBW, zBW, zMw]
          refine ih (i+1) (w+1) k _ (by omega) (by omega) (by omega) (by rw [List.length_set];exact hlen) ?_ ?_
          . rw [List.drop_set_of_lt (by omega)]
            exact hdr' ys hdr
          . rw [List.take_add_one, List.take_set_of_le (Nat.le_refl _), List.getElem?_set_self (by omega), ht, hd, hc]
            rfl
        . rw [Bool.not_true, cond_false, ck_t (zDs (by omega)), zBW]
          refine ih (i+1) w k _ (by omega) (by omega) (by omega) hlen (hdr' ys hdr) ?_
          rw [ht,hd,hc]
          simp
    have hstart:(s.take (j+1)).filter (fun x=>!(d x))=s.take j:=by
      rw [List.take_add_one,hj',List.filter_append,<- hpre]
      simp [hdj]
    obtain ⟨w',ys',h4,h5,h6,h7⟩:=key (s.length-(j+1)) (j+1) j fu s (by omega) (by omega) (by omega) rfl rfl hstart.symm
    rw [h4,zAD]
    simp only [h5,zDM.2 ⟨show (0:Int)<=(w':Int) by omega,show (w':Int)<=(s.length:Int) by omega,show (s.length:Int)<=(s.length:Int) from Int.le_refl _⟩,zBw,Int.toNat_natCast,zDp,beq_self_eq_true]
    have e3:(ys'.take w'++List.replicate (s.length-w') ([]:List UInt8))=(ys'.take w'++List.replicate (ys'.length-w') ([]:List UInt8)):=by rw [h5]
    rw [e3,ck_t (by rw [zI4 (by omega)];exact zIU (by omega)),zKZ (by omega),h7]
theorem zKL {fu:Nat} {a b:List (List UInt8)} (hf:1048577<=fu) (ha:a.length<=1048576) (hb:b.length<=1048576):zCO fu a b=some ((setL a).filter fun x=>b.any fun y=>y==x):=by
  unfold zCO
  rw [zL2 hf ha,zAD,show cmpL (a.mergeSort fun x y=>!(bLt y x))=setL a from rfl,zK5 (d:=fun x=>!(b.any fun y=>y==x)) hf (by have:=zIX a;omega) (fun x _=>by
    unfold zDF
    rw [zLw (by omega) (by omega)]
    rfl),zAD]
  simp only [Bool.not_not]
theorem zKY (a b:List (List UInt8)):(a.filter fun x=>b.any fun y=>y==x).foldl (putS bLt) []=(setL a).filter fun x=>b.any fun y=>y==x:=by
  obtain ⟨h1,h2⟩:=zGg zCf (a.filter fun x=>b.any fun y=>y==x) [] List.Pairwise.nil
  refine zEe zCf h1 ((zHG a).sublist List.filter_sublist) fun x=>?_
  rw [h2,List.mem_filter,List.mem_filter,zGb]
  simp
def frq (tb:List (List UInt8 × Int)) (t:List UInt8):Int:=match tb.find? (fun x=>x.1==t) with | some x=>x.2 | none=>0
theorem zJE {fu:Nat} {tb:List (List UInt8 × Int)} {t:List UInt8} (hf:1048577<=fu) (hl:tb.length<=1048576):zBc fu tb t=some (frq tb t):=by
  unfold zBc frq
  have h:=zJG (xs:=tb) (p:=fun x=>x.1==t) (f:=fun x=>x.2) (L:=zBH fu tb t) (fun k i x hx=>by
    have hi:=zCk hx
    rw [zBH,lt_t hi,cond_true]
    simp only [zBN hi,zAa hx,zDp,zD8 (show i<=4294967296 by omega),zBW]) (fun k=>by rw [zBH,lt_f];rfl) (show tb.length<fu by omega)
  rw [h,zAD]
  cases tb.find? fun x=>x.1==t <;> rfl
theorem zJB {fu:Nat} {tb:List (List UInt8 × Int)} {t:List UInt8} (hf:1048577<=fu) (hl:tb.length<=1048576):zC1 fu tb t=some (frq tb t):=by
  unfold zC1 frq
  have h:=zJG (xs:=tb) (p:=fun x=>x.1==t) (f:=fun x=>x.2) (L:=zBG fu tb t) (fun k i x hx=>by
    have hi:=zCk hx
    rw [zBG,lt_t hi,cond_true]
    simp only [zBN hi,zAa hx,zDp,zD8 (show i<=4294967296 by omega),zBW]) (fun k=>by rw [zBG,lt_f];rfl) (show tb.length<fu by omega)
  rw [h,zAD]
  cases tb.find? fun x=>x.1==t <;> rfl
def tlt (tb:List (List UInt8 × Int)) (a b:List UInt8):Bool:=decide (frq tb a<frq tb b) || (frq tb a==frq tb b&&bLt a b)
theorem zIQ (tb:List (List UInt8 × Int)):Sto (tlt tb):=by
  refine ⟨fun a=>?_,fun a b c h k=>?_,fun a b h k=>?_⟩
  . unfold tlt
    rw [zEL]
    simp
  . unfold tlt at *
    simp only [Bool.or_eq_true,Bool.and_eq_true,decide_eq_true_eq,beq_iff_eq] at *
    rcases h with h | ⟨h,h'⟩ <;> rcases k with k | ⟨k,k'⟩
    . exact .inl (by omega)
    . exact .inl (by omega)
    . exact .inl (by omega)
    . exact .inr ⟨by omega,zGO h' k'⟩
  . unfold tlt at *
    simp only [Bool.or_eq_false_iff,Bool.and_eq_false_imp,decide_eq_false_iff_not,beq_iff_eq] at *
    have e:frq tb a=frq tb b:=by omega
    exact zHj (h.2 e) (k.2 e.symm)
theorem or_t {fu:Nat} {x y:Int} (hf:1048577<=fu):zEx fu [x,y]=some (if x ≠ 0 then x else y):=by
  unfold zEx
  obtain ⟨f,rfl⟩:∃ f,fu=f+3:=⟨fu-3,by omega⟩
  rw [zCv]
  by_cases hx:x=0
  . subst hx
    rw [zCv]
    by_cases hy:y=0
    . subst hy
      rw [zCv]
      rfl
    . have:(gtD [0,y] (0+1:Int) != 0)=true:=by
        show (y != 0)=true
        simpa using hy
      rw [this]
      simp [gtD,inR,zAD,zDp,i64B,zMv]
  . have:(gtD [x,y] (0:Int) != 0)=true:=by
      show (x != 0)=true
      simpa using hx
    rw [this]
    simp [gtD,inR,zAD,zDp,i64B,zMv,hx]
theorem zP7 {fu:Nat} {x y:Int}:zDP fu x y=some (if x<y then -1 else if y<x then 1 else 0):=by
  unfold zDP zDm
  simp only [bne_self_eq_false',zAD,cond_false]
  by_cases h:x<y
  . rw [decide_eq_true h,if_pos h];rfl
  . rw [decide_eq_false h, if_neg h]
    by_cases h2:y<x
    . rw [decide_eq_true h2,if_pos h2];rfl
    . rw [decide_eq_false h2,if_neg h2];rfl
def tcmp (tb:List (List UInt8 × Int)) (a b:List UInt8):Int:=if frq tb a<frq tb b then -1 else if frq tb b<frq tb a then 1 else (bif bLt a b then -1 else bif bLt b a then 1 else 0)
theorem zMn (tb:List (List UInt8 × Int)) (a b:List UInt8):decide (tcmp tb a b<0)=tlt tb a b:=by
  unfold tcmp tlt
  by_cases h1:frq tb a<frq tb b
  . simp [h1]
  . by_cases h2 : frq tb b < frq tb a
    . have : (frq tb a == frq tb b) = false := by simp; omega
      simp [h1,h2,this]
    . have : (frq tb a == frq tb b) = true := by simp; omega
      rw [if_neg h1,if_neg h2,this,decide_eq_false h1]
      cases bLt a b
      . cases bLt b a <;> rfl
      . rfl
theorem zOv {fu:Nat} {tb:List (List UInt8 × Int)} {a b:List UInt8} (hf:1048577<=fu) (hl:tb.length<=1048576):zCG fu a b tb=some (tcmp tb a b):=by
  unfold zCG zJt
  rw [zJB hf hl,zAD,zJB hf hl,zAD,zP7,zAD,zAD,or_t hf,zAD,zMS]
  unfold tcmp
  by_cases h1:frq tb a<frq tb b
  . simp [h1]
  . by_cases h2 : frq tb b < frq tb a
    . simp [h1,h2]
    . simp [h1,h2]
theorem zLK {fu:Nat} {tb:List (List UInt8 × Int)} {l:List (List UInt8)} (hf:1048577<=fu) (ht:tb.length<=1048576) (hl:l.length<=1048576):zCb fu tb l=some (l.mergeSort fun x y=>!(tlt tb y x)):=by
  unfold zCb
  rw [zIf (by omega),zAD]
  have hF:(fun x y=>zCG fu x y tb)=fun x y=>some (tcmp tb x y):=by
    funext x y
    exact zOv hf ht
  have S:=zIQ tb
  rw [hF]
  unfold zKs
  rw [ck_t (zBn (by omega)),ck_t]
  . rw [zAD]
    congr 1
    have:(fun x y:List UInt8=>!(decide (gv (some (tcmp tb y x))<0)))=fun x y=>!(tlt tb y x):=by
      funext x y
      rw [<- zMn]
      rfl
    rw [this]
  . unfold zMl
    simp only [List.all_eq_true,Bool.and_eq_true]
    intro x hx y hy
    have g:∀ x y,gv (some (tcmp tb x y))=tcmp tb x y:=fun _ _=>rfl
    simp only [g,zMn,S.irr,Option.isSome_some,Bool.not_false]
    refine ⟨⟨⟨trivial,trivial⟩,?_⟩,fun z hz=>⟨?_,?_⟩⟩
    . cases h1 : tlt tb x y
      . cases h2 : tlt tb y x
        . have := S.tri x y h1 h2
          simp [this]
        . rfl
      . rfl
    . cases h1 : tlt tb x y
      . rfl
      . cases h2 : tlt tb y z
        . rfl
        . rw [S.tr _ _ _ h1 h2]
          rfl
    . cases h1 : tlt tb x y
      . cases h2 : tlt tb y z
        . rw [S.le_tr h2 h1]
          rfl
        . rfl
      . rfl
theorem zK3 {fu : Nat} {tb : List (List UInt8 × Int)} {l : List (List UInt8)} {i : Nat} {x : List UInt8} (hx : l[i]? = some x) (hf : 1048577 <= fu) (ht : tb.length <= 1048576) (o : List (List UInt8)) (ho : o.length <= 1048576) :
    ∀ j k,j<=o.length->j<k->∃ q:Nat,zBb fu tb l (i:Int) o (frq tb x) k (j:Int)=some (q:Int)/\q<=j/\(∀ y ∈ (o.take j).drop q,tlt tb x y=true)/\(∀ y,0<q->o[q-1]? = some y->tlt tb x y=false):=by
  intro j
  induction j with
  | zero=>
    intro k hj hk
    obtain ⟨k,rfl⟩:∃ q,k=q+1:=⟨k-1,by omega⟩
    refine ⟨0,?_,Nat.le_refl _,fun y hy=>by simp at hy,fun y h=>by omega⟩
    rw [zBb]
    rfl
  | succ j ih=>
    intro k hj hk
    obtain ⟨k,rfl⟩:∃ q,k=q+1:=⟨k-1,by omega⟩
    have hlt:j<o.length:=by omega
    have hy:=List.getElem?_eq_getElem hlt
    rw [zBb]
    simp only [zIg,zGD,zBN hlt,zBN (zCk hx),zHU j (by omega),zAa hy,zAa hx,zJE hf ht,zFA,zBw,Bool.or_true,zDp,Bool.true_and,beq_self_eq_true,cond_true]
    have hgt:tlt tb x o[j]=(decide (frq tb x<frq tb o[j]) || (frq tb x==frq tb o[j]&&bLt x o[j])):=rfl
    have hnot:(!(bLt o[j] x || o[j]==x))=bLt x o[j]:=by
      cases h1:bLt o[j] x
      . cases h2 : bLt x o[j]
        . have := zHj h1 h2
          simp [this]
        . have:(o[j]==x)=false:=by
            rw [beq_eq_false_iff_ne]
            intro e
            rw [e,zEL] at h2
            cases h2
          rw [this]
          rfl
      . rw [zN5 h1]
        rfl
    rw [hnot]
    have hcomm:(frq tb o[j]==frq tb x)=(frq tb x==frq tb o[j]):=Bool.beq_comm
    cases hc:tlt tb x o[j]
    . refine ⟨j + 1, ?_, Nat.le_refl _, fun y hy => (by rw [List.drop_take_self] at hy; cases hy), fun y _ hy' => ?_⟩
      . rw [hgt] at hc
        rw [Bool.or_eq_false_iff] at hc
        rw [hc.1]
        simp only [show (false==false)=true from rfl,cond_true,Bool.false_or,hcomm,hc.2,cond_false]
      . rw [Nat.add_sub_cancel] at hy'
        rw [hy] at hy'
        injection hy' with hy'
        rw [<- hy']
        exact hc
    . obtain ⟨q, h1, h2, h3, h4⟩ := ih k (by omega) (by omega)
      refine ⟨q,?_,by omega,fun y hy'=>?_,h4⟩
      . have:(decide (frq tb x<frq tb o[j]) || ((bif decide (frq tb x<frq tb o[j])==false then frq tb o[j] else default)==frq tb x&&bLt x o[j]))=true:=by
          rw [hgt] at hc
          cases hd:decide (frq tb x<frq tb o[j])
          . rw [hd, Bool.false_or] at hc
            simp only [show (false==false)=true from rfl,cond_true,Bool.false_or,hcomm,hc]
          . rfl
        rw [this,cond_true]
        exact h1
      . have ht' : o.take (j + 1) = o.take j ++ [o[j]] := by rw [List.take_add_one, hy]; rfl
        rw [ht',List.drop_append_of_le_length (by simp;omega)] at hy'
        rcases List.mem_append.1 hy' with hy' | hy'
        . exact h3 y hy'
        . rw [List.mem_singleton.1 hy']
          exact hc
theorem zKj {fu:Nat} {tb:List (List UInt8 × Int)} {l:List (List UInt8)} (hf:1048577<=fu) (ht:tb.length<=1048576) (hl:l.length<=1048576):zDB fu tb l=some (l.mergeSort fun x y=>!(tlt tb y x)):=by
  unfold zDB
  have S:=zIQ tb
  have key:∀ m i k o,i+m=l.length->m<k->o.length=i->zDu (tlt tb) o->o.Perm (l.take i)->∃ r,zBe fu tb l k (i:Int) o=some r/\zDu (tlt tb) r/\r.Perm l:=by
    intro m
    induction m with
    | zero=>
      intro i k o hm hk ho hs hp
      obtain ⟨k,rfl⟩:∃ q,k=q+1:=⟨k-1,by omega⟩
      obtain rfl:i=l.length:=by omega
      exact ⟨o,by rw [zBe,lt_f];rfl,hs,by rwa [List.take_length] at hp⟩
    | succ m ih=>
      intro i k o hm hk ho hs hp
      obtain ⟨k,rfl⟩:∃ q,k=q+1:=⟨k-1,by omega⟩
      have hlt:i<l.length:=by omega
      have hx:=List.getElem?_eq_getElem hlt
      obtain ⟨q,h1,h2,h3,h4⟩:=zK3 (fu:=fu) hx hf ht o (by omega) o.length fu (Nat.le_refl _) (by omega)
      rw [List.take_length] at h3
      have hmin:min q o.length=q:=Nat.min_eq_left h2
      have hins:o.take q ++ [l[i]]++o.drop q=zKG o q l[i]:=by simp [zKG]
      rw [zBe,lt_t hlt,cond_true,ck_t (zBN hlt),zAa hx,zJE hf ht,zAD,h1,zAD]
      simp only [zBw,zFX,zHM,zIU h2,zJH h2,zDp,List.length_nil,List.length_append,List.length_take,List.length_drop,List.length_singleton,List.nil_append,Nat.zero_add,hmin,zBn (show q<=4294967296 by omega),zBn (show q+1<=4294967296 by omega),zBn (show q+1+(o.length-q)<=4294967296 by omega),zBN hlt,zD8 (show i<=4294967296 by omega),zBW,hins]
      refine ih (i+1) k _ (by omega) (by omega) (by rw [zEJ,ho]) ?_ ?_
      . refine zMp hs (fun y hy => ?_) fun y hy => S.asy (h3 y hy)
        cases hq:q with
        | zero=>rw [hq] at hy;cases hy
        | succ q'=>
          have hz:=List.getElem?_eq_getElem (show q'<o.length by omega)
          have h5:=h4 o[q'] (by omega) (by rw [show q-1=q' by omega];exact hz)
          rw [hq] at hy
          have ht':o.take (q'+1)=o.take q' ++ [o[q']]:=by rw [List.take_add_one,hz];rfl
          have hs':(o.take q' ++ [o[q']]).Pairwise fun a b=>tlt tb b a=false:=ht' ▸ hs.sublist (List.take_sublist _ _)
          rw [ht'] at hy
          rcases List.mem_append.1 hy with hy | hy
          . exact S.le_tr ((List.pairwise_append.1 hs').2.2 y hy _ (List.mem_singleton.2 rfl)) h5
          . rw [List.mem_singleton.1 hy]
            exact h5
      . have ht' : l.take (i + 1) = l.take i ++ [l[i]] := by rw [List.take_add_one, hx]; rfl
        rw [ht']
        refine (zGe o q l[i]).trans ?_
        refine (List.Perm.cons _ hp).trans ?_
        exact (List.perm_append_comm (l₁:=[l[i]]) (l₂:=l.take i))
  obtain ⟨r,h1,h2,h3⟩:=key l.length 0 fu [] (by omega) (by omega) rfl List.Pairwise.nil (by simp)
  rw [show ((0:Nat):Int)=0 from rfl] at h1
  rw [h1,zAD]
  congr 1
  exact zH2 S (h3.trans (List.mergeSort_perm l _).symm) h2 (zEj S l)
def zDg (n t:Int):Bool:=(decide (0<=n)&&decide (n<=1000))&&(decide (1<=t)&&decide (t<=1000))
def lowB (n t:Int):Int:=(n*t+999) / 1000
def zGm (n t:Int):Int:=n*1000 / t
theorem zEO {n t:Int}:zDg n t=true ↔ 0<=n/\n<=1000/\1<=t/\t<=1000:=by
  unfold zDg
  simp only [Bool.and_eq_true,decide_eq_true_eq]
  omega
theorem zNK {n t:Int} (h:zDg n t=true):0<=n*t/\n*t<=1000000:=by
  obtain ⟨h1,h2,h3,h4⟩:=zEO.1 h
  have h5:0<=n*t:=Int.mul_nonneg h1 (by omega)
  have h6:n*t<=1000*1000:=Int.mul_le_mul h2 h4 (by omega) (by omega)
  omega
theorem zOf {n t:Int} (h:zDg n t=true):0<=n*1000 / t/\n*1000 / t<=1000000:=by
  obtain ⟨h1,h2,h3,h4⟩:=zEO.1 h
  have h5:0<=n*1000:=by omega
  exact ⟨Int.ediv_nonneg h5 (by omega),by have:=Int.ediv_le_self t h5;omega⟩
theorem zJJ {fu:Nat} {n t:Int}:zDC fu n 0 t=some (zDg n t):=by
  unfold zDC zCe zDg
  simp only [zBw,zFA,zAD]
  cases (decide ((0:Int)<=n)&&decide (n<=1000)) <;> cases (decide ((1:Int)<=t)&&decide (t<=1000)) <;> rfl
theorem zI2 {fu:Nat} {n t:Int}:zCS fu n t=some (bif zDg n t then (lowB n t,zGm n t) else (-1,-1)):=by
  unfold zCS
  rw [zJJ,zAD]
  cases hg:zDg n t
  . rfl
  . obtain ⟨h1, h2, h3, h4⟩ := zEO.1 hg
    obtain ⟨m1,m2⟩:=zNK hg
    obtain ⟨d1,d2⟩:=zOf hg
    have e1:(n*t+999).tdiv 1000=lowB n t:=Int.tdiv_eq_ediv_of_nonneg (by omega)
    have e2:(n*1000).tdiv t=zGm n t:=Int.tdiv_eq_ediv_of_nonneg (by omega)
    have ht:(t != 0)=true:=by simp;omega
    have l1:0<=lowB n t/\lowB n t<=1000999:=by unfold lowB;omega
    have l2:0<=zGm n t/\zGm n t<=1000000:=⟨d1,d2⟩
    rw [Bool.not_true,cond_false,ck_t (zBm (by omega) (by omega)),ck_t (zBm (by omega) (by omega)),ck_t (by decide),e1,e2,ck_t (zBm (by omega) (by omega)),ck_t (zBm (by omega) (by omega)),ck_t ht,ck_t (zBm (by omega) (by omega))]
    rfl
theorem zHw {fu:Nat} {n t:Int}:zCR fu n t=some (bif zDg n t then (lowB n t,zGm n t) else (-1,-1)):=by
  unfold zCR zCV zBs zDH zEr
  simp only [zBw,zAD]
  simp only [zFA]
  cases hg:zDg n t
  . unfold zDg at hg
    generalize (decide ((0:Int)<=n)&&decide (n<=1000))=s at hg ⊢
    generalize (decide ((1:Int)<=t)&&decide (t<=1000))=d at hg ⊢
    cases s <;> cases d <;> first | rfl | cases hg
  . obtain ⟨h1, h2, h3, h4⟩ := zEO.1 hg
    obtain ⟨m1,m2⟩:=zNK hg
    obtain ⟨d1,d2⟩:=zOf hg
    have e1:(n*t+1000-1).tdiv 1000=lowB n t:=by
      rw [show n*t+1000-1=n*t+999 by omega]
      exact Int.tdiv_eq_ediv_of_nonneg (by omega)
    have e2:(n*1000).tdiv t=zGm n t:=Int.tdiv_eq_ediv_of_nonneg (by omega)
    have ht:(t != 0)=true:=by simp;omega
    have l1:0<=lowB n t/\lowB n t<=1000999:=by unfold lowB;omega
    have l2:0<=zGm n t/\zGm n t<=1000000:=⟨d1,d2⟩
    rw [decide_eq_true h1,decide_eq_true h2,decide_eq_true h3,decide_eq_true h4,e1,e2]
    simp only [Bool.and_self,Bool.not_true,show (false==false)=true from rfl,cond_true,Bool.or_self,cond_false]
    rw [ck_t (zBm (by omega) (by omega)),ck_t (zBm (by omega) (by omega)),ck_t (zBm (by omega) (by omega)),ck_t (by decide),ck_t (zBm (by omega) (by omega)),zAD,ck_t (zBm (by omega) (by omega)),ck_t ht,ck_t (zBm (by omega) (by omega))]
def preL (n t:Int):Int:=bif zDg n t then (if n=0 then 0 else n-lowB n t+1) else -1
theorem zMZ {fu:Nat} {n t:Int}:zCq fu n t=some (preL n t):=by
  unfold zCq preL
  rw [zJJ,zAD]
  cases hg:zDg n t
  . rfl
  . obtain ⟨h1, h2, h3, h4⟩ := zEO.1 hg
    obtain ⟨m1,m2⟩:=zNK hg
    have l1:0<=lowB n t/\lowB n t<=1000999:=by unfold lowB;omega
    by_cases h0:n=0
    . have e : (n == 0) = true := by simpa using h0
      rw [e,if_pos h0]
      rfl
    . have e : (n == 0) = false := by simpa using h0
      rw [e,if_neg h0,zI2,hg,zAD]
      simp only [Bool.not_true,cond_false,cond_true]
      rw [ck_t (zBm (by omega) (by omega)),ck_t (zBm (by omega) (by omega))]
theorem zMa {fu:Nat} {n t:Int}:zCz fu n t=some (preL n t):=by
  unfold zCz preL
  rw [zHw,zAD]
  cases hg:zDg n t
  . rfl
  . obtain ⟨h1, h2, h3, h4⟩ := zEO.1 hg
    obtain ⟨m1,m2⟩:=zNK hg
    have l1:0<=lowB n t/\lowB n t<=1000999:=by unfold lowB;omega
    have e2:decide (lowB n t<0)=false:=decide_eq_false (by omega)
    simp only [cond_true,e2,Bool.false_or,zBw]
    by_cases h0:n=0
    . have e : (n == 0) = true := by simpa using h0
      rw [e,if_pos h0,cond_true]
      have:lowB n t=0:=by unfold lowB;subst h0;simp
      rw [this]
      rfl
    . have e : (n == 0) = false := by simpa using h0
      rw [e,if_neg h0,cond_false,ck_t (zBm (by omega) (by omega)),ck_t (zBm (by omega) (by omega))]
theorem zMN {n t:Int} (h:0<=preL n t) (hn:0<=n):preL n t<=n:=by
  unfold preL at *
  cases hg:zDg n t
  . rw [hg] at h
    simp at h
  . rw [hg, cond_true] at h
    rw [cond_true]
    obtain ⟨h1,h2,h3,h4⟩:=zEO.1 hg
    split
    . omega
    . have:1<=n*t:=by
        have:=Int.mul_le_mul (show (1:Int)<=n by omega) h3 (by omega) (by omega)
        omega
      unfold lowB
      omega
def ordL (tb:List (List UInt8 × Int)) (l:List (List UInt8)):List (List UInt8):=l.mergeSort fun x y=>!(tlt tb y x)
def preT (tb:List (List UInt8 × Int)) (l:List (List UInt8)) (t:Int):List (List UInt8):=bif (!(tokB l)) || decide (preL l.length t<0) then [] else (ordL tb l).take (preL l.length t).toNat
theorem zJ9 {fu:Nat} {tb:List (List UInt8 × Int)} {l:List (List UInt8)} {t:Int} (hf:1048577<=fu) (ht:tb.length<=1048576) (hl:l.length<=1048576) (he:∀ t ∈ l,t.length<=1048576):zBz fu tb l t=some (preT tb l t):=by
  unfold zBz preT
  rw [zMZ,zAD,zFl hf hl he,zAD,zBw]
  cases hc:((!(tokB l)) || decide (preL l.length t<0))
  . rw [cond_false, cond_false, zKj hf ht hl, zAD]
    rw [Bool.or_eq_false_iff,decide_eq_false_iff_not] at hc
    have h1:=zMN (n:=l.length) (t:=t) (by omega) (by omega)
    obtain ⟨q,hq⟩:=Int.eq_ofNat_of_zero_le (show 0<=preL l.length t by omega)
    rw [hq] at h1 ⊢
    rw [ck_t (zIU (by rw [List.length_mergeSort];omega)),zFX]
    rfl
  . rfl
theorem zJ6 {fu:Nat} {tb:List (List UInt8 × Int)} {l:List (List UInt8)} {t:Int} (hf:1048577<=fu) (ht:tb.length<=1048576) (hl:l.length<=1048576) (he:∀ t ∈ l,t.length<=1048576):zBy fu tb l t=some (preT tb l t):=by
  unfold zBy preT
  rw [zMa,zAD,zFf hf hl he,zAD,zBw]
  cases hc:((!(tokB l)) || decide (preL l.length t<0))
  . rw [cond_false, cond_false, zLK hf ht hl, zAD]
    rw [Bool.or_eq_false_iff,decide_eq_false_iff_not] at hc
    have h1:=zMN (n:=l.length) (t:=t) (by omega) (by omega)
    obtain ⟨q,hq⟩:=Int.eq_ofNat_of_zero_le (show 0<=preL l.length t by omega)
    rw [hq] at h1 ⊢
    rw [ck_t (zIU (by rw [List.length_mergeSort];omega)),zFX,zIf (by simp;omega),zAD]
    rfl
  . rfl
theorem zFe (tb:List (List UInt8 × Int)) (l:List (List UInt8)) (t:Int):(preT tb l t).length<=l.length:=by
  unfold preT
  cases ((!(tokB l)) || decide (preL l.length t<0))
  . rw [cond_false, List.length_take]
    unfold ordL
    rw [List.length_mergeSort]
    omega
  . exact Nat.zero_le _
def comB (a b:List (List UInt8)):List (List UInt8):=(setL a).filter fun x=>b.any fun y=>y==x
def zGu (tb:List (List UInt8 × Int)) (a b:List (List UInt8)) (t:Int):Bool:=decide ((0:Int)<((comB (preT tb a t) (preT tb b t)).length:Int))
theorem zKi {fu:Nat} {tb:List (List UInt8 × Int)} {a b:List (List UInt8)} {t:Int} (hf:1048577<=fu) (ht:tb.length<=1048576) (ha:a.length<=1048576) (hea:∀ t ∈ a,t.length<=1048576) (hb:b.length<=1048576) (heb:∀ t ∈ b,t.length<=1048576):zDJ fu tb a b t=some (zGu tb a b t):=by
  unfold zDJ
  have h1:=zFe tb a t
  have h2:=zFe tb b t
  rw [zJ9 hf ht ha hea,zAD,zJ9 hf ht hb heb,zAD,zI1 hf (by omega) (by omega),zAD,zKY]
  rfl
theorem zKh {fu:Nat} {tb:List (List UInt8 × Int)} {a b:List (List UInt8)} {t:Int} (hf:1048577<=fu) (ht:tb.length<=1048576) (ha:a.length<=1048576) (hea:∀ t ∈ a,t.length<=1048576) (hb:b.length<=1048576) (heb:∀ t ∈ b,t.length<=1048576):zDD fu tb a b t=some (zGu tb a b t):=by
  unfold zDD
  have h1:=zFe tb a t
  have h2:=zFe tb b t
  rw [zJ6 hf ht ha hea,zAD,zJ6 hf ht hb heb,zAD,zKL hf (by omega) (by omega),zAD]
  rfl
def tabX (x:List UInt8 × Int):Bool:=decide (x.2<1)
def tabB (l:List (List UInt8 × Int)):Bool:=!(zFG tabX (fun p x=>tabX x || !(bLt p.1 x.1)) l)
theorem zK4 {fu:Nat} {l:List (List UInt8 × Int)} (hf:1048577<=fu) (hl:l.length<=1048576):zCN fu l=some (tabB l):=by
  unfold zCN
  have h:=zGj (xs:=l) (b0:=tabX) (b:=fun p x=>tabX x || !(bLt p.1 x.1)) (r:=false) (L:=zB9 fu l) (fun k x hx=>by
    have hi:=zCk hx
    rw [zB9,lt_0 hi,cond_true]
    simp only [zJo hi,zJs hx,zLt,zJK,zKl,zBw,tabX]
    cases decide (x.2<1) <;> rfl) (fun k i q x hq hx=>by
    have hi:=zCk hx
    have hi':=zCk hq
    rw [zB9,lt_t hi,cond_true]
    simp only [zBN hi,zBN hi',zAa hx,zGD,zAa hq,zIg,zBw,zHU i (by omega),Bool.or_true,zDp,zD8 (show i+1<=4294967296 by omega),zBW,tabX]
    cases decide (x.2<1) <;> cases bLt q.1 x.1 <;> rfl) (fun k=>by rw [zB9,lt_f];rfl) (show l.length<fu by omega)
  rw [h,zAD]
  unfold tabB
  cases zFG tabX (fun p x=>tabX x || !(bLt p.1 x.1)) l <;> rfl
theorem zMr {fu:Nat} {l:List (List UInt8 × Int)} (hf:1048577<=fu) (hl:l.length<=1048576):zCt fu l=some (tabB l):=by
  unfold zCt
  have h:=zGj (xs:=l) (b0:=tabX) (b:=fun p x=>tabX x || !(bLt p.1 x.1)) (r:=false) (L:=zBA fu l) (fun k x hx=>by
    have hi:=zCk hx
    rw [zBA,lt_0 hi,cond_true]
    simp only [zJo hi,zJs hx,zLt,zJK,zKl,zBw,tabX]
    cases decide (x.2<1) <;> rfl) (fun k i q x hq hx=>by
    have hi:=zCk hx
    have hi':=zCk hq
    rw [zBA,lt_t hi,cond_true]
    simp only [zBN hi,zBN hi',zAa hx,zGD,zAa hq,zIg,zBw,zHU i (by omega),Bool.or_true,zDp,zD8 (show i+1<=4294967296 by omega),zBW,tabX]
    cases decide (x.2<1) <;> cases bLt q.1 x.1 <;> rfl) (fun k=>by rw [zBA,lt_f];rfl) (show l.length<fu by omega)
  rw [h,zAD]
  unfold tabB
  cases zFG tabX (fun p x=>tabX x || !(bLt p.1 x.1)) l <;> rfl
def inI (x lo hi:Int):Bool:=decide (lo<=x)&&decide (x<=hi)
theorem zIV {fu:Nat} {x lo hi:Int}:zCe fu x lo hi=some (inI x lo hi):=rfl
def setX (s:Int × List (List UInt8)):Bool:=!(inI s.1 0 999) || !(tokB s.2)
def zJd (l:List (Int × List (List UInt8))):Bool:=!(zFG setX (fun p x=>setX x || decide (x.1<=p.1)) l)
def idxB (x:Int × List (List UInt8 × Int) × List (Int × List (List UInt8))):Bool:=(tabB x.2.1&&inI x.1 1 1000)&&(decide (x.2.2.length<=12)&&zJd x.2.2)
def zH4 (x:Int × List (List UInt8 × Int) × List (Int × List (List UInt8))):Prop:=x.2.1.length<=1048576/\x.2.2.length<=1048576/\∀ s ∈ x.2.2,s.2.length<=1048576/\∀ t ∈ s.2,t.length<=1048576
theorem zO6 {n:Nat}:decide ((n:Int)<=12)=decide (n<=12):=by
  by_cases h:n<=12
  . rw [decide_eq_true h,decide_eq_true (by omega)]
  . rw [decide_eq_false h,decide_eq_false (by omega)]
theorem zNU {n:Nat}:decide ((12:Int)<(n:Int)) = !(decide (n<=12)):=by
  by_cases h:n<=12
  . rw [decide_eq_true h,decide_eq_false (by omega)];rfl
  . rw [decide_eq_false h,decide_eq_true (by omega)];rfl
theorem zHI {fu:Nat} {x:Int × List (List UInt8 × Int) × List (Int × List (List UInt8))} (hf:1048577<=fu) (hx:zH4 x):zAy fu x=some (idxB x):=by
  obtain ⟨hx1,hx2,hx3⟩:=hx
  unfold zAy
  have h:=zGj (xs:=x.2.2) (b0:=setX) (b:=fun p s=>setX s || decide (s.1<=p.1)) (r:=false) (L:=zAt fu x) (fun k s hs=>by
    have hi:=zCk hs
    have ht:=zFl (fu:=fu) hf (hx3 s (zCn hs)).1 (hx3 s (zCn hs)).2
    rw [zAt,lt_0 hi,cond_true]
    simp only [zJo hi,zJs hs,zLt,zJK,zKl,zBw,zIV,zAD,ht,Bool.or_true,zDp,setX]
    simp only [zFA]
    cases inI s.1 0 999 <;> cases tokB s.2 <;> rfl) (fun k i q s hq hs=>by
    have hi:=zCk hs
    have hi':=zCk hq
    have ht:=zFl (fu:=fu) hf (hx3 s (zCn hs)).1 (hx3 s (zCn hs)).2
    rw [zAt,lt_t hi,cond_true]
    simp only [zBN hi,zBN hi',zAa hs,zGD,zAa hq,zIg,zBw,zHU i (by omega),Bool.or_true,zDp,zD8 (show i+1<=4294967296 by omega),zBW,zIV,zAD,ht,setX]
    simp only [zFA]
    cases inI s.1 0 999 <;> cases tokB s.2 <;> cases decide (s.1<=q.1) <;> rfl) (fun k=>by rw [zAt,lt_f];rfl) (show x.2.2.length<fu by omega)
  rw [h,zAD]
  unfold idxB zJd
  cases hs:zFG setX (fun p s=>setX s || decide (s.1<=p.1)) x.2.2
  . rw [cond_false, zLU, zK4 hf hx1, zAD]
    simp only [zIV,zFA,zBw,zO6]
    cases tabB x.2.1 <;> cases inI x.1 1 1000 <;> cases decide (x.2.2.length<=12) <;> rfl
  . cases tabB x.2.1 <;> cases inI x.1 1 1000 <;> cases decide (x.2.2.length<=12) <;> rfl
theorem zFU {fu:Nat} {x:Int × List (List UInt8 × Int) × List (Int × List (List UInt8))} (hf:1048577<=fu) (hx:zH4 x):zAh fu x=some (idxB x):=by
  obtain ⟨hx1,hx2,hx3⟩:=hx
  unfold zAh
  have h:=zGj (xs:=x.2.2) (b0:=setX) (b:=fun p s=>setX s || decide (s.1<=p.1)) (r:=false) (L:=zAu fu x) (fun k s hs=>by
    have hi:=zCk hs
    have ht:=zFf (fu:=fu) hf (hx3 s (zCn hs)).1 (hx3 s (zCn hs)).2
    have hid:zCl fu s.1=some (inI s.1 0 999):=rfl
    rw [zAu,lt_0 hi,cond_true]
    simp only [zJo hi,zJs hs,zLt,zJK,zKl,zBw,hid,zAD,ht,Bool.or_true,zDp,setX]
    simp only [zFA]
    cases inI s.1 0 999 <;> cases tokB s.2 <;> rfl) (fun k i q s hq hs=>by
    have hi:=zCk hs
    have hi':=zCk hq
    have ht:=zFf (fu:=fu) hf (hx3 s (zCn hs)).1 (hx3 s (zCn hs)).2
    have hid:zCl fu s.1=some (inI s.1 0 999):=rfl
    rw [zAu,lt_t hi,cond_true]
    simp only [zBN hi,zBN hi',zAa hs,zGD,zAa hq,zIg,zBw,zHU i (by omega),Bool.or_true,zDp,zD8 (show i+1<=4294967296 by omega),zBW,hid,zAD,ht,setX]
    simp only [zFA]
    cases inI s.1 0 999 <;> cases tokB s.2 <;> cases decide (s.1<=q.1) <;> rfl) (fun k=>by rw [zAu,lt_f];rfl) (show x.2.2.length<fu by omega)
  have hth:zBs fu x.1=some (inI x.1 1 1000):=rfl
  rw [zMr hf hx1,zAD,hth,h]
  simp only [zFA,zBw,zNU,zAD]
  unfold idxB zJd
  cases tabB x.2.1 <;> cases inI x.1 1 1000 <;> cases decide (x.2.2.length<=12) <;> cases zFG setX (fun p s=>setX s || decide (s.1<=p.1)) x.2.2 <;> rfl
def mrgN : Nat -> List (List UInt8) -> List (List UInt8) -> Nat
  | 0,_,_=>0
  | _+1,[],_=>0
  | _+1,_::_,[]=>0
  | n+1,x::xs,y::ys=>bif bLt x y then mrgN n xs (y::ys) else bif bLt y x then mrgN n (x::xs) ys else mrgN n xs ys+1
theorem zMQ {α:Type} (x:α) (xs:List α):subL (x::xs) 1 (((x::xs).length:Nat):Int)=xs:=by
  rw [show (1:Int)=((1:Nat):Int) from rfl,zHM]
  rfl
theorem zNJ {fu : Nat} : ∀ (n k : Nat) (xs ys : List (List UInt8)) (c : Int), xs.length + ys.length <= n -> n < k -> 0 <= c -> c + n <= 4294967296 -> zAl fu k xs ys c = some (c + mrgN n xs ys)
  | 0,k,xs,ys,c,hn,hk,h0,h1=>by
    obtain ⟨k,rfl⟩:∃ q,k=q+1:=⟨k-1,by omega⟩
    obtain rfl:xs = []:=List.eq_nil_of_length_eq_zero (by omega)
    rw [zAl]
    simp [zBw,mrgN]
  | n+1,k,[],ys,c,hn,hk,h0,h1=>by
    obtain ⟨k,rfl⟩:∃ q,k=q+1:=⟨k-1,by omega⟩
    rw [zAl]
    simp [zBw,mrgN]
  | n+1,k,x::xs,[],c,hn,hk,h0,h1=>by
    obtain ⟨k,rfl⟩:∃ q,k=q+1:=⟨k-1,by omega⟩
    rw [zAl]
    simp [zBw,mrgN]
  | n+1,k,x::xs,y::ys,c,hn,hk,h0,h1=>by
    obtain ⟨k,rfl⟩:∃ q,k=q+1:=⟨k-1,by omega⟩
    simp only [List.length_cons] at hn
    have hx:decide ((0:Int)<((x::xs).length:Int))=true:=lt_0 (by simp)
    have hy:decide ((0:Int)<((y::ys).length:Int))=true:=lt_0 (by simp)
    have sx:subR (1:Int) (((x::xs).length:Nat):Int) (x::xs).length=true:=zJH (k:=1) (by simp)
    have sy:subR (1:Int) (((y::ys).length:Nat):Int) (y::ys).length=true:=zJH (k:=1) (by simp)
    rw [zAl,hx,hy]
    simp only [Bool.and_self,zBw,cond_true,zJo (show 0<(x::xs).length by simp),zJo (show 0<(y::ys).length by simp),zDp,zJs (show (x::xs)[0]? = some x from rfl),zJs (show (y::ys)[0]? = some y from rfl),sx,sy,zMQ,zBm (show -9223372036854775808<=c+1 by omega) (show c+1<=9223372036854775807 by omega)]
    unfold mrgN
    cases bLt x y
    . cases bLt y x
      . rw [cond_false, cond_false, cond_false, cond_false, zNJ n k xs ys (c + 1) (by omega) (by omega) (by omega) (by omega)]
        congr 1
        omega
      . rw [cond_false, cond_true, cond_false, cond_true]
        exact zNJ n k (x::xs) ys c (by simp;omega) (by omega) h0 (by omega)
    . rw [cond_true, cond_true]
      exact zNJ n k xs (y::ys) c (by simp;omega) (by omega) h0 (by omega)
theorem zHb : ∀ (n : Nat) (xs ys : List (List UInt8)), xs.length + ys.length <= n -> zBo bLt xs -> zBo bLt ys -> mrgN n xs ys = (xs.filter fun x => ys.any fun y => y == x).length
  | 0,xs,ys,hn,_,_=>by
    obtain rfl:xs = []:=List.eq_nil_of_length_eq_zero (by omega)
    rfl
  | n+1,[],ys,hn,_,_=>rfl
  | n+1,x::xs,[],hn,_,_=>by
    rw [show ((x::xs).filter fun z=>([]:List (List UInt8)).any fun y=>y==z) = [] from List.filter_eq_nil_iff.2 (fun _ _=>by simp)]
    rfl
  | n+1,x::xs,y::ys,hn,hx,hy=>by
    simp only [List.length_cons] at hn
    obtain ⟨x1,x2⟩:=List.pairwise_cons.1 hx
    obtain ⟨y1,y2⟩:=List.pairwise_cons.1 hy
    have S:=zCf
    unfold mrgN
    have no:∀ {a b:List UInt8},bLt a b=true->(b==a)=false:=fun {a b} h=>by
      rw [beq_eq_false_iff_ne]
      intro e
      rw [e,zEL] at h
      cases h
    cases h1:bLt x y
    . cases h2 : bLt y x
      . have e := zHj h1 h2
        subst e
        rw [cond_false,cond_false,zHb n xs ys (by omega) x2 y2,List.filter_cons,if_pos (by simp),List.length_cons]
        congr 2
        apply List.filter_congr
        intro z hz
        rw [List.any_cons, show (x == z) = false from by
          have:=no (x1 z hz)
          rwa [Bool.beq_comm] at this,Bool.false_or]
      . rw [cond_false, cond_true, zHb n (x :: xs) ys (by simp; omega) hx y2]
        congr 1
        apply List.filter_congr
        intro z hz
        have hyz:bLt y z=true:=by
          rcases List.mem_cons.1 hz with rfl | hz
          . exact h2
          . exact S.tr y x z h2 (x1 z hz)
        rw [List.any_cons, show (y == z) = false from by
          have:=no hyz
          rwa [Bool.beq_comm] at this,Bool.false_or]
    . rw [cond_true, zHb n xs (y :: ys) (by simp; omega) x2 hy, List.filter_cons, if_neg]
      intro hc
      rw [List.any_eq_true] at hc
      obtain ⟨z,hz,e⟩:=hc
      rw [beq_iff_eq] at e
      subst e
      rcases List.mem_cons.1 hz with rfl | hz
      . rw [zEL] at h1
        cases h1
      . have := S.tr z y z h1 (y1 z hz)
        rw [zEL] at this
        cases this
theorem zJA {α : Type} {lt : α -> α -> Bool} (S : Sto lt) {b : α -> α -> Bool} (hb : ∀ p x, b p x = false -> lt p x = true) : ∀ (xs : List α) (p : α), adjB b p xs = false -> zBo lt (p :: xs)
  | [],p,_=>List.pairwise_cons.2 ⟨fun y h=>(by cases h),List.Pairwise.nil⟩
  | x::xs,p,h=>by
    unfold adjB at h
    rw [Bool.or_eq_false_iff] at h
    have ih:=zJA S hb xs x h.2
    have hpx:=hb p x h.1
    refine List.pairwise_cons.2 ⟨fun y hy=>?_,ih⟩
    rcases List.mem_cons.1 hy with rfl | hy
    . exact hpx
    . exact S.tr p x y hpx ((List.pairwise_cons.1 ih).1 y hy)
theorem zED {l:List (List UInt8)} (h:tokB l=true):zBo bLt l:=by
  unfold tokB at h
  cases l with
  | nil=>exact List.Pairwise.nil
  | cons x xs=>
    rw [Bool.not_eq_true',zFG,Bool.or_eq_false_iff] at h
    exact zJA zCf (fun p x hb=>by
      rw [Bool.or_eq_false_iff] at hb
      simpa using hb.2) xs x h.2
theorem zMx {l:List (List UInt8)} (h:zBo bLt l):(l.mergeSort fun x y=>!(bLt y x))=l:=
  zH2 zCf (List.mergeSort_perm l _) (zEj zCf l) (h.w zCf)
theorem zOX {l:List (List UInt8)} (h:zBo bLt l):setL l=l:=
  zEe zCf (zHG l) h fun x=>zGb
def zDT (a b:List (List UInt8)):List (List UInt8):=a.filter fun x=>b.any fun y=>y==x
theorem zFV (a b:List (List UInt8)):(zDT a b).length<=a.length:=List.length_filter_le _ _
theorem zN4 {fu:Nat} {a b:List (List UInt8)} (hf:4294967296<fu\/a.length+b.length<fu) (ha:a.length<=1048576) (hb:b.length<=1048576) (sa:zBo bLt a) (sb:zBo bLt b):zDz fu a b=some ((zDT a b).length:Int):=by
  unfold zDz zDd
  have hfu:a.length+b.length<fu:=by omega
  rw [zIf (by omega),zAD,zIf (by omega),zAD,zLB (by omega),zAD,zLB (by omega),zAD,zMx sa,zMx sb,zNJ (a.length+b.length) fu a b 0 (Nat.le_refl _) hfu (by omega) (by omega),zAD,zAD,zHb _ a b (Nat.le_refl _) sa sb]
  simp [zDT]
theorem zMi {a b:List (List UInt8)} (sa:zBo bLt a) (sb:zBo bLt b):((b.foldl (putS bLt) (a.foldl (putS bLt) [])).length:Int)=a.length+b.length-(zDT a b).length:=by
  obtain ⟨h1,h2⟩:=zGg zCf a [] List.Pairwise.nil
  obtain ⟨h3,h4⟩:=zGg zCf b _ h1
  have hn:=zBo.nodup zCf h3
  have hb2:(a++b.filter fun x=>!(a.any fun y=>y==x)).Nodup:=by
    refine List.nodup_append.2 ⟨zBo.nodup zCf sa,(zBo.nodup zCf sb).sublist List.filter_sublist,fun x hx y hy e=>?_⟩
    subst e
    have:=(List.mem_filter.1 hy).2
    simp at this
    exact this _ hx rfl
  have hp:(b.foldl (putS bLt) (a.foldl (putS bLt) [])).Perm (a++b.filter fun x=>!(a.any fun y=>y==x)):=by
    refine (List.perm_ext_iff_of_nodup hn hb2).2 fun x=>?_
    rw [h4,h2,List.mem_append,List.mem_filter]
    by_cases hx:x ∈ a
    . simp [hx]
    . simp [hx]
      exact fun _ y hy e=>hx (e ▸ hy)
  have hl:=hp.length_eq
  rw [List.length_append] at hl
  have e1:zDT a b=zDT b a:=by
    refine zEe zCf (sa.sublist List.filter_sublist) (sb.sublist List.filter_sublist) fun x=>?_
    unfold zDT
    rw [List.mem_filter,List.mem_filter]
    simp
    exact And.comm
  have e2:(zDT b a).length+(b.filter fun x=>!(a.any fun y=>y==x)).length=b.length:=by
    have h:∀ l:List (List UInt8),(l.filter fun x=>a.any fun y=>y==x).length+(l.filter fun x=>!(a.any fun y=>y==x)).length=l.length:=by
      intro l
      induction l with
      | nil=>rfl
      | cons z l ih=>
        simp only [List.filter_cons,List.length_cons]
        cases a.any fun y=>y==z <;> simp <;> omega
    exact h b
  rw [e1]
  omega
theorem zKv {fu:Nat} {a b:List (List UInt8)} (hf:1048577<=fu) (ha:a.length<=524288) (hb:b.length<=524288):zCc fu a b=some (b.foldl (putS bLt) (a.foldl (putS bLt) [])):=by
  unfold zCc
  have grow:∀ (acc:List (List UInt8)) x,(putS bLt acc x).length<=acc.length+1:=fun acc x=>by
    unfold putS putW
    cases (acc[plc bLt x acc]? == some x)
    . rw [cond_false,zEJ];exact Nat.le_refl _
    . rw [cond_true];omega
  have h:=zDl (xs:=a) (g:=putS bLt) (Inv:=fun i acc=>acc.length<=i) (L:=fun k i acc=>zB1 fu a k i acc) (fun k i acc x hx hacc=>by
    have hi:=zCk hx
    show zB1 fu a (k+1) (i:Int) acc=_
    rw [zB1,lt_t hi,cond_true]
    simp only [zBN hi,zAa hx,zDp,zM1 (show acc.length<fu by omega) (show acc.length<=2147483648 by omega),zAD,zD8 (show i<=4294967296 by omega),zBW,cond_false]) (fun i acc x hx hacc=>Nat.le_trans (grow acc x) (Nat.succ_le_succ hacc)) (fun k acc hacc=>by show zB1 fu a (k+1) (a.length:Int) acc=_;rw [zB1,lt_f];rfl) (a:=[]) (Nat.zero_le _) (show a.length<fu by omega)
  have h':=zDl (xs:=b) (g:=putS bLt) (Inv:=fun i acc=>acc.length<=a.length+i) (L:=fun k i acc=>zB0 fu b k i acc) (fun k i acc x hx hacc=>by
    have hi:=zCk hx
    show zB0 fu b (k+1) (i:Int) acc=_
    rw [zB0,lt_t hi,cond_true]
    simp only [zBN hi,zAa hx,zDp,zM1 (show acc.length<fu by omega) (show acc.length<=2147483648 by omega),zAD,zD8 (show i<=4294967296 by omega),zBW,cond_false]) (fun i acc x hx hacc=>by have:=grow acc x;show _<=a.length+(i+1);omega) (fun k acc hacc=>by show zB0 fu b (k+1) (b.length:Int) acc=_;rw [zB0,lt_f];rfl) (a:=a.foldl (putS bLt) []) h.2 (show b.length<fu by omega)
  rw [h.1,zAD,h'.1,zAD]
def zDw (a b:List (List UInt8)) (t:Int):Bool:=((tokB a&&tokB b)&&((inI a.length 0 1000&&inI b.length 0 1000)&&inI t 1 1000))&&decide (t*((a.length:Int)+b.length-(zDT a b).length)<=1000*((zDT a b).length:Int))
theorem zKR {a b:List (List UInt8)} {t:Int} (h1:inI a.length 0 1000=true) (h2:inI b.length 0 1000=true) (h3:inI t 1 1000=true):(a.length<=1000/\b.length<=1000/\1<=t/\t<=1000)/\(∀ n:Int,0<=n->n<=2000->0<=t*n/\t*n<=2000000):=by
  unfold inI at *
  simp only [Bool.and_eq_true,decide_eq_true_eq] at *
  refine ⟨⟨by omega,by omega,by omega,by omega⟩,fun n hn hn'=>⟨Int.mul_nonneg (by omega) hn,?_⟩⟩
  have:=Int.mul_le_mul h3.2 hn' hn (by omega)
  omega
theorem zJC {fu:Nat} {a b:List (List UInt8)} {t:Int} (hf:1048577<=fu) (ha:a.length<=1048576) (hea:∀ t ∈ a,t.length<=1048576) (hb:b.length<=1048576) (heb:∀ t ∈ b,t.length<=1048576):zCL fu a b t=some (zDw a b t):=by
  unfold zCL zF3 zDC
  rw [zFl hf ha hea,zAD,zFl hf hb heb]
  simp only [zBw,zIV,zAD]
  simp only [zFA]
  unfold zDw
  cases h1:tokB a
  . rfl
  cases h2:tokB b
  . rfl
  cases h3:inI (a.length:Int) 0 1000
  . rfl
  cases h4:inI (b.length:Int) 0 1000
  . rfl
  cases h5:inI t 1 1000
  . rfl
  obtain ⟨⟨n1,n2,n3,n4⟩,hm⟩:=zKR h3 h4 h5
  have hi:=zFV a b
  have sa:=zED h1
  have sb:=zED h2
  have hu:=zMi sa sb
  obtain ⟨m1,m2⟩:=hm ((a.length:Int)+b.length-(zDT a b).length) (by omega) (by omega)
  show (bif false then some false else _)=_
  rw [cond_false,zI1 hf ha hb,zAD,zKY,zOX sa,zKv hf (by omega) (by omega)]
  show (ck (i64B (1000*((zDT a b).length:Int))) _)=_
  rw [ck_t (zBm (by omega) (by omega)),zAD,hu,ck_t (zBm (by omega) (by omega))]
  rfl
theorem zJO {fu:Nat} {a b:List (List UInt8)} {t:Int} (hf:1048577<=fu) (ha:a.length<=1048576) (hea:∀ t ∈ a,t.length<=1048576) (hb:b.length<=1048576) (heb:∀ t ∈ b,t.length<=1048576):zCU fu a b t=some (zDw a b t):=by
  unfold zCU zDU
  have z1:zCV fu (a.length:Int)=some (inI a.length 0 1000):=rfl
  have z2:zCV fu (b.length:Int)=some (inI b.length 0 1000):=rfl
  have z3:zBs fu t=some (inI t 1 1000):=rfl
  rw [zFf hf ha hea,zAD,zFf hf hb heb,z1,z2,z3]
  simp only [zBw,zAD]
  simp only [zFA]
  unfold zDw
  cases h1:tokB a
  . rfl
  cases h2:tokB b
  . rfl
  cases h3:inI (a.length:Int) 0 1000
  . rfl
  cases h4:inI (b.length:Int) 0 1000
  . rfl
  cases h5:inI t 1 1000
  . rfl
  obtain ⟨⟨n1,n2,n3,n4⟩,hm⟩:=zKR h3 h4 h5
  have hi:=zFV a b
  have sa:=zED h1
  have sb:=zED h2
  obtain ⟨m1,m2⟩:=hm ((a.length:Int)+b.length-(zDT a b).length) (by omega) (by omega)
  show (bif false then some false else _)=_
  rw [cond_false,zN4 (.inr (by omega)) ha hb sa sb,zAD,ck_t (zBm (by omega) (by omega)),ck_t (zBm (by omega) (by omega)),ck_t (zBm (by omega) (by omega)),ck_t (zBm (by omega) (by omega))]
  rfl
theorem zIT {tb:List (List UInt8 × Int)} {l:List (List UInt8)} (hl:zBo bLt l):zBo (tlt tb) (ordL tb l):=by
  have h1:zDu (tlt tb) (ordL tb l):=zEj (zIQ tb) l
  have h2:(ordL tb l).Nodup:=(List.mergeSort_perm l _).nodup_iff.2 (hl.nodup zCf)
  refine (h1.and h2).imp fun {a b} h=>?_
  cases hb:tlt tb a b
  . exact absurd ((zIQ tb).tri _ _ hb h.1) h.2
  . rfl
theorem zLh {tb:List (List UInt8 × Int)} {l:List (List UInt8)} {x:List UInt8}:x ∈ ordL tb l ↔ x ∈ l:=List.mem_mergeSort
theorem zLI {tb:List (List UInt8 × Int)} {l:List (List UInt8)}:(ordL tb l).length=l.length:=List.length_mergeSort _
theorem zIO {α : Type} {p : α -> Bool} {m : α} {ms : List α} : ∀ {l : List α}, l.filter p = m :: ms -> m ∈ l.take (l.length - ms.length)
  | [],h=>(by cases h)
  | x::l,h=>by
    cases hx:p x
    . rw [List.filter_cons_of_neg (by simp [hx])] at h
      have h1:=zIO h
      have h2:(m::ms).length<=l.length:=h ▸ List.length_filter_le p l
      rw [List.length_cons] at h2
      rw [List.length_cons,show l.length+1-ms.length=(l.length-ms.length)+1 by omega,List.take_succ_cons]
      exact List.mem_cons_of_mem _ h1
    . rw [List.filter_cons_of_pos hx] at h
      injection h with h1 h2
      subst h1
      have h3:ms.length<=l.length:=h2 ▸ List.length_filter_le p l
      rw [List.length_cons,show l.length+1-ms.length=(l.length-ms.length)+1 by omega,List.take_succ_cons]
      exact List.mem_cons_self
theorem zNZ {tb : List (List UInt8 × Int)} {a b : List (List UInt8)} {i j : Nat} (ha : zBo bLt a) (hb : zBo bLt b) (hc : 0 < (zDT a b).length) (hi : a.length + 1 <= i + (zDT a b).length) (hj : b.length + 1 <= j + (zDT a b).length) :
    ∃ m,m ∈ (ordL tb a).take i/\m ∈ (ordL tb b).take j:=by
  have sa:=zIT (tb:=tb) ha
  have sb:=zIT (tb:=tb) hb
  have mem:∀ {l:List (List UInt8)} {x:List UInt8},(l.any fun y=>y==x)=true ↔ x ∈ l:=fun {l x}=>by
    rw [List.any_eq_true]
    constructor
    . rintro ⟨y, h1, h2⟩
      obtain rfl:y=x:=by simpa using h2
      exact h1
    . exact fun h=>⟨x,h,beq_self_eq_true x⟩
  have e:((ordL tb a).filter fun x=>b.any fun y=>y==x)=((ordL tb b).filter fun x=>a.any fun y=>y==x):=by
    refine zEe (zIQ tb) (sa.sublist List.filter_sublist) (sb.sublist List.filter_sublist) fun x=>?_
    rw [List.mem_filter,List.mem_filter,mem,mem,zLh,zLh]
    exact And.comm
  have el:((ordL tb a).filter fun x=>b.any fun y=>y==x).length=(zDT a b).length:=((List.mergeSort_perm a _).filter _).length_eq
  cases h:(ordL tb a).filter fun x=>b.any fun y=>y==x with
  | nil=>rw [h] at el;rw [<- el] at hc;exact absurd hc (Nat.lt_irrefl 0)
  | cons m ms=>
    have h1:=zIO h
    have h2:=zIO (e ▸ h)
    rw [h,List.length_cons] at el
    rw [zLI] at h1 h2
    exact ⟨m,(List.take_subset_take_left _ (by omega)) h1,(List.take_subset_take_left _ (by omega)) h2⟩
end Go.Proofs.YtmgiijdejigdhaaGreat
namespace Go.Proofs.YtmgiijdejigdhaaGreat
open Go.RowKit
set_option linter.unusedVariables false
set_option linter.unusedSimpArgs false
def fst1 (seen : List (List UInt8)) : List (List UInt8) -> List (List UInt8)
  | []=>[]
  | x::xs=>bif seen.any (fun y=>y==x) then fst1 (seen ++ [x]) xs else x::fst1 (seen ++ [x]) xs
theorem zLY {seen l:List (List UInt8)} {x:List UInt8}:x ∈ fst1 seen l ↔ x ∈ l/\x ∉ seen:=by
  induction l generalizing seen with
  | nil=>simp [fst1]
  | cons z l ih=>
    unfold fst1
    cases hz:seen.any fun y=>y==z
    . have hz' : z ∉ seen := fun h => by simp at hz; exact hz z h rfl
      rw [cond_false,List.mem_cons,ih,List.mem_append,List.mem_singleton,List.mem_cons]
      constructor
      . rintro (rfl | ⟨h1, h2⟩)
        . exact ⟨.inl rfl,hz'⟩
        . exact ⟨.inr h1,fun h=>h2 (.inl h)⟩
      . rintro ⟨rfl | h1, h2⟩
        . exact .inl rfl
        . by_cases e : x = z
          . exact .inl e
          . exact .inr ⟨h1,fun h=>h.elim h2 e⟩
    . have hz' : z ∈ seen := by simpa using hz
      rw [cond_true,ih,List.mem_append,List.mem_singleton,List.mem_cons]
      constructor
      . rintro ⟨h1, h2⟩
        exact ⟨.inr h1,fun h=>h2 (.inl h)⟩
      . rintro ⟨rfl | h1, h2⟩
        . exact absurd hz' h2
        . exact ⟨h1,fun h=>h.elim h2 fun e=>h2 (e ▸ hz')⟩
theorem zM6 {seen l:List (List UInt8)}:(fst1 seen l).Nodup:=by
  induction l generalizing seen with
  | nil=>exact List.Pairwise.nil
  | cons z l ih=>
    unfold fst1
    cases seen.any fun y=>y==z
    . rw [cond_false]
      refine List.nodup_cons.2 ⟨fun h=>?_,ih⟩
      have:=(zLY.1 h).2
      simp at this
    . exact ih
theorem zMe (l:List (List UInt8)):(fst1 [] l).Perm (setL l):=by
  refine (List.perm_ext_iff_of_nodup zM6 (zBo.nodup zCf (zHG l))).2 fun x=>?_
  rw [zLY,zGb]
  simp
theorem zLA (seen l:List (List UInt8)):(fst1 seen l).length<=l.length:=by
  induction l generalizing seen with
  | nil=>exact Nat.le_refl _
  | cons z l ih=>
    unfold fst1
    have:=ih (seen ++ [z])
    cases seen.any fun y=>y==z <;> simp <;> omega
def allL (sets:List (List (List UInt8))):List (List UInt8):=sets.flatMap setL
theorem zN3 {sets:List (List (List UInt8))} {n:Nat} (h:(sets.map fun s=>s.length).sum<=n):(allL sets).length<=n:=by
  refine Nat.le_trans ?_ h
  clear h
  induction sets with
  | nil=>exact Nat.le_refl _
  | cons s sets ih=>
    have:=zIX s
    unfold allL at ih ⊢
    rw [List.flatMap_cons,List.length_append,List.map_cons,List.sum_cons]
    omega
def tabS (acc : List (List UInt8 × Int)) : List UInt8 -> List (List UInt8) -> List (List UInt8 × Int)
  | _,[]=>acc
  | p,x::xs=>bif p==x then tabS (acc.set (acc.length-1) (x,(gtD acc ((acc.length:Int)-1)).2+1)) x xs else tabS (acc ++ [(x,1)]) x xs
def tabL : List (List UInt8) -> List (List UInt8 × Int)
  | []=>[]
  | x::xs=>tabS [(x,1)] x xs
theorem zLo {fu : Nat} {sets : List (List (List UInt8))} {i : Nat} {s : List (List UInt8)} (hs : sets[i]? = some s) (hf : 1048577 <= fu) (hl : s.length <= 1048576) (acc : List (List UInt8)) (ha : acc.length + s.length <= 1048576) :
    zB2 fu sets (i:Int) fu (0:Int) acc=some ((fst1 [] s).foldl (putW bLt) acc):=by
  have hi:=zCk hs
  have key:∀ m j k acc,j+m=s.length->m<k->acc.length+m<=1048576->zB2 fu sets (i:Int) k (j:Int) acc=some ((fst1 (s.take j) (s.drop j)).foldl (putW bLt) acc):=by
    intro m
    induction m with
    | zero=>
      intro j k acc hm hk ha
      obtain ⟨k,rfl⟩:∃ q,k=q+1:=⟨k-1,by omega⟩
      obtain rfl:j=s.length:=by omega
      rw [zB2,ck_t (zBN hi),zAa hs,lt_f,List.drop_length]
      rfl
    | succ m ih=>
      intro j k acc hm hk ha
      obtain ⟨k,rfl⟩:∃ q,k=q+1:=⟨k-1,by omega⟩
      have hlt:j<s.length:=by omega
      have hx:=List.getElem?_eq_getElem hlt
      have ht:s.take (j+1)=s.take j ++ [s[j]]:=by rw [List.take_add_one,hx];rfl
      have hlen:(putW bLt acc s[j]).length=acc.length+1:=zEJ _ _ _
      rw [zB2,ck_t (zBN hi),zAa hs,lt_t hlt,cond_true,ck_t (zBN hi),ck_t (zIU (by omega)),ck_t (zBN hi),ck_t (zBN hlt),zAa hx,zFX,zOj (by simp;omega) (by simp;omega),zAD,zDK hx,fst1]
      cases (s.take j).any fun y=>y==s[j]
      . rw [Bool.not_false,cond_true,cond_false,ck_t (zBN hi),ck_t (zBN hlt),zM1 (by omega) (by omega),zAD,cond_true,ck_t (zDs (by omega)),zBW,List.foldl_cons,ih (j+1) k _ (by omega) (by omega) (by omega),ht]
      . rw [Bool.not_true,cond_false,cond_true,ck_t (zDs (by omega)),zBW,ih (j+1) k _ (by omega) (by omega) (by omega),ht]
  have:=key s.length 0 fu acc (by omega) (by omega) ha
  rw [show ((0:Nat):Int)=0 from rfl,List.take_zero,List.drop_zero] at this
  exact this
theorem zG0 : ∀ (xs acc : List (List UInt8)), (xs.foldl (putW bLt) acc).length = acc.length + xs.length
  | [],acc=>rfl
  | x::xs,acc=>by
    rw [List.foldl_cons,zG0 xs,show (putW bLt acc x).length=acc.length+1 from zEJ _ _ _,List.length_cons]
    omega
theorem zM0 {fu:Nat} {sets:List (List (List UInt8))} (hf:1048577<=fu) (hl:sets.length<=1048576) (he:∀ s ∈ sets,s.length<=1048576) (hw:(sets.map fun s=>s.length).sum<=1048576):zBL fu sets fu (0:Int) []=some ((sets.flatMap (fst1 [])).foldl (putW bLt) []):=by
  have key:∀ m i k acc,i+m=sets.length->m<k->acc.length+((sets.drop i).map fun s=>s.length).sum<=1048576->zBL fu sets k (i:Int) acc=some (((sets.drop i).flatMap (fst1 [])).foldl (putW bLt) acc):=by
    intro m
    induction m with
    | zero=>
      intro i k acc hm hk ha
      obtain ⟨k,rfl⟩:∃ q,k=q+1:=⟨k-1,by omega⟩
      obtain rfl:i=sets.length:=by omega
      rw [zBL,lt_f,List.drop_length]
      rfl
    | succ m ih=>
      intro i k acc hm hk ha
      obtain ⟨k,rfl⟩:∃ q,k=q+1:=⟨k-1,by omega⟩
      have hlt:i<sets.length:=by omega
      have hs:=List.getElem?_eq_getElem hlt
      have hfl:=zLA [] sets[i]
      rw [zDK hs,List.map_cons,List.sum_cons] at ha
      rw [zBL,lt_t hlt,cond_true,zLo hs hf (he _ (zCn hs)) acc (by omega),zAD,ck_t (zDs (by omega)),zBW,ih (i+1) k _ (by omega) (by omega) (by rw [zG0];omega),zDK hs,List.flatMap_cons,List.foldl_append]
  have:=key sets.length 0 fu [] (by omega) (by omega) (by rw [List.drop_zero];simpa using hw)
  rw [show ((0:Nat):Int)=0 from rfl,List.drop_zero] at this
  exact this
theorem zP0 (sets:List (List (List UInt8))):(sets.flatMap (fst1 [])).foldl (putW bLt) []=(allL sets).mergeSort fun x y=>!(bLt y x):=by
  obtain ⟨h1,h2⟩:=zGZ zCf (sets.flatMap (fst1 [])) [] List.Pairwise.nil
  refine zH2 zCf ?_ h1 (zEj zCf _)
  refine h2.trans ?_
  rw [List.append_nil]
  refine List.Perm.trans ?_ (List.mergeSort_perm _ _).symm
  unfold allL
  induction sets with
  | nil=>exact List.Perm.refl _
  | cons s sets ih=>
    rw [List.flatMap_cons,List.flatMap_cons]
    exact (zMe s).append (ih (zGZ zCf _ [] List.Pairwise.nil).1 (zGZ zCf _ [] List.Pairwise.nil).2)
def Cnt (n:Nat) (acc:List (List UInt8 × Int)):Prop:=acc.length<=n/\∀ x ∈ acc,1<=x.2/\x.2<=n
theorem zLW {acc:List (List UInt8 × Int)} (h:0<acc.length):acc[acc.length-1]? = some (gtD acc ((acc.length:Int)-1)):=by
  have e:((acc.length:Int)-1)=((acc.length-1:Nat):Int):=by omega
  have h1:=List.getElem?_eq_getElem (show acc.length-1<acc.length by omega)
  rw [e,zAa h1]
  exact h1
theorem zOS {n:Nat} {acc:List (List UInt8 × Int)} (h:Cnt n acc) (hp:0<acc.length) {x:List UInt8}:Cnt (n+1) (acc.set (acc.length-1) (x,(gtD acc ((acc.length:Int)-1)).2+1)):=by
  refine ⟨by rw [List.length_set];exact Nat.le_succ_of_le h.1,fun y hy=>?_⟩
  have hl:=h.2 _ (List.mem_of_getElem? (zLW hp))
  rcases List.mem_or_eq_of_mem_set hy with hy | rfl
  . have := h.2 y hy
    omega
  . show 1 <= (gtD acc ((acc.length : Int) - 1)).2 + 1 /\ (gtD acc ((acc.length : Int) - 1)).2 + 1 <= ((n + 1 : Nat) : Int)
    omega
theorem zOF {n:Nat} {acc:List (List UInt8 × Int)} (h:Cnt n acc) {x:List UInt8}:Cnt (n+1) (acc ++ [(x,1)]):=by
  refine ⟨by rw [List.length_append];exact Nat.succ_le_succ h.1,fun y hy=>?_⟩
  rcases List.mem_append.1 hy with hy | hy
  . have := h.2 y hy
    omega
  . rw [List.mem_singleton.1 hy]
    show (1:Int)<=1/\(1:Int)<=((n+1:Nat):Int)
    omega
def zMH (acc:List (List UInt8 × Int)) (q:List UInt8):Prop:=0<acc.length/\(gtD acc ((acc.length:Int)-1)).1=q
theorem zNY {acc:List (List UInt8 × Int)} {x:List UInt8} (c:Int) (h:0<acc.length):zMH (acc.set (acc.length-1) (x,c)) x:=by
  refine ⟨by rw [List.length_set];exact h,?_⟩
  have e:((acc.length:Int)-1)=((acc.length-1:Nat):Int):=by omega
  rw [List.length_set,e,zAa (List.getElem?_set_self (by omega))]
theorem zLg {acc:List (List UInt8 × Int)} {x:List UInt8} (c:Int):zMH (acc ++ [(x,c)]) x:=by
  refine ⟨by simp,?_⟩
  have e:(((acc ++ [(x,c)]).length:Int)-1)=((acc.length:Nat):Int):=by simp
  rw [e,zAa (show (acc ++ [(x,c)])[acc.length]? = some (x,c) by simp)]
theorem zM9 {fu:Nat} {s:List (List UInt8)} (hl:s.length<=1048576):∀ m i k acc q,i+1+m=s.length->m<k->s[i]? = some q->Cnt (i+1) acc->zMH acc q->zAc fu s k ((i+1:Nat):Int) acc=some (tabS acc q (s.drop (i+1))):=by
  intro m
  induction m with
  | zero=>
    intro i k acc q hm hk hq hc hla
    obtain ⟨k,rfl⟩:∃ q,k=q+1:=⟨k-1,by omega⟩
    have e:i+1=s.length:=by omega
    rw [zAc,e,lt_f,List.drop_length]
    rfl
  | succ m ih=>
    intro i k acc q hm hk hq hc hla
    obtain ⟨k,rfl⟩:∃ q,k=q+1:=⟨k-1,by omega⟩
    have hlt:i+1<s.length:=by omega
    have hx:=List.getElem?_eq_getElem hlt
    have hg:=hc.2 _ (List.mem_of_getElem? (zLW hla.1))
    have hcl:=hc.1
    have hlp:=hla.1
    have hin:inR ((acc.length:Int)-1) acc.length=true:=zNT (by omega) (by omega)
    have hb1:i64B ((acc.length:Int)-1)=true:=zBm (by omega) (by omega)
    have hb2:i64B ((gtD acc ((acc.length:Int)-1)).2+1)=true:=zBm (by omega) (by omega)
    have hto:((acc.length:Int)-1).toNat=acc.length-1:=by omega
    rw [zAc,lt_t hlt,cond_true,zIg,zGD,ck_t (by rw [zHU i (by omega),Bool.or_true]),ck_t (by rw [zBN (zCk hq),Bool.or_true]),ck_t (by rw [zBN hlt,Bool.or_true]),zBw,Bool.true_and,zAa hq,zAa hx,zDK hx,tabS]
    cases hqx:(q==s[i+1])
    . rw [cond_false, cond_false, ck_t (zBN hlt), ck_t (zBn (by simp; omega)), zBW, ck_t (zD8 (by omega))]
      exact ih (i+1) k _ _ (by omega) (by omega) hx (zOF hc) (zLg 1)
    . rw [cond_true, cond_true, ck_t hb1, ck_t hb1, ck_t hin, ck_t hb2, ck_t hin, zBW, ck_t (zD8 (by omega)), hto]
      have hq':(gtD acc ((acc.length:Int)-1)).1=s[i+1]:=by
        rw [hla.2]
        simpa using hqx
      rw [hq']
      exact ih (i+1) k _ _ (by omega) (by omega) hx (zOS hc hla.1) (zNY _ hla.1)
theorem zOa (x:List UInt8):Cnt 1 [(x,1)]:=⟨Nat.le_refl _,fun y hy=>by rw [List.mem_singleton.1 hy];exact ⟨Int.le_refl _,Int.le_refl _⟩⟩
theorem zLs {fu:Nat} {s:List (List UInt8)} (hf:1048577<=fu) (hl:s.length<=1048576):zAc fu s fu (0:Int) []=some (tabL s):=by
  obtain ⟨k,hk⟩:∃ k,fu=k+1:=⟨fu-1,by omega⟩
  have key:∀ n,n=k+1->zAc fu s n (0:Int) []=some (tabL s):=by
    intro n hn
    subst hn
    cases s with
    | nil=>rw [zAc];rfl
    | cons x t=>
      have h:=zM9 (fu:=fu) hl t.length 0 k [(x,1)] x (by simp;omega) (by simp at hl;omega) rfl (zOa x) (zLg (acc:=[]) 1)
      have h0:0<(x::t).length:=by simp
      rw [zAc,lt_0 h0,cond_true,zKl,zJs (show (x::t)[0]? = some x from rfl)]
      show (ck (inR (0:Int) (x::t).length) (ck (zD4 (([]:List (List UInt8 × Int)).length + [(x,(1:Int))].length)) (ck (i64B (0+1)) (zAc fu (x::t) k (0+1) ([] ++ [(x,1)])))))=_
      rw [ck_t (zJo h0)]
      exact h
  exact key fu hk
theorem zN7 {fu : Nat} {a0 : List (List (List UInt8))} (hf : 1048577 <= fu) (k1 : a0.length <= 1048576) (he : ∀ s ∈ a0, s.length <= 1048576) (hw : (a0.map fun s => s.length).sum <= 1048576) :
    zC9 fu a0=some (tabL ((allL a0).mergeSort fun x y=>!(bLt y x))):=by
  have hal:=zN3 (n:=1048576) (sets:=a0) hw
  unfold zC9
  rw [zM0 hf k1 he hw,zAD,zP0,zLs hf (by rw [List.length_mergeSort];exact hal),zAD]
structure TabI (acc : List (List UInt8 × Int)) (pre : List (List UInt8)) (n : Nat) : Prop where
  cnt:∀ e ∈ acc,1<=e.2/\e.2<=(pre.count e.1:Int)
  asc:acc.Pairwise fun a b=>bLt a.1 b.1=true
  len:acc.length<=n
theorem zMO : ∀ (xs : List (List UInt8)) (hd : List (List UInt8 × Int)) (p : List UInt8) (c : Int) (pre : List (List UInt8)) (n : Nat), TabI (hd ++ [(p, c)]) pre n -> zDu bLt (p :: xs) -> TabI (tabS (hd ++ [(p, c)]) p xs) (pre ++ xs) (n + xs.length)
  | [],hd,p,c,pre,n,h,hs=>by
    unfold tabS
    rw [List.append_nil]
    exact h
  | x::xs,hd,p,c,pre,n,h,hs=>by
    have hgt:gtD (hd ++ [(p,c)]) (((hd ++ [(p,c)]).length:Int)-1)=(p,c):=by
      have:(hd ++ [(p,c)])[hd.length]? = some (p,c):=by simp
      rw [List.length_append,List.length_singleton,show ((hd.length+1:Nat):Int)-1=((hd.length:Nat):Int) by omega,zAa this]
    have hset:∀ y,(hd ++ [(p,c)]).set ((hd ++ [(p,c)]).length-1) y=hd ++ [y]:=fun y=>by
      rw [List.length_append,List.length_singleton,Nat.add_sub_cancel,List.set_append_right _ _ (Nat.le_refl _),Nat.sub_self]
      rfl
    obtain ⟨h1,h2⟩:=List.pairwise_cons.1 hs
    obtain ⟨hc,ha,hl⟩:=h
    obtain ⟨a1,a2,a3⟩:=List.pairwise_append.1 ha
    have hp:=hc (p,c) (by simp)
    unfold tabS
    rw [hset,hgt,show pre++x::xs=(pre ++ [x])++xs by simp,List.length_cons]
    have hmono:∀ y,pre.count y<=(pre ++ [x]).count y:=fun y=>by rw [List.count_append];omega
    rw [List.length_append,List.length_singleton] at hl
    cases he:p==x
    . have hne : p ≠ x := by simpa using he
      have hlt:bLt p x=true:=by
        cases hb:bLt p x
        . exact absurd (zHj hb (h1 x List.mem_cons_self)) hne
        . rfl
      rw [cond_false]
      have:=zMO xs (hd ++ [(p,c)]) x 1 (pre ++ [x]) (n+1) ⟨fun e hm=>?_,?_,?_⟩ h2
      . rwa [show n+1+xs.length=n+(xs.length+1) by omega] at this
      . rcases List.mem_append.1 hm with hm | hm
        . have := hc e hm
          have:=hmono e.1
          omega
        . rw [List.mem_singleton.1 hm]
          refine ⟨Int.le_refl _,?_⟩
          show (1:Int)<=((pre ++ [x]).count x:Int)
          rw [List.count_append,List.count_singleton_self]
          omega
      . refine List.pairwise_append.2 ⟨ha, List.pairwise_singleton _ _, fun a hm b hb => ?_⟩
        rw [List.mem_singleton.1 hb]
        rcases List.mem_append.1 hm with hm | hm
        . exact zGO (a3 a hm (p,c) (by simp)) hlt
        . rw [List.mem_singleton.1 hm]
          exact hlt
      . rw [List.length_append, List.length_append, List.length_singleton, List.length_singleton]
        omega
    . obtain rfl : p = x := by simpa using he
      rw [cond_true]
      have:=zMO xs hd p (c+1) (pre ++ [p]) (n+1) ⟨fun e hm=>?_,?_,?_⟩ h2
      . rwa [show n+1+xs.length=n+(xs.length+1) by omega] at this
      . rcases List.mem_append.1 hm with hm | hm
        . have := hc e (List.mem_append_left _ hm)
          have:=hmono e.1
          omega
        . rw [List.mem_singleton.1 hm]
          have hp1:=hp.1
          have hp2:c<=(pre.count p:Int):=hp.2
          refine ⟨by show 1<=c+1;omega,?_⟩
          show c+1<=((pre ++ [p]).count p:Int)
          rw [List.count_append,List.count_singleton_self]
          omega
      . refine List.pairwise_append.2 ⟨a1, List.pairwise_singleton _ _, fun a hm b hb => ?_⟩
        rw [List.mem_singleton.1 hb]
        exact a3 a hm (p,c) (by simp)
      . rw [List.length_append, List.length_singleton]
        omega
theorem zPA {s:List (List UInt8)} (hs:zDu bLt s):TabI (tabL s) s s.length:=by
  cases s with
  | nil=>exact ⟨fun e h=>(by cases h),List.Pairwise.nil,Nat.le_refl _⟩
  | cons x xs=>
    have:=zMO xs [] x 1 [x] 1 ⟨fun e hm=>by
      rw [List.nil_append] at hm
      rw [List.mem_singleton.1 hm]
      exact ⟨Int.le_refl _,by show (1:Int)<=(([x]:List (List UInt8)).count x:Int);rw [List.count_singleton_self];exact Int.le_refl _⟩,List.pairwise_singleton _ _,Nat.le_refl _⟩ hs
    rw [List.nil_append] at this
    unfold tabL
    rwa [List.length_cons,Nat.add_comm]
def cntL (sets:List (List (List UInt8))):List (List UInt8 × Int):=tabL ((allL sets).mergeSort fun x y=>!(bLt y x))
theorem zP2 (sets:List (List (List UInt8))):TabI (cntL sets) ((allL sets).mergeSort fun x y=>!(bLt y x)) (allL sets).length:=by
  have:=zPA (zEj zCf (allL sets))
  rwa [List.length_mergeSort] at this
def Sm {α:Type} (o:Option α) (P:α->Prop):Prop:=∃ r,o=some r/\P r
section
variable {α β:Type}
theorem Sm.some {r:α} {P:α->Prop} (h:P r):Sm (some r) P:=⟨r,rfl,h⟩
theorem Sm.cl [Inhabited α] {o:Option α} {P:α->Prop} {k:α->Option β} {Q:β->Prop} (h:Sm o P) (hk:∀ r,P r->Sm (k r) Q):Sm (cl true o k) Q:=by
  obtain ⟨r,rfl,hr⟩:=h
  rw [zAD]
  exact hk r hr
theorem Sm.ck {o:Option α} {P:α->Prop} {b:Bool} (hb:b=true) (h:Sm o P):Sm (ck b o) P:=by rw [ck_t hb];exact h
theorem Sm.bd {e:α} {k:α->Option β} {Q:β->Prop} (h:Sm (k e) Q):Sm (bd e k) Q:=h
theorem Sm.bif {x y:Option α} {P:α->Prop} {b:Bool} (h1:b=true->Sm x P) (h2:b=false->Sm y P):Sm (bif b then x else y) P:=by
  cases b
  . exact h2 rfl
  . exact h1 rfl
theorem Sm.mono {o:Option α} {P Q:α->Prop} (h:Sm o P) (hq:∀ r,P r->Q r):Sm o Q:=let ⟨r,e,hr⟩:=h;⟨r,e,hq r hr⟩
end
abbrev TCur:=List Int × Int × Int
def COK (c:TCur):Prop:=c.1.length<=1048576/\(∀ x ∈ c.1,0<=x/\x<=255)/\0<=c.2.1
theorem zJV {n:Int} (h0:-9223372036854775808<=n) (h1:n<=9223372036854775807):IntKind.i64.wrap n=n:=IntWalk.i64_in _ (by omega)
theorem zMP (a:Int) {m:Nat} (hm:m<=4611686018427387904):0<=bitI (fun u v=>u &&& v) .i64 a (m:Int)/\bitI (fun u v=>u &&& v) .i64 a (m:Int)<=m:=by
  unfold bitI
  dsimp only
  have h:((BitVec.ofInt IntKind.i64.bits a) &&& (BitVec.ofInt IntKind.i64.bits (m:Int))).toNat<=m:=by
    rw [BitVec.toNat_and]
    refine Nat.le_trans Nat.and_le_right ?_
    rw [show (BitVec.ofInt IntKind.i64.bits (m:Int))=BitVec.ofNat IntKind.i64.bits m from BitVec.ofInt_natCast _ _,BitVec.toNat_ofNat]
    exact Nat.mod_le _ _
  rw [zJV (by omega) (by omega)]
  omega
theorem zLO {α:Type} [Inhabited α] {xs:List α} {i:Int} (h0:0<=i) (h1:i<xs.length):gtD xs i ∈ xs:=by
  obtain ⟨n,rfl⟩:∃ n:Nat,i=(n:Int):=⟨i.toNat,by omega⟩
  have hn:n<xs.length:=by omega
  rw [zAa (List.getElem?_eq_getElem hn)]
  exact List.getElem_mem hn
theorem zOy {fu:Nat} {b:List Int} (hf:1048577<=fu) (hb:b.length<=1048576) (hx:∀ x ∈ b,0<=x/\x<=255):Sm (zEG fu b) COK:=by
  unfold zEG
  refine .ck (zBm (by omega) (by omega)) ?_
  have key:∀ m i k (h:Int),i+m=b.length->m<k->0<=h->h<=1100000000->Sm (zCu fu b k h (i:Int)) fun _=>True:=by
    intro m
    induction m with
    | zero=>
      intro i k h hi hk h0 h1
      obtain ⟨k,rfl⟩:∃ q,k=q+1:=⟨k-1,by omega⟩
      obtain rfl:i=b.length:=by omega
      rw [zCu,lt_f]
      exact .some trivial
    | succ m ih=>
      intro i k h hi hk h0 h1
      obtain ⟨k,rfl⟩:∃ q,k=q+1:=⟨k-1,by omega⟩
      have hlt:i<b.length:=by omega
      have hm:=hx _ (zLO (xs:=b) (i:=(i:Int)) (by omega) (by omega))
      rw [zCu]
      refine .bd (.bif (fun _=>?_) fun _=>.some trivial)
      rw [zJV (n:=gtD b (i:Int)) (by omega) (by omega)]
      refine .ck (zBm (by omega) (by omega)) (.ck (zBN hlt) (.ck (zBm (by omega) (by omega)) (.ck (zBm (by omega) (by omega)) (.ck (zDs (by omega)) ?_))))
      have hq:=zMP (h*131+gtD b (i:Int)+7) (m:=1073741823) (by omega)
      exact ih (i+1) k _ (by omega) (by omega) hq.1 (Int.le_trans hq.2 (by omega))
  refine .cl (key b.length 0 fu _ (by omega) (by omega) (by omega) (by omega)) fun s _=>.some ⟨hb,hx,Int.le_refl _⟩
theorem zKW {fu:Nat} {c:TCur} (hc:COK c):Sm (zCj fu c) fun r=>COK r.2/\0<=r.1/\r.1<=255:=by
  unfold zCj
  refine .ck rfl (.ck rfl (.bif (fun h=>?_) fun h=>?_))
  . rw [decide_eq_true_eq] at h
    replace h:c.2.1<(c.1.length:Int):=h
    have hi:=hc.2.2
    have hl:=hc.1
    refine .ck (zDx.2 ⟨hi,h⟩) (.some ⟨⟨hl,hc.2.1,?_⟩,zMP _ (m:=255) (by omega)⟩)
    show 0<=IntKind.i64.wrap (c.2.1+1)
    rw [zJV (by omega) (by omega)]
    omega
  . exact .some ⟨⟨hc.1,hc.2.1,hc.2.2⟩,zMP _ (m:=255) (by omega)⟩
theorem zN8 {x n:Int} (h0:0<=x) (hn:0<n):0<=x.tmod n/\x.tmod n<n:=⟨Int.tmod_nonneg _ h0,Int.tmod_lt_of_pos _ hn⟩
theorem zFd {fu:Nat} {c:TCur} {n:Int} (hc:COK c):Sm (zBh fu c n) fun r=>COK r.2/\0<=r.1/\(0<n->r.1<n):=by
  unfold zBh
  refine .bif (fun h=>?_) fun h=>?_
  . rw [decide_eq_true_eq] at h
    exact .some ⟨hc,Int.le_refl _,fun h'=>by omega⟩
  . rw [decide_eq_false_iff_not] at h
    have hn:(n != 0)=true:=by simp;omega
    refine .bif (fun _=>?_) fun _=>?_
    . refine .cl (zKW hc) fun r hr => .ck hn (.some ?_)
      have:=zN8 (n:=n) hr.2.1 (by omega)
      exact ⟨hr.1,this.1,fun _=>this.2⟩
    . refine .cl (zKW hc) fun r1 h1 => .cl (zKW h1.1) fun r2 h2 => .cl (zKW h2.1) fun r3 h3 => .cl (zKW h3.1) fun r4 h4 => ?_
      have a1:=h1.2;have a2:=h2.2;have a3:=h3.2;have a4:=h4.2
      refine .ck (zBm (by omega) (by omega)) (.ck (zBm (by omega) (by omega)) (.ck (zBm (by omega) (by omega)) (.ck (zBm (by omega) (by omega)) (.ck (zBm (by omega) (by omega)) (.ck (zBm (by omega) (by omega)) (.ck hn (.some ?_)))))))
      have:=zN8 (x:=r1.1*16777216+r2.1*65536+r3.1*256+r4.1) (n:=n) (by omega) (by omega)
      exact ⟨h4.1,this.1,fun _=>this.2⟩
theorem zOw {fu:Nat} {c:TCur} {n:Int} (hc:COK c):Sm (zET fu c n) fun r=>COK r.2:=by
  unfold zET
  exact .cl (zFd hc) fun r hr=>.some hr.1
theorem zOk {fu:Nat} {c:TCur} {l:List (List UInt8)} (hc:COK c) (hl:0<l.length):Sm (zDW fu c l) fun r=>COK r.2/\r.1 ∈ l:=by
  unfold zDW
  refine .cl (zFd hc) fun r hr=>?_
  have h1:=hr.2.2 (by omega)
  exact .ck (zDx.2 ⟨hr.2.1,h1⟩) (.some ⟨hr.1,zLO hr.2.1 h1⟩)
theorem zOR {fu:Nat} {c:TCur} {l:List (List UInt8)} (m:Nat) (hc:COK c) (hl:0<l.length) (hm:∀ s ∈ l,s.length<=m):Sm (zDW fu c l) fun r=>COK r.2/\r.1.length<=m:=
  (zOk hc hl).mono fun r hr=>⟨hr.1,hm _ hr.2⟩
theorem zGW {fu:Nat} {c:TCur} {l:List Int} (hc:COK c) (hl:0<l.length):Sm (zBu fu c l) fun r=>COK r.2/\r.1 ∈ l:=by
  unfold zBu
  refine .cl (zFd hc) fun r hr=>?_
  have h1:=hr.2.2 (by omega)
  exact .ck (zDx.2 ⟨hr.2.1,h1⟩) (.some ⟨hr.1,zLO hr.2.1 h1⟩)
theorem zN1 (l:List (List UInt8)) (x:List UInt8):(putS bLt l x).length<=l.length+1:=by
  unfold putS
  cases l[plc bLt x l]? == some x
  . rw [cond_false, show (putW bLt l x).length = l.length + 1 from zEJ _ _ _]
    exact Nat.le_refl _
  . rw [cond_true]
    omega
theorem zPE {fu:Nat} {c:TCur} (hf:1048577<=fu) (hc:COK c):Sm (zCm fu c) fun r=>COK r.2/\r.1.length<=10:=by
  unfold zCm
  refine .cl (zFd hc) fun n hn=>?_
  have h1:=hn.2.1
  have h2:=hn.2.2 (by omega)
  have key:∀ (m:Nat) k (cc:TCur) (acc:List (List UInt8)),m<k->m<=50->COK cc->acc.length+m<=10->Sm (zBt fu k (m:Int) cc acc) fun r=>COK r.1/\r.2.length<=10:=by
    intro m
    induction m with
    | zero=>
      intro k cc acc hk hm hcc ha
      obtain ⟨k,rfl⟩:∃ q,k=q+1:=⟨k-1,by omega⟩
      rw [zBt,show decide ((0:Int)<((0:Nat):Int))=false from rfl,cond_false]
      exact .some ⟨hcc,by show acc.length<=10;omega⟩
    | succ m ih=>
      intro k cc acc hk hm hcc ha
      obtain ⟨k,rfl⟩:∃ q,k=q+1:=⟨k-1,by omega⟩
      rw [zBt,zIg,cond_true,zGD]
      refine .cl (zOR 10 hcc (by decide) (by decide)) fun p hp=>?_
      rw [zM1 (by omega) (by omega),zAD,cond_false]
      have:=zN1 acc p.1
      exact .ck (zHU _ (by omega)) (ih k p.2 _ (by omega) (by omega) hp.1 (by omega))
  obtain ⟨m,hm⟩:∃ m:Nat,n.1=(m:Int):=⟨n.1.toNat,by omega⟩
  rw [hm]
  exact .cl (key m fu n.2 [] (by omega) (by omega) hn.1 (by rw [List.length_nil];omega)) fun s hs=>.some ⟨hs.1,hs.2⟩
theorem zOi {fu:Nat} {c:TCur} (hf:1048577<=fu) (hc:COK c):Sm (zE4 fu c) fun r=>COK r.2/\r.1.length<=10/\∀ s ∈ r.1,s.length<=10:=by
  unfold zE4
  refine .cl (zFd hc) fun n hn=>?_
  have h1:=hn.2.1
  have h2:=hn.2.2 (by omega)
  have key:∀ (m:Nat) k (cc:TCur) (acc:List (List (List UInt8))),m<k->m<=50->COK cc->acc.length+m<=10->(∀ s ∈ acc,s.length<=10)->Sm (zCP fu k (m:Int) cc acc) fun r=>COK r.1/\r.2.length<=10/\∀ s ∈ r.2,s.length<=10:=by
    intro m
    induction m with
    | zero=>
      intro k cc acc hk hm hcc ha he
      obtain ⟨k,rfl⟩:∃ q,k=q+1:=⟨k-1,by omega⟩
      rw [zCP,show decide ((0:Int)<((0:Nat):Int))=false from rfl,cond_false]
      exact .some ⟨hcc,by show acc.length<=10;omega,he⟩
    | succ m ih=>
      intro k cc acc hk hm hcc ha he
      obtain ⟨k,rfl⟩:∃ q,k=q+1:=⟨k-1,by omega⟩
      rw [zCP,zIg,cond_true,zGD]
      refine .cl (zPE hf hcc) fun p hp=>?_
      exact .ck (zBn (by rw [List.length_singleton];omega)) (.ck (zHU _ (by omega)) (ih k p.2 _ (by omega) (by omega) hp.1 (by rw [List.length_append,List.length_singleton];omega) fun s hs=>by
        rcases List.mem_append.1 hs with hs | hs
        . exact he s hs
        . rw [List.mem_singleton.1 hs];exact hp.2))
  obtain ⟨m,hm⟩:∃ m:Nat,n.1=(m:Int):=⟨n.1.toNat,by omega⟩
  rw [hm]
  exact .cl (key m fu n.2 [] (by omega) (by omega) hn.1 (by rw [List.length_nil];omega) (fun s h=>(by cases h))) fun s hs=>.some ⟨hs.1,hs.2⟩
theorem zMT : ∀ {l : List (List (List UInt8))}, (∀ s ∈ l, s.length <= 10) -> (l.map fun s => s.length).sum <= 10 * l.length
  | [],_=>Nat.le_refl _
  | s::l,h=>by
    have h1:=zMT (l:=l) fun x hx=>h x (List.mem_cons_of_mem _ hx)
    have h2:=h s List.mem_cons_self
    rw [List.map_cons,List.sum_cons,List.length_cons]
    omega
theorem zNf {fu:Nat} {l:List (List (List UInt8))} (hf:1048577<=fu) (h:l.length<=11) (he:∀ s ∈ l,s.length<=10):zC9 fu l=some (cntL l)/\(cntL l).length<=110:=by
  have h1:=zMT he
  have h2:=zN7 (fu:=fu) (a0:=l) hf (by omega) (fun s hs=>Nat.le_trans (he s hs) (by omega)) (by omega)
  have h3:=zN3 (n:=110) (sets:=l) (by omega)
  exact ⟨h2,Nat.le_trans (zP2 l).len h3⟩
theorem zNb {P:List UInt8->Prop} {l:List (List UInt8)} {x:List UInt8} (hl:∀ y ∈ l,P y) (hx:P x):∀ y ∈ putS bLt l x,P y:=fun y hy=>by
  rcases zLi.1 hy with rfl | h
  . exact hx
  . exact hl y h
theorem zNr {fu:Nat} {c:TCur} (hf:1048577<=fu) (hc:COK c):Sm (zCm fu c) fun r=>COK r.2/\r.1.length<=10/\∀ y ∈ r.1,y.length<=10:=by
  unfold zCm
  refine .cl (zFd hc) fun n hn=>?_
  have h1:=hn.2.1
  have h2:=hn.2.2 (by omega)
  have key:∀ (m:Nat) k (cc:TCur) (acc:List (List UInt8)),m<k->m<=50->COK cc->acc.length+m<=10->(∀ y ∈ acc,y.length<=10)->Sm (zBt fu k (m:Int) cc acc) fun r=>COK r.1/\r.2.length<=10/\∀ y ∈ r.2,y.length<=10:=by
    intro m
    induction m with
    | zero=>
      intro k cc acc hk hm hcc ha he
      obtain ⟨k,rfl⟩:∃ q,k=q+1:=⟨k-1,by omega⟩
      rw [zBt,show decide ((0:Int)<((0:Nat):Int))=false from rfl,cond_false]
      exact .some ⟨hcc,by show acc.length<=10;omega,he⟩
    | succ m ih=>
      intro k cc acc hk hm hcc ha he
      obtain ⟨k,rfl⟩:∃ q,k=q+1:=⟨k-1,by omega⟩
      rw [zBt,zIg,cond_true,zGD]
      refine .cl (zOR 10 hcc (by decide) (by decide)) fun p hp=>?_
      rw [zM1 (by omega) (by omega),zAD,cond_false]
      have:=zN1 acc p.1
      exact .ck (zHU _ (by omega)) (ih k p.2 _ (by omega) (by omega) hp.1 (by omega) (zNb he hp.2))
  obtain ⟨m,hm⟩:∃ m:Nat,n.1=(m:Int):=⟨n.1.toNat,by omega⟩
  rw [hm]
  exact .cl (key m fu n.2 [] (by omega) (by omega) hn.1 (by rw [List.length_nil];omega) (fun y h=>(by cases h))) fun s hs=>.some ⟨hs.1,hs.2⟩
def zL3 (l:List (List UInt8)):Prop:=l.length<=11/\∀ y ∈ l,y.length<=10
theorem zML {fu:Nat} {c:TCur} (hf:1048577<=fu) (hc:COK c):Sm (zDS fu c) fun r=>COK r.2/\zL3 r.1:=by
  unfold zDS
  refine .cl (zNr hf hc) fun s hs=>.cl (zOw hs.1) fun o ho=>.bif (fun _=>?_) fun _=>.some ⟨ho,by have:=hs.2.1;show s.1.length<=11;omega,hs.2.2⟩
  refine .cl (zOR 10 ho (by decide) (by decide)) fun p hp=>?_
  have h2:=hs.2.1
  refine .ck (zBn (by rw [List.length_singleton];omega)) (.some ⟨hp.1,by show (s.1 ++ [p.1]).length<=11;rw [List.length_append,List.length_singleton];omega,fun y hy=>?_⟩)
  rcases List.mem_append.1 hy with hy | hy
  . exact hs.2.2 y hy
  . rw [List.mem_singleton.1 hy];exact hp.2
def zLN (x y t:Int):Bool:=(inI x 0 1000&&inI y 0 1000)&&inI t 1 1000
theorem zIw {x y t:Int}:zLN x y t=true ↔ (0<=x/\x<=1000)/\(0<=y/\y<=1000)/\1<=t/\t<=1000:=by
  unfold zLN inI
  simp only [Bool.and_eq_true,decide_eq_true_eq]
  omega
theorem zNw {x y c t : Int} (h : zLN x y t = true) (c0 : 0 <= c) (cx : c <= x) (cy : c <= y) (hm : t * (x + y - c) <= 1000 * c) :
    x*t<=1000*c/\y*t<=1000*c/\(0<x+y->0<c):=by
  obtain ⟨h1,h2,h3,h4⟩:=zIw.1 h
  have a1:t*x<=t*(x+y-c):=Int.mul_le_mul_of_nonneg_left (by omega) (by omega)
  have a2:t*y<=t*(x+y-c):=Int.mul_le_mul_of_nonneg_left (by omega) (by omega)
  have e1:=Int.mul_comm x t
  have e2:=Int.mul_comm y t
  refine ⟨by omega,by omega,fun hp=>?_⟩
  rcases Int.lt_or_le 0 c with hc | hc
  . exact hc
  . obtain rfl : c = 0 := by omega
    have:1*(x+y-0)<=t*(x+y-0):=Int.mul_le_mul_of_nonneg_right h3 (by omega)
    omega
theorem zMc {x t c:Int} (h:x*t<=1000*c):lowB x t<=c:=by
  unfold lowB
  omega
theorem zOD {x y t:Int} (ht:1<=t) (h:y*t<=1000*x):y<=zGm x t:=by
  unfold zGm
  rw [Int.le_ediv_iff_mul_le (by omega)]
  omega
theorem zIy {a b:List (List UInt8)} (sa:zBo bLt a) (sb:zBo bLt b):zDT a b=zDT b a:=by
  refine zEe zCf (sa.sublist List.filter_sublist) (sb.sublist List.filter_sublist) fun x=>?_
  unfold zDT
  rw [List.mem_filter,List.mem_filter]
  simp
  exact And.comm
theorem zL8 {n:Nat} {t:Int} (h:zDg n t=true):0<=preL n t:=by
  obtain ⟨h1,h2,h3,h4⟩:=zEO.1 h
  unfold preL
  rw [h,cond_true]
  have:(n:Int)*t<=n*1000:=Int.mul_le_mul_of_nonneg_left h4 h1
  unfold lowB
  split <;> omega
theorem zKE {tb:List (List UInt8 × Int)} {a:List (List UInt8)} {t:Int} (ha:tokB a=true) (hg:zDg a.length t=true):preT tb a t=(ordL tb a).take (preL a.length t).toNat:=by
  have h0:=zL8 hg
  unfold preT
  rw [ha,decide_eq_false (by omega),Bool.not_true,Bool.or_self,cond_false]
theorem zLy {tb:List (List UInt8 × Int)} {a b:List (List UInt8)} {t:Int} (hm:zDw a b t=true) (hp:0<a.length+b.length):zGu tb a b t=true:=by
  unfold zDw at hm
  simp only [Bool.and_eq_true,decide_eq_true_eq] at hm
  obtain ⟨⟨⟨ta,tb'⟩,⟨ia,ib⟩,it⟩,hc⟩:=hm
  have hg:zLN a.length b.length t=true:=by unfold zLN;rw [ia,ib,it];rfl
  obtain ⟨g1,g2,g3,g4⟩:=zIw.1 hg
  have sa:=zED ta
  have sb:=zED tb'
  have cx:=zFV a b
  have cy:(zDT a b).length<=b.length:=by rw [zIy sa sb];exact zFV b a
  obtain ⟨m1,m2,m3⟩:=zNw hg (c:=((zDT a b).length:Int)) (by omega) (by omega) (by omega) hc
  have hc0:=m3 (by omega)
  have ga:zDg a.length t=true:=zEO.2 ⟨by omega,by omega,by omega,by omega⟩
  have gb:zDg b.length t=true:=zEO.2 ⟨by omega,by omega,by omega,by omega⟩
  have la:=zMc m1
  have lb:=zMc m2
  have pa:preL a.length t=a.length-lowB a.length t+1:=by
    unfold preL
    rw [ga,cond_true,if_neg (by omega)]
  have pb:preL b.length t=b.length-lowB b.length t+1:=by
    unfold preL
    rw [gb,cond_true,if_neg (by omega)]
  have na:=zL8 ga
  have nb:=zL8 gb
  obtain ⟨m,h1,h2⟩:=zNZ (tb:=tb) (i:=(preL a.length t).toNat) (j:=(preL b.length t).toNat) sa sb (by omega) (by omega) (by omega)
  rw [<- zKE ta ga] at h1
  rw [<- zKE tb' gb] at h2
  unfold zGu
  have hm:m ∈ comB (preT tb a t) (preT tb b t):=by
    unfold comB
    exact List.mem_filter.2 ⟨zGb.2 h1,zOG.2 h2⟩
  exact decide_eq_true (by have:=List.length_pos_of_mem hm;omega)
abbrev TSet:=Int × List (List UInt8)
abbrev TIdR:=Int × List (List UInt8 × Int) × List TSet
theorem zN2 {fu:Nat} {x:TIdR} (hx:zH4 x):zC3 fu x=some x:=by
  obtain ⟨h1,h2,h3⟩:=hx
  unfold zC3
  rw [ck_t (zBn (by omega)),ck_t (zBn (by omega)),ck_t (List.all_eq_true.2 fun s hs=>zBn (by have:=(h3 s hs).1;omega))]
theorem zKA : ∀ (l : List TSet) (a : TIdR), l.foldl (fun a s => (a.1, a.2.1, a.2.2 ++ [(s.1, ([] : List (List UInt8)) ++ s.2)])) a = (a.1, a.2.1, a.2.2 ++ l)
  | [],a=>by simp
  | s::l,a=>by
    rw [List.foldl_cons,zKA l]
    simp
theorem zOp {fu:Nat} {x:TIdR} (hf:1048577<=fu) (hx:zH4 x):zE1 fu x=some x:=by
  obtain ⟨h1,h2,h3⟩:=hx
  have h:=zDl (xs:=x.2.2) (g:=fun (a:TIdR) (s:TSet)=>(a.1,a.2.1,a.2.2 ++ [(s.1,([]:List (List UInt8))++s.2)])) (Inv:=fun i a=>a.2.2.length=i) (L:=zCT fu x) (fun k i a s hs ha=>by
    have hi:=zCk hs
    have hl:=(h3 s (zCn hs)).1
    rw [zCT,lt_t hi,cond_true,ck_t (zBN hi),ck_t (zBN hi),zAa hs,ck_t (zBn (by simp;omega)),ck_t (zBn (by rw [List.length_singleton];omega)),ck_t (zDs (by omega)),zBW]) (fun i a s hs ha=>by
    show (a.2.2 ++ [_]).length=i+1
    rw [List.length_append,List.length_singleton,ha]) (fun k a ha=>by rw [zCT,lt_f];rfl) (a:=(x.1,([]:List (List UInt8 × Int))++x.2.1,([]:List TSet))) rfl (show x.2.2.length<fu by omega)
  unfold zE1
  rw [ck_t (zBn (by simp;omega)),h.1,zAD,zKA]
  rfl
def lowN (l:List TSet) (t:Int):Nat:=(l.takeWhile fun s=>decide (s.1<t)).length
def hitB (l:List TSet) (t:Int):Bool:=decide (lowN l t<l.length)&&((gtD l (lowN l t:Int)).1==t)
theorem zGS (l:List TSet) (t:Int):lowN l t<=l.length:=by
  unfold lowN
  exact (List.takeWhile_sublist _).length_le
theorem zJa {t : Int} : ∀ {l : List TSet} {h : Nat} {s : TSet}, l[h]? = some s -> ¬ s.1 < t -> lowN l t <= h
  | [],h,s,hs,hn=>by simp at hs
  | x::l,0,s,hs,hn=>by
    obtain rfl:x=s:=by simpa using hs
    unfold lowN
    rw [List.takeWhile_cons,decide_eq_false hn]
    simp
  | x::l,h+1,s,hs,hn=>by
    have hs:l[h]? = some s:=hs
    have ih:=zJa (l:=l) hs hn
    unfold lowN at ih ⊢
    rw [List.takeWhile_cons]
    split
    . rw [List.length_cons];omega
    . simp
theorem zHk {t : Int} : ∀ {l : List TSet} {h : Nat} {s : TSet}, l.Pairwise (fun p x => p.1 < x.1) -> l[h]? = some s -> s.1 < t -> h < lowN l t
  | [],h,s,_,hs,hn=>by simp at hs
  | x::l,0,s,hp,hs,hn=>by
    obtain rfl:x=s:=by simpa using hs
    unfold lowN
    rw [List.takeWhile_cons,decide_eq_true hn]
    simp
  | x::l,h+1,s,hp,hs,hn=>by
    have hs:l[h]? = some s:=hs
    obtain ⟨h1,h2⟩:=List.pairwise_cons.1 hp
    have hx:=h1 s (List.mem_of_getElem? hs)
    have ih:=zHk (l:=l) h2 hs hn
    unfold lowN at ih ⊢
    rw [List.takeWhile_cons,decide_eq_true (show x.1<t by omega)]
    simp
    exact ih
theorem zPD {n:Nat} (h:n<=4194304):IntKind.i64.wrap ((IntKind.u64.wrap (n:Int)) / 2 ^ min (1:Int).toNat 64)=((n / 2:Nat):Int):=by
  rw [IntKind.wrap_u64,IntKind.wrap_i64,show ((2:Int) ^ min (1:Int).toNat 64)=2 from rfl]
  omega
theorem zOE {fu : Nat} {l : List TSet} {t : Int} {cmp : TSet -> Int -> Option Int} (hl : l.length <= 1048576) (hp : l.Pairwise fun p x => p.1 < x.1) (hc : ∀ s ∈ l, cmp s t = some (s.1 - t)) :
    ∀ (m k i j:Nat),j-i<=m->m<k->i<=lowN l t->lowN l t<=j->j<=l.length->zAH fu l t cmp k (i:Int) (j:Int)=some ((lowN l t:Nat):Int):=by
  intro m
  induction m with
  | zero=>
    intro k i j hm hk h1 h2 h3
    obtain ⟨k,rfl⟩:∃ q,k=q+1:=⟨k-1,by omega⟩
    obtain rfl:i=lowN l t:=by omega
    rw [zAH,decide_eq_false (by omega)]
    rfl
  | succ m ih=>
    intro k i j hm hk h1 h2 h3
    obtain ⟨k,rfl⟩:∃ q,k=q+1:=⟨k-1,by omega⟩
    rw [zAH]
    by_cases hij:i<j
    . have hmid := zPD (n := i + j) (by omega)
      have hh:(i+j) / 2<l.length:=by omega
      have hs:=List.getElem?_eq_getElem hh
      generalize hq:(i+j) / 2=q at hmid hh hs
      rw [lt_t hij,cond_true,show (i:Int)+(j:Int)=((i+j:Nat):Int) by omega,ck_t (zBm (by omega) (by omega)),ck_t (by decide),hmid,ck_t (zBN hh),zAa hs,hc _ (List.getElem_mem hh),zAD]
      by_cases hlt:(l[q]).1<t
      . rw [decide_eq_true (by omega), cond_true, ck_t (zDs (by omega)), zBW]
        exact ih k (q+1) j (by omega) (by omega) (zHk hp hs hlt) h2 h3
      . rw [decide_eq_false (by omega), cond_false]
        exact ih k i q (by omega) (by omega) h1 (zJa hs hlt) (by omega)
    . obtain rfl : i = lowN l t := by omega
      rw [decide_eq_false (by omega)]
      rfl
theorem zNp {fu:Nat} {x:TIdR} {t:Int} (hf:1048577<=fu) (hl:x.2.2.length<=1048576) (hp:x.2.2.Pairwise fun p s=>p.1<s.1) (hr:∀ s ∈ x.2.2,0<=s.1/\s.1<=999) (ht:0<=t/\t<=999):zCJ fu x t=some ((lowN x.2.2 t:Int),hitB x.2.2 t):=by
  have hc:∀ s ∈ x.2.2,zBV fu s t=some (s.1-t):=fun s hs=>by
    have:=hr s hs
    unfold zBV
    rw [ck_t (zBm (by omega) (by omega))]
  have hlo:=zGS x.2.2 t
  have h:=zOE (fu:=fu) (cmp:=fun a b=>zBV fu a b) hl hp hc x.2.2.length fu 0 x.2.2.length (by omega) (by omega) (by omega) hlo (Nat.le_refl _)
  unfold zCJ zAW
  have h:zAH fu x.2.2 t (fun a b=>zBV fu a b) fu (0:Int) (x.2.2.length:Int)=_:=h
  rw [h,zAD]
  unfold hitB
  by_cases hlt:lowN x.2.2 t<x.2.2.length
  . have hs := List.getElem?_eq_getElem hlt
    rw [lt_t hlt,ck_t (by rw [zBN hlt,Bool.or_true]),zAa hs,show (true&&(true==true))=true from rfl]
    dsimp only
    rw [hc _ (List.getElem_mem hlt),zAD,zBw,zAD,decide_eq_true hlt]
    congr 2
    rw [Bool.true_and,Bool.true_and,Bool.eq_iff_iff,beq_iff_eq,beq_iff_eq]
    omega
  . rw [decide_eq_false (show ¬ ((lowN x.2.2 t : Int) < (x.2.2.length : Int)) by omega), ck_t (by rfl), show (true && (false == true)) = false from rfl, zNX, zBw, zAD, decide_eq_false hlt]
    rfl
theorem zPB {fu:Nat} {x:TIdR} {t:Int} (hf:1048577<=fu) (hl:x.2.2.length<=1048576):zE2 fu x t=some (match zIM (fun k=>(gtD x.2.2 (k:Int)).1==t) 0 x.2.2.length with | some j=>(j:Int) | none=>-1):=by
  have h:=zMt (L:=zC5 fu x t) (n:=x.2.2.length) (P:=fun k=>(gtD x.2.2 (k:Int)).1==t) (ret:=fun j=>(j:Int)) (fun k i hi=>by
    rw [zC5,lt_t hi,cond_true,ck_t (zBN hi),ck_t (zDs (by omega)),zBW]) (fun k=>by
    rw [zC5,lt_f]
    rfl) x.2.2.length 0 fu (by omega) (by omega)
  unfold zE2
  have h:zC5 fu x t fu (0:Int)=_:=h
  rw [h,zAD]
  cases zIM (fun k=>(gtD x.2.2 (k:Int)).1==t) 0 x.2.2.length <;> rfl
theorem zId {P : Nat -> Bool} : ∀ {m i : Nat}, zIM P i m = none -> ∀ j, i <= j -> j < i + m -> P j = false
  | 0,i,h,j,h1,h2=>by omega
  | m+1,i,h,j,h1,h2=>by
    unfold zIM at h
    cases hp:P i
    . rw [hp] at h
      rcases Nat.lt_or_ge i j with hlt | hge
      . exact zId (m:=m) h j (by omega) (by omega)
      . obtain rfl : j = i := by omega
        exact hp
    . rw [hp] at h
      cases h
theorem zNN {l:List TSet} {t:Int} (hp:l.Pairwise fun p s=>p.1<s.1):(match zIM (fun k=>(gtD l (k:Int)).1==t) 0 l.length with | some j=>(j:Int) | none=>-1)=bif hitB l t then (lowN l t:Int) else -1:=by
  have hlow:∀ j,j<l.length->(gtD l (j:Int)).1=t->lowN l t=j:=fun j hj e=>by
    have hs:=List.getElem?_eq_getElem hj
    rw [zAa hs] at e
    have h1:=zJa (t:=t) hs (by omega)
    rcases Nat.lt_or_ge (lowN l t) j with hlt | hge
    . have hs2 := List.getElem?_eq_getElem (show lowN l t < l.length by omega)
      have:=List.pairwise_iff_getElem.1 hp (lowN l t) j (by omega) hj hlt
      have:=zHk (t:=t) hp hs2 (by omega)
      omega
    . omega
  cases hfd:zIM (fun k=>(gtD l (k:Int)).1==t) 0 l.length with
  | some j=>
    obtain ⟨_,h2,h3⟩:=zLj hfd
    have h3:(gtD l (j:Int)).1=t:=eq_of_beq h3
    have e:=hlow j (by omega) h3
    have:hitB l t=true:=by
      unfold hitB
      rw [e,decide_eq_true (show j<l.length by omega),h3,beq_self_eq_true]
      rfl
    rw [this,cond_true,e]
  | none=>
    have:hitB l t=false:=by
      unfold hitB
      by_cases hlt:lowN l t<l.length
      . have := zId hfd (lowN l t) (Nat.zero_le _) (by omega)
        rw [this,Bool.and_false]
      . rw [decide_eq_false hlt]
        rfl
    rw [this]
    rfl
theorem zMY : ∀ (l : List TSet) (p : TSet), adjB (fun p x => setX x || decide (x.1 <= p.1)) p l = false -> (p :: l).Pairwise (fun p s => p.1 < s.1) /\ ∀ s ∈ l, setX s = false
  | [],p,_=>⟨List.pairwise_singleton ..,fun s h=>by cases h⟩
  | x::l,p,h=>by
    unfold adjB at h
    rw [Bool.or_eq_false_iff,Bool.or_eq_false_iff] at h
    obtain ⟨⟨h1,h2⟩,h3⟩:=h
    obtain ⟨h4,h5⟩:=zMY l x h3
    have h2:=of_decide_eq_false h2
    refine ⟨List.pairwise_cons.2 ⟨fun y hy=>?_,h4⟩,fun s hs=>?_⟩
    . rcases List.mem_cons.1 hy with rfl | hy
      . omega
      . have := (List.pairwise_cons.1 h4).1 y hy
        omega
    . rcases List.mem_cons.1 hs with rfl | hs
      . exact h1
      . exact h5 s hs
theorem zOL {l:List TSet} (h:zJd l=true):l.Pairwise (fun p s=>p.1<s.1)/\∀ s ∈ l,0<=s.1/\s.1<=999:=by
  unfold zJd at h
  rw [Bool.not_eq_true'] at h
  have key:l.Pairwise (fun p s=>p.1<s.1)/\∀ s ∈ l,setX s=false:=by
    cases l with
    | nil=>exact ⟨List.Pairwise.nil,fun s h=>by cases h⟩
    | cons x l=>
      rw [zFG,Bool.or_eq_false_iff] at h
      obtain ⟨h4,h5⟩:=zMY l x h.2
      refine ⟨h4,fun s hs=>?_⟩
      rcases List.mem_cons.1 hs with rfl | hs
      . exact h.1
      . exact h5 s hs
  refine ⟨key.1,fun s hs=>?_⟩
  have:=key.2 s hs
  unfold setX at this
  rw [Bool.or_eq_false_iff,Bool.not_eq_false'] at this
  have:=this.1
  unfold inI at this
  simpa using this
theorem zJD {x:TIdR} (h:idxB x=true):x.2.2.length<=12/\x.2.2.Pairwise (fun p s=>p.1<s.1)/\∀ s ∈ x.2.2,0<=s.1/\s.1<=999:=by
  unfold idxB at h
  simp only [Bool.and_eq_true,decide_eq_true_eq] at h
  exact ⟨h.2.1,zOL h.2.2⟩
def rmV (x:TIdR) (t:Int):TIdR × Bool:=bif idxB x&&hitB x.2.2 t then ((x.1,x.2.1,x.2.2.eraseIdx (lowN x.2.2 t)),true) else (x,false)
theorem zNm {l:List TSet} {t:Int} (h:hitB l t=true):lowN l t<l.length/\(gtD l (lowN l t:Int)).1=t:=by
  unfold hitB at h
  rw [Bool.and_eq_true,decide_eq_true_eq,beq_iff_eq] at h
  exact h
theorem zOh {x:TIdR} {t:Int} (hv:idxB x=true) (h:hitB x.2.2 t=true):inI t 0 999=true:=by
  obtain ⟨h1,h2⟩:=zNm h
  have hs:=List.getElem?_eq_getElem h1
  rw [zAa hs] at h2
  have:=(zJD hv).2.2 _ (List.getElem_mem h1)
  unfold inI
  rw [decide_eq_true (by omega),decide_eq_true (by omega)]
  rfl
theorem zMu {fu:Nat} {t:Int}:zCl fu t=some (inI t 0 999):=rfl
theorem zNO {fu:Nat} {x:TIdR} {t:Int} (hf:1048577<=fu) (hx:zH4 x):zD7 fu x t=some (rmV x t):=by
  unfold zD7 rmV
  rw [zN2 hx,zAD,zFU hf hx,zAD,zMu]
  cases hv:idxB x with
  | false=>rfl
  | true=>
    rw [show (true&&((!true)==false))=true from rfl,zAD,zBw,Bool.true_and]
    cases hi:inI t 0 999 with
    | false=>
      cases hh:hitB x.2.2 t with
      | false=>rfl
      | true=>rw [zOh hv hh] at hi;cases hi
    | true=>
      obtain ⟨h1,h2,h3⟩:=zJD hv
      have ht:0<=t/\t<=999:=by unfold inI at hi;simpa using hi
      have hlo:=zGS x.2.2 t
      rw [show (!true || !true)=false from rfl,cond_false,zNp hf (by omega) h2 h3 ht,zAD]
      cases hh:hitB x.2.2 t with
      | false=>rfl
      | true=>
        have hlt:=(zNm hh).1
        rw [show (!((lowN x.2.2 t:Int),true).2)=false from rfl,cond_false,cond_true]
        show ck (i64B ((lowN x.2.2 t:Int)+1)) _=_
        rw [ck_t (zDs (by omega)),ck_t (zBN hlt),ck_t (by exact beq_self_eq_true _)]
        rfl
def insV (x:TIdR) (t:Int) (q:List (List UInt8)):TIdR × Bool:=bif (((idxB x&&tokB q)&&inI t 0 999) && !(x.2.2.length==12)) && !(hitB x.2.2 t) then ((x.1,x.2.1,x.2.2.take (lowN x.2.2 t)++(t,q)::x.2.2.drop (lowN x.2.2 t)),true) else (x,false)
theorem zOm {n:Nat}:(((n:Int))==(12:Int))=(n==12):=by
  rw [Bool.eq_iff_iff,beq_iff_eq,beq_iff_eq]
  omega
theorem zMb {fu:Nat} {x:TIdR} {t:Int} {q:List (List UInt8)} (hf:1048577<=fu) (hx:zH4 x) (hq:q.length<=1048576) (hqe:∀ s ∈ q,s.length<=1048576):zD6 fu x t q=some (insV x t q):=by
  unfold zD6 insV
  rw [zN2 hx,zAD,zFU hf hx,zAD,zFf hf hq hqe,zMu,zOm]
  cases hv:idxB x with
  | false=>rfl
  | true=>
    cases htk:tokB q with
    | false=>rfl
    | true=>
      cases hi:inI t 0 999 with
      | false=>rfl
      | true=>
        cases h12:(x.2.2.length==12) with
        | true=>rfl
        | false=>
          obtain ⟨h1,h2,h3⟩:=zJD hv
          have ht:0<=t/\t<=999:=by unfold inI at hi;simpa using hi
          have hlo:=zGS x.2.2 t
          rw [show (true&&((!true)==false))=true from rfl,zAD,zBw,show (true&&((!true || !true)==false))=true from rfl,zAD,zBw,zBw,show (((!true || !true) || !true) || false)=false from rfl,cond_false,zNp hf (by omega) h2 h3 ht,zAD]
          cases hh:hitB x.2.2 t with
          | true=>rfl
          | false=>
            unfold zAQ
            rw [cond_false,ck_t (zBn (by simp;omega)),zAD]
            show ck (subR (lowN x.2.2 t:Int) (x.2.2.length:Int) x.2.2.length) _=_
            rw [ck_t (zDM.2 ⟨by omega,by omega,by omega⟩),ck_t (zBn (by omega))]
            rfl
theorem zOx {fu:Nat} {x:TIdR} {t:Int} (hl:x.2.2.length<=1048576) (hp:x.2.2.Pairwise fun p s=>p.1<s.1):∀ (m k i:Nat),i+m=lowN x.2.2 t->m<k->zBf fu t x k (i:Int)=some (lowN x.2.2 t:Int):=by
  have hlo:=zGS x.2.2 t
  intro m
  induction m with
  | zero=>
    intro k i hi hk
    obtain ⟨k,rfl⟩:∃ q,k=q+1:=⟨k-1,by omega⟩
    obtain rfl:i=lowN x.2.2 t:=by omega
    rw [zBf]
    by_cases hlt:lowN x.2.2 t<x.2.2.length
    . have hs := List.getElem?_eq_getElem hlt
      have hn:¬ (x.2.2[lowN x.2.2 t]).1<t:=fun h=>by
        have:=zHk hp hs h
        omega
      rw [ck_t (by rw [zBN hlt,Bool.or_true]),zBw,lt_t hlt,zAa hs,decide_eq_false hn]
      rfl
    . rw [decide_eq_false (by omega), ck_t (by rfl), zBw]
      rfl
  | succ m ih=>
    intro k i hi hk
    obtain ⟨k,rfl⟩:∃ q,k=q+1:=⟨k-1,by omega⟩
    have hlt:i<x.2.2.length:=by omega
    have hs:=List.getElem?_eq_getElem hlt
    have hn:(x.2.2[i]).1<t:=Classical.byContradiction fun h=>by
      have:=zJa hs h
      omega
    rw [zBf,ck_t (by rw [zBN hlt,Bool.or_true]),zBw,lt_t hlt,zAa hs,decide_eq_true hn,show (true&&true)=true from rfl,cond_true,ck_t (zDs (by omega)),zBW]
    exact ih k (i+1) (by omega) (by omega)
theorem zKg {fu:Nat} {x:TIdR} {t:Int} {q:List (List UInt8)} (hf:1048577<=fu) (hx:zH4 x) (hq:q.length<=1048576) (hqe:∀ s ∈ q,s.length<=1048576):zCd fu x t q=some (insV x t q):=by
  unfold zCd insV
  rw [zOp hf hx,zAD,zHI hf hx,zAD,zFl hf hq hqe,zIV,zPB hf hx.2.1,zOm]
  cases hv:idxB x with
  | false=>rfl
  | true=>
    cases htk:tokB q with
    | false=>rfl
    | true=>
      cases hi:inI t 0 999 with
      | false=>rfl
      | true=>
        obtain ⟨h1,h2,h3⟩:=zJD hv
        rw [zNN h2]
        rw [show (true&&((!true)==false))=true from rfl,zAD,zBw,show (true&&((!true || !true)==false))=true from rfl,zAD,zBw,show (true&&(((!true || !true) || !true)==false))=true from rfl,zAD,zBw,zBw]
        have hlo:=zGS x.2.2 t
        cases hh:hitB x.2.2 t with
        | true=>
          rw [cond_true,decide_eq_true (show (0:Int)<=(lowN x.2.2 t:Int) by omega)]
          cases (x.2.2.length==12) <;> rfl
        | false=>
          cases h12:(x.2.2.length==12) with
          | true=>rfl
          | false=>
            have hL:=zOx (fu:=fu) (t:=t) (by omega) h2 (lowN x.2.2 t) fu 0 (by omega) (by omega)
            have hL:zBf fu t x fu (0:Int)=_:=hL
            rw [cond_false,show (((((!true || !true) || !true) || decide ((0:Int)<=-1)) || false))=false from rfl,cond_false,hL,zAD]
            have e1:subL x.2.2 0 (lowN x.2.2 t:Int)=x.2.2.take (lowN x.2.2 t):=by simp [subL]
            have e2:subL x.2.2 (lowN x.2.2 t:Int) (x.2.2.length:Int)=x.2.2.drop (lowN x.2.2 t):=by
              unfold subL
              rw [Int.toNat_natCast,Int.toNat_natCast]
              exact List.take_of_length_le (by rw [List.length_drop];omega)
            rw [e1,e2,ck_t (zBn (by simp;omega)),ck_t (zDM.2 ⟨by omega,by omega,by omega⟩),ck_t (zBn (by rw [List.length_take,List.length_nil];omega)),ck_t (zBn (by simp only [List.length_append,List.length_take,List.length_nil,List.length_singleton];omega)),ck_t (zDM.2 ⟨by omega,by omega,by omega⟩),ck_t (zBn (by simp only [List.length_append,List.length_take,List.length_drop,List.length_nil,List.length_singleton];omega))]
            simp
def SOK (n:Nat) (x:TIdR):Prop:=x.2.1.length<=111/\x.2.2.length<=n/\∀ s ∈ x.2.2,zL3 s.2
theorem zNE {q:List (List UInt8)} (h:zL3 q):q.length<=1048576/\∀ t ∈ q,t.length<=1048576:=
  ⟨by have:=h.1;omega,fun t ht=>by have:=h.2 t ht;omega⟩
theorem SOK.idx {n:Nat} {x:TIdR} (h:SOK n x) (hn:n<=100):zH4 x:=
  ⟨by have:=h.1;omega,by have:=h.2.1;omega,fun s hs=>zNE (h.2.2 s hs)⟩
def newI (l:List (List UInt8 × Int)) (t:Int):TIdR × Bool:=bif tabB l&&inI t 1 1000 then ((t,l,[]),true) else ((0,[],[]),false)
theorem zMh {fu:Nat} {l:List (List UInt8 × Int)} {t:Int} (hf:1048577<=fu) (hl:l.length<=1048576):zD9 fu l t=some (newI l t):=by
  unfold zD9 newI
  rw [zK4 hf hl,zAD,zIV,List.nil_append,ck_t (zBn (by simp;omega))]
  simp only [zFA,zBw]
  cases tabB l <;> cases inI t 1 1000 <;> rfl
theorem zO3 {x:TIdR} {t:Int} {q:List (List UInt8)} (h:SOK 12 x) (hq:zL3 q):SOK 12 (insV x t q).1:=by
  unfold insV
  cases hc:(((idxB x&&tokB q)&&inI t 0 999) && !(x.2.2.length==12)) && !(hitB x.2.2 t) with
  | false=>exact h
  | true=>
    rw [cond_true]
    simp only [Bool.and_eq_true,Bool.not_eq_true'] at hc
    have h12:=hc.1.2
    rw [beq_eq_false_iff_ne] at h12
    have:=h.2.1
    refine ⟨h.1,?_,fun s hs=>?_⟩
    . show (x.2.2.take (lowN x.2.2 t) ++ (t, q) :: x.2.2.drop (lowN x.2.2 t)).length <= 12
      rw [List.length_append,List.length_cons,List.length_take,List.length_drop]
      omega
    . rcases List.mem_append.1 hs with hs | hs
      . exact h.2.2 s (List.mem_of_mem_take hs)
      . rcases List.mem_cons.1 hs with rfl | hs
        . exact hq
        . exact h.2.2 s (List.mem_of_mem_drop hs)
theorem zP6 {fu:Nat} (hf:1048577<=fu):∀ (m k:Nat) (c:TCur) (x:TIdR),m<k->m<=100->COK c->SOK 12 x->Sm (zCB fu k (m:Int) c x) fun r=>COK r.1/\SOK 12 r.2:=by
  intro m
  induction m with
  | zero=>
    intro k c x hk hm hc hx
    obtain ⟨k,rfl⟩:∃ q,k=q+1:=⟨k-1,by omega⟩
    rw [zCB,decide_eq_false (by omega),cond_false]
    exact Sm.some ⟨hc,hx⟩
  | succ m ih=>
    intro k c x hk hm hc hx
    obtain ⟨k,rfl⟩:∃ q,k=q+1:=⟨k-1,by omega⟩
    rw [zCB,decide_eq_true (by omega),cond_true]
    refine Sm.cl (zFd hc) fun a ha=>Sm.cl (zNr hf ha.1) fun q ⟨q1,q2,q3⟩=>?_
    have hq:zL3 q.1:=⟨by omega,q3⟩
    have hb:=zNE hq
    rw [zKg hf (hx.idx (by omega)) hb.1 hb.2,zAD]
    refine Sm.ck (zBm (by omega) (by omega)) ?_
    rw [show ((m+1:Nat):Int)-1=(m:Int) by omega]
    exact ih k _ _ (by omega) (by omega) q1 (zO3 hx hq)
theorem zO1 {fu:Nat} {c:TCur} (hf:1048577<=fu) (hc:COK c):Sm (zDe fu c) fun r=>COK r.2/\SOK 12 r.1:=by
  unfold zDe
  refine Sm.cl (zOi hf hc) fun a ⟨a1,a2,a3⟩=>?_
  obtain ⟨e,hl⟩:=zNf (fu:=fu) hf (l:=a.1) (by omega) a3
  rw [e,zAD]
  refine Sm.cl (zGW a1 (by decide)) fun b hb=>?_
  rw [zMh hf (by omega),zAD]
  refine Sm.cl (zGW hb.1 (by decide)) fun d hd=>Sm.cl (zFd hd.1) fun g ⟨g1,g2,g3⟩=>?_
  have hd2:0<d.1/\d.1<=14:=by
    have:=hd.2
    simp only [List.mem_cons,List.not_mem_nil,or_false] at this
    omega
  have g3:=g3 hd2.1
  obtain ⟨m,hm⟩:=Int.eq_ofNat_of_zero_le g2
  have hx:SOK 12 (newI (cntL a.1) b.1).1:=by
    unfold newI
    cases tabB (cntL a.1)&&inI b.1 1 1000
    . exact ⟨Nat.zero_le _,Nat.zero_le _,fun s hs=>by cases hs⟩
    . exact ⟨by show (cntL a.1).length<=111;omega,Nat.zero_le _,fun s hs=>by cases hs⟩
  rw [hm]
  exact Sm.cl (zP6 hf m fu _ _ (by omega) (by omega) g1 hx) fun s ⟨h1,h2⟩=>Sm.some ⟨h1,h2⟩
theorem zNv {fu:Nat} {c:TCur} (hf:1048577<=fu) (hc:COK c):Sm (zDr fu c) fun r=>COK r.2/\SOK 13 r.1:=by
  unfold zDr
  refine Sm.cl (zO1 hf hc) fun x ⟨x1,x2⟩=>Sm.cl (zFd x1) fun y ⟨y1,_,_⟩=>?_
  have hx:SOK 13 x.1:=⟨x2.1,by have:=x2.2.1;omega,x2.2.2⟩
  refine Sm.bif (fun _=>?_) fun _=>Sm.bif (fun _=>?_) fun _=>Sm.some ⟨y1,hx⟩
  . exact Sm.cl (zGW y1 (by decide)) fun z hz=>Sm.some ⟨hz.1,hx⟩
  . refine Sm.cl (zGW y1 (by decide)) fun z hz => Sm.cl (zML hf hz.1) fun q ⟨q1, q2⟩ => Sm.ck (zBn (by rw [List.length_singleton]; have := x2.2.1; omega)) (Sm.some ⟨q1, x2.1, ?_, fun s hs => ?_⟩)
    . show (x.1.2.2 ++ [_]).length <= 13
      rw [List.length_append,List.length_singleton]
      have:=x2.2.1
      omega
    . rcases List.mem_append.1 hs with hs | hs
      . exact x2.2.2 s hs
      . rw [List.mem_singleton.1 hs]
        exact q2
theorem zO4 {fu:Nat} {b:List Int} (hf:1048577<=fu) (hb:b.length<=1048576) (hx:∀ x ∈ b,0<=x/\x<=255):Sm (zC4 fu b) fun r=>SOK 13 r.1/\zL3 r.2:=by
  unfold zC4
  exact Sm.cl (zOy hf hb hx) fun c hc=>Sm.cl (zNv hf hc) fun x ⟨x1,x2⟩=>Sm.cl (zML hf x1) fun q ⟨q1,q2⟩=>Sm.some ⟨x2,q2⟩
theorem zP1 {fu:Nat} {b:List Int} (hf:1048577<=fu) (hb:b.length<=1048576) (hx:∀ x ∈ b,0<=x/\x<=255):Sm (zCh fu b) fun r=>SOK 13 r.1/\zL3 r.2.2:=by
  unfold zCh
  exact Sm.cl (zOy hf hb hx) fun c hc=>Sm.cl (zNv hf hc) fun x ⟨x1,x2⟩=>Sm.cl (zGW x1 (by decide)) fun z hz=>Sm.cl (zML hf hz.1) fun q ⟨q1,q2⟩=>Sm.some ⟨x2,q2⟩
abbrev TIdx:=Int × List (List UInt8 × Int) × List (Int × List (List UInt8))
theorem zFH {α β : Type} {p : α -> Bool} {f : α -> β} : ∀ (xs : List α) (a : List β), xs.foldl (fun acc s => bif p s then acc ++ [f s] else acc) a = a ++ (xs.filter p).map f
  | [],a=>by simp
  | x::xs,a=>by
    rw [List.foldl_cons,zFH xs,List.filter_cons]
    cases p x <;> simp
theorem zOq {fu:Nat} {n:Int}:zCV fu n=some (inI n 0 1000):=rfl
theorem zNS {fu:Nat} {x lo hi:Int}:zDH fu x lo hi=some (inI x lo hi):=rfl
theorem zMd (a b:List (List UInt8)):decide ((0:Int)<((comB a b).length:Int))=a.any fun x=>b.any fun y=>y==x:=by
  rw [Bool.eq_iff_iff,decide_eq_true_iff,List.any_eq_true]
  constructor
  . intro h
    obtain ⟨x,hx⟩:=List.exists_mem_of_length_pos (l:=comB a b) (by omega)
    exact ⟨x,zGb.1 (List.mem_filter.1 hx).1,(List.mem_filter.1 hx).2⟩
  . rintro ⟨x, hx, hy⟩
    have:0<(comB a b).length:=List.length_pos_of_mem (List.mem_filter.2 ⟨zGb.2 hx,hy⟩:x ∈ comB a b)
    omega
theorem zNg (a b:List (List UInt8)):(a.any fun x=>b.any fun y=>y==x)=(b.any fun x=>a.any fun y=>y==x):=by
  rw [Bool.eq_iff_iff]
  simp only [List.any_eq_true,beq_iff_eq]
  constructor
  . rintro ⟨x, hx, y, hy, rfl⟩
    exact ⟨y,hy,y,hx,rfl⟩
  . rintro ⟨x, hx, y, hy, rfl⟩
    exact ⟨y,hy,y,hx,rfl⟩
theorem zLx (tb:List (List UInt8 × Int)) (a b:List (List UInt8)) (t:Int):zGu tb a b t=zGu tb b a t:=by
  unfold zGu
  rw [zMd,zMd,zNg]
def bnds (n t:Int):Int × Int:=bif zDg n t then (lowB n t,zGm n t) else (-1,-1)
def zIY (x:TIdx) (q:List (List UInt8)) (s:Int × List (List UInt8)):Bool:=
  ((q.length:Int)==0&&(s.2.length:Int)==0) || (inI (s.2.length:Int) (bnds q.length x.1).1 (bnds q.length x.1).2&&zGu x.2.1 s.2 q x.1)
def zKa (x:TIdx) (q:List (List UInt8)):List Int:=bif (idxB x&&tokB q)&&inI q.length 0 1000 then (x.2.2.filter (zIY x q)).map fun s=>s.1 else []
theorem zLn {fu:Nat} {x:TIdx} {q:List (List UInt8)} (hf:1048577<=fu) (hx:zH4 x) (hq:q.length<=1048576) (heq:∀ t ∈ q,t.length<=1048576):zCD fu x q=some (zKa x q):=by
  obtain ⟨hx1,hx2,hx3⟩:=hx
  have h:=zDl (xs:=x.2.2) (g:=fun (acc:List Int) s=>bif zIY x q s then acc ++ [s.1] else acc) (Inv:=fun i acc=>acc.length<=i) (L:=zB5 fu x q (bnds q.length x.1)) (fun k i acc s hs hacc=>by
      have hi:=zCk hs
      have hm:=zKh (fu:=fu) (t:=x.1) (tb:=x.2.1) hf hx1 (hx3 s (zCn hs)).1 (hx3 s (zCn hs)).2 hq heq
      rw [zB5,lt_t hi,cond_true]
      simp only [zBN hi,zAa hs,zDp,hm,zNS,zFA,zBw,List.length_singleton,zBn (show acc.length+1<=4294967296 by omega),zD8 (show i<=4294967296 by omega),zBW,zIY]
      generalize ((q.length:Int)==0&&(s.2.length:Int)==0)=e1
      generalize inI (s.2.length:Int) (bnds q.length x.1).1 (bnds q.length x.1).2=e2
      generalize zGu x.2.1 s.2 q x.1=e3
      cases e1 <;> cases e2 <;> cases e3 <;> rfl) (fun i acc s hs hacc=>by
      show (bif zIY x q s then acc ++ [s.1] else acc).length<=i+1
      cases zIY x q s
      . exact Nat.le_succ_of_le hacc
      . rw [cond_true,List.length_append];exact Nat.succ_le_succ hacc) (fun k acc hacc=>by rw [zB5,lt_f];rfl) (a:=[]) (Nat.zero_le _) (show x.2.2.length<fu by omega)
  unfold zCD zKa
  rw [zFU hf ⟨hx1,hx2,hx3⟩,zFf hf hq heq,zOq,zHw]
  simp only [zFA,zBw]
  rw [show (bif zDg (q.length:Int) x.1 then (lowB (q.length:Int) x.1,zGm (q.length:Int) x.1) else (-1,-1))=bnds q.length x.1 from rfl]
  cases idxB x
  . rfl
  cases tokB q
  . rfl
  cases inI (q.length:Int) 0 1000
  . rfl
  simp only [Bool.not_true,Bool.and_self,Bool.or_self,cond_true,cond_false,show (false==false)=true from rfl]
  rw [h.1,zAD,zFH]
  rfl
theorem zM2 {fu:Nat} {x:TIdx} {q:List (List UInt8)} (hf:1048577<=fu) (hx:zH4 x) (hq:q.length<=1048576) (heq:∀ t ∈ q,t.length<=1048576):zCF fu x q=some (zKa x q):=by
  obtain ⟨hx1,hx2,hx3⟩:=hx
  have h:=zDl (xs:=x.2.2) (g:=fun (acc:List Int) s=>bif zIY x q s then acc ++ [s.1] else acc) (Inv:=fun i acc=>acc.length<=i) (L:=zB6 fu x q (bnds q.length x.1)) (fun k i acc s hs hacc=>by
      have hi:=zCk hs
      have hm:=zKi (fu:=fu) (t:=x.1) (tb:=x.2.1) hf hx1 hq heq (hx3 s (zCn hs)).1 (hx3 s (zCn hs)).2
      rw [zB6,lt_t hi,cond_true]
      simp only [zBN hi,zAa hs,zDp,hm,zIV,zFA,zBw,List.length_singleton,zBn (show acc.length+1<=4294967296 by omega),zD8 (show i<=4294967296 by omega),zBW,zIY]
      rw [zLx x.2.1 q s.2 x.1,Bool.and_comm ((q.length:Int)==0)]
      generalize ((s.2.length:Int)==0&&(q.length:Int)==0)=e1
      generalize inI (s.2.length:Int) (bnds q.length x.1).1 (bnds q.length x.1).2=e2
      generalize zGu x.2.1 s.2 q x.1=e3
      cases e1 <;> cases e2 <;> cases e3 <;> rfl) (fun i acc s hs hacc=>by
      show (bif zIY x q s then acc ++ [s.1] else acc).length<=i+1
      cases zIY x q s
      . exact Nat.le_succ_of_le hacc
      . rw [cond_true,List.length_append];exact Nat.succ_le_succ hacc) (fun k acc hacc=>by rw [zB6,lt_f];rfl) (a:=[]) (Nat.zero_le _) (show x.2.2.length<fu by omega)
  have hd:decide ((1000:Int)<(q.length:Int)) = !(inI (q.length:Int) 0 1000):=by
    unfold inI
    rw [decide_eq_true (show (0:Int)<=(q.length:Int) by omega),Bool.true_and]
    by_cases e:(q.length:Int)<=1000
    . rw [decide_eq_true e,decide_eq_false (by omega)];rfl
    . rw [decide_eq_false e,decide_eq_true (by omega)];rfl
  unfold zCF zKa
  rw [zHI hf ⟨hx1,hx2,hx3⟩,zFl hf hq heq,zI2,hd]
  simp only [zFA,zBw]
  rw [show (bif zDg (q.length:Int) x.1 then (lowB (q.length:Int) x.1,zGm (q.length:Int) x.1) else (-1,-1))=bnds q.length x.1 from rfl]
  cases idxB x
  . rfl
  cases tokB q
  . rfl
  cases inI (q.length:Int) 0 1000
  . rfl
  simp only [Bool.not_true,Bool.and_self,Bool.or_self,cond_true,cond_false,show (false==false)=true from rfl]
  rw [h.1,zAD,zFH]
  rfl
def zJ4 (x:TIdx) (q:List (List UInt8)):List Int:=bif idxB x then (x.2.2.filter fun s=>zDw s.2 q x.1).map fun s=>s.1 else []
theorem zGY {fu:Nat} {x:TIdx} {q:List (List UInt8)} (hf:1048577<=fu) (hx:zH4 x) (hq:q.length<=1048576) (heq:∀ t ∈ q,t.length<=1048576):zBi fu x q=some (zJ4 x q):=by
  unfold zBi zJ4
  rw [zFU hf hx,zAD]
  cases hv:idxB x
  . rfl
  . obtain ⟨hx1, hx2, hx3⟩ := hx
    have h:=zDl (xs:=x.2.2) (g:=fun (acc:List Int) s=>bif zDw s.2 q x.1 then acc ++ [s.1] else acc) (Inv:=fun i acc=>acc.length<=i) (L:=zBT fu x q) (fun k i acc s hs hacc=>by
      have hi:=zCk hs
      have hm:=zJO (fu:=fu) (t:=x.1) hf (hx3 s (zCn hs)).1 (hx3 s (zCn hs)).2 hq heq
      rw [zBT,lt_t hi,cond_true]
      simp only [zBN hi,zAa hs,zDp,hm,zAD,List.length_singleton,zBn (show acc.length+1<=4294967296 by omega),zD8 (show i<=4294967296 by omega),zBW]
      cases zDw s.2 q x.1 <;> rfl) (fun i acc s hs hacc=>by
      show (bif zDw s.2 q x.1 then acc ++ [s.1] else acc).length<=i+1
      cases zDw s.2 q x.1
      . exact Nat.le_succ_of_le hacc
      . rw [cond_true,List.length_append];exact Nat.succ_le_succ hacc) (fun k acc hacc=>by rw [zBT,lt_f];rfl) (a:=[]) (Nat.zero_le _) (show x.2.2.length<fu by omega)
    rw [Bool.not_true,cond_false,h.1,zAD,zFH]
    rfl
theorem zI0 {fu:Nat} {x:TIdx} {q:List (List UInt8)} (hf:1048577<=fu) (hx:zH4 x) (hq:q.length<=1048576) (heq:∀ t ∈ q,t.length<=1048576):zCQ fu x q=some (zJ4 x q):=by
  unfold zCQ zJ4
  have hv':=zHI (fu:=fu) hf hx
  cases hv:idxB x
  . obtain ⟨k, rfl⟩ : ∃ k, fu = k + 1 := ⟨fu - 1, by omega⟩
    rw [zBB,hv',hv]
    simp only [zFA,zBw]
    cases decide ((0:Int)<(x.2.2.length:Int)) <;> rfl
  . obtain ⟨hx1, hx2, hx3⟩ := hx
    have h:=zDl (xs:=x.2.2) (g:=fun (acc:List Int) s=>bif zDw s.2 q x.1 then acc ++ [s.1] else acc) (Inv:=fun i acc=>acc.length<=i) (L:=zBB fu x q) (fun k i acc s hs hacc=>by
      have hi:=zCk hs
      have hm:=zJC (fu:=fu) (t:=x.1) hf (hx3 s (zCn hs)).1 (hx3 s (zCn hs)).2 hq heq
      rw [zBB,lt_t hi,hv',hv]
      simp only [zBN hi,zAa hs,zDp,hm,zAD,List.length_singleton,zBn (show acc.length+1<=4294967296 by omega),zD8 (show i<=4294967296 by omega),zBW]
      simp only [zFA,zBw]
      cases zDw s.2 q x.1 <;> rfl) (fun i acc s hs hacc=>by
      show (bif zDw s.2 q x.1 then acc ++ [s.1] else acc).length<=i+1
      cases zDw s.2 q x.1
      . exact Nat.le_succ_of_le hacc
      . rw [cond_true,List.length_append];exact Nat.succ_le_succ hacc) (fun k acc hacc=>by rw [zBB,lt_f,hv',hv];rfl) (a:=[]) (Nat.zero_le _) (show x.2.2.length<fu by omega)
    rw [h.1,zAD,zFH]
    rfl
def zIB (t : Int) : List (Int × List (List UInt8)) -> List (Int × Int)
  | []=>[]
  | s::r=>((r.filter fun z=>zDw s.2 z.2 t).map fun z=>(s.1,z.1))++zIB t r
def zKT (x:TIdx):List (Int × Int):=bif idxB x then zIB x.1 x.2.2 else []
theorem zI3 (t : Int) : ∀ l, (zIB t l).length <= l.length * l.length
  | []=>Nat.le_refl _
  | s::r=>by
    have h1:=zI3 t r
    have h2:=List.length_filter_le (fun z=>zDw s.2 z.2 t) r
    simp only [zIB,List.length_append,List.length_map,List.length_cons]
    rw [Nat.add_mul,Nat.mul_add]
    omega
theorem zMy {x:TIdx} (h:idxB x=true):x.2.2.length<=12:=by
  unfold idxB at h
  simp only [Bool.and_eq_true,decide_eq_true_eq] at h
  exact h.2.1
theorem zMD {fu:Nat} {x:TIdx} (hf:1048577<=fu) (hx:zH4 x):zDQ fu x=some (zKT x):=by
  unfold zDQ zKT
  rw [zFU hf hx,zAD]
  cases hv:idxB x
  . rfl
  . have h12 := zMy hv
    obtain ⟨hx1,hx2,hx3⟩:=hx
    have key:∀ m i k acc,i+m=x.2.2.length->m<k->acc.length<=12*i->zCA fu x k (i:Int) acc=some (acc++zIB x.1 (x.2.2.drop i)):=by
      intro m
      induction m with
      | zero=>
        intro i k acc hm hk hacc
        obtain ⟨k,rfl⟩:∃ q,k=q+1:=⟨k-1,by omega⟩
        obtain rfl:i=x.2.2.length:=by omega
        rw [zCA,lt_f,List.drop_length]
        simp [zIB]
      | succ m ih=>
        intro i k acc hm hk hacc
        obtain ⟨k,rfl⟩:∃ q,k=q+1:=⟨k-1,by omega⟩
        have hlt:i<x.2.2.length:=by omega
        have hs:=List.getElem?_eq_getElem hlt
        have hsm:=hx3 _ (zCn hs)
        have hd:subL x.2.2 ((i:Int)+1) (x.2.2.length:Int)=x.2.2.drop (i+1):=by rw [zBW,zHM]
        have h:=zDl (xs:=x.2.2.drop (i+1)) (g:=fun (acc:List (Int × Int)) z=>bif zDw x.2.2[i].2 z.2 x.1 then acc ++ [(x.2.2[i].1,z.1)] else acc) (Inv:=fun j a=>a.length<=acc.length+j) (L:=zBr fu x (i:Int)) (fun k j a z hz ha=>by
          have hj:=zCk hz
          have hz':z ∈ x.2.2:=List.mem_of_mem_drop (zCn hz)
          have hm:=zJO (fu:=fu) (t:=x.1) hf hsm.1 hsm.2 (hx3 z hz').1 (hx3 z hz').2
          have hj2:j<12:=by simp at hj;omega
          rw [zBr,hd,lt_t hj,cond_true]
          simp only [zBN hj,zAa hz,zAa hs,zDp,hm,zAD,List.length_singleton,zBn (show a.length+1<=4294967296 by omega),zD8 (show j<=4294967296 by omega),zBW]
          cases zDw x.2.2[i].2 z.2 x.1 <;> rfl) (fun j a z hz ha=>by
          show (bif zDw x.2.2[i].2 z.2 x.1 then a ++ [(x.2.2[i].1,z.1)] else a).length<=acc.length+(j+1)
          cases zDw x.2.2[i].2 z.2 x.1
          . rw [cond_false];omega
          . rw [cond_true,List.length_append,List.length_singleton];omega) (fun k a ha=>by rw [zBr,hd,lt_f];rfl) (a:=acc) (Nat.le_refl _) (show (x.2.2.drop (i+1)).length<fu by simp;omega)
        have hlen:=h.2
        rw [zCA, lt_t hlt, cond_true, ck_t (zBN hlt), ck_t (zDs (by omega)), ck_t (by rw [zBW]; exact zJH (by omega)), h.1, zAD, zBW, ck_t (zD8 (by omega)), ih (i + 1) k _ (by omega) (by omega) (by
          refine Nat.le_trans hlen ?_
          simp
          omega),zFH,zDK hs,zIB,List.append_assoc]
    have:=key x.2.2.length 0 fu [] (by omega) (by omega) (Nat.zero_le _)
    rw [show ((0:Nat):Int)=0 from rfl,List.nil_append,List.drop_zero] at this
    rw [Bool.not_true,cond_false,this,zAD]
    rfl
theorem zKy {fu:Nat} {x:TIdx} (hf:1<=fu) (hv':zAy fu x=some false):zAw fu x fu (0:Int) []=some []:=by
  obtain ⟨k,hk⟩:∃ k,fu=k+1:=⟨fu-1,by omega⟩
  have e:∀ n,n=k+1->zAw fu x n (0:Int) []=some []:=by
    intro n hn
    subst hn
    rw [zAw,hv']
    simp only [zFA,zBw]
    cases decide ((0:Int)<(x.2.2.length:Int)) <;> rfl
  exact e fu hk
theorem zLF {fu : Nat} {x : TIdx} (hf : 1048577 <= fu) (h12 : x.2.2.length <= 12) (hx3 : ∀ s ∈ x.2.2, s.2.length <= 1048576 /\ ∀ t ∈ s.2, t.length <= 1048576) {i : Nat} {s : Int × List (List UInt8)} (hs : x.2.2[i]? = some s) (acc : List (Int × Int)) (ha : acc.length <= 1000) :
    zB3 fu x (i:Int) fu ((i+1:Nat):Int) acc=some (acc++((x.2.2.drop (i+1)).filter fun z=>zDw s.2 z.2 x.1).map fun z=>(s.1,z.1)):=by
  have hlt:=zCk hs
  have hsm:=hx3 _ (zCn hs)
  have h:=zDl (xs:=x.2.2.drop (i+1)) (g:=fun (acc:List (Int × Int)) z=>bif zDw s.2 z.2 x.1 then acc ++ [(s.1,z.1)] else acc) (Inv:=fun j a=>a.length<=acc.length+j) (L:=fun k j a=>zB3 fu x (i:Int) k (((i+1:Nat):Int)+j) a) (fun k j a z hz ha=>by
    have hj:=zCk hz
    have hz':z ∈ x.2.2:=List.mem_of_mem_drop (zCn hz)
    have hza:x.2.2[i+1+j]? = some z:=by rwa [List.getElem?_drop] at hz
    have hq:=zCk hza
    have hm:=zJC (fu:=fu) (t:=x.1) hf hsm.1 hsm.2 (hx3 z hz').1 (hx3 z hz').2
    show zB3 fu x (i:Int) (k+1) (((i+1:Nat):Int)+(j:Int)) a=_
    have e1:(((i+1:Nat):Int)+(j:Int))=((i+1+j:Nat):Int):=by omega
    have e2:(((i+1+j:Nat):Int)+1)=((i+1:Nat):Int)+((j+1:Nat):Int):=by omega
    have hb:i64B (((i+1:Nat):Int)+((j+1:Nat):Int))=true:=zBm (by omega) (by omega)
    have hl:zD4 (a.length+1)=true:=zBn (by omega)
    rw [zB3,e1,lt_t hq,cond_true,ck_t (zBN hlt),ck_t (zBN hq),zAa hza,zAa hs,hm,zAD,ck_t (zBN hlt),ck_t (zBN hq),e2]
    cases zDw s.2 z.2 x.1
    . rw [cond_false,cond_false,ck_t hb]
    . rw [cond_true,cond_true,List.length_singleton,ck_t hl,ck_t hb]) (fun j a z hz ha=>by
    show (bif zDw s.2 z.2 x.1 then a ++ [(s.1,z.1)] else a).length<=acc.length+(j+1)
    cases zDw s.2 z.2 x.1
    . rw [cond_false];omega
    . rw [cond_true,List.length_append,List.length_singleton];omega) (fun k a ha=>by
    show zB3 fu x (i:Int) (k+1) (((i+1:Nat):Int)+((x.2.2.drop (i+1)).length:Int)) a=_
    have e:(((i+1:Nat):Int)+((x.2.2.drop (i+1)).length:Int))=(x.2.2.length:Int):=by
      rw [List.length_drop]
      omega
    rw [zB3,e,lt_f];rfl) (a:=acc) (Nat.le_refl _) (show (x.2.2.drop (i+1)).length<fu by rw [List.length_drop];omega)
  have h1:=h.1
  rw [zFH] at h1
  have e0:((i+1:Nat):Int)+0=((i+1:Nat):Int):=Int.add_zero _
  rw [<- e0]
  exact h1
theorem zMA {fu:Nat} {x:TIdx} (hf:1048577<=fu) (hx:zH4 x):zDR fu x=some (zKT x):=by
  unfold zDR zKT
  have hv':=zHI (fu:=fu) hf hx
  cases hv:idxB x
  . rw [zKy (by omega) (hv ▸ hv'), zAD]
    rfl
  . have h12 := zMy hv
    obtain ⟨hx1,hx2,hx3⟩:=hx
    rw [hv] at hv'
    have key:∀ m i k acc,i+m=x.2.2.length->m<k->acc.length<=12*i->zAw fu x k (i:Int) acc=some (acc++zIB x.1 (x.2.2.drop i)):=by
      intro m
      induction m with
      | zero=>
        intro i k acc hm hk hacc
        obtain ⟨k,rfl⟩:∃ q,k=q+1:=⟨k-1,by omega⟩
        obtain rfl:i=x.2.2.length:=by omega
        rw [zAw,lt_f,List.drop_length,hv',zIB,List.append_nil]
        rfl
      | succ m ih=>
        intro i k acc hm hk hacc
        obtain ⟨k,rfl⟩:∃ q,k=q+1:=⟨k-1,by omega⟩
        have hlt:i<x.2.2.length:=by omega
        have hs:=List.getElem?_eq_getElem hlt
        have hin:=zLF hf h12 hx3 hs acc (by omega)
        have hfl:=List.length_filter_le (fun z=>zDw x.2.2[i].2 z.2 x.1) (x.2.2.drop (i+1))
        rw [List.length_drop] at hfl
        have hgo:zAw fu x (k+1) (i:Int) acc=zAw fu x k ((i+1:Nat):Int) (acc++((x.2.2.drop (i+1)).filter fun z=>zDw x.2.2[i].2 z.2 x.1).map fun z=>(x.2.2[i].1,z.1)):=by
          rw [zAw,lt_t hlt,hv']
          rw [show (true&&(true==true))=true from rfl,zAD,zBw,Bool.and_self,cond_true,zBW,ck_t (zD8 (by omega)),hin,zAD,ck_t (zD8 (by omega))]
        rw [hgo,ih (i+1) k _ (by omega) (by omega) (by rw [List.length_append,List.length_map];omega),zDK hs,zIB,List.append_assoc]
    have:=key x.2.2.length 0 fu [] (by omega) (by omega) (Nat.zero_le _)
    rw [show ((0:Nat):Int)=0 from rfl,List.nil_append,List.drop_zero] at this
    rw [this,zAD]
    rfl
theorem zIk {α:Type} (l:List α):(l.any fun _=>false)=false:=by
  rw [<- Bool.not_eq_true,List.any_eq_true]
  rintro ⟨x,_,h⟩
  cases h
theorem zLQ {fu:Nat} {l:List Int} (hf:1048577<=fu) (hl:l.length<=1048576):zCw fu l l=some true:=by
  unfold zCw
  rw [bne_self_eq_false,cond_false]
  have h:=zFr (xs:=l) (p:=fun _=>false) (r:=false) (L:=zBp fu l l) (fun k i x hx=>by
    have hi:=zCk hx
    rw [zBp,lt_t hi,cond_true,ck_t (zBN hi),ck_t (zBN hi),bne_self_eq_false,cond_false,ck_t (zDs (by omega)),zBW,cond_false]) (fun k=>by rw [zBp,lt_f];rfl) (show l.length<fu by omega)
  have h:zBp fu l l fu (0:Int)=_:=h
  rw [h,zAD,zIk]
  rfl
theorem zNx {fu:Nat} {l:List Int} {x:Int} (hf:1048577<=fu) (hl:l.length<=1048576):zF6 fu l x=some (l.any fun y=>y==x):=by
  unfold zF6
  have h:=zFr (xs:=l) (p:=fun y=>y==x) (r:=true) (L:=zDE fu l x) (fun k i y hy=>by
    have hi:=zCk hy
    rw [zDE,lt_t hi,cond_true,ck_t (zBN hi),zAa hy,ck_t (zDs (by omega)),zBW]) (fun k=>by rw [zDE,lt_f];rfl) (show l.length<fu by omega)
  have h:zDE fu l x fu (0:Int)=_:=h
  rw [h,zAD]
  cases l.any fun y=>y==x <;> rfl
theorem zMq {l:List Int} {x:Int} (h:x ∈ l):(l.any fun y=>y==x)=true:=List.any_eq_true.2 ⟨x,h,beq_self_eq_true x⟩
theorem zMI {x:TIdx} {q:List (List UInt8)} {s:Int × List (List UInt8)} (hm:zDw s.2 q x.1=true):zIY x q s=true:=by
  unfold zIY
  have hm0:=hm
  unfold zDw at hm
  simp only [Bool.and_eq_true,decide_eq_true_eq] at hm
  obtain ⟨⟨⟨ta,tb'⟩,⟨ia,ib⟩,it⟩,hc⟩:=hm
  have hg:zLN s.2.length q.length x.1=true:=by unfold zLN;rw [ia,ib,it];rfl
  obtain ⟨g1,g2,g3,g4⟩:=zIw.1 hg
  rcases Nat.eq_zero_or_pos (s.2.length+q.length) with h0 | hp
  . rw [show q.length = 0 by omega, show s.2.length = 0 by omega]
    rfl
  . have sa := zED ta
    have sb:=zED tb'
    have cx:=zFV s.2 q
    have cy:(zDT s.2 q).length<=q.length:=by rw [zIy sa sb];exact zFV q s.2
    obtain ⟨m1,m2,m3⟩:=zNw hg (c:=((zDT s.2 q).length:Int)) (by omega) (by omega) (by omega) hc
    have gb:zDg q.length x.1=true:=zEO.2 ⟨by omega,by omega,by omega,by omega⟩
    have lb:=zMc m2
    have m1':(s.2.length:Int)*x.1<=1000*(q.length:Int):=by omega
    have hb:=zOD g3 m1'
    unfold bnds
    rw [gb,cond_true,zLy hm0 hp,Bool.and_true]
    have:inI (s.2.length:Int) (lowB q.length x.1) (zGm q.length x.1)=true:=by
      unfold inI
      rw [decide_eq_true (by omega),decide_eq_true hb]
      rfl
    rw [show inI (s.2.length:Int) (lowB q.length x.1,zGm q.length x.1).1 (lowB q.length x.1,zGm q.length x.1).2=true from this,Bool.or_true]
theorem zLM {x:TIdx} {q:List (List UInt8)}:∀ y ∈ zJ4 x q,y ∈ zKa x q:=by
  intro y hy
  unfold zJ4 at hy
  cases hv:idxB x with
  | false=>rw [hv] at hy;cases hy
  | true=>
    rw [hv,cond_true] at hy
    obtain ⟨s,hs,rfl⟩:=List.mem_map.1 hy
    obtain ⟨h1,h2⟩:=List.mem_filter.1 hs
    have h3:=h2
    unfold zDw at h3
    simp only [Bool.and_eq_true,decide_eq_true_eq] at h3
    unfold zKa
    rw [hv,h3.1.1.2,h3.1.2.1.2]
    exact List.mem_map.2 ⟨s,List.mem_filter.2 ⟨h1,zMI h2⟩,rfl⟩
theorem zIo (x:TIdx) (q:List (List UInt8)):(zJ4 x q).length<=x.2.2.length:=by
  unfold zJ4
  cases idxB x
  . exact Nat.zero_le _
  . rw [cond_true,List.length_map];exact List.length_filter_le _ _
theorem zMK (x:TIdx) (q:List (List UInt8)):(zKa x q).length<=x.2.2.length:=by
  unfold zKa
  cases (idxB x&&tokB q)&&inI q.length 0 1000
  . exact Nat.zero_le _
  . rw [cond_true,List.length_map];exact List.length_filter_le _ _
theorem zPG {fu:Nat} {c s:List Int} (hf:1048577<=fu) (hc:c.length<=1048576) (hs:s.length<=1048576) (h:∀ y ∈ s,y ∈ c):zBd fu c s fu (0:Int)=some (.go ()):=by
  have h:=zFr (xs:=s) (p:=fun _=>false) (r:=false) (L:=zBd fu c s) (fun k i y hy=>by
    have hi:=zCk hy
    rw [zBd,lt_t hi,cond_true,ck_t (zBN hi),zAa hy,zNx hf hc,zAD,zMq (h y (zCn hy)),ck_t (zDs (by omega)),zBW,cond_false]
    rfl) (fun k=>by rw [zBd,lt_f];rfl) (show s.length<fu by omega)
  rw [zIk] at h
  exact h
theorem zLb {t : Int} : ∀ {l : List (Int × List (List UInt8))}, l.Pairwise (fun p s => p.1 < s.1) -> ∀ p ∈ zIB t l, p.1 < p.2
  | [],_,p,hp=>by cases hp
  | s::l,h,p,hp=>by
    obtain ⟨h1,h2⟩:=List.pairwise_cons.1 h
    unfold zIB at hp
    rcases List.mem_append.1 hp with hp | hp
    . obtain ⟨z, hz, rfl⟩ := List.mem_map.1 hp
      exact h1 z (List.mem_filter.1 hz).1
    . exact zLb h2 p hp
theorem zNR {x:TIdx}:∀ p ∈ zKT x,p.1<p.2:=by
  intro p hp
  unfold zKT at hp
  cases hv:idxB x with
  | false=>rw [hv] at hp;cases hp
  | true=>
    rw [hv,cond_true] at hp
    exact zLb (zJD hv).2.1 p hp
theorem zMk (x:TIdx):(zKT x).length<=144:=by
  unfold zKT
  cases hv:idxB x with
  | false=>exact Nat.zero_le _
  | true=>
    rw [cond_true]
    have h1:=zI3 x.1 x.2.2
    have h2:=zMy hv
    have:=Nat.mul_le_mul h2 h2
    omega
theorem zOK {fu:Nat} {l:List (Int × Int)} (hf:1048577<=fu) (hl:l.length<=1048576) (h:∀ p ∈ l,p.1<p.2):zBg fu l l fu (0:Int)=some (.go ()):=by
  have h:=zFr (xs:=l) (p:=fun _=>false) (r:=false) (L:=zBg fu l l) (fun k i p hp=>by
    have hi:=zCk hp
    have hlt:=h p (zCn hp)
    rw [zBg,lt_t hi,cond_true,ck_t (zBN hi),ck_t (zBN hi),ck_t (by rw [zBN hi,Bool.or_true]),ck_t (by rw [zBN hi,Bool.or_true]),zBw,beq_self_eq_true,zAa hp,decide_eq_false (show ¬ p.2<=p.1 by omega),ck_t (zDs (by omega)),zBW,cond_false]
    rfl) (fun k=>by rw [zBg,lt_f];rfl) (show l.length<fu by omega)
  rw [zIk] at h
  exact h
theorem zNt : ∀ (l : List TSet) (p : TSet), (p :: l).Pairwise (fun p s => p.1 < s.1) -> (∀ s ∈ l, setX s = false) -> adjB (fun p x => setX x || decide (x.1 <= p.1)) p l = false
  | [],p,_,_=>rfl
  | x::l,p,h,hx=>by
    obtain ⟨h1,h2⟩:=List.pairwise_cons.1 h
    have h3:=h1 x (List.mem_cons_self ..)
    unfold adjB
    rw [hx x (List.mem_cons_self ..),decide_eq_false (by omega),zNt l x h2 fun s hs=>hx s (List.mem_cons_of_mem _ hs)]
    rfl
theorem zOY {l:List TSet} (hp:l.Pairwise fun p s=>p.1<s.1) (hx:∀ s ∈ l,setX s=false):zJd l=true:=by
  unfold zJd
  cases l with
  | nil=>rfl
  | cons x l=>
    rw [zFG,hx x (List.mem_cons_self ..),zNt l x hp fun s hs=>hx s (List.mem_cons_of_mem _ hs)]
    rfl
theorem zNu {l:List TSet} (h:zJd l=true):∀ s ∈ l,setX s=false:=by
  unfold zJd at h
  rw [Bool.not_eq_true'] at h
  cases l with
  | nil=>intro s hs;cases hs
  | cons x l=>
    rw [zFG,Bool.or_eq_false_iff] at h
    intro s hs
    rcases List.mem_cons.1 hs with rfl | hs
    . exact h.1
    . exact (zMY l x h.2).2 s hs
theorem zMz {t : Int} : ∀ {l : List TSet} {i : Nat} {s : TSet}, l[i]? = some s -> i < lowN l t -> s.1 < t
  | [],i,s,hs,h=>by simp at hs
  | x::l,0,s,hs,h=>by
    obtain rfl:x=s:=by simpa using hs
    unfold lowN at h
    rw [List.takeWhile_cons] at h
    split at h
    . next hd=>exact of_decide_eq_true hd
    . simp at h
  | x::l,i+1,s,hs,h=>by
    have hs:l[i]? = some s:=hs
    refine zMz (l:=l) hs ?_
    unfold lowN at h ⊢
    rw [List.takeWhile_cons] at h
    split at h
    . rw [List.length_cons] at h;omega
    . simp at h
theorem zOb {l:List TSet} {t:Int} {q:List (List UInt8)} (hp:l.Pairwise fun p s=>p.1<s.1) (hh:hitB l t=false):(l.take (lowN l t)++(t,q)::l.drop (lowN l t)).Pairwise fun p s=>p.1<s.1:=by
  have hlo:=zGS l t
  have h1:∀ s ∈ l.take (lowN l t),s.1<t:=fun s hs=>by
    obtain ⟨i,hi⟩:=List.getElem?_of_mem hs
    have hil:=(List.getElem?_eq_some_iff.1 hi).1
    rw [List.length_take] at hil
    rw [List.getElem?_take_of_lt (by omega)] at hi
    exact zMz hi (by omega)
  have h2:∀ s ∈ l.drop (lowN l t),t<s.1:=fun s hs=>by
    obtain ⟨i,hi⟩:=List.getElem?_of_mem hs
    rw [List.getElem?_drop] at hi
    have hil:=(List.getElem?_eq_some_iff.1 hi).1
    rcases Int.lt_or_le s.1 t with hlt | hge
    . have := zHk hp hi hlt
      omega
    . rcases Int.lt_or_eq_of_le hge with h | h
      . exact h
      . exfalso
        have hl:lowN l t<l.length:=by omega
        have h0:=List.getElem?_eq_getElem hl
        have hle:(l[lowN l t]).1<=s.1:=by
          rcases Nat.eq_zero_or_pos i with rfl | hi0
          . rw [Nat.add_zero] at hi
            rw [h0] at hi
            rw [Option.some.inj hi]
            exact Int.le_refl _
          . have := List.pairwise_iff_getElem.1 hp (lowN l t) (lowN l t + i) hl hil (by omega)
            have e:=(List.getElem?_eq_some_iff.1 hi).2
            rw [e] at this
            omega
        have hnl:¬ (l[lowN l t]).1<t:=fun h=>by
          have:=zHk hp h0 h
          omega
        unfold hitB at hh
        rw [decide_eq_true hl,zAa h0,show (l[lowN l t]).1=t by omega,beq_self_eq_true] at hh
        cases hh
  refine List.pairwise_append.2 ⟨hp.sublist (List.take_sublist ..),List.pairwise_cons.2 ⟨fun s hs=>h2 s hs,hp.sublist (List.drop_sublist ..)⟩,fun a ha b hb=>?_⟩
  rcases List.mem_cons.1 hb with rfl | hb
  . exact h1 a ha
  . have := h1 a ha
    have:=h2 b hb
    omega
theorem zMf {l:List TSet} {t:Int} {q:List (List UInt8)}:lowN (l.take (lowN l t)++(t,q)::l.drop (lowN l t)) t=lowN l t:=by
  have h:∀ s ∈ l.take (lowN l t),decide (s.1<t)=true:=fun s hs=>by
    obtain ⟨i,hi⟩:=List.getElem?_of_mem hs
    have hil:=(List.getElem?_eq_some_iff.1 hi).1
    rw [List.length_take] at hil
    rw [List.getElem?_take_of_lt (by omega)] at hi
    exact decide_eq_true (zMz hi (by omega))
  have hlo:=zGS l t
  have hlt:(l.take (lowN l t)).length=lowN l t:=by rw [List.length_take];omega
  have key:∀ (a b:List TSet),(∀ s ∈ a,decide (s.1<t)=true)->(a++(t,q)::b).takeWhile (fun s:TSet=>decide (s.1<t))=a:=by
    intro a b
    induction a with
    | nil=>
      intro _
      rw [List.nil_append,List.takeWhile_cons,decide_eq_false (Int.lt_irrefl _)]
      rfl
    | cons x a ih=>
      intro hx
      rw [List.cons_append,List.takeWhile_cons,hx x (List.mem_cons_self ..),if_pos rfl,ih fun s hs=>hx s (List.mem_cons_of_mem _ hs)]
  show (List.takeWhile (fun s:TSet=>decide (s.1<t)) _).length=_
  rw [key _ _ h,hlt]
theorem zMB (q:List (List UInt8)):zDT q q=q:=by
  unfold zDT
  exact List.filter_eq_self.2 fun x hx=>List.any_eq_true.2 ⟨x,hx,beq_self_eq_true x⟩
theorem zNQ {x : TIdR} {t : Int} {q : List (List UInt8)} (hq : q.length <= 1000) (h : (insV x t q).2 = true) :
    idxB (insV x t q).1=true/\rmV (insV x t q).1 t=(x,true)/\t ∈ zJ4 (insV x t q).1 q:=by
  unfold insV at h ⊢
  cases hc:(((idxB x&&tokB q)&&inI t 0 999) && !(x.2.2.length==12)) && !(hitB x.2.2 t) with
  | false=>rw [hc] at h;cases h
  | true=>
    rw [cond_true]
    simp only [Bool.and_eq_true,Bool.not_eq_true'] at hc
    obtain ⟨⟨⟨⟨hv,htk⟩,hi⟩,h12⟩,hh⟩:=hc
    rw [beq_eq_false_iff_ne] at h12
    obtain ⟨p1,p2,p3⟩:=zJD hv
    have hlo:=zGS x.2.2 t
    have hv0:=hv
    unfold idxB at hv0
    simp only [Bool.and_eq_true,decide_eq_true_eq] at hv0
    obtain ⟨⟨v1,v2⟩,_,v4⟩:=hv0
    have hpw:=zOb (q:=q) p2 hh
    have hsx:∀ s ∈ x.2.2.take (lowN x.2.2 t)++(t,q)::x.2.2.drop (lowN x.2.2 t),setX s=false:=fun s hs=>by
      rcases List.mem_append.1 hs with hs | hs
      . exact zNu v4 s (List.mem_of_mem_take hs)
      . rcases List.mem_cons.1 hs with rfl | hs
        . unfold setX
          rw [hi,htk]
          rfl
        . exact zNu v4 s (List.mem_of_mem_drop hs)
    have hz:idxB (x.1,x.2.1,x.2.2.take (lowN x.2.2 t)++(t,q)::x.2.2.drop (lowN x.2.2 t))=true:=by
      unfold idxB
      have hl:(x.2.2.take (lowN x.2.2 t)++(t,q)::x.2.2.drop (lowN x.2.2 t)).length<=12:=by
        rw [List.length_append,List.length_cons,List.length_take,List.length_drop]
        omega
      rw [show tabB x.2.1=true from v1,show inI x.1 1 1000=true from v2,decide_eq_true hl,zOY hpw hsx]
      rfl
    have hat:(x.2.2.take (lowN x.2.2 t)++(t,q)::x.2.2.drop (lowN x.2.2 t))[lowN x.2.2 t]? = some (t,q):=by
      rw [List.getElem?_append_right (by rw [List.length_take];omega),List.length_take,Nat.min_eq_left hlo,Nat.sub_self]
      rfl
    refine ⟨hz,?_,?_⟩
    . unfold rmV
      have hhit:hitB (x.2.2.take (lowN x.2.2 t)++(t,q)::x.2.2.drop (lowN x.2.2 t)) t=true:=by
        unfold hitB
        rw [zMf,zAa hat,decide_eq_true (zCk hat),beq_self_eq_true]
        rfl
      rw [hz]
      show (bif true&&hitB (x.2.2.take (lowN x.2.2 t)++(t,q)::x.2.2.drop (lowN x.2.2 t)) t then _ else _)=_
      rw [hhit]
      show ((x.1,x.2.1,(x.2.2.take (lowN x.2.2 t)++(t,q)::x.2.2.drop (lowN x.2.2 t)).eraseIdx (lowN (x.2.2.take (lowN x.2.2 t)++(t,q)::x.2.2.drop (lowN x.2.2 t)) t)),true)=(x,true)
      rw [zMf,List.eraseIdx_append_of_length_le (by rw [List.length_take];omega),List.length_take,Nat.min_eq_left hlo,Nat.sub_self,List.eraseIdx_cons_zero,List.take_append_drop]
    . unfold zJ4
      rw [hz,cond_true]
      refine List.mem_map.2 ⟨(t,q),List.mem_filter.2 ⟨List.mem_append_right _ (List.mem_cons_self ..),?_⟩,rfl⟩
      show zDw q q x.1=true
      have ht:inI x.1 1 1000=true:=v2
      have hi2:inI (q.length:Int) 0 1000=true:=by
        unfold inI
        rw [decide_eq_true (by omega),decide_eq_true (by omega)]
        rfl
      unfold zDw
      rw [htk,hi2,ht,zMB]
      have ht2:1<=x.1/\x.1<=1000:=by unfold inI at ht;simpa using ht
      rw [show (q.length:Int)+q.length-q.length=q.length by omega]
      have:=Int.mul_le_mul_of_nonneg_right ht2.2 (show 0<=(q.length:Int) by omega)
      rw [decide_eq_true this]
      rfl
theorem zJe {fu:Nat} {b:List Int} (hf:1048577<=fu) (hx:∀ x ∈ b,0<=x/\x<=255):zE6 fu b=some true:=by
  unfold zE6 zGk
  rw [zAD]
  cases hl:decide ((1048576:Int)<(b.length:Int))
  . rw [decide_eq_false_iff_not] at hl
    have hb:b.length<=1048576:=by omega
    rw [cond_false]
    obtain ⟨p,hp,p1,p2⟩:=zO4 (fu:=fu) hf hb hx
    obtain ⟨y,hy,y1,y2⟩:=zP1 (fu:=fu) hf hb hx
    have pi:=p1.idx (by omega)
    have yi:=y1.idx (by omega)
    have pb:=zNE p2
    have yb:=zNE y2
    have kT:(true&&(false==false))=true:=rfl
    have kN:(!true)=false:=rfl
    have kO:(false || false)=false:=rfl
    have hc:=zMK p.1 p.2
    have hs:=zIo p.1 p.2
    have hj:=zMk p.1
    have p12:=p1.2.1
    have y12:=y1.2.1
    rw [hp,zAD,zLn hf pi pb.1 pb.2,zAD,zGY hf pi pb.1 pb.2,zAD,zM2 hf pi pb.1 pb.2,zAD,zLQ hf (by omega),zAD,kN,kT,zI0 hf pi pb.1 pb.2,zAD,zLQ hf (by omega),zAD,zBw,kN,kO,cond_false]
    rw [zPG hf (by omega) (by omega) zLM,zAD,zLU,zMD hf pi,zAD,zMA hf pi,zAD,bne_self_eq_false,cond_false,zOK hf (by omega) zNR,zAD,zLU]
    rw [hy,zAD,zMb hf yi yb.1 yb.2,zAD,zKg hf yi yb.1 yb.2,zAD,bne_self_eq_false,cond_false]
    have hd:=zNQ (x:=y.1) (t:=y.2.1) (q:=y.2.2) (by have:=y2.1;omega)
    have hz:zH4 (insV y.1 y.2.1 y.2.2).1:=by
      unfold insV
      cases (((idxB y.1&&tokB y.2.2)&&inI y.2.1 0 999) && !(y.1.2.2.length==12)) && !(hitB y.1.2.2 y.2.1) with
      | false=>exact yi
      | true=>
        refine ⟨yi.1,?_,fun s hs=>?_⟩
        . show (y.1.2.2.take _ ++ (y.2.1, y.2.2) :: y.1.2.2.drop _).length <= 1048576
          rw [List.length_append,List.length_cons,List.length_take,List.length_drop]
          omega
        . rcases List.mem_append.1 hs with hs | hs
          . exact yi.2.2 s (List.mem_of_mem_take hs)
          . rcases List.mem_cons.1 hs with rfl | hs
            . exact yb
            . exact yi.2.2 s (List.mem_of_mem_drop hs)
    have hzl:=hz.2.1
    cases hm:(insV y.1 y.2.1 y.2.2).2
    . rfl
    . obtain ⟨d1, d2, d3⟩ := hd hm
      have kA:(true&&(true==true))=true:=rfl
      have kB:(true&&true)=true:=rfl
      have hsz:=zIo (insV y.1 y.2.1 y.2.2).1 y.2.2
      have hsy:=zIo y.1 y.2.2
      rw [kN,cond_false,zNO hf hz,zAD,d2]
      show cl (true&&(true==true)) (zAh fu (insV y.1 y.2.1 y.2.2).1) _=_
      rw [kA,zFU hf hz,zAD,d1,zBw]
      show bd (true&&((y.1.2.2.length:Int)==(y.1.2.2.length:Int))) _=_
      rw [zBw,beq_self_eq_true,kB,kA,zGY hf hz yb.1 yb.2,zAD,zNx hf (by omega),zAD,zMq d3,zBw,kB,kA]
      show cl true (zBi fu y.1 y.2.2) _=_
      rw [zGY hf yi yb.1 yb.2,zAD,zI0 hf yi yb.1 yb.2,zAD,zLQ hf (by omega),zAD,zBw]
      rfl
  . rw [cond_true]
end Go.Proofs.YtmgiijdejigdhaaGreat
