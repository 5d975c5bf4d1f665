/- -/
import Derived.Test.YtedigoohmnbjfaaGreatPartF
import Derived.Test.YtedigoohmnbjfaaGreatPartH
import Derived.Test.YtedigoohmnbjfaaGreatPartB
import Derived.OpenShut
import Derived.ChangeShapes
import Derived.Test.YtedigoohmnbjfaaGreatPartC
import Derived.WalkKit
import Derived.ProofKit
import Derived.Carry
import Derived.Test.YtedigoohmnbjfaaGreatRows
import Derived.Test.YtedigoohmnbjfaaGreatChecked
set_option linter.unusedVariables false
set_option linter.unusedSimpArgs false
namespace Go.Own
variable {α:Type}{i:Nat}
theorem xI {l:List α}  {x:α} (h:l[i]?=some x):idx l (i:Int)=some x:=h
theorem zcQ (b:List Int) (g:Nat → Int → Option Int) (hg:∀ i x y,b[i]?=some y → g i x=if x < y then some (-1) else if y < x then some 1 else none) :
  ∀ (a:List Int) (k:Nat),k + a.length=b.length → (xh g a k).getD 0=qd a (b.drop k)
 | [],k,h=>by
  have:b.drop k=[]:=List.drop_eq_nil_of_le (by simp at h; omega)
  rw [this]; rfl
 | x :: a,k,h=>by
  simp only [List.length_cons] at h
  have hk:k < b.length:=by omega
  rw [List.drop_eq_getElem_cons hk]
  simp only [xh,qd,hg k x b[k] (List.getElem?_eq_getElem hk)]
  by_cases h1:x < b[k]
  ·simp [h1]
  ·by_cases h2:b[k] < x
   ·simp [h1,h2]
   ·simp only [h1,h2,if_false]
    exact zcQ b g hg a (k + 1) (by omega)
theorem z4p (a b:List Int) (h:a.length=b.length → a.length < 4611686018427387904):uj a b=some (XY a b):=by
 unfold uj
 by_cases hl:a.length=b.length
 ·have h':=h hl
  simp only [hl,bne_self_eq_false,cond_false]
  rw [bdT (uz a h' (fun i x=>match b[i]? with | some y=>if x < y then some (-1:Int) else if y < x then some 1 else none | none=>none) ?_ ?_)]
  ·have q:=zcQ b (fun i x=>match b[i]? with | some y=>if x < y then some (-1:Int) else if y < x then some 1 else none | none=>none) (fun i x y hy=>by simp only [hy]) a 0 (by omega)
   rw [List.drop_zero] at q
   have hc:XY a b=qd a b:=by unfold XY; rw [if_neg (by omega),if_neg (by omega)]
   rw [hc,← q]
   cases xh (fun i x=>match b[i]? with | some y=>if x < y then some (-1:Int) else if y < x then some 1 else none | none=>none) a 0 <;> rfl
  ·intro i x hx
   have hi:i < a.length:=(List.getElem?_eq_some_iff.1 hx).1
   have hy:b[i]?=some b[i]:=List.getElem?_eq_getElem (by omega)
   unfold uv
   have hc:decide ((i:Int) < (a.length:Int))=true:=by simpa using hi
   simp only [hc,cond_true,xI hx,xI hy,hy,Option.bind_some]
   by_cases h1:x < b[i]
   ·simp [h1,nS]
   ·by_cases h2:b[i] < x
    ·simp [h1,h2,nS]
    ·simp [h1,h2,nS]
  ·unfold uv
   simp
 ·have h1:(((a.length:Nat):Int) != ((b.length:Nat):Int))=true:=by simp; omega
  simp only [h1,cond_true]
  unfold XY
  by_cases h2:a.length < b.length
  ·simp [h2]
  ·have h3:b.length < a.length:=by omega
   simp [h2,h3]
def cI (x y:Int):Int:=if x < y then -1 else if y < x then 1 else 0
theorem zd3 (x y:Int):vW x y=some (cI x y):=by
 unfold vW ZR cI
 simp only [bne_self_eq_false,Option.bind_some,cond_false]
 by_cases h1:x < y
 ·simp [h1]
 ·by_cases h2:y < x
  ·simp [h1,h2]
  ·simp [h1,h2]
theorem zhS (a b:List Int) (h:a.length < 4611686018427387904):∃ c,xJ a b=some c ∧ (a.length=b.length → c=qd a b):=by
 unfold xJ
 have hloop:=uz a h (step:=fun s=>yl a b s) (fun i x=>match b[i]? with | some y=>if x < y then some (-1:Int) else if y < x then some 1 else none | none=>some 1) (by
  intro i x hx
  have hi:i < a.length:=(List.getElem?_eq_some_iff.1 hx).1
  unfold yl
  have hc:decide ((i:Int) < (a.length:Int))=true:=by simpa using hi
  simp only [hc,cond_true,xI hx,Option.bind_some]
  by_cases hb:i < b.length
  ·have hy:b[i]?=some b[i]:=List.getElem?_eq_getElem hb
   have hd:decide ((i:Int) ≥ (b.length:Int))=false:=by simp; omega
   simp only [hd,cond_false,xI hy,hy,Option.bind_some,zd3]
   unfold cI
   by_cases h1:x < b[i]
   ·simp [h1,nS]
   ·by_cases h2:b[i] < x
    ·simp [h1,h2,nS]
    ·simp [h1,h2,nS]
  ·have hy:b[i]?=none:=List.getElem?_eq_none (by omega)
   have hd:decide ((i:Int) ≥ (b.length:Int))=true:=by simp; omega
   simp only [hd,cond_true,hy,nS]) (by unfold yl; simp)
 rw [bdT hloop]
 have q:=fun hl=>zcQ b (fun i x=>match b[i]? with | some y=>if x < y then some (-1:Int) else if y < x then some 1 else none | none=>some 1) (fun i x y hy=>by simp only [hy]) a 0 hl
 cases hf:xh (fun i x=>match b[i]? with | some y=>if x < y then some (-1:Int) else if y < x then some 1 else none | none=>some 1) a 0 with
 | some r=>
  refine ⟨r,rfl,fun hl=>?_⟩
  have:=q (by omega)
  rw [hf] at this
  simpa using this
 | none=>
  unfold xR
  by_cases hl:a.length < b.length
  ·refine ⟨-1,by simp [oS,hl],fun hl2=>by omega⟩
  ·refine ⟨0,by simp [oS,hl],fun hl2=>?_⟩
   have:=q (by omega)
   rw [hf] at this
   simpa using this
theorem zrz (x y:Int):UA [x,y]=some (if x=0 then y else x):=by
 unfold UA
 rw [bdT (uz [x,y] (by simp) (step:=fun s=>jE [x,y] s) (fun i v=>if v ≠ 0 then some v else none) ?_ ?_)]
 ·by_cases h1:x=0
  ·by_cases h2:y=0
   ·simp [xh,h1,h2,oS,XL]
   ·simp [xh,h1,h2,oS]
  ·simp [xh,h1,oS]
 ·intro i v hv
  have hi:i < [x,y].length:=(List.getElem?_eq_some_iff.1 hv).1
  unfold jE
  have hc:decide ((i:Int) < (([x,y]:List Int).length:Int))=true:=by simp only [decide_eq_true_eq]; omega
  simp only [hc,cond_true,xI hv,Option.bind_some]
  by_cases h:v=0
  ·simp [h,nS]
  ·have hb:(v != 0)=true:=by simpa using h
   simp [h,hb,nS]
 ·unfold jE; simp
theorem zaT (a b:List Int) (h:a.length < 4611686018427387904):wq a b=some (XY a b):=by
 unfold wq
 obtain ⟨c,hc,hl⟩:=zhS a b h
 rw [zd3,hc]
 simp only [Option.bind_some,zrz]
 unfold cI XY
 by_cases h1:a.length < b.length
 ·simp [h1]
 ·by_cases h2:b.length < a.length
  ·simp [h1,h2]
  ·simp [h1,h2,hl (by omega)]
def wE (n:Int) (w:List Int):Int:=if 256 < w.length then 3 else if w.any (fun c=>decide (c < 0) || decide (n ≤ c)) then 1 else 0
variable {n:Int}{w:List Int}
theorem z8D:wE n w=0 ↔ w.length ≤ 256 ∧ ∀ c ∈ w,0 ≤ c ∧ c < n:=by
 unfold wE
 by_cases h:256 < w.length
 ·rw [if_pos h]
  exact ⟨fun q=>by simp at q,fun q=>by omega⟩
 ·rw [if_neg h]
  by_cases h2:w.any (fun c=>decide (c < 0) || decide (n ≤ c))=true
  ·rw [if_pos h2]
   simp only [List.any_eq_true,Bool.or_eq_true,decide_eq_true_eq] at h2
   obtain ⟨c,h3,h4⟩:=h2
   refine ⟨fun q=>by simp at q,fun q=>?_⟩
   have:=q.2 c h3
   omega
  ·rw [if_neg h2]
   simp only [List.any_eq_true,Bool.or_eq_true,decide_eq_true_eq,not_exists,not_and,not_or] at h2
   refine ⟨fun _=>⟨by omega,fun c hc=>?_⟩,fun _=>rfl⟩
   have:=h2 c hc
   omega
variable {ρ:Type}
theorem zgM (p:Int → Bool) (g:Nat → Int → Option ρ) (hg:∀ i x,(g i x).isSome=p x):∀ (w:List Int) (k:Nat),(xh g w k).isSome=w.any p
 | [],k=>rfl
 | x :: w,k=>by
  simp only [xh,List.any_cons]
  have:=hg k x
  cases hx:g k x with
  | some r=>rw [hx] at this; simp at this; simp [← this]
  | none=>rw [hx] at this; simp at this; rw [this,Bool.false_or]; exact zgM p g hg w (k + 1)
theorem z7l (n:Int) (w:List Int):u4 w n=some (if 16 < n then 3 else if 256 < w.length then 3 else if n < 1 then 1 else wE n w):=by
 unfold u4
 by_cases h0:16 < n
 ·simp [h0]
 by_cases h:256 < w.length
 ·have h':(256:Int) < (w.length:Int):=by omega
  simp [h0,h,h']
 by_cases h1:n < 1
 ·have h':¬ (256:Int) < (w.length:Int):=by omega
  simp [h0,h,h',h1]
 ·have hd:decide (((w.length:Nat):Int) > 256)=false:=by simp; omega
  have hd0:decide (n > 16)=false:=by simp; omega
  have hd1:decide (n < 1)=false:=by simp; omega
  simp only [hd,hd0,hd1,cond_false,if_neg h,if_neg h0,if_neg h1]
  unfold xy wb wE
  have hl:=uz w (by omega) (step:=fun s=>ye w n s) (fun i c=>if c < 0 ∨ n ≤ c then some (i:Int) else none) (by
   intro i c hc
   have hi:i < w.length:=(List.getElem?_eq_some_iff.1 hc).1
   unfold ye Xt
   have hq:decide ((i:Int) < (w.length:Int))=true:=by simpa using hi
   simp only [hq,cond_true,xI hc,Option.bind_some]
   by_cases h1:c < 0
   ·simp [h1,nS]
   ·by_cases h2:n ≤ c
    ·simp [h1,h2,nS]
    ·simp [h1,h2,nS]) (by unfold ye; simp)
  rw [bdT hl,if_neg h]
  have q:=zgM (fun c=>decide (c < 0) || decide (n ≤ c)) (fun i c=>if c < 0 ∨ n ≤ c then some (i:Int) else none) (fun i c=>by by_cases h:c < 0 ∨ n ≤ c <;> simp [h] <;> simpa using h) w 0
  cases hf:xh (fun i c=>if c < 0 ∨ n ≤ c then some (i:Int) else none) w 0 with
  | none=>rw [hf] at q; rw [← q]; rfl
  | some r=>
   rw [hf] at q
   obtain ⟨i,x,h1,h2⟩:=Z8 hf
   rw [← q]
   split at h2
   ·cases h2
    simp [oS]
   ·cases h2
def eS (e:Int):Option Int:=if e=0 then none else some e
def loE (n:Int) (l:List (List Int)):Int:=if 16 < n then 3 else if 4096 < l.length then 3 else if n < 1 then 1 else (xh (fun _ w=>eS (wE n w)) l 0).getD 0
theorem z9U:∀ {l:List (List Int)} {k:Nat},(xh (fun _ w=>eS (wE n w)) l k).getD 0=0 ↔ ∀ w ∈ l,wE n w=0
 | [],_=>by simp [xh]
 | w :: l,k=>by
  by_cases h:wE n w=0
  ·have:eS (wE n w)=none:=by simp [eS,h]
   simp only [xh,this]
   rw [z9U]
   simp [h]
  ·have:eS (wE n w)=some (wE n w):=by simp [eS,h]
   simp [xh,this,h]
variable {l:List (List Int)}
theorem z9I:loE n l=0 ↔ (1 ≤ n ∧ n ≤ 16) ∧ l.length ≤ 4096 ∧ ∀ w ∈ l,w.length ≤ 256 ∧ ∀ c ∈ w,0 ≤ c ∧ c < n:=by
 unfold loE
 by_cases h0:16 < n
 ·rw [if_pos h0]; exact ⟨fun q=>by simp at q,fun q=>by omega⟩
 by_cases h1:4096 < l.length
 ·rw [if_neg h0,if_pos h1]; exact ⟨fun q=>by simp at q,fun q=>by omega⟩
 by_cases h2:n < 1
 ·rw [if_neg h0,if_neg h1,if_pos h2]; exact ⟨fun q=>by simp at q,fun q=>by omega⟩
 rw [if_neg h0,if_neg h1,if_neg h2,z9U]
 constructor
 ·intro q; exact ⟨by omega,by omega,fun w hw=>z8D.1 (q w hw)⟩
 ·intro q w hw; exact z8D.2 (q.2.2 w hw)
theorem zfr (l:List (List Int)) (n:Int):Y7 l n=some (loE n l):=by
 unfold Y7 loE
 by_cases h0:16 < n
 ·simp [h0]
 by_cases h1:4096 < l.length
 ·have h':(4096:Int) < (l.length:Int):=by omega
  simp [h0,h1,h']
 by_cases h2:n < 1
 ·have h':¬ (4096:Int) < (l.length:Int):=by omega
  simp [h0,h1,h2,h']
 have d0:decide (n > 16)=false:=by simp; omega
 have d1:decide (((l.length:Nat):Int) > 4096)=false:=by simp; omega
 have d2:decide (n < 1)=false:=by simp; omega
 simp only [d0,d1,d2,cond_false,if_neg h0,if_neg h1,if_neg h2]
 rw [bdT (uz l (by omega) (step:=fun s=>uD l n s) (fun _ w=>eS (wE n w)) ?_ ?_)]
 ·cases xh (fun _ w=>eS (wE n w)) l 0 <;> rfl
 ·intro i w hw
  have hi:i < l.length:=(List.getElem?_eq_some_iff.1 hw).1
  have hq:decide ((i:Int) < (l.length:Int))=true:=by simpa using hi
  have he:u4 w n=some (wE n w):=by
   rw [z7l,if_neg h0,if_neg h2]
   by_cases h:256 < w.length
   ·rw [if_pos h]; unfold wE; rw [if_pos h]
   ·rw [if_neg h]
  unfold uD
  simp only [hq,cond_true,xI hw,Option.bind_some,he]
  by_cases hz:wE n w=0
  ·simp [hz,eS,nS]
  ·have hb:(wE n w != 0)=true:=by simpa using hz
   simp [hz,hb,eS,nS]
 ·unfold uD; simp
theorem zfs (l:List (List Int)) (hl:l.length < 4611686018427387904) {step:Int × Int → Option (LR (Int × Int) Int)}
  (h:∀ (n:Int) (i:Nat) (x:List Int),l[i]?=some x → step (n,(i:Int))=some (.next (w64 (n + ((x.length:Nat):Int)),w64 ((i:Int) + 1)))) (h2:∀ n,step (n,(l.length:Int))=some (.done n)) :
  loop step (0,0)=some (l.foldl (fun n x=>w64 (n + ((x.length:Nat):Int))) 0):=by
 have gen:∀ (m k:Nat) (n:Int),k ≤ l.length → l.length - k < m → z0d step m (n,(k:Int))=some ((l.drop k).foldl (fun n x=>w64 (n + ((x.length:Nat):Int))) n):=by
  intro m
  induction m with
  | zero=>intro k n _ h; omega
  | succ m ih=>
   intro k n hk hn
   rw [Uq]
   rcases Nat.lt_or_ge k l.length with hlt | hge
   ·have hx:l[k]?=some l[k]:=List.getElem?_eq_getElem hlt
    rw [h n k _ hx,List.drop_eq_getElem_cons hlt]
    simp only [List.foldl_cons]
    rw [xp (x:=(k:Int) + 1) (by omega) (by omega)]
    exact ih (k + 1) _ hlt (by omega)
   ·have:k=l.length:=by omega
    subst this
    rw [h2,List.drop_length]
    rfl
 exact gen V1 0 0 (Nat.zero_le _) (by show l.length - 0 < 18446744073709551616; omega)
def stW (l:List (List Int)):Int:=l.foldl (fun n x=>w64 (n + ((x.length:Nat):Int))) 0
theorem zeA (l:List (List Int)) (hl:l.length < 4611686018427387904):Y6 l=some (stW l):=by
 unfold Y6
 rw [bdT (zfs l hl (step:=fun s=>uC l s.1 s.2) ?_ ?_)]
 ·rfl
 ·intro n i x hx
  have hi:i < l.length:=(List.getElem?_eq_some_iff.1 hx).1
  have hq:decide ((i:Int) < (l.length:Int))=true:=by simpa using hi
  unfold uC
  simp only [hq,cond_true,xI hx,Option.bind_some]
 ·intro n; unfold uC; simp
def z5h (l:List (List Int)):Nat:=(l.map List.length).sum
theorem zkb (h:z5h l < 4611686018427387904):stW l=(z5h l:Int):=by
 have gen:∀ (l:List (List Int)) (n:Nat),n + z5h l < 4611686018427387904 → l.foldl (fun n x=>w64 (n + ((x.length:Nat):Int))) (n:Int)=((n + z5h l:Nat):Int):=by
  intro l
  induction l with
  | nil=>intro n _; simp [z5h]
  | cons x l ih=>
   intro n hn
   have hs:z5h (x :: l)=x.length + z5h l:=by simp [z5h]
   rw [hs] at hn ⊢
   rw [List.foldl_cons,xp (by omega) (by omega),← Int.natCast_add,ih (n + x.length) (by omega)]
   congr 1; omega
 have:=gen l 0 (by omega)
 simpa [stW] using this
theorem zbc {m:Nat} (h:∀ w ∈ l,w.length ≤ m):z5h l ≤ l.length * m:=by
 induction l with
 | nil=>simp [z5h]
 | cons x l ih=>
  have hs:z5h (x :: l)=x.length + z5h l:=by simp [z5h]
  have h1:=h x (by simp)
  have h2:=ih fun w hw=>h w (by simp [hw])
  rw [hs,List.length_cons,Nat.add_mul]
  omega
theorem z9n:∀ {l:List (List Int)},SW l ↔ ∀ i x y,l[i]?=some x → l[i + 1]?=some y → XY x y < 0
 | []=>by simp [SW]
 | [x]=>⟨fun _ i a b _ h2=>by simp at h2,fun _=>by simp [SW]⟩
 | x :: y :: l=>by
  constructor
  ·intro h i a b h1 h2
   cases i with
   | zero=>
    simp at h1 h2
    subst h1; subst h2
    exact h.head y (by simp)
   | succ i=>exact z9n.1 h.tail i a b (by simpa using h1) (by simpa using h2)
  ·intro h
   have ht:SW (y :: l):=z9n.2 fun i a b h1 h2=>h (i + 1) a b (by simpa using h1) (by simpa using h2)
   have h0:=h 0 x y rfl rfl
   refine List.pairwise_cons.2 ⟨fun z hz=>?_,ht⟩
   rcases List.mem_cons.1 hz with rfl | hz
   ·exact h0
   ·exact XX h0 (ht.head z hz)
theorem zaB {α ρ:Type} (l:List α) (hl:l.length < 4611686018427387904) {step:Int → Option (LR Int (Unit ⊕ ρ))} (f:Nat → α → Option ρ)
  (h:∀ (i:Nat) (x:α),1 ≤ i → l[i]?=some x → step (i:Int)=some (nS i (f i x))) (h2:∀ k:Nat,l.length ≤ k → step (k:Int)=some (.done (.inl ()))) :
  loop step 1=some (oS (xh f (l.drop 1) 1)):=by
 have gen:∀ (n:Nat) (k:Nat),1 ≤ k → l.length - k < n → z0d step n (k:Int)=some (oS (xh f (l.drop k) k)):=by
  intro n
  induction n with
  | zero=>intro k _ h; omega
  | succ n ih=>
   intro k hk hn
   rw [Uq]
   rcases Nat.lt_or_ge k l.length with hlt | hge
   ·have hx:l[k]?=some l[k]:=List.getElem?_eq_getElem hlt
    rw [h k _ hk hx,List.drop_eq_getElem_cons hlt]
    simp only [xh]
    cases hf:f k l[k] with
    | some r=>rfl
    | none=>
     simp only [nS]
     rw [xp (by omega) (by omega)]
     exact ih (k + 1) (by omega) (by omega)
   ·rw [h2 k hge,List.drop_eq_nil_of_le hge]
    rfl
 exact gen V1 1 (Nat.le_refl _) (by show l.length - 1 < 18446744073709551616; omega)
instance (l:List (List Int)):Decidable (SW l):=by unfold SW; infer_instance
theorem zfT (l:List (List Int)) (r:ρ):xh (fun i x=>match l[i - 1]? with | some y=>if 0 ≤ XY y x then some r else none | none=>none) (l.drop 1) 1=if SW l then none else some r:=by
 by_cases hs:SW l
 ·rw [if_pos hs]
  refine WH fun i x hx=>?_
  rw [List.getElem?_drop] at hx
  have hi:1 + i < l.length:=(List.getElem?_eq_some_iff.1 hx).1
  have hy:l[1 + i - 1]?=some l[i]:=by rw [show 1 + i - 1=i by omega]; exact List.getElem?_eq_getElem (by omega)
  rw [hy]
  have:=z9n.1 hs i l[i] x (List.getElem?_eq_getElem (by omega)) (by rw [Nat.add_comm]; exact hx)
  simp only
  rw [if_neg (by omega)]
 ·rw [if_neg hs]
  cases hf:xh (fun i x=>match l[i - 1]? with | some y=>if 0 ≤ XY y x then some r else none | none=>none) (l.drop 1) 1 with
  | some r'=>
   obtain ⟨i,x,h1,h2⟩:=Z8 hf
   split at h2
   ·split at h2
    ·exact h2.symm
    ·cases h2
   ·cases h2
  | none=>
   exfalso
   refine hs (z9n.2 fun i x y hx hy=>?_)
   have:=ZN hf i y (by rw [List.getElem?_drop,Nat.add_comm]; exact hy)
   rw [show 1 + i - 1=i by omega,hx] at this
   simp only at this
   split at this
   ·cases this
   ·omega
theorem zgo (l:List (List Int)) (h:l.length ≤ 4096) (hw:∀ w ∈ l,w.length < 4611686018427387904):W5 l=some (decide (SW l)):=by
 unfold W5
 rw [bdT (zaB l (by omega) (step:=fun s=>uE l s) (fun i x=>match l[i - 1]? with | some y=>if 0 ≤ XY y x then some false else none | none=>none) ?_ ?_),zfT]
 ·by_cases hs:SW l
  ·simp [hs,oS,YI]
  ·simp [hs,oS]
 ·intro i x hi hx
  have hil:i < l.length:=(List.getElem?_eq_some_iff.1 hx).1
  have hy:l[i - 1]?=some l[i - 1]:=List.getElem?_eq_getElem (by omega)
  have hq:decide ((i:Int) < (l.length:Int))=true:=by simpa using hil
  unfold uE
  rw [xp (x:=(i:Int) - 1) (by omega) (by omega),show ((i:Int) - 1)=((i - 1:Nat):Int) by omega]
  have hE:=zaT l[i - 1] x (hw _ (List.getElem_mem (by omega)))
  simp only [hq,cond_true,xI hx,xI hy,Option.bind_some,hy,hE]
  by_cases hc:0 ≤ XY l[i - 1] x
  ·simp [hc,nS]
  ·simp [hc,nS]
 ·intro k hk; unfold uE; have:decide ((k:Int) < (l.length:Int))=false:=by simp; omega
  simp only [this,cond_false]
def chE (n:Int) (l:List (List Int)):Int:=if loE n l ≠ 0 then loE n l else if SW l then (if 65536 < z5h l then 3 else 0) else 1
theorem zg7:chE n l=0 ↔ loE n l=0 ∧ SW l ∧ z5h l ≤ 65536:=by
 unfold chE
 by_cases h:loE n l=0
 ·rw [if_neg (by simp [h])]
  by_cases h2:SW l
  ·rw [if_pos h2]
   by_cases h3:65536 < z5h l
   ·rw [if_pos h3]; exact ⟨fun q=>by simp at q,fun q=>by omega⟩
   ·rw [if_neg h3]; exact ⟨fun _=>⟨h,h2,by omega⟩,fun _=>rfl⟩
  ·rw [if_neg h2]; exact ⟨fun q=>by simp at q,fun q=>absurd q.2.1 h2⟩
 ·rw [if_pos h]; exact ⟨fun q=>absurd q h,fun q=>absurd q.1 h⟩
theorem zcm (h:loE n l=0):l.length ≤ 4096 ∧ (∀ w ∈ l,w.length ≤ 256) ∧ z5h l ≤ 1048576:=by
 obtain ⟨_,h1,h2⟩:=z9I.1 h
 refine ⟨h1,fun w hw=>(h2 w hw).1,?_⟩
 have:=zbc (m:=256) fun w hw=>(h2 w hw).1
 omega
theorem zba (l:List (List Int)) (n:Int):u6 l n=some (chE n l):=by
 unfold u6 chE
 rw [zfr]
 simp only [Option.bind_some]
 by_cases h:loE n l=0
 ·obtain ⟨h1,h2,h3⟩:=zcm h
  rw [zgo l h1 fun w hw=>by have:=h2 w hw; omega,zeA l (by omega),zkb (by omega)]
  simp only [h,bne_self_eq_false,cond_false,Option.bind_some,ne_eq,not_true,if_false]
  by_cases hs:SW l
  ·by_cases hq:65536 < z5h l
   ·have:(65536:Int) < (z5h l:Int):=by omega
    simp [hs,hq,this]
   ·have:¬ (65536:Int) < (z5h l:Int):=by omega
    simp [hs,hq,this]
  ·simp [hs]
 ·have hb:(loE n l != 0)=true:=by simpa using h
  simp [h,hb]
theorem zcZ (a b:List Int) (ha:a.length < 4611686018427387904):xA a b=some (decide (a=b)):=by
 unfold xA wx
 by_cases hl:a.length=b.length
 ·have e:(((a.length:Nat):Int) != ((b.length:Nat):Int))=false:=by simp [hl]
  rw [e,cond_false,uz a ha (step:=fun s=>yI a b s) (fun i x=>if b[i]?=some x then none else some false) ?_ ?_]
  ·by_cases q:a=b
   ·rw [WH fun i x hx=>by rw [Nat.zero_add,← q,if_pos hx]]
    simp [oS,q]
   ·cases hf:xh (fun i x=>if b[i]?=some x then none else some false) a 0 with
    | none=>
     exfalso
     refine q (List.ext_getElem? fun i=>?_)
     by_cases hi:i < a.length
     ·have hx:a[i]?=some a[i]:=List.getElem?_eq_getElem hi
      have:=ZN hf i _ hx
      rw [Nat.zero_add] at this
      split at this
      ·rename_i g; rw [hx,g]
      ·cases this
     ·rw [List.getElem?_eq_none (by omega),List.getElem?_eq_none (by omega)]
    | some r=>
     obtain ⟨i,x,_,h2⟩:=Z8 hf
     split at h2
     ·cases h2
     ·cases h2
      simp [oS,q]
  ·intro i x hx
   have hi:=(List.getElem?_eq_some_iff.1 hx).1
   have hy:b[i]?=some b[i]:=List.getElem?_eq_getElem (by omega)
   unfold yI
   rw [decide_eq_true (by omega),cond_true,bdT (xI hx),bdT (xI hy),hy]
   by_cases e2:x=b[i]
   ·rw [e2,bne_self_eq_false,cond_false,if_pos rfl]
    rfl
   ·have e3:(x != b[i])=true:=by simpa using e2
    rw [e3,cond_true,if_neg fun g=>e2 (Option.some.inj g).symm]
    rfl
  ·unfold yI
   rw [decide_eq_false (by omega),cond_false]
 ·have e:(((a.length:Nat):Int) != ((b.length:Nat):Int))=true:=by simpa using fun g:(a.length:Int)=b.length=>hl (by omega)
  rw [e,cond_true,decide_eq_false fun q=>hl (by rw [q])]
section
variable {m:z6} (h:VM m)
include h
omit h in theorem seq_out {s t:Nat} (q:SEq m s t) {j:Nat} (hj:j < kk m):(E m s j).Out=(E m t j).Out ∧ ∀ w:List Nat,(∀ i ∈ w,i < kk m) → rsp m (E m s j).To w=rsp m (E m t j).To w:=by
 have gen:∀ w:List Nat,(∀ i ∈ w,i < kk m) → (E m s j).Out=(E m t j).Out ∧ rsp m (E m s j).To w=rsp m (E m t j).To w:=by
  intro w hw
  have:=q (j :: w) (fun i hi=>by rcases List.mem_cons.1 hi with rfl | g; exact hj; exact hw i g)
  simp only [rsp,zi4,List.cons.injEq] at this
  exact this
 exact ⟨(gen [] (by simp)).1,fun w hw=>(gen w hw).2⟩
end
def QW (l:List (List Int)):Prop:=l.Pairwise fun a b=>¬ XY b a < 0
theorem zfk {l:List α} {n:Nat} {x:α}:x ∈ l.take n ↔ ∃ i,i < n ∧ l[i]?=some x:=by
 rw [List.mem_iff_getElem?]
 constructor
 ·rintro ⟨i,h⟩
  rw [List.getElem?_take] at h
  split at h
  ·exact ⟨i,by omega,h⟩
  ·cases h
 ·rintro ⟨i,h1,h2⟩
  exact ⟨i,by rw [List.getElem?_take,if_pos h1]; exact h2⟩
theorem zbP (hs:SW l)   (hi:i ≤ l.length) (h1:∀ m x,m < i → l[m]?=some x → XY x w < 0) (h2:∀ m x,i ≤ m → l[m]?=some x → XY w x < 0):l.take i ++ w :: l.drop i=z5H w l:=by
 have ht:∀ x ∈ l.take i,XY x w < 0:=fun x hx=>by
  obtain ⟨m,q1,q2⟩:=zfk.1 hx
  exact h1 m x q1 q2
 have hd:∀ x ∈ l.drop i,XY w x < 0:=fun x hx=>by
  obtain ⟨m,q⟩:=List.mem_iff_getElem?.1 hx
  rw [List.getElem?_drop] at q
  exact h2 (i + m) x (by omega) q
 refine SW.unique ?_ hs.put fun x=>?_
 ·unfold SW
  rw [List.pairwise_append,List.pairwise_cons]
  refine ⟨hs.sub (List.take_sublist _ _),⟨hd,hs.sub (List.drop_sublist _ _)⟩,fun a ha b hb=>?_⟩
  rcases List.mem_cons.1 hb with rfl | hb
  ·exact ht a ha
  ·exact XX (ht a ha) (hd b hb)
 ·rw [z0Q]
  have:x ∈ l ↔ x ∈ l.take i ∨ x ∈ l.drop i:=by rw [← List.mem_append,List.take_append_drop]
  rw [this]
  simp only [List.mem_append,List.mem_cons]
  constructor
  ·rintro (h | h | h) <;> simp [h]
  ·rintro (h | h | h) <;> simp [h]
theorem zkA {l:List (List Int)} (hs:SW l) (hl:l.length ≤ 1000000) (hw:∀ x ∈ l,x.length < 4611686018427387904)  (hww:w.length ≤ 4294967296):JP l w=some (z5H w l):=by
 unfold JP
 apply Ret.eq
 rw [qU]
 refine Ret.mono (qS (fun q:Int × Int=>∃ i j:Nat,q=((i:Int),(j:Int)) ∧ i ≤ j ∧ j ≤ l.length ∧ (∀ m x,m < i → l[m]?=some x → XY x w < 0) ∧ ∀ m x,j ≤ m → l[m]?=some x → ¬ XY x w < 0) (fun q=>(q.2 - q.1).toNat) (R:=fun t=>∃ i:Nat,t=(i:Int) ∧ i ≤ l.length ∧ (∀ m x,m < i → l[m]?=some x → XY x w < 0) ∧ ∀ m x,i ≤ m → l[m]?=some x → ¬ XY x w < 0) ?_ ?_ ?_) ?_
 ·exact ⟨0,l.length,rfl,Nat.zero_le _,Nat.le_refl _,fun m x h=>by omega,fun m x h hx=>by have:=(List.getElem?_eq_some_iff.1 hx).1; omega⟩
 ·simp only; omega
 ·rintro _ ⟨i,j,rfl,g1,g2,g3,g4⟩
  show Ret (YX l w (i:Int) (j:Int)) _
  unfold YX
  rw [vz]
  refine ⟨fun hc=>?_,fun hc=>?_⟩
  ·have hij:i < j:=by simpa using hc
   have hh:w64 (Int.tdiv (w64 ((i:Int) + (j:Int))) 2)=(((i + j) / 2:Nat):Int):=by
    rw [xp (x:=(i:Int) + (j:Int)) (by omega) (by omega)]
    have:Int.tdiv ((i:Int) + (j:Int)) 2=(((i + j) / 2:Nat):Int):=by
     rw [show ((i:Int) + (j:Int))=((i + j:Nat):Int) by omega,Int.tdiv_eq_ediv_of_nonneg (by omega)]
     rfl
    rw [this,xp (by omega) (by omega)]
   rw [gdT (by omega),hh]
   have hm:(i + j) / 2 < l.length:=by omega
   have hx:l[(i + j) / 2]?=some l[(i + j) / 2]:=List.getElem?_eq_getElem hm
   rw [xI hx]
   simp only [Option.bind_some]
   rw [z4p _ _ (fun _=>hw _ (List.getElem_mem hm))]
   simp only [Option.bind_some]
   by_cases hc2:XY l[(i + j) / 2] w < 0
   ·simp only [hc2,decide_true,cond_true]
    rw [xp (by omega) (by omega),y6]
    refine ⟨⟨(i + j) / 2 + 1,j,by simp,by omega,g2,fun m x h hmx=>?_,g4⟩,by simp only; omega⟩
    rcases Nat.lt_or_ge m ((i + j) / 2) with q | q
    ·have h1:=(List.pairwise_iff_getElem.1 hs) m ((i + j) / 2) (List.getElem?_eq_some_iff.1 hmx).1 hm q
     rw [(List.getElem?_eq_some_iff.1 hmx).2] at h1
     exact XX h1 hc2
    ·rw [show m=(i + j) / 2 by omega,hx] at hmx
     cases hmx
     exact hc2
   ·simp only [hc2,decide_false,cond_false]
    rw [y6]
    refine ⟨⟨i,(i + j) / 2,rfl,by omega,by omega,g3,fun m x h hmx hlt=>?_⟩,by simp only; omega⟩
    rcases Nat.lt_or_ge ((i + j) / 2) m with q | q
    ·have h1:=(List.pairwise_iff_getElem.1 hs) ((i + j) / 2) m hm (List.getElem?_eq_some_iff.1 hmx).1 q
     rw [(List.getElem?_eq_some_iff.1 hmx).2] at h1
     exact hc2 (XX h1 hlt)
    ·rw [show m=(i + j) / 2 by omega,hx] at hmx
     cases hmx
     exact hc2 hlt
  ·have hij:i=j:=by
    have:¬ i < j:=by simpa using hc
    omega
   subst hij
   rw [y6]
   exact ⟨i,rfl,g2,g3,g4⟩
 ·rintro _ ⟨i,rfl,h1,h2,h3⟩
  have J2:(∀ x,l[i]?=some x → x ≠ w) → Ret (Zf l w (i:Int)) fun r=>r=z5H w l:=by
   intro hne
   have h4:∀ m x,i ≤ m → l[m]?=some x → XY w x < 0:=by
    intro m x hm hx
    have hil:i < l.length:=by have:=(List.getElem?_eq_some_iff.1 hx).1; omega
    have hxi:l[i]?=some l[i]:=List.getElem?_eq_getElem hil
    have hlt:XY w l[i] < 0:=by
     rcases zd4.1 (h3 i _ (Nat.le_refl _) hxi) with q | q
     ·exact q
     ·exact absurd q (hne _ hxi)
    rcases Nat.lt_or_ge i m with q | q
    ·have h5:=(List.pairwise_iff_getElem.1 hs) i m hil (List.getElem?_eq_some_iff.1 hx).1 q
     rw [(List.getElem?_eq_some_iff.1 hx).2] at h5
     exact XX hlt h5
    ·rw [show m=i by omega,hxi] at hx
     cases hx
     exact hlt
   unfold Zf
   rw [gdT (by simp; omega),qU]
   have hlen:w64 ((((l ++ ([[]]:List (List Int))).length:Nat):Int) - 1)=((l.length:Nat):Int):=by
    rw [List.length_append,List.length_singleton,xp (by omega) (by omega)]; omega
   rw [hlen]
   refine Ret.mono (qS (fun q:List (List Int) × Int=>∃ (j:Nat) (x:List Int),q=(l.take j ++ x :: l.drop j,(j:Int)) ∧ i ≤ j ∧ j ≤ l.length) (fun q=>q.2.toNat) (R:=fun t=>∃ x:List Int,t=l.take i ++ x :: l.drop i) ⟨l.length,[],by simp,h1,Nat.le_refl _⟩ (by simp only [Int.toNat_natCast]; omega) ?_) ?_
   ·rintro _ ⟨j,x,rfl,g1,g2⟩
    show Ret (YZ (i:Int) (l.take j ++ x :: l.drop j) (j:Int)) _
    unfold YZ
    rw [vz]
    refine ⟨fun hc=>?_,fun hc=>?_⟩
    ·have hij:i < j:=by simpa using hc
     have hA:(l.take j).length=j:=by rw [List.length_take]; omega
     have hy:(l.take j ++ x :: l.drop j)[j - 1]?=some l[j - 1]:=by
      rw [List.getElem?_append_left (by omega),List.getElem?_take,if_pos (by omega)]; exact List.getElem?_eq_getElem (by omega)
     have hz:(l.take j ++ x :: l.drop j)[j]?=some x:=by
      rw [List.getElem?_append_right (by omega),hA]; simp
     rw [xp (by omega) (by omega),show (j:Int) - 1=((j - 1:Nat):Int) by omega,xI hy,xI hz]
     simp only [Option.bind_some,y6,Int.toNat_natCast]
     refine ⟨⟨j - 1,l[j - 1],?_,by omega,by omega⟩,by simp only [Int.toNat_natCast]; omega⟩
     rw [List.set_append_right _ _ (by omega),hA,Nat.sub_self,List.set_cons_zero]
     have e1:l.take j=l.take (j - 1) ++ [l[j - 1]]:=by
      have:=List.take_add_one (l:=l) (i:=j - 1)
      rw [show j - 1 + 1=j by omega,List.getElem?_eq_getElem (by omega)] at this
      exact this
     have e2:l.drop (j - 1)=l[j - 1] :: l.drop j:=by
      rw [List.drop_eq_getElem_cons (by omega),show j - 1 + 1=j by omega]
     rw [e2,e1,List.append_assoc]
     rfl
    ·have hij:j=i:=by
      have:¬ i < j:=by simpa using hc
      omega
     subst hij
     rw [y6]
     exact ⟨x,rfl⟩
   ·rintro _ ⟨x,rfl⟩
    unfold Vs
    have hA:(l.take i).length=i:=by rw [List.length_take]; omega
    have hz:(l.take i ++ x :: l.drop i)[i]?=some x:=by
     rw [List.getElem?_append_right (by omega),hA]; simp
    rw [gdT (by simpa using hww),xI hz]
    simp only [Option.bind_some,y6,Int.toNat_natCast]
    rw [List.set_append_right _ _ (by omega),hA,Nat.sub_self,List.set_cons_zero]
    exact zbP hs h1 h2 h4
  unfold Vt
  rw [vz]
  refine ⟨fun hc=>?_,fun hc=>?_⟩
  ·have hi:i < l.length:=by simpa using hc
   have hx:l[i]?=some l[i]:=List.getElem?_eq_getElem hi
   rw [xI hx]
   simp only [Option.bind_some]
   rw [z4p _ _ (fun _=>hw _ (List.getElem_mem hi))]
   simp only [Option.bind_some]
   by_cases he:l[i]=w
   ·have hb:(XY l[i] w == 0)=true:=by rw [he,z0V]; rfl
    rw [hb,cond_true,y6]
    refine SW.unique hs hs.put fun x=>?_
    rw [z0Q]
    refine ⟨fun q=>.inr q,fun q=>?_⟩
    rcases q with rfl | q
    ·exact he ▸ List.getElem_mem hi
    ·exact q
   ·have hb:(XY l[i] w == 0)=false:=by simp; exact fun q=>he (z6N q)
    rw [hb,cond_false]
    exact J2 fun x hx2=>by rw [hx] at hx2; cases hx2; exact he
  ·have hi:¬ i < l.length:=by simpa using hc
   exact J2 fun x hx2=>by have:=(List.getElem?_eq_some_iff.1 hx2).1; omega
theorem z9D (hl:l.length ≤ 1000000) (hw:∀ x ∈ l,x.length ≤ 4294967296):XT l=some (srt l):=by
 unfold XT
 have h:=zft (step:=fun s=>vb l s.1 s.2) (fun i=>(srt (l.take i),(i:Int))) l.length (t:=srt l) (by omega) (by
  intro i hi
  show vb l _ (i:Int)=_
  unfold vb
  have hq:decide ((i:Int) < (l.length:Int))=true:=by simpa using hi
  have hx:l[i]?=some l[i]:=List.getElem?_eq_getElem hi
  simp only [hq,cond_true,xI hx,Option.bind_some]
  have hlen:(srt (l.take i)).length ≤ 1000000:=by have:=z8N (l.take i); rw [List.length_take] at this; omega
  rw [zkA (zbi _) hlen (fun x hx=>by have:=hw x (List.mem_of_mem_take (z90.1 hx)); omega) (hw _ (List.getElem_mem hi))]
  simp only [Option.bind_some]
  rw [xp (by omega) (by omega),← zeC,List.take_add_one,hx]
  rfl) (by
  show vb l _ (l.length:Int)=_
  unfold vb
  simp)
 have h0:(srt (l.take 0),((0:Nat):Int))=(([]:List (List Int)),(0:Int)):=by simp [srt]
 rw [h0] at h
 rw [bdT h]
 rfl
theorem zf9 (a b:List (List Int)) (hl:a.length < 4611686018427387904) (hw:∀ x ∈ a,x.length < 4611686018427387904):XU a b=some (decide (a=b)):=by
 unfold XU
 by_cases he:a.length=b.length
 ·have hb:(((a.length:Nat):Int) != ((b.length:Nat):Int))=false:=by simp; omega
  simp only [hb,cond_false]
  rw [bdT (uz a hl (step:=fun s=>qW a b s) (fun i x=>if b[i]?=some x then none else some false) ?_ ?_)]
  ·cases hf:xh (fun i x=>if b[i]?=some x then none else some false) a 0 with
   | some r=>
    obtain ⟨i,x,h1,h2⟩:=Z8 hf
    rw [Nat.zero_add] at h2
    split at h2
    ·cases h2
    ·rename_i h3
     have:a ≠ b:=fun e=>h3 (by rw [← e]; exact h1)
     cases h2
     simp [oS,this]
   | none=>
    have hab:a=b:=by
     refine List.ext_getElem? fun i=>?_
     rcases Nat.lt_or_ge i a.length with q | q
     ·have hx:a[i]?=some a[i]:=List.getElem?_eq_getElem q
      have:=ZN hf i _ hx
      rw [Nat.zero_add] at this
      split at this
      ·rename_i h3; rw [h3,hx]
      ·cases this
     ·rw [List.getElem?_eq_none q,List.getElem?_eq_none (by omega)]
    simp [oS,XA,hab]
  ·intro i x hx
   have hi:i < a.length:=(List.getElem?_eq_some_iff.1 hx).1
   have hq:decide ((i:Int) < (a.length:Int))=true:=by simpa using hi
   have hy:b[i]?=some b[i]:=List.getElem?_eq_getElem (by omega)
   have hxm:x ∈ a:=(List.getElem?_eq_some_iff.1 hx).2 ▸ List.getElem_mem hi
   unfold qW
   simp only [hq,cond_true,xI hx,xI hy,Option.bind_some,z4p x b[i] (fun _=>hw x hxm),hy]
   by_cases h:b[i]=x
   ·rw [if_pos (by rw [h]),h,z0V]; rfl
   ·have:(XY x b[i] != 0)=true:=by simp; exact fun q=>h (z6N q).symm
    rw [this,if_neg (by simpa using h)]
    rfl
  ·unfold qW; simp
 ·have hb:(((a.length:Nat):Int) != ((b.length:Nat):Int))=true:=by simp; omega
  have:a ≠ b:=fun e=>he (by rw [e])
  simp [hb,this]
theorem zbb {m:Nat} {L:Nat} (hl:l.length ≤ L) (h:∀ w ∈ l,w.length ≤ m):z5h l ≤ L * m:=Nat.le_trans (zbc h) (Nat.mul_le_mul_right _ hl)
def Wq (n:Int) (L k:Nat) (l:List (List Int)):Prop:=SW l ∧ l.length ≤ L ∧ ∀ w ∈ l,w.length ≤ k ∧ ∀ c ∈ w,0 ≤ c ∧ c < n
variable {L k:Nat}
theorem Wq.ch (h:Wq n L k l) (hn:1 ≤ n ∧ n ≤ 16) (hL:L ≤ 4096) (hk:k ≤ 256) (hLk:L * k ≤ 65536):chE n l=0:=by
 obtain ⟨h1,h2,h3⟩:=h
 refine zg7.2 ⟨z9I.2 ⟨hn,by omega,fun w hw=>⟨by have:=(h3 w hw).1; omega,(h3 w hw).2⟩⟩,h1,?_⟩
 exact Nat.le_trans (zbb h2 fun w hw=>(h3 w hw).1) hLk
variable {x:yN}
theorem zgm {x:yN} (h:0 ≤ x.Inputs ∧ x.Inputs ≤ 255):∃ n:Int,wm x=some n ∧ 1 ≤ n ∧ n ≤ 3:=by
 unfold wm
 rw [gdT (by omega)]
 have e:Int.tmod x.Inputs 3=x.Inputs % 3:=Int.tmod_eq_emod_of_nonneg h.1
 refine ⟨_,rfl,?_,?_⟩
 ·rw [e,xp (x:=x.Inputs % 3) (by omega) (by omega),xp (by omega) (by omega)]; omega
 ·rw [e,xp (x:=x.Inputs % 3) (by omega) (by omega),xp (by omega) (by omega)]; omega
theorem zf8 {x:yN}  (hn:wm x=some n) (h1:1 ≤ n ∧ n ≤ 3) (hw:∀ w ∈ x.Words,∀ c ∈ w,0 ≤ c ∧ c ≤ 255)  (hi:i < x.Words.length) :
  Ret (loop (fun s=>uH x (i:Int) s.1 s.2) (([]:List Int),0)) fun w=>w.length ≤ 12 ∧ ∀ c ∈ w,0 ≤ c ∧ c < n:=by
 refine qS (fun q=>∃ k:Nat,q.2=(k:Int) ∧ q.1.length=k ∧ k ≤ 12 ∧ ∀ c ∈ q.1,0 ≤ c ∧ c < n) (fun q=>12 - q.2.toNat) ⟨0,rfl,rfl,by omega,by simp⟩ (by show 12 - _ < _; omega) ?_
 rintro ⟨w,_⟩ ⟨k,rfl,g1,g2,g3⟩
 simp only at g1 g3
 show Ret (uH x (i:Int) w (k:Int)) _
 unfold uH
 have hx:x.Words[i]?=some x.Words[i]:=List.getElem?_eq_getElem hi
 rw [xI hx,Option.bind_some,vz]
 have fin:w.length ≤ 12 ∧ ∀ c ∈ w,0 ≤ c ∧ c < n:=⟨by omega,g3⟩
 refine ⟨fun hc=>?_,fun hc=>y6.2 fin⟩
 rw [vz]
 refine ⟨fun hc2=>?_,fun hc2=>y6.2 fin⟩
 have hk:k < x.Words[i].length:=by simpa using hc
 have hk2:k < 12:=by simp only [decide_eq_true_eq] at hc2; omega
 have hy:(x.Words[i])[k]?=some (x.Words[i])[k]:=List.getElem?_eq_getElem hk
 obtain ⟨b1,b2⟩:=hw _ (List.getElem_mem hi) _ (List.getElem_mem hk)
 rw [Option.bind_some,xI hy,Option.bind_some,hn,Option.bind_some,gdT (by omega),gdT (by simp; omega),xp (x:=(k:Int) + 1) (by omega) (by omega),y6]
 refine ⟨⟨k + 1,rfl,by simp [g1],by omega,fun c hc=>?_⟩,by simp only; omega⟩
 rcases List.mem_append.1 hc with q | q
 ·exact g3 c q
 ·simp at q
  subst q
  rw [xp (by omega) (by omega),Int.tmod_eq_emod_of_nonneg b1]
  exact ⟨Int.emod_nonneg _ (by omega),Int.emod_lt_of_pos _ (by omega)⟩
theorem zie (hn:wm x=some n) (h1:1 ≤ n ∧ n ≤ 3) (hw:∀ w ∈ x.Words,∀ c ∈ w,0 ≤ c ∧ c ≤ 255):Ret (Uu x) (Wq n 40 12):=by
 have hraw:Ret (WD x) fun r=>r.length ≤ 40 ∧ ∀ w ∈ r,w.length ≤ 12 ∧ ∀ c ∈ w,0 ≤ c ∧ c < n:=by
  unfold WD
  rw [qU]
  refine Ret.mono (qS (fun q=>∃ k:Nat,q.2=(k:Int) ∧ q.1.length=k ∧ k ≤ 40 ∧ ∀ w ∈ q.1,w.length ≤ 12 ∧ ∀ c ∈ w,0 ≤ c ∧ c < n) (fun q=>40 - q.2.toNat) (R:=fun r:List (List Int)=>r.length ≤ 40 ∧ ∀ w ∈ r,w.length ≤ 12 ∧ ∀ c ∈ w,0 ≤ c ∧ c < n) ⟨0,rfl,rfl,by omega,by simp⟩ (by show 40 - _ < _; omega) ?_) fun r hr=>y6.2 hr
  rintro ⟨out,_⟩ ⟨k,rfl,g1,g2,g3⟩
  simp only at g1 g3
  show Ret (jV x out (k:Int)) _
  unfold jV
  have fin:out.length ≤ 40 ∧ ∀ w ∈ out,w.length ≤ 12 ∧ ∀ c ∈ w,0 ≤ c ∧ c < n:=⟨by omega,g3⟩
  rw [vz]
  refine ⟨fun hc=>?_,fun hc=>y6.2 fin⟩
  rw [vz]
  refine ⟨fun hc2=>?_,fun hc2=>y6.2 fin⟩
  have hk:k < x.Words.length:=by simpa using hc
  have hk2:k < 40:=by simp only [decide_eq_true_eq] at hc2; omega
  rw [qU]
  refine (zf8 hn h1 hw hk).mono fun w hww=>?_
  unfold YR YS
  rw [gdT (by simp; omega),xp (by omega) (by omega),y6]
  refine ⟨⟨k + 1,rfl,by simp [g1],by omega,fun v hv=>?_⟩,by simp only; omega⟩
  rcases List.mem_append.1 hv with q | q
  ·exact g3 v q
  ·simp at q
   subst q
   exact hww
 unfold Uu
 rw [qU]
 refine hraw.mono fun r hr=>?_
 rw [z9D (by omega) (fun w hw=>by have:=(hr.2 w hw).1; omega),Option.bind_some,y6]
 exact ⟨zbi _,Nat.le_trans (z8N _) hr.1,fun w hw=>hr.2 w (z90.1 hw)⟩
theorem z8Y {l:List Int} (h:∀ c ∈ l,0 ≤ c):(l.map Int.toNat).map Int.ofNat=l:=by
 rw [List.map_map]
 conv=>rhs; rw [← List.map_id l]
 exact List.map_congr_left fun c hc=>by have:=h c hc; show ((c.toNat:Nat):Int)=c; omega
def zfh (l:List (List Int)):List (List Nat):=l.map (List.map Int.toNat)
theorem zi7 (h:Wq n L k l):(zfh l).map (List.map Int.ofNat)=l:=by
 unfold zfh
 rw [List.map_map]
 conv=>rhs; rw [← List.map_id l]
 exact List.map_congr_left fun w hw=>z8Y fun c hc=>((h.2.2 w hw).2 c hc).1
variable {m:z6}
theorem zi6 (v:VM m)   (h:Wq m.Inputs L k l):(∀ w ∈ zfh l,Wd (kk m) w) ∧ (zfh l).length=l.length ∧ ∀ w ∈ zfh l,w.length ≤ k:=by
 refine ⟨fun w hw i hi=>?_,by simp [zfh],fun w hw=>?_⟩
 ·obtain ⟨u,hu,rfl⟩:=List.mem_map.1 hw
  obtain ⟨c,hc,rfl⟩:=List.mem_map.1 hi
  have:=(h.2.2 u hu).2 c hc
  have:=v.kk_eq
  omega
 ·obtain ⟨u,hu,rfl⟩:=List.mem_map.1 hw
  rw [List.length_map]
  exact (h.2.2 u hu).1
section
variable {m:z6} (h:VM m)
include h
theorem zkN {s:Int} (hs:zaS m s) (v:List Nat) (hv:Wd (kk m) v) (hl:v.length ≤ 1000):Ret (Zi m s (v.map Int.ofNat)) fun o=>o.1=rsp m s v:=by
 have hN:=h.len64
 have hw:∀ k:Nat,k ≤ 1000 → w64 ((k:Int) + 1)=((k + 1:Nat):Int):=fun k hk=>by rw [xp (by omega) (by omega)]; rfl
 unfold Zi
 rw [zbH]
 refine ⟨by simp only [List.length_map]; omega,?_⟩
 rw [qU]
 refine Ret.mono (Q:=fun o=>o.2=rsp m s v) ?_ fun o ho=>?_
 ·refine qS (fun q=>∃ (i:Nat),q.2.2=(i:Int) ∧ i ≤ v.length ∧ zaS m q.1 ∧ aft m s (v.take i)=q.1 ∧ q.2.1=rsp m s (v.take i) ++ List.replicate (v.length - i) 0) (fun q=>2000 - q.2.2.toNat) ⟨0,rfl,Nat.zero_le _,hs,rfl,by simp [rsp]⟩ (by simp) ?_
  rintro ⟨st,out,q⟩ ⟨i,e2,hi,ht,ha,e3⟩
  simp only at ht ha e2 e3
  subst e2; subst e3
  unfold ZG ul
  rw [vz]
  refine ⟨fun c=>?_,fun c=>?_⟩
  ·have hi':i < v.length:=by simpa using c
   have hx:v[i]?=some v[i]:=List.getElem?_eq_getElem hi'
   have hxk:v[i] < kk m:=hv _ (List.getElem_mem hi')
   have hgx:(v.map Int.ofNat)[i]?=some ((v[i]:Nat):Int):=by rw [List.getElem?_map,hx]; rfl
   have hrl:(rsp m s (v.take i)).length=i:=by rw [z6u,List.length_take]; omega
   have hrep:List.replicate (v.length - i) (0:Int)=0 :: List.replicate (v.length - (i + 1)) 0:=by rw [show v.length - i=(v.length - (i + 1)) + 1 by omega]; rfl
   have htk:v.take (i + 1)=v.take i ++ [v[i]]:=by rw [List.take_add_one,hx]; rfl
   obtain ⟨r1,r2⟩:=z9y m (v.take i) s v[i]
   have hnx:=zou h ht hxk
   have hg:(rsp m s (v.take i) ++ List.replicate (v.length - i) 0)[i]?=some (0:Int):=by
    rw [hrep,List.getElem?_append_right (by omega),hrl]
    simp
   have fin:Ret (wM (rsp m s (v.take i) ++ List.replicate (v.length - i) 0) (i:Int) (nxE m st v[i]).To (nxE m st v[i]).Out) (LRP (fun q'=>(∃ (i:Nat),q'.2.2=(i:Int) ∧ i ≤ v.length ∧ zaS m q'.1 ∧ aft m s (v.take i)=q'.1 ∧ q'.2.1=rsp m s (v.take i) ++ List.replicate (v.length - i) 0) ∧ 2000 - q'.2.2.toNat < 2000 - ((i:Int)).toNat) fun o=>o.2=rsp m s v):=by
    unfold wM
    rw [uW,bdT hg,hw i (by omega)]
    refine y6.2 ⟨⟨i + 1,rfl,hi',hnx,?_,?_⟩,by simp only [Int.toNat_natCast]; omega⟩
    ·rw [htk,r2,ha]
    ·simp only [Int.toNat_natCast]
     rw [htk,r1,ha,hrep,List.set_append,if_neg (by omega),hrl,Nat.sub_self]
     simp
   rw [uW,bdT hgx,Option.bind_some,vz]
   refine ⟨fun c2=>?_,fun c2=>?_⟩
   ·have hst:0 ≤ st:=by
     have h1:st ≠ -1:=by simpa using c2
     have:=ht.1
     omega
    have hlt:st.toNat < m.Rows.length:=by have:=ht.2; omega
    have he:=h.edge_eq hlt hxk (f:=fun e=>wM (rsp m s (v.take i) ++ List.replicate (v.length - i) 0) (i:Int) e.To e.Out)
    rw [show ((st.toNat:Nat):Int)=st by omega] at he
    rw [he]
    have:nxE m st v[i]=E m st.toNat v[i]:=by unfold nxE; rw [if_neg (by omega)]
    rw [← this]
    exact fin
   ·have h1:st=-1:=by simpa using c2
    have:nxE m st v[i]=⟨-1,-1⟩:=by unfold nxE; rw [if_pos (by omega)]
    rw [this] at fin
    exact fin
  ·have hi':i=v.length:=by
    have:¬ i < v.length:=by simpa using c
    omega
   subst hi'
   refine y6.2 ?_
   show rsp m s (v.take v.length) ++ List.replicate (v.length - v.length) 0=rsp m s v
   simp
 ·unfold ZH
  exact y6.2 ho
theorem zme (v:List Nat) (hv:Wd (kk m) v) (hl:v.length ≤ 256):Zj m 0 (v.map Int.ofNat)=some (rsp m 0 v,0):=by
 have hN:=h.len64
 have h1:=h.len1
 obtain ⟨o,e,e1⟩:=zkN h (s:=0) ⟨by omega,by omega⟩ v hv (by omega)
 have hst:uG m 0=some 0:=by
  unfold uG
  rw [bdT (za2 m),zgN h,show ((0:Int) != 0)=false from rfl,cond_false,decide_eq_false (by omega),cond_false,decide_eq_false (by omega),cond_false]
 have hck:u4 (v.map Int.ofNat) m.Inputs=some 0:=by
  rw [z7l,if_neg (by have:=h.in16; omega),if_neg (by simp only [List.length_map]; omega),if_neg (by have:=h.in1; omega)]
  have:wE m.Inputs (v.map Int.ofNat)=0:=z8D.2 ⟨by simp only [List.length_map]; omega,fun c hc=>by
   obtain ⟨i,hi,rfl⟩:=List.mem_map.1 hc
   have:=hv i hi
   have:=h.kk_eq
   exact ⟨Int.natCast_nonneg _,by show ((i:Nat):Int) < _; omega⟩⟩
  rw [this]
 unfold Zj
 rw [bdT hst,show ((0:Int) != 0)=false from rfl,cond_false,bdT hck,show ((0:Int) != 0)=false from rfl,cond_false,bdT e,e1]
end
def agB (a b:z6) (L:List (List Nat)):Bool:=L.all fun w=>decide (rsp a 0 w=rsp b 0 w)
theorem z4l (p:α → Bool) {β:Type} (r:β):∀ (l:List α) (k:Nat),xh (fun _ x=>if p x=true then none else some r) l k=if l.all p=true then none else some r
 | [],k=>rfl
 | x :: l,k=>by
  have ih:=z4l p r l (k + 1)
  cases hx:p x with
  | true=>simp [xh,hx,ih]
  | false=>simp [xh,hx]
section
variable {a b:z6} (ha:VM a) (hb:VM b) (hab:a.Inputs=b.Inputs) {L:List (List Nat)} (hL:L.length ≤ 5000) (hw:∀ w ∈ L,Wd (kk a) w ∧ w.length ≤ 256)
include ha hb hab hL hw
theorem zbX (hck:u6 (L.map (List.map Int.ofNat)) a.Inputs=some 0):YV a b (L.map (List.map Int.ofNat))=some (agB a b L,0):=by
 have hk:kk a=kk b:=zcx hab
 have l1:loop (fun s=>wG a b s) 0=some (.inl ()):=by
  rw [uz [a,b] (by simp) (step:=fun s=>wG a b s) (fun _ _=>none) ?_ ?_,WH (fun _ _ _=>rfl)]
  ·rfl
  ·intro i x hx
   have hi:=(List.getElem?_eq_some_iff.1 hx).1
   simp only [List.length_cons,List.length_nil] at hi
   have hv:VM x:=by
    match i,hi,hx with
    | 0,_,hx=>cases hx; exact ha
    | 1,_,hx=>cases hx; exact hb
   unfold wG
   rw [decide_eq_true (by simp only [List.length_cons,List.length_nil]; omega),cond_true,uW,bdT hx,bdT (za2 x),zgN hv,show ((0:Int) != 0)=false from rfl,cond_false]
   simp [nS]
  ·unfold wG
   rw [decide_eq_false (by simp),cond_false]
 have l2:loop (fun s=>wH a b (L.map (List.map Int.ofNat)) s) 0=some (oS (if agB a b L=true then none else some (false,0))):=by
  have e0:=z4l (fun w:List Int=>decide (rsp a 0 (w.map Int.toNat)=rsp b 0 (w.map Int.toNat))) ((false,0):Bool × Int) (L.map (List.map Int.ofNat)) 0
  have e1:(L.map (List.map Int.ofNat)).all (fun w:List Int=>decide (rsp a 0 (w.map Int.toNat)=rsp b 0 (w.map Int.toNat)))=agB a b L:=by
   unfold agB
   rw [List.all_map]
   congr 1
   funext w
   have:(List.map Int.ofNat w).map Int.toNat=w:=by rw [List.map_map]; exact (List.map_congr_left (g:=id) fun c _=>rfl).trans (List.map_id w)
   simp only [Function.comp,this]
  rw [e1] at e0
  rw [← e0]
  refine uz _ (by simp; omega) (step:=fun s=>wH a b (L.map (List.map Int.ofNat)) s) _ ?_ ?_
  ·intro i x hx
   have hi:=(List.getElem?_eq_some_iff.1 hx).1
   rw [List.getElem?_map] at hx
   obtain ⟨w,hw1,rfl⟩:=Option.map_eq_some_iff.1 hx
   obtain ⟨d1,d2⟩:=hw w (List.mem_of_getElem? hw1)
   have hx':(L.map (List.map Int.ofNat))[i]?=some (w.map Int.ofNat):=by rw [List.getElem?_map,hw1]; rfl
   have hmm:(List.map Int.ofNat w).map Int.toNat=w:=by rw [List.map_map]; exact (List.map_congr_left (g:=id) fun c _=>rfl).trans (List.map_id w)
   unfold wH
   rw [decide_eq_true (by omega),cond_true,uW,bdT hx',bdT (zme ha w d1 d2),bdT (zme hb w (by rw [← hk]; exact d1) d2),
    bdT (zcZ _ _ (by rw [z6u]; omega))]
   simp only [hmm]
   by_cases e:rsp a 0 w=rsp b 0 w
   ·simp [e,nS]
   ·simp [e,nS]
  ·unfold wH
   rw [decide_eq_false (by simp),cond_false]
 unfold YV
 rw [bdT l1]
 show qt a b (L.map (List.map Int.ofNat))=_
 unfold qt
 rw [← hab,show (a.Inputs != a.Inputs)=false by simp,cond_false,bdT hck,show ((0:Int) != 0)=false from rfl,cond_false,bdT l2]
 cases agB a b L
 ·rfl
 ·rfl
theorem zbL:Wv a b (L.map (List.map Int.ofNat))=some (agB a b L):=by
 have hk:kk a=kk b:=zcx hab
 have la:=ha.len1
 have lb:=hb.len1
 have l2:loop (fun s=>vA a b (L.map (List.map Int.ofNat)) s) 0=some (oS (if agB a b L=true then none else some false)):=by
  have e0:=z4l (fun w:List Int=>decide (rsp a 0 (w.map Int.toNat)=rsp b 0 (w.map Int.toNat))) false (L.map (List.map Int.ofNat)) 0
  have e1:(L.map (List.map Int.ofNat)).all (fun w:List Int=>decide (rsp a 0 (w.map Int.toNat)=rsp b 0 (w.map Int.toNat)))=agB a b L:=by
   unfold agB
   rw [List.all_map]
   congr 1
   funext w
   have:(List.map Int.ofNat w).map Int.toNat=w:=by rw [List.map_map]; exact (List.map_congr_left (g:=id) fun c _=>rfl).trans (List.map_id w)
   simp only [Function.comp,this]
  rw [e1] at e0
  rw [← e0]
  refine uz _ (by simp; omega) (step:=fun s=>vA a b (L.map (List.map Int.ofNat)) s) _ ?_ ?_
  ·intro i x hx
   have hi:=(List.getElem?_eq_some_iff.1 hx).1
   rw [List.getElem?_map] at hx
   obtain ⟨w,hw1,rfl⟩:=Option.map_eq_some_iff.1 hx
   obtain ⟨d1,d2⟩:=hw w (List.mem_of_getElem? hw1)
   have hx':(L.map (List.map Int.ofNat))[i]?=some (w.map Int.ofNat):=by rw [List.getElem?_map,hw1]; rfl
   have hmm:(List.map Int.ofNat w).map Int.toNat=w:=by rw [List.map_map]; exact (List.map_congr_left (g:=id) fun c _=>rfl).trans (List.map_id w)
   unfold vA
   rw [decide_eq_true (by omega),cond_true,uW,bdT hx',bdT (zgx ha ⟨by omega,by omega⟩ w d1 (by omega)),bdT hx',bdT (zgx hb ⟨by omega,by omega⟩ w (by rw [← hk]; exact d1) (by omega)),
    bdT (zf9 _ _ (by simp) (by intro x hx; rw [List.mem_singleton.1 hx,z6u]; omega))]
   simp only [hmm]
   by_cases e:rsp a 0 w=rsp b 0 w
   ·simp [e,nS]
   ·simp [e,nS]
  ·unfold vA
   rw [decide_eq_false (by simp),cond_false]
 unfold Wv
 rw [bdT l2]
 cases agB a b L
 ·rfl
 ·rfl
end
def zoV (y:yG):Prop:=(∀ c ∈ y.Copies,0 ≤ c ∧ c ≤ 255) ∧ ∀ c ∈ y.Changes,(0 ≤ c.e0 ∧ c.e0 ≤ 255) ∧ (0 ≤ c.e1 ∧ c.e1 ≤ 255) ∧ (0 ≤ c.e2 ∧ c.e2 ≤ 255) ∧ (0 ≤ c.e3 ∧ c.e3 ≤ 255)
def z2s (m:z6) (L:Nat) (rows:List (List z8)):Prop:=∀ r ∈ rows,(r.length:Int)=m.Inputs ∧ ∀ x ∈ r,(x.To=-1 ∧ x.Out=-1) ∨ (0 ≤ x.To ∧ x.To < (L:Int) ∧ 0 ≤ x.Out ∧ x.Out < m.Outputs)
theorem z3C {a b:Int} (ha:0 ≤ a) (hb:1 ≤ b):0 ≤ Int.tmod a b ∧ Int.tmod a b < b:=by
 rw [Int.tmod_eq_emod_of_nonneg ha]
 exact ⟨Int.emod_nonneg _ (by omega),Int.emod_lt_of_pos _ (by omega)⟩
theorem zdI (h:VM m):Ret (loop (fun s=>qY m s.1 s.2) (([]:List (List z8)),0)) fun r=>r=m.Rows:=by
 have h64:=h.len64
 refine qS (fun q=>∃ j:Nat,q.2=(j:Int) ∧ j ≤ m.Rows.length ∧ q.1=m.Rows.take j) (fun q=>1000 - q.2.toNat) ⟨0,rfl,Nat.zero_le _,by simp⟩ (by show 1000 - _ < _; omega) ?_
 rintro ⟨rows,_⟩ ⟨j,rfl,hj,e⟩
 simp only at e
 subst e
 show Ret (qY m (m.Rows.take j) (j:Int)) _
 unfold qY
 rw [vz]
 refine ⟨fun c=>?_,fun c=>y6.2 ?_⟩
 ·have hlt:j < m.Rows.length:=by simpa using c
  obtain ⟨r,hr,hl,_⟩:=h.rowAt hlt
  have:=h.kk_le
  rw [uW,bdT hr,gdT (by simp only [List.length_nil]; omega),gdT (by simp only [List.length_take,List.length_cons,List.length_nil]; omega),y6,xp (by omega) (by omega)]
  refine ⟨⟨j + 1,rfl,hlt,?_⟩,by simp only; omega⟩
  rw [List.take_add_one,hr]
  rfl
 ·have:¬ j < m.Rows.length:=by simpa using c
  exact List.take_of_length_le (by omega)
variable {y:yG}
theorem zdH (h:VM m)  (hy:zoV y):Ret (loop (fun s=>qZ y m s.1 s.2) (m.Rows,0)) fun r=>z2s m m.Rows.length r ∧ m.Rows.length ≤ r.length ∧ r.length ≤ m.Rows.length + 2:=by
 have h64:=h.len64
 have h1:=h.len1
 refine qS (fun q=>∃ j:Nat,q.2=(j:Int) ∧ j ≤ 2 ∧ z2s m m.Rows.length q.1 ∧ q.1.length=m.Rows.length + j) (fun q=>1000 - q.2.toNat) ⟨0,rfl,by omega,fun r hr=>⟨h.row r hr,h.edge r hr⟩,rfl⟩ (by show 1000 - _ < _; omega) ?_
 rintro ⟨rows,_⟩ ⟨j,rfl,hj,e1,e2⟩
 simp only at e1 e2
 show Ret (qZ y m rows (j:Int)) _
 unfold qZ
 have fin:z2s m m.Rows.length rows ∧ m.Rows.length ≤ rows.length ∧ rows.length ≤ m.Rows.length + 2:=⟨e1,by omega,by omega⟩
 rw [vz]
 refine ⟨fun c=>?_,fun c=>y6.2 fin⟩
 rw [vz]
 refine ⟨fun c2=>?_,fun c2=>y6.2 fin⟩
 have hlt:j < y.Copies.length:=by simpa using c
 have hj2:j < 2:=by simp only [decide_eq_true_eq] at c2; omega
 have hx:y.Copies[j]?=some y.Copies[j]:=List.getElem?_eq_getElem hlt
 obtain ⟨b1,b2⟩:=hy.1 _ (List.getElem_mem hlt)
 have ht:=z3C (a:=y.Copies[j]) (b:=((m.Rows.length:Nat):Int)) b1 (by omega)
 have hs:(Int.tmod y.Copies[j] ((m.Rows.length:Nat):Int)).toNat < m.Rows.length:=by omega
 obtain ⟨r,hr,hl,_⟩:=h.rowAt hs
 have:=h.kk_le
 rw [uW,bdT hx,gdT (by omega),xp (x:=y.Copies[j]) (by omega) (by omega),show Int.tmod y.Copies[j] ((m.Rows.length:Nat):Int)=(((Int.tmod y.Copies[j] ((m.Rows.length:Nat):Int)).toNat:Nat):Int) by omega,
  uW,bdT hr,gdT (by simp only [List.length_nil]; omega),gdT (by simp only [List.length_cons,List.length_nil]; omega),y6,xp (by omega) (by omega)]
 refine ⟨⟨j + 1,rfl,hj2,?_,by simp only [List.length_append,List.length_cons,List.length_nil]; omega⟩,by simp only; omega⟩
 intro q hq
 rcases List.mem_append.1 hq with g | g
 ·exact e1 q g
 ·rw [List.mem_singleton.1 g]
  have hm:=List.mem_of_getElem? hr
  exact ⟨h.row r hm,h.edge r hm⟩
theorem zad (h:VM m)  (hy:zoV y) {rows:List (List z8)} {L:Nat} (hL:rows.length=L) (h1:1 ≤ L) (h2:L ≤ 64) (hr:z2s m L rows):Ret (loop (fun s=>jA y m s.1 s.2) (rows,0)) fun r=>z2s m L r ∧ r.length=L:=by
 have o1:=h.out1
 have o2:=h.out16
 have i1:=h.in1
 have i2:=h.in16
 refine qS (fun q=>∃ j:Nat,q.2=(j:Int) ∧ j ≤ 40 ∧ z2s m L q.1 ∧ q.1.length=L) (fun q=>1000 - q.2.toNat) ⟨0,rfl,by omega,hr,hL⟩ (by show 1000 - _ < _; omega) ?_
 rintro ⟨rows,_⟩ ⟨j,rfl,hj,e1,e2⟩
 simp only at e1 e2
 show Ret (jA y m rows (j:Int)) _
 unfold jA
 rw [vz]
 refine ⟨fun c=>?_,fun c=>y6.2 ⟨e1,e2⟩⟩
 rw [vz]
 refine ⟨fun c2=>?_,fun c2=>y6.2 ⟨e1,e2⟩⟩
 have hlt:j < y.Changes.length:=by simpa using c
 have hj2:j < 40:=by simp only [decide_eq_true_eq] at c2; omega
 have hx:y.Changes[j]?=some y.Changes[j]:=List.getElem?_eq_getElem hlt
 obtain ⟨⟨a1,a2⟩,⟨b1,b2⟩,⟨c1,c2⟩,⟨d1,d2⟩⟩:=hy.2 _ (List.getElem_mem hlt)
 generalize y.Changes[j]=ch at hx a1 a2 b1 b2 c1 c2 d1 d2
 have step:∀ (t o:Int),((t=-1 ∧ o=-1) ∨ (0 ≤ t ∧ t < (L:Int) ∧ 0 ≤ o ∧ o < m.Outputs)) → Ret (jB m rows (j:Int) ch t o) (LRP (fun q'=>(∃ j:Nat,q'.2=(j:Int) ∧ j ≤ 40 ∧ z2s m L q'.1 ∧ q'.1.length=L) ∧ 1000 - q'.2.toNat < 1000 - ((j:Int)).toNat) fun r=>z2s m L r ∧ r.length=L):=by
  intro t o hto
  unfold jB
  have ht:=z3C (a:=ch.e0) (b:=((rows.length:Nat):Int)) a1 (by omega)
  have hi:=z3C (a:=ch.e1) (b:=m.Inputs) b1 i1
  rw [gdT (by omega),xp (x:=ch.e0) (by omega) (by omega),xp (x:=ch.e1) (by omega) (by omega)]
  obtain ⟨s,hs⟩:∃ s:Nat,Int.tmod ch.e0 ((rows.length:Nat):Int)=(s:Int):=⟨_,(Int.toNat_of_nonneg ht.1).symm⟩
  obtain ⟨i,hii⟩:∃ i:Nat,Int.tmod ch.e1 m.Inputs=(i:Int):=⟨_,(Int.toNat_of_nonneg hi.1).symm⟩
  rw [hs,hii]
  have hsl:s < rows.length:=by omega
  have hrow:rows[s]?=some rows[s]:=List.getElem?_eq_getElem hsl
  obtain ⟨g1,g2⟩:=e1 _ (List.getElem_mem hsl)
  have hil:i < rows[s].length:=by omega
  have hcell:rows[s][i]?=some rows[s][i]:=List.getElem?_eq_getElem hil
  rw [uW,bdT hrow,gdT (by omega),uW,bdT hcell,y6,xp (by omega) (by omega)]
  refine ⟨⟨j + 1,rfl,hj2,?_,by simp only [List.length_set]; exact e2⟩,by simp only; omega⟩
  intro q hq
  rcases List.mem_or_eq_of_mem_set hq with g | g
  ·exact e1 q g
  ·subst g
   refine ⟨by rw [List.length_set]; exact g1,fun x hx=>?_⟩
   rcases List.mem_or_eq_of_mem_set hx with k | k
   ·exact g2 x k
   ·subst k
    exact hto
 have hto:=z3C (a:=ch.e2) (b:=((rows.length:Nat):Int)) c1 (by omega)
 have hoo:=z3C (a:=ch.e3) (b:=m.Outputs + 1) d1 (by omega)
 rw [uW,bdT hx,gdT (by omega),xp (x:=m.Outputs + 1) (by omega) (by omega),gdT (by omega),xp (x:=ch.e3) (by omega) (by omega),xp (x:=ch.e2) (by omega) (by omega),vz]
 refine ⟨fun c=>step _ _ (.inl ⟨rfl,rfl⟩),fun c=>step _ _ (.inr ?_)⟩
 have:Int.tmod ch.e3 (m.Outputs + 1) ≠ m.Outputs:=by simpa using c
 omega
theorem zh0 (h:VM m) (hN:m.Rows.length ≤ 60)  (hy:zoV y):Ret (Ut y m) fun o=>VM o ∧ o.Inputs=m.Inputs ∧ o.Outputs=m.Outputs ∧ m.Rows.length ≤ o.Rows.length ∧ o.Rows.length ≤ m.Rows.length + 2:=by
 have h1:=h.len1
 unfold Ut
 rw [qU]
 refine (zdI h).mono fun r hr=>?_
 subst hr
 unfold XE
 rw [qU]
 refine (zdH h hy).mono fun r hr=>?_
 obtain ⟨r1,r2,r3⟩:=hr
 unfold XD
 rw [qU]
 refine (zad h hy (L:=r.length) rfl (by omega) (by omega) (fun q hq=>⟨(r1 q hq).1,fun x hx=>((r1 q hq).2 x hx).imp id fun g=>⟨g.1,by omega,g.2.2⟩⟩)).mono fun o ho=>?_
 obtain ⟨o1,o2⟩:=ho
 unfold XC
 refine y6.2 ⟨⟨h.in1,h.in16,h.out1,h.out16,by simp only; omega,by simp only; omega,fun q hq=>(o1 q hq).1,fun q hq x hx=>?_⟩,rfl,rfl,by simp only; omega,by simp only; omega⟩
 have:=(o1 q hq).2 x hx
 simp only at this ⊢
 rw [o2]
 exact this
theorem z7W:Qc=some true:=by kernel_rfl
def Ok5 (a:Int):Prop:=(0) ≤ a ∧ a ≤ 255
def Ok4 (_:Bool):Prop:=True
def zpq (a:Int):Prop:=(0) ≤ a ∧ a ≤ 65535
def zqM (l:List Int):Prop:=∀ a ∈ l,zpq a
def zqJ (a:yf):Prop:=Ok5 a.States ∧ Ok5 a.Inputs ∧ Ok5 a.Outputs ∧ Ok4 a.Partial ∧ zqM a.Edges
def znV (l:List Int):Prop:=∀ a ∈ l,Ok5 a
def zpp (a:zaU Int):Prop:=Ok5 a.e0 ∧ Ok5 a.e1 ∧ Ok5 a.e2 ∧ Ok5 a.e3
def zqL (l:List (zaU Int)):Prop:=∀ a ∈ l,zpp a
def zqK (a:yG):Prop:=znV a.Copies ∧ zqL a.Changes
def zqI (l:List (List Int)):Prop:=∀ a ∈ l,znV a
def zqH (a:yN):Prop:=Ok5 a.Inputs ∧ zqI a.Words
theorem zb3 (hk:1 ≤ m.Inputs)   (hw:l[i]?=some w) (h0:∀ c ∈ w,0 ≤ c) (hl:w.length ≤ 100000) :
  Ret (loop (fun s=>xC m l (i:Int) s.1 s.2) (([]:List Int),0)) fun r=>r.length ≤ w.length ∧ ∀ c ∈ r,0 ≤ c ∧ c < m.Inputs:=by
 refine qS (fun q=>∃ j:Nat,q.2=(j:Int) ∧ j ≤ w.length ∧ q.1.length=j ∧ ∀ c ∈ q.1,0 ≤ c ∧ c < m.Inputs) (fun q=>200000 - q.2.toNat) ⟨0,rfl,Nat.zero_le _,rfl,by simp⟩ (by show 200000 - _ < _; omega) ?_
 rintro ⟨q,_⟩ ⟨j,rfl,hj,hq,hc⟩
 simp only at hq hc
 show Ret (xC m l (i:Int) q (j:Int)) _
 unfold xC
 rw [uW,bdT hw,vz]
 refine ⟨fun h1=>?_,fun h1=>y6.2 ⟨by omega,hc⟩⟩
 have hlt:j < w.length:=by simpa using h1
 have hx:w[j]?=some w[j]:=List.getElem?_eq_getElem hlt
 have hp:=h0 _ (List.getElem_mem hlt)
 rw [bdT hw,uW,bdT hx,gdT (by omega),gdT (by simp; omega),y6,xp (by omega) (by omega),Int.tmod_eq_emod_of_nonneg hp]
 refine ⟨⟨j + 1,rfl,hlt,by simp [hq],fun c hm=>?_⟩,by simp only; omega⟩
 rcases List.mem_append.1 hm with g | g
 ·exact hc c g
 ·rw [List.mem_singleton.1 g]
  exact ⟨Int.emod_nonneg _ (by omega),Int.emod_lt_of_pos _ (by omega)⟩
theorem zcr {L K:Nat}  (h:Wq n L K l) (hL:L ≤ 1000) (hK:K ≤ 1000)  (hk:1 ≤ m.Inputs) :
  Ret (loop (fun s=>xD m l s.1 s.2) (([]:List (List Int)),0)) fun r=>r.length ≤ L ∧ ∀ w ∈ r,w.length ≤ K ∧ ∀ c ∈ w,0 ≤ c ∧ c < m.Inputs:=by
 have hlen:=h.2.1
 refine qS (fun q=>∃ j:Nat,q.2=(j:Int) ∧ j ≤ l.length ∧ q.1.length=j ∧ ∀ w ∈ q.1,w.length ≤ K ∧ ∀ c ∈ w,0 ≤ c ∧ c < m.Inputs) (fun q=>2000 - q.2.toNat) ⟨0,rfl,Nat.zero_le _,rfl,by simp⟩ (by show 2000 - _ < _; omega) ?_
 rintro ⟨q,_⟩ ⟨j,rfl,hj,hq,hc⟩
 simp only at hq hc
 show Ret (xD m l q (j:Int)) _
 unfold xD
 rw [vz]
 refine ⟨fun h1=>?_,fun h1=>y6.2 ⟨by omega,hc⟩⟩
 have hlt:j < l.length:=by simpa using h1
 have hx:l[j]?=some l[j]:=List.getElem?_eq_getElem hlt
 obtain ⟨b1,b2⟩:=h.2.2 _ (List.getElem_mem hlt)
 rw [qU]
 refine (zb3 hk hx (fun c hc=>(b2 c hc).1) (by omega)).mono fun r hr=>?_
 unfold vH vI
 rw [gdT (by simp; omega),y6,xp (by omega) (by omega)]
 refine ⟨⟨j + 1,rfl,hlt,by simp [hq],fun w hm=>?_⟩,by simp only; omega⟩
 rcases List.mem_append.1 hm with g | g
 ·exact hc w g
 ·rw [List.mem_singleton.1 g]
  exact ⟨by have:=hr.1; omega,hr.2⟩
theorem zfJ {x:yf} {y:yG} {z:yN} (hx:zqJ x) (hy:zqK y) (hz:zqH z):jC x y z=some true:=by
 obtain ⟨a1,a2,a3,_,a5⟩:=hx
 obtain ⟨m,hm,v,_,hI,_,h6⟩:=zkH (x:=x) ⟨a1.1,a2.1,a3.1,a5⟩
 obtain ⟨o,ho,vo,oI,_,_,_⟩:=zh0 v (by omega) (y:=y) hy
 obtain ⟨n,hn,n1,n2⟩:=zgm hz.1
 obtain ⟨l0,hl0,wl0⟩:=zie hn ⟨n1,n2⟩ hz.2
 obtain ⟨l,hl,q1,q2⟩:=zcr wl0 (by omega) (by omega) (m:=m) v.in1
 have hm':XV (yf.mk x.States x.Inputs x.Outputs x.Partial x.Edges)=some m:=hm
 have wl:Wq m.Inputs 40 12 (srt l):=⟨zbi l,Nat.le_trans (z8N l) q1,fun w hw=>q2 w (z90.1 hw)⟩
 have hch:chE m.Inputs (srt l)=0:=wl.ch ⟨v.in1,v.in16⟩ (by omega) (by omega) (by omega)
 have hck:u6 (srt l) m.Inputs=some 0:=by rw [zba,hch]
 have hnat:=zi7 wl
 obtain ⟨r1,r2,r3⟩:=zi6 v wl
 have hlen:=wl.2.1
 have hw:∀ w ∈ zfh (srt l),Wd (kk m) w ∧ w.length ≤ 256:=fun w hw=>⟨r1 w hw,by have:=r3 w hw; omega⟩
 have e1:=zbX v vo oI.symm (L:=zfh (srt l)) (by omega) hw (by rw [hnat]; exact hck)
 have e2:=zbL v vo oI.symm (L:=zfh (srt l)) (by omega) hw
 rw [hnat] at e1 e2
 unfold jC
 rw [bdT hm',bdT ho,bdT hl0,bdT hl]
 unfold vJ
 rw [z9D (by omega) (fun w hw=>by have:=(q2 w hw).1; omega),Option.bind_some,bdT e1]
 simp only [beq_self_eq_true,cond_true]
 rw [bdT e2,z7W,Option.bind_some,beq_self_eq_true,cond_true]
def z1Y (w:World):zl:=fun b o=>y5 w.heap b o
variable {v:Value}
theorem zd9 {w:World} {a:Addr}  (h:w.cell? a=some v):a.spot=none ∧ y5 w.heap a.block a.off=some v:=by
 unfold World.cell? at h
 unfold y5
 split at h
 ·rename_i c ty fr he
  rw [he]
  split at h
  ·cases h
  ·rename_i hs
   exact ⟨by simpa using hs,h⟩
 ·cases h
variable {cs:List Value}{S:zl}{t:Nat}
section
variable {H:Type} {enc:TypeId × Value → H} {P:Program} {w:World} {base:Nat} {spare:Nat → Bool} {held:Bool}
theorem zd6 {a:Addr} {n:Nat}  (h:w.cells? base a n=some cs) (hn:0 < n):a.spot=none ∧ cs.length=n ∧ z5x (z1Y w) a.block a.off cs:=by
 obtain ⟨_,h2,h3⟩:=World.cells?_some h
 have h0:a.spot=none:=by
  have h4:=h3 0 hn
  cases hc:cs[0]? with
  | none=>rw [List.getElem?_eq_none_iff] at hc; omega
  | some v=>
   rw [hc] at h4
   have:=(zd9 h4).1
   simpa [Addr.add] using this
 refine ⟨h0,h2,fun j v hj=>?_⟩
 have hlt:=(List.getElem?_eq_some_iff.1 hj).1
 have h4:=h3 j (by omega)
 rw [hj] at h4
 have q:=(zd9 h4).2
 unfold Addr.add at q
 split at q
 ·rename_i e; subst e; exact q
 ·exact q
theorem z7H:∀ {bs:List A} {cs:List Value} {a:A} {c:List Value},yd S bs cs → Rep S a c → yd S (bs ++ [a]) (cs ++ c)
 | [],cs,a,c,h1,h2=>by
  simp only [yd] at h1
  subst h1
  simp only [List.nil_append,yd]
  exact ⟨c,[],by simp,h2,rfl⟩
 | x :: bs,cs,a,c,h1,h2=>by
  simp only [yd] at h1
  obtain ⟨c1,c2,rfl,r1,r2⟩:=h1
  simp only [List.cons_append,yd]
  exact ⟨c1,c2 ++ c,by simp,r1,z7H r2 h2⟩
theorem zfC {b o:Nat} {c1 c2:List Value} (h1:z5x S b o c1) (h2:z5x S b (o + c1.length) c2):z5x S b o (c1 ++ c2):=by
 intro j v hj
 rcases Nat.lt_or_ge j c1.length with q | q
 ·rw [List.getElem?_append_left q] at hj
  exact h1 j v hj
 ·rw [List.getElem?_append_right q] at hj
  have:=h2 _ _ hj
  rwa [show o + c1.length + (j - c1.length)=o + j by omega] at this
theorem z0J {t e sz:Nat} (f:α → A) (ok:α → Prop) (ht:P.underlying t=some (.slice e)) (hsz:P.cellsOf e=sz) (h0:0 < sz) (hf:∀ a,(f a).size=sz)
    (hel:∀ n cs x,DataW.trod enc P w base spare held n e cs=some x → ∃ a,ok a ∧ Rep (z1Y w) (f a) cs)
    {V1:Nat} {cs:List Value} {x:DataW H × List MemPlace} (h:DataW.trod enc P w base spare held V1 t cs=some x):∃ l:List α,(∀ a ∈ l,ok a) ∧ Rep (z1Y w) (.sl sz false (l.map f)) cs:=by
  rcases DataW.trod_slice ht h with ⟨rfl,_⟩ | ⟨a,len,cap,elems,rest,n,_,rfl,_,_,hlc,_,hlen,hall,_,_⟩
  · refine ⟨[],by simp,?_⟩
    simp only [Rep,List.map_nil,List.length_nil]
    exact ⟨none,0,rfl,by simp,Nat.le_refl _,by simp,.inl trivial⟩
  · have key:∀ k,k ≤ len → ∃ (l:List α) (cells:List Value),l.length=k ∧ (∀ a ∈ l,ok a) ∧ yd (z1Y w) (l.map f) cells ∧ cells.length=k * sz ∧ (0 < k → a.spot=none) ∧ z5x (z1Y w) a.block a.off cells:=by
      intro k
      induction k with
      | zero=>intro _; exact ⟨[],[],rfl,by simp,by simp [yd],by simp,by simp,fun j v h=>by simp at h⟩
      | succ k ih=>
        intro hk
        obtain ⟨l,cells,q1,q2,q3,q4,q5,q6⟩:=ih (by omega)
        have hk':=hall k (by omega)
        have hsome:elems[k]?=some elems[k]:=List.getElem?_eq_getElem (by omega)
        rw [hsome,Option.bind_eq_some_iff,hsz] at hk'
        obtain ⟨c,hc,htr⟩:=hk'
        obtain ⟨y,hy,hr⟩:=hel _ _ _ htr
        obtain ⟨g1,g2,g3⟩:=zd6 hc h0
        refine ⟨l ++ [y],cells ++ c,by simp [q1],?_,?_,?_,?_,?_⟩
        · intro z hz
          rcases List.mem_append.1 hz with q | q
          · exact q2 z q
          · simp only [List.mem_cons,List.not_mem_nil,or_false] at q; subst q; exact hy
        · rw [List.map_append]; exact z7H q3 hr
        · rw [List.length_append,q4,g2,Nat.succ_mul]
        · intro _
          rcases Nat.eq_zero_or_pos k with rfl | hk0
          · simpa [Addr.add] using g1
          · exact q5 hk0
        · refine zfC q6 ?_
          rw [q4]
          unfold Addr.add at g3
          split at g3
          · rename_i e0
            rw [e0,Nat.add_zero]
            exact g3
          · exact g3
    obtain ⟨l,cells,q1,q2,q3,q4,q5,q6⟩:=key len (Nat.le_refl _)
    refine ⟨l,q2,?_⟩
    simp only [Rep,List.length_map]
    refine ⟨some a,cap,by rw [q1],by simp,by omega,?_,?_⟩
    · intro y hy
      obtain ⟨z,_,rfl⟩:=List.mem_map.1 hy
      exact hf z
    · rcases Nat.eq_zero_or_pos len with rfl | hl
      · left; rw [List.length_eq_zero_iff.1 q1]; rfl
      · right
        refine ⟨a.block,a.off,cells,?_,q3,q6⟩
        have:=q5 hl
        obtain ⟨b,o,s⟩:=a
        simp only at this
        subst this
        rfl
theorem zcG {k:IntKind} {lo hi:Int} (ht:P.underlying t=some (.int k)) (hlo:k.min=lo) (hhi:k.max=hi) {V1:Nat}  {x:DataW H × List MemPlace} (h:DataW.trod enc P w base spare held V1 t cs=some x) :
  ∃ n:Int,(lo ≤ n ∧ n ≤ hi) ∧ cs=[.int k n] ∧ Rep (z1Y w) (.atom (.int k n)) cs:=by
 obtain ⟨n,rfl,_,hw⟩:=DataW.trod_int ht h
 simp only [Lit.wf,Bool.and_eq_true,decide_eq_true_eq,hlo,hhi] at hw
 exact ⟨n,hw,rfl,by simp only [Rep]; exact ⟨trivial,rfl⟩⟩
theorem zgc (ht:P.underlying t=some .bool) {V1:Nat}  {x:DataW H × List MemPlace} (h:DataW.trod enc P w base spare held V1 t cs=some x) :
  ∃ b:Bool,Rep (z1Y w) (.atom (.bool b)) cs:=by
 obtain ⟨b,rfl,_⟩:=DataW.trod_bool ht h
 exact ⟨b,by simp only [Rep]; exact ⟨trivial,rfl⟩⟩
theorem UV {fs:List Field} (ht:P.underlying t=some (.struct ⟨fs⟩)) {V1:Nat}  {x:DataW H × List MemPlace} (h:DataW.trod enc P w base spare held V1 t cs=some x) :
  cs.length=P.cellsOf t ∧ ∀ (i:Nat) (f:Field),fs[i]?=some f → ∃ n y,DataW.trod enc P w base spare held n f.type ((cs.drop f.offset).take (P.cellsOf f.type))=some y:=by
 obtain ⟨xs,n,_,_,hl,hxl,hall⟩:=DataW.trod_struct ht h
 refine ⟨hl,fun i f hf=>?_⟩
 have hlt:=(List.getElem?_eq_some_iff.1 hf).1
 have:=hall i f (by simpa using hf)
 rw [List.getElem?_eq_getElem (by rw [hxl]; simpa using hlt)] at this
 exact ⟨n,_,this⟩
end
theorem vV {a:A} {bs:List A}  {n:Nat} (h1:Rep S a (cs.take n)) (h2:yd S bs (cs.drop n)):yd S (a :: bs) cs:=by
 simp only [yd]
 exact ⟨cs.take n,cs.drop n,(List.take_append_drop n cs).symm,h1,h2⟩
variable {P:Program}
section
open Go Go.ChangeShapes Go.WideShapes Go.ChangeAt Go.RowKit
theorem zbT {P:Program} {H:Type} {enc:TypeId × Value → H} {f:Func} {s:ChangeSpec} {apart fresh handsOn again:Bool} {W W':World} {args:Array Value} {v:Value} {ds:List (DataW H)} {pa:List MemPlace}
  (hvar:s.vars=[]) (hvars2:(s.fn H (ds ++ [])).vars=[]) (hW:DataW.Whole enc P f.params.toList s.vars apart W args.toList ds [] (pa ++ [])) (hb:Below W.heap.size W W')
  (hres:∀ (b:Nat) (sp:Nat → Bool) (hd:Bool),DataW.TrodAll enc P W' b sp hd f.resultTypes.toList (v.resultList f.resultTypes.size) (s.fn H (ds ++ [])).results [])
  (hargs:∀ sp:Nat → Bool,(∀ p ∈ pa ++ [],sp p.block=true) → DataW.TrodAll enc P W' 0 sp true f.params.toList args.toList (s.fn H (ds ++ [])).args pa)
  (hok:∀ (j:Nat) (t:TypeId) (r:Value),f.resultTypes[j]?=some t → (v.resultList f.resultTypes.size)[j]?=some r → Value.okWide P W' .any 0 t r) :
  s.post enc P f apart fresh handsOn again W args v W':=by
 have hlt:∀ p ∈ pa ++ [],p.block < W.heap.size:=fun p hp=>by simpa using hW.lt p hp
 have hvr:∀ sp:Nat → Bool,DataW.TrodVars enc P W' sp s.vars (s.fn H (ds ++ [])).vars []:=fun sp=>by rw [hvar,hvars2]; rfl
 refine ⟨ds,[],pa ++ [],[],pa,[],hW,hres _ _ _,hargs _ (fun p hp=>by simpa using hlt p hp),hvr _,World.keptBut_mono (fun _ q=>q.elim) (hb.frame fun _=>False),fun _=>?_⟩
 obtain ⟨_,_,_,_,_,hz,hn⟩:=hW
 refine ⟨hok,_,_,([] ++ pa) ++ [],⟨[] ++ pa,[],trodAll_append (hargs _ (fun _ _=>rfl)) (hres _ _ _),hvr _,rfl,?_,?_⟩,?_⟩
 ·intro b off hp
  have hp':MemPlace.cell b off ∈ pa ++ []:=by simpa using hp
  rw [hb.frozen (p:=⟨b,off,none⟩) (hlt _ hp')]
  exact hz b off hp'
 ·intro ha
  simpa using hn ha
 ·intro p hp _
  simpa using hp
end
theorem zeD {k:Nat} {α ρ:Type} {enc:α → List A} {encR:ρ → A} {F:α → Option ρ} {gives:List Bool} {inj:∀ x y,enc x=enc y → x=y} (h:(spF k enc encR F gives inj).Ok P) {x:α} {r:ρ} (hr:F x=some r):Y5 P k (enc x) (encR r):=by
 have:=h x ⟨r,hr⟩
 simpa only [spF,hr] using this
variable {fs:Array Field}
section
variable {P:Program} {w:World} {r:Reach} {base t:Nat} {v:Value}
theorem zac (hu:P.underlying t=some (.struct fs)) (h:Value.okWide P w r base t v):v=.agg v.cells.toList.toArray:=by
 unfold Value.okWide at h
 rw [hu] at h
 obtain ⟨cs,rfl,_⟩:=h
 rfl
theorem z0a {a:A} (hu:P.underlying t=some (.struct fs)) (hr:Rep S a v.cells.toList) (h:Value.okWide P w r base t v) (ha:a.isAgg=true):wT S a v:=⟨_,hr,by cases a <;> first | exact zac hu h | cases ha⟩
theorem zfR {h:Array Obj}  {F:List Nat} (q:Has S h (.atom (.bool true)) v F):v=.bool true:=by
 rcases q with ⟨q,_⟩ | ⟨cs,q,_,rfl⟩
 ·rw [(zy.1 q).1]
 ·simp only [zJ,Rep] at q
  obtain ⟨⟨rfl,_⟩,_⟩:=q
  rfl
end
open Go.Proofs
section
variable {H:Type} {enc:TypeId × Value → H} {w:World} {base:Nat} {spare:Nat → Bool} {held:Bool}
theorem za3:Tryz.prog.cellsOf 5=1:=by kernel_rfl
theorem rd5 {V1:Nat}  {x:DataW H × List MemPlace} (h:DataW.trod enc Tryz.prog w base spare held V1 5 cs=some x):∃ a:Int,Ok5 a ∧ Rep (z1Y w) ((eI .u8) a) cs:=by
 obtain ⟨n,h1,_,h2⟩:=zcG Tryz.underlying5 (lo:=0) (hi:=255) rfl rfl h
 exact ⟨n,h1,h2⟩
theorem zlh:Tryz.prog.cellsOf 4=1:=by kernel_rfl
theorem rd4 {V1:Nat}  {x:DataW H × List MemPlace} (h:DataW.trod enc Tryz.prog w base spare held V1 4 cs=some x):∃ a:Bool,Ok4 a ∧ Rep (z1Y w) (eB a) cs:=by
 obtain ⟨n,h2⟩:=zgc Tryz.underlying4 h
 exact ⟨n,trivial,h2⟩
theorem ziL:Tryz.prog.cellsOf 43=1:=by kernel_rfl
theorem zrp {V1:Nat}  {x:DataW H × List MemPlace} (h:DataW.trod enc Tryz.prog w base spare held V1 43 cs=some x):∃ a:Int,zpq a ∧ Rep (z1Y w) ((eI .u16) a) cs:=by
 obtain ⟨n,h1,_,h2⟩:=zcG Tryz.underlying43 (lo:=0) (hi:=65535) rfl rfl h
 exact ⟨n,h1,h2⟩
theorem ziM:Tryz.prog.cellsOf 23=1:=by kernel_rfl
theorem zrq {V1:Nat}  {x:DataW H × List MemPlace} (h:DataW.trod enc Tryz.prog w base spare held V1 23 cs=some x):∃ a:List Int,zqM a ∧ Rep (z1Y w) ((eSl 1 false (eI .u16)) a) cs:=by
 exact z0J (eI .u16) zpq Tryz.underlying23 ziL (by omega) (fun _=>rfl) (fun _ _ _ q=>zrp q) h
theorem ziI:Tryz.prog.cellsOf 67=5:=by kernel_rfl
theorem zrm {V1:Nat}  {x:DataW H × List MemPlace} (h:DataW.trod enc Tryz.prog w base spare held V1 67 cs=some x):∃ a:yf,zqJ a ∧ Rep (z1Y w) ((X5 (eI .u8) (eI .u8) (eI .u8) eB (eSl 1 false (eI .u16))) a) cs:=by
 obtain ⟨hl,hf⟩:=UV Tryz.underlying67 h
 rw [ziI] at hl
 obtain ⟨_,_,q0⟩:=hf 0 _ rfl
 obtain ⟨_,_,q1⟩:=hf 1 _ rfl
 obtain ⟨_,_,q2⟩:=hf 2 _ rfl
 obtain ⟨_,_,q3⟩:=hf 3 _ rfl
 obtain ⟨_,_,q4⟩:=hf 4 _ rfl
 simp only [ziM,zlh,za3] at q0 q1 q2 q3 q4
 obtain ⟨a0,k0,r0⟩:=rd5 q0
 obtain ⟨a1,k1,r1⟩:=rd5 q1
 obtain ⟨a2,k2,r2⟩:=rd5 q2
 obtain ⟨a3,k3,r3⟩:=rd4 q3
 obtain ⟨a4,k4,r4⟩:=zrq q4
 refine ⟨⟨a0,a1,a2,a3,a4⟩,⟨k0,k1,k2,k3,k4⟩,?_⟩
 show Rep (z1Y w) (.agg [(eI .u8) a0,(eI .u8) a1,(eI .u8) a2,eB a3,(eSl 1 false (eI .u16)) a4]) cs
 simp only [Rep]
 refine vV (n:=1) (by simpa [List.drop_drop] using r0) (vV (n:=1) (by simpa [List.drop_drop] using r1) (vV (n:=1) (by simpa [List.drop_drop] using r2) (vV (n:=1) (by simpa [List.drop_drop] using r3) (vV (n:=1) (by simpa [List.drop_drop] using r4) ?_))))
 simp only [List.drop_drop,yd]
 exact List.drop_eq_nil_of_le (by omega)
theorem zd8:Tryz.prog.cellsOf 22=1:=by kernel_rfl
theorem zqg {V1:Nat}  {x:DataW H × List MemPlace} (h:DataW.trod enc Tryz.prog w base spare held V1 22 cs=some x):∃ a:List Int,znV a ∧ Rep (z1Y w) ((eSl 1 false (eI .u8)) a) cs:=by
 exact z0J (eI .u8) Ok5 Tryz.underlying22 za3 (by omega) (fun _=>rfl) (fun _ _ _ q=>rd5 q) h
theorem zd7:Tryz.prog.cellsOf 97=4:=by kernel_rfl
theorem zrj {V1:Nat}  {x:DataW H × List MemPlace} (h:DataW.trod enc Tryz.prog w base spare held V1 97 cs=some x):∃ a:zaU Int,zpp a ∧ Rep (z1Y w) ((Kv (eI .u8)) a) cs:=by
 obtain ⟨xs,m,_,_,hl,hx,hall⟩:=DataW.trod_array Tryz.underlying97 h
 rw [zd7] at hl
 rw [za3] at hall
 have get:∀ i,i < 4 → ∃ n:Int,Ok5 n ∧ Rep (z1Y w) ((eI .u8) n) ((cs.drop (i * 1)).take 1):=by
  intro i hi
  have q:=hall i hi
  rw [List.getElem?_eq_getElem (by omega)] at q
  exact rd5 q
 obtain ⟨a0,k0,r0⟩:=get 0 (by omega)
 obtain ⟨a1,k1,r1⟩:=get 1 (by omega)
 obtain ⟨a2,k2,r2⟩:=get 2 (by omega)
 obtain ⟨a3,k3,r3⟩:=get 3 (by omega)
 refine ⟨⟨a0,a1,a2,a3⟩,⟨k0,k1,k2,k3⟩,?_⟩
 show Rep (z1Y w) (.agg [(eI .u8) a0,(eI .u8) a1,(eI .u8) a2,(eI .u8) a3]) cs
 simp only [Rep]
 refine vV (n:=1) (by simpa [List.drop_drop] using r0) (vV (n:=1) (by simpa [List.drop_drop] using r1) (vV (n:=1) (by simpa [List.drop_drop] using r2) (vV (n:=1) (by simpa [List.drop_drop] using r3) ?_)))
 simp only [List.drop_drop,yd]
 exact List.drop_eq_nil_of_le (by omega)
theorem ziK:Tryz.prog.cellsOf 47=1:=by kernel_rfl
theorem zro {V1:Nat}  {x:DataW H × List MemPlace} (h:DataW.trod enc Tryz.prog w base spare held V1 47 cs=some x):∃ a:List (zaU Int),zqL a ∧ Rep (z1Y w) ((eSl 4 false (Kv (eI .u8))) a) cs:=by
 exact z0J (Kv (eI .u8)) zpp Tryz.underlying47 zd7 (by omega) (fun _=>rfl) (fun _ _ _ q=>zrj q) h
theorem ziJ:Tryz.prog.cellsOf 49=2:=by kernel_rfl
theorem zrn {V1:Nat}  {x:DataW H × List MemPlace} (h:DataW.trod enc Tryz.prog w base spare held V1 49 cs=some x):∃ a:yG,zqK a ∧ Rep (z1Y w) ((X3 (eSl 1 false (eI .u8)) (eSl 4 false (Kv (eI .u8)))) a) cs:=by
 obtain ⟨hl,hf⟩:=UV Tryz.underlying49 h
 rw [ziJ] at hl
 obtain ⟨_,_,q0⟩:=hf 0 _ rfl
 obtain ⟨_,_,q1⟩:=hf 1 _ rfl
 simp only [zd8,ziK] at q0 q1
 obtain ⟨a0,k0,r0⟩:=zqg q0
 obtain ⟨a1,k1,r1⟩:=zro q1
 refine ⟨⟨a0,a1⟩,⟨k0,k1⟩,?_⟩
 show Rep (z1Y w) (.agg [(eSl 1 false (eI .u8)) a0,(eSl 4 false (Kv (eI .u8))) a1]) cs
 simp only [Rep]
 refine vV (n:=1) (by simpa [List.drop_drop] using r0) (vV (n:=1) (by simpa [List.drop_drop] using r1) ?_)
 simp only [List.drop_drop,yd]
 exact List.drop_eq_nil_of_le (by omega)
theorem ziH:Tryz.prog.cellsOf 68=1:=by kernel_rfl
theorem zrl {V1:Nat}  {x:DataW H × List MemPlace} (h:DataW.trod enc Tryz.prog w base spare held V1 68 cs=some x):∃ a:List (List Int),zqI a ∧ Rep (z1Y w) ((eSl 1 false (eSl 1 false (eI .u8))) a) cs:=by
 exact z0J (eSl 1 false (eI .u8)) znV Tryz.underlying68 zd8 (by omega) (fun _=>rfl) (fun _ _ _ q=>zqg q) h
theorem ziG:Tryz.prog.cellsOf 70=2:=by kernel_rfl
theorem zrk {V1:Nat}  {x:DataW H × List MemPlace} (h:DataW.trod enc Tryz.prog w base spare held V1 70 cs=some x):∃ a:yN,zqH a ∧ Rep (z1Y w) ((X4 (eI .u8) (eSl 1 false (eSl 1 false (eI .u8)))) a) cs:=by
 obtain ⟨hl,hf⟩:=UV Tryz.underlying70 h
 rw [ziG] at hl
 obtain ⟨_,_,q0⟩:=hf 0 _ rfl
 obtain ⟨_,_,q1⟩:=hf 1 _ rfl
 simp only [za3,ziH] at q0 q1
 obtain ⟨a0,k0,r0⟩:=rd5 q0
 obtain ⟨a1,k1,r1⟩:=zrl q1
 refine ⟨⟨a0,a1⟩,⟨k0,k1⟩,?_⟩
 show Rep (z1Y w) (.agg [(eI .u8) a0,(eSl 1 false (eSl 1 false (eI .u8))) a1]) cs
 simp only [Rep]
 refine vV (n:=1) (by simpa [List.drop_drop] using r0) (vV (n:=1) (by simpa [List.drop_drop] using r1) ?_)
 simp only [List.drop_drop,yd]
 exact List.drop_eq_nil_of_le (by omega)
end
end Go.Own
namespace Go.Proofs.YtedigoohmnbjfaaGreat.suitesAgree
open Go Go.ChangeShapes Go.WideShapes Go.ChangeAt Go.RowKit
theorem own:ownKnob Tryz.prog.godebug=none:=by kernel_rfl
theorem zii:laidOutB Tryz.prog=true:=by kernel_rfl
section
variable {H:Type} {enc:TypeId × Value → H} {W:World}
set_option maxRecDepth 100000 in
theorem zqZ {base:Nat} {v0:Value} {d0:DataW H} {p0:List MemPlace} {v1:Value} {d1:DataW H} {p1:List MemPlace} {v2:Value} {d2:DataW H} {p2:List MemPlace} (h0:DataW.Trod enc Tryz.prog W 0 (fun _=>true) true 67 v0 d0 p0) (h1:DataW.Trod enc Tryz.prog W 0 (fun _=>true) true 49 v1 d1 p1) (h2:DataW.Trod enc Tryz.prog W 0 (fun _=>true) true 70 v2 d2 p2) (k0:Value.okWide Tryz.prog W .any base (67:Nat) v0) (k1:Value.okWide Tryz.prog W .any base (49:Nat) v1) (k2:Value.okWide Tryz.prog W .any base (70:Nat) v2) :
  Calls Tryz.prog 7 #[v0,v1,v2] W fun e w'=>e=.returned (.bool true) ∧ Go.Own.Xb (fun k=>W.heap.size ≤ k) W w':=by
 obtain ⟨n0,h0⟩:=h0
 obtain ⟨x0,o0,r0⟩:=Go.Own.zrm h0
 obtain ⟨n1,h1⟩:=h1
 obtain ⟨x1,o1,r1⟩:=Go.Own.zrn h1
 obtain ⟨n2,h2⟩:=h2
 obtain ⟨x2,o2,r2⟩:=Go.Own.zrk h2
 have q:=(Go.Own.zeD (Go.Own.zaN Go.Own.ziW List.mem_cons_self:Go.Own.jP.Ok Tryz.prog) (x:=(x0,x1,x2)) (r:=true) (Go.Own.zfJ o0 o1 o2)).2 (Go.Own.z1Y W) W [v0,v1,v2] [] ⟨fun _ _ _ h=>h,fun _ _ e=>(by cases e),fun _ _ e=>(by cases e)⟩ ?_ (by simp)
 ·refine Calls.mono q ?_
  rintro e w' ⟨v,S',F',rfl,hk,_,_,_,hr,_,_⟩
  refine ⟨?_,hk.mono (by rintro k (h | h) <;> simp_all)⟩
  rw [Go.Own.zfR hr]
 ·refine Go.Own.WU ?_
  have g0:Go.Own.wT (Go.Own.z1Y W) ((Go.Own.X5 (Go.Own.eI .u8) (Go.Own.eI .u8) (Go.Own.eI .u8) Go.Own.eB (Go.Own.eSl 1 false (Go.Own.eI .u16))) x0) v0:=Go.Own.z0a (t:=(67:Nat)) Tryz.underlying67 r0 k0 rfl
  have g1:Go.Own.wT (Go.Own.z1Y W) ((Go.Own.X3 (Go.Own.eSl 1 false (Go.Own.eI .u8)) (Go.Own.eSl 4 false (Go.Own.Kv (Go.Own.eI .u8)))) x1) v1:=Go.Own.z0a (t:=(49:Nat)) Tryz.underlying49 r1 k1 rfl
  have g2:Go.Own.wT (Go.Own.z1Y W) ((Go.Own.X4 (Go.Own.eI .u8) (Go.Own.eSl 1 false (Go.Own.eSl 1 false (Go.Own.eI .u8)))) x2) v2:=Go.Own.z0a (t:=(70:Nat)) Tryz.underlying70 r2 k2 rfl
  exact ⟨g0,g1,g2,trivial⟩
end
set_option maxRecDepth 100000 in
theorem zkS (os:Os) (started:os.Started) (H:Type) (enc:TypeId × Value → H) :
  ReturnsInHanded {} Tryz.checked os 7 .any (Rows.suitesAgreeSpec.pre6 enc Tryz.prog Tryz.f7 Rows.suitesAgreeRow.domain false) (Rows.suitesAgreeSpec.post enc Tryz.prog Tryz.f7 false true false false):=by
 refine returnsInHanded_of_change (C:=Tryz.checked) own started (by kernel_rfl) Tryz.func7
  (ChangeSpec.witness6 (enc:=enc) (C:=Tryz.checked) false ⟨#[],#[.agg #[.int .u8 0,.int .u8 0,.int .u8 0,.bool false,.slice none 0 0],.agg #[.slice none 0 0,.slice none 0 0],.agg #[.int .u8 0,.slice none 0 0]],[]⟩ 8 (by kernel_rfl) (by kernel_rfl) (by kernel_rfl) (by kernel_rfl)) ?_
 intro W base args ds gs before hval0 hW hcnd _
 have hval:∀ (j:Nat) t v,Tryz.f7.params[j]?=some t → args[j]?=some v → Value.okWide Tryz.prog W .any base t v:=hval0
 have hW':=hW
 obtain ⟨p,q,hA0,hV,rfl,hfz,hnd⟩:=hW
 have hA:DataW.TrodAll enc Tryz.prog W 0 (fun _=>true) true Tryz.f7.params.toList args.toList ds p:=hA0
 rw [Tryz.params7] at hA hval
 obtain ⟨v0,v1,v2,d0,d1,d2,p0,p1,p2,rfl,rfl,rfl,h0,h1,h2⟩:=trodAll_three hA
 obtain ⟨rfl,rfl⟩:=trodVars_none hV
 clear hA0 hval0
 refine (zqZ h0 h1 h2 (hval 0 (67:Nat) v0 rfl rfl) (hval 1 (49:Nat) v1 rfl rfl) (hval 2 (70:Nat) v2 rfl rfl)).mono fun e W' ⟨he,hk⟩=>?_
 subst he
 have hb:Below W.heap.size W W':=⟨hk.os,hk.tape,hk.output,hk.size,fun k q=>hk.block k (by omega)⟩
 have hlt:∀ x ∈ p0 ++ p1 ++ p2,x.block < W.heap.size:=fun x hx=>by simpa using hW'.lt x (by simpa using hx)
 refine ⟨_,rfl,Go.Own.zbT rfl rfl hW' hb (fun _ _ _=>trodAll_cons_mk (shut_bool Tryz.underlying4 _) trodAll_mk0) (fun sp hsp=>?_) (ok_one (by kernel_rfl) rfl (okWide_bool_mk Tryz.underlying4 _))⟩
 have st:∀ {t:Nat} {v:Value} {d:DataW H} {p':List MemPlace},DataW.Trod enc Tryz.prog W 0 (fun _=>true) true t v d p' → Tryz.prog.readableRec t=true → t < Tryz.prog.types.size → (∀ x ∈ p',x ∈ p0 ++ p1 ++ p2) → DataW.Trod enc Tryz.prog W' 0 sp true t v d p':=by
  intro t v d p' hd h1 h2 hp
  exact WideElems.Trod_stays zii h1 h2 hd (fun x hx=>hb.same (hlt x (hp x hx))) (fun x hx=>hsp x (by simpa using hp x hx))
 have:=trodAll_mk3 (st h0 (by kernel_rfl) (of_decide_eq_true (by kernel_rfl)) (fun x hx=>by simp [hx])) (st h1 (by kernel_rfl) (of_decide_eq_true (by kernel_rfl)) (fun x hx=>by simp [hx])) (st h2 (by kernel_rfl) (of_decide_eq_true (by kernel_rfl)) (fun x hx=>by simp [hx]))
 rw [← List.append_assoc] at this
 rw [Tryz.params7]
 exact this
theorem Q9:Rows.suitesAgreeRow.holds Tryz.pinned (OpenSpec.ofChange Rows.suitesAgreeSpec) :=
 OpenClaim.holds_of_wide 7 Tryz.f7 rfl rfl rfl rfl rfl rfl rfl ⟨rfl,rfl,rfl,rfl,rfl⟩ rfl rfl rfl rfl rfl (by kernel_rfl) Tryz.func7 (by kernel_rfl)
  (of_decide_eq_true (by kernel_rfl)) (by unfold Func.isWrapper; first | (rw [if_pos (by decide +kernel)]; kernel_rfl) | (rw [if_neg (by decide +kernel)]; exact ⟨rfl,rfl⟩))
  (fun os started H enc _=>zkS os started H enc)
theorem proved:Rows.SuitesAgreeSaid :=
 Q9
#print axioms proved
end Go.Proofs.YtedigoohmnbjfaaGreat.suitesAgree
