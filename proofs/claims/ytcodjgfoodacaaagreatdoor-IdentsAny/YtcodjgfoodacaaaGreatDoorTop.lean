/- -/
import Derived.Test.YtcodjgfoodacaaaGreatDoorPartE
import Derived.Test.YtcodjgfoodacaaaGreatDoorPartG
import Derived.Test.YtcodjgfoodacaaaGreatDoorPartB
import Derived.OpenShut
import Derived.ChangeShapes
import Derived.Stop.LaidErr
import Derived.Test.YtcodjgfoodacaaaGreatDoorPartC
import Derived.WalkKit
import Derived.ProofKit
import Derived.Carry
import Derived.Test.YtcodjgfoodacaaaGreatDoorRows
import Derived.Test.YtcodjgfoodacaaaGreatDoorChecked
import Derived.LaidMore
import Derived.Stop.Joined
import Derived.SevenTiedAt
import Derived.Test.YtcodjgfoodacaaaGreatDoorCards
import Derived.Test.YtcodjgfoodacaaaGreatDoorTie
import Derived.MakeChecks
set_option linter.unusedVariables false
set_option linter.unusedSimpArgs false
namespace Go.Own
theorem oB {α:Type _} {β:Type _} (a:α) (f:α → Option β):Option.bind (some a) f = f a:=rfl
theorem zX {α:Type} {l:List α} {i:Nat} {x:α} (h:l[i]? = some x):idx l (i:Int) = some x:=h
theorem zak (b:List Int) (g:Nat → Int → Option Int) (hg:∀ i x y,b[i]? = some y → g i x = if x < y then some (-1) else if y < x then some 1 else none) :
  ∀ (a:List Int) (k:Nat),k + a.length = b.length → (y9 g a k).getD 0 = jo a (b.drop k)
 | [],k,h => by
  have:b.drop k = []:=List.drop_eq_nil_of_le (by simp at h; omega)
  rw [this]; rfl
 | x :: a,k,h => by
  simp only [List.length_cons] at h
  have hk:k < b.length:=by omega
  rw [List.drop_eq_getElem_cons hk]
  simp only [y9,jo,hg k x b[k] (List.getElem?_eq_getElem hk)]
  by_cases h1:x < b[k]
  ·simp [h1]
  ·by_cases h2:b[k] < x
   ·simp [h1,h2]
   ·simp only [h1,h2,if_false]
    exact zak b g hg a (k + 1) (by omega)
theorem z6v (a b:List Int) (h:a.length = b.length → a.length < 4611686018427387904):k9 a b = some (Xm a b):=by
 unfold k9
 by_cases hl:a.length = b.length
 ·have h':=h hl
  simp only [hl,bne_self_eq_false,cond_false]
  rw [bdT (yq a h' (fun i x => match b[i]? with | some y => if x < y then some (-1:Int) else if y < x then some 1 else none | none => none) ?_ ?_)]
  ·have q:=zak b (fun i x => match b[i]? with | some y => if x < y then some (-1:Int) else if y < x then some 1 else none | none => none) (fun i x y hy => by simp only [hy]) a 0 (by omega)
   rw [List.drop_zero] at q
   have hc:Xm a b = jo a b:=by unfold Xm; rw [if_neg (by omega),if_neg (by omega)]
   rw [hc,← q]
   cases y9 (fun i x => match b[i]? with | some y => if x < y then some (-1:Int) else if y < x then some 1 else none | none => none) a 0 <;> rfl
  ·intro i x hx
   have hi:i < a.length:=(List.getElem?_eq_some_iff.1 hx).1
   have hy:b[i]? = some b[i]:=List.getElem?_eq_getElem (by omega)
   unfold qD
   have hc:decide ((i:Int) < (a.length:Int)) = true:=by simpa using hi
   simp only [hc,cond_true,zX hx,zX hy,hy,oB]
   by_cases h1:x < b[i]
   ·simp [h1,nS]
   ·by_cases h2:b[i] < x
    ·simp [h1,h2,nS]
    ·simp [h1,h2,nS]
  ·unfold qD
   simp
 ·have h1:(((a.length:Nat):Int) != ((b.length:Nat):Int)) = true:=by simp; omega
  simp only [h1,cond_true]
  unfold Xm
  by_cases h2:a.length < b.length
  ·simp [h2]
  ·have h3:b.length < a.length:=by omega
   simp [h2,h3]
def cI (x y:Int):Int:=if x < y then -1 else if y < x then 1 else 0
theorem zay (x y:Int):uU x y = some (cI x y):=by
 unfold uU ZU cI
 simp only [bne_self_eq_false,oB,cond_false]
 by_cases h1:x < y
 ·simp [h1]
 ·by_cases h2:y < x
  ·simp [h1,h2]
  ·simp [h1,h2]
theorem zer (a b:List Int) (h:a.length < 4611686018427387904):∃ c,w9 a b = some c ∧ (a.length = b.length → c = jo a b):=by
 unfold w9
 have hloop:=yq a h (step:=fun s => yx a b s) (fun i x => match b[i]? with | some y => if x < y then some (-1:Int) else if y < x then some 1 else none | none => some 1) (by
  intro i x hx
  have hi:i < a.length:=(List.getElem?_eq_some_iff.1 hx).1
  unfold yx
  have hc:decide ((i:Int) < (a.length:Int)) = true:=by simpa using hi
  simp only [hc,cond_true,zX hx,oB]
  by_cases hb:i < b.length
  ·have hy:b[i]? = some b[i]:=List.getElem?_eq_getElem hb
   have hd:decide ((i:Int) ≥ (b.length:Int)) = false:=by simp; omega
   simp only [hd,cond_false,zX hy,hy,oB,zay]
   unfold cI
   by_cases h1:x < b[i]
   ·simp [h1,nS]
   ·by_cases h2:b[i] < x
    ·simp [h1,h2,nS]
    ·simp [h1,h2,nS]
  ·have hy:b[i]? = none:=List.getElem?_eq_none (by omega)
   have hd:decide ((i:Int) ≥ (b.length:Int)) = true:=by simp; omega
   simp only [hd,cond_true,hy,nS]) (by unfold yx; simp)
 rw [bdT hloop]
 have q:=fun hl => zak b (fun i x => match b[i]? with | some y => if x < y then some (-1:Int) else if y < x then some 1 else none | none => some 1) (fun i x y hy => by simp only [hy]) a 0 hl
 cases hf:y9 (fun i x => match b[i]? with | some y => if x < y then some (-1:Int) else if y < x then some 1 else none | none => some 1) a 0 with
 | some r =>
  refine ⟨r,rfl,fun hl => ?_⟩
  have:=q (by omega)
  rw [hf] at this
  simpa using this
 | none =>
  unfold wn
  by_cases hl:a.length < b.length
  ·refine ⟨-1,by simp [oS,hl],fun hl2 => by omega⟩
  ·refine ⟨0,by simp [oS,hl],fun hl2 => ?_⟩
   have:=q (by omega)
   rw [hf] at this
   simpa using this
theorem zmw (x y:Int):Vt [x,y] = some (if x = 0 then y else x):=by
 unfold Vt
 rw [bdT (yq [x,y] (by simp) (step:=fun s => kj [x,y] s) (fun i v => if v ≠ 0 then some v else none) ?_ ?_)]
 ·by_cases h1:x = 0
  ·by_cases h2:y = 0
   ·simp [y9,h1,h2,oS,Xl]
   ·simp [y9,h1,h2,oS]
  ·simp [y9,h1,oS]
 ·intro i v hv
  have hi:i < [x,y].length:=(List.getElem?_eq_some_iff.1 hv).1
  unfold kj
  have hc:decide ((i:Int) < (([x,y]:List Int).length:Int)) = true:=by simp only [decide_eq_true_eq]; omega
  simp only [hc,cond_true,zX hv,oB]
  by_cases h:v = 0
  ·simp [h,nS]
  ·have hb:(v != 0) = true:=by simpa using h
   simp [h,hb,nS]
 ·unfold kj; simp
theorem z16 (a b:List Int) (h:a.length < 4611686018427387904):xI a b = some (Xm a b):=by
 unfold xI
 obtain ⟨c,hc,hl⟩:=zer a b h
 rw [zay,hc]
 simp only [oB,zmw]
 unfold cI Xm
 by_cases h1:a.length < b.length
 ·simp [h1]
 ·by_cases h2:b.length < a.length
  ·simp [h1,h2]
  ·simp [h1,h2,hl (by omega)]
def wE (n:Int) (w:List Int):Int:=if 256 < w.length then 3 else if w.any (fun c => decide (c < 0) || decide (n ≤ c)) then 1 else 0
theorem z6I {n:Int} {w:List Int}:wE n w = 0 ↔ w.length ≤ 256 ∧ ∀ c ∈ w,0 ≤ c ∧ c < n:=by
 unfold wE
 by_cases h:256 < w.length
 ·rw [if_pos h]
  exact ⟨fun q => by simp at q,fun q => by omega⟩
 ·rw [if_neg h]
  by_cases h2:w.any (fun c => decide (c < 0) || decide (n ≤ c)) = true
  ·rw [if_pos h2]
   simp only [List.any_eq_true,Bool.or_eq_true,decide_eq_true_eq] at h2
   obtain ⟨c,h3,h4⟩:=h2
   refine ⟨fun q => by simp at q,fun q => ?_⟩
   have:=q.2 c h3
   omega
  ·rw [if_neg h2]
   simp only [List.any_eq_true,Bool.or_eq_true,decide_eq_true_eq,not_exists,not_and,not_or] at h2
   refine ⟨fun _ => ⟨by omega,fun c hc => ?_⟩,fun _ => rfl⟩
   have:=h2 c hc
   omega
theorem zal {ρ:Type} (p:Int → Bool) (g:Nat → Int → Option ρ) (hg:∀ i x,(g i x).isSome = p x):∀ (w:List Int) (k:Nat),(y9 g w k).isSome = w.any p
 | [],k => rfl
 | x :: w,k => by
  simp only [y9,List.any_cons]
  have:=hg k x
  cases hx:g k x with
  | some r => rw [hx] at this; simp at this; simp [← this]
  | none => rw [hx] at this; simp at this; rw [this,Bool.false_or]; exact zal p g hg w (k + 1)
theorem zdH (n:Int) (w:List Int):(Option.bind (Xw w) fun r => bif r != 0 then some r else Zy w n) = some (wE n w):=by
 unfold Xw wE
 by_cases h:256 < w.length
 ·have h':(256:Int) < (w.length:Int):=by omega
  simp [h,h']
 ·have hd:decide (((w.length:Nat):Int) > 256) = false:=by simp; omega
  simp only [hd,cond_false,oB,bne_self_eq_false,if_neg h]
  unfold Zy
  have hl:=yq w (by omega) (step:=fun s => vL w n s) (fun i c => if c < 0 ∨ n ≤ c then some (1:Int) else none) (by
   intro i c hc
   have hi:i < w.length:=(List.getElem?_eq_some_iff.1 hc).1
   unfold vL
   have hq:decide ((i:Int) < (w.length:Int)) = true:=by simpa using hi
   simp only [hq,cond_true,zX hc,oB]
   by_cases h1:c < 0
   ·simp [h1,nS]
   ·by_cases h2:n ≤ c
    ·simp [h1,h2,nS]
    ·simp [h1,h2,nS]) (by unfold vL; simp)
  rw [bdT hl]
  have q:=zal (fun c => decide (c < 0) || decide (n ≤ c)) (fun i c => if c < 0 ∨ n ≤ c then some (1:Int) else none) (fun i c => by by_cases h:c < 0 ∨ n ≤ c <;> simp [h] <;> simpa using h) w 0
  cases hf:y9 (fun i c => if c < 0 ∨ n ≤ c then some (1:Int) else none) w 0 with
  | none => rw [hf] at q; rw [← q]; rfl
  | some r =>
   rw [hf] at q
   obtain ⟨i,x,h1,h2⟩:=xp hf
   rw [← q]
   split at h2
   ·cases h2; rfl
   ·cases h2
theorem z5z (n:Int) (w:List Int):jy w n = some (if 16 < n then 3 else if 256 < w.length then 3 else if n < 1 then 1 else wE n w):=by
 unfold jy
 by_cases h0:16 < n
 ·simp [h0]
 by_cases h:256 < w.length
 ·have h':(256:Int) < (w.length:Int):=by omega
  simp [h0,h,h']
 by_cases h1:n < 1
 ·have h':¬ (256:Int) < (w.length:Int):=by omega
  simp [h0,h,h',h1]
 ·have hd:decide (((w.length:Nat):Int) > 256) = false:=by simp; omega
  have hd0:decide (n > 16) = false:=by simp; omega
  have hd1:decide (n < 1) = false:=by simp; omega
  simp only [hd,hd0,hd1,cond_false,if_neg h,if_neg h0,if_neg h1]
  unfold xW wD wE
  have hl:=yq w (by omega) (step:=fun s => yf w n s) (fun i c => if c < 0 ∨ n ≤ c then some (i:Int) else none) (by
   intro i c hc
   have hi:i < w.length:=(List.getElem?_eq_some_iff.1 hc).1
   unfold yf Xg
   have hq:decide ((i:Int) < (w.length:Int)) = true:=by simpa using hi
   simp only [hq,cond_true,zX hc,oB]
   by_cases h1:c < 0
   ·simp [h1,nS]
   ·by_cases h2:n ≤ c
    ·simp [h1,h2,nS]
    ·simp [h1,h2,nS]) (by unfold yf; simp)
  rw [bdT hl,if_neg h]
  have q:=zal (fun c => decide (c < 0) || decide (n ≤ c)) (fun i c => if c < 0 ∨ n ≤ c then some (i:Int) else none) (fun i c => by by_cases h:c < 0 ∨ n ≤ c <;> simp [h] <;> simpa using h) w 0
  cases hf:y9 (fun i c => if c < 0 ∨ n ≤ c then some (i:Int) else none) w 0 with
  | none => rw [hf] at q; rw [← q]; rfl
  | some r =>
   rw [hf] at q
   obtain ⟨i,x,h1,h2⟩:=xp hf
   rw [← q]
   split at h2
   ·cases h2
    simp [oS]
   ·cases h2
def eS (e:Int):Option Int:=if e = 0 then none else some e
def loE (n:Int) (l:List (List Int)):Int:=if 16 < n then 3 else if 4096 < l.length then 3 else if n < 1 then 1 else (y9 (fun _ w => eS (wE n w)) l 0).getD 0
theorem z8d {n:Int}:∀ {l:List (List Int)} {k:Nat},(y9 (fun _ w => eS (wE n w)) l k).getD 0 = 0 ↔ ∀ w ∈ l,wE n w = 0
 | [],_ => by simp [y9]
 | w :: l,k => by
  by_cases h:wE n w = 0
  ·have:eS (wE n w) = none:=by simp [eS,h]
   simp only [y9,this]
   rw [z8d]
   simp [h]
  ·have:eS (wE n w) = some (wE n w):=by simp [eS,h]
   simp [y9,this,h]
theorem z4U {n:Int} {l:List (List Int)}:loE n l = 0 ↔ (1 ≤ n ∧ n ≤ 16) ∧ l.length ≤ 4096 ∧ ∀ w ∈ l,w.length ≤ 256 ∧ ∀ c ∈ w,0 ≤ c ∧ c < n:=by
 unfold loE
 by_cases h0:16 < n
 ·rw [if_pos h0]; exact ⟨fun q => by simp at q,fun q => by omega⟩
 by_cases h1:4096 < l.length
 ·rw [if_neg h0,if_pos h1]; exact ⟨fun q => by simp at q,fun q => by omega⟩
 by_cases h2:n < 1
 ·rw [if_neg h0,if_neg h1,if_pos h2]; exact ⟨fun q => by simp at q,fun q => by omega⟩
 rw [if_neg h0,if_neg h1,if_neg h2,z8d]
 constructor
 ·intro q; exact ⟨by omega,by omega,fun w hw => z6I.1 (q w hw)⟩
 ·intro q w hw; exact z6I.2 (q.2.2 w hw)
theorem zd3 (l:List (List Int)) (n:Int):XV l n = some (loE n l):=by
 unfold XV loE
 by_cases h0:16 < n
 ·simp [h0]
 by_cases h1:4096 < l.length
 ·have h':(4096:Int) < (l.length:Int):=by omega
  simp [h0,h1,h']
 by_cases h2:n < 1
 ·have h':¬ (4096:Int) < (l.length:Int):=by omega
  simp [h0,h1,h2,h']
 have d0:decide (n > 16) = false:=by simp; omega
 have d1:decide (((l.length:Nat):Int) > 4096) = false:=by simp; omega
 have d2:decide (n < 1) = false:=by simp; omega
 simp only [d0,d1,d2,cond_false,if_neg h0,if_neg h1,if_neg h2]
 rw [bdT (yq l (by omega) (step:=fun s => qW l n s) (fun _ w => eS (wE n w)) ?_ ?_)]
 ·cases y9 (fun _ w => eS (wE n w)) l 0 <;> rfl
 ·intro i w hw
  have hi:i < l.length:=(List.getElem?_eq_some_iff.1 hw).1
  have hq:decide ((i:Int) < (l.length:Int)) = true:=by simpa using hi
  have he:=zdH n w
  unfold qW
  simp only [hq,cond_true,zX hw,oB]
  unfold Xw at he ⊢
  by_cases h:256 < w.length
  ·have h':(256:Int) < (w.length:Int):=by omega
   have:wE n w = 3:=by unfold wE; rw [if_pos h]
   simp [h',this,eS,nS]
  ·have hd:decide (((w.length:Nat):Int) > 256) = false:=by simp; omega
   simp only [hd,cond_false,oB,bne_self_eq_false] at he ⊢
   rw [he]
   simp only [oB]
   by_cases hz:wE n w = 0
   ·simp [hz,eS,nS]
   ·have hb:(wE n w != 0) = true:=by simpa using hz
    simp [hz,hb,eS,nS]
 ·unfold qW; simp
theorem z80 (l:List (List Int)) (n:Int):Ya l n = some (loE n l):=by
 unfold Ya loE
 by_cases h0:16 < n
 ·simp [h0]
 by_cases h1:4096 < l.length
 ·have h':(4096:Int) < (l.length:Int):=by omega
  simp [h0,h1,h']
 by_cases h2:n < 1
 ·have h':¬ (4096:Int) < (l.length:Int):=by omega
  simp [h0,h1,h2,h']
 have d0:decide (n > 16) = false:=by simp; omega
 have d1:decide (((l.length:Nat):Int) > 4096) = false:=by simp; omega
 have d2:decide (n < 1) = false:=by simp; omega
 simp only [d0,d1,d2,cond_false,if_neg h0,if_neg h1,if_neg h2]
 rw [bdT (yq l (by omega) (step:=fun s => qS l n s) (fun _ w => eS (wE n w)) ?_ ?_)]
 ·cases y9 (fun _ w => eS (wE n w)) l 0 <;> rfl
 ·intro i w hw
  have hi:i < l.length:=(List.getElem?_eq_some_iff.1 hw).1
  have hq:decide ((i:Int) < (l.length:Int)) = true:=by simpa using hi
  have he:jy w n = some (wE n w):=by
   rw [z5z,if_neg h0,if_neg h2]
   by_cases h:256 < w.length
   ·rw [if_pos h]; unfold wE; rw [if_pos h]
   ·rw [if_neg h]
  unfold qS
  simp only [hq,cond_true,zX hw,oB,he]
  by_cases hz:wE n w = 0
  ·simp [hz,eS,nS]
  ·have hb:(wE n w != 0) = true:=by simpa using hz
   simp [hz,hb,eS,nS]
 ·unfold qS; simp
theorem z81 (l:List (List Int)) (hl:l.length < 4611686018427387904) {step:Int × Int → Option (LR (Int × Int) Int)}
  (h:∀ (n:Int) (i:Nat) (x:List Int),l[i]? = some x → step (n,(i:Int)) = some (.next (w64 (n + ((x.length:Nat):Int)),w64 ((i:Int) + 1)))) (h2:∀ n,step (n,(l.length:Int)) = some (.done n)) :
  loop step (0,0) = some (l.foldl (fun n x => w64 (n + ((x.length:Nat):Int))) 0):=by
 have gen:∀ (m k:Nat) (n:Int),k ≤ l.length → l.length - k < m → Jx step m (n,(k:Int)) = some ((l.drop k).foldl (fun n x => w64 (n + ((x.length:Nat):Int))) n):=by
  intro m
  induction m with
  | zero => intro k n _ h; omega
  | succ m ih =>
   intro k n hk hn
   rw [Vo]
   rcases Nat.lt_or_ge k l.length with hlt | hge
   ·have hx:l[k]? = some l[k]:=List.getElem?_eq_getElem hlt
    rw [h n k _ hx,List.drop_eq_getElem_cons hlt]
    simp only [List.foldl_cons]
    rw [yl (x:=(k:Int) + 1) (by omega) (by omega)]
    exact ih (k + 1) _ hlt (by omega)
   ·have:k = l.length:=by omega
    subst this
    rw [h2,List.drop_length]
    rfl
 exact gen fuel 0 0 (Nat.zero_le _) (by show l.length - 0 < 18446744073709551616; omega)
def stW (l:List (List Int)):Int:=l.foldl (fun n x => w64 (n + ((x.length:Nat):Int))) 0
theorem z8q (l:List (List Int)) (hl:l.length < 4611686018427387904):Yk l = some (stW l):=by
 unfold Yk
 rw [bdT (z81 l hl (step:=fun s => qV l s.1 s.2) ?_ ?_)]
 ·rfl
 ·intro n i x hx
  have hi:i < l.length:=(List.getElem?_eq_some_iff.1 hx).1
  have hq:decide ((i:Int) < (l.length:Int)) = true:=by simpa using hi
  unfold qV
  simp only [hq,cond_true,zX hx,oB]
 ·intro n; unfold qV; simp
theorem z7x (l:List (List Int)) (hl:l.length < 4611686018427387904):Y9 l = some (stW l):=by
 unfold Y9
 rw [bdT (z81 l hl (step:=fun s => qQ l s.1 s.2) ?_ ?_)]
 ·rfl
 ·intro n i x hx
  have hi:i < l.length:=(List.getElem?_eq_some_iff.1 hx).1
  have hq:decide ((i:Int) < (l.length:Int)) = true:=by simpa using hi
  unfold qQ
  simp only [hq,cond_true,zX hx,oB]
 ·intro n; unfold qQ; simp
def Kb (l:List (List Int)):Nat:=(l.map List.length).sum
theorem z9b {l:List (List Int)} (h:Kb l < 4611686018427387904):stW l = (Kb l:Int):=by
 have gen:∀ (l:List (List Int)) (n:Nat),n + Kb l < 4611686018427387904 → l.foldl (fun n x => w64 (n + ((x.length:Nat):Int))) (n:Int) = ((n + Kb l:Nat):Int):=by
  intro l
  induction l with
  | nil => intro n _; simp [Kb]
  | cons x l ih =>
   intro n hn
   have hs:Kb (x :: l) = x.length + Kb l:=by simp [Kb]
   rw [hs] at hn ⊢
   rw [List.foldl_cons,yl (by omega) (by omega),← Int.natCast_add,ih (n + x.length) (by omega)]
   congr 1; omega
 have:=gen l 0 (by omega)
 simpa [stW] using this
theorem z6M {l:List (List Int)} {m:Nat} (h:∀ w ∈ l,w.length ≤ m):Kb l ≤ l.length * m:=by
 induction l with
 | nil => simp [Kb]
 | cons x l ih =>
  have hs:Kb (x :: l) = x.length + Kb l:=by simp [Kb]
  have h1:=h x (by simp)
  have h2:=ih fun w hw => h w (by simp [hw])
  rw [hs,List.length_cons,Nat.add_mul]
  omega
theorem z7w:∀ {l:List (List Int)},SW l ↔ ∀ i x y,l[i]? = some x → l[i + 1]? = some y → Xm x y < 0
 | [] => by simp [SW]
 | [x] => ⟨fun _ i a b _ h2 => by simp at h2,fun _ => by simp [SW]⟩
 | x :: y :: l => by
  constructor
  ·intro h i a b h1 h2
   cases i with
   | zero =>
    simp at h1 h2
    subst h1; subst h2
    exact h.head y (by simp)
   | succ i => exact z7w.1 h.tail i a b (by simpa using h1) (by simpa using h2)
  ·intro h
   have ht:SW (y :: l):=z7w.2 fun i a b h1 h2 => h (i + 1) a b (by simpa using h1) (by simpa using h2)
   have h0:=h 0 x y rfl rfl
   refine List.pairwise_cons.2 ⟨fun z hz => ?_,ht⟩
   rcases List.mem_cons.1 hz with rfl | hz
   ·exact h0
   ·exact Vu h0 (ht.head z hz)
theorem z40 {α ρ:Type} (l:List α) (hl:l.length < 4611686018427387904) {step:Int → Option (LR Int (Unit ⊕ ρ))} (f:Nat → α → Option ρ)
  (h:∀ (i:Nat) (x:α),1 ≤ i → l[i]? = some x → step (i:Int) = some (nS i (f i x))) (h2:∀ k:Nat,l.length ≤ k → step (k:Int) = some (.done (.inl ()))) :
  loop step 1 = some (oS (y9 f (l.drop 1) 1)):=by
 have gen:∀ (n:Nat) (k:Nat),1 ≤ k → l.length - k < n → Jx step n (k:Int) = some (oS (y9 f (l.drop k) k)):=by
  intro n
  induction n with
  | zero => intro k _ h; omega
  | succ n ih =>
   intro k hk hn
   rw [Vo]
   rcases Nat.lt_or_ge k l.length with hlt | hge
   ·have hx:l[k]? = some l[k]:=List.getElem?_eq_getElem hlt
    rw [h k _ hk hx,List.drop_eq_getElem_cons hlt]
    simp only [y9]
    cases hf:f k l[k] with
    | some r => rfl
    | none =>
     simp only [nS]
     rw [yl (by omega) (by omega)]
     exact ih (k + 1) (by omega) (by omega)
   ·rw [h2 k hge,List.drop_eq_nil_of_le hge]
    rfl
 exact gen fuel 1 (Nat.le_refl _) (by show l.length - 1 < 18446744073709551616; omega)
instance (l:List (List Int)):Decidable (SW l):=by unfold SW; infer_instance
theorem z8c {ρ:Type} (l:List (List Int)) (r:ρ):y9 (fun i x => match l[i - 1]? with | some y => if 0 ≤ Xm y x then some r else none | none => none) (l.drop 1) 1 = if SW l then none else some r:=by
 by_cases hs:SW l
 ·rw [if_pos hs]
  refine jT fun i x hx => ?_
  rw [List.getElem?_drop] at hx
  have hi:1 + i < l.length:=(List.getElem?_eq_some_iff.1 hx).1
  have hy:l[1 + i - 1]? = some l[i]:=by rw [show 1 + i - 1 = i by omega]; exact List.getElem?_eq_getElem (by omega)
  rw [hy]
  have:=z7w.1 hs i l[i] x (List.getElem?_eq_getElem (by omega)) (by rw [Nat.add_comm]; exact hx)
  simp only
  rw [if_neg (by omega)]
 ·rw [if_neg hs]
  cases hf:y9 (fun i x => match l[i - 1]? with | some y => if 0 ≤ Xm y x then some r else none | none => none) (l.drop 1) 1 with
  | some r' =>
   obtain ⟨i,x,h1,h2⟩:=xp hf
   split at h2
   ·split at h2
    ·exact h2.symm
    ·cases h2
   ·cases h2
  | none =>
   exfalso
   refine hs (z7w.2 fun i x y hx hy => ?_)
   have:=xe hf i y (by rw [List.getElem?_drop,Nat.add_comm]; exact hy)
   rw [show 1 + i - 1 = i by omega,hx] at this
   simp only at this
   split at this
   ·cases this
   ·omega
theorem zd0 (l:List (List Int)) (h:l.length ≤ 4096) (hw:∀ w ∈ l,w.length < 4611686018427387904):XB l = some (decide (SW l)):=by
 unfold XB
 rw [bdT (z40 l (by omega) (step:=fun s => qU l s) (fun i x => match l[i - 1]? with | some y => if 0 ≤ Xm y x then some false else none | none => none) ?_ ?_),z8c]
 ·by_cases hs:SW l
  ·simp [hs,oS,Yt]
  ·simp [hs,oS]
 ·intro i x hi hx
  have hil:i < l.length:=(List.getElem?_eq_some_iff.1 hx).1
  have hy:l[i - 1]? = some l[i - 1]:=List.getElem?_eq_getElem (by omega)
  have hq:decide ((i:Int) < (l.length:Int)) = true:=by simpa using hil
  unfold qU
  rw [yl (x:=(i:Int) - 1) (by omega) (by omega),show ((i:Int) - 1) = ((i - 1:Nat):Int) by omega]
  have hE:=z16 l[i - 1] x (hw _ (List.getElem_mem (by omega)))
  simp only [hq,cond_true,zX hx,zX hy,oB,hy,hE]
  by_cases hc:0 ≤ Xm l[i - 1] x
  ·simp [hc,nS]
  ·simp [hc,nS]
 ·intro k hk; unfold qU; have:decide ((k:Int) < (l.length:Int)) = false:=by simp; omega
  simp only [this,cond_false]
def chE (n:Int) (l:List (List Int)):Int:=if loE n l ≠ 0 then loE n l else if SW l then (if 65536 < Kb l then 3 else 0) else 1
theorem zcJ {n:Int} {l:List (List Int)}:chE n l = 0 ↔ loE n l = 0 ∧ SW l ∧ Kb l ≤ 65536:=by
 unfold chE
 by_cases h:loE n l = 0
 ·rw [if_neg (by simp [h])]
  by_cases h2:SW l
  ·rw [if_pos h2]
   by_cases h3:65536 < Kb l
   ·rw [if_pos h3]; exact ⟨fun q => by simp at q,fun q => by omega⟩
   ·rw [if_neg h3]; exact ⟨fun _ => ⟨h,h2,by omega⟩,fun _ => rfl⟩
  ·rw [if_neg h2]; exact ⟨fun q => by simp at q,fun q => absurd q.2.1 h2⟩
 ·rw [if_pos h]; exact ⟨fun q => absurd q h,fun q => absurd q.1 h⟩
theorem z2N {n:Int} {l:List (List Int)} (h:loE n l = 0):l.length ≤ 4096 ∧ (∀ w ∈ l,w.length ≤ 256) ∧ Kb l ≤ 1048576:=by
 obtain ⟨_,h1,h2⟩:=z4U.1 h
 refine ⟨h1,fun w hw => (h2 w hw).1,?_⟩
 have:=z6M (m:=256) fun w hw => (h2 w hw).1
 omega
theorem z96 (l:List (List Int)) (n:Int):XC l n = some (chE n l):=by
 unfold XC chE
 rw [z80]
 simp only [oB]
 by_cases h:loE n l = 0
 ·obtain ⟨h1,h2,h3⟩:=z2N h
  rw [zd0 l h1 fun w hw => by have:=h2 w hw; omega,z7x l (by omega),z9b (by omega)]
  simp only [h,bne_self_eq_false,cond_false,oB,ne_eq,not_true,if_false]
  by_cases hs:SW l
  ·by_cases hq:65536 < Kb l
   ·have:(65536:Int) < (Kb l:Int):=by omega
    simp [hs,hq,this]
   ·have:¬ (65536:Int) < (Kb l:Int):=by omega
    simp [hs,hq,this]
  ·simp [hs]
 ·have hb:(loE n l != 0) = true:=by simpa using h
  simp [h,hb]
theorem z9L (l:List (List Int)) (n:Int):XW l n = some (chE n l):=by
 unfold XW chE
 rw [zd3]
 simp only [oB]
 by_cases h:loE n l = 0
 ·obtain ⟨h1,h2,h3⟩:=z2N h
  simp only [h,bne_self_eq_false,cond_false,ne_eq,not_true,if_false]
  rw [bdT (z40 l (by omega) (step:=fun s => qX l s) (fun i x => match l[i - 1]? with | some y => if 0 ≤ Xm y x then some (1:Int) else none | none => none) ?_ ?_),z8c]
  ·by_cases hs:SW l
   ·simp only [hs,if_true,oS]
    unfold YA
    rw [z8q l (by omega),z9b (by omega)]
    simp only [oB]
    by_cases hq:65536 < Kb l
    ·have:(65536:Int) < (Kb l:Int):=by omega
     simp [hq,this]
    ·have:¬ (65536:Int) < (Kb l:Int):=by omega
     simp [hq,this]
   ·simp [hs,oS]
  ·intro i x hi hx
   have hil:i < l.length:=(List.getElem?_eq_some_iff.1 hx).1
   have hy:l[i - 1]? = some l[i - 1]:=List.getElem?_eq_getElem (by omega)
   have hq:decide ((i:Int) < (l.length:Int)) = true:=by simpa using hil
   unfold qX
   rw [yl (x:=(i:Int) - 1) (by omega) (by omega),show ((i:Int) - 1) = ((i - 1:Nat):Int) by omega]
   have hE:=z6v l[i - 1] x (fun _ => by have:=h2 _ (List.getElem_mem (show i - 1 < l.length by omega)); omega)
   simp only [hq,cond_true,zX hx,zX hy,oB,hy,hE]
   by_cases hc:0 ≤ Xm l[i - 1] x
   ·simp [hc,nS]
   ·simp [hc,nS]
  ·intro k hk; unfold qX; have:decide ((k:Int) < (l.length:Int)) = false:=by simp; omega
   simp only [this,cond_false]
 ·have hb:(loE n l != 0) = true:=by simpa using h
  simp [h,hb]
theorem zf7 (w:List Int):yb w = some w:=by
 unfold yb
 rw [gdT (by omega)]
 simp
theorem zcG (w:List Int) (h:w.length ≤ 4294967296):yz w = some w:=by
 unfold yz
 rw [gdT (by simpa using h)]
theorem z7K (a b:List Int) (h:a.length < 4611686018427387904):qR a b = some (decide (a = b)):=by
 unfold qR
 rw [z16 a b h]
 simp only [oB]
 by_cases e:a = b
 ·subst e; simp [KD]
 ·have:Xm a b ≠ 0:=fun q => e (z58 q)
  simp [e,this]
def QW (l:List (List Int)):Prop:=l.Pairwise fun a b => ¬ Xm b a < 0
theorem WK {α:Type} {l:List α} {n:Nat} {x:α}:x ∈ l.take n ↔ ∃ i,i < n ∧ l[i]? = some x:=by
 rw [List.mem_iff_getElem?]
 constructor
 ·rintro ⟨i,h⟩
  rw [List.getElem?_take] at h
  split at h
  ·exact ⟨i,by omega,h⟩
  ·cases h
 ·rintro ⟨i,h1,h2⟩
  exact ⟨i,by rw [List.getElem?_take,if_pos h1]; exact h2⟩
theorem z97 {l:List (List Int)} {x:List Int} (h:SW l) (hx:∀ y ∈ l,Xm y x < 0):SW (l ++ [x]):=by
 unfold SW
 rw [List.pairwise_append]
 exact ⟨h,by simp,fun a ha b hb => by simp at hb; subst hb; exact hx a ha⟩
section
variable {s:List (List Int)} (hq:QW s) (hl:s.length ≤ 4294967296) (hw:∀ w ∈ s,w.length < 4611686018427387904)
include hq hl hw
omit hl hw in
theorem zc4 {i j:Nat} {x y:List Int} (hi:s[i]? = some x) (hj:s[j]? = some y) (h:i ≤ j):Xm x y < 0 ∨ x = y:=by
 rcases Nat.lt_or_ge i j with h | h
 ·have:=(List.pairwise_iff_getElem.1 hq) i j (List.getElem?_eq_some_iff.1 hi).1 (List.getElem?_eq_some_iff.1 hj).1 h
  rw [(List.getElem?_eq_some_iff.1 hi).2,(List.getElem?_eq_some_iff.1 hj).2] at this
  rcases z7i.1 this with q | q
  ·exact .inl q
  ·exact .inr q.symm
 ·have:i = j:=by omega
  subst this
  rw [hi] at hj
  exact .inr (by simpa using hj)
theorem z6w {k:Nat} (h1:1 ≤ k) (hk:k < s.length) (hd:s[k - 1]? = s[k]?) (hs:SW (s.take k)) :
  Ret (Option.bind (loop (fun q => y4 (k:Int) q.1 q.2.1 q.2.2) (s,(k:Int),1)) fun t => y6 t.1 t.2) fun r => r = .done (.inr (srt s)):=by
 rw [zA]
 refine Ret.mono (yP (fun q => ∃ kk k2:Nat,q.2.1 = (kk:Int) ∧ q.2.2 = (k2:Int) ∧ 1 ≤ k2 ∧ k + k2 ≤ s.length ∧ kk < k + k2 ∧ q.1.length = s.length ∧ (∀ i,kk ≤ i → q.1[i]? = s[i]?) ∧ SW (q.1.take kk) ∧ ∀ x,x ∈ q.1.take kk ↔ x ∈ s.take (k + k2)) (fun q => s.length - q.2.2.toNat) (R:=fun t => ∃ kk:Nat,t.2 = (kk:Int) ∧ kk ≤ s.length ∧ t.1.length = s.length ∧ t.1.take kk = srt s) ?_ ?_ ?_) ?_
 ·refine ⟨k,1,rfl,rfl,Nat.le_refl _,hk,by omega,rfl,fun _ _ => rfl,hs,fun x => ?_⟩
  rw [WK,WK]
  constructor
  ·rintro ⟨i,h2,h3⟩; exact ⟨i,by omega,h3⟩
  ·rintro ⟨i,h2,h3⟩
   rcases Nat.lt_or_ge i k with h | h
   ·exact ⟨i,h,h3⟩
   ·have:i = k:=by omega
    subst this
    exact ⟨i - 1,by omega,by rw [hd]; exact h3⟩
 ·show s.length - _ < _
  omega
 ·rintro ⟨S,a,b⟩ ⟨kk,k2,rfl,rfl,g1,g2,g3,g4,g5,g6,g7⟩
  simp only at g4 g5 g6 g7
  show Ret (y4 (k:Int) S (kk:Int) (k2:Int)) _
  unfold y4
  rw [zS]
  refine ⟨fun hc => ?_,fun hc => ?_⟩
  ·have hlt:k2 < s.length - k:=by rw [g4] at hc; simpa using hc
   have e1:s[k + k2]? = some s[k + k2]:=List.getElem?_eq_getElem (by omega)
   have e2:s[k + k2 - 1]? = some s[k + k2 - 1]:=List.getElem?_eq_getElem (by omega)
   have f1:idx S ((k:Int) + (k2:Int)) = some s[k + k2]:=by
    rw [← Int.natCast_add,zT,g5 _ (by omega),e1]
   have f2:idx S ((k:Int) + w64 ((k2:Int) - 1)) = some s[k + k2 - 1]:=by
    rw [yl (by omega) (by omega),show (k:Int) + ((k2:Int) - 1) = ((k + k2 - 1:Nat):Int) by omega,zT,g5 _ (by omega),e2]
   rw [gdT (by omega),f1]
   simp only [oB]
   rw [gdT (by rw [yl (by omega) (by omega)]; omega),f2]
   simp only [oB]
   rw [z7K _ _ (hw _ (List.getElem_mem (by omega)))]
   simp only [oB]
   have hk2:w64 ((k2:Int) + 1) = ((k2 + 1:Nat):Int):=by rw [yl (by omega) (by omega)]; omega
   by_cases he:s[k + k2] = s[k + k2 - 1]
   ·simp only [he,decide_true,Bool.not_true,cond_false]
    unfold y5
    rw [hk2,zg]
    refine ⟨⟨kk,k2 + 1,rfl,rfl,by omega,by omega,by omega,g4,g5,g6,fun x => ?_⟩,by simp only [Int.toNat_natCast]; omega⟩
    rw [g7,WK,WK]
    constructor
    ·rintro ⟨i,h2,h3⟩; exact ⟨i,by omega,h3⟩
    ·rintro ⟨i,h2,h3⟩
     rcases Nat.lt_or_ge i (k + k2) with h | h
     ·exact ⟨i,h,h3⟩
     ·have:i = k + k2:=by omega
      subst this
      exact ⟨k + k2 - 1,by omega,by rw [e2,← he,← e1]; exact h3⟩
   ·simp only [he,decide_false,Bool.not_false,cond_true]
    rw [gdT (by omega)]
    have e3:idx S (kk:Int) = some s[kk]:=by rw [zT,g5 _ (Nat.le_refl _),List.getElem?_eq_getElem (by omega)]
    rw [e3]
    simp only [oB]
    unfold y5
    rw [hk2,yl (x:=(kk:Int) + 1) (by omega) (by omega),zg]
    have hset:(S.set ((kk:Int).toNat) s[k + k2]).take (kk + 1) = S.take kk ++ [s[k + k2]]:=by
     rw [Int.toNat_natCast,List.take_add_one,List.take_set_of_le (Nat.le_refl _),List.getElem?_set_self (by omega)]
     rfl
    refine ⟨⟨kk + 1,k2 + 1,rfl,rfl,by omega,by omega,by omega,by simp [g4],fun i hi => ?_,?_,fun x => ?_⟩,by simp only [Int.toNat_natCast]; omega⟩
    ·simp only
     rw [List.getElem?_set_ne (by omega),g5 _ (by omega)]
    ·simp only
     rw [hset]
     refine z97 g6 fun y hy => ?_
     obtain ⟨i,h2,h3⟩:=WK.1 ((g7 y).1 hy)
     have hlast:Xm s[k + k2 - 1] s[k + k2] < 0:=by
      rcases zc4 hq e2 e1 (by omega) with q | q
      ·exact q
      ·exact absurd q.symm he
     rcases zc4 hq h3 e2 (by omega) with q | q
     ·exact Vu q hlast
     ·rw [q]; exact hlast
    ·simp only
     rw [hset,List.mem_append,g7,WK,WK]
     constructor
     ·rintro (⟨i,h2,h3⟩ | h)
      ·exact ⟨i,by omega,h3⟩
      ·simp at h; subst h; exact ⟨k + k2,by omega,e1⟩
     ·rintro ⟨i,h2,h3⟩
      rcases Nat.lt_or_ge i (k + k2) with h | h
      ·exact .inl ⟨i,h,h3⟩
      ·have:i = k + k2:=by omega
       subst this
       rw [e1] at h3
       exact .inr (by simpa using h3.symm)
  ·have hge:s.length - k ≤ k2:=by rw [g4] at hc; simpa using hc
   have hkk:k + k2 = s.length:=by omega
   rw [zg]
   refine ⟨kk,rfl,by omega,g4,z9e g6 fun x => ?_⟩
   rw [g7,hkk,List.take_length]
 ·rintro ⟨S,a⟩ ⟨kk,rfl,h1,h2,h3⟩
  simp only at h2 h3
  show Ret (y6 S (kk:Int)) _
  unfold y6
  have hlen:(S.take (kk:Int).toNat ++ List.replicate (S.length - (kk:Int).toNat) ([]:List Int)).length = S.length:=by simp [List.length_take]; omega
  rw [gdT (by omega),gdT (by omega),gdT (by rw [hlen]; omega),zg]
  simp only [Int.toNat_natCast]
  rw [List.take_left' (by rw [List.length_take]; omega),h3]
theorem z8L:yR s () = some (srt s):=by
 unfold yR
 by_cases h2:s.length < 2
 ·have hd:decide (((s.length:Nat):Int) < 2) = true:=by simp; omega
  simp only [hd,cond_true]
  rw [z5E]
  match s,h2 with
  | [],_ => exact SW.nil
  | [x],_ => simp [SW]
 ·have hd:decide (((s.length:Nat):Int) < 2) = false:=by simp; omega
  simp only [hd,cond_false]
  apply Ret.eq
  rw [zA]
  refine Ret.mono (yP (fun q:Int => ∃ j:Nat,q = (j:Int) ∧ 1 ≤ j ∧ j ≤ s.length ∧ SW (s.take j)) (fun q => s.length - q.toNat) (R:=fun t:Unit ⊕ List (List Int) => match t with | .inl _ => srt s = s | .inr p => p = srt s) ?_ ?_ ?_) ?_
  ·refine ⟨1,rfl,Nat.le_refl _,by omega,?_⟩
   match s,h2 with
   | [],h2 => simp at h2
   | x :: l,_ => simp [SW]
  ·show s.length - _ < _
   omega
  ·rintro _ ⟨j,rfl,g1,g2,g3⟩
   show Ret (ym s (j:Int)) _
   unfold ym
   rw [zS]
   refine ⟨fun hc => ?_,fun hc => ?_⟩
   ·have hj:j < s.length:=by simpa using hc
    have e1:s[j]? = some s[j]:=List.getElem?_eq_getElem hj
    have e2:s[j - 1]? = some s[j - 1]:=List.getElem?_eq_getElem (by omega)
    rw [yl (x:=(j:Int) - 1) (by omega) (by omega),show (j:Int) - 1 = ((j - 1:Nat):Int) by omega,zX e1,zX e2]
    simp only [oB]
    rw [z7K _ _ (hw _ (List.getElem_mem hj))]
    simp only [oB]
    by_cases he:s[j] = s[j - 1]
    ·simp only [he,decide_true,cond_true]
     rw [gdT (by omega)]
     refine (z6w hq hl hw g1 hj (by rw [e1,e2,he]) g3).mono ?_
     rintro _ rfl
     rfl
    ·simp only [he,decide_false,cond_false]
     unfold xu
     rw [yl (by omega) (by omega),zg]
     refine ⟨⟨j + 1,rfl,by omega,hj,?_⟩,by simp only [Int.toNat_natCast]; omega⟩
     have:s.take (j + 1) = s.take j ++ [s[j]]:=by rw [List.take_add_one,e1]; rfl
     rw [this]
     refine z97 g3 fun y hy => ?_
     obtain ⟨i,h3,h4⟩:=WK.1 hy
     have hlast:Xm s[j - 1] s[j] < 0:=by
      rcases zc4 hq e2 e1 (by omega) with q | q
      ·exact q
      ·exact absurd q.symm he
     rcases zc4 hq h4 e2 (by omega) with q | q
     ·exact Vu q hlast
     ·rw [q]; exact hlast
   ·have hj:j = s.length:=by
     have:¬ j < s.length:=by simpa using hc
     omega
    rw [zg]
    show srt s = s
    rw [hj,List.take_length] at g3
    exact z5E g3
  ·rintro (u | p) h
   ·show Ret (some s) _
    rw [zg]
    exact h.symm
   ·show Ret (some p) _
    rw [zg]
    exact h
end
theorem z5F (l:List (List Int)):SOk Xm l :=
 ⟨fun x _ => z57 x,fun x _ y _ z _ h1 h2 => Vu h1 h2,fun x _ y _ h1 h2 => by
  rcases z7i.1 h1 with q | q
  ·exact absurd q h2
  ·exact q⟩
theorem zbI {l m:List (List Int)} (h:l.Perm m):srt l = srt m:=z9f fun x => h.mem_iff
theorem z2Q {c d:List Int → List Int → Int}:∀ {l:List (List Int)},(∀ x ∈ l,∀ y ∈ l,c x y = d x y) → Jz c l = Jz d l
 | [],_ => rfl
 | x :: l,h => by
  have ih:=z2Q (c:=c) (d:=d) (l:=l) fun a ha b hb => h a (by simp [ha]) b (by simp [hb])
  show z8U c x (Jz c l) = z8U d x (Jz d l)
  rw [ih]
  have gen:∀ m:List (List Int),(∀ y ∈ m,y ∈ l) → z8U c x m = z8U d x m:=by
   intro m
   induction m with
   | nil => intro _; rfl
   | cons y m ih2 =>
    intro hm
    simp only [z8U]
    rw [h y (by simp [hm y (by simp)]) x (by simp),ih2 fun z hz => hm z (by simp [hz])]
  exact gen _ fun y hy => (Yq d l).mem_iff.1 hy
def soR (l:List (List Int)):List (List Int) × Int:=if 4096 < (srt l).length ∨ 65536 < Kb (srt l) then ([],3) else (srt l,0)
theorem zbK {l:List (List Int)} (hl:l.length ≤ 100000) (hw:∀ w ∈ l,w.length ≤ 4294967296):YF l = some (soR l):=by
 unfold YF vW
 rw [gdT (by simp; omega)]
 simp only [oB]
 have hc:∀ x ∈ l,∀ y,xI x y = some (Xm x y):=fun x hx y => z16 x y (by have:=hw x hx; omega)
 have hso:z9j (fun x y => xI x y) l = some (Jz Xm l):=by
  unfold z9j
  rw [gdT ⟨by omega,fun x hx y hy => by simp only [hc x hx y]; rfl⟩]
  have hcc:∀ x ∈ l,∀ y ∈ l,(xI x y).getD 0 = Xm x y:=fun x hx y _ => by rw [hc x hx y]; rfl
  rw [gdT,z2Q (c:=fun x y => (xI x y).getD 0) (d:=Xm) hcc]
  have q:=z5F l
  refine ⟨fun x hx => by show ¬ (xI x x).getD 0 < 0; rw [hcc x hx x hx]; exact q.1 x hx,fun x hx y hy z hz h1 h2 => ?_,fun x hx y hy h1 h2 => ?_⟩
  ·simp only [hcc x hx y hy,hcc y hy z hz,hcc x hx z hz] at h1 h2 ⊢
   exact q.2.1 x hx y hy z hz h1 h2
  ·simp only [hcc x hx y hy,hcc y hy x hx] at h1 h2
   exact q.2.2 x hx y hy h1 h2
 rw [hso]
 simp only [oB]
 have hp:=Yq Xm l
 have hq:QW (Jz Xm l):=UV (z5F l) (fun y hy => hy)
 rw [z8L hq (by rw [hp.length_eq]; omega) (fun w h => by have:=hw w (hp.mem_iff.1 h); omega)]
 simp only [oB]
 unfold xX
 simp only [oB]
 rw [zbI hp]
 have hlen:(srt l).length ≤ 100000:=Nat.le_trans (z9d l) hl
 have hws:∀ w ∈ srt l,w.length ≤ 4294967296:=fun w h => hw w (z2K.1 h)
 unfold soR
 generalize srt l = r at hlen hws
 have hsy:Kb r ≤ 100000 * 4294967296:=Nat.le_trans (z6M hws) (Nat.mul_le_mul_right _ hlen)
 by_cases h1:4096 < r.length
 ·have:(4096:Int) < (r.length:Int):=by omega
  simp [h1,this]
 ·have d1:decide (((r.length:Nat):Int) > 4096) = false:=by simp; omega
  simp only [d1,cond_false]
  rw [z7x r (by omega),z9b (by omega)]
  simp only [oB]
  by_cases h2:65536 < Kb r
  ·have:(65536:Int) < (Kb r:Int):=by omega
   simp [h2,this]
  ·have d2:decide (((Kb r:Nat):Int) > 65536) = false:=by simp; omega
   simp only [d2,cond_false]
   rw [if_neg (by omega)]
   have hloop:=kS (step:=fun s => wp r s.1 s.2) (fun i => ((r.take i).map (fun q => (q,true)) ++ (r.drop i).map (fun q => (q,false)),(i:Int))) r.length (t:=r.map fun q => (q,true)) (by omega) (by
    intro i hi
    have hA:((r.take i).map (fun q:List Int => (q,true))).length = i:=by rw [List.length_map,List.length_take]; omega
    have hd:r.drop i = r[i] :: r.drop (i + 1):=List.drop_eq_getElem_cons hi
    have hx:((r.take i).map (fun q => (q,true)) ++ (r.drop i).map (fun q => (q,false)))[i]? = some (r[i],false):=by
     rw [List.getElem?_append_right (by omega),hA,hd]; simp
    show wp r _ (i:Int) = _
    unfold wp
    have hq:decide ((i:Int) < ((r.length - (0:Int).toNat:Nat):Int)) = true:=by simpa using hi
    simp only [hq,cond_true]
    rw [gdT (by omega),Int.zero_add,zX hx]
    simp only [oB]
    rw [zcG _ (hws _ (List.getElem_mem hi))]
    simp only [oB,zf7,Int.toNat_natCast]
    rw [yl (by omega) (by omega)]
    congr 3
    rw [List.set_append_right _ _ (by omega),hA,hd,List.take_add_one,List.getElem?_eq_getElem hi]
    simp only [Nat.sub_self,List.map_cons,List.set_cons_zero,List.map_append,Option.toList_some,List.map_nil,List.append_assoc,List.cons_append,List.nil_append]) (by
    show wp r _ (r.length:Int) = _
    unfold wp
    simp)
   have h0:((r.take 0).map (fun q => (q,true)) ++ (r.drop 0).map (fun q => (q,false)),((0:Nat):Int)) = (r.map (fun q => (q,false)),(0:Int)):=by simp
   rw [h0] at hloop
   rw [hloop]
   simp only [oB]
   unfold Zl
   rw [gdT (by intro q hq; obtain ⟨_,_,rfl⟩:=List.mem_map.1 hq; rfl)]
   simp [List.map_map,Function.comp_def]
theorem z7T (a b:List (List Int)) (hl:a.length < 4611686018427387904) (hw:∀ x ∈ a,x.length < 4611686018427387904):Yl a b = some (decide (a = b)):=by
 unfold Yl
 by_cases he:a.length = b.length
 ·have hb:(((a.length:Nat):Int) != ((b.length:Nat):Int)) = false:=by simp; omega
  simp only [hb,cond_false]
  rw [bdT (yq a hl (step:=fun s => ka a b s) (fun i x => if b[i]? = some x then none else some false) ?_ ?_)]
  ·cases hf:y9 (fun i x => if b[i]? = some x then none else some false) a 0 with
   | some r =>
    obtain ⟨i,x,h1,h2⟩:=xp hf
    rw [Nat.zero_add] at h2
    split at h2
    ·cases h2
    ·rename_i h3
     have:a ≠ b:=fun e => h3 (by rw [← e]; exact h1)
     cases h2
     simp [oS,this]
   | none =>
    have hab:a = b:=by
     refine List.ext_getElem? fun i => ?_
     rcases Nat.lt_or_ge i a.length with q | q
     ·have hx:a[i]? = some a[i]:=List.getElem?_eq_getElem q
      have:=xe hf i _ hx
      rw [Nat.zero_add] at this
      split at this
      ·rename_i h3; rw [h3,hx]
      ·cases this
     ·rw [List.getElem?_eq_none q,List.getElem?_eq_none (by omega)]
    simp [oS,Xi,hab]
  ·intro i x hx
   have hi:i < a.length:=(List.getElem?_eq_some_iff.1 hx).1
   have hq:decide ((i:Int) < (a.length:Int)) = true:=by simpa using hi
   have hy:b[i]? = some b[i]:=List.getElem?_eq_getElem (by omega)
   have hxm:x ∈ a:=(List.getElem?_eq_some_iff.1 hx).2 ▸ List.getElem_mem hi
   unfold ka
   simp only [hq,cond_true,zX hx,zX hy,oB,z6v x b[i] (fun _ => hw x hxm),hy]
   by_cases h:b[i] = x
   ·rw [if_pos (by rw [h]),h,KD]; rfl
   ·have:(Xm x b[i] != 0) = true:=by simp; exact fun q => h (z58 q).symm
    rw [this,if_neg (by simpa using h)]
    rfl
  ·unfold ka; simp
 ·have hb:(((a.length:Nat):Int) != ((b.length:Nat):Int)) = true:=by simp; omega
  have:a ≠ b:=fun e => he (by rw [e])
  simp [hb,this]
theorem zcI {n:Int} {l:List (List Int)} (h:chE n l = 0):l.length ≤ 4096 ∧ (∀ w ∈ l,w.length ≤ 256) ∧ Kb l ≤ 65536 ∧ SW l ∧ (1 ≤ n ∧ n ≤ 16) ∧ ∀ w ∈ l,∀ c ∈ w,0 ≤ c ∧ c < n:=by
 obtain ⟨h1,h2,h3⟩:=zcJ.1 h
 obtain ⟨q1,q2,_⟩:=z2N h1
 obtain ⟨r1,_,r3⟩:=z4U.1 h1
 exact ⟨q1,q2,h3,h2,r1,fun w hw => (r3 w hw).2⟩
theorem zb9 {i:Nat} (h:i < 9223372036854775807):w64 ((i:Int) + 1) = ((i + 1:Nat):Int):=by rw [yl (by omega) (by omega)]; rfl
def un (x:List Bool):Nat:=x.countP fun b => !b
theorem zfN {x:List Bool} {s:Nat} (h:x[s]? = some false):un (x.set s true) < un x:=by
 induction x generalizing s with
 | nil => simp at h
 | cons b x ih =>
  cases s with
  | zero => simp at h; subst h; simp [un]
  | succ s =>
   have:=ih (s:=s) (by simpa using h)
   unfold un at *
   rw [List.set_cons_succ,List.countP_cons,List.countP_cons]
   omega
theorem zfO:∀ {x y:List Bool},y.length = x.length → (∀ t:Nat,x[t]? = some true → y[t]? = some true) → un y ≤ un x
 | [],[],_,_ => Nat.le_refl _
 | a :: x,b :: y,hl,h => by
  have ih:=zfO (x:=x) (y:=y) (by simpa using hl) fun t ht => by simpa using h (t + 1) (by simpa using ht)
  have h0:=h 0
  unfold un at *
  rw [List.countP_cons,List.countP_cons]
  cases a <;> cases b <;> simp at h0 ⊢ <;> omega
 | [],_ :: _,hl,_ => by simp at hl
 | _ :: _,[],hl,_ => by simp at hl
structure Dfs (m:z6) (P:Nat → Prop) (x y:List Bool):Prop where
 len:y.length = x.length
 mono:∀ t:Nat,x[t]? = some true → y[t]? = some true
 new:∀ t:Nat,y[t]? = some true → x[t]? = some true ∨ P t ∧ ∀ i,i < kk m → 0 ≤ (E m t i).To → y[(E m t i).To.toNat]? = some true
theorem Dfs.refl {m:z6} {P:Nat → Prop} (x:List Bool):Dfs m P x x:=⟨rfl,fun _ h => h,fun _ h => .inl h⟩
theorem Dfs.trans {m:z6} {P:Nat → Prop} {x y z:List Bool} (h:Dfs m P x y) (k:Dfs m P y z):Dfs m P x z:={
 len:=k.len.trans h.len
 mono:=fun t q => k.mono t (h.mono t q)
 new:=fun t q => by
  rcases k.new t q with g | g
  ·rcases h.new t g with r | ⟨r1,r2⟩
   ·exact .inl r
   ·exact .inr ⟨r1,fun i hi h0 => k.mono _ (r2 i hi h0)⟩
  ·exact .inr g }
section
variable {m:z6} (h:VM m)
include h
theorem zaw {P:Nat → Prop} (hP:∀ t i,P t → t < m.Rows.length → i < kk m → 0 ≤ (E m t i).To → P (E m t i).To.toNat):∀ (fu:Nat) (x:List Bool),x.length = m.Rows.length → un x < fu → ∀ s:Int,z7n m s → (0 ≤ s → P s.toNat) →
  ∃ y,yd fu s x m = some (y,m) ∧ Dfs m P x y ∧ (0 ≤ s → y[s.toNat]? = some true)
 | 0,x,_,hu,_,_,_ => by omega
 | fu + 1,x,hx,hu,s,hs,hPs => by
  have hk:=h.kk_le
  show ∃ y,wa (yd fu) s x m = some (y,m) ∧ _
  unfold wa
  by_cases h1:s = -1
  ·have:(s == -1) = true:=by simpa using h1
   rw [this,cond_true]
   exact ⟨x,rfl,Dfs.refl x,fun q => by omega⟩
  ·have e1:(s == -1) = false:=by simpa using h1
   obtain ⟨n,rfl⟩:∃ n:Nat,s = n:=⟨s.toNat,by have:=hs.1; omega⟩
   have hn:n < m.Rows.length:=by have:=hs.2; omega
   have hxn:x[n]? = some x[n]:=List.getElem?_eq_getElem (by omega)
   rw [e1,cond_false,zX hxn,oB]
   by_cases hb:x[n] = true
   ·rw [hb,cond_true]
    exact ⟨x,rfl,Dfs.refl x,fun _ => by simp only [Int.toNat_natCast]; rw [hxn,hb]⟩
   ·have hb:x[n] = false:=by simpa using hb
    obtain ⟨r,hr,hrl,hre⟩:=h.rowAt hn
    rw [hb,cond_false,oB,zX hr,oB]
    simp only [Int.toNat_natCast]
    rw [hb] at hxn
    have hu1:=zfN hxn
    have hxl:(x.set n true).length = m.Rows.length:=by simpa using hx
    have run:Ret (loop (fun s => xc (yd fu) r s.1 s.2.1 s.2.2.1 s.2.2.2.1 s.2.2.2.2) (x.set n true,m.Inputs,m.Outputs,m.Rows,0)) fun q => q.2 = m ∧ Dfs m P (x.set n true) q.1 ∧ ∀ j,j < kk m → 0 ≤ (E m n j).To → q.1[(E m n j).To.toNat]? = some true:=by
     refine yP (fun q => ∃ i:Nat,q.2 = (m.Inputs,m.Outputs,m.Rows,(i:Int)) ∧ i ≤ kk m ∧ Dfs m P (x.set n true) q.1 ∧ ∀ j,j < i → 0 ≤ (E m n j).To → q.1[(E m n j).To.toNat]? = some true) (fun q => 100 - q.2.2.2.2.toNat) ⟨0,rfl,Nat.zero_le _,Dfs.refl _,fun j hj => by omega⟩ (by show 100 - _ < _; omega) ?_
     rintro ⟨q,_⟩ ⟨i,rfl,hi,hd,hall⟩
     simp only at hd hall
     show Ret (xc (yd fu) r q m.Inputs m.Outputs m.Rows (i:Int)) _
     unfold xc
     rw [zS]
     refine ⟨fun hc => ?_,fun hc => ?_⟩
     ·have hlt:i < kk m:=by simp at hc; omega
      rw [zX (hre i hlt),oB]
      have hst:z7n m (E m n i).To:=by
       rcases h.edgeAt hn hlt with ⟨g,_⟩ | ⟨g1,g2,_⟩
       ·exact ⟨by omega,by have:=h.len1; omega⟩
       ·exact ⟨by omega,g2⟩
      have hPn:P n:=by simpa using hPs (by omega)
      obtain ⟨y,y1,y2,y3⟩:=zaw hP fu q (by rw [hd.len]; exact hxl) (by have:=zfO hd.len hd.mono; omega) (E m n i).To hst (fun h0 => hP n i hPn hn hlt h0)
      have y1':yd fu (E m n i).To q (z6.mk m.Inputs m.Outputs m.Rows) = some (y,m):=y1
      rw [y1',oB,zg,zb9 (by omega)]
      refine ⟨⟨i + 1,rfl,hlt,hd.trans y2,fun j hj h0 => ?_⟩,by simp only; omega⟩
      by_cases e:j = i
      ·subst e; exact y3 h0
      ·exact y2.mono _ (hall j (by omega) h0)
     ·have:i = kk m:=by simp at hc; omega
      subst this
      rw [zg]
      exact ⟨rfl,hd,hall⟩
    obtain ⟨⟨y,m'⟩,e,hm,hd,hall⟩:=run
    simp only at hm hd hall
    subst hm
    rw [e]
    refine ⟨y,rfl,?_,fun _ => hd.mono _ ((z18 (by omega)).2 (.inl rfl))⟩
    refine ⟨by rw [hd.len]; simp,fun t ht => hd.mono t ((z18 (by omega)).2 (.inr ht)),fun t ht => ?_⟩
    rcases hd.new t ht with g | g
    ·rcases (z18 (by omega)).1 g with rfl | g
     ·exact .inr ⟨by simpa using hPs (by omega),hall⟩
     ·exact .inl g
    ·exact .inr g
omit h in
theorem z3E (l:List Bool) (hl:l.length < 4611686018427387904):xD l false = some (!(l.all id)):=by
 unfold xD vG
 have hfs:∀ (l:List Bool) (k:Nat),(y9 (fun i x => if x = true then none else some ((i:Nat):Int)) l k = none ∧ l.all id = true) ∨ ∃ i:Nat,y9 (fun i x => if x = true then none else some ((i:Nat):Int)) l k = some (i:Int) ∧ l.all id = false:=by
  intro l
  induction l with
  | nil => intro k; exact .inl ⟨rfl,rfl⟩
  | cons x l ih =>
   intro k
   simp only [y9,List.all_cons]
   cases x with
   | true => simpa using ih (k + 1)
   | false => exact .inr ⟨k,by simp,by simp⟩
 rw [bdT (yq l hl (step:=fun s => yw l false s) (fun i x => if x = true then none else some ((i:Nat):Int)) ?_ ?_)]
 ·rcases hfs l 0 with ⟨h1,h2⟩ | ⟨i,h1,h2⟩
  ·rw [h1,h2]; rfl
  ·rw [h1,h2]; simp [oS]
 ·intro i x hx
  have hi:=(List.getElem?_eq_some_iff.1 hx).1
  unfold yw
  rw [decide_eq_true (by omega),cond_true,zX hx,oB]
  cases x <;> rfl
 ·unfold yw
  rw [decide_eq_false (by omega),cond_false]
theorem z56:Ret (u9 m) fun r => r.2 = 0 ∧ (r.1 = true ↔ ∀ t,t < m.Rows.length → Rch m t):=by
 have l1:=h.len1
 have l64:=h.len64
 unfold u9
 rw [VV,z1j h,oB,bne_self_eq_false,cond_false,gdT (by omega)]
 have e0:((m.Rows.length:Nat):Int).toNat = m.Rows.length:=by simp
 rw [e0]
 have hun:un (List.replicate m.Rows.length false) < fuel:=by
  have:un (List.replicate m.Rows.length false) ≤ (List.replicate m.Rows.length false).length:=List.countP_le_length
  rw [List.length_replicate] at this
  show _ < 18446744073709551616
  omega
 have hP:∀ t i,Rch m t → t < m.Rows.length → i < kk m → 0 ≤ (E m t i).To → Rch m (E m t i).To.toNat:=fun t i ht _ hi h0 => rch_step ht hi h0
 obtain ⟨y,y1,y2,y3⟩:=zaw h hP fuel (List.replicate m.Rows.length false) (by simp) hun 0 ⟨by omega,by omega⟩ (fun _ => ⟨[],by simp [Wd],rfl⟩)
 have hyl:y.length = m.Rows.length:=by rw [y2.len]; simp
 have no:∀ t:Nat,(List.replicate m.Rows.length false)[t]? ≠ some true:=fun t q => by
  rw [List.getElem?_replicate] at q
  split at q <;> cases q
 rw [y1,oB,z3E y (by omega),oB,zg]
 refine ⟨rfl,?_⟩
 rw [Bool.not_not,List.all_eq_true]
 have clo:∀ (u:List Nat) (t:Nat),Wd (kk m) u → aft m 0 u = (t:Int) → y[t]? = some true:=by
  intro u
  generalize hlen:u.length = n
  induction n generalizing u with
  | zero =>
   intro t _ e
   rw [List.length_eq_zero_iff.1 hlen] at e
   have:t = 0:=by have:(0:Int) = t:=e; omega
   subst this
   exact y3 (by omega)
  | succ n ih =>
   intro t hu e
   have hne:u ≠ []:=by intro q; rw [q] at hlen; simp at hlen
   have hsplit:=List.dropLast_concat_getLast hne
   have hu':Wd (kk m) u.dropLast:=fun i hi => hu i (List.dropLast_subset _ hi)
   have hi:u.getLast hne < kk m:=hu _ (List.getLast_mem hne)
   have h2:=(Ku m u.dropLast 0 (u.getLast hne)).2
   rw [hsplit,e] at h2
   have hin:=z8p h u.dropLast 0 ⟨by omega,by omega⟩ hu'
   by_cases hneg:aft m 0 u.dropLast < 0
   ·exfalso
    unfold nxE at h2
    rw [if_pos hneg] at h2
    simp at h2
   ·obtain ⟨s,hs⟩:∃ s:Nat,aft m 0 u.dropLast = s:=⟨(aft m 0 u.dropLast).toNat,by omega⟩
    have hy:=ih u.dropLast (by simp [hlen]) s hu' hs
    rw [hs,W1] at h2
    rcases y2.new s hy with g | ⟨_,g⟩
    ·exact absurd g (no s)
    ·have:=g _ hi (by omega)
     rw [← h2] at this
     simpa using this
 constructor
 ·intro q t ht
  have hx:y[t]? = some y[t]:=List.getElem?_eq_getElem (by omega)
  have:=q _ (List.mem_of_getElem? hx)
  rw [show y[t] = true from this] at hx
  rcases y2.new t hx with g | ⟨g,_⟩
  ·exact absurd g (no t)
  ·exact g
 ·intro q b hb
  obtain ⟨t,ht⟩:=List.mem_iff_getElem?.1 hb
  have htl:=(List.getElem?_eq_some_iff.1 ht).1
  obtain ⟨u,hu,e⟩:=q t (by omega)
  have:=clo u t hu e
  rw [ht] at this
  cases this
  rfl
end
theorem z1M {α:Type} (x:xh α) (i:Nat) (v:α):(xh.setI x (i:Int) v).toL = x.toL.set i v:=by
 unfold xh.setI
 rw [xh.toL_ofL _ _ (by simp [xh.toL]),Int.toNat_natCast]
theorem zdL {α:Type} {x y:xh α} (h:x.toL = y.toL):x = y:=by
 cases x; cases y
 simp only [xh.toL,List.cons.injEq,and_true] at h
 simp only [xh.mk.injEq]
 exact h
instance:LawfulBEq (xh (wz Int)):={
 eq_of_beq:=by
  intro a b h
  cases a; cases b
  simp only [BEq.beq,Bool.and_eq_true,decide_eq_true_eq] at h
  simp only [xh.mk.injEq]
  obtain ⟨⟨⟨⟨⟨⟨⟨⟨⟨⟨⟨⟨⟨⟨⟨h0,h1⟩,h2⟩,h3⟩,h4⟩,h5⟩,h6⟩,h7⟩,h8⟩,h9⟩,h10⟩,h11⟩,h12⟩,h13⟩,h14⟩,h15⟩:=h
  have e:∀ {p q:wz Int},(p.e0 = q.e0 ∧ p.e1 = q.e1) → p = q:=by
   rintro ⟨a0,a1⟩ ⟨b0,b1⟩ ⟨rfl,rfl⟩; rfl
  exact ⟨e h0,e h1,e h2,e h3,e h4,e h5,e h6,e h7,e h8,e h9,e h10,e h11,e h12,e h13,e h14,e h15⟩
 rfl:=by
  intro a
  cases a
  simp [BEq.beq] }
instance:LawfulBEq zz:={
 eq_of_beq:=by
  intro a b h
  have h:(a.block_ == b.block_ && a.signature_ == b.signature_) = true:=h
  rw [Bool.and_eq_true,beq_iff_eq,beq_iff_eq] at h
  obtain ⟨a0,a1⟩:=a
  obtain ⟨b0,b1⟩:=b
  obtain ⟨h0,h1⟩:=h
  have h0:a0 = b0:=h0
  have h1:a1 = b1:=h1
  rw [h0,h1]
 rfl:=by
  intro a
  show (a.block_ == a.block_ && a.signature_ == a.signature_) = true
  rw [beq_self_eq_true,beq_self_eq_true]; rfl }
def sgN (m:z6) (p:List Int) (s j:Nat):wz Int:=if j < kk m then ⟨(E m s j).Out,if (E m s j).To = -1 then -1 else (p[(E m s j).To.toNat]?).getD 0⟩ else ⟨0,0⟩
theorem z9K {α:Type} (f g:Nat → α) {n i:Nat} (v:α) (h:∀ j,j < n → g j = if j = i then v else f j):((List.range n).map f).set i v = (List.range n).map g:=by
 apply List.ext_getElem?
 intro j
 by_cases hj:j < n
 ·have e1:((List.range n).map g)[j]? = some (g j):=by simp [hj]
  have e2:((List.range n).map f)[j]? = some (f j):=by simp [hj]
  rw [e1,h j hj]
  by_cases e:j = i
  ·subst e
   rw [List.getElem?_set_self (by simpa using hj),if_pos rfl]
  ·rw [List.getElem?_set_ne (fun q => e q.symm),e2,if_neg e]
 ·rw [List.getElem?_eq_none (by simp; omega),List.getElem?_eq_none (by simp; omega)]
section
variable {m:z6} (h:VM m)
include h
theorem zbN {p:List Int} (hp:p.length = m.Rows.length) {s:Nat} (hs:s < m.Rows.length):Ret (jI m p (s:Int)) fun a => a.toL = (List.range 16).map (sgN m p s):=by
 obtain ⟨r,r1,r2,r3⟩:=h.rowAt hs
 have hk:=h.kk_le
 unfold jI Zx
 rw [bdT (zX r1),zA]
 refine Ret.mono ?_ fun a ha => zg.2 ha
 refine yP (fun st => ∃ i:Nat,st.2 = (i:Int) ∧ i ≤ kk m ∧ st.1.toL = (List.range 16).map fun j => if j < i then sgN m p s j else ⟨0,0⟩) (fun st => 20 - st.2.toNat) ⟨0,rfl,by omega,by simp [xh.toL,List.range_succ]⟩ (by show 20 - _ < _; omega) ?_
 rintro ⟨a,_⟩ ⟨i,rfl,hi,ha⟩
 simp only at ha
 show Ret (jG p r a (i:Int)) _
 unfold jG jH
 rw [zS]
 refine ⟨fun hc => ?_,fun hc => ?_⟩
 ·have hc:(i:Int) < ((r.length:Nat):Int):=of_decide_eq_true hc
  have hik:i < kk m:=by omega
  have e1:a.toL[i]? = some ⟨0,0⟩:=by rw [ha]; simp [show i < 16 by omega]
  have w2:w64 ((i:Int) + 1) = ((i + 1:Nat):Int):=by rw [yl (by omega) (by omega)]; rfl
  have hed:=h.edgeAt hs hik
  have step:∀ v:wz Int,sgN m p s i = v → ∀ b:xh (wz Int),b.toL = ((List.range 16).map fun j => if j < i then sgN m p s j else ⟨0,0⟩).set i v → b.toL = (List.range 16).map fun j => if j < i + 1 then sgN m p s j else ⟨0,0⟩:=by
   intro v hv b hb
   rw [hb]
   refine z9K _ _ v fun j hj => ?_
   by_cases e:j = i
   ·subst e
    rw [if_pos (by omega),if_pos rfl,hv]
   ·rw [if_neg e]
    by_cases e2:j < i
    ·rw [if_pos e2,if_pos (by omega)]
    ·rw [if_neg e2,if_neg (by omega)]
  rw [bdT (zX (r3 i hik)),bdT (zX e1),oB,zS]
  refine ⟨fun ht => ?_,fun ht => ?_⟩
  ·have ht:(E m s i).To ≠ -1:=by simpa using ht
   obtain ⟨t,htn⟩:∃ t:Nat,(E m s i).To = t:=⟨(E m s i).To.toNat,by omega⟩
   have hpt:p[t]? = some p[t]:=List.getElem?_eq_getElem (by omega)
   have e2:(xh.setI a (i:Int) ⟨(E m s i).Out,-1⟩).toL[i]? = some ⟨(E m s i).Out,-1⟩:=by
    rw [z1M,List.getElem?_set_self (by rw [ha]; simp; omega)]
   rw [htn,bdT (zX hpt),bdT (zX e2),oB,zg,w2]
   refine ⟨⟨i + 1,rfl,by omega,step _ ?_ _ (by rw [z1M,z1M,ha,List.set_set])⟩,by simp only [Int.toNat_natCast]; omega⟩
   unfold sgN
   rw [if_pos hik,if_neg ht,htn,Int.toNat_natCast,hpt,Option.getD_some]
  ·have ht:(E m s i).To = -1:=by simpa using ht
   rw [zg,w2]
   refine ⟨⟨i + 1,rfl,by omega,step _ ?_ _ (by rw [z1M,ha])⟩,by simp only [Int.toNat_natCast]; omega⟩
   unfold sgN
   rw [if_pos hik,if_pos ht]
 ·have hc:=of_decide_eq_false hc
  have:i = kk m:=by omega
  subst this
  refine zg.2 ?_
  show a.toL = _
  rw [ha]
  refine List.map_congr_left fun j hj => ?_
  unfold sgN
  by_cases e:j < kk m
  ·rw [if_pos e,if_pos e]
  ·rw [if_neg e,if_neg e]
end
def Rgf (l:List Int):Prop:=∀ (s:Nat) (x:Int),l[s]? = some x → ∃ v:Nat,x = (v:Int) ∧ ∀ w:Nat,w < v → ∃ t,t < s ∧ l[t]? = some (w:Int)
theorem z7N {l r:List Int} (hl:Rgf l) (hr:Rgf r) (hlen:l.length = r.length) (h:∀ s t:Nat,s < l.length → t < l.length → (l[s]? = l[t]? ↔ r[s]? = r[t]?)):l = r:=by
 have gen:∀ n s,s < n → s < l.length → l[s]? = r[s]?:=by
  intro n
  induction n with
  | zero => intro s q; omega
  | succ n ih =>
   intro s hs hsl
   have hx:l[s]? = some l[s]:=List.getElem?_eq_getElem hsl
   have hy:r[s]? = some r[s]:=List.getElem?_eq_getElem (by omega)
   by_cases old:∃ t,t < s ∧ l[t]? = l[s]?
   ·obtain ⟨t,t1,t2⟩:=old
    rw [← t2,ih t (by omega) (by omega)]
    exact (h t s (by omega) hsl).1 t2
   ·obtain ⟨v,v1,v2⟩:=hl s _ hx
    obtain ⟨u,u1,u2⟩:=hr s _ hy
    rw [hx,hy,v1,u1]
    rcases Nat.lt_trichotomy v u with q | q | q
    ·exfalso
     obtain ⟨t,t1,t2⟩:=u2 v q
     exact old ⟨t,t1,by rw [ih t (by omega) (by omega),t2,hx,v1]⟩
    ·rw [q]
    ·exfalso
     obtain ⟨t,t1,t2⟩:=v2 u q
     have:r[t]? = r[s]?:=by rw [← ih t (by omega) (by omega),t2,hy,u1]
     exact old ⟨t,t1,(h t s (by omega) hsl).2 this⟩
 apply List.ext_getElem?
 intro s
 by_cases hs:s < l.length
 ·exact gen (s + 1) s (by omega) hs
 ·rw [List.getElem?_eq_none (by omega),List.getElem?_eq_none (by omega)]
theorem z7Z {K V:Type} [BEq K] (x:K) (v:V):∀ l:List (K × V),z1c l x = none → (z8B l x v).length = l.length + 1
 | [],_ => rfl
 | p :: l,hg => by
  simp only [z1c] at hg
  split at hg
  ·cases hg
  ·rename_i q
   simp only [z8B,q]
   show ((p :: z8B l x v).length) = _
   rw [List.length_cons,z7Z x v l hg,List.length_cons]
section
variable {m:z6} (h:VM m)
include h
def zd7 (m:z6) (p:List Int) (s t:Nat):Prop:=p[s]? = p[t]? ∧ ∀ j,j < kk m → sgN m p s j = sgN m p t j
theorem z6X {p:List Int} (hp:p.length = m.Rows.length):Ret (jJ m p) fun q => q.length = m.Rows.length ∧ Rgf q ∧ ∀ s t:Nat,s < m.Rows.length → t < m.Rows.length → (q[s]? = q[t]? ↔ zd7 m p s t):=by
 have hN:=h.len64
 have hk:=h.kk_le
 have hkey:∀ s,s < m.Rows.length → ∃ key:zz,key.block_ = (p[s]?).getD 0 ∧ key.signature_.toL = (List.range 16).map (sgN m p s) ∧ jI m p (s:Int) = some key.signature_:=by
  intro s hs
  obtain ⟨a,a1,a2⟩:=zbN h hp hs
  exact ⟨⟨(p[s]?).getD 0,a⟩,rfl,a2,a1⟩
 have:∃ key:Nat → zz,∀ s,s < m.Rows.length → (key s).block_ = (p[s]?).getD 0 ∧ (key s).signature_.toL = (List.range 16).map (sgN m p s) ∧ jI m p (s:Int) = some (key s).signature_:=by
  classical
  refine ⟨fun s => if q:s < m.Rows.length then (hkey s q).choose else ⟨0,xh.mk ⟨0,0⟩ ⟨0,0⟩ ⟨0,0⟩ ⟨0,0⟩ ⟨0,0⟩ ⟨0,0⟩ ⟨0,0⟩ ⟨0,0⟩ ⟨0,0⟩ ⟨0,0⟩ ⟨0,0⟩ ⟨0,0⟩ ⟨0,0⟩ ⟨0,0⟩ ⟨0,0⟩ ⟨0,0⟩⟩,fun s hs => ?_⟩
  simp only [hs,dif_pos]
  exact (hkey s hs).choose_spec
 obtain ⟨key,hkey⟩:=this
 have alike:∀ s t,s < m.Rows.length → t < m.Rows.length → (key s = key t ↔ zd7 m p s t):=by
  intro s t hs ht
  obtain ⟨a1,a2,_⟩:=hkey s hs
  obtain ⟨b1,b2,_⟩:=hkey t ht
  have xs:p[s]? = some p[s]:=List.getElem?_eq_getElem (by omega)
  have xt:p[t]? = some p[t]:=List.getElem?_eq_getElem (by omega)
  rw [xs,Option.getD_some] at a1
  rw [xt,Option.getD_some] at b1
  constructor
  ·intro e
   refine ⟨by rw [xs,xt,← a1,← b1,e],fun j hj => ?_⟩
   have e2:(List.range 16).map (sgN m p s) = (List.range 16).map (sgN m p t):=by rw [← a2,← b2,e]
   have:=congrArg (fun l => l[j]?) e2
   simpa [show j < 16 by omega] using this
  ·rintro ⟨e1,e2⟩
   have e3:(key s).signature_ = (key t).signature_:=zdL (by
    rw [a2,b2]
    refine List.map_congr_left fun j hj => ?_
    by_cases q:j < kk m
    ·exact e2 j q
    ·unfold sgN
     rw [if_neg q,if_neg q])
   have e4:(key s).block_ = (key t).block_:=by
    rw [a1,b1]
    rw [xs,xt] at e1
    exact Option.some.inj e1
   revert e3 e4
   generalize key s = u
   generalize key t = v
   intro e3 e4
   obtain ⟨u0,u1⟩:=u
   obtain ⟨v0,v1⟩:=v
   simp only at e3 e4
   rw [e3,e4]
 unfold jJ je
 rw [gdT (by omega),zA]
 refine Ret.mono ?_ fun q hq => zg.2 hq
 refine yP (fun st => ∃ i:Nat,st.2.2 = (i:Int) ∧ i ≤ m.Rows.length ∧ st.2.1.length = m.Rows.length ∧ (∀ s,s < i → ∃ v:Nat,st.2.1[s]? = some (v:Int) ∧ v < st.1.length ∧ z1c st.1 (key s) = some (v:Int) ∧ ∀ w:Nat,w < v → ∃ t,t < s ∧ st.2.1[t]? = some (w:Int)) ∧ (∀ w:Nat,w < st.1.length → ∃ t,t < i ∧ st.2.1[t]? = some (w:Int)) ∧
   (∀ k v,z1c st.1 k = some v → ∃ t,t < i ∧ key t = k) ∧ ∀ s t:Nat,s < i → t < i → st.2.1[s]? = st.2.1[t]? → key s = key t) (fun st => 100 - st.2.2.toNat) ⟨0,rfl,by omega,by simp [hp],fun s q => by omega,fun w q => by simp at q,fun k v q => by simp [z1c] at q,fun s t q => by omega⟩ (by show 100 - _ < _; omega) ?_
 rintro ⟨names,out,_⟩ ⟨i,rfl,hi,ho,h1,h2,h3,h4⟩
 simp only at ho h1 h2 h3 h4
 show Ret (vX m p names out (i:Int)) _
 unfold vX
 rw [zS]
 refine ⟨fun hc => ?_,fun hc => ?_⟩
 ·have hc:(i:Int) < ((p.length:Nat):Int):=of_decide_eq_true hc
  have hiN:i < m.Rows.length:=by omega
  obtain ⟨a1,a2,a3⟩:=hkey i hiN
  have xi:p[i]? = some p[i]:=List.getElem?_eq_getElem (by omega)
  rw [xi,Option.getD_some] at a1
  have hmk:zz.mk p[i] (key i).signature_ = key i:=by
   rw [← a1]
  have w2:w64 ((i:Int) + 1) = ((i + 1:Nat):Int):=by rw [yl (by omega) (by omega)]; rfl
  have hoi:out[i]? = some out[i]:=List.getElem?_eq_getElem (by omega)
  rw [bdT (zX xi),bdT a3,oB,hmk]
  cases hg:z1c names (key i) with
  | none =>
   rw [Option.isSome_none,Bool.not_false,cond_true]
   unfold wI
   have hfresh:∀ t,t < i → key t ≠ key i:=fun t ht e => by
    obtain ⟨v,_,_,v3,_⟩:=h1 t ht
    rw [e,hg] at v3
    cases v3
   have hlen:=z7Z (key i) ((names.length:Nat):Int) names hg
   rw [hmk,z1R,if_pos (by simp),Option.getD_some,oB,bdT (zX hoi),zg,w2,Int.toNat_natCast]
   have keep:∀ t:Nat,t < i → (out.set i ((names.length:Nat):Int))[t]? = out[t]?:=fun t ht => List.getElem?_set_ne (by omega)
   have new:(out.set i ((names.length:Nat):Int))[i]? = some ((names.length:Nat):Int):=List.getElem?_set_self (by omega)
   refine ⟨⟨i + 1,rfl,by omega,by simp [ho],fun s hs => ?_,fun w hw => ?_,fun k v q => ?_,fun s t hs ht q => ?_⟩,by simp only [Int.toNat_natCast]; omega⟩
   ·simp only
    by_cases e:s = i
    ·subst e
     refine ⟨names.length,new,by omega,by rw [z1R,if_pos (by simp)],fun w hw => ?_⟩
     obtain ⟨t,t1,t2⟩:=h2 w hw
     exact ⟨t,t1,by rw [keep t t1]; exact t2⟩
    ·obtain ⟨v,v1,v2,v3,v4⟩:=h1 s (by omega)
     refine ⟨v,by rw [keep s (by omega)]; exact v1,by omega,?_,fun w hw => ?_⟩
     ·rw [z1R,if_neg (by simpa using fun q => hfresh s (by omega) q.symm)]
      exact v3
     ·obtain ⟨t,t1,t2⟩:=v4 w hw
      exact ⟨t,t1,by rw [keep t (by omega)]; exact t2⟩
   ·simp only at hw ⊢
    by_cases e:w < names.length
    ·obtain ⟨t,t1,t2⟩:=h2 w e
     exact ⟨t,by omega,by rw [keep t t1]; exact t2⟩
    ·have:w = names.length:=by omega
     subst this
     exact ⟨i,by omega,new⟩
   ·simp only at q
    rw [z1R] at q
    by_cases e:key i = k
    ·exact ⟨i,by omega,e⟩
    ·rw [if_neg (by simpa using e)] at q
     obtain ⟨t,t1,t2⟩:=h3 k v q
     exact ⟨t,by omega,t2⟩
   ·simp only at q
    have low:∀ t,t < i → out[t]? ≠ some ((names.length:Nat):Int):=fun t ht g => by
     obtain ⟨v,v1,v2,_⟩:=h1 t ht
     rw [v1] at g
     have:=Option.some.inj g
     omega
    by_cases es:s = i
    ·by_cases et:t = i
     ·rw [es,et]
     ·exfalso
      rw [es,new,keep t (by omega)] at q
      exact low t (by omega) q.symm
    ·by_cases et:t = i
     ·exfalso
      rw [et,new,keep s (by omega)] at q
      exact low s (by omega) q
     ·rw [keep s (by omega),keep t (by omega)] at q
      exact h4 s t (by omega) (by omega) q
  | some v =>
   rw [Option.isSome_some,Bool.not_true,cond_false]
   unfold wI
   obtain ⟨t0,t1,t2⟩:=h3 _ _ hg
   obtain ⟨u,u1,u2,u3,u4⟩:=h1 t0 t1
   rw [t2,hg] at u3
   have hvu:v = (u:Int):=Option.some.inj u3
   rw [hmk,hg,Option.getD_some,oB,bdT (zX hoi),zg,w2,Int.toNat_natCast]
   have keep:∀ t:Nat,t < i → (out.set i v)[t]? = out[t]?:=fun t ht => List.getElem?_set_ne (by omega)
   have new:(out.set i v)[i]? = some v:=List.getElem?_set_self (by omega)
   refine ⟨⟨i + 1,rfl,by omega,by simp [ho],fun s hs => ?_,fun w hw => ?_,fun k v q => ?_,fun s t hs ht q => ?_⟩,by simp only [Int.toNat_natCast]; omega⟩
   ·simp only
    by_cases e:s = i
    ·subst e
     refine ⟨u,by rw [new,hvu],u2,by rw [hg,hvu],fun w hw => ?_⟩
     obtain ⟨t,g1,g2⟩:=u4 w hw
     exact ⟨t,by omega,by rw [keep t (by omega)]; exact g2⟩
    ·obtain ⟨v',v1,v2,v3,v4⟩:=h1 s (by omega)
     refine ⟨v',by rw [keep s (by omega)]; exact v1,v2,v3,fun w hw => ?_⟩
     obtain ⟨t,g1,g2⟩:=v4 w hw
     exact ⟨t,g1,by rw [keep t (by omega)]; exact g2⟩
   ·simp only at hw ⊢
    obtain ⟨t,g1,g2⟩:=h2 w hw
    exact ⟨t,by omega,by rw [keep t g1]; exact g2⟩
   ·obtain ⟨t,g1,g2⟩:=h3 k v q
    exact ⟨t,by omega,g2⟩
   ·simp only at q
    have like:∀ t,t < i → out[t]? = some v → key t = key i:=fun t ht g => by
     rw [← t2]
     exact h4 t t0 ht t1 (by rw [g,u1,hvu])
    by_cases es:s = i
    ·by_cases et:t = i
     ·rw [es,et]
     ·rw [es,new,keep t (by omega)] at q
      rw [es]
      exact (like t (by omega) q.symm).symm
    ·by_cases et:t = i
     ·rw [et,new,keep s (by omega)] at q
      rw [et]
      exact like s (by omega) q
     ·rw [keep s (by omega),keep t (by omega)] at q
      exact h4 s t (by omega) (by omega) q
 ·have hc:=of_decide_eq_false hc
  have:i = m.Rows.length:=by omega
  subst this
  refine zg.2 ⟨ho,fun s x hx => ?_,fun s t hs ht => ?_⟩
  ·have hs:s < m.Rows.length:=by have:=(List.getElem?_eq_some_iff.1 hx).1; omega
   obtain ⟨v,v1,_,_,v4⟩:=h1 s hs
   rw [hx] at v1
   exact ⟨v,Option.some.inj v1,v4⟩
  ·rw [← alike s t hs ht]
   refine ⟨h4 s t hs ht,fun e => ?_⟩
   obtain ⟨v,v1,_,v3,_⟩:=h1 s hs
   obtain ⟨u,u1,_,u3,_⟩:=h1 t ht
   rw [e,u3] at v3
   rw [v1,u1,← Option.some.inj v3]
end
theorem z6s (a b:List Int) (ha:a.length < 4611686018427387904):w5 a b = some (decide (a = b)):=by
 unfold w5 wW
 by_cases hl:a.length = b.length
 ·have e:(((a.length:Nat):Int) != ((b.length:Nat):Int)) = false:=by simp [hl]
  rw [e,cond_false,yq a ha (step:=fun s => yZ a b s) (fun i x => if b[i]? = some x then none else some false) ?_ ?_]
  ·by_cases q:a = b
   ·rw [jT fun i x hx => by rw [Nat.zero_add,← q,if_pos hx]]
    simp [oS,q]
   ·cases hf:y9 (fun i x => if b[i]? = some x then none else some false) a 0 with
    | none =>
     exfalso
     refine q (List.ext_getElem? fun i => ?_)
     by_cases hi:i < a.length
     ·have hx:a[i]? = some a[i]:=List.getElem?_eq_getElem hi
      have:=xe hf i _ hx
      rw [Nat.zero_add] at this
      split at this
      ·rename_i g; rw [hx,g]
      ·cases this
     ·rw [List.getElem?_eq_none (by omega),List.getElem?_eq_none (by omega)]
    | some r =>
     obtain ⟨i,x,_,h2⟩:=xp hf
     split at h2
     ·cases h2
     ·cases h2
      simp [oS,q]
  ·intro i x hx
   have hi:=(List.getElem?_eq_some_iff.1 hx).1
   have hy:b[i]? = some b[i]:=List.getElem?_eq_getElem (by omega)
   unfold yZ
   rw [decide_eq_true (by omega),cond_true,bdT (zX hx),bdT (zX hy),hy]
   by_cases e2:x = b[i]
   ·rw [e2,bne_self_eq_false,cond_false,if_pos rfl]
    rfl
   ·have e3:(x != b[i]) = true:=by simpa using e2
    rw [e3,cond_true,if_neg fun g => e2 (Option.some.inj g).symm]
    rfl
  ·unfold yZ
   rw [decide_eq_false (by omega),cond_false]
 ·have e:(((a.length:Nat):Int) != ((b.length:Nat):Int)) = true:=by simpa using fun g:(a.length:Int) = b.length => hl (by omega)
  rw [e,cond_true,decide_eq_false fun q => hl (by rw [q])]
section
variable {m:z6} (h:VM m)
include h
omit h in theorem seq_out {s t:Nat} (q:SEq m s t) {j:Nat} (hj:j < kk m):(E m s j).Out = (E m t j).Out ∧ ∀ w:List Nat,(∀ i ∈ w,i < kk m) → rsp m (E m s j).To w = rsp m (E m t j).To w:=by
 have gen:∀ w:List Nat,(∀ i ∈ w,i < kk m) → (E m s j).Out = (E m t j).Out ∧ rsp m (E m s j).To w = rsp m (E m t j).To w:=by
  intro w hw
  have:=q (j :: w) (fun i hi => by rcases List.mem_cons.1 hi with rfl | g; exact hj; exact hw i g)
  simp only [rsp,W1,List.cons.injEq] at this
  exact this
 exact ⟨(gen [] (by simp)).1,fun w hw => (gen w hw).2⟩
theorem z9o {p:List Int} (hp:p.length = m.Rows.length) (hq:∀ s t,s < m.Rows.length → t < m.Rows.length → SEq m s t → p[s]? = p[t]?) {s t:Nat} (hs:s < m.Rows.length) (ht:t < m.Rows.length) (q:SEq m s t):zd7 m p s t:=by
 refine ⟨hq s t hs ht q,fun j hj => ?_⟩
 obtain ⟨o1,o2⟩:=seq_out q hj
 have hes:=h.edgeAt hs hj
 have het:=h.edgeAt ht hj
 unfold sgN
 rw [if_pos hj,if_pos hj,o1]
 rcases hes with ⟨a1,a2⟩ | ⟨a1,a2,a3,a4⟩
 ·rcases het with ⟨b1,b2⟩ | ⟨b1,b2,b3,b4⟩
  ·rw [if_pos a1,if_pos b1]
  ·omega
 ·rcases het with ⟨b1,b2⟩ | ⟨b1,b2,b3,b4⟩
  ·omega
  ·rw [if_neg (by omega),if_neg (by omega)]
   have e1:(((E m s j).To.toNat:Nat):Int) = (E m s j).To:=by omega
   have e2:(((E m t j).To.toNat:Nat):Int) = (E m t j).To:=by omega
   have:=hq _ _ (by omega) (by omega) (show SEq m (E m s j).To.toNat (E m t j).To.toNat from fun w hw => by rw [e1,e2]; exact o2 w hw)
   rw [this]
theorem zan {p:List Int} (hp:p.length = m.Rows.length) (hr:Rgf p) (hf:∀ s t,s < m.Rows.length → t < m.Rows.length → p[s]? = p[t]? → zd7 m p s t):∀ (w:List Nat) (s t:Nat),s < m.Rows.length → t < m.Rows.length → p[s]? = p[t]? → (∀ i ∈ w,i < kk m) → rsp m (s:Int) w = rsp m (t:Int) w
 | [],_,_,_,_,_,_ => rfl
 | j :: w,s,t,hs,ht,e,hw => by
  have hj:j < kk m:=hw j (by simp)
  have hw':∀ i ∈ w,i < kk m:=fun i hi => hw i (by simp [hi])
  have hal:=(hf s t hs ht e).2 j hj
  have hes:=h.edgeAt hs hj
  have het:=h.edgeAt ht hj
  have pos:∀ u:Nat,u < m.Rows.length → 0 ≤ (p[u]?).getD 0:=fun u hu => by
   have hx:p[u]? = some p[u]:=List.getElem?_eq_getElem (by omega)
   obtain ⟨v,v1,_⟩:=hr u _ hx
   rw [hx,Option.getD_some,v1]
   omega
  unfold sgN at hal
  rw [if_pos hj,if_pos hj] at hal
  have a0:=congrArg wz.e0 hal
  have a1:=congrArg wz.e1 hal
  simp only at a0 a1
  simp only [rsp,W1,a0,List.cons.injEq,true_and]
  rcases hes with ⟨b1,b2⟩ | ⟨b1,b2,b3,b4⟩
  ·rcases het with ⟨c1,c2⟩ | ⟨c1,c2,c3,c4⟩
   ·rw [b1,c1]
   ·rw [if_pos b1,if_neg (by omega)] at a1
    have:=pos (E m t j).To.toNat (by omega)
    omega
  ·rcases het with ⟨c1,c2⟩ | ⟨c1,c2,c3,c4⟩
   ·rw [if_neg (by omega),if_pos c1] at a1
    have:=pos (E m s j).To.toNat (by omega)
    omega
   ·rw [if_neg (by omega),if_neg (by omega)] at a1
    have x1:p[(E m s j).To.toNat]? = some p[(E m s j).To.toNat]:=List.getElem?_eq_getElem (by omega)
    have x2:p[(E m t j).To.toNat]? = some p[(E m t j).To.toNat]:=List.getElem?_eq_getElem (by omega)
    have:=zan hp hr hf w (E m s j).To.toNat (E m t j).To.toNat (by omega) (by omega) (by rw [x1,x2] at a1 ⊢; exact congrArg some a1) hw'
    have e1:(((E m s j).To.toNat:Nat):Int) = (E m s j).To:=by omega
    have e2:(((E m t j).To.toNat:Nat):Int) = (E m t j).To:=by omega
    rw [e1,e2] at this
    exact this
def Qs (N:Nat) (p:List Int):Nat:=((List.range N).flatMap fun s => (List.range N).map fun t => (s,t)).countP fun x => decide (p[x.1]? = p[x.2]?)
omit h in
theorem z67 {N s t:Nat}:(s,t) ∈ ((List.range N).flatMap fun s => (List.range N).map fun t => (s,t)) ↔ s < N ∧ t < N:=by
 simp only [List.mem_flatMap,List.mem_map,List.mem_range,Prod.mk.injEq]
 constructor
 ·rintro ⟨a,ha,b,hb,rfl,rfl⟩; exact ⟨ha,hb⟩
 ·rintro ⟨a,b⟩; exact ⟨s,a,t,b,rfl,rfl⟩
theorem z8M:Ret (jK m) fun r => r.2.2 = 0 ∧ r.1.length = m.Rows.length ∧ Rgf r.1 ∧ ∀ s t:Nat,s < m.Rows.length → t < m.Rows.length → (r.1[s]? = r.1[t]? ↔ SEq m s t):=by
 have hN:=h.len64
 have hN1:=h.len1
 unfold jK Yz
 rw [VV,z1j h,oB,bne_self_eq_false,cond_false,oB]
 unfold qC
 rw [gdT (by omega),zA,zA]
 have e0:((m.Rows.length:Nat):Int).toNat = m.Rows.length:=by simp
 rw [e0]
 refine (yP (R:=fun y:LR (List Int × Int) Empty => ∃ p n,y = .next (p,n) ∧ p.length = m.Rows.length ∧ Rgf p ∧ ∀ s t:Nat,s < m.Rows.length → t < m.Rows.length → (p[s]? = p[t]? ↔ SEq m s t))
  (fun st:LR (List Int × Int) Empty × List Int => (∃ x,st.1 = .next x) ∧ st.2.length = m.Rows.length ∧ Rgf st.2 ∧ ∀ s t:Nat,s < m.Rows.length → t < m.Rows.length → SEq m s t → st.2[s]? = st.2[t]?) (fun st => Qs m.Rows.length st.2) ⟨⟨_,rfl⟩,by simp,?_,?_⟩ ?_ ?_).mono ?_
 ·intro s x hx
  simp only [List.getElem?_replicate] at hx
  split at hx
  ·cases hx
   exact ⟨0,rfl,fun w q => by omega⟩
  ·cases hx
 ·intro s t hs ht _
  simp only [List.getElem?_replicate]
  rw [if_pos hs,if_pos ht]
 ·have:Qs m.Rows.length (List.replicate m.Rows.length (0:Int)) ≤ ((List.range m.Rows.length).flatMap fun s => (List.range m.Rows.length).map fun t => (s,t)).length:=List.countP_le_length
  have e:((List.range m.Rows.length).flatMap fun s => (List.range m.Rows.length).map fun t => (s,t)).length = m.Rows.length * m.Rows.length:=by
   rw [List.length_flatMap]
   simp only [List.length_map,List.length_range,List.map_const',List.sum_replicate_nat]
  rw [e] at this
  have:=Nat.mul_le_mul hN hN
  show Qs m.Rows.length (List.replicate m.Rows.length (0:Int)) < 18446744073709551616
  omega
 ·rintro ⟨y,p⟩ ⟨⟨⟨x,n⟩,rfl⟩,hp,hr,hq⟩
  simp only at hp hr hq
  show Ret (vt m (yOf fun s x => wJ s.1 s.2 x) (.next (x,n)) p) _
  unfold vt
  simp only [yOf,wJ,oB,cond_true]
  rw [zA]
  refine (z6X h hp).mono ?_
  rintro q ⟨q1,q2,q3⟩
  rw [z6s p q (by omega),oB,zS]
  refine ⟨fun hc => ?_,fun hc => ?_⟩
  ·have hc:p = q:=of_decide_eq_true hc
   rw [zg]
   refine ⟨p,w64 (n + 1),rfl,hp,hr,fun s t hs ht => ⟨fun e w hw => ?_,hq s t hs ht⟩⟩
   exact zan h hp hr (fun s t hs ht e => (q3 s t hs ht).1 (by rw [← hc]; exact e)) w s t hs ht e hw
  ·have hc:¬ p = q:=of_decide_eq_false hc
   rw [zg]
   refine ⟨⟨⟨_,rfl⟩,q1,q2,fun s t hs ht e => (q3 s t hs ht).2 (z9o h hp hq hs ht e)⟩,?_⟩
   show Qs m.Rows.length q < Qs m.Rows.length p
   unfold Qs
   refine z2Z (fun z hz hd => ?_) ?_
   ·obtain ⟨s,t⟩:=z
    obtain ⟨hs,ht⟩:=z67.1 hz
    simp only [decide_eq_true_eq] at hd ⊢
    exact ((q3 s t hs ht).1 hd).1
   ·refine Classical.byContradiction fun g => hc (z7N hr q2 (by omega) fun s t hs ht => ⟨fun e => ?_,fun e => ((q3 s t (by omega) (by omega)).1 e).1⟩)
    refine Classical.byContradiction fun g2 => g ⟨(s,t),z67.2 ⟨by omega,by omega⟩,by simpa using e,by simpa using g2⟩
 ·rintro y ⟨p,n,rfl,g1,g2,g3⟩
  rw [zg]
  unfold jf
  simp only
  rw [zg]
  exact ⟨rfl,g1,g2,g3⟩
end
theorem zdl:∀ (N:Nat) (l:List Nat),l.Nodup → (∀ t ∈ l,t < N) → l.length ≤ N
 | 0,l,_,h => by
  cases l with
  | nil => exact Nat.le_refl _
  | cons x l => have:=h x (by simp); omega
 | N + 1,l,hn,h => by
  have ih:=zdl N (l.erase N) (hn.erase N) fun t ht => by
   have h1:=h t (List.mem_of_mem_erase ht)
   have h2:t ≠ N:=fun e => by subst e; exact absurd ht (hn.not_mem_erase)
   omega
  by_cases hm:N ∈ l
  ·rw [List.length_erase_of_mem hm] at ih; omega
  ·rw [List.erase_of_not_mem hm] at ih; omega
def Cpl (m:z6):Prop:=∀ s i,s < m.Rows.length → i < kk m → 0 ≤ (E m s i).To
def zfH (m:z6):Prop:=∀ t,t < m.Rows.length → Rch m t
def zfI (m:z6):Prop:=∀ s t,s < m.Rows.length → t < m.Rows.length → SEq m s t → s = t
def PE (m:z6) (e:Int):Prop:=(e = 9 ∧ ¬ Cpl m) ∨ (e = 11 ∧ Cpl m ∧ ¬ zfH m) ∨ (e = 12 ∧ Cpl m ∧ zfH m ∧ ¬ zfI m) ∨ (e = 0 ∧ Cpl m ∧ zfH m ∧ zfI m)
theorem PE.uniq {m:z6} {e f:Int} (h:PE m e) (g:PE m f):e = f:=by
 rcases h with ⟨rfl,a⟩ | ⟨rfl,a,b⟩ | ⟨rfl,a,b,c⟩ | ⟨rfl,a,b,c⟩ <;> rcases g with ⟨rfl,x⟩ | ⟨rfl,x,y⟩ | ⟨rfl,x,y,z⟩ | ⟨rfl,x,y,z⟩ <;> first | rfl | exact absurd x a | exact absurd a x | exact absurd y b | exact absurd b y | exact absurd z c | exact absurd c z
section
variable {m:z6} (h:VM m)
include h
theorem zcB {s:Nat} (hs:s < m.Rows.length) {r:List zh} (r2:r.length = kk m) (r3:∀ i,i < kk m → r[i]? = some (E m s i)) {out0:List (wz Int)} (hl:out0.length ≤ s * 16) :
  Ret (loop (fun st => wh (yOf fun s x => yn s x.1 x.2) (s:Int) r st.1 st.2) ((.next out0:LR (List (wz Int)) Empty),0)) fun y => ∃ out,y = .inl (.next out) ∧ out.length ≤ (s + 1) * 16 ∧ (out = [] ↔ out0 = [] ∧ ∀ i,i < kk m → 0 ≤ (E m s i).To):=by
 have hk:=h.kk_le
 have hN:=h.len64
 refine yP (fun st => ∃ (i:Nat) (out:List (wz Int)),st.2 = (i:Int) ∧ i ≤ kk m ∧ st.1 = .next out ∧ out.length ≤ s * 16 + i ∧ (out = [] ↔ out0 = [] ∧ ∀ j,j < i → 0 ≤ (E m s j).To)) (fun st => 20 - st.2.toNat) ⟨0,out0,rfl,by omega,rfl,by omega,by simp⟩ (by show 20 - _ < _; omega) ?_
 rintro ⟨_,_⟩ ⟨i,out,rfl,hi,rfl,ho,he⟩
 show Ret (wh (yOf fun s x => yn s x.1 x.2) (s:Int) r (.next out) (i:Int)) _
 unfold wh
 rw [zS]
 refine ⟨fun hc => ?_,fun hc => ?_⟩
 ·have hc:(i:Int) < ((r.length:Nat):Int):=of_decide_eq_true hc
  have hik:i < kk m:=by omega
  have w2:w64 ((i:Int) + 1) = ((i + 1:Nat):Int):=by rw [yl (by omega) (by omega)]; rfl
  have hed:=h.edgeAt hs hik
  rw [bdT (zX (r3 i hik))]
  unfold yOf yn u7
  simp only [oB]
  by_cases ht:(E m s i).To = -1
  ·have ho1:(E m s i).Out = -1:=by omega
   rw [ht,ho1]
   simp only [beq_self_eq_true,Bool.and_self,cond_true]
   rw [gdT (by simp; omega)]
   simp only [oB,Bool.not_true,cond_false]
   rw [zg,w2]
   refine ⟨⟨i + 1,_,rfl,by omega,rfl,by simp; omega,?_⟩,by simp only [Int.toNat_natCast]; omega⟩
   constructor
   ·intro q; simp at q
   ·rintro ⟨_,q⟩
    have:=q i (by omega)
    omega
  ·have e1:((E m s i).To == -1) = false:=by simpa using ht
   rw [e1,Bool.false_and,cond_false]
   simp only [oB,Bool.not_true,cond_false]
   rw [zg,w2]
   refine ⟨⟨i + 1,out,rfl,by omega,rfl,by omega,he.trans ?_⟩,by simp only [Int.toNat_natCast]; omega⟩
   constructor
   ·rintro ⟨a,b⟩
    refine ⟨a,fun j hj => ?_⟩
    by_cases e:j = i
    ·subst e; omega
    ·exact b j (by omega)
   ·rintro ⟨a,b⟩; exact ⟨a,fun j hj => b j (by omega)⟩
 ·have hc:=of_decide_eq_false hc
  have:i = kk m:=by omega
  subst this
  exact zg.2 ⟨out,rfl,by omega,he⟩
theorem z6u:Ret (uO m) fun r => r.2 = 0 ∧ (r.1 = true ↔ Cpl m):=by
 have hk:=h.kk_le
 have hN:=h.len64
 unfold uO jn YB
 rw [VV,z1j h,oB,bne_self_eq_false,cond_false,oB]
 unfold qJ
 rw [zA,zA,zA]
 refine (yP (R:=fun y:LR (List (wz Int)) Empty => ∃ out,y = .next out ∧ out.length ≤ 2000 ∧ (out = [] ↔ Cpl m)) (fun st:LR (List (wz Int)) Empty × Int => ∃ (s:Nat) (out:List (wz Int)),st.2 = (s:Int) ∧ s ≤ m.Rows.length ∧ st.1 = .next out ∧ out.length ≤ s * 16 ∧ (out = [] ↔ ∀ t j,t < s → j < kk m → 0 ≤ (E m t j).To)) (fun st => 100 - st.2.toNat) ⟨0,[],rfl,by omega,rfl,by simp,by simp⟩ (by show 100 - _ < _; omega) ?_).mono ?_
 ·rintro ⟨_,_⟩ ⟨s,out,rfl,hs,rfl,ho,he⟩
  show Ret (vC m (yOf fun s x => yn s x.1 x.2) (.next out) (s:Int)) _
  unfold vC
  rw [zS]
  refine ⟨fun hc => ?_,fun hc => ?_⟩
  ·have hc:(s:Int) < ((m.Rows.length:Nat):Int):=of_decide_eq_true hc
   have hsN:s < m.Rows.length:=by omega
   obtain ⟨r,r1,r2,r3⟩:=h.rowAt hsN
   rw [bdT (zX r1),zA]
   refine (zcB h hsN r2 r3 ho).mono ?_
   rintro y ⟨out',rfl,g1,g2⟩
   simp only
   unfold qh
   rw [zg,yl (x:=(s:Int) + 1) (by omega) (by omega)]
   refine ⟨⟨s + 1,out',rfl,by omega,rfl,g1,g2.trans ?_⟩,by simp only; omega⟩
   rw [he]
   constructor
   ·rintro ⟨a,b⟩ t j ht hj
    by_cases e:t = s
    ·subst e; exact b j hj
    ·exact a t j (by omega) hj
   ·intro a
    exact ⟨fun t j ht hj => a t j (by omega) hj,fun j hj => a s j (by omega) hj⟩
  ·have hc:=of_decide_eq_false hc
   have:s = m.Rows.length:=by omega
   subst this
   exact zg.2 ⟨out,rfl,by omega,he⟩
 ·rintro y ⟨out,rfl,g1,g2⟩
  rw [zg]
  simp only
  unfold u6 wX
  rw [gdT (by omega),oB,zg,zg]
  refine ⟨rfl,?_⟩
  rw [← g2]
  cases out with
  | nil => simp
  | cons a l => simp; omega
theorem z8I {s:Nat} (hs:s < m.Rows.length) {n0 b:Nat} {P:Prop} (h0:n0 ≤ b) (hb:b ≤ 2000) (hP:n0 = b ↔ P):Ret (loop (fun st => vN m (s:Int) st.1 st.2) ((n0:Int),0)) fun n => ∃ k:Nat,n = (k:Int) ∧ k ≤ b + kk m ∧ (k = b + kk m ↔ P ∧ ∀ i,i < kk m → 0 ≤ (E m s i).To):=by
 have hk:=h.kk_le
 have hke:=h.kk_eq
 refine yP (fun st => ∃ (i k:Nat),st.2 = (i:Int) ∧ i ≤ kk m ∧ st.1 = (k:Int) ∧ k ≤ b + i ∧ (k = b + i ↔ P ∧ ∀ j,j < i → 0 ≤ (E m s j).To)) (fun st => 20 - st.2.toNat) ⟨0,n0,rfl,by omega,rfl,by omega,by simpa using hP⟩ (by show 20 - _ < _; omega) ?_
 rintro ⟨_,_⟩ ⟨i,k,rfl,hi,rfl,hk1,he⟩
 show Ret (vN m (s:Int) (k:Int) (i:Int)) _
 unfold vN qI
 rw [zS]
 refine ⟨fun hc => ?_,fun hc => ?_⟩
 ·have hc:(i:Int) < m.Inputs:=of_decide_eq_true hc
  have hik:i < kk m:=by omega
  have w2:w64 ((i:Int) + 1) = ((i + 1:Nat):Int):=by rw [yl (by omega) (by omega)]; rfl
  have w3:w64 ((k:Int) + 1) = ((k + 1:Nat):Int):=by rw [yl (by omega) (by omega)]; rfl
  refine h.ret_edge hs hik ?_
  rw [zS]
  refine ⟨fun ht => ?_,fun ht => ?_⟩
  ·have ht:(E m s i).To ≥ 0:=of_decide_eq_true ht
   rw [zg,w2,w3]
   refine ⟨⟨i + 1,k + 1,rfl,by omega,rfl,by omega,(show k + 1 = b + (i + 1) ↔ k = b + i by omega).trans (he.trans ?_)⟩,by simp only [Int.toNat_natCast]; omega⟩
   constructor
   ·rintro ⟨a,c⟩
    refine ⟨a,fun j hj => ?_⟩
    by_cases e:j = i
    ·subst e; omega
    ·exact c j (by omega)
   ·rintro ⟨a,c⟩; exact ⟨a,fun j hj => c j (by omega)⟩
  ·have ht:=of_decide_eq_false ht
   rw [zg,w2]
   refine ⟨⟨i + 1,k,rfl,by omega,rfl,by omega,?_⟩,by simp only [Int.toNat_natCast]; omega⟩
   constructor
   ·intro q; omega
   ·rintro ⟨_,c⟩
    have:=c i (by omega)
    omega
 ·have hc:=of_decide_eq_false hc
  have:i = kk m:=by omega
  subst this
  exact zg.2 ⟨k,rfl,hk1,he⟩
theorem z4L:Ret (kA m) fun b => b = true ↔ Cpl m:=by
 have hk:=h.kk_le
 have hN:=h.len64
 have hke:=h.kk_eq
 unfold kA Xj kP
 rw [zA,zA]
 refine (yP (R:=fun n:Int => ∃ k:Nat,n = (k:Int) ∧ (k = m.Rows.length * kk m ↔ Cpl m)) (fun st:Int × Int => ∃ s k:Nat,st.2 = (s:Int) ∧ s ≤ m.Rows.length ∧ st.1 = (k:Int) ∧ k ≤ s * kk m ∧ (k = s * kk m ↔ ∀ t j,t < s → j < kk m → 0 ≤ (E m t j).To)) (fun st => 100 - st.2.toNat) ⟨0,0,rfl,by omega,rfl,by omega,by simp⟩ (by show 100 - _ < _; omega) ?_).mono ?_
 ·rintro ⟨_,_⟩ ⟨s,k,rfl,hs,rfl,hk1,he⟩
  show Ret (qH m (k:Int) (s:Int)) _
  unfold qH
  rw [zS]
  refine ⟨fun hc => ?_,fun hc => ?_⟩
  ·have hc:(s:Int) < ((m.Rows.length:Nat):Int):=of_decide_eq_true hc
   have hb:s * kk m ≤ 64 * 16:=Nat.mul_le_mul (by omega) hk
   rw [zA]
   refine (z8I h (s:=s) (by omega) hk1 (by omega) he).mono ?_
   rintro n ⟨k',rfl,g1,g2⟩
   unfold kO
   have e:s * kk m + kk m = (s + 1) * kk m:=by rw [Nat.succ_mul]
   rw [e] at g1 g2
   rw [zg,yl (x:=(s:Int) + 1) (by omega) (by omega)]
   refine ⟨⟨s + 1,k',rfl,by omega,rfl,g1,g2.trans ?_⟩,by simp only; omega⟩
   constructor
   ·rintro ⟨a,b⟩ t j ht hj
    by_cases e:t = s
    ·subst e; exact b j hj
    ·exact a t j (by omega) hj
   ·intro a
    exact ⟨fun t j ht hj => a t j (by omega) hj,fun j hj => a s j (by omega) hj⟩
  ·have hc:=of_decide_eq_false hc
   have:s = m.Rows.length:=by omega
   subst this
   exact zg.2 ⟨k,rfl,he⟩
 ·rintro n ⟨k,rfl,g⟩
  rw [zg,zg]
  have hb:m.Rows.length * kk m ≤ 64 * 16:=Nat.mul_le_mul hN hk
  have e:((m.Rows.length:Nat):Int) * m.Inputs = ((m.Rows.length * kk m:Nat):Int):=by rw [← hke,Int.natCast_mul]
  rw [e,yl (by omega) (by omega),← g,beq_iff_eq]
  omega
theorem z3D:Ret (jO m) fun b => b = true ↔ zfH m:=by
 have hN:=h.len64
 unfold jO jk
 rw [zA]
 refine (z6Y h).mono ?_
 rintro is ⟨h1,h2⟩
 have hl:=yq is (by omega) (step:=fun s => wL is s) (fun _ b => if b = true then none else some false) (by
  intro i b hb
  have hi:=(List.getElem?_eq_some_iff.1 hb).1
  unfold wL
  rw [decide_eq_true (by omega),cond_true,bdT (zX hb)]
  cases b <;> rfl) (by
  unfold wL
  rw [decide_eq_false (by omega),cond_false])
 rw [hl,oB]
 cases hf:y9 (fun _ b => if b = true then none else some false) is 0 with
 | none =>
  show Ret (some true) _
  rw [zg]
  refine ⟨fun _ t ht => ?_,fun _ => rfl⟩
  have hx:is[t]? = some is[t]:=List.getElem?_eq_getElem (by omega)
  have:=xe hf t _ hx
  split at this
  ·rename_i q
   rw [q] at hx
   exact (h2 t ht).1 hx
  ·cases this
 | some r =>
  obtain ⟨t,b,hb,q⟩:=xp hf
  split at q
  ·cases q
  ·cases q
   rename_i g
   show Ret (some false) _
   rw [zg]
   constructor
   ·intro q; cases q
   ·intro q
    have htl:=(List.getElem?_eq_some_iff.1 hb).1
    have:=(h2 t (by omega)).2 (q t (by omega))
    rw [hb] at this
    exact absurd (Option.some.inj this) g
omit h in
theorem zeN {l:List Int} (h0:0 < l.length) (hl:l.length ≤ 100000):Ret (vV l) fun x => x ∈ l ∧ ∀ y ∈ l,y ≤ x:=by
 unfold vV vU
 have e0:l[0]? = some l[0]:=List.getElem?_eq_getElem h0
 rw [decide_eq_false (by omega),cond_false,bdT (show idx l 0 = some l[0] from e0),zA]
 refine Ret.mono ?_ fun x hx => zg.2 hx
 refine yP (fun st => ∃ i:Nat,st.2 = (i:Int) ∧ 1 ≤ i ∧ i ≤ l.length ∧ st.1 ∈ l ∧ ∀ j y,j < i → l[j]? = some y → y ≤ st.1) (fun st => 100000 - st.2.toNat) ⟨1,rfl,by omega,by omega,List.getElem_mem _,fun j y hj hy => by
  have:j = 0:=by omega
  subst this
  rw [e0] at hy
  cases hy
  exact Int.le_refl _⟩ (by show 100000 - _ < _; omega) ?_
 rintro ⟨x,_⟩ ⟨i,rfl,i1,i2,hx,hm⟩
 simp only at hx hm
 show Ret (ws l x (i:Int)) _
 unfold ws
 rw [zS]
 refine ⟨fun hc => ?_,fun hc => ?_⟩
 ·have hc:(i:Int) < ((l.length:Nat):Int):=of_decide_eq_true hc
  have hy:l[i]? = some l[i]:=List.getElem?_eq_getElem (by omega)
  rw [bdT (zX hy),zg,yl (x:=(i:Int) + 1) (by omega) (by omega)]
  refine ⟨⟨i + 1,rfl,by omega,by omega,?_,fun j y hj hjy => ?_⟩,by simp only; omega⟩
  ·show mx x l[i] ∈ l
   unfold mx
   split
   ·exact List.getElem_mem _
   ·exact hx
  ·show y ≤ mx x l[i]
   unfold mx
   by_cases e:j = i
   ·subst e
    rw [hy] at hjy
    cases hjy
    split <;> omega
   ·have:=hm j y (by omega) hjy
    split <;> omega
 ·have hc:=of_decide_eq_false hc
  refine zg.2 ⟨hx,fun y hy => ?_⟩
  obtain ⟨j,hj⟩:=List.mem_iff_getElem?.1 hy
  exact hm j y (by have:=(List.getElem?_eq_some_iff.1 hj).1; omega) hj
omit h in
theorem zet {p:List Int} (hr:Rgf p) (h0:0 < p.length) {x:Int} (hx:x ∈ p) (hm:∀ y ∈ p,y ≤ x):x = (p.length:Int) - 1 ↔ ∀ s t:Nat,s < p.length → t < p.length → p[s]? = p[t]? → s = t:=by
 constructor
 ·intro e
  obtain ⟨s0,hs0⟩:=List.mem_iff_getElem?.1 hx
  obtain ⟨v,v1,v2⟩:=hr s0 x hs0
  have hs0l:=(List.getElem?_eq_some_iff.1 hs0).1
  have place:∀ w:Nat,w < p.length → ∃ s,s < p.length ∧ p[s]? = some (w:Int):=by
   intro w hw
   by_cases q:w = v
   ·subst q; exact ⟨s0,hs0l,by rw [hs0,v1]⟩
   ·obtain ⟨t,t1,t2⟩:=v2 w (by omega)
    exact ⟨t,by omega,t2⟩
  intro s t hs ht hst
  refine Classical.byContradiction fun hne => ?_
  have:∃ g:Nat → Nat,∀ w,w < p.length → g w < p.length ∧ p[g w]? = some (w:Int):=by
   classical
   exact ⟨fun w => if q:w < p.length then (place w q).choose else 0,fun w hw => by simp only [hw,dif_pos]; exact (place w hw).choose_spec⟩
  obtain ⟨g,hg⟩:=this
  have:∃ u,u < p.length ∧ ∀ w,w < p.length → g w ≠ u:=by
   refine Classical.byContradiction fun q => ?_
   have q:∀ u,u < p.length → ∃ w,w < p.length ∧ g w = u:=fun u hu => Classical.byContradiction fun q2 => q ⟨u,hu,fun w hw e => q2 ⟨w,hw,e⟩⟩
   obtain ⟨a,a1,rfl⟩:=q s hs
   obtain ⟨b,b1,rfl⟩:=q t ht
   rw [(hg a a1).2,(hg b b1).2] at hst
   have:a = b:=by have:=Option.some.inj hst; omega
   exact hne (by rw [this])
  obtain ⟨u,hu,hgu⟩:=this
  have hnd:(u :: (List.range p.length).map g).Nodup:=by
   rw [List.nodup_cons]
   refine ⟨fun q => ?_,?_⟩
   ·obtain ⟨w,hw,e⟩:=List.mem_map.1 q
    exact hgu w (List.mem_range.1 hw) e
   ·rw [List.Nodup,List.pairwise_map]
    refine List.Pairwise.imp_of_mem (fun {a b} ha hb hab => ?_) List.nodup_range
    intro e
    have ha:=hg a (List.mem_range.1 ha)
    have hb:=hg b (List.mem_range.1 hb)
    rw [e,hb.2] at ha
    have:=Option.some.inj ha.2
    omega
  have:=zdl p.length _ hnd (fun w hw => by
   rcases List.mem_cons.1 hw with rfl | q
   ·exact hu
   ·obtain ⟨z,hz,rfl⟩:=List.mem_map.1 q
    exact (hg z (List.mem_range.1 hz)).1)
  simp at this
  omega
 ·intro q
  have e:p = (List.range p.length).map Int.ofNat:=by
   refine z7N hr (fun s y hy => ?_) (by simp) fun s t hs ht => ?_
   ·have hs:s < p.length:=by have:=(List.getElem?_eq_some_iff.1 hy).1; simpa using this
    simp [hs] at hy
    refine ⟨s,hy.symm,fun w hw => ⟨w,hw,by simp [show w < p.length by omega]⟩⟩
   ·constructor
    ·intro g; rw [q s t hs ht g]
    ·intro g
     simp [hs,ht] at g
     have:s = t:=by omega
     rw [this]
  have hin:((p.length - 1:Nat):Int) ∈ (List.range p.length).map Int.ofNat:=List.mem_map.2 ⟨p.length - 1,List.mem_range.2 (by omega),rfl⟩
  rw [← e] at hin
  have h1:=hm _ hin
  rw [e] at hx
  obtain ⟨w,hw,rfl⟩:=List.mem_map.1 hx
  have:=List.mem_range.1 hw
  have:Int.ofNat w = (w:Int):=rfl
  omega
theorem z3V:Ret (yV m) (PE m):=by
 have hN:=h.len64
 have hN1:=h.len1
 unfold yV ZK ke kc kb qg
 rw [VV,z1j h,oB,bne_self_eq_false,cond_false,oB,zA,zA]
 refine (z6u h).mono ?_
 rintro ⟨b1,_⟩ ⟨_,hb1⟩
 rw [zg]
 simp only at hb1 ⊢
 cases b1 with
 | false => exact zg.2 (.inl ⟨rfl,fun q => by have:=hb1.2 q; cases this⟩)
 | true =>
  have hc:=hb1.1 rfl
  simp only [Bool.not_true,cond_false]
  rw [zA,zA]
  refine (z56 h).mono ?_
  rintro ⟨b2,_⟩ ⟨_,hb2⟩
  rw [zg]
  simp only at hb2 ⊢
  cases b2 with
  | false => exact zg.2 (.inr (.inl ⟨rfl,hc,fun q => by have:=hb2.2 q; cases this⟩))
  | true =>
   have hr:=hb2.1 rfl
   simp only [Bool.not_true,cond_false]
   rw [zA,zA]
   refine (z8M h).mono ?_
   rintro ⟨p,n,e⟩ ⟨_,hp,hrg,hq⟩
   simp only at hp hrg hq ⊢
   rw [zA]
   refine (zeN (l:=p) (by omega) (by omega)).mono ?_
   rintro x ⟨x1,x2⟩
   have hmax:=zet hrg (by omega) x1 x2
   rw [zg,yl (x:=((p.length:Nat):Int) - 1) (by omega) (by omega)]
   have hd:zfI m ↔ ∀ s t:Nat,s < p.length → t < p.length → p[s]? = p[t]? → s = t:=by
    rw [hp]
    exact ⟨fun d s t hs ht g => d s t hs ht ((hq s t hs ht).1 g),fun d s t hs ht g => d s t hs ht ((hq s t hs ht).2 g)⟩
   by_cases g:x = (p.length:Int) - 1
   ·rw [beq_iff_eq.2 g]
    simp only [Bool.not_true,cond_false]
    exact zg.2 (.inr (.inr (.inr ⟨rfl,hc,hr,hd.2 (hmax.1 g)⟩)))
   ·have:(x == (p.length:Int) - 1) = false:=by simpa using g
    rw [this]
    simp only [Bool.not_false,cond_true]
    exact zg.2 (.inr (.inr (.inl ⟨rfl,hc,hr,fun d => g (hmax.2 (hd.1 d))⟩)))
theorem z6V:Ret (jM m) (PE m):=by
 have hN:=h.len64
 unfold jM ZA
 rw [z5V,z1j h,oB,bne_self_eq_false,cond_false,zA]
 refine (z4L h).mono ?_
 intro b1 hb1
 cases b1 with
 | false => exact zg.2 (.inl ⟨rfl,fun q => by have:=hb1.2 q; cases this⟩)
 | true =>
  have hc:=hb1.1 rfl
  simp only [Bool.not_true,cond_false]
  rw [zA]
  refine (z3D h).mono ?_
  intro b2 hb2
  cases b2 with
  | false => exact zg.2 (.inr (.inl ⟨rfl,hc,fun q => by have:=hb2.2 q; cases this⟩))
  | true =>
   have hr:=hb2.1 rfl
   simp only [Bool.not_true,cond_false]
   rw [zA]
   refine (z7j h.wm).mono ?_
   rintro p ⟨hp,hq⟩
   have inner:∀ (s:Nat) (x:Int),p[s]? = some x → loop (fun t => uF p (s:Int) t) 0 = some (oS (y9 (fun i y => if y = x then some (12:Int) else none) (p.take s) 0)):=by
    intro s x hx
    have hs:=(List.getElem?_eq_some_iff.1 hx).1
    refine yq (p.take s) (by rw [List.length_take]; omega) _ ?_ ?_
    ·intro i y hy
     have hi:=(List.getElem?_eq_some_iff.1 hy).1
     rw [List.length_take] at hi
     have hy':p[i]? = some y:=by rw [List.getElem?_take_of_lt (by omega)] at hy; exact hy
     unfold uF
     rw [decide_eq_true (by omega),cond_true,bdT (zX hx),bdT (zX hy')]
     by_cases e:y = x
     ·rw [if_pos e,e,beq_self_eq_true,cond_true]; rfl
     ·have:(x == y) = false:=by simpa using fun q => e q.symm
      rw [if_neg e,this,cond_false]; rfl
    ·unfold uF
     rw [decide_eq_false (by rw [List.length_take]; omega),cond_false]
   have outer:=yq p (by omega) (step:=fun s => uG p s) (fun s x => y9 (fun i y => if y = x then some (12:Int) else none) (p.take s) 0) (by
    intro s x hx
    have hs:=(List.getElem?_eq_some_iff.1 hx).1
    unfold uG Zz
    rw [decide_eq_true (by omega),cond_true,inner s x hx,oB]
    cases y9 (fun i y => if y = x then some (12:Int) else none) (p.take s) 0 <;> rfl) (by
    unfold uG
    rw [decide_eq_false (by omega),cond_false])
   rw [outer,oB]
   cases hf:y9 (fun s x => y9 (fun i y => if y = x then some (12:Int) else none) (p.take s) 0) p 0 with
   | none =>
    refine zg.2 (.inr (.inr (.inr ⟨rfl,hc,hr,?_⟩)))
    have lt:∀ s t,s < m.Rows.length → t < s → ¬ SEq m s t:=by
     intro s t hs ht g
     have hx:p[s]? = some p[s]:=List.getElem?_eq_getElem (by omega)
     have hy:(p.take s)[t]? = p[t]?:=List.getElem?_take_of_lt ht
     have h1:=xe hf s _ hx
     rw [Nat.zero_add] at h1
     have h2:=xe h1 t p[s] (by rw [hy,← (hq s t hs (by omega)).2 g,hx])
     rw [if_pos rfl] at h2
     cases h2
    intro s t hs ht g
    rcases Nat.lt_trichotomy s t with q | q | q
    ·exact absurd (fun w hw => (g w hw).symm) (lt t s ht q)
    ·exact q
    ·exact absurd g (lt s t hs q)
   | some r =>
    obtain ⟨s,x,hx,h1⟩:=xp hf
    rw [Nat.zero_add] at h1
    obtain ⟨t,y,hy,h2⟩:=xp h1
    split at h2
    ·rename_i e
     cases h2
     refine zg.2 (.inr (.inr (.inl ⟨rfl,hc,hr,fun d => ?_⟩)))
     have hs:=(List.getElem?_eq_some_iff.1 hx).1
     have ht:=(List.getElem?_eq_some_iff.1 hy).1
     rw [List.length_take] at ht
     rw [List.getElem?_take_of_lt (by omega)] at hy
     have:=d s t (by omega) (by omega) ((hq s t (by omega) (by omega)).1 (by rw [hx,hy,e]))
     omega
    ·cases h2
end
theorem z6Z (m:z6):∃ e:Int,yV m = some e ∧ jM m = some e ∧ (e = 0 ↔ VM m ∧ Cpl m ∧ zfH m ∧ zfI m) ∧ (chk m ≠ 0 → e = chk m):=by
 by_cases hc:chk m = 0
 ·have v:=zjC hc
  obtain ⟨e,e1,e2⟩:=z3V v
  obtain ⟨f,f1,f2⟩:=z6V v
  rw [← e2.uniq f2] at f1
  refine ⟨e,e1,f1,?_,fun q => absurd hc q⟩
  constructor
  ·rintro rfl
   rcases e2 with ⟨q,_⟩ | ⟨q,_⟩ | ⟨q,_⟩ | ⟨_,a,b,c⟩
   ·omega
   ·omega
   ·omega
   ·exact ⟨v,a,b,c⟩
  ·rintro ⟨_,a,b,c⟩
   exact e2.uniq (.inr (.inr (.inr ⟨rfl,a,b,c⟩)))
 ·have hb:(chk m != 0) = true:=by simpa using hc
  refine ⟨chk m,?_,?_,⟨fun q => absurd q hc,fun q => absurd (z1j q.1) hc⟩,fun _ => rfl⟩
  ·unfold yV
   rw [VV,oB,hb,cond_true]
  ·unfold jM
   rw [z5V,oB,hb,cond_true]
section
variable {S:Type} {k:Nat} {bad:S → Nat → Bool} {nx:S → Nat → Option S}
def Lst (k:Nat) (bad:S → Nat → Bool) (nx:S → Nat → Option S) (p:S) (w:List Nat):Prop :=
 z1F k bad nx p w ∧ ∀ v,z1F k bad nx p v → w.length ≤ v.length ∧ (w.length = v.length → zd4 w v)
theorem z42:∀ {w v:List Nat},zd4 w v → zd4 v w → w.length = v.length → w = v
 | [],[],_,_,_ => rfl
 | [],_ :: _,_,_,h => by simp at h
 | _ :: _,[],_,_,h => by simp at h
 | i :: u,j :: v,h1,h2,hl => by
  rcases h1 with a | ⟨rfl,a⟩
  ·rcases h2 with b | ⟨b,_⟩ <;> omega
  ·rcases h2 with b | ⟨_,b⟩
   ·omega
   ·rw [z42 a b (by simpa using hl)]
theorem Lst.uniq {p:S} {w v:List Nat} (h:Lst k bad nx p w) (g:Lst k bad nx p v):w = v:=by
 have a:=h.2 v g.1
 have b:=g.2 w h.1
 exact z42 (a.2 (by omega)) (b.2 (by omega)) (by omega)
theorem Lst.le {n:Nat} {p:S} {w:List Nat} (h:Lst k bad nx p w) (hm:Mk k bad nx n p):w.length ≤ n:=by
 obtain ⟨v,h1,h2⟩:=hm.tell
 have:=(h.2 v h1).1
 omega
theorem zeO {p:S} {i:Nat} (hi:i < k) (hb:bad p i = true) (hl:∀ j,j < i → bad p j = false):Lst k bad nx p [i]:=by
 refine ⟨⟨hi,hb⟩,fun v hv => ?_⟩
 cases v with
 | nil => exact hv.elim
 | cons j v =>
  refine ⟨by simp,fun e => ?_⟩
  have:v = []:=by simpa using e.symm
  subst this
  rcases Nat.lt_trichotomy i j with q | q | q
  ·exact .inl q
  ·exact .inr ⟨q,trivial⟩
  ·have:=hl j q
   rw [hv.2] at this
   cases this
theorem z9Y {n:Nat} {p:S} (hn:¬ Mk k bad nx (n + 1) p) {j:Nat} (hj:j < k):bad p j = false:=by
 cases hc:bad p j with
 | false => rfl
 | true => exact (hn ((Mk.mono (n:=1) (.inr ⟨j,hj,.inl hc⟩) (by omega)))).elim
theorem zce {n:Nat} {p q:S} {i:Nat} {u:List Nat} (hn:¬ Mk k bad nx (n + 1) p) (hi:i < k) (hq:nx p i = some q) (hu:Lst k bad nx q u) (hul:u.length = n + 1)
  (hl:∀ j,j < i → ∀ r,nx p j = some r → ¬ Mk k bad nx (n + 1) r):Lst k bad nx p (i :: u):=by
 refine ⟨?_,fun v hv => ?_⟩
 ·cases u with
  | nil => simp at hul
  | cons j u => exact ⟨hi,z9Y hn hi,q,hq,hu.1⟩
 ·have hlen:n + 2 ≤ v.length:=by
   rcases Nat.lt_or_ge v.length (n + 2) with g | g
   ·exact (hn (Mk.mono (UH hv) (by omega))).elim
   ·exact g
  refine ⟨by simp [hul]; omega,fun e => ?_⟩
  match v,hv with
  | [],hv => exact hv.elim
  | [j],hv => simp [hul] at e
  | j :: x :: v,⟨hj,hjb,r,hr,hv⟩ =>
   have hmj:Mk k bad nx (n + 1) r:=Mk.mono (UH hv) (by simp [hul] at e ⊢; omega)
   rcases Nat.lt_trichotomy i j with g | rfl | g
   ·exact .inl g
   ·rw [hq] at hr
    cases hr
    exact .inr ⟨rfl,(hu.2 _ hv).2 (by simpa using e)⟩
   ·exact (hl j g r hr hmj).elim
end
section
variable {m:z6} (h:WM m)
theorem z8m (p:Nat × Nat) (i:Nat):YD m m (p.2,p.1) i = YD m m p i:=by
 unfold YD
 exact bne_comm
theorem zeH (p:Nat × Nat) (i:Nat):nxP m m (p.2,p.1) i = (nxP m m p i).map fun q => (q.2,q.1):=by
 unfold nxP
 by_cases e:0 ≤ (E m p.1 i).To ∧ 0 ≤ (E m p.2 i).To
 ·rw [if_pos e,if_pos ⟨e.2,e.1⟩]
  rfl
 ·rw [if_neg e,if_neg fun q => e ⟨q.2,q.1⟩]
  rfl
theorem z7s:∀ {w:List Nat} {p:Nat × Nat},z1F (kk m) (YD m m) (nxP m m) p w → z1F (kk m) (YD m m) (nxP m m) (p.2,p.1) w
 | [],_,g => g.elim
 | [i],p,g => ⟨g.1,by rw [z8m]; exact g.2⟩
 | i :: j :: w,p,⟨hi,hb,q,hq,g⟩ => ⟨hi,by rw [z8m]; exact hb,(q.2,q.1),by rw [zeH,hq]; rfl,z7s g⟩
theorem zcd {w:List Nat} {p:Nat × Nat} (g:Lst (kk m) (YD m m) (nxP m m) p w):Lst (kk m) (YD m m) (nxP m m) (p.2,p.1) w :=
 ⟨z7s g.1,fun v hv => g.2 v (z7s hv)⟩
theorem z75 {n:Nat} {p:Nat × Nat} (g:Mk (kk m) (YD m m) (nxP m m) n p):Mk (kk m) (YD m m) (nxP m m) n (p.2,p.1):=by
 obtain ⟨w,h1,h2⟩:=g.tell
 exact (UH (z7s h1)).mono h2
theorem z5C:∀ {w:List Nat} {s:Nat},¬ z1F (kk m) (YD m m) (nxP m m) (s,s) w
 | [],_,g => g
 | [i],s,g => by
  have:=g.2
  simp [YD] at this
 | i :: j :: w,s,⟨_,_,q,hq,g⟩ => by
  unfold nxP at hq
  split at hq
  ·cases hq
   exact z5C g
  ·cases hq
theorem zeM {n s:Nat}:¬ Mk (kk m) (YD m m) (nxP m m) n (s,s):=fun g => by
 obtain ⟨w,h1,_⟩:=g.tell
 exact z5C h1
include h
theorem z7M:∀ (w:List Nat) (p:Nat × Nat),p.1 < m.Rows.length → p.2 < m.Rows.length → Wd (kk m) w → rsp m (p.1:Int) w ≠ rsp m (p.2:Int) w → ∃ v u,z1F (kk m) (YD m m) (nxP m m) p v ∧ w = v ++ u
 | [],_,_,_,_,q => (q rfl).elim
 | i :: w,p,h1,h2,hw,q => by
  have hi:=hw i (by simp)
  by_cases hb:YD m m p i = true
  ·exact ⟨[i],w,⟨hi,hb⟩,rfl⟩
  ·have he:(E m p.1 i).Out = (E m p.2 i).Out:=by simpa [YD] using hb
   simp only [rsp,W1,he,ne_eq,List.cons.injEq,true_and] at q
   have a:=h.edgeAt h1 hi
   have b:=h.edgeAt h2 hi
   by_cases hc:0 ≤ (E m p.1 i).To ∧ 0 ≤ (E m p.2 i).To
   ·have hr:nxP m m p i = some ((E m p.1 i).To.toNat,(E m p.2 i).To.toNat):=by unfold nxP; rw [if_pos hc]
    have hin:=h.nx_in h1 h2 hi hr
    obtain ⟨v,u,g1,g2⟩:=z7M w _ hin.1 hin.2 (fun j hj => hw j (by simp [hj])) (by simpa only [Int.toNat_of_nonneg hc.1,Int.toNat_of_nonneg hc.2] using q)
    refine ⟨i :: v,u,?_,by rw [g2]; rfl⟩
    cases v with
    | nil => exact g1.elim
    | cons j v => exact ⟨hi,by simpa using hb,_,hr,g1⟩
   ·exfalso
    refine q ?_
    have e1:(E m p.1 i).To = -1:=by omega
    have e2:(E m p.2 i).To = -1:=by omega
    rw [e1,e2]
end
abbrev TbT:=ArN 64 (ArN 64 (List Int))
def cl (f:TbT) (s t:Nat):List Int:=((f.l[s]?.map fun r => r.l[t]?.getD [])).getD []
theorem z4c (f:TbT) {s t:Nat} (hs:s < 64) (ht:t < 64):∃ r,f.l[s]? = some r ∧ r.l[t]? = some (cl f s t):=by
 have h1:f.l[s]? = some (f.l[s]'(by rw [f.len]; exact hs)):=List.getElem?_eq_getElem (by rw [f.len]; exact hs)
 refine ⟨_,h1,?_⟩
 unfold cl
 rw [h1]
 have h2:(f.l[s]'(by rw [f.len]; exact hs)).l[t]? = some _:=List.getElem?_eq_getElem (by rw [ArN.len]; exact ht)
 simp only [Option.map_some,Option.getD_some]
 rw [h2]
 rfl
def z8Q (f:TbT) (s t:Nat) (w:List Int):TbT:=match f.l[s]? with | some r => ArN.setI f (s:Int) (ArN.setI r (t:Int) w) | none => f
theorem zaB (f:TbT) {s t:Nat} (hs:s < 64) (ht:t < 64) (w:List Int) (x y:Nat):cl (z8Q f s t w) x y = if x = s ∧ y = t then w else cl f x y:=by
 obtain ⟨r,h1,h2⟩:=z4c f hs ht
 have hl:s < f.l.length:=by rw [f.len]; exact hs
 have hr:t < r.l.length:=by rw [r.len]; exact ht
 unfold z8Q
 rw [h1]
 simp only [cl,ArN.setI,Int.toNat_natCast,List.getElem?_set]
 by_cases hx:s = x
 ·subst hx
  rw [if_pos rfl,if_pos hl,h1]
  simp only [Option.map_some,Option.getD_some,true_and,List.getElem?_set]
  by_cases hy:t = y
  ·subst hy
   rw [if_pos rfl,if_pos hr,if_pos rfl]
   rfl
  ·rw [if_neg hy,if_neg (fun e => hy e.symm)]
 ·rw [if_neg hx,if_neg (fun e => hx e.1.symm)]
theorem zdK (f:TbT) {s t:Nat} (hs:s < 64) (ht:t < 64) (w:List Int):qz (s:Int) (t:Int) w f = some (z8Q (z8Q f s t w) t s w):=by
 obtain ⟨r,h1,h2⟩:=z4c f hs ht
 obtain ⟨r',h3,h4⟩:=z4c (z8Q f s t w) ht hs
 have e1:z8Q f s t w = ArN.setI f (s:Int) (ArN.setI r (t:Int) w):=by unfold z8Q; rw [h1]
 unfold qz
 rw [zT,bdT h1,zT,bdT h2,oB,oB,← e1,zT,bdT h3,zT,bdT h4,oB,oB]
 unfold z8Q
 rw [h1]
 rw [e1] at h3
 simp only
 rw [h3]
theorem zhc (a:Int) (w:List Int) (hw:w.length ≤ 1000):wt [[a],w] = some (a :: w):=by
 have e0:idx [[a],w] 0 = some [a]:=rfl
 have e1:idx [[a],w] 1 = some w:=rfl
 have w1:w64 1 = 1:=yl (by omega) (by omega)
 have w2:w64 2 = 2:=yl (by omega) (by omega)
 have w3:w64 (1 + ((w.length:Nat):Int)) = 1 + ((w.length:Nat):Int):=by rw [yl (by omega) (by omega)]
 have h1:loop (fun s => zJ [[a],w] s.1 s.2) (0,0) = some (1 + (w.length:Int)):=by
  refine kS (step:=fun s => zJ [[a],w] s.1 s.2) (fun i => match i with | 0 => ((0:Int),(0:Int)) | 1 => (1,1) | _ => (1 + (w.length:Int),2)) 2 (by omega) (fun i hi => ?_) ?_
  ·match i,hi with
   | 0,_ =>
    show zJ [[a],w] 0 0 = _
    unfold zJ
    rw [e0]
    simp [w1]
   | 1,_ =>
    show zJ [[a],w] 1 1 = _
    unfold zJ
    rw [e1]
    have:¬ (1 + ((w.length:Nat):Int) < 0):=by omega
    simp [this,w2,w3]
  ·show zJ [[a],w] _ 2 = _
   unfold zJ
   simp
 have h2:loop (fun s => zK [[a],w] s.1 s.2) (([]:List Int),0) = some (a :: w):=by
  refine kS (step:=fun s => zK [[a],w] s.1 s.2) (fun i => match i with | 0 => (([]:List Int),(0:Int)) | 1 => ([a],1) | _ => (a :: w,2)) 2 (by omega) (fun i hi => ?_) ?_
  ·match i,hi with
   | 0,_ =>
    show zK [[a],w] [] 0 = _
    unfold zK
    rw [e0]
    simp [w1,gd]
   | 1,_ =>
    show zK [[a],w] [a] 1 = _
    unfold zK
    rw [e1]
    have:1 + w.length ≤ 4294967296:=by omega
    simp [w2,gd,this]
  ·show zK [[a],w] _ 2 = _
   unfold zK
   simp
 unfold wt wG xV wF
 rw [bdT h1]
 have g:(([]:List Int).isEmpty && (decide (0 < 1 + (w.length:Int)) && decide (1 + (w.length:Int) ≤ 1000000))) = true:=by simp; omega
 rw [g,cond_true,oB,bdT h2]
theorem zaA (s:List Int) (hs:s.length ≤ 1000):yb s = some s:=by
 unfold yb
 rw [gdT ⟨by omega,by omega,by omega,by omega⟩]
 simp
theorem zhb (s:List Int) (hs:s.length ≤ 1000):yz s = some s:=by
 unfold yz
 rw [gdT (by simp; omega)]
theorem z8x (m:z6) (hN:m.Rows.length ≤ 1000) {σ:Type} (yy:σ → (Int × Int) → Option (σ × Bool)) (I:Nat → Nat → σ → Prop) (Q:σ → Prop) {sg:σ} (h0:I 0 1 sg)
  (hy:∀ (s t:Nat) sg,s < t → t < m.Rows.length → I s t sg → Ret (yy sg ((s:Int),(t:Int))) fun r => (r.2 = true ∧ I s (t + 1) r.1) ∨ (r.2 = false ∧ Q r.1))
  (hr:∀ (s t:Nat) sg,s < m.Rows.length → s < t → m.Rows.length ≤ t → I s t sg → I (s + 1) (s + 2) sg) (hq:∀ (s t:Nat) sg,m.Rows.length ≤ s → I s t sg → Q sg):Ret (ug m yy sg) Q:=by
 have hw:∀ k:Nat,k ≤ 1000 → w64 ((k:Int) + 1) = ((k + 1:Nat):Int):=fun k hk => by rw [yl (by omega) (by omega)]; rfl
 unfold ug
 rw [zA]
 refine Ret.mono (Q:=Q) ?_ fun o ho => zg.2 ho
 refine yP (fun q => ∃ s:Nat,q.2 = (s:Int) ∧ s ≤ m.Rows.length ∧ I s (s + 1) q.1) (fun q => 2000 - q.2.toNat) ⟨0,rfl,Nat.zero_le _,h0⟩ (by simp) ?_
 rintro ⟨g,q⟩ ⟨s,e2,hs,hI⟩
 simp only at e2 hI
 subst e2
 unfold jY
 rw [zS]
 refine ⟨fun hc => ?_,fun hc => ?_⟩
 ·have hs':s < m.Rows.length:=by simpa using hc
  rw [zA,hw s (by omega)]
  have inner:Ret (loop (fun q => uu m yy (s:Int) q.1 q.2) (g,((s + 1:Nat):Int))) fun r => match r with | .inl g' => ∃ t:Nat,s < t ∧ m.Rows.length ≤ t ∧ I s t g' | .inr g' => Q g':=by
   refine yP (fun q => ∃ t:Nat,q.2 = (t:Int) ∧ s < t ∧ t ≤ m.Rows.length ∧ I s t q.1) (fun q => 2000 - q.2.toNat) ⟨s + 1,rfl,by omega,by omega,hI⟩ (by simp only; omega) ?_
   rintro ⟨g',q⟩ ⟨t,e2,ht1,ht2,hI⟩
   simp only at e2 hI
   subst e2
   unfold uu
   rw [zS]
   refine ⟨fun hc => ?_,fun hc => ?_⟩
   ·have ht':t < m.Rows.length:=by simpa using hc
    rw [zA]
    refine (hy s t g' ht1 ht' hI).mono fun r hr => ?_
    rw [zS,hw t (by omega)]
    rcases hr with ⟨e,h⟩ | ⟨e,h⟩
    ·exact ⟨fun c => by simp [e] at c,fun _ => zg.2 ⟨⟨t + 1,rfl,by omega,by omega,h⟩,by simp only [Int.toNat_natCast]; omega⟩⟩
    ·exact ⟨fun _ => zg.2 h,fun c => by simp [e] at c⟩
   ·have ht':¬ t < m.Rows.length:=by simpa using hc
    exact zg.2 ⟨t,ht1,by omega,hI⟩
  refine inner.mono fun r hr' => ?_
  cases r with
  | inl p =>
   obtain ⟨t,h1,h2,h3⟩:=hr'
   unfold jZ
   rw [hw s (by omega)]
   exact zg.2 ⟨⟨s + 1,rfl,by omega,hr s t p hs' h1 h2 h3⟩,by simp only [Int.toNat_natCast]; omega⟩
  | inr p => exact zg.2 hr'
 ·have hs':¬ s < m.Rows.length:=by simpa using hc
  exact zg.2 (hq s (s + 1) g (by omega) hI)
theorem Qz (n:Nat) (hN:n ≤ 1000) {σ:Type} (yy:σ → (Int × Int) → Option (σ × Bool)) (I:Nat → Nat → σ → Prop) (Q:σ → Prop) {sg:σ} (h0:I 0 1 sg)
  (hy:∀ (s t:Nat) sg,s < t → t < n → I s t sg → Ret (yy sg ((s:Int),(t:Int))) fun r => (r.2 = true ∧ I s (t + 1) r.1) ∨ (r.2 = false ∧ Q r.1))
  (hr:∀ (s t:Nat) sg,s < n → s < t → n ≤ t → I s t sg → I (s + 1) (s + 2) sg) (hq:∀ (s t:Nat) sg,n ≤ s → I s t sg → Q sg):Ret (yW (n:Int) yy sg) Q:=by
 have hw:∀ k:Nat,k ≤ 1000 → w64 ((k:Int) + 1) = ((k + 1:Nat):Int):=fun k hk => by rw [yl (by omega) (by omega)]; rfl
 unfold yW
 rw [zA]
 refine Ret.mono (Q:=Q) ?_ fun o ho => zg.2 ho
 refine yP (fun q => ∃ s:Nat,q.2 = (s:Int) ∧ s ≤ n ∧ I s (s + 1) q.1) (fun q => 2000 - q.2.toNat) ⟨0,rfl,Nat.zero_le _,h0⟩ (by simp) ?_
 rintro ⟨g,q⟩ ⟨s,e2,hs,hI⟩
 simp only at e2 hI
 subst e2
 unfold kh
 rw [zS]
 refine ⟨fun hc => ?_,fun hc => ?_⟩
 ·have hs':s < n:=by simpa using hc
  rw [zA,hw s (by omega)]
  have inner:Ret (loop (fun q => uQ (n:Int) yy (s:Int) q.1 q.2) (g,((s + 1:Nat):Int))) fun r => match r with | .inl g' => ∃ t:Nat,s < t ∧ n ≤ t ∧ I s t g' | .inr g' => Q g':=by
   refine yP (fun q => ∃ t:Nat,q.2 = (t:Int) ∧ s < t ∧ t ≤ n ∧ I s t q.1) (fun q => 2000 - q.2.toNat) ⟨s + 1,rfl,by omega,by omega,hI⟩ (by simp only; omega) ?_
   rintro ⟨g',q⟩ ⟨t,e2,ht1,ht2,hI⟩
   simp only at e2 hI
   subst e2
   unfold uQ
   rw [zS]
   refine ⟨fun hc => ?_,fun hc => ?_⟩
   ·have ht':t < n:=by simpa using hc
    rw [zA]
    refine (hy s t g' ht1 ht' hI).mono fun r hr => ?_
    rw [zS,hw t (by omega)]
    rcases hr with ⟨e,h⟩ | ⟨e,h⟩
    ·exact ⟨fun c => by simp [e] at c,fun _ => zg.2 ⟨⟨t + 1,rfl,by omega,by omega,h⟩,by simp only [Int.toNat_natCast]; omega⟩⟩
    ·exact ⟨fun _ => zg.2 h,fun c => by simp [e] at c⟩
   ·have ht':¬ t < n:=by simpa using hc
    exact zg.2 ⟨t,ht1,by omega,hI⟩
  refine inner.mono fun r hr' => ?_
  cases r with
  | inl p =>
   obtain ⟨t,h1,h2,h3⟩:=hr'
   unfold ki
   rw [hw s (by omega)]
   exact zg.2 ⟨⟨s + 1,rfl,by omega,hr s t p hs' h1 h2 h3⟩,by simp only [Int.toNat_natCast]; omega⟩
  | inr p => exact zg.2 hr'
 ·have hs':¬ s < n:=by simpa using hc
  exact zg.2 (hq s (s + 1) g (by omega) hI)
abbrev MkP (m:z6) (n:Nat) (p:Nat × Nat):Prop:=Mk (kk m) (YD m m) (nxP m m) n p
abbrev z8O (m:z6) (p:Nat × Nat) (w:List Nat):Prop:=Lst (kk m) (YD m m) (nxP m m) p w
def Tb (m:z6) (r:Nat) (f:TbT):Prop :=
 ∀ s t,s < m.Rows.length → t < m.Rows.length → (MkP m r (s,t) → ∃ w,z8O m (s,t) w ∧ cl f s t = w.map Int.ofNat) ∧ (¬ MkP m r (s,t) → cl f s t = [])
theorem zeP {m:z6} {r i:Nat} {p q:Nat × Nat} {w:List Nat} (hn:¬ MkP m r p) (hi:i < kk m) (hb:YD m m p i = false) (hq:nxP m m p i = some q) (hw:z8O m q w) (hm:MkP m r q):w.length = r:=by
 have h1:=hw.le hm
 rcases Nat.lt_or_ge w.length r with g | g
 ·refine (hn ?_).elim
  have ht:z1F (kk m) (YD m m) (nxP m m) p (i :: w):=by
   cases w with
   | nil => exact hw.1.elim
   | cons j w => exact ⟨hi,hb,q,hq,hw.1⟩
  exact Mk.mono (UH ht) (by simp only [List.length_cons]; omega)
 ·omega
section
variable {m:z6} (h:VM m) (hc:Cpl m)
include h hc
theorem zbG {f:TbT} {r s t:Nat} (hf:Tb m r f) (hs:s < m.Rows.length) (ht:t < m.Rows.length) (hr:r ≤ 100) (hn:¬ MkP m r (s,t)) :
    Ret (uv m (s:Int) (t:Int) ((r + 1:Nat):Int) f) fun o => o.2 = f ∧ (MkP m (r + 1) (s,t) → ∃ w,w.length = r + 1 ∧ z8O m (s,t) w ∧ o.1 = w.map Int.ofNat) ∧ (¬ MkP m (r + 1) (s,t) → o.1 = []):=by
  have hl:=h.len64
  have hk:=h.kk_le
  obtain ⟨row,r1,r2,r3⟩:=h.rowAt hs
  obtain ⟨row',q1,q2,q3⟩:=h.rowAt ht
  unfold uv
  rw [zT,bdT r1,zA]
  have main:Ret (loop (fun x => wR m (t:Int) ((r + 1:Nat):Int) f row x) 0) fun out => (MkP m (r + 1) (s,t) ∧ ∃ w,w.length = r + 1 ∧ z8O m (s,t) w ∧ out = w.map Int.ofNat) ∨ (¬ MkP m (r + 1) (s,t) ∧ out = []):=by
    refine yP (fun x => ∃ i:Nat,x = (i:Int) ∧ i ≤ kk m ∧ ∀ j,j < i → YD m m (s,t) j = false ∧ ∀ q,nxP m m (s,t) j = some q → ¬ MkP m r q) (fun x => 100 - x.toNat) ⟨0,rfl,Nat.zero_le _,fun j hj => by omega⟩ (by simp) ?_
    rintro x ⟨i,rfl,hi,hj⟩
    unfold wR xZ
    rw [zS,r2]
    refine ⟨fun c => ?_,fun c => ?_⟩
    · have hi':i < kk m:=by simpa using c
      have ew:w64 ((i:Int) + 1) = ((i + 1:Nat):Int):=by rw [yl (by omega) (by omega)]; rfl
      have en:w64 (((r + 1:Nat):Int) - 1) = (r:Int):=by rw [yl (by omega) (by omega)]; omega
      have step:YD m m (s,t) i = false → (∀ q,nxP m m (s,t) i = some q → ¬ MkP m r q) → Ret (some (.next (w64 ((i:Int) + 1))):Option (LR Int (List Int))) (LRP (fun s' => (∃ i:Nat,s' = (i:Int) ∧ i ≤ kk m ∧ ∀ j,j < i → YD m m (s,t) j = false ∧ ∀ q,nxP m m (s,t) j = some q → ¬ MkP m r q) ∧ 100 - s'.toNat < 100 - (i:Int).toNat) fun out => (MkP m (r + 1) (s,t) ∧ ∃ w,w.length = r + 1 ∧ z8O m (s,t) w ∧ out = w.map Int.ofNat) ∨ (¬ MkP m (r + 1) (s,t) ∧ out = [])):=by
        intro g1 g2
        rw [ew]
        refine zg.2 ⟨⟨i + 1,rfl,hi',fun j hj' => ?_⟩,by simp only [Int.toNat_natCast]; omega⟩
        rcases Nat.lt_or_ge j i with q | q
        · exact hj j q
        · have:j = i:=by omega
          subst this
          exact ⟨g1,g2⟩
      rw [zT,bdT (r3 i hi'),zT,bdT q1,zT,bdT (q3 i hi'),zS]
      refine ⟨fun c1 => ?_,fun c1 => ?_⟩
      · have hb:YD m m (s,t) i = true:=c1
        have h0:r = 0:=by
          cases r with
          | zero => rfl
          | succ r => rw [z9Y hn hi'] at hb; cases hb
        subst h0
        exact zg.2 (.inl ⟨.inr ⟨i,hi',.inl hb⟩,[i],rfl,zeO hi' hb fun j hj' => (hj j hj').1,rfl⟩)
      · have hb:YD m m (s,t) i = false:=c1
        rw [zS]
        refine ⟨fun c2 => ?_,fun c2 => ?_⟩
        · have hr1:1 ≤ r:=by
            have:(1:Int) < ((r + 1:Nat):Int):=by simpa using c2
            omega
          have a0:=hc s i hs hi'
          have b0:=hc t i ht hi'
          have a1:=h.edgeAt hs hi'
          have b1:=h.edgeAt ht hi'
          obtain ⟨a,ha⟩:∃ a:Nat,(E m s i).To = a:=⟨(E m s i).To.toNat,by omega⟩
          obtain ⟨b,hb'⟩:∃ b:Nat,(E m t i).To = b:=⟨(E m t i).To.toNat,by omega⟩
          have hal:a < m.Rows.length:=by omega
          have hbl:b < m.Rows.length:=by omega
          have hnx:nxP m m (s,t) i = some (a,b):=by
            unfold nxP
            rw [if_pos ⟨a0,b0⟩]
            simp [ha,hb']
          rw [zS]
          refine ⟨fun c3 => ?_,fun c3 => absurd (show (E m s i).To = -1 by simpa using c3) (by omega)⟩
          obtain ⟨g,g1,g2⟩:=z4c f (show a < 64 by omega) (show b < 64 by omega)
          rw [ha,hb',zT,bdT g1,zT,bdT g2,en,zS]
          have hab:=hf a b hal hbl
          by_cases hm:MkP m r (a,b)
          · obtain ⟨w,w1,w2⟩:=hab.1 hm
            have hwl:=zeP hn hi' hb hnx w1 hm
            refine ⟨fun c4 => ?_,fun c4 => ?_⟩
            · rw [bdT g1,zT,bdT g2,w2,bdT (zhc _ _ (by simp; omega))]
              refine zg.2 (.inl ⟨.inr ⟨i,hi',.inr ⟨_,hnx,hm⟩⟩,i :: w,by simp [hwl],?_,rfl⟩)
              obtain ⟨r',rfl⟩:∃ r',r = r' + 1:=⟨r - 1,by omega⟩
              exact zce hn hi' hnx w1 hwl fun j hj' q hq => (hj j hj').2 q hq
            · rw [w2] at c4
              simp [hwl] at c4
          · rw [hab.2 hm]
            refine ⟨fun c4 => ?_,fun c4 => step hb fun q hq => ?_⟩
            · have:((([]:List Int).length:Nat):Int) = (r:Int):=by simpa using c4
              simp at this
              omega
            · rw [hnx] at hq
              cases hq
              exact hm
        · have h0:r = 0:=by
            have:¬ (1:Int) < ((r + 1:Nat):Int):=by simpa using c2
            omega
          subst h0
          exact step hb fun q hq g => g
    · have hi':i = kk m:=by
        have:¬ i < kk m:=by simpa using c
        omega
      subst hi'
      refine zg.2 (.inr ⟨fun g => ?_,rfl⟩)
      rcases g with g | ⟨i,gi,g | ⟨q,gq,g⟩⟩
      · exact hn g
      · rw [(hj i gi).1] at g
        cases g
      · exact (hj i gi).2 q gq g
  refine main.mono fun out ho => ?_
  unfold uq
  rcases ho with ⟨o1,w,o2,o3,rfl⟩ | ⟨o1,rfl⟩
  · rw [zS]
    refine ⟨fun c => by simp [o2] at c,fun _ => ?_⟩
    rw [bdT (zaA _ (by simp; omega)),WF]
    refine ⟨fun e => ?_,zg.2 ⟨rfl,fun _ => ⟨w,o2,o3,rfl⟩,fun g => (g o1).elim⟩⟩
    have:w = []:=by simpa using e
    subst this
    simp at o2
  · rw [zS]
    refine ⟨fun _ => zg.2 ⟨rfl,fun g => (o1 g).elim,fun _ => rfl⟩,fun c => ?_⟩
    have:((([]:List Int).length:Nat):Int) = ((r + 1:Nat):Int):=by simpa using c
    simp at this
    omega
omit hc in
theorem Tb.zero:Tb m 0 (ArN.rep 64 (ArN.rep 64 [])):=by
 have hl:=h.len64
 intro s t hs ht
 refine ⟨fun g => g.elim,fun _ => ?_⟩
 unfold cl
 have h1:s < 64:=by omega
 have h2:t < 64:=by omega
 rw [show (ArN.rep 64 (ArN.rep 64 ([]:List Int))).l = List.replicate 64 (ArN.rep 64 []) from rfl,List.getElem?_replicate,if_pos h1]
 simp only [Option.map_some,Option.getD_some]
 rw [show (ArN.rep 64 ([]:List Int)).l = List.replicate 64 [] from rfl,List.getElem?_replicate,if_pos h2]
 rfl
structure Now (m:z6) (r:Nat) (P:Nat → Nat → Prop) (now:List zG):Prop where
 ok:∀ x ∈ now,∃ a b w,a < m.Rows.length ∧ b < m.Rows.length ∧ x.S = (a:Int) ∧ x.T = (b:Int) ∧ x.Word = w.map Int.ofNat ∧ z8O m (a,b) w ∧ MkP m (r + 1) (a,b)
 all:∀ a b,P a b → a < b → b < m.Rows.length → ¬ MkP m r (a,b) → MkP m (r + 1) (a,b) → ∃ x ∈ now,x.S = (a:Int) ∧ x.T = (b:Int)
theorem z9D {f:TbT} {r:Nat} (hf:Tb m r f) (hr:r ≤ 100) :
  Ret (ug m (yOf (fun s x => xL m ((r + 1:Nat):Int) s.1 s.2 x.1 x.2)) (.next (f,([]:List zG)))) fun o => ∃ now,o = .next (f,now) ∧ Now m r (fun _ _ => True) now ∧ now.length ≤ 5000:=by
 have hl:=h.len64
 refine z8x m (by omega) _ (fun s t o => ∃ now,o = .next (f,now) ∧ Now m r (fun a b => a < s ∨ (a = s ∧ b < t)) now ∧ now.length ≤ 64 * s + t ∧ t ≤ 66 ∧ s ≤ 64) _ ⟨[],rfl,⟨fun x hx => by simp at hx,fun a b q => by omega⟩,by simp,by omega,by omega⟩ ?_ ?_ ?_
 ·rintro s t o hst ht ⟨now,rfl,hn,hnl,_⟩
  have hs:s < m.Rows.length:=by omega
  obtain ⟨g,g1,g2⟩:=z4c f (show s < 64 by omega) (show t < 64 by omega)
  have hst':=hf s t hs ht
  have keep:(¬ MkP m r (s,t) → ¬ MkP m (r + 1) (s,t)) → Now m r (fun a b => a < s ∨ (a = s ∧ b < t + 1)) now:=fun q => ⟨hn.ok,fun a b hab h1 h2 h3 h4 => by
   rcases hab with e | ⟨e,e2⟩
   ·exact hn.all a b (.inl e) h1 h2 h3 h4
   ·rcases Nat.lt_or_ge b t with e3 | e3
    ·exact hn.all a b (.inr ⟨e,e3⟩) h1 h2 h3 h4
    ·have:b = t:=by omega
     subst this; subst e
     exact (q h3 h4).elim⟩
  have main:Ret (xL m ((r + 1:Nat):Int) f now (s:Int) (t:Int)) fun o => ∃ now',o = .next (f,now') ∧ Now m r (fun a b => a < s ∨ (a = s ∧ b < t + 1)) now' ∧ now'.length ≤ now.length + 1:=by
   unfold xL
   rw [zT,bdT g1,zT,bdT g2,zS]
   refine ⟨fun c => ?_,fun c => ?_⟩
   ·refine zg.2 ⟨now,rfl,keep fun q => ?_,by omega⟩
    rw [hst'.2 q] at c
    simp at c
   ·have hno:¬ MkP m r (s,t):=fun q => by
     obtain ⟨w,w1,w2⟩:=hst'.1 q
     rw [w2] at c
     cases w with
     | nil => exact w1.1
     | cons i w => simp at c
    rw [zA]
    refine (zbG h hc hf hs ht hr hno).mono fun o ho => ?_
    obtain ⟨o1,o2,o3⟩:=ho
    rw [zS]
    refine ⟨fun c => ?_,fun c => ?_⟩
    ·by_cases hm:MkP m (r + 1) (s,t)
     ·obtain ⟨w,w1,w2,w3⟩:=o2 hm
      rw [WF,o1]
      refine ⟨by simp; omega,zg.2 ⟨_,rfl,⟨fun x hx => ?_,fun a b hab h1 h2 h3 h4 => ?_⟩,by simp⟩⟩
      ·rcases List.mem_append.1 hx with hx | hx
       ·exact hn.ok x hx
       ·rw [List.mem_singleton.1 hx]
        exact ⟨s,t,w,hs,ht,rfl,rfl,w3,w2,hm⟩
      ·by_cases e:a = s ∧ b = t
       ·exact ⟨_,List.mem_append.2 (.inr (List.mem_singleton.2 rfl)),by rw [e.1],by rw [e.2]⟩
       ·obtain ⟨x,x1,x2⟩:=hn.all a b (by omega) h1 h2 h3 h4
        exact ⟨x,List.mem_append.2 (.inl x1),x2⟩
     ·rw [o3 hm] at c
      simp at c
    ·rw [o1]
     refine zg.2 ⟨now,rfl,keep fun _ q => ?_,by omega⟩
     obtain ⟨w,w1,w2,w3⟩:=o2 q
     rw [w3] at c
     cases w with
     | nil => simp at w1
     | cons i w => simp at c
  obtain ⟨o,e,now',rfl,q1,q2⟩:=main
  refine ⟨(.next (f,now'),true),?_,.inl ⟨rfl,now',rfl,q1,by omega,by omega,by omega⟩⟩
  simp only [yOf]
  rw [e]
 ·rintro s t o hs hst ht ⟨now,rfl,hn,hnl,_⟩
  refine ⟨now,rfl,⟨hn.ok,fun a b hab h1 h2 h3 h4 => hn.all a b (by omega) h1 h2 h3 h4⟩,by omega,by omega,by omega⟩
 ·rintro s t o hs ⟨now,rfl,hn,hnl,_⟩
  refine ⟨now,rfl,⟨hn.ok,fun a b _ h1 h2 h3 h4 => hn.all a b (by omega) h1 h2 h3 h4⟩,by omega⟩
omit hc in
theorem zc5 {f:TbT} {r:Nat} (hf:Tb m r f) {now:List zG} (hn:Now m r (fun _ _ => True) now) (hl5:now.length ≤ 5000) :
  Ret (loop (fun s => vh now s.1 s.2) (f,0)) fun f' => Tb m (r + 1) f':=by
 have hl:=h.len64
 let G:TbT → Nat → Nat → Prop:=fun g a b => ∃ w,z8O m (a,b) w ∧ cl g a b = w.map Int.ofNat
 have hw:∀ k:Nat,k ≤ 5000 → w64 ((k:Int) + 1) = ((k + 1:Nat):Int):=fun k hk => by rw [yl (by omega) (by omega)]; rfl
 refine yP (fun q => ∃ k:Nat,q.2 = (k:Int) ∧ k ≤ now.length ∧ (∀ a b,a < m.Rows.length → b < m.Rows.length → (G q.1 a b ∧ MkP m (r + 1) (a,b)) ∨ cl q.1 a b = cl f a b) ∧
  ∀ (j:Nat) x (a b:Nat),j < k → now[j]? = some x → x.S = (a:Int) → x.T = (b:Int) → G q.1 a b ∧ G q.1 b a) (fun q => 10000 - q.2.toNat) ⟨0,rfl,Nat.zero_le _,fun a b _ _ => .inr rfl,fun j x a b hj => by omega⟩ (by simp) ?_
 rintro ⟨g,q⟩ ⟨k,e2,hk,j1,j2⟩
 simp only at e2 j1 j2
 subst e2
 unfold vh
 rw [zS]
 refine ⟨fun c => ?_,fun c => ?_⟩
 ·have hk':k < now.length:=by simpa using c
  have hx:now[k]? = some now[k]:=List.getElem?_eq_getElem hk'
  obtain ⟨a,b,w,q1,q2,q3,q4,q5,q6,q7⟩:=hn.ok _ (List.getElem_mem hk')
  have a64:a < 64:=by omega
  have b64:b < 64:=by omega
  rw [zT,bdT hx,q3,q4,q5,bdT (zdK g a64 b64 _),hw k (by omega)]
  have hcl:∀ x y,cl (z8Q (z8Q g a b (w.map Int.ofNat)) b a (w.map Int.ofNat)) x y = if x = b ∧ y = a then w.map Int.ofNat else if x = a ∧ y = b then w.map Int.ofNat else cl g x y:=fun x y => by
   rw [zaB _ b64 a64,zaB _ a64 b64]
  have hG:∀ x y,G g x y ∨ (x = a ∧ y = b) ∨ (x = b ∧ y = a) → G (z8Q (z8Q g a b (w.map Int.ofNat)) b a (w.map Int.ofNat)) x y:=by
   intro x y hxy
   by_cases e1:x = b ∧ y = a
   ·obtain ⟨rfl,rfl⟩:=e1
    exact ⟨w,zcd q6,by rw [hcl,if_pos ⟨rfl,rfl⟩]⟩
   ·by_cases e2:x = a ∧ y = b
    ·obtain ⟨rfl,rfl⟩:=e2
     exact ⟨w,q6,by rw [hcl,if_neg e1,if_pos ⟨rfl,rfl⟩]⟩
    ·rcases hxy with ⟨v,v1,v2⟩ | g | g
     ·exact ⟨v,v1,by rw [hcl,if_neg e1,if_neg e2]; exact v2⟩
     ·exact (e2 g).elim
     ·exact (e1 g).elim
  refine zg.2 ⟨⟨k + 1,rfl,hk',fun x y hx hy => ?_,fun j z x y hj hz z1 z2 => ?_⟩,by simp only [Int.toNat_natCast]; omega⟩
  ·by_cases e1:x = b ∧ y = a
   ·refine .inl ⟨hG x y (.inr (.inr e1)),?_⟩
    obtain ⟨rfl,rfl⟩:=e1
    exact z75 q7
   ·by_cases e2:x = a ∧ y = b
    ·refine .inl ⟨hG x y (.inr (.inl e2)),?_⟩
     obtain ⟨rfl,rfl⟩:=e2
     exact q7
    ·rcases j1 x y hx hy with ⟨g1,g2⟩ | g1
     ·exact .inl ⟨hG x y (.inl g1),g2⟩
     ·exact .inr (by rw [hcl,if_neg e1,if_neg e2]; exact g1)
  ·rcases Nat.lt_or_ge j k with hjk | hjk
   ·obtain ⟨g1,g2⟩:=j2 j z x y hjk hz z1 z2
    exact ⟨hG x y (.inl g1),hG y x (.inl g2)⟩
   ·have:j = k:=by omega
    subst this
    rw [hx] at hz
    cases hz
    rw [q3] at z1
    rw [q4] at z2
    have e1:x = a:=by omega
    have e2:y = b:=by omega
    exact ⟨hG x y (.inr (.inl ⟨e1,e2⟩)),hG y x (.inr (.inr ⟨e2,e1⟩))⟩
 ·have hk':k = now.length:=by
   have:¬ k < now.length:=by simpa using c
   omega
  subst hk'
  refine zg.2 fun s t hs ht => ⟨fun hm => ?_,fun hm => ?_⟩
  ·by_cases hmr:MkP m r (s,t)
   ·rcases j1 s t hs ht with ⟨g1,_⟩ | g1
    ·exact g1
    ·obtain ⟨w,w1,w2⟩:=(hf s t hs ht).1 hmr
     exact ⟨w,w1,by rw [g1]; exact w2⟩
   ·rcases Nat.lt_trichotomy s t with g | g | g
    ·obtain ⟨x,x1,x2,x3⟩:=hn.all s t trivial g ht hmr hm
     obtain ⟨j,hj⟩:=List.mem_iff_getElem?.1 x1
     exact (j2 j x s t (List.getElem?_eq_some_iff.1 hj).1 hj x2 x3).1
    ·subst g
     exact (zeM hm).elim
    ·obtain ⟨x,x1,x2,x3⟩:=hn.all t s trivial g hs (fun q => hmr (z75 q)) (z75 hm)
     obtain ⟨j,hj⟩:=List.mem_iff_getElem?.1 x1
     exact (j2 j x t s (List.getElem?_eq_some_iff.1 hj).1 hj x2 x3).2
  ·rcases j1 s t hs ht with ⟨_,g1⟩ | g1
   ·exact (hm g1).elim
   ·rw [g1]
    exact (hf s t hs ht).2 fun q => hm (q.mono (by omega))
omit h hc in
theorem zgR {n:Nat}:mx (n:Int) 2 = ((if n < 2 then 2 else n:Nat):Int):=by
 unfold mx
 by_cases e:n < 2
 ·rw [if_pos (by omega),if_pos e]; rfl
 ·rw [if_neg (by omega),if_neg e]
theorem Kt:Ret (qw m) fun f => ∀ s t,s < m.Rows.length → t < m.Rows.length → (∃ w,z8O m (s,t) w ∧ cl f s t = w.map Int.ofNat) ∨ ((∀ w,¬ z1F (kk m) (YD m m) (nxP m m) (s,t) w) ∧ cl f s t = []):=by
 have hl:=h.len64
 have hl1:=h.len1
 unfold qw
 rw [zA]
 refine Ret.mono (Q:=fun f => ∃ r,m.Rows.length ≤ r + 1 ∧ Tb m r f) ?_ fun f hf => ?_
 ·refine yP (fun q => ∃ r:Nat,q.2 = ((r + 1:Nat):Int) ∧ r ≤ 64 ∧ Tb m r q.1) (fun q => 100 - q.2.toNat) ⟨0,rfl,by omega,Tb.zero h⟩ (by simp) ?_
  rintro ⟨f,q⟩ ⟨r,e2,hr,hf⟩
  simp only at e2 hf
  subst e2
  unfold q9 WD
  rw [zS,oB,zgR]
  refine ⟨fun c => ?_,fun c => ?_⟩
  ·have hr':r + 1 < (if m.Rows.length < 2 then 2 else m.Rows.length):=by
    have:=of_decide_eq_true c
    omega
   rw [zA]
   refine (z9D h hc hf (by omega)).mono fun o ho => ?_
   obtain ⟨now,rfl,hn,hnl⟩:=ho
   unfold qa qb
   simp only
   rw [zA]
   refine (zc5 h hf hn hnl).mono fun f' hf' => ?_
   have e:w64 (((r + 1:Nat):Int) + 1) = ((r + 1 + 1:Nat):Int):=by rw [yl (by omega) (by omega)]; rfl
   rw [e]
   have:r + 1 < 64:=by
    split at hr' <;> omega
   exact zg.2 ⟨⟨r + 1,rfl,by omega,hf'⟩,by simp only [Int.toNat_natCast]; omega⟩
  ·refine zg.2 ⟨r,?_,hf⟩
   have hr':¬ r + 1 < (if m.Rows.length < 2 then 2 else m.Rows.length):=by
    intro g
    have:=of_decide_eq_false c
    omega
   split at hr' <;> omega
 ·obtain ⟨r,hr,hf⟩:=hf
  unfold qd
  refine zg.2 fun s t hs ht => ?_
  by_cases hm:MkP m r (s,t)
  ·exact .inl ((hf s t hs ht).1 hm)
  ·refine .inr ⟨fun w hw => hm ?_,(hf s t hs ht).2 hm⟩
   exact (z1Q h.wm hs ht (UH hw)).mono (by omega)
end
open Classical in
noncomputable def lw (m:z6) (s t:Nat):List Nat:=if h:∃ w,z8O m (s,t) w then Classical.choose h else []
theorem zk2 {m:z6} {s t:Nat} {w:List Nat} (h:z8O m (s,t) w):lw m s t = w:=by
 have hx:∃ w,z8O m (s,t) w:=⟨w,h⟩
 unfold lw
 rw [dif_pos hx]
 exact (Classical.choose_spec hx).uniq h
noncomputable abbrev lwI (m:z6) (s t:Nat):List Int:=(lw m s t).map Int.ofNat
def Wx (m:z6) (P D:Nat → Nat → Prop) (out:List (List Int)):Prop:=∀ x,x ∈ out ↔ ∃ a b,a < b ∧ b < m.Rows.length ∧ D a b ∧ P a b ∧ x = lwI m a b
theorem Wx.add {m:z6} {P D D':Nat → Nat → Prop} {out:List (List Int)} (h:Wx m P D out) {s t:Nat} (hst:s < t) (ht:t < m.Rows.length) (hD:∀ a b,D' a b ↔ D a b ∨ (a = s ∧ b = t)) (hP:P s t):Wx m P D' (out ++ [lwI m s t]):=by
 intro x
 rw [List.mem_append,h x,List.mem_singleton]
 constructor
 ·rintro (⟨a,b,h1,h2,h3,h4⟩ | rfl)
  ·exact ⟨a,b,h1,h2,(hD a b).2 (.inl h3),h4⟩
  ·exact ⟨s,t,hst,ht,(hD s t).2 (.inr ⟨rfl,rfl⟩),hP,rfl⟩
 ·rintro ⟨a,b,h1,h2,h3,h4,h5⟩
  rcases (hD a b).1 h3 with g | ⟨rfl,rfl⟩
  ·exact .inl ⟨a,b,h1,h2,g,h4,h5⟩
  ·exact .inr h5
theorem Wx.skip {m:z6} {P D D':Nat → Nat → Prop} {out:List (List Int)} (h:Wx m P D out) {s t:Nat} (hD:∀ a b,D' a b ↔ D a b ∨ (a = s ∧ b = t)) (hP:¬ P s t):Wx m P D' out:=by
 intro x
 rw [h x]
 constructor
 ·rintro ⟨a,b,h1,h2,h3,h4⟩
  exact ⟨a,b,h1,h2,(hD a b).2 (.inl h3),h4⟩
 ·rintro ⟨a,b,h1,h2,h3,h4,h5⟩
  rcases (hD a b).1 h3 with g | ⟨rfl,rfl⟩
  ·exact ⟨a,b,h1,h2,g,h4,h5⟩
  ·exact (hP h4).elim
theorem Wx.congr {m:z6} {P D D':Nat → Nat → Prop} {out:List (List Int)} (h:Wx m P D out) (hD:∀ a b,a < b → b < m.Rows.length → (D' a b ↔ D a b)):Wx m P D' out:=by
 intro x
 rw [h x]
 constructor
 ·rintro ⟨a,b,h1,h2,h3,h4⟩
  exact ⟨a,b,h1,h2,(hD a b h1 h2).2 h3,h4⟩
 ·rintro ⟨a,b,h1,h2,h3,h4⟩
  exact ⟨a,b,h1,h2,(hD a b h1 h2).1 h3,h4⟩
section
variable {m:z6} (h:VM m) (hc:Cpl m) (hd:zfI m)
include h
theorem z9a {s t:Nat} (hs:s < m.Rows.length) (ht:t < m.Rows.length):YG m [(s:Int),(t:Int)] = some 0:=by
 have st:∀ x:Nat,x < m.Rows.length → ky (x:Int) m = some false:=fun x hx => by
  unfold ky
  have e1:¬ ((x:Int) < 0):=by omega
  have e2:¬ ((x:Int) ≥ ((m.Rows.length:Nat):Int)):=by omega
  rw [decide_eq_false e1,cond_false,decide_eq_false e2]
 have hi:yD [(s:Int),(t:Int)] m = some (-1):=by
  unfold yD
  have:=yq [(s:Int),(t:Int)] (by simp) (step:=fun x => zZ [(s:Int),(t:Int)] m x) (fun _ _ => (none:Option Int)) (fun i x hx => by
   unfold zZ
   have hlt:=(List.getElem?_eq_some_iff.1 hx).1
   have hxm:∃ k:Nat,x = (k:Int) ∧ k < m.Rows.length:=by
    rcases List.mem_cons.1 (List.mem_of_getElem? hx) with e | e
    ·exact ⟨s,e,hs⟩
    ·exact ⟨t,by simpa using e,ht⟩
   obtain ⟨k,rfl,hk⟩:=hxm
   have hlt':(i:Int) < ((([(s:Int),(t:Int)]:List Int).length:Nat):Int):=by omega
   rw [decide_eq_true hlt',cond_true,zT,bdT hx,bdT (st k hk),cond_false]
   rfl) (by
   unfold zZ
   rw [decide_eq_false (by omega),cond_false])
  rw [bdT this]
  rfl
 unfold YG xa
 rw [bdT (VV m),z1j h,bdT hi]
 rfl
include hc
theorem zdA {s t:Nat} (hs:s < m.Rows.length) (ht:t < m.Rows.length) {w:List Nat} (hw:z8O m (s,t) w):uw m (s:Int) (t:Int) = some (w.map Int.ofNat,true,0):=by
 have hl:=h.len64
 have hwl:w.length ≤ 64:=by have:=hw.le (z1Q h.wm hs ht (UH hw.1)); omega
 unfold uw
 rw [bdT (z9a h hs ht)]
 obtain ⟨f,f1,f2⟩:=Kt h hc
 have hcl:cl f s t = w.map Int.ofNat:=by
  rcases f2 s t hs ht with ⟨v,v1,v2⟩ | ⟨v1,_⟩
  ·rw [v2,v1.uniq hw]
  ·exact (v1 w hw.1).elim
 obtain ⟨g,g1,g2⟩:=z4c f (show s < 64 by omega) (show t < 64 by omega)
 rw [show ((0:Int) != 0) = false from rfl,cond_false,bdT f1,zT,bdT g1,zT,bdT g2,hcl,bdT (zhb _ (by simp; omega)),bdT (zaA _ (by simp; omega))]
 have hw1:0 < w.length:=by
  cases w with
  | nil => exact hw.1.elim
  | cons i w => simp
 have:decide ((((w.map Int.ofNat).length:Nat):Int) > 0) = true:=decide_eq_true (by simp only [List.length_map]; omega)
 rw [this]
include hd
theorem zcc {s t:Nat} (hs:s < m.Rows.length) (ht:t < m.Rows.length) (hst:s ≠ t):z8O m (s,t) (lw m s t):=by
 obtain ⟨f,f1,f2⟩:=Kt h hc
 rcases f2 s t hs ht with ⟨w,w1,_⟩ | ⟨w1,_⟩
 ·rw [zk2 w1]
  exact w1
 ·exfalso
  refine hst (hd s t hs ht fun w hw => ?_)
  refine Classical.byContradiction fun hne => ?_
  obtain ⟨v,u,g,_⟩:=z7M h.wm w (s,t) hs ht hw hne
  exact w1 v g
theorem zgV {s t:Nat} (hs:s < m.Rows.length) (ht:t < m.Rows.length) (hst:s ≠ t):(lw m s t).length + 1 ≤ m.Rows.length:=by
 have hw:=zcc h hc hd hs ht hst
 have:=hw.le (z1Q h.wm hs ht (UH hw.1))
 have:=h.len1
 omega
theorem Wx.len {P D:Nat → Nat → Prop} {out:List (List Int)} (hx:Wx m P D out) {x:List Int} (q:x ∈ out):x.length + 1 ≤ m.Rows.length ∧ ∀ c ∈ x,0 ≤ c ∧ c < m.Inputs:=by
 obtain ⟨a,b,h1,h2,_,_,rfl⟩:=(hx x).1 q
 refine ⟨by simpa using zgV h hc hd (show a < m.Rows.length by omega) h2 (by omega),fun c hcx => ?_⟩
 obtain ⟨i,hi,rfl⟩:=List.mem_map.1 hcx
 have:=z91 (zcc h hc hd (show a < m.Rows.length by omega) h2 (by omega)).1 i hi
 have hke:=h.kk_eq
 show 0 ≤ (i:Int) ∧ (i:Int) < m.Inputs
 omega
theorem z7u {P D:Nat → Nat → Prop} {out:List (List Int)} (hx:Wx m P D out) (hN:m.Rows.length ≤ 30) (hl:out.length ≤ 1000):Xv out m.Inputs = some (srt out,0):=by
 have hlen:=fun (x:List Int) (q:x ∈ out) => hx.len h hc hd q
 have h0:loE m.Inputs out = 0:=z4U.2 ⟨⟨h.in1,h.in16⟩,by omega,fun w hw => ⟨by have:=(hlen w hw).1; omega,(hlen w hw).2⟩⟩
 unfold Xv
 rw [bdT (z80 _ _),h0,bdT (zbK (by omega) fun w hw => by have:=(hlen w hw).1; omega)]
 have hs:=z9d out
 have hy:=z6M (l:=srt out) (m:=30) fun w hw => by have:=(hlen w (z2K.1 hw)).1; omega
 have:¬ (4096 < (srt out).length ∨ 65536 < Kb (srt out)):=by
  intro g
  rcases g with g | g
  ·omega
  ·have:(srt out).length * 30 ≤ 1000 * 30:=Nat.mul_le_mul_right _ (by omega)
   omega
 unfold soR
 rw [if_neg this]
 rfl
theorem z94 (hN:m.Rows.length ≤ 30):Ret (YM m ()) fun o => ∃ out,Wx m (fun _ _ => True) (fun _ _ => True) out ∧ out.length ≤ 1000 ∧ o = (srt out,0):=by
 unfold YM vb
 rw [oB,zA]
 refine Ret.mono (Q:=fun o => ∃ out,o = .next ((0:Int),out) ∧ Wx m (fun _ _ => True) (fun _ _ => True) out ∧ out.length ≤ 1000) ?_ fun o ho => ?_
 ·refine Qz m.Rows.length (by omega) _ (fun s t o => ∃ out,o = .next ((0:Int),out) ∧ Wx m (fun _ _ => True) (fun a b => a < s ∨ (a = s ∧ b < t)) out ∧ out.length ≤ 30 * s + t ∧ s ≤ 30 ∧ t ≤ 32) _ ⟨[],rfl,fun x => ?_,by simp,by omega,by omega⟩ ?_ ?_ ?_
  ·constructor
   ·intro q; simp at q
   ·rintro ⟨a,b,h1,h2,h3,_⟩; omega
  ·rintro s t o hst ht ⟨out,rfl,ho,hl,h1,h2⟩
   have hw:=zcc h hc hd (show s < m.Rows.length by omega) ht (by omega)
   have e:uP m 0 out (s:Int) (t:Int) = some (.next (0,out ++ [lwI m s t])):=by
    unfold uP WL
    rw [oB,show (!true) = false from rfl,cond_false,bdT (zdA h hc (show s < m.Rows.length by omega) ht hw),show ((0:Int) != 0) = false from rfl,cond_false,gdT (by simp; omega)]
   refine ⟨(.next (0,out ++ [lwI m s t]),true),?_,.inl ⟨rfl,_,rfl,ho.add hst ht (fun a b => by omega) trivial,by simp; omega,by omega,by omega⟩⟩
   simp only [yOf]
   rw [e]
  ·rintro s t o hs hst ht ⟨out,rfl,ho,hl,h1,h2⟩
   exact ⟨out,rfl,ho.congr fun a b _ _ => by omega,by omega,by omega,by omega⟩
  ·rintro s t o hs ⟨out,rfl,ho,hl,h1,h2⟩
   exact ⟨out,rfl,ho.congr fun a b _ _ => by simp; omega,by omega⟩
 ·obtain ⟨out,rfl,h1,h2⟩:=ho
  unfold ZQ
  simp only
  rw [bdT (z7u h hc hd h1 hN h2)]
  exact zg.2 ⟨out,h1,h2,rfl⟩
theorem z8w (hN:m.Rows.length ≤ 30) (z:Nat):Ret (qK m (z:Int)) fun o => ∃ out,Wx m (fun a b => a = z ∨ b = z) (fun _ _ => True) out ∧ out.length ≤ 1000 ∧ o = (srt out,0):=by
 unfold qK vb
 rw [oB,zA]
 refine Ret.mono (Q:=fun o => ∃ out,o = .next ((0:Int),out) ∧ Wx m (fun a b => a = z ∨ b = z) (fun _ _ => True) out ∧ out.length ≤ 1000) ?_ fun o ho => ?_
 ·refine Qz m.Rows.length (by omega) _ (fun s t o => ∃ out,o = .next ((0:Int),out) ∧ Wx m (fun a b => a = z ∨ b = z) (fun a b => a < s ∨ (a = s ∧ b < t)) out ∧ out.length ≤ 30 * s + t ∧ s ≤ 30 ∧ t ≤ 32) _ ⟨[],rfl,fun x => ?_,by simp,by omega,by omega⟩ ?_ ?_ ?_
  ·constructor
   ·intro q; simp at q
   ·rintro ⟨a,b,h1,h2,h3,_⟩; omega
  ·rintro s t o hst ht ⟨out,rfl,ho,hl,h1,h2⟩
   have hw:=zcc h hc hd (show s < m.Rows.length by omega) ht (by omega)
   have e1:W5 (s:Int) (t:Int) (z:Int) = some (decide (s = z ∨ t = z)):=by
    unfold W5
    by_cases e:s = z
    ·subst e; simp
    ·have e':((s:Int) == (z:Int)) = false:=by simp; omega
     rw [e',cond_false]
     by_cases e2:t = z
     ·subst e2; simp
     ·have e2':((t:Int) == (z:Int)) = false:=by simp; omega
      rw [e2']
      simp [e,e2]
   by_cases hz:s = z ∨ t = z
   ·have e:yS m (z:Int) 0 out (s:Int) (t:Int) = some (.next (0,out ++ [lwI m s t])):=by
     unfold yS
     rw [bdT e1,decide_eq_true hz,show (!true) = false from rfl,cond_false,bdT (zdA h hc (show s < m.Rows.length by omega) ht hw),show ((0:Int) != 0) = false from rfl,cond_false,gdT (by simp; omega)]
    refine ⟨(.next (0,out ++ [lwI m s t]),true),?_,.inl ⟨rfl,_,rfl,ho.add hst ht (fun a b => by omega) hz,by simp; omega,by omega,by omega⟩⟩
    simp only [yOf]
    rw [e]
   ·have e:yS m (z:Int) 0 out (s:Int) (t:Int) = some (.next (0,out)):=by
     unfold yS
     rw [bdT e1,decide_eq_false hz,show (!false) = true from rfl,cond_true]
    refine ⟨(.next (0,out),true),?_,.inl ⟨rfl,_,rfl,ho.skip (s:=s) (t:=t) (fun a b => by omega) hz,by omega,by omega,by omega⟩⟩
    simp only [yOf]
    rw [e]
  ·rintro s t o hs hst ht ⟨out,rfl,ho,hl,h1,h2⟩
   exact ⟨out,rfl,ho.congr fun a b _ _ => by omega,by omega,by omega,by omega⟩
  ·rintro s t o hs ⟨out,rfl,ho,hl,h1,h2⟩
   exact ⟨out,rfl,ho.congr fun a b _ _ => by simp; omega,by omega⟩
 ·obtain ⟨out,rfl,h1,h2⟩:=ho
  unfold qj
  simp only
  rw [bdT (z7u h hc hd h1 hN h2)]
  exact zg.2 ⟨out,h1,h2,rfl⟩
end
structure KM (m:z6):Prop where
 vm:VM m
 cpl:Cpl m
 dist:zfI m
 rall:zfH m
 inp:m.Inputs ≤ 4
 len:m.Rows.length ≤ 6
theorem KM.proper {m:z6} (h:KM m):yV m = some 0:=by
 obtain ⟨e,e1,e2⟩:=z3V h.vm
 rw [e1,e2.uniq (.inr (.inr (.inr ⟨rfl,h.cpl,h.rall,h.dist⟩)))]
theorem UU:Yn = some true:=by kernel_rfl
def uI (w:List Int):List Nat:=w.map Int.toNat
theorem zfP {w:List Int} (h:∀ c ∈ w,0 ≤ c):(uI w).map Int.ofNat = w:=by
 unfold uI
 rw [List.map_map]
 exact (List.map_congr_left (g:=id) fun c hc => by have:=h c hc; show ((c.toNat:Nat):Int) = c; omega).trans (List.map_id w)
structure VW (m:z6) (w:List Int):Prop where
 len:w.length ≤ 256
 sym:∀ c ∈ w,0 ≤ c ∧ c < m.Inputs
theorem VW.wd {m:z6} {w:List Int} (h:VW m w) (hk:((kk m:Nat):Int) = m.Inputs):Wd (kk m) (uI w):=by
 intro i hi
 obtain ⟨c,hc,rfl⟩:=List.mem_map.1 hi
 have:=h.sym c hc
 omega
theorem VW.map {m:z6} {w:List Int} (h:VW m w):(uI w).map Int.ofNat = w:=zfP fun c hc => (h.sym c hc).1
def sgn (m:z6) (l:List (List Int)) (s:Nat):List (List Int):=l.map fun w => rsp m (s:Int) (uI w)
theorem z7D {m:z6} {l:List (List Int)} {s i:Nat} {x:List Int} (hx:l[i]? = some x):sgn m (l.take (i + 1)) s = sgn m (l.take i) s ++ [rsp m (s:Int) (uI x)]:=by
 rw [List.take_add_one,hx]
 simp only [sgn,List.map_append,Option.toList_some,List.map_cons,List.map_nil]
section
variable {m:z6} (h:VM m) (hc:Cpl m)
include h hc
theorem zeJ {s:Nat} (hs:s < m.Rows.length) (v:List Nat) (hv:Wd (kk m) v) (hl:v.length ≤ 1000):Ret (YK m (s:Int) (v.map Int.ofNat)) fun o => o.1 = rsp m (s:Int) v:=by
 have hN:=h.len64
 have hw:∀ k:Nat,k ≤ 1000 → w64 ((k:Int) + 1) = ((k + 1:Nat):Int):=fun k hk => by rw [yl (by omega) (by omega)]; rfl
 unfold YK
 rw [WF]
 refine ⟨by simp only [List.length_map]; omega,?_⟩
 rw [zA]
 refine Ret.mono (Q:=fun o => o.2 = rsp m (s:Int) v) ?_ fun o ho => ?_
 ·refine yP (fun q => ∃ (i t:Nat),q.2.2 = (i:Int) ∧ i ≤ v.length ∧ q.1 = (t:Int) ∧ t < m.Rows.length ∧ aft m (s:Int) (v.take i) = (t:Int) ∧ q.2.1 = rsp m (s:Int) (v.take i) ++ List.replicate (v.length - i) 0) (fun q => 2000 - q.2.2.toNat) ⟨0,s,rfl,Nat.zero_le _,rfl,hs,rfl,by simp [rsp]⟩ (by simp) ?_
  rintro ⟨st,out,q⟩ ⟨i,t,e2,hi,e1,ht,ha,e3⟩
  simp only at e1 e2 e3
  subst e1; subst e2; subst e3
  unfold ZM u7
  rw [zS]
  refine ⟨fun c => ?_,fun c => ?_⟩
  ·have hi':i < v.length:=by simpa using c
   have hx:v[i]? = some v[i]:=List.getElem?_eq_getElem hi'
   have hxk:v[i] < kk m:=hv _ (List.getElem_mem hi')
   have hgx:(v.map Int.ofNat)[i]? = some ((v[i]:Nat):Int):=by rw [List.getElem?_map,hx]; rfl
   have hne:((t:Int) != (-1)) = true:=by simp
   rw [zT,bdT hgx,oB,hne,cond_true,h.edge_eq ht hxk]
   have hrl:(rsp m (s:Int) (v.take i)).length = i:=by rw [z6U,List.length_take]; omega
   have hrep:List.replicate (v.length - i) (0:Int) = 0 :: List.replicate (v.length - (i + 1)) 0:=by rw [show v.length - i = (v.length - (i + 1)) + 1 by omega]; rfl
   have e0:(0:Int) ≤ (E m t v[i]).To:=hc t _ ht hxk
   have e1:=h.edgeAt ht hxk
   unfold jQ
   have hg:(rsp m (s:Int) (v.take i) ++ List.replicate (v.length - i) 0)[i]? = some (0:Int):=by
    rw [hrep,List.getElem?_append_right (by omega),hrl]
    simp
   rw [zT,bdT hg,hw i (by omega)]
   have htk:v.take (i + 1) = v.take i ++ [v[i]]:=by rw [List.take_add_one,hx]; rfl
   obtain ⟨r1,r2⟩:=Ku m (v.take i) (s:Int) v[i]
   refine zg.2 ⟨⟨i + 1,(E m t v[i]).To.toNat,rfl,hi',by simp only; omega,by omega,?_,?_⟩,by simp only [Int.toNat_natCast]; omega⟩
   ·rw [htk,r2,ha,W1]
    omega
   ·simp only [Int.toNat_natCast]
    rw [htk,r1,ha,W1,hrep,List.set_append,if_neg (by omega),hrl,Nat.sub_self]
    simp
  ·have hi':i = v.length:=by
    have:¬ i < v.length:=by simpa using c
    omega
   subst hi'
   refine zg.2 ?_
   show rsp m (s:Int) (v.take v.length) ++ List.replicate (v.length - v.length) 0 = rsp m (s:Int) v
   simp
 ·unfold ZN
  exact zg.2 ho
theorem zhR {s:Nat} (hs:s < m.Rows.length) {w:List Int} (hw:VW m w):YL m (s:Int) w = some (rsp m (s:Int) (uI w),0):=by
 have hN:=h.len64
 obtain ⟨o,e,e1⟩:=zeJ h hc hs (uI w) (hw.wd h.kk_eq) (by have:=hw.len; unfold uI; simp; omega)
 rw [hw.map] at e
 have hst:kE m (s:Int) = some 0:=by
  unfold kE
  rw [bdT (VV m),z1j h,show ((0:Int) != 0) = false from rfl,cond_false,decide_eq_false (by omega),cond_false,decide_eq_false (by omega),cond_false]
 have hck:jy w m.Inputs = some 0:=by
  rw [z5z,if_neg (by have:=h.in16; omega),if_neg (by have:=hw.len; omega),if_neg (by have:=h.in1; omega)]
  have:wE m.Inputs w = 0:=z6I.2 ⟨hw.len,hw.sym⟩
  rw [this]
 unfold YL
 rw [bdT hst,show ((0:Int) != 0) = false from rfl,cond_false,bdT hck,show ((0:Int) != 0) = false from rfl,cond_false,bdT e,e1]
theorem z5G {s:Nat} (hs:s < m.Rows.length) {l:List (List Int)} (hl:l.length ≤ 100000) (hw:∀ w ∈ l,VW m w):xJ m l (s:Int) = some (sgn m l s):=by
 unfold xJ qm yg
 have:=kS (step:=fun q => yT m l (s:Int) q.1 q.2) (fun i => (sgn m (l.take i) s,(i:Int))) l.length (t:=sgn m l s) (by omega) (fun i hi => by
  have hx:l[i]? = some l[i]:=List.getElem?_eq_getElem hi
  show yT m l (s:Int) (sgn m (l.take i) s) (i:Int) = _
  unfold yT
  have hlen:(sgn m (l.take i) s).length ≤ 100000:=by unfold sgn; simp; omega
  rw [decide_eq_true (by omega),cond_true,zT,bdT hx,bdT (zhR h hc hs (hw _ (List.getElem_mem hi))),gdT (by simp; omega),yl (by omega) (by omega),z7D hx]
  rfl) (by
  show yT m l (s:Int) _ _ = _
  unfold yT
  rw [decide_eq_false (by omega),cond_false,List.take_length])
 have h0:((sgn m (l.take 0) s,((0:Nat):Int))) = (([]:List (List Int)),(0:Int)):=by simp [sgn]
 rw [h0] at this
 rw [bdT this]
 rfl
omit hc in
theorem zes {s:Nat} (hs:s < m.Rows.length) {l:List (List Int)} (hl:l.length ≤ 100000) (hw:∀ w ∈ l,VW m w):jL m l (s:Int) = some (sgn m l s):=by
 unfold jL jg
 have:=kS (step:=fun q => xv m l (s:Int) q.1 q.2) (fun i => (sgn m (l.take i) s,(i:Int))) l.length (t:=sgn m l s) (by omega) (fun i hi => by
  have hx:l[i]? = some l[i]:=List.getElem?_eq_getElem hi
  have hv:=hw _ (List.getElem_mem hi)
  have hr:=zgF h (s:=(s:Int)) ⟨by omega,by omega⟩ (uI l[i]) (hv.wd h.kk_eq) (by have:=hv.len; unfold uI; simp; omega)
  rw [hv.map] at hr
  show xv m l (s:Int) (sgn m (l.take i) s) (i:Int) = _
  unfold xv
  have hlen:(sgn m (l.take i) s).length ≤ 100000:=by unfold sgn; simp; omega
  rw [decide_eq_true (by omega),cond_true,zT,bdT hx,bdT hr,gdT (by simp; omega),yl (by omega) (by omega),z7D hx]
  rfl) (by
  show xv m l (s:Int) _ _ = _
  unfold xv
  rw [decide_eq_false (by omega),cond_false,List.take_length])
 have h0:((sgn m (l.take 0) s,((0:Nat):Int))) = (([]:List (List Int)),(0:Int)):=by simp [sgn]
 rw [h0] at this
 rw [bdT this]
end
theorem zar (a b:List (List Int)) (ha:a.length ≤ 1000000) (hw:∀ x ∈ a,x.length ≤ 1000000):wP a b = some (decide (a = b)):=by
 unfold wP yG
 by_cases e:a.length = b.length
 ·have e':(((a.length:Nat):Int) != ((b.length:Nat):Int)) = false:=by simp; omega
  rw [e',cond_false,yq a (by omega) (step:=fun s => zQ a b s) (fun i x => if b[i]? = some x then none else some false) ?_ ?_]
  ·by_cases hab:a = b
   ·subst hab
    rw [jT (fun i x hx => by rw [Nat.zero_add,if_pos hx]),decide_eq_true rfl]
    rfl
   ·rw [decide_eq_false hab]
    cases hf:y9 (fun i x => if b[i]? = some x then none else some false) a 0 with
    | none =>
     exfalso
     refine hab (List.ext_getElem? fun i => ?_)
     cases hx:a[i]? with
     | none =>
      have:a.length ≤ i:=List.getElem?_eq_none_iff.1 hx
      exact (List.getElem?_eq_none_iff.2 (by omega)).symm
     | some x =>
      have:=xe hf i x hx
      rw [Nat.zero_add] at this
      split at this
      ·rename_i hb; exact hb.symm
      ·cases this
    | some r =>
     obtain ⟨i,x,_,hr⟩:=xp hf
     split at hr
     ·cases hr
     ·cases hr; rfl
  ·intro i x hx
   have hlt:=(List.getElem?_eq_some_iff.1 hx).1
   have hb:b[i]? = some (b[i]'(by omega)):=List.getElem?_eq_getElem (by omega)
   unfold zQ jp
   rw [decide_eq_true (by omega),cond_true,zT,bdT hx,zT,bdT hb,bdT (z6s x _ (by have:=hw x (List.mem_of_getElem? hx); omega)),oB,hb]
   by_cases hxb:x = b[i]'(by omega)
   ·rw [decide_eq_true hxb,if_pos (by rw [hxb])]
    rfl
   ·rw [decide_eq_false hxb,if_neg (fun q => hxb (Option.some.inj q).symm)]
    rfl
  ·unfold zQ
   rw [decide_eq_false (by omega),cond_false]
 ·have e':(((a.length:Nat):Int) != ((b.length:Nat):Int)) = true:=by simp; omega
  rw [e',cond_true,decide_eq_false (fun q => e (by rw [q]))]
  rfl
theorem zaC {m:z6} {l:List (List Int)} (h:chE m.Inputs l = 0):l.length ≤ 4096 ∧ ∀ w ∈ l,VW m w:=by
 obtain ⟨h1,h2,_,_,_,h3⟩:=zcI h
 exact ⟨h1,fun w hw => ⟨h2 w hw,fun c hc => h3 w hw c hc⟩⟩
theorem z4F (m:z6) (l:List (List Int)) (s:Nat):(sgn m l s).length = l.length:=by simp [sgn]
theorem z1N {m:z6} {l:List (List Int)} {s:Nat} {x:List Int} (hw:∀ w ∈ l,VW m w) (hx:x ∈ sgn m l s):x.length ≤ 256:=by
 obtain ⟨w,h1,rfl⟩:=List.mem_map.1 hx
 rw [z6U]
 have:=(hw w h1).len
 unfold uI
 simpa using this
theorem zba (m:z6) (l:List (List Int)) (s:Nat) (hl:l.length ≤ 100000) (r:List (List Int)) (hr:r.map List.length = l.map List.length):zF l r () = some true:=by
 have hlen:r.length = l.length:=by simpa using congrArg List.length hr
 unfold zF
 have e:(((l.length:Nat):Int) != ((r.length:Nat):Int)) = false:=by simp; omega
 rw [e,cond_false,yq l (by omega) (step:=fun s => zu l r s) (fun _ _ => none) ?_ ?_,jT (fun _ _ _ => rfl)]
 ·rfl
 ·intro i x hx
  have hlt:=(List.getElem?_eq_some_iff.1 hx).1
  have hy:r[i]? = some (r[i]'(by omega)):=List.getElem?_eq_getElem (by omega)
  have hxy:(r[i]'(by omega)).length = x.length:=by
   have:=congrArg (fun q => q[i]?) hr
   simpa [List.getElem?_map,hx,hy] using this
  unfold zu uS
  rw [decide_eq_true (by omega),cond_true,zT,bdT hx,zT,bdT hy,oB,hxy]
  simp only [beq_self_eq_true,Bool.not_true,cond_false]
  rfl
 ·unfold zu
  rw [decide_eq_false (by omega),cond_false]
section
variable {m:z6} (h:KM m) {l:List (List Int)}
include h
theorem Qt (l:List (List Int)):va m l = some (chE m.Inputs l):=by
 unfold va
 rw [bdT h.proper,show ((0:Int) != 0) = false from rfl,cond_false,bdT (z96 l m.Inputs)]
variable (hl:chE m.Inputs l = 0)
include hl
theorem zhQ {s:Nat} (hs:s < m.Rows.length):yX m l (s:Int) = some (sgn m l s,0):=by
 obtain ⟨h1,h2⟩:=zaC hl
 unfold yX
 rw [bdT (Qt h l),hl,show ((0:Int) != 0) = false from rfl,cond_false,decide_eq_false (by omega),cond_false,decide_eq_false (by omega),cond_false,bdT (z5G h.vm h.cpl hs (by omega) h2)]
def idn (m:z6) (l:List (List Int)) (r:List (List Int)) (n:Nat):List Int:=((List.range n).filter fun s => decide (sgn m l s = r)).map Int.ofNat
theorem zjo (r:List (List Int)) (hr:r.map List.length = l.map List.length):yh m l r = some (idn m l r m.Rows.length,0):=by
 obtain ⟨h1,h2⟩:=zaC hl
 have hN:=h.len
 have hil:∀ n,(idn m l r n).length ≤ n:=fun n => by
  unfold idn
  rw [List.length_map]
  exact Nat.le_trans (List.length_filter_le _ _) (by simp)
 have hlp:=kS (step:=fun q => xw m l r q.1 q.2) (fun i => (idn m l r i,(i:Int))) m.Rows.length (t:=idn m l r m.Rows.length) (by omega) (fun i hi => by
  show xw m l r (idn m l r i) (i:Int) = _
  have hi2:=hil i
  unfold xw ub
  have hsr:idn m l r (i + 1) = idn m l r i ++ (if sgn m l i = r then [(i:Int)] else []):=by
   unfold idn
   rw [List.range_succ,List.filter_append,List.map_append]
   by_cases e:sgn m l i = r
   ·simp [e]
   ·simp [e]
  rw [decide_eq_true (by omega),cond_true,bdT (z5G h.vm h.cpl hi (by omega) h2),bdT (zar _ _ (by rw [z4F]; omega) fun x hx => by have:=z1N h2 hx; omega),yl (by omega) (by omega)]
  by_cases e:sgn m l i = r
  ·rw [decide_eq_true e,cond_true,gdT (by simp; omega),hsr,if_pos e]
   rfl
  ·rw [decide_eq_false e,cond_false,hsr,if_neg e,List.append_nil]
   rfl) (by
  show xw m l r _ _ = _
  unfold xw
  rw [decide_eq_false (by omega),cond_false])
 have h0:(idn m l r 0,((0:Nat):Int)) = (([]:List Int),(0:Int)):=rfl
 rw [h0] at hlp
 unfold yh
 rw [bdT (Qt h l),hl,show ((0:Int) != 0) = false from rfl,cond_false,bdT (zba m l 0 (by omega) r hr),show (!true) = false from rfl,cond_false,bdT hlp]
 unfold jq
 have:=hil m.Rows.length
 rw [bdT (zaA _ (by omega))]
theorem zd5:Ret (ua m l) fun o => o.2 = 0 ∧ (o.1 = true ↔ ∀ a b,a < b → b < m.Rows.length → sgn m l a ≠ sgn m l b):=by
 obtain ⟨h1,h2⟩:=zaC hl
 have hN:=h.len
 have hlp:=kS (step:=fun q => wv m l q.1 q.2) (fun i => ((List.range i).map (sgn m l),(i:Int))) m.Rows.length (t:=(List.range m.Rows.length).map (sgn m l)) (by omega) (fun i hi => by
  show wv m l ((List.range i).map (sgn m l)) (i:Int) = _
  unfold wv
  rw [decide_eq_true (by omega),cond_true,bdT (z5G h.vm h.cpl hi (by omega) h2),gdT (by simp; omega),yl (by omega) (by omega),List.range_succ,List.map_append]
  rfl) (by
  show wv m l _ _ = _
  unfold wv
  rw [decide_eq_false (by omega),cond_false])
 have h0:((List.range 0).map (sgn m l),((0:Nat):Int)) = (([]:List (List (List Int))),(0:Int)):=rfl
 rw [h0] at hlp
 unfold ua
 rw [bdT (Qt h l),hl,show ((0:Int) != 0) = false from rfl,cond_false,bdT hlp]
 unfold ZS vb
 rw [oB,zA]
 have hg:∀ a,a < m.Rows.length → ((List.range m.Rows.length).map (sgn m l))[a]? = some (sgn m l a):=fun a ha => by
  rw [List.getElem?_map,List.getElem?_range ha]
  rfl
 refine Ret.mono (Q:=fun o => (o = .next () ∧ ∀ a b,a < b → b < m.Rows.length → sgn m l a ≠ sgn m l b) ∨ (o = .done () ∧ ∃ a b,a < b ∧ b < m.Rows.length ∧ sgn m l a = sgn m l b)) ?_ fun o ho => ?_
 ·refine Qz m.Rows.length (by omega) _ (fun s t o => o = .next () ∧ ∀ a b,a < b → b < m.Rows.length → (a < s ∨ (a = s ∧ b < t)) → sgn m l a ≠ sgn m l b) _ ⟨rfl,fun a b q1 q2 q3 => by omega⟩ ?_ ?_ ?_
  ·rintro s t o hst ht ⟨rfl,ho⟩
   have e:uR ((List.range m.Rows.length).map (sgn m l)) (s:Int) (t:Int) = some (if sgn m l s = sgn m l t then .done () else .next ()):=by
    unfold uR
    rw [zT,bdT (hg s (by omega)),zT,bdT (hg t ht),bdT (zar _ _ (by rw [z4F]; omega) fun x hx => by have:=z1N h2 hx; omega)]
    by_cases e:sgn m l s = sgn m l t
    ·rw [decide_eq_true e,cond_true,if_pos e]
    ·rw [decide_eq_false e,cond_false,if_neg e]
   by_cases e2:sgn m l s = sgn m l t
   ·rw [if_pos e2] at e
    refine ⟨(.done (),false),?_,.inr ⟨rfl,.inr ⟨rfl,s,t,hst,ht,e2⟩⟩⟩
    simp only [yOf]
    rw [e]
   ·rw [if_neg e2] at e
    refine ⟨(.next (),true),?_,.inl ⟨rfl,rfl,fun a b q1 q2 q3 => ?_⟩⟩
    ·simp only [yOf]
     rw [e]
    ·by_cases e3:a = s ∧ b = t
     ·rw [e3.1,e3.2]; exact e2
     ·exact ho a b q1 q2 (by omega)
  ·rintro s t o hs hst ht ⟨rfl,ho⟩
   exact ⟨rfl,fun a b q1 q2 q3 => ho a b q1 q2 (by omega)⟩
  ·rintro s t o hs ⟨rfl,ho⟩
   exact .inl ⟨rfl,fun a b q1 q2 => ho a b q1 q2 (by omega)⟩
 ·unfold ZR
  rcases ho with ⟨rfl,ho⟩ | ⟨rfl,a,b,q1,q2,q3⟩
  ·exact zg.2 ⟨rfl,Iff.intro (fun _ => ho) (fun _ => rfl)⟩
  ·exact zg.2 ⟨rfl,Iff.intro (fun q => Bool.noConfusion q) (fun q => (q a b q1 q2 q3).elim)⟩
end
theorem zjA (x:Int):0 ≤ IntKind.u64.wrap x ∧ IntKind.u64.wrap x < 18446744073709551616:=by
 simp only [IntKind.wrap,IntKind.bits,IntKind.signed]
 simp
 omega
theorem zb8 {x:Int} (h1:0 ≤ x) (h2:x < 18446744073709551616):IntKind.u64.wrap x = x:=by
 simp only [IntKind.wrap,IntKind.bits,IntKind.signed]
 simp
 omega
theorem z9m:∀ n:Fin 13,z3A .u64 1 ((n:Nat):Int) = ((2 ^ (n:Nat):Nat):Int):=by decide
theorem zh9:(z8J.l.all fun c => decide (0 ≤ c) && decide (c ≤ 63)) = true:=by kernel_rfl
theorem zfQ (x:Int):Ret (xE x) fun r => 0 ≤ r:=by
 unfold xE
 rw [zS]
 refine ⟨fun _ => zg.2 (by decide),fun _ => ?_⟩
 rw [zA,z9E]
 have hw:=zjA ((z3c .u64 x (IntKind.u64.wrap (0 - x))) * 285870213051353865)
 generalize IntKind.u64.wrap ((z3c .u64 x (IntKind.u64.wrap (0 - x))) * 285870213051353865) = y at hw
 have e:Int.fdiv y (2 ^ 58) = y / (2 ^ 58):=Int.fdiv_eq_ediv_of_nonneg _ (by decide)
 rw [e]
 have h1:0 ≤ y / (2 ^ 58):=Int.ediv_nonneg hw.1 (by decide)
 have h2:y / (2 ^ 58) < 64:=Int.ediv_lt_of_lt_mul (by decide) (by omega)
 refine ⟨h1,?_⟩
 have hl:(y / (2 ^ 58)).toNat < z8J.l.length:=by rw [z8J.len]; omega
 refine ⟨_,List.getElem?_eq_getElem hl,zg.2 ?_⟩
 have:=List.all_eq_true.1 zh9 _ (List.getElem_mem hl)
 simp only [Bool.and_eq_true,decide_eq_true_eq] at this
 rw [yl (by omega) (by omega)]
 exact this.1
theorem zdo (x:Int):Ret (vB x) fun _ => True:=⟨_,rfl,trivial⟩
theorem zaX (a b:Int):Ret (YN a b) fun _ => True:=by
 unfold YN wY
 rw [zA,zA]
 refine (zfQ _).mono fun r hr => ?_
 refine zg.2 ?_
 rw [WF]
 exact ⟨hr,zg.2 trivial⟩
section
variable {m:z6} (h:KM m) {l:List (List Int)} (hl:l.length ≤ 12) (hw:∀ w ∈ l,VW m w)
include h hl hw
theorem zcr:Ret (qL m l) fun o => o.length ≤ 2000:=by
 have hN:=h.len
 have hW:∀ k:Nat,k ≤ 1000 → w64 ((k:Int) + 1) = ((k + 1:Nat):Int):=fun k hk => by rw [yl (by omega) (by omega)]; rfl
 unfold qL vb
 rw [oB,zA]
 refine Ret.mono (Q:=fun o => ∃ out:List Int,o = .next out ∧ out.length ≤ 2000) ?_ fun o ho => ?_
 ·refine Qz m.Rows.length (by omega) _ (fun s t o => ∃ out:List Int,o = .next out ∧ out.length ≤ 30 * s + t ∧ s ≤ 30 ∧ t ≤ 32) _ ⟨[],rfl,by simp,by omega,by omega⟩ ?_ ?_ ?_
  ·rintro s t o hst ht ⟨out,rfl,ho,h1,h2⟩
   have main:Ret (wi m l out (s:Int) (t:Int)) fun o => ∃ out',o = .next out' ∧ out'.length ≤ out.length + 1:=by
    unfold wi
    rw [zA]
    refine Ret.mono (Q:=fun _ => True) ?_ fun c _ => ?_
    ·refine yP (fun q => ∃ i:Nat,q.2 = (i:Int) ∧ i ≤ l.length) (fun q => 1000 - q.2.toNat) ⟨0,rfl,Nat.zero_le _⟩ (by simp) ?_
     rintro ⟨c,q⟩ ⟨i,e2,hi⟩
     simp only at e2
     subst e2
     unfold qn vD
     rw [zS]
     refine ⟨fun c => ?_,fun c => zg.2 trivial⟩
     have hi':i < l.length:=by simpa using c
     have hsub:∀ w ∈ ((l.drop ((i:Int)).toNat).take ((((i + 1:Nat):Int)).toNat - ((i:Int)).toNat)),VW m w:=fun w q => hw w (List.mem_of_mem_drop (List.mem_of_mem_take q))
     have hsl:((l.drop ((i:Int)).toNat).take ((((i + 1:Nat):Int)).toNat - ((i:Int)).toNat)).length ≤ 100000:=by
      rw [List.length_take,List.length_drop]; omega
     rw [hW i (by omega),WF]
     refine ⟨⟨by omega,by omega,by omega⟩,?_⟩
     rw [bdT (z5G h.vm h.cpl (show s < m.Rows.length by omega) hsl hsub),WF]
     refine ⟨⟨by omega,by omega,by omega⟩,?_⟩
     rw [bdT (z5G h.vm h.cpl ht hsl hsub),bdT (zar _ _ (by rw [z4F]; omega) fun x hx => by have:=z1N hsub hx; omega),zS]
     refine ⟨fun _ => ?_,fun _ => zg.2 ⟨⟨i + 1,rfl,hi'⟩,by simp only [Int.toNat_natCast]; omega⟩⟩
     rw [WF]
     exact ⟨by omega,zg.2 ⟨⟨i + 1,rfl,hi'⟩,by simp only [Int.toNat_natCast]; omega⟩⟩
    ·unfold qo
     rw [WF]
     exact ⟨by simp; omega,zg.2 ⟨_,rfl,by simp⟩⟩
   obtain ⟨o,e,out',rfl,q1⟩:=main
   refine ⟨(.next out',true),?_,.inl ⟨rfl,out',rfl,by omega,by omega,by omega⟩⟩
   simp only [yOf]
   rw [e]
  ·rintro s t o hs hst ht ⟨out,rfl,ho,h1,h2⟩
   exact ⟨out,rfl,by omega,by omega,by omega⟩
  ·rintro s t o hs ⟨out,rfl,ho,h1,h2⟩
   exact ⟨out,rfl,by omega⟩
 ·obtain ⟨out,rfl,ho⟩:=ho
  exact zg.2 ho
omit h hw in
theorem zcS (r1:List Int) (hr:r1.length ≤ 2000):Ret (loop (fun s => qN (l,0) r1 s.1 s.2) (IntKind.u64.wrap ((z3A .u64 1 ((l.length:Nat):Int)) - 1),0)) fun _ => True:=by
 have hsh:=z9m ⟨l.length,by omega⟩
 have h2:2 ^ l.length ≤ 2 ^ 12:=Nat.pow_le_pow_right (by omega) hl
 refine yP (fun q => ∃ i:Nat,q.2 = (i:Int) ∧ i ≤ 4096) (fun q => 10000 - q.2.toNat) ⟨0,rfl,Nat.zero_le _⟩ (by simp) ?_
 rintro ⟨b,q⟩ ⟨i,e2,hi⟩
 simp only at e2
 subst e2
 unfold qN
 rw [zS]
 refine ⟨fun c => ?_,fun _ => zg.2 trivial⟩
 have hi':i < 4096:=by
  have:=of_decide_eq_true c
  simp only at this
  rw [hsh] at this
  simp only at this
  omega
 have nx:∀ b',Ret (xK (i:Int) b') (LRP (fun s' => (∃ i:Nat,s'.2 = (i:Int) ∧ i ≤ 4096) ∧ 10000 - s'.2.toNat < 10000 - ((i:Int)).toNat) fun _ => True):=fun b' => by
  unfold xK
  rw [zb8 (by omega) (by omega)]
  exact zg.2 ⟨⟨i + 1,rfl,by omega⟩,by simp only; omega⟩
 have j7:∀ z,Ret (vP r1 b (i:Int) z) (LRP (fun s' => (∃ i:Nat,s'.2 = (i:Int) ∧ i ≤ 4096) ∧ 10000 - s'.2.toNat < 10000 - ((i:Int)).toNat) fun _ => True):=fun z => by
  unfold vP kU
  rw [yq r1 (by omega) (step:=fun s => vO r1 b (i:Int) s) (fun _ x => if (z3c .u64 x (i:Int) == 0) = true then some b else none) ?_ ?_,oB]
  ·cases y9 (fun _ x => if (z3c .u64 x (i:Int) == 0) = true then some b else none) r1 0 with
   | none => exact nx _
   | some z => exact nx _
  ·intro j x hx
   have hlt:=(List.getElem?_eq_some_iff.1 hx).1
   unfold vO
   rw [decide_eq_true (by omega),cond_true,zT,bdT hx]
   by_cases e:(z3c .u64 x (i:Int) == 0) = true
   ·rw [e,cond_true,if_pos rfl]; rfl
   ·rw [Bool.not_eq_true] at e
    rw [e,cond_false,if_neg (by simp)]; rfl
  ·unfold vO
   rw [decide_eq_false (by omega),cond_false]
 rw [zA]
 refine (zdo _).mono fun r3 _ => ?_
 rw [zA]
 refine (zdo _).mono fun r4 _ => ?_
 rw [zS]
 refine ⟨fun _ => nx _,fun _ => ?_⟩
 rw [zS]
 refine ⟨fun _ => ?_,fun _ => j7 _⟩
 rw [zS]
 refine ⟨fun _ => nx _,fun _ => ?_⟩
 rw [zA]
 refine (zaX _ _).mono fun r5 _ => ?_
 rw [zS]
 exact ⟨fun _ => nx _,fun _ => j7 _⟩
end
theorem zf0 {m:z6} (h:KM m) {l:List (List Int)} (hA:j6 m = some (l,0)) (hw:∀ w ∈ l,VW m w):Ret (uc m) fun _ => True:=by
 unfold uc
 rw [bdT hA,show ((0:Int) != 0) = false from rfl,cond_false,zS]
 refine ⟨fun _ => zg.2 trivial,fun c => ?_⟩
 have hl:l.length ≤ 12:=by
  have:=of_decide_eq_false c
  simp only at this
  omega
 rw [zA]
 refine (zcr h hl hw).mono fun r1 hr1 => ?_
 rw [WF]
 refine ⟨by omega,?_⟩
 rw [WF]
 refine ⟨by omega,?_⟩
 rw [zA]
 refine (zcS hl r1 hr1).mono fun best _ => ?_
 unfold kW kV yg
 rw [zA]
 refine Ret.mono (Q:=fun _ => True) ?_ fun _ _ => zg.2 trivial
 refine yP (fun q => ∃ i:Nat,q.2 = (i:Int) ∧ i ≤ l.length ∧ q.1.length ≤ i) (fun q => 1000 - q.2.toNat) ⟨0,rfl,Nat.zero_le _,Nat.le_refl _⟩ (by simp) ?_
 rintro ⟨o,q⟩ ⟨i,e2,hi,ho⟩
 simp only at e2 ho
 subst e2
 unfold kT qO
 rw [zS]
 refine ⟨fun c => ?_,fun _ => zg.2 trivial⟩
 have hi':i < l.length:=by simpa using c
 have hx:l[i]? = some l[i]:=List.getElem?_eq_getElem hi'
 rw [zT]
 simp only
 rw [bdT hx,WF,yl (by omega) (by omega)]
 refine ⟨by omega,?_⟩
 rw [zS]
 refine ⟨fun _ => ?_,fun _ => zg.2 ⟨⟨i + 1,rfl,hi',by simp only; omega⟩,by simp only; omega⟩⟩
 rw [WF]
 exact ⟨by simp; omega,zg.2 ⟨⟨i + 1,rfl,hi',by simp; omega⟩,by simp only; omega⟩⟩
def Ok3 (a:Int):Prop:=(-9223372036854775808) ≤ a ∧ a ≤ 9223372036854775807
def zkI (a:zh):Prop:=Ok3 a.To ∧ Ok3 a.Out
def zkH (l:List zh):Prop:=∀ a ∈ l,zkI a
def zlR (l:List (List zh)):Prop:=∀ a ∈ l,zkH a
def zlQ (a:z6):Prop:=Ok3 a.Inputs ∧ Ok3 a.Outputs ∧ zlR a.Rows
def zkJ (l:List Int):Prop:=∀ a ∈ l,Ok3 a
def zkK (l:List (List Int)):Prop:=∀ a ∈ l,zkJ a
def zlP (a:wy):Prop:=zkK a.L ∧ zkK a.Responses ∧ Ok3 a.S
theorem zh3 (a:List Int) (hl:a.length ≤ 1000000):Yp a a = some true:=by
 unfold Yp
 rw [bdT (z7T [a] [a] (by simp) fun x q => by rw [List.mem_singleton.1 q]; omega),decide_eq_true rfl,cond_true,beq_self_eq_true]
theorem z9k (m:z6):Ret (W3 m) fun o => o = 0 → m.Rows.length ≤ 6 ∧ ∀ r ∈ m.Rows,r.length ≤ 4:=by
 unfold W3
 rw [zS]
 refine ⟨fun _ => zg.2 fun q => by simp at q,fun c => ?_⟩
 have hN:m.Rows.length ≤ 6:=by
  have:=of_decide_eq_false c
  omega
 rw [yq m.Rows (by omega) (step:=fun s => j5 m s) (fun _ r => if 4 < r.length then some (1:Int) else none) ?_ ?_,oB]
 ·cases hf:y9 (fun _ r => if 4 < r.length then some (1:Int) else none) m.Rows 0 with
  | none =>
   refine zg.2 fun _ => ⟨hN,fun r hr => ?_⟩
   obtain ⟨i,hi⟩:=List.mem_iff_getElem?.1 hr
   have:=xe hf i r hi
   split at this
   ·cases this
   ·omega
  | some o =>
   obtain ⟨i,r,_,h2⟩:=xp hf
   split at h2
   ·cases h2
    exact zg.2 fun q => by simp at q
   ·cases h2
 ·intro i r hr
  have hlt:=(List.getElem?_eq_some_iff.1 hr).1
  unfold j5
  rw [decide_eq_true (by omega),cond_true,zT,bdT hr]
  by_cases e:4 < r.length
  ·rw [decide_eq_true (by omega),cond_true,if_pos e]; rfl
  ·rw [decide_eq_false (by omega),cond_false,if_neg e]; rfl
 ·unfold j5
  rw [decide_eq_false (by omega),cond_false]
theorem z6r (l:List (List Int)):Ret (Vq l) fun _ => True:=by
 unfold Vq
 rw [zS]
 refine ⟨fun _ => zg.2 trivial,fun c => ?_⟩
 have hl:l.length ≤ 60:=by
  have:=of_decide_eq_false c
  omega
 rw [bdT (z8q l (by omega)),zS]
 exact ⟨fun _ => zg.2 trivial,fun _ => zg.2 trivial⟩
def zcz (r:List (List Int)) (i:Nat) (x:List Int):Option Bool:=if (r[i]?.map List.length) = some x.length then none else some false
theorem z44 {l r:List (List Int)} (hl:r.length = l.length):y9 (zcz r) l 0 = if r.map List.length = l.map List.length then none else some false:=by
 by_cases e:r.map List.length = l.map List.length
 ·rw [if_pos e]
  refine jT fun i x hx => ?_
  have:=congrArg (fun q => q[i]?) e
  simp only [List.getElem?_map,hx,Option.map_some] at this
  unfold zcz
  rw [Nat.zero_add,if_pos this]
 ·rw [if_neg e]
  cases hf:y9 (zcz r) l 0 with
  | none =>
   refine (e (List.ext_getElem? fun i => ?_)).elim
   rw [List.getElem?_map,List.getElem?_map]
   cases hx:l[i]? with
   | none =>
    have:l.length ≤ i:=List.getElem?_eq_none_iff.1 hx
    rw [List.getElem?_eq_none_iff.2 (by omega)]
   | some x =>
    have:=xe hf i x hx
    rw [Nat.zero_add] at this
    unfold zcz at this
    split at this
    ·rename_i g; rw [g]; rfl
    ·cases this
  | some o =>
   obtain ⟨i,x,_,h2⟩:=xp hf
   unfold zcz at h2
   split at h2
   ·cases h2
   ·cases h2; rfl
theorem zfM (l r:List (List Int)) (hl:l.length ≤ 100000):zF l r () = some (decide (r.map List.length = l.map List.length)):=by
 unfold zF
 by_cases hlen:r.length = l.length
 ·have e:(((l.length:Nat):Int) != ((r.length:Nat):Int)) = false:=by simp; omega
  rw [e,cond_false,yq l (by omega) (step:=fun s => zu l r s) (zcz r) ?_ ?_,z44 hlen,oB]
  ·by_cases g:r.map List.length = l.map List.length
   ·rw [if_pos g,decide_eq_true g]; rfl
   ·rw [if_neg g,decide_eq_false g]; rfl
  ·intro i x hx
   have hlt:=(List.getElem?_eq_some_iff.1 hx).1
   have hy:r[i]? = some (r[i]'(by omega)):=List.getElem?_eq_getElem (by omega)
   unfold zu uS zcz
   rw [decide_eq_true (by omega),cond_true,zT,bdT hx,zT,bdT hy,oB,hy]
   by_cases g:(r[i]'(by omega)).length = x.length
   ·rw [if_pos (by rw [← g]; rfl),g]
    simp only [beq_self_eq_true,Bool.not_true,cond_false]
    rfl
   ·have e2:((x.length:Int) == ((r[i]'(by omega)).length:Int)) = false:=by simp; omega
    rw [if_neg (by simpa using g),e2]
    rfl
  ·unfold zu
   rw [decide_eq_false (by omega),cond_false]
 ·have e:(((l.length:Nat):Int) != ((r.length:Nat):Int)) = true:=by simp; omega
  rw [e,cond_true,decide_eq_false (fun q => hlen (by simpa using congrArg List.length q))]
theorem z6n (l r:List (List Int)) (hl:l.length ≤ 100000):Vk l r = some (decide (r.map List.length = l.map List.length)):=by
 unfold Vk
 by_cases hlen:r.length = l.length
 ·have e:(((l.length:Nat):Int) != ((r.length:Nat):Int)) = false:=by simp; omega
  rw [e,cond_false,yq l (by omega) (step:=fun s => k8 l r s) (zcz r) ?_ ?_,z44 hlen,oB]
  ·by_cases g:r.map List.length = l.map List.length
   ·rw [if_pos g,decide_eq_true g]; rfl
   ·rw [if_neg g,decide_eq_false g]; rfl
  ·intro i x hx
   have hlt:=(List.getElem?_eq_some_iff.1 hx).1
   have hy:r[i]? = some (r[i]'(by omega)):=List.getElem?_eq_getElem (by omega)
   unfold k8 zcz
   rw [decide_eq_true (by omega),cond_true,zT,bdT hx,zT,bdT hy,hy]
   by_cases g:(r[i]'(by omega)).length = x.length
   ·rw [if_pos (by rw [← g]; rfl),g]
    simp only [bne_self_eq_false,cond_false]
    rfl
   ·have e2:((x.length:Int) != ((r[i]'(by omega)).length:Int)) = true:=by simp; omega
    rw [if_neg (by simpa using g),e2]
    rfl
  ·unfold k8
   rw [decide_eq_false (by omega),cond_false]
 ·have e:(((l.length:Nat):Int) != ((r.length:Nat):Int)) = true:=by simp; omega
  rw [e,cond_true,decide_eq_false (fun q => hlen (by simpa using congrArg List.length q))]
theorem zeC {m:z6} (h:KM m) {l:List (List Int)} (hl:chE m.Inputs l = 0) (r:List (List Int)):kz m l r = some (idn m l r m.Rows.length):=by
 obtain ⟨h1,h2⟩:=zaC hl
 have hN:=h.len
 have hil:∀ n,(idn m l r n).length ≤ n:=fun n => by
  unfold idn
  rw [List.length_map]
  exact Nat.le_trans (List.length_filter_le _ _) (by simp)
 have hlp:=kS (step:=fun q => xN m l r q.1 q.2) (fun i => (idn m l r i,(i:Int))) m.Rows.length (t:=idn m l r m.Rows.length) (by omega) (fun i hi => by
  show xN m l r (idn m l r i) (i:Int) = _
  have hi2:=hil i
  unfold xN uE
  have hsr:idn m l r (i + 1) = idn m l r i ++ (if sgn m l i = r then [(i:Int)] else []):=by
   unfold idn
   rw [List.range_succ,List.filter_append,List.map_append]
   by_cases e:sgn m l i = r
   ·simp [e]
   ·simp [e]
  rw [decide_eq_true (by omega),cond_true,bdT (zes h.vm hi (by omega) h2),bdT (z7T _ _ (by rw [z4F]; omega) fun x hx => by have:=z1N h2 hx; omega),yl (by omega) (by omega)]
  by_cases e:sgn m l i = r
  ·rw [decide_eq_true e,cond_true,gdT (by simp; omega),hsr,if_pos e]
   rfl
  ·rw [decide_eq_false e,cond_false,hsr,if_neg e,List.append_nil]
   rfl) (by
  show xN m l r _ _ = _
  unfold xN
  rw [decide_eq_false (by omega),cond_false])
 have h0:(idn m l r 0,((0:Nat):Int)) = (([]:List Int),(0:Int)):=rfl
 rw [h0] at hlp
 unfold kz
 rw [bdT hlp]
 rfl
theorem z0:((0:Int) != 0) = false:=rfl
theorem zdB {m:z6} {y:wy} {state f:Int} (hf:f ≠ 0) (hr:va m y.L = some f):yH m y state f = some true:=by
 have hb:(f != 0) = true:=by simpa using hf
 have e1:ua m y.L = some (false,f):=by unfold ua; rw [bdT hr,hb,cond_true]
 have e2:yX m y.L y.S = some ([],f):=by unfold yX; rw [bdT hr,hb,cond_true]
 have e3:yh m y.L y.Responses = some ([],f):=by unfold yh; rw [bdT hr,hb,cond_true]
 have hw:(w64 (((([]:List (List Int)).length:Nat):Int) + ((([]:List Int).length:Nat):Int)) == 0) = true:=by
  rw [yl (by simp) (by simp)]
  simp
 unfold yH
 rw [bdT e1,bdT e2,bdT e3,hb,cond_true]
 simp only
 rw [beq_self_eq_true,cond_true,cond_true,cond_true,Bool.not_false,cond_true,hw,cond_true,UU]
 rfl
theorem zjn {m:z6} (h:KM m) {y:wy} {state:Int} (hst:(0 ≤ y.S ∧ y.S < (m.Rows.length:Int) ∧ state = 0) ∨ ((y.S < 0 ∨ (m.Rows.length:Int) ≤ y.S) ∧ state = 1)):yH m y state (chE m.Inputs y.L) = some true:=by
 by_cases hch:chE m.Inputs y.L = 0
 ·have hN:=h.len
  obtain ⟨h1,h2⟩:=zaC hch
  obtain ⟨i1,e1,g1,_⟩:=zd5 h hch
  have e2:∃ x,yX m y.L y.S = some (x,state):=by
   rcases hst with ⟨a,b,rfl⟩ | ⟨a,rfl⟩
   ·obtain ⟨s,hs⟩:∃ s:Nat,y.S = s:=⟨y.S.toNat,by omega⟩
    rw [hs]
    exact ⟨_,zhQ h hch (by omega)⟩
   ·unfold yX
    rw [bdT (Qt h y.L),hch,z0,cond_false]
    by_cases hs:y.S < 0
    ·rw [decide_eq_true hs,cond_true]; exact ⟨_,rfl⟩
    ·rw [decide_eq_false hs,cond_false,decide_eq_true (by omega),cond_true]; exact ⟨_,rfl⟩
  obtain ⟨x2,e2⟩:=e2
  rw [hch]
  unfold yH
  rw [bdT e1,bdT e2]
  by_cases hr:y.Responses.map List.length = y.L.map List.length
  ·have hil:(idn m y.L y.Responses m.Rows.length).length ≤ 1000:=by
    unfold idn
    rw [List.length_map]
    exact Nat.le_trans (List.length_filter_le _ _) (by simp; omega)
   rw [bdT (zjo h hch _ hr),z0,cond_false,g1,z0,cond_false]
   simp only
   rw [bne_self_eq_false,cond_false,bdT (z6n _ _ (by omega)),decide_eq_true hr]
   simp only [beq_self_eq_true,Bool.not_true,cond_false]
   rw [bdT (zeC h hch _),bdT (zh3 _ (by omega)),cond_true,UU]
   rfl
  ·have e3:yh m y.L y.Responses = some ([],16):=by
    unfold yh
    rw [bdT (Qt h y.L),hch,z0,cond_false,bdT (zfM _ _ (by omega)),decide_eq_false hr]
    rfl
   rw [bdT e3,z0,cond_false,g1,z0,cond_false]
   simp only
   rw [bne_self_eq_false,cond_false,bdT (z6n _ _ (by omega)),decide_eq_false hr,show (!(((16:Int) == 0) == false)) = false from rfl,cond_false,show ((16:Int) != 0) = true from rfl,cond_true,show ((16:Int) == 16) = true from rfl,cond_true,show (((([]:List Int).length:Nat):Int) == 0) = true from rfl,cond_true,UU]
   rfl
 ·exact zdB hch (Qt h y.L)
theorem zcq {m:z6} {y:wy} (hm:zlQ m) (hy:zlP y):ZP m y = some true:=by
 obtain ⟨s,s1,s2⟩:=z9k m
 obtain ⟨f1,f2,_⟩:=z6r y.L
 obtain ⟨g1,g2,_⟩:=z6r y.Responses
 unfold ZP
 rw [bdT s1]
 by_cases hs:¬ s = 0
 ·rw [show (s != 0) = true by simpa using hs,cond_true]
 replace hs:=Decidable.of_not_not hs
 subst hs
 rw [z0,cond_false,bdT f2]
 by_cases hf:¬ f1 = 0
 ·rw [show (f1 != 0) = true by simpa using hf,cond_true]
 replace hf:=Decidable.of_not_not hf
 subst hf
 rw [z0,cond_false,bdT g2]
 by_cases hg:¬ g1 = 0
 ·rw [show (g1 != 0) = true by simpa using hg,cond_true]
 replace hg:=Decidable.of_not_not hg
 subst hg
 obtain ⟨hN,hR⟩:=s2 rfl
 obtain ⟨e,q1,q2,q3,_⟩:=z6Z m
 rw [z0,cond_false,bdT q2]
 by_cases he:e = 0
 ·subst he
  obtain ⟨v,c,r,d⟩:=q3.1 rfl
  have hin:m.Inputs ≤ 4:=by
   have hm0:m.Rows[0]'(by have:=v.len1; omega) ∈ m.Rows:=List.getElem_mem _
   have a:=v.row _ hm0
   have b:=hR _ hm0
   omega
  have h:KM m:=⟨v,c,d,r,hin,hN⟩
  obtain ⟨o,e1,out,o1,o2,rfl⟩:=z94 h.vm h.cpl h.dist (by omega)
  have eA:j6 m = some (srt out,0):=by
   unfold j6
   rw [bdT h.proper,z0,cond_false,bdT e1]
  obtain ⟨r5,e5,_⟩:=zf0 h eA fun w hw => by
   have:=o1.len h.vm h.cpl h.dist (z2K.1 hw)
   exact ⟨by omega,this.2⟩
  rw [bdT eA,bdT e5,z0,cond_false]
  unfold wM
  rw [beq_self_eq_true,cond_true]
  have J3:∀ state,yH m y state (chE m.Inputs y.L) = some true → xY m y 0 state = some true:=fun state q => by
   unfold xY
   rw [beq_self_eq_true,cond_true,bdT (z9L _ _)]
   exact q
  have bad:(y.S < 0 ∨ (m.Rows.length:Int) ≤ y.S) → yk m y 0 1 = some true:=fun hb => by
   have eO:qM m y.S = some ([],1):=by
    unfold qM
    rw [bdT h.proper,z0,cond_false]
    by_cases hs:y.S < 0
    ·rw [decide_eq_true hs,cond_true]
    ·rw [decide_eq_false hs,cond_false,decide_eq_true (by omega),cond_true]
   unfold yk
   rw [bdT eO]
   simp only
   rw [bne_self_eq_false,cond_false,show ((1:Int) != 0) = true from rfl,cond_true,show (((([]:List (List Int)).length:Nat):Int) != 0) = false from rfl,cond_false]
   exact J3 1 (zjn h (.inr ⟨hb,rfl⟩))
  by_cases hs:y.S < 0
  ·rw [decide_eq_true hs,cond_true]
   exact bad (.inl hs)
  ·rw [decide_eq_false hs,cond_false]
   by_cases ht:y.S ≥ ((m.Rows.length:Nat):Int)
   ·rw [decide_eq_true ht,cond_true]
    exact bad (.inr ht)
   ·rw [decide_eq_false ht,cond_false]
    obtain ⟨k,hk⟩:∃ k:Nat,y.S = k:=⟨y.S.toNat,by omega⟩
    obtain ⟨o,e6,out6,t1,t2,rfl⟩:=z8w h.vm h.cpl h.dist (by omega) k
    have eO:qM m y.S = some (srt out6,0):=by
     unfold qM
     rw [bdT h.proper,z0,cond_false,decide_eq_false hs,cond_false,decide_eq_false ht,cond_false,hk,bdT e6]
    unfold yk
    rw [bdT eO]
    simp only
    rw [bne_self_eq_false,cond_false,cond_false]
    exact J3 0 (zjn h (.inl ⟨by omega,by omega,rfl⟩))
 ·have hb:(e != 0) = true:=by simpa using he
  have hb':(e == 0) = false:=by simpa using he
  have eA:j6 m = some ([],e):=by unfold j6; rw [bdT q1,hb,cond_true]
  have eF:uc m = some ([],e):=by unfold uc; rw [bdT eA,hb,cond_true]
  have eO:qM m y.S = some ([],e):=by unfold qM; rw [bdT q1,hb,cond_true]
  have hr:va m y.L = some e:=by unfold va; rw [bdT q1,hb,cond_true]
  have hw:(w64 (((([]:List (List Int)).length:Nat):Int) + ((([]:List (List Int)).length:Nat):Int)) != 0) = false:=by
   rw [yl (by simp) (by simp)]
   simp
  rw [bdT eA,bdT eF,hb,cond_true]
  simp only
  rw [bne_self_eq_false,cond_false,cond_false,hw,cond_false]
  unfold wM
  rw [hb',cond_false]
  unfold yk
  rw [bdT eO]
  simp only
  rw [bne_self_eq_false,cond_false,hb,cond_true,show (((([]:List (List Int)).length:Nat):Int) != 0) = false from rfl,cond_false]
  unfold xY
  rw [hb',cond_false]
  exact zdB he hr
def z3h (w:World):zi:=fun b o => ya w.heap b o
theorem z7k {w:World} {a:Addr} {v:Value} (h:w.cell? a = some v):a.spot = none ∧ ya w.heap a.block a.off = some v:=by
 unfold World.cell? at h
 unfold ya
 split at h
 ·rename_i c ty fr he
  rw [he]
  split at h
  ·cases h
  ·rename_i hs
   exact ⟨by simpa using hs,h⟩
 ·cases h
section
variable {H:Type} {enc:TypeId × Value → H} {P:Program} {w:World} {base:Nat} {spare:Nat → Bool} {held:Bool}
theorem zaD {a:Addr} {n:Nat} {cs:List Value} (h:w.cells? base a n = some cs) (hn:0 < n):a.spot = none ∧ cs.length = n ∧ z3I (z3h w) a.block a.off cs:=by
 obtain ⟨_,h2,h3⟩:=World.cells?_some h
 have h0:a.spot = none:=by
  have h4:=h3 0 hn
  cases hc:cs[0]? with
  | none => rw [List.getElem?_eq_none_iff] at hc; omega
  | some v =>
   rw [hc] at h4
   have:=(z7k h4).1
   simpa [Addr.add] using this
 refine ⟨h0,h2,fun j v hj => ?_⟩
 have hlt:=(List.getElem?_eq_some_iff.1 hj).1
 have h4:=h3 j (by omega)
 rw [hj] at h4
 have q:=(z7k h4).2
 unfold Addr.add at q
 split at q
 ·rename_i e; subst e; exact q
 ·exact q
theorem z5R {S:zi}:∀ {bs:List A} {cs:List Value} {a:A} {c:List Value},yp S bs cs → Rep S a c → yp S (bs ++ [a]) (cs ++ c)
 | [],cs,a,c,h1,h2 => by
  simp only [yp] at h1
  subst h1
  simp only [List.nil_append,yp]
  exact ⟨c,[],by simp,h2,rfl⟩
 | x :: bs,cs,a,c,h1,h2 => by
  simp only [yp] at h1
  obtain ⟨c1,c2,rfl,r1,r2⟩:=h1
  simp only [List.cons_append,yp]
  exact ⟨c1,c2 ++ c,by simp,r1,z5R r2 h2⟩
theorem zcj {S:zi} {b o:Nat} {c1 c2:List Value} (h1:z3I S b o c1) (h2:z3I S b (o + c1.length) c2):z3I S b o (c1 ++ c2):=by
 intro j v hj
 rcases Nat.lt_or_ge j c1.length with q | q
 ·rw [List.getElem?_append_left q] at hj
  exact h1 j v hj
 ·rw [List.getElem?_append_right q] at hj
  have:=h2 _ _ hj
  rwa [show o + c1.length + (j - c1.length) = o + j by omega] at this
theorem Kq {α:Type} {t e sz:Nat} (f:α → A) (ok:α → Prop) (ht:P.underlying t = some (.slice e)) (hsz:P.cellsOf e = sz) (h0:0 < sz) (hf:∀ a,(f a).size = sz)
    (hel:∀ n cs x,DataW.trod enc P w base spare held n e cs = some x → ∃ a,ok a ∧ Rep (z3h w) (f a) cs)
    {fuel:Nat} {cs:List Value} {x:DataW H × List MemPlace} (h:DataW.trod enc P w base spare held fuel t cs = some x):∃ l:List α,(∀ a ∈ l,ok a) ∧ Rep (z3h w) (.sl sz false (l.map f)) cs:=by
  rcases DataW.trod_slice ht h with ⟨rfl,_⟩ | ⟨a,len,cap,elems,rest,n,_,rfl,_,_,hlc,_,hlen,hall,_,_⟩
  · refine ⟨[],by simp,?_⟩
    simp only [Rep,List.map_nil,List.length_nil]
    exact ⟨none,0,rfl,by simp,Nat.le_refl _,by simp,.inl trivial⟩
  · have key:∀ k,k ≤ len → ∃ (l:List α) (cells:List Value),l.length = k ∧ (∀ a ∈ l,ok a) ∧ yp (z3h w) (l.map f) cells ∧ cells.length = k * sz ∧ (0 < k → a.spot = none) ∧ z3I (z3h w) a.block a.off cells:=by
      intro k
      induction k with
      | zero => intro _; exact ⟨[],[],rfl,by simp,by simp [yp],by simp,by simp,fun j v h => by simp at h⟩
      | succ k ih =>
        intro hk
        obtain ⟨l,cells,q1,q2,q3,q4,q5,q6⟩:=ih (by omega)
        have hk':=hall k (by omega)
        have hsome:elems[k]? = some elems[k]:=List.getElem?_eq_getElem (by omega)
        rw [hsome,Option.bind_eq_some_iff,hsz] at hk'
        obtain ⟨c,hc,htr⟩:=hk'
        obtain ⟨y,hy,hr⟩:=hel _ _ _ htr
        obtain ⟨g1,g2,g3⟩:=zaD hc h0
        refine ⟨l ++ [y],cells ++ c,by simp [q1],?_,?_,?_,?_,?_⟩
        · intro z hz
          rcases List.mem_append.1 hz with q | q
          · exact q2 z q
          · simp only [List.mem_cons,List.not_mem_nil,or_false] at q; subst q; exact hy
        · rw [List.map_append]; exact z5R q3 hr
        · rw [List.length_append,q4,g2,Nat.succ_mul]
        · intro _
          rcases Nat.eq_zero_or_pos k with rfl | hk0
          · simpa [Addr.add] using g1
          · exact q5 hk0
        · refine zcj q6 ?_
          rw [q4]
          unfold Addr.add at g3
          split at g3
          · rename_i e0
            rw [e0,Nat.add_zero]
            exact g3
          · exact g3
    obtain ⟨l,cells,q1,q2,q3,q4,q5,q6⟩:=key len (Nat.le_refl _)
    refine ⟨l,q2,?_⟩
    simp only [Rep,List.length_map]
    refine ⟨some a,cap,by rw [q1],by simp,by omega,?_,?_⟩
    · intro y hy
      obtain ⟨z,_,rfl⟩:=List.mem_map.1 hy
      exact hf z
    · rcases Nat.eq_zero_or_pos len with rfl | hl
      · left; rw [List.length_eq_zero_iff.1 q1]; rfl
      · right
        refine ⟨a.block,a.off,cells,?_,q3,q6⟩
        have:=q5 hl
        obtain ⟨b,o,s⟩:=a
        simp only at this
        subst this
        rfl
theorem zeT {t:Nat} {k:IntKind} {lo hi:Int} (ht:P.underlying t = some (.int k)) (hlo:k.min = lo) (hhi:k.max = hi) {fuel:Nat} {cs:List Value} {x:DataW H × List MemPlace} (h:DataW.trod enc P w base spare held fuel t cs = some x) :
  ∃ n:Int,(lo ≤ n ∧ n ≤ hi) ∧ cs = [.int k n] ∧ Rep (z3h w) (.atom (.int k n)) cs:=by
 obtain ⟨n,rfl,_,hw⟩:=DataW.trod_int ht h
 simp only [Lit.wf,Bool.and_eq_true,decide_eq_true_eq,hlo,hhi] at hw
 exact ⟨n,hw,rfl,by simp only [Rep]; exact ⟨trivial,rfl⟩⟩
theorem VF {t:Nat} {fs:List Field} (ht:P.underlying t = some (.struct ⟨fs⟩)) {fuel:Nat} {cs:List Value} {x:DataW H × List MemPlace} (h:DataW.trod enc P w base spare held fuel t cs = some x) :
  cs.length = P.cellsOf t ∧ ∀ (i:Nat) (f:Field),fs[i]? = some f → ∃ n y,DataW.trod enc P w base spare held n f.type ((cs.drop f.offset).take (P.cellsOf f.type)) = some y:=by
 obtain ⟨xs,n,_,_,hl,hxl,hall⟩:=DataW.trod_struct ht h
 refine ⟨hl,fun i f hf => ?_⟩
 have hlt:=(List.getElem?_eq_some_iff.1 hf).1
 have:=hall i f (by simpa using hf)
 rw [List.getElem?_eq_getElem (by rw [hxl]; simpa using hlt)] at this
 exact ⟨n,_,this⟩
end
theorem YH {S:zi} {a:A} {bs:List A} {cs:List Value} {n:Nat} (h1:Rep S a (cs.take n)) (h2:yp S bs (cs.drop n)):yp S (a :: bs) cs:=by
 simp only [yp]
 exact ⟨cs.take n,cs.drop n,(List.take_append_drop n cs).symm,h1,h2⟩
open Go.RowKit Go.ChangeShapes
theorem z5T {S:zi} (k:IntKind):∀ l:List Int,yp S (l.map fun n => A.atom (.int k n)) (l.map fun n => Value.int k n)
 | [] => by simp [yp]
 | n :: l => by
  simp only [List.map_cons,yp,Rep]
  exact ⟨[.int k n],_,rfl,⟨rfl,rfl⟩,z5T k l⟩
theorem zbE {P:Program} {W:World} {n:String} {l:List Int} {r:List (String × DataW Unit)} {g:Nat} {t e:TypeId} {k:IntKind} {N:Nat} (h:laidMet P ((n,.agg (l.map fun x => .lit (.int k x))) :: r) W)
  (hg:P.globalNamed n = some g) (ht:(P.globals[g]?).map (·.type) = some t) (hu:P.underlying t = some (.array N e)) (he:P.underlying e = some (.int k)) (hc:P.cellsOf e = 1) :
  ∀ (j:Nat) (x:Int),l[j]? = some x → z3h W g j = some (.int k x):=by
 obtain ⟨ps,⟨g0,t0,cs0,f0,p0,q0,hg0,ht0,hv0,hd0,_,_⟩,_,_⟩:=h
 obtain rfl:=Option.some.inj (hg.symm.trans hg0)
 obtain rfl:=Option.some.inj (ht.symm.trans ht0)
 obtain ⟨xs,m,_,hxs,hlen,hxl,hall⟩:=DataW.trod_array hu hd0
 have hx1:l.map (fun x => (DataW.lit (.int k x):DataW Unit)) = xs.map (·.1):=by
  have:=(Prod.mk.inj hxs).1
  injection this
 intro j x hj
 have hjl:j < l.length:=(List.getElem?_eq_some_iff.1 hj).1
 have hll:l.length = xs.length:=by simpa using congrArg List.length hx1
 have hjx:j < xs.length:=by omega
 have hy:xs[j]? = some xs[j]:=List.getElem?_eq_getElem hjx
 have h1:=hall j (by omega)
 rw [hy,hc,Nat.mul_one] at h1
 obtain ⟨v,e1,e2,_⟩:=DataW.trod_int he h1
 have e3:(xs.map (·.1))[j]? = some (.lit (.int k x)):=by rw [← hx1,List.getElem?_map,hj]; rfl
 rw [List.getElem?_map,hy,e2] at e3
 have e4:v = x:=by
  simp only [Option.map_some,Option.some.injEq] at e3
  injection e3 with e3
  injection e3
 subst e4
 have h2:cs0.toList[j]? = some (.int k v):=by
  have:=congrArg (fun q => q[0]?) e1
  simpa [List.getElem?_take,List.getElem?_drop] using this
 have h3:=World.var?_cell hg hv0 j
 rw [show cs0[j]? = some (.int k v) by simpa using h2] at h3
 exact (z7k h3).2
section
open Go Go.ChangeShapes Go.WideShapes Go.ChangeAt Go.RowKit
theorem z9Q {P:Program} {H:Type} {enc:TypeId × Value → H} {f:Func} {s:ChangeSpec} {apart fresh handsOn again:Bool} {W W':World} {args:Array Value} {v:Value} {ds:List (DataW H)} {pa:List MemPlace}
  (hvar:s.vars = []) (hvars2:(s.fn H (ds ++ [])).vars = []) (hW:DataW.Whole enc P f.params.toList s.vars apart W args.toList ds [] (pa ++ [])) (hb:Below W.heap.size W W')
  (hres:∀ (b:Nat) (sp:Nat → Bool) (hd:Bool),DataW.TrodAll enc P W' b sp hd f.resultTypes.toList (v.resultList f.resultTypes.size) (s.fn H (ds ++ [])).results [])
  (hargs:∀ sp:Nat → Bool,(∀ p ∈ pa ++ [],sp p.block = true) → DataW.TrodAll enc P W' 0 sp true f.params.toList args.toList (s.fn H (ds ++ [])).args pa)
  (hok:∀ (j:Nat) (t:TypeId) (r:Value),f.resultTypes[j]? = some t → (v.resultList f.resultTypes.size)[j]? = some r → Value.okWide P W' .any 0 t r) :
  s.post enc P f apart fresh handsOn again W args v W':=by
 have hlt:∀ p ∈ pa ++ [],p.block < W.heap.size:=fun p hp => by simpa using hW.lt p hp
 have hvr:∀ sp:Nat → Bool,DataW.TrodVars enc P W' sp s.vars (s.fn H (ds ++ [])).vars []:=fun sp => by rw [hvar,hvars2]; rfl
 refine ⟨ds,[],pa ++ [],[],pa,[],hW,hres _ _ _,hargs _ (fun p hp => by simpa using hlt p hp),hvr _,World.keptBut_mono (fun _ q => q.elim) (hb.frame fun _ => False),fun _ => ?_⟩
 obtain ⟨_,_,_,_,_,hz,hn⟩:=hW
 refine ⟨hok,_,_,([] ++ pa) ++ [],⟨[] ++ pa,[],trodAll_append (hargs _ (fun _ _ => rfl)) (hres _ _ _),hvr _,rfl,?_,?_⟩,?_⟩
 ·intro b off hp
  have hp':MemPlace.cell b off ∈ pa ++ []:=by simpa using hp
  rw [hb.frozen (p:=⟨b,off,none⟩) (hlt _ hp')]
  exact hz b off hp'
 ·intro ha
  simpa using hn ha
 ·intro p hp _
  simpa using hp
end
theorem zbJ {P:Program} {k:Nat} {α ρ:Type} {enc:α → List A} {encR:ρ → A} {F:α → Option ρ} {gives:List Bool} {inj:∀ x y,enc x = enc y → x = y} (h:(spF k enc encR F gives inj).Ok P) {x:α} {r:ρ} (hr:F x = some r):Vz P k (enc x) (encR r):=by
 have:=h x ⟨r,hr⟩
 simpa only [spF,hr] using this
section
variable {P:Program} {w:World} {r:Reach} {base t:Nat} {v:Value}
theorem z8u {fs:Array Field} (hu:P.underlying t = some (.struct fs)) (h:Value.okWide P w r base t v):v = .agg v.cells.toList.toArray:=by
 unfold Value.okWide at h
 rw [hu] at h
 obtain ⟨cs,rfl,_⟩:=h
 rfl
theorem z2u {fs:Array Field} {S:zi} {a:A} (hu:P.underlying t = some (.struct fs)) (hr:Rep S a v.cells.toList) (h:Value.okWide P w r base t v) (ha:a.isAgg = true):uZ S a v:=⟨_,hr,by cases a <;> first | exact z8u hu h | cases ha⟩
theorem zcw {S:zi} {h:Array Obj} {v:Value} {F:List Nat} (q:Has S h (.atom (.bool true)) v F):v = .bool true:=by
 rcases q with ⟨q,_⟩ | ⟨cs,q,_,rfl⟩
 ·rw [(zo.1 q).1]
 ·simp only [zH,Rep] at q
  obtain ⟨⟨rfl,_⟩,_⟩:=q
  rfl
end
open Go.Proofs
section
variable {H:Type} {enc:TypeId × Value → H} {w:World} {base:Nat} {spare:Nat → Bool} {held:Bool}
theorem z8l:Tryz.prog.cellsOf 3 = 1:=by kernel_rfl
theorem rd3 {fuel:Nat} {cs:List Value} {x:DataW H × List MemPlace} (h:DataW.trod enc Tryz.prog w base spare held fuel 3 cs = some x):∃ a:Int,Ok3 a ∧ Rep (z3h w) ((eI .i64) a) cs:=by
 obtain ⟨n,h1,_,h2⟩:=zeT Tryz.underlying3 (lo:=-9223372036854775808) (hi:=9223372036854775807) rfl rfl h
 exact ⟨n,h1,h2⟩
theorem zaE:Tryz.prog.cellsOf 67 = 2:=by kernel_rfl
theorem zmo {fuel:Nat} {cs:List Value} {x:DataW H × List MemPlace} (h:DataW.trod enc Tryz.prog w base spare held fuel 67 cs = some x):∃ a:zh,zkI a ∧ Rep (z3h w) ((xz (eI .i64) (eI .i64)) a) cs:=by
 obtain ⟨hl,hf⟩:=VF Tryz.underlying67 h
 rw [zaE] at hl
 obtain ⟨_,_,q0⟩:=hf 0 _ rfl
 obtain ⟨_,_,q1⟩:=hf 1 _ rfl
 simp only [z8l] at q0 q1
 obtain ⟨a0,k0,r0⟩:=rd3 q0
 obtain ⟨a1,k1,r1⟩:=rd3 q1
 refine ⟨⟨a0,a1⟩,⟨k0,k1⟩,?_⟩
 show Rep (z3h w) (.agg [(eI .i64) a0,(eI .i64) a1]) cs
 simp only [Rep]
 refine YH (n:=1) (by simpa [List.drop_drop] using r0) (YH (n:=1) (by simpa [List.drop_drop] using r1) ?_)
 simp only [List.drop_drop,yp]
 exact List.drop_eq_nil_of_le (by omega)
theorem zf8:Tryz.prog.cellsOf 68 = 1:=by kernel_rfl
theorem zmn {fuel:Nat} {cs:List Value} {x:DataW H × List MemPlace} (h:DataW.trod enc Tryz.prog w base spare held fuel 68 cs = some x):∃ a:List zh,zkH a ∧ Rep (z3h w) ((eSl 2 false (xz (eI .i64) (eI .i64))) a) cs:=by
 exact Kq (xz (eI .i64) (eI .i64)) zkI Tryz.underlying68 zaE (by omega) (fun _ => rfl) (fun _ _ _ q => zmo q) h
theorem zfd:Tryz.prog.cellsOf 28 = 1:=by kernel_rfl
theorem zms {fuel:Nat} {cs:List Value} {x:DataW H × List MemPlace} (h:DataW.trod enc Tryz.prog w base spare held fuel 28 cs = some x):∃ a:List (List zh),zlR a ∧ Rep (z3h w) ((eSl 1 false (eSl 2 false (xz (eI .i64) (eI .i64)))) a) cs:=by
 exact Kq (eSl 2 false (xz (eI .i64) (eI .i64))) zkH Tryz.underlying28 zf8 (by omega) (fun _ => rfl) (fun _ _ _ q => zmn q) h
theorem zfc:Tryz.prog.cellsOf 30 = 3:=by kernel_rfl
theorem zmr {fuel:Nat} {cs:List Value} {x:DataW H × List MemPlace} (h:DataW.trod enc Tryz.prog w base spare held fuel 30 cs = some x):∃ a:z6,zlQ a ∧ Rep (z3h w) ((v7 (eI .i64) (eI .i64) (eSl 1 false (eSl 2 false (xz (eI .i64) (eI .i64))))) a) cs:=by
 obtain ⟨hl,hf⟩:=VF Tryz.underlying30 h
 rw [zfc] at hl
 obtain ⟨_,_,q0⟩:=hf 0 _ rfl
 obtain ⟨_,_,q1⟩:=hf 1 _ rfl
 obtain ⟨_,_,q2⟩:=hf 2 _ rfl
 simp only [zfd,z8l] at q0 q1 q2
 obtain ⟨a0,k0,r0⟩:=rd3 q0
 obtain ⟨a1,k1,r1⟩:=rd3 q1
 obtain ⟨a2,k2,r2⟩:=zms q2
 refine ⟨⟨a0,a1,a2⟩,⟨k0,k1,k2⟩,?_⟩
 show Rep (z3h w) (.agg [(eI .i64) a0,(eI .i64) a1,(eSl 1 false (eSl 2 false (xz (eI .i64) (eI .i64)))) a2]) cs
 simp only [Rep]
 refine YH (n:=1) (by simpa [List.drop_drop] using r0) (YH (n:=1) (by simpa [List.drop_drop] using r1) (YH (n:=1) (by simpa [List.drop_drop] using r2) ?_))
 simp only [List.drop_drop,yp]
 exact List.drop_eq_nil_of_le (by omega)
theorem zfa:Tryz.prog.cellsOf 40 = 1:=by kernel_rfl
theorem zmq {fuel:Nat} {cs:List Value} {x:DataW H × List MemPlace} (h:DataW.trod enc Tryz.prog w base spare held fuel 40 cs = some x):∃ a:List Int,zkJ a ∧ Rep (z3h w) ((eSl 1 false (eI .i64)) a) cs:=by
 exact Kq (eI .i64) Ok3 Tryz.underlying40 z8l (by omega) (fun _ => rfl) (fun _ _ _ q => rd3 q) h
theorem zfb:Tryz.prog.cellsOf 32 = 1:=by kernel_rfl
theorem zls {fuel:Nat} {cs:List Value} {x:DataW H × List MemPlace} (h:DataW.trod enc Tryz.prog w base spare held fuel 32 cs = some x):∃ a:List (List Int),zkK a ∧ Rep (z3h w) ((eSl 1 false (eSl 1 false (eI .i64))) a) cs:=by
 exact Kq (eSl 1 false (eI .i64)) zkJ Tryz.underlying32 zfa (by omega) (fun _ => rfl) (fun _ _ _ q => zmq q) h
theorem zf9:Tryz.prog.cellsOf 61 = 3:=by kernel_rfl
theorem zmp {fuel:Nat} {cs:List Value} {x:DataW H × List MemPlace} (h:DataW.trod enc Tryz.prog w base spare held fuel 61 cs = some x):∃ a:wy,zlP a ∧ Rep (z3h w) ((UZ (eSl 1 false (eSl 1 false (eI .i64))) (eSl 1 false (eSl 1 false (eI .i64))) (eI .i64)) a) cs:=by
 obtain ⟨hl,hf⟩:=VF Tryz.underlying61 h
 rw [zf9] at hl
 obtain ⟨_,_,q0⟩:=hf 0 _ rfl
 obtain ⟨_,_,q1⟩:=hf 1 _ rfl
 obtain ⟨_,_,q2⟩:=hf 2 _ rfl
 simp only [z8l,zfb] at q0 q1 q2
 obtain ⟨a0,k0,r0⟩:=zls q0
 obtain ⟨a1,k1,r1⟩:=zls q1
 obtain ⟨a2,k2,r2⟩:=rd3 q2
 refine ⟨⟨a0,a1,a2⟩,⟨k0,k1,k2⟩,?_⟩
 show Rep (z3h w) (.agg [(eSl 1 false (eSl 1 false (eI .i64))) a0,(eSl 1 false (eSl 1 false (eI .i64))) a1,(eI .i64) a2]) cs
 simp only [Rep]
 refine YH (n:=1) (by simpa [List.drop_drop] using r0) (YH (n:=1) (by simpa [List.drop_drop] using r1) (YH (n:=1) (by simpa [List.drop_drop] using r2) ?_))
 simp only [List.drop_drop,yp]
 exact List.drop_eq_nil_of_le (by omega)
end
end Go.Own
namespace Go.Proofs.YtcodjgfoodacaaaGreatDoor.identsAny
open Go Go.ChangeShapes Go.WideShapes Go.ChangeAt Go.RowKit
theorem own:ownKnob Tryz.prog.godebug = none:=by kernel_rfl
theorem zeR:laidOutB Tryz.prog = true:=by kernel_rfl
section
variable {H:Type} {enc:TypeId × Value → H} {W:World}
theorem zcy {W:World} (hL:laidMetH Tryz.prog Rows.identsAnyRow.laid W):Go.Own.Gok (Go.Own.z3h W):=by
 rw [MakeChecks.laidMetH_plain _ _ _ (by kernel_rfl)] at hL
 obtain ⟨x0,hx⟩:∃ x0,Rows.identsAnyRow.laid = x0 :: [("math/bits.deBruijn64tab",.agg (Go.Own.zke.map fun n => .lit (.int .u8 n)))]:=⟨_,rfl⟩
 rw [hx] at hL
 have hl:=Go.Own.zbE (hL.tail) (g:=1) (by kernel_rfl) (t:=162) (by kernel_rfl) Tryz.underlying162 Tryz.underlying5 (by kernel_rfl)
 intro g x e
 unfold Go.Own.zjs at e
 split at e
 ·rename_i h0
  subst h0
  cases e
  refine ⟨_,(by simp only [Go.Own.Rep]; exact Go.Own.z5T _ _),fun j v hj => ?_⟩
  rw [List.getElem?_map] at hj
  obtain ⟨y,hy,rfl⟩:=Option.map_eq_some_iff.1 hj
  rw [Nat.zero_add]
  exact hl j y hy
 ·cases e
set_option maxRecDepth 100000 in
theorem zm5 {base:Nat} (hL:laidMetH Tryz.prog Rows.identsAnyRow.laid W) {v0:Value} {d0:DataW H} {p0:List MemPlace} {v1:Value} {d1:DataW H} {p1:List MemPlace} (h0:DataW.Trod enc Tryz.prog W 0 (fun _ => true) true 30 v0 d0 p0) (h1:DataW.Trod enc Tryz.prog W 0 (fun _ => true) true 61 v1 d1 p1) (k0:Value.okWide Tryz.prog W .any base (30:Nat) v0) (k1:Value.okWide Tryz.prog W .any base (61:Nat) v1) :
  Calls Tryz.prog 6 #[v0,v1] W fun e w' => e = .returned (.bool true) ∧ Go.Own.WO (fun k => W.heap.size ≤ k) W w':=by
 obtain ⟨n0,h0⟩:=h0
 obtain ⟨x0,o0,r0⟩:=Go.Own.zmr h0
 obtain ⟨n1,h1⟩:=h1
 obtain ⟨x1,o1,r1⟩:=Go.Own.zmp h1
 have q:=(Go.Own.zbJ (Go.Own.z8K Go.Own.zfr List.mem_cons_self:Go.Own.Zt.Ok Tryz.prog) (x:=(x0,x1)) (r:=true) (Go.Own.zcq o0 o1)).2 (Go.Own.z3h W) W [v0,v1] [] ⟨fun _ _ _ h => h,zcy hL⟩ ?_ (by simp)
 ·refine Calls.mono q ?_
  rintro e w' ⟨v,S',F',rfl,hk,_,_,_,hr,_,_⟩
  refine ⟨?_,hk.mono (by rintro k (h | h) <;> simp_all)⟩
  rw [Go.Own.zcw hr]
 ·refine Go.Own.Wa ?_
  have g0:Go.Own.uZ (Go.Own.z3h W) ((Go.Own.v7 (Go.Own.eI .i64) (Go.Own.eI .i64) (Go.Own.eSl 1 false (Go.Own.eSl 2 false (Go.Own.xz (Go.Own.eI .i64) (Go.Own.eI .i64))))) x0) v0:=Go.Own.z2u (t:=(30:Nat)) Tryz.underlying30 r0 k0 rfl
  have g1:Go.Own.uZ (Go.Own.z3h W) ((Go.Own.UZ (Go.Own.eSl 1 false (Go.Own.eSl 1 false (Go.Own.eI .i64))) (Go.Own.eSl 1 false (Go.Own.eSl 1 false (Go.Own.eI .i64))) (Go.Own.eI .i64)) x1) v1:=Go.Own.z2u (t:=(61:Nat)) Tryz.underlying61 r1 k1 rfl
  exact ⟨g0,g1,trivial⟩
end
set_option maxRecDepth 100000 in
theorem zcC (os:Os) (args:Array Value):laidMetH Tryz.prog Rows.identsAnyRow.laid ((World.doorLaid Tryz.prog 400 os).forCall (fun _ _ => 0) ⟨#[],args,[]⟩).memory :=
 laidMetH_of_parts3 (fuel:=8) (laidMet_of_run' 8 (by kernel_rfl) (by kernel_rfl)) (by kernel_rfl) (by kernel_rfl)
set_option maxRecDepth 100000 in
theorem zgW (os:Os) (started:os.Started) (H:Type) (enc:TypeId × Value → H) :
  ReturnsInHanded {} Tryz.checked os 6 .any (fun w args => (Rows.identsAnySpec.pre enc Tryz.prog Tryz.f6 Rows.identsAnyRow.domain false w args ∧ laidMetH Tryz.prog Rows.identsAnyRow.laid w) ∧ sizedMet enc Tryz.prog Tryz.f6 (OpenSpec.ofChange Rows.identsAnySpec) false w args) (Rows.identsAnySpec.post enc Tryz.prog Tryz.f6 false true false false):=by
 refine returnsInHanded_of_change_and (C:=Tryz.checked) (X:=fun w _ => laidMetH Tryz.prog Rows.identsAnyRow.laid w) (fun _ _ _ hh h => h.of_heap hh) own started (by kernel_rfl) Tryz.func6
  (ChangeSpec.witness_shaped (enc:=enc) (C:=Tryz.checked) (os:=os) (X:=fun w _ => laidMetH Tryz.prog Rows.identsAnyRow.laid w) false (World.doorLaid Tryz.prog 400 os) #[.agg #[.int .i64 0,.int .i64 0,.slice none 0 0],.agg #[.slice none 0 0,.slice none 0 0,.int .i64 0]] 8 rfl (World.shaped_of_RefB (by kernel_rfl) (by kernel_rfl)) (by kernel_rfl) (by kernel_rfl) (by kernel_rfl) (zcC os _)) ?_
 intro W base args ds gs before hval0 hW hcnd _ hL _
 have hval:∀ (j:Nat) t v,Tryz.f6.params[j]? = some t → args[j]? = some v → Value.okWide Tryz.prog W .any base t v:=hval0
 have hW':=hW
 obtain ⟨p,q,hA0,hV,rfl,hfz,hnd⟩:=hW
 have hA:DataW.TrodAll enc Tryz.prog W 0 (fun _ => true) true Tryz.f6.params.toList args.toList ds p:=hA0
 rw [Tryz.params6] at hA hval
 obtain ⟨v0,v1,d0,d1,p0,p1,rfl,rfl,rfl,h0,h1⟩:=trodAll_two hA
 obtain ⟨rfl,rfl⟩:=trodVars_none hV
 clear hA0 hval0
 refine (zm5 hL h0 h1 (hval 0 (30:Nat) v0 rfl rfl) (hval 1 (61:Nat) v1 rfl rfl)).mono fun e W' ⟨he,hk⟩ => ?_
 subst he
 have hb:Below W.heap.size W W':=⟨hk.os,hk.tape,hk.output,hk.size,fun k q => hk.block k (by omega)⟩
 have hlt:∀ x ∈ p0 ++ p1,x.block < W.heap.size:=fun x hx => by simpa using hW'.lt x (by simpa using hx)
 refine ⟨_,rfl,Go.Own.z9Q rfl rfl hW' hb (fun _ _ _ => trodAll_cons_mk (shut_bool Tryz.underlying4 _) trodAll_mk0) (fun sp hsp => ?_) (ok_one (by kernel_rfl) rfl (okWide_bool_mk Tryz.underlying4 _))⟩
 have st:∀ {t:Nat} {v:Value} {d:DataW H} {p':List MemPlace},DataW.Trod enc Tryz.prog W 0 (fun _ => true) true t v d p' → Tryz.prog.readableRec t = true → t < Tryz.prog.types.size → (∀ x ∈ p',x ∈ p0 ++ p1) → DataW.Trod enc Tryz.prog W' 0 sp true t v d p':=by
  intro t v d p' hd h1 h2 hp
  exact WideElems.Trod_stays zeR h1 h2 hd (fun x hx => hb.same (hlt x (hp x hx))) (fun x hx => hsp x (by simpa using hp x hx))
 have:=trodAll_mk2 (st h0 (by kernel_rfl) (of_decide_eq_true (by kernel_rfl)) (fun x hx => by simp [hx])) (st h1 (by kernel_rfl) (of_decide_eq_true (by kernel_rfl)) (fun x hx => by simp [hx]))
 rw [Tryz.params6]
 exact this
theorem UP:Rows.identsAnyRow.holds Tryz.pinned (OpenSpec.ofChange Rows.identsAnySpec) :=
 OpenClaim.holds_of_wide 6 Tryz.f6 rfl rfl rfl rfl rfl rfl rfl ⟨rfl,rfl,rfl,rfl,rfl⟩ rfl rfl rfl rfl rfl (by kernel_rfl) Tryz.func6 (by kernel_rfl)
  (of_decide_eq_true (by kernel_rfl)) (by unfold Func.isWrapper; first | (rw [if_pos (by decide +kernel)]; kernel_rfl) | (rw [if_neg (by decide +kernel)]; exact ⟨rfl,rfl⟩))
  (fun os started H enc _ => zgW os started H enc)
theorem proved:Rows.IdentsAnyCardSaid :=
 Claim7.holds_tied_plain_at .later [] [.data,.data] true (true,"715c2141db8d2242eb7f34f812cc2666e7c04bdf1baf18ebf980598cb96d27b9") false
  UP (fun _ h => by cases h) (by kernel_rfl) (fun _ h => by cases h) identsAny_row_tie rfl ⟨rfl,rfl⟩ (by kernel_rfl) rfl
  (fun f fn hf hfn => by
   obtain rfl:f = 6:=Option.some.inj ((show Tryz.prog.funcNamed "gauntlet/gauntletlaw14.IdentsAny" = some 6 by kernel_rfl).symm.trans hf) |>.symm
   obtain rfl:fn = Tryz.f6:=(Option.some.inj (Tryz.func6.symm.trans hfn)).symm
   exact ⟨by kernel_rfl,fun j t ht => by
    rw [Tryz.params6] at ht
    have hm:t ∈ [30,61]:=by simpa using Array.mem_of_getElem? ht
    have hall:([30,61].all fun u => !Tryz.prog.wantsStandIn u) = true:=by kernel_rfl
    exact (show Tryz.prog.wantsStandIn t = false by simpa using List.all_eq_true.1 hall t hm)⟩)
  (by kernel_rfl)
#print axioms proved
end Go.Proofs.YtcodjgfoodacaaaGreatDoor.identsAny
