/- -/
import Derived.Test.YtkalhfmehmcofaaGreatPartE
import Derived.Test.YtkalhfmehmcofaaGreatPartG
set_option linter.unusedVariables false
set_option linter.unusedSimpArgs false
namespace Go.Own
variable {α : Type}{i : Nat}
theorem zC {l : List α}  {x : α} (h : l[i]? = some x) : idx l (i : Int) = some x := h
theorem zaS (b : List Int) (g : Nat → Int → Option Int) (hg : ∀ i x y,b[i]? = some y → g i x = if x < y then some (-1) else if y < x then some 1 else none) :
  ∀ (a : List Int) (k : Nat),k + a.length = b.length → (yu g a k).getD 0 = vY a (b.drop k)
 | [],k,h => by
  have : b.drop k = [] := List.drop_eq_nil_of_le (by simp at h; omega)
  rw [this]; rfl
 | x :: a,k,h => by
  simp [List.length_cons] at h
  have hk : k < b.length := by omega
  rw [List.drop_eq_getElem_cons hk]
  simp [yu,vY,hg k x b[k] (List.getElem?_eq_getElem hk)]
  by_cases h1 : x < b[k]
  ·simp [h1]
  ·by_cases h2 : b[k] < x
   ·simp [h1,h2]
   ·simp [h1,h2]
    exact zaS b g hg a (k + 1) (by omega)
theorem z6U (a b : List Int) (h : a.length = b.length → a.length < 4611686018427387904) : uI a b = some (XN a b) := by
 unfold uI
 by_cases hl : a.length = b.length
 ·have h' := h hl
  simp only [hl,bne_self_eq_false,cond_false]
  rw [bdT (qA a h' (fun i x => match b[i]? with | some y => if x < y then some (-1 : Int) else if y < x then some 1 else none | none => none) ?_ ?_)]
  ·have q := zaS b (fun i x => match b[i]? with | some y => if x < y then some (-1 : Int) else if y < x then some 1 else none | none => none) (fun i x y hy => by simp only [hy]) a 0 (by omega)
   rw [List.drop_zero] at q
   have hc : XN a b = vY a b := by unfold XN; rw [if_neg (by omega),if_neg (by omega)]
   rw [hc,← q]
   cases yu (fun i x => match b[i]? with | some y => if x < y then some (-1 : Int) else if y < x then some 1 else none | none => none) a 0 <;> rfl
  ·intro i x hx
   have hi : i < a.length := (List.getElem?_eq_some_iff.1 hx).1
   have hy : b[i]? = some b[i] := List.getElem?_eq_getElem (by omega)
   unfold vt
   have hc : decide ((i : Int) < (a.length : Int)) = true := by simpa using hi
   simp only [hc,cond_true,zC hx,zC hy,hy,Option.bind_some]
   by_cases h1 : x < b[i]
   ·simp [h1,nS]
   ·by_cases h2 : b[i] < x
    ·simp [h1,h2,nS]
    ·simp [h1,h2,nS]
  ·unfold vt
   simp
 ·have h1 : (((a.length : Nat) : Int) != ((b.length : Nat) : Int)) = true := by simp; omega
  simp only [h1,cond_true]
  unfold XN
  by_cases h2 : a.length < b.length
  ·simp [h2]
  ·have h3 : b.length < a.length := by omega
   simp [h2,h3]
def cI (x y : Int) : Int := if x < y then -1 else if y < x then 1 else 0
theorem zbc (x y : Int) : v7 x y = some (cI x y) := by
 unfold v7 Zl cI
 simp [bne_self_eq_false,Option.bind_some,cond_false]
 by_cases h1 : x < y
 ·simp [h1]
 ·by_cases h2 : y < x
  ·simp [h1,h2]
  ·simp [h1,h2]
theorem zfp (a b : List Int) (h : a.length < 4611686018427387904) : ∃ c,yP a b = some c ∧ (a.length = b.length → c = vY a b) := by
 unfold yP
 have hloop := qA a h (step := fun s => zY a b s) (fun i x => match b[i]? with | some y => if x < y then some (-1 : Int) else if y < x then some 1 else none | none => some 1) (by
  intro i x hx
  have hi : i < a.length := (List.getElem?_eq_some_iff.1 hx).1
  unfold zY
  have hc : decide ((i : Int) < (a.length : Int)) = true := by simpa using hi
  simp only [hc,cond_true,zC hx,Option.bind_some]
  by_cases hb : i < b.length
  ·have hy : b[i]? = some b[i] := List.getElem?_eq_getElem hb
   have hd : decide ((i : Int) ≥ (b.length : Int)) = false := by simp; omega
   simp only [hd,cond_false,zC hy,hy,Option.bind_some,zbc]
   unfold cI
   by_cases h1 : x < b[i]
   ·simp [h1,nS]
   ·by_cases h2 : b[i] < x
    ·simp [h1,h2,nS]
    ·simp [h1,h2,nS]
  ·have hy : b[i]? = none := List.getElem?_eq_none (by omega)
   have hd : decide ((i : Int) ≥ (b.length : Int)) = true := by simp; omega
   simp only [hd,cond_true,hy,nS]) (by unfold zY; simp)
 rw [bdT hloop]
 have q := fun hl => zaS b (fun i x => match b[i]? with | some y => if x < y then some (-1 : Int) else if y < x then some 1 else none | none => some 1) (fun i x y hy => by simp only [hy]) a 0 hl
 cases hf : yu (fun i x => match b[i]? with | some y => if x < y then some (-1 : Int) else if y < x then some 1 else none | none => some 1) a 0 with
 | some r =>
  refine ⟨r,rfl,fun hl => ?_⟩
  have := q (by omega)
  rw [hf] at this
  simpa using this
 | none =>
  unfold yT
  by_cases hl : a.length < b.length
  ·refine ⟨-1,by simp [oS,hl],fun hl2 => by omega⟩
  ·refine ⟨0,by simp [oS,hl],fun hl2 => ?_⟩
   have := q (by omega)
   rw [hf] at this
   simpa using this
theorem zkw (x y : Int) : V8 [x,y] = some (if x = 0 then y else x) := by
 unfold V8
 rw [bdT (qA [x,y] (by simp) (step := fun s => qd [x,y] s) (fun i v => if v ≠ 0 then some v else none) ?_ ?_)]
 ·by_cases h1 : x = 0
  ·by_cases h2 : y = 0
   ·simp [yu,h1,h2,oS,X4]
   ·simp [yu,h1,h2,oS]
  ·simp [yu,h1,oS]
 ·intro i v hv
  have hi : i < [x,y].length := (List.getElem?_eq_some_iff.1 hv).1
  unfold qd
  have hc : decide ((i : Int) < (([x,y] : List Int).length : Int)) = true := by simp only [decide_eq_true_eq]; omega
  simp only [hc,cond_true,zC hv,Option.bind_some]
  by_cases h : v = 0
  ·simp [h,nS]
  ·have hb : (v != 0) = true := by simpa using h
   simp [h,hb,nS]
 ·unfold qd; simp
theorem z9v (a b : List Int) (h : a.length < 4611686018427387904) : jM a b = some (XN a b) := by
 unfold jM
 have ⟨c,hc,hl⟩ := zfp a b h
 rw [zbc,hc]
 simp [Option.bind_some,zkw]
 unfold cI XN
 by_cases h1 : a.length < b.length
 ·simp [h1]
 ·by_cases h2 : b.length < a.length
  ·simp [h1,h2]
  ·simp [h1,h2,hl (by omega)]
def wE (n : Int) (w : List Int) : Int := if 256 < w.length then 3 else if w.any (fun c => decide (c < 0) || decide (n ≤ c)) then 1 else 0
variable {n : Int}{w : List Int}
theorem z9C : wE n w = 0 ↔ w.length ≤ 256 ∧ ∀ c ∈ w,0 ≤ c ∧ c < n := by
 unfold wE
 by_cases h : 256 < w.length
 ·rw [if_pos h]
  exact ⟨fun q => by simp at q,fun q => by omega⟩
 ·rw [if_neg h]
  by_cases h2 : w.any (fun c => decide (c < 0) || decide (n ≤ c)) = true
  ·rw [if_pos h2]
   simp [List.any_eq_true,Bool.or_eq_true,decide_eq_true_eq] at h2
   have ⟨c,h3,h4⟩ := h2
   refine ⟨fun q => by simp at q,fun q => ?_⟩
   have := q.2 c h3
   omega
  ·rw [if_neg h2]
   simp [List.any_eq_true,Bool.or_eq_true,decide_eq_true_eq,not_exists,not_and,not_or] at h2
   refine ⟨fun _ => ⟨by omega,fun c hc => ?_⟩,fun _ => rfl⟩
   have := h2 c hc
   omega
variable {ρ : Type}
theorem zer (p : Int → Bool) (g : Nat → Int → Option ρ) (hg : ∀ i x,(g i x).isSome = p x) : ∀ (w : List Int) (k : Nat),(yu g w k).isSome = w.any p
 | [],k => rfl
 | x :: w,k => by
  simp [yu,List.any_cons]
  have := hg k x
  cases hx : g k x with
  | some r => rw [hx] at this; simp at this; simp [← this]
  | none => rw [hx] at this; simp at this; rw [this,Bool.false_or]; exact zer p g hg w (k + 1)
theorem z9D (n : Int) (w : List Int) : Zy w n = some (if 16 < n then 3 else if 256 < w.length then 3 else if n < 1 then 1 else wE n w) := by
 unfold Zy
 by_cases h0 : 16 < n
 ·simp [h0]
 by_cases h : 256 < w.length
 ·have h' : (256 : Int) < (w.length : Int) := by omega
  simp [h0,h,h']
 by_cases h1 : n < 1
 ·have h' : ¬ (256 : Int) < (w.length : Int) := by omega
  simp [h0,h,h',h1]
 ·have hd : decide (((w.length : Nat) : Int) > 256) = false := by simp; omega
  have hd0 : decide (n > 16) = false := by simp; omega
  have hd1 : decide (n < 1) = false := by simp; omega
  simp only [hd,hd0,hd1,cond_false,if_neg h,if_neg h0,if_neg h1]
  unfold yC xh wE
  have hl := qA w (by omega) (step := fun s => zM w n s) (fun i c => if c < 0 ∨ n ≤ c then some (i : Int) else none) (by
   intro i c hc
   have hi : i < w.length := (List.getElem?_eq_some_iff.1 hc).1
   unfold zM YJ
   have hq : decide ((i : Int) < (w.length : Int)) = true := by simpa using hi
   simp only [hq,cond_true,zC hc,Option.bind_some]
   by_cases h1 : c < 0
   ·simp [h1,nS]
   ·by_cases h2 : n ≤ c
    ·simp [h1,h2,nS]
    ·simp [h1,h2,nS]) (by unfold zM; simp)
  rw [bdT hl,if_neg h]
  have q := zer (fun c => decide (c < 0) || decide (n ≤ c)) (fun i c => if c < 0 ∨ n ≤ c then some (i : Int) else none) (fun i c => by by_cases h : c < 0 ∨ n ≤ c <;> simp [h] <;> simpa using h) w 0
  cases hf : yu (fun i c => if c < 0 ∨ n ≤ c then some (i : Int) else none) w 0 with
  | none => rw [hf] at q; rw [← q]; rfl
  | some r =>
   rw [hf] at q
   have ⟨i,x,h1,h2⟩ := jm hf
   rw [← q]
   split at h2
   ·cases h2
    simp [oS]
   ·cases h2
def eS (e : Int) : Option Int := if e = 0 then none else some e
def loE (n : Int) (l : List (List Int)) : Int := if 16 < n then 3 else if 4096 < l.length then 3 else if n < 1 then 1 else (yu (fun _ w => eS (wE n w)) l 0).getD 0
theorem z8J : ∀ {l : List (List Int)} {k : Nat},(yu (fun _ w => eS (wE n w)) l k).getD 0 = 0 ↔ ∀ w ∈ l,wE n w = 0
 | [],_ => by simp [yu]
 | w :: l,k => by
  by_cases h : wE n w = 0
  ·have : eS (wE n w) = none := by simp [eS,h]
   simp [yu,this]
   rw [z8J]
   simp [h]
  ·have : eS (wE n w) = some (wE n w) := by simp [eS,h]
   simp [yu,this,h]
variable {l : List (List Int)}
theorem z8x : loE n l = 0 ↔ (1 ≤ n ∧ n ≤ 16) ∧ l.length ≤ 4096 ∧ ∀ w ∈ l,w.length ≤ 256 ∧ ∀ c ∈ w,0 ≤ c ∧ c < n := by
 unfold loE
 by_cases h0 : 16 < n
 ·rw [if_pos h0]; exact ⟨fun q => by simp at q,fun q => by omega⟩
 by_cases h1 : 4096 < l.length
 ·rw [if_neg h0,if_pos h1]; exact ⟨fun q => by simp at q,fun q => by omega⟩
 by_cases h2 : n < 1
 ·rw [if_neg h0,if_neg h1,if_pos h2]; exact ⟨fun q => by simp at q,fun q => by omega⟩
 rw [if_neg h0,if_neg h1,if_neg h2,z8J]
 constructor
 ·intro q; exact ⟨by omega,by omega,fun w hw => z9C.1 (q w hw)⟩
 ·intro q w hw; exact z9C.2 (q.2.2 w hw)
theorem zd5 (l : List (List Int)) (n : Int) : Xm l n = some (loE n l) := by
 unfold Xm loE
 by_cases h0 : 16 < n
 ·simp [h0]
 by_cases h1 : 4096 < l.length
 ·have h' : (4096 : Int) < (l.length : Int) := by omega
  simp [h0,h1,h']
 by_cases h2 : n < 1
 ·have h' : ¬ (4096 : Int) < (l.length : Int) := by omega
  simp [h0,h1,h2,h']
 have d0 : decide (n > 16) = false := by simp; omega
 have d1 : decide (((l.length : Nat) : Int) > 4096) = false := by simp; omega
 have d2 : decide (n < 1) = false := by simp; omega
 simp only [d0,d1,d2,cond_false,if_neg h0,if_neg h1,if_neg h2]
 rw [bdT (qA l (by omega) (step := fun s => vE l n s) (fun _ w => eS (wE n w)) ?_ ?_)]
 ·cases yu (fun _ w => eS (wE n w)) l 0 <;> rfl
 ·intro i w hw
  have hi : i < l.length := (List.getElem?_eq_some_iff.1 hw).1
  have hq : decide ((i : Int) < (l.length : Int)) = true := by simpa using hi
  have he : Zy w n = some (wE n w) := by
   rw [z9D,if_neg h0,if_neg h2]
   by_cases h : 256 < w.length
   ·rw [if_pos h]; unfold wE; rw [if_pos h]
   ·rw [if_neg h]
  unfold vE
  simp only [hq,cond_true,zC hw,Option.bind_some,he]
  by_cases hz : wE n w = 0
  ·simp [hz,eS,nS]
  ·have hb : (wE n w != 0) = true := by simpa using hz
   simp [hz,hb,eS,nS]
 ·unfold vE; simp
theorem zd6 (l : List (List Int)) (hl : l.length < 4611686018427387904) {step : Int × Int → Option (LR (Int × Int) Int)}
  (h : ∀ (n : Int) (i : Nat) (x : List Int),l[i]? = some x → step (n,(i : Int)) = some (.next (w64 (n + ((x.length : Nat) : Int)),w64 ((i : Int) + 1)))) (h2 : ∀ n,step (n,(l.length : Int)) = some (.done n)) :
  loop step (0,0) = some (l.foldl (fun n x => w64 (n + ((x.length : Nat) : Int))) 0) := by
 have gen : ∀ (m k : Nat) (n : Int),k ≤ l.length → l.length - k < m → QM step m (n,(k : Int)) = some ((l.drop k).foldl (fun n x => w64 (n + ((x.length : Nat) : Int))) n) := by
  intro m
  induction m with
  | zero => intro k n _ h; omega
  | succ m ih =>
   intro k n hk hn
   rw [V0]
   rcases Nat.lt_or_ge k l.length with hlt | hge
   ·have hx : l[k]? = some l[k] := List.getElem?_eq_getElem hlt
    rw [h n k _ hx,List.drop_eq_getElem_cons hlt]
    simp only [List.foldl_cons]
    rw [zm (x := (k : Int) + 1) (by omega) (by omega)]
    exact ih (k + 1) _ hlt (by omega)
   ·have : k = l.length := by omega
    subst this
    rw [h2,List.drop_length]
    rfl
 exact gen WJ 0 0 (Nat.zero_le _) (by show l.length - 0 < 18446744073709551616; omega)
def stW (l : List (List Int)) : Int := l.foldl (fun n x => w64 (n + ((x.length : Nat) : Int))) 0
theorem zcn (l : List (List Int)) (hl : l.length < 4611686018427387904) : Xl l = some (stW l) := by
 unfold Xl
 rw [bdT (zd6 l hl (step := fun s => vD l s.1 s.2) ?_ ?_)]
 ·rfl
 ·intro n i x hx
  have hi : i < l.length := (List.getElem?_eq_some_iff.1 hx).1
  have hq : decide ((i : Int) < (l.length : Int)) = true := by simpa using hi
  unfold vD
  simp only [hq,cond_true,zC hx,Option.bind_some]
 ·intro n; unfold vD; simp
def z3Z (l : List (List Int)) : Nat := (l.map List.length).sum
theorem zhj (h : z3Z l < 4611686018427387904) : stW l = (z3Z l : Int) := by
 have gen : ∀ (l : List (List Int)) (n : Nat),n + z3Z l < 4611686018427387904 → l.foldl (fun n x => w64 (n + ((x.length : Nat) : Int))) (n : Int) = ((n + z3Z l : Nat) : Int) := by
  intro l
  induction l with
  | nil => intro n _; simp [z3Z]
  | cons x l ih =>
   intro n hn
   have hs : z3Z (x :: l) = x.length + z3Z l := by simp [z3Z]
   rw [hs] at hn ⊢
   rw [List.foldl_cons,zm (by omega) (by omega),← Int.natCast_add,ih (n + x.length) (by omega)]
   congr 1; omega
 have := gen l 0 (by omega)
 simpa [stW] using this
theorem z9M {m : Nat} (h : ∀ w ∈ l,w.length ≤ m) : z3Z l ≤ l.length * m := by
 induction l with
 | nil => simp [z3Z]
 | cons x l ih =>
  have hs : z3Z (x :: l) = x.length + z3Z l := by simp [z3Z]
  have h1 := h x (by simp)
  have h2 := ih fun w hw => h w (by simp [hw])
  rw [hs,List.length_cons,Nat.add_mul]
  omega
theorem z7Y : ∀ {l : List (List Int)},SW l ↔ ∀ i x y,l[i]? = some x → l[i + 1]? = some y → XN x y < 0
 | [] => by simp [SW]
 | [x] => ⟨fun _ i a b _ h2 => by simp at h2,fun _ => by simp [SW]⟩
 | x :: y :: l => by
  constructor
  ·intro h i a b h1 h2
   cases i with
   | zero =>
    simp at h1 h2
    subst h1; subst h2
    exact h.head y (by simp)
   | succ i => exact z7Y.1 h.tail i a b (by simpa using h1) (by simpa using h2)
  ·intro h
   have ht : SW (y :: l) := z7Y.2 fun i a b h1 h2 => h (i + 1) a b (by simpa using h1) (by simpa using h2)
   have h0 := h 0 x y rfl rfl
   refine List.pairwise_cons.2 ⟨fun z hz => ?_,ht⟩
   rcases List.mem_cons.1 hz with rfl | hz
   ·exact h0
   ·exact Xj h0 (ht.head z hz)
theorem z9j {α ρ : Type} (l : List α) (hl : l.length < 4611686018427387904) {step : Int → Option (LR Int (Unit ⊕ ρ))} (f : Nat → α → Option ρ)
  (h : ∀ (i : Nat) (x : α),1 ≤ i → l[i]? = some x → step (i : Int) = some (nS i (f i x))) (h2 : ∀ k : Nat,l.length ≤ k → step (k : Int) = some (.done (.inl ()))) :
  loop step 1 = some (oS (yu f (l.drop 1) 1)) := by
 have gen : ∀ (n : Nat) (k : Nat),1 ≤ k → l.length - k < n → QM step n (k : Int) = some (oS (yu f (l.drop k) k)) := by
  intro n
  induction n with
  | zero => intro k _ h; omega
  | succ n ih =>
   intro k hk hn
   rw [V0]
   rcases Nat.lt_or_ge k l.length with hlt | hge
   ·have hx : l[k]? = some l[k] := List.getElem?_eq_getElem hlt
    rw [h k _ hk hx,List.drop_eq_getElem_cons hlt]
    simp [yu]
    cases hf : f k l[k] with
    | some r => rfl
    | none =>
     simp [nS]
     rw [zm (by omega) (by omega)]
     exact ih (k + 1) (by omega) (by omega)
   ·rw [h2 k hge,List.drop_eq_nil_of_le hge]
    rfl
 exact gen WJ 1 (Nat.le_refl _) (by show l.length - 1 < 18446744073709551616; omega)
instance (l : List (List Int)) : Decidable (SW l) := by unfold SW; infer_instance
theorem zdq (l : List (List Int)) (r : ρ) : yu (fun i x => match l[i - 1]? with | some y => if 0 ≤ XN y x then some r else none | none => none) (l.drop 1) 1 = if SW l then none else some r := by
 by_cases hs : SW l
 ·rw [if_pos hs]
  refine VF fun i x hx => ?_
  rw [List.getElem?_drop] at hx
  have hi : 1 + i < l.length := (List.getElem?_eq_some_iff.1 hx).1
  have hy : l[1 + i - 1]? = some l[i] := by rw [show 1 + i - 1 = i by omega]; exact List.getElem?_eq_getElem (by omega)
  rw [hy]
  have := z7Y.1 hs i l[i] x (List.getElem?_eq_getElem (by omega)) (by rw [Nat.add_comm]; exact hx)
  simp only
  rw [if_neg (by omega)]
 ·rw [if_neg hs]
  cases hf : yu (fun i x => match l[i - 1]? with | some y => if 0 ≤ XN y x then some r else none | none => none) (l.drop 1) 1 with
  | some r' =>
   have ⟨i,x,h1,h2⟩ := jm hf
   split at h2
   ·split at h2
    ·exact h2.symm
    ·cases h2
   ·cases h2
  | none =>
   exfalso
   refine hs (z7Y.2 fun i x y hx hy => ?_)
   have := Zk hf i y (by rw [List.getElem?_drop,Nat.add_comm]; exact hy)
   rw [show 1 + i - 1 = i by omega,hx] at this
   simp only at this
   split at this
   ·cases this
   ·omega
theorem zdU (l : List (List Int)) (h : l.length ≤ 4096) (hw : ∀ w ∈ l,w.length < 4611686018427387904) : Xn l = some (decide (SW l)) := by
 unfold Xn
 rw [bdT (z9j l (by omega) (step := fun s => vF l s) (fun i x => match l[i - 1]? with | some y => if 0 ≤ XN y x then some false else none | none => none) ?_ ?_),zdq]
 ·by_cases hs : SW l
  ·simp [hs,oS,ZM]
  ·simp [hs,oS]
 ·intro i x hi hx
  have hil : i < l.length := (List.getElem?_eq_some_iff.1 hx).1
  have hy : l[i - 1]? = some l[i - 1] := List.getElem?_eq_getElem (by omega)
  have hq : decide ((i : Int) < (l.length : Int)) = true := by simpa using hil
  unfold vF
  rw [zm (x := (i : Int) - 1) (by omega) (by omega),show ((i : Int) - 1) = ((i - 1 : Nat) : Int) by omega]
  have hE := z9v l[i - 1] x (hw _ (List.getElem_mem (by omega)))
  simp only [hq,cond_true,zC hx,zC hy,Option.bind_some,hy,hE]
  by_cases hc : 0 ≤ XN l[i - 1] x
  ·simp [hc,nS]
  ·simp [hc,nS]
 ·intro k hk; unfold vF; have : decide ((k : Int) < (l.length : Int)) = false := by simp; omega
  simp only [this,cond_false]
def chE (n : Int) (l : List (List Int)) : Int := if loE n l ≠ 0 then loE n l else if SW l then (if 65536 < z3Z l then 3 else 0) else 1
theorem zdD : chE n l = 0 ↔ loE n l = 0 ∧ SW l ∧ z3Z l ≤ 65536 := by
 unfold chE
 by_cases h : loE n l = 0
 ·rw [if_neg (by simp [h])]
  by_cases h2 : SW l
  ·rw [if_pos h2]
   by_cases h3 : 65536 < z3Z l
   ·rw [if_pos h3]; exact ⟨fun q => by simp at q,fun q => by omega⟩
   ·rw [if_neg h3]; exact ⟨fun _ => ⟨h,h2,by omega⟩,fun _ => rfl⟩
  ·rw [if_neg h2]; exact ⟨fun q => by simp at q,fun q => absurd q.2.1 h2⟩
 ·rw [if_pos h]; exact ⟨fun q => absurd q h,fun q => absurd q.1 h⟩
theorem zaF (h : loE n l = 0) : l.length ≤ 4096 ∧ (∀ w ∈ l,w.length ≤ 256) ∧ z3Z l ≤ 1048576 := by
 have ⟨_,h1,h2⟩ := z8x.1 h
 refine ⟨h1,fun w hw => (h2 w hw).1,?_⟩
 have := z9M (m := 256) fun w hw => (h2 w hw).1
 omega
theorem z9K (l : List (List Int)) (n : Int) : ZB l n = some (chE n l) := by
 unfold ZB chE
 rw [zd5]
 simp [Option.bind_some]
 by_cases h : loE n l = 0
 ·have ⟨h1,h2,h3⟩ := zaF h
  rw [zdU l h1 fun w hw => by have := h2 w hw; omega,zcn l (by omega),zhj (by omega)]
  simp [h,bne_self_eq_false,cond_false,Option.bind_some]
  by_cases hs : SW l
  ·by_cases hq : 65536 < z3Z l
   ·have : (65536 : Int) < (z3Z l : Int) := by omega
    simp [hs,hq,this]
   ·have : ¬ (65536 : Int) < (z3Z l : Int) := by omega
    simp [hs,hq,this]
  ·simp [hs]
 ·have hb : (loE n l != 0) = true := by simpa using h
  simp [h,hb]
theorem z2a (x : yj α) (i : Nat) (v : α) : (yj.setI x (i : Int) v).toL = x.toL.set i v := by
 unfold yj.setI
 rw [yj.toL_ofL _ _ (by simp [yj.toL]),Int.toNat_natCast]
theorem zeD {x y : yj α} (h : x.toL = y.toL) : x = y := by
 cases x; cases y
 simp [yj.toL,List.cons.injEq,and_true] at h
 simp [yj.mk.injEq]
 exact h
instance : LawfulBEq (yj (ye Int)) := {
 eq_of_beq := by
  intro a b h
  cases a; cases b
  simp [BEq.beq,Bool.and_eq_true,decide_eq_true_eq] at h
  simp [yj.mk.injEq]
  obtain ⟨⟨⟨⟨⟨⟨⟨⟨⟨⟨⟨⟨⟨⟨⟨h0,h1⟩,h2⟩,h3⟩,h4⟩,h5⟩,h6⟩,h7⟩,h8⟩,h9⟩,h10⟩,h11⟩,h12⟩,h13⟩,h14⟩,h15⟩ := h
  have e : ∀ {p q : ye Int},(p.e0 = q.e0 ∧ p.e1 = q.e1) → p = q := by
   rintro ⟨a0,a1⟩ ⟨b0,b1⟩ ⟨rfl,rfl⟩; rfl
  exact ⟨e h0,e h1,e h2,e h3,e h4,e h5,e h6,e h7,e h8,e h9,e h10,e h11,e h12,e h13,e h14,e h15⟩
 rfl := by
  intro a
  cases a
  simp [BEq.beq] }
instance : LawfulBEq zn := {
 eq_of_beq := by
  intro a b h
  have h : (a.block_ == b.block_ && a.signature_ == b.signature_) = true := h
  rw [Bool.and_eq_true,beq_iff_eq,beq_iff_eq] at h
  have ⟨a0,a1⟩ := a
  have ⟨b0,b1⟩ := b
  have ⟨h0,h1⟩ := h
  have h0 : a0 = b0 := h0
  have h1 : a1 = b1 := h1
  rw [h0,h1]
 rfl := by
  intro a
  show (a.block_ == a.block_ && a.signature_ == a.signature_) = true
  rw [beq_self_eq_true,beq_self_eq_true]; rfl }
def sgN (m : z4) (p : List Int) (s j : Nat) : ye Int := if j < kk m then ⟨(E m s j).Out,if (E m s j).To = -1 then -1 else (p[(E m s j).To.toNat]?).getD 0⟩ else ⟨0,0⟩
theorem zag (f g : Nat → α) {n i : Nat} (v : α) (h : ∀ j,j < n → g j = if j = i then v else f j) : ((List.range n).map f).set i v = (List.range n).map g := by
 apply List.ext_getElem?
 intro j
 by_cases hj : j < n
 ·have e1 : ((List.range n).map g)[j]? = some (g j) := by simp [hj]
  have e2 : ((List.range n).map f)[j]? = some (f j) := by simp [hj]
  rw [e1,h j hj]
  by_cases e : j = i
  ·subst e
   rw [List.getElem?_set_self (by simpa using hj),if_pos rfl]
  ·rw [List.getElem?_set_ne (fun q => e q.symm),e2,if_neg e]
 ·rw [List.getElem?_eq_none (by simp; omega),List.getElem?_eq_none (by simp; omega)]
variable {p : List Int}{s : Nat}
section
variable {m : z4} (h : VM m)
include h
theorem zct (hp : p.length = m.Rows.length)  (hs : s < m.Rows.length) : Ret (ul m p (s : Int)) fun a => a.toL = (List.range 16).map (sgN m p s) := by
 have ⟨r,r1,r2,r3⟩ := h.rowAt hs
 have hk := h.kk_le
 unfold ul jX
 rw [bdT (zC r1),zh]
 refine Ret.mono ?_ fun a ha => z6.2 ha
 refine zt (fun st => ∃ i : Nat,st.2 = (i : Int) ∧ i ≤ kk m ∧ st.1.toL = (List.range 16).map fun j => if j < i then sgN m p s j else ⟨0,0⟩) (fun st => 20 - st.2.toNat) ⟨0,rfl,by omega,by simp [yj.toL,List.range_succ]⟩ (by show 20 - _ < _; omega) ?_
 rintro ⟨a,_⟩ ⟨i,rfl,hi,ha⟩
 simp only at ha
 show Ret (uj p r a (i : Int)) _
 unfold uj uk
 rw [zg]
 refine ⟨fun hc => ?_,fun hc => ?_⟩
 ·have hc : (i : Int) < ((r.length : Nat) : Int) := of_decide_eq_true hc
  have hik : i < kk m := by omega
  have e1 : a.toL[i]? = some ⟨0,0⟩ := by rw [ha]; simp [show i < 16 by omega]
  have w2 : w64 ((i : Int) + 1) = ((i + 1 : Nat) : Int) := by rw [zm (by omega) (by omega)]; rfl
  have hed := h.edgeAt hs hik
  have step : ∀ v : ye Int,sgN m p s i = v → ∀ b : yj (ye Int),b.toL = ((List.range 16).map fun j => if j < i then sgN m p s j else ⟨0,0⟩).set i v → b.toL = (List.range 16).map fun j => if j < i + 1 then sgN m p s j else ⟨0,0⟩ := by
   intro v hv b hb
   rw [hb]
   refine zag _ _ v fun j hj => ?_
   by_cases e : j = i
   ·subst e
    rw [if_pos (by omega),if_pos rfl,hv]
   ·rw [if_neg e]
    by_cases e2 : j < i
    ·rw [if_pos e2,if_pos (by omega)]
    ·rw [if_neg e2,if_neg (by omega)]
  rw [bdT (zC (r3 i hik)),bdT (zC e1),Option.bind_some,zg]
  refine ⟨fun ht => ?_,fun ht => ?_⟩
  ·have ht : (E m s i).To ≠ -1 := by simpa using ht
   obtain ⟨t,htn⟩ : ∃ t : Nat,(E m s i).To = t := ⟨(E m s i).To.toNat,by omega⟩
   have hpt : p[t]? = some p[t] := List.getElem?_eq_getElem (by omega)
   have e2 : (yj.setI a (i : Int) ⟨(E m s i).Out,-1⟩).toL[i]? = some ⟨(E m s i).Out,-1⟩ := by
    rw [z2a,List.getElem?_set_self (by rw [ha]; simp; omega)]
   rw [htn,bdT (zC hpt),bdT (zC e2),Option.bind_some,z6,w2]
   refine ⟨⟨i + 1,rfl,by omega,step _ ?_ _ (by rw [z2a,z2a,ha,List.set_set])⟩,by simp [Int.toNat_natCast]; omega⟩
   unfold sgN
   rw [if_pos hik,if_neg ht,htn,Int.toNat_natCast,hpt,Option.getD_some]
  ·have ht : (E m s i).To = -1 := by simpa using ht
   rw [z6,w2]
   refine ⟨⟨i + 1,rfl,by omega,step _ ?_ _ (by rw [z2a,ha])⟩,by simp [Int.toNat_natCast]; omega⟩
   unfold sgN
   rw [if_pos hik,if_pos ht]
 ·have hc := of_decide_eq_false hc
  have : i = kk m := by omega
  subst this
  refine z6.2 ?_
  show a.toL = _
  rw [ha]
  refine List.map_congr_left fun j hj => ?_
  unfold sgN
  by_cases e : j < kk m
  ·rw [if_pos e,if_pos e]
  ·rw [if_neg e,if_neg e]
end
def Rgf (l : List Int) : Prop := ∀ (s : Nat) (x : Int),l[s]? = some x → ∃ v : Nat,x = (v : Int) ∧ ∀ w : Nat,w < v → ∃ t,t < s ∧ l[t]? = some (w : Int)
theorem z8j {l r : List Int} (hl : Rgf l) (hr : Rgf r) (hlen : l.length = r.length) (h : ∀ s t : Nat,s < l.length → t < l.length → (l[s]? = l[t]? ↔ r[s]? = r[t]?)) : l = r := by
 have gen : ∀ n s,s < n → s < l.length → l[s]? = r[s]? := by
  intro n
  induction n with
  | zero => intro s q; omega
  | succ n ih =>
   intro s hs hsl
   have hx : l[s]? = some l[s] := List.getElem?_eq_getElem hsl
   have hy : r[s]? = some r[s] := List.getElem?_eq_getElem (by omega)
   by_cases old : ∃ t,t < s ∧ l[t]? = l[s]?
   ·have ⟨t,t1,t2⟩ := old
    rw [← t2,ih t (by omega) (by omega)]
    exact (h t s (by omega) hsl).1 t2
   ·have ⟨v,v1,v2⟩ := hl s _ hx
    have ⟨u,u1,u2⟩ := hr s _ hy
    rw [hx,hy,v1,u1]
    rcases Nat.lt_trichotomy v u with q | q | q
    ·exfalso
     have ⟨t,t1,t2⟩ := u2 v q
     exact old ⟨t,t1,by rw [ih t (by omega) (by omega),t2,hx,v1]⟩
    ·rw [q]
    ·exfalso
     have ⟨t,t1,t2⟩ := v2 u q
     have : r[t]? = r[s]? := by rw [← ih t (by omega) (by omega),t2,hy,u1]
     exact old ⟨t,t1,(h t s (by omega) hsl).2 this⟩
 apply List.ext_getElem?
 intro s
 by_cases hs : s < l.length
 ·exact gen (s + 1) s (by omega) hs
 ·rw [List.getElem?_eq_none (by omega),List.getElem?_eq_none (by omega)]
theorem z8u {K V : Type} [BEq K] (x : K) (v : V) : ∀ l : List (K × V),z0Z l x = none → (z9i l x v).length = l.length + 1
 | [],_ => rfl
 | p :: l,hg => by
  simp only [z0Z] at hg
  split at hg
  ·cases hg
  ·rename_i q
   simp only [z9i,q]
   show ((p :: z9i l x v).length) = _
   rw [List.length_cons,z8u x v l hg,List.length_cons]
section
variable {m : z4} (h : VM m)
include h
def ze1 (m : z4) (p : List Int) (s t : Nat) : Prop := p[s]? = p[t]? ∧ ∀ j,j < kk m → sgN m p s j = sgN m p t j
theorem z7u (hp : p.length = m.Rows.length) : Ret (um m p) fun q => q.length = m.Rows.length ∧ Rgf q ∧ ∀ s t : Nat,s < m.Rows.length → t < m.Rows.length → (q[s]? = q[t]? ↔ ze1 m p s t) := by
 have hN := h.len64
 have hk := h.kk_le
 have hkey : ∀ s,s < m.Rows.length → ∃ key : zn,key.block_ = (p[s]?).getD 0 ∧ key.signature_.toL = (List.range 16).map (sgN m p s) ∧ ul m p (s : Int) = some key.signature_ := by
  intro s hs
  have ⟨a,a1,a2⟩ := zct h hp hs
  exact ⟨⟨(p[s]?).getD 0,a⟩,rfl,a2,a1⟩
 have : ∃ key : Nat → zn,∀ s,s < m.Rows.length → (key s).block_ = (p[s]?).getD 0 ∧ (key s).signature_.toL = (List.range 16).map (sgN m p s) ∧ ul m p (s : Int) = some (key s).signature_ := by
  classical
  refine ⟨fun s => if q : s < m.Rows.length then (hkey s q).choose else ⟨0,yj.mk ⟨0,0⟩ ⟨0,0⟩ ⟨0,0⟩ ⟨0,0⟩ ⟨0,0⟩ ⟨0,0⟩ ⟨0,0⟩ ⟨0,0⟩ ⟨0,0⟩ ⟨0,0⟩ ⟨0,0⟩ ⟨0,0⟩ ⟨0,0⟩ ⟨0,0⟩ ⟨0,0⟩ ⟨0,0⟩⟩,fun s hs => ?_⟩
  simp [hs]
  exact (hkey s hs).choose_spec
 have ⟨key,hkey⟩ := this
 have alike : ∀ s t,s < m.Rows.length → t < m.Rows.length → (key s = key t ↔ ze1 m p s t) := by
  intro s t hs ht
  have ⟨a1,a2,_⟩ := hkey s hs
  have ⟨b1,b2,_⟩ := hkey t ht
  have xs : p[s]? = some p[s] := List.getElem?_eq_getElem (by omega)
  have xt : p[t]? = some p[t] := List.getElem?_eq_getElem (by omega)
  rw [xs,Option.getD_some] at a1
  rw [xt,Option.getD_some] at b1
  constructor
  ·intro e
   refine ⟨by rw [xs,xt,← a1,← b1,e],fun j hj => ?_⟩
   have e2 : (List.range 16).map (sgN m p s) = (List.range 16).map (sgN m p t) := by rw [← a2,← b2,e]
   have := congrArg (fun l => l[j]?) e2
   simpa [show j < 16 by omega] using this
  ·rintro ⟨e1,e2⟩
   have e3 : (key s).signature_ = (key t).signature_ := zeD (by
    rw [a2,b2]
    refine List.map_congr_left fun j hj => ?_
    by_cases q : j < kk m
    ·exact e2 j q
    ·unfold sgN
     rw [if_neg q,if_neg q])
   have e4 : (key s).block_ = (key t).block_ := by
    rw [a1,b1]
    rw [xs,xt] at e1
    exact Option.some.inj e1
   revert e3 e4
   generalize key s = u
   generalize key t = v
   intro e3 e4
   have ⟨u0,u1⟩ := u
   have ⟨v0,v1⟩ := v
   simp only at e3 e4
   rw [e3,e4]
 unfold um vS
 rw [gdT (by omega),zh]
 refine Ret.mono ?_ fun q hq => z6.2 hq
 refine zt (fun st => ∃ i : Nat,st.2.2 = (i : Int) ∧ i ≤ m.Rows.length ∧ st.2.1.length = m.Rows.length ∧ (∀ s,s < i → ∃ v : Nat,st.2.1[s]? = some (v : Int) ∧ v < st.1.length ∧ z0Z st.1 (key s) = some (v : Int) ∧ ∀ w : Nat,w < v → ∃ t,t < s ∧ st.2.1[t]? = some (w : Int)) ∧ (∀ w : Nat,w < st.1.length → ∃ t,t < i ∧ st.2.1[t]? = some (w : Int)) ∧
   (∀ k v,z0Z st.1 k = some v → ∃ t,t < i ∧ key t = k) ∧ ∀ s t : Nat,s < i → t < i → st.2.1[s]? = st.2.1[t]? → key s = key t) (fun st => 100 - st.2.2.toNat) ⟨0,rfl,by omega,by simp [hp],fun s q => by omega,fun w q => by simp at q,fun k v q => by simp [z0Z] at q,fun s t q => by omega⟩ (by show 100 - _ < _; omega) ?_
 rintro ⟨names,out,_⟩ ⟨i,rfl,hi,ho,h1,h2,h3,h4⟩
 simp only at ho h1 h2 h3 h4
 show Ret (wr m p names out (i : Int)) _
 unfold wr
 rw [zg]
 refine ⟨fun hc => ?_,fun hc => ?_⟩
 ·have hc : (i : Int) < ((p.length : Nat) : Int) := of_decide_eq_true hc
  have hiN : i < m.Rows.length := by omega
  have ⟨a1,a2,a3⟩ := hkey i hiN
  have xi : p[i]? = some p[i] := List.getElem?_eq_getElem (by omega)
  rw [xi,Option.getD_some] at a1
  have hmk : zn.mk p[i] (key i).signature_ = key i := by
   rw [← a1]
  have w2 : w64 ((i : Int) + 1) = ((i + 1 : Nat) : Int) := by rw [zm (by omega) (by omega)]; rfl
  have hoi : out[i]? = some out[i] := List.getElem?_eq_getElem (by omega)
  rw [bdT (zC xi),bdT a3,Option.bind_some,hmk]
  cases hg : z0Z names (key i) with
  | none =>
   rw [Option.isSome_none,Bool.not_false,cond_true]
   unfold xj
   have hfresh : ∀ t,t < i → key t ≠ key i := fun t ht e => by
    have ⟨v,_,_,v3,_⟩ := h1 t ht
    rw [e,hg] at v3
    cases v3
   have hlen := z8u (key i) ((names.length : Nat) : Int) names hg
   rw [hmk,z2d,if_pos (by simp),Option.getD_some,Option.bind_some,bdT (zC hoi),z6,w2,Int.toNat_natCast]
   have keep : ∀ t : Nat,t < i → (out.set i ((names.length : Nat) : Int))[t]? = out[t]? := fun t ht => List.getElem?_set_ne (by omega)
   have new : (out.set i ((names.length : Nat) : Int))[i]? = some ((names.length : Nat) : Int) := List.getElem?_set_self (by omega)
   refine ⟨⟨i + 1,rfl,by omega,by simp [ho],fun s hs => ?_,fun w hw => ?_,fun k v q => ?_,fun s t hs ht q => ?_⟩,by simp; omega⟩
   ·simp only
    by_cases e : s = i
    ·subst e
     refine ⟨names.length,new,by omega,by rw [z2d,if_pos (by simp)],fun w hw => ?_⟩
     have ⟨t,t1,t2⟩ := h2 w hw
     exact ⟨t,t1,by rw [keep t t1]; exact t2⟩
    ·have ⟨v,v1,v2,v3,v4⟩ := h1 s (by omega)
     refine ⟨v,by rw [keep s (by omega)]; exact v1,by omega,?_,fun w hw => ?_⟩
     ·rw [z2d,if_neg (by simpa using fun q => hfresh s (by omega) q.symm)]
      exact v3
     ·have ⟨t,t1,t2⟩ := v4 w hw
      exact ⟨t,t1,by rw [keep t (by omega)]; exact t2⟩
   ·simp only at hw ⊢
    by_cases e : w < names.length
    ·have ⟨t,t1,t2⟩ := h2 w e
     exact ⟨t,by omega,by rw [keep t t1]; exact t2⟩
    ·have : w = names.length := by omega
     subst this
     exact ⟨i,by omega,new⟩
   ·simp only at q
    rw [z2d] at q
    by_cases e : key i = k
    ·exact ⟨i,by omega,e⟩
    ·rw [if_neg (by simpa using e)] at q
     have ⟨t,t1,t2⟩ := h3 k v q
     exact ⟨t,by omega,t2⟩
   ·simp only at q
    have low : ∀ t,t < i → out[t]? ≠ some ((names.length : Nat) : Int) := fun t ht g => by
     have ⟨v,v1,v2,_⟩ := h1 t ht
     rw [v1] at g
     have := Option.some.inj g
     omega
    by_cases es : s = i
    ·by_cases et : t = i
     ·rw [es,et]
     ·exfalso
      rw [es,new,keep t (by omega)] at q
      exact low t (by omega) q.symm
    ·by_cases et : t = i
     ·exfalso
      rw [et,new,keep s (by omega)] at q
      exact low s (by omega) q
     ·rw [keep s (by omega),keep t (by omega)] at q
      exact h4 s t (by omega) (by omega) q
  | some v =>
   rw [Option.isSome_some,Bool.not_true,cond_false]
   unfold xj
   have ⟨t0,t1,t2⟩ := h3 _ _ hg
   have ⟨u,u1,u2,u3,u4⟩ := h1 t0 t1
   rw [t2,hg] at u3
   have hvu : v = (u : Int) := Option.some.inj u3
   rw [hmk,hg,Option.getD_some,Option.bind_some,bdT (zC hoi),z6,w2,Int.toNat_natCast]
   have keep : ∀ t : Nat,t < i → (out.set i v)[t]? = out[t]? := fun t ht => List.getElem?_set_ne (by omega)
   have new : (out.set i v)[i]? = some v := List.getElem?_set_self (by omega)
   refine ⟨⟨i + 1,rfl,by omega,by simp [ho],fun s hs => ?_,fun w hw => ?_,fun k v q => ?_,fun s t hs ht q => ?_⟩,by simp; omega⟩
   ·simp only
    by_cases e : s = i
    ·subst e
     refine ⟨u,by rw [new,hvu],u2,by rw [hg,hvu],fun w hw => ?_⟩
     have ⟨t,g1,g2⟩ := u4 w hw
     exact ⟨t,by omega,by rw [keep t (by omega)]; exact g2⟩
    ·have ⟨v',v1,v2,v3,v4⟩ := h1 s (by omega)
     refine ⟨v',by rw [keep s (by omega)]; exact v1,v2,v3,fun w hw => ?_⟩
     have ⟨t,g1,g2⟩ := v4 w hw
     exact ⟨t,g1,by rw [keep t (by omega)]; exact g2⟩
   ·simp only at hw ⊢
    have ⟨t,g1,g2⟩ := h2 w hw
    exact ⟨t,by omega,by rw [keep t g1]; exact g2⟩
   ·have ⟨t,g1,g2⟩ := h3 k v q
    exact ⟨t,by omega,g2⟩
   ·simp only at q
    have like : ∀ t,t < i → out[t]? = some v → key t = key i := fun t ht g => by
     rw [← t2]
     exact h4 t t0 ht t1 (by rw [g,u1,hvu])
    by_cases es : s = i
    ·by_cases et : t = i
     ·rw [es,et]
     ·rw [es,new,keep t (by omega)] at q
      rw [es]
      exact (like t (by omega) q.symm).symm
    ·by_cases et : t = i
     ·rw [et,new,keep s (by omega)] at q
      rw [et]
      exact like s (by omega) q
     ·rw [keep s (by omega),keep t (by omega)] at q
      exact h4 s t (by omega) (by omega) q
 ·have hc := of_decide_eq_false hc
  have : i = m.Rows.length := by omega
  subst this
  refine z6.2 ⟨ho,fun s x hx => ?_,fun s t hs ht => ?_⟩
  ·have hs : s < m.Rows.length := by have := (List.getElem?_eq_some_iff.1 hx).1; omega
   have ⟨v,v1,_,_,v4⟩ := h1 s hs
   rw [hx] at v1
   exact ⟨v,Option.some.inj v1,v4⟩
  ·rw [← alike s t hs ht]
   refine ⟨h4 s t hs ht,fun e => ?_⟩
   have ⟨v,v1,_,v3,_⟩ := h1 s hs
   have ⟨u,u1,_,u3,_⟩ := h1 t ht
   rw [e,u3] at v3
   rw [v1,u1,← Option.some.inj v3]
end
theorem zb0 (a b : List Int) (ha : a.length < 4611686018427387904) : xu a b = some (decide (a = b)) := by
 unfold xu xA
 by_cases hl : a.length = b.length
 ·have e : (((a.length : Nat) : Int) != ((b.length : Nat) : Int)) = false := by simp [hl]
  rw [e,cond_false,qA a ha (step := fun s => ya a b s) (fun i x => if b[i]? = some x then none else some false) ?_ ?_]
  ·by_cases q : a = b
   ·rw [VF fun i x hx => by rw [Nat.zero_add,← q,if_pos hx]]
    simp [oS,q]
   ·cases hf : yu (fun i x => if b[i]? = some x then none else some false) a 0 with
    | none =>
     exfalso
     refine q (List.ext_getElem? fun i => ?_)
     by_cases hi : i < a.length
     ·have hx : a[i]? = some a[i] := List.getElem?_eq_getElem hi
      have := Zk hf i _ hx
      rw [Nat.zero_add] at this
      split at this
      ·rename_i g; rw [hx,g]
      ·cases this
     ·rw [List.getElem?_eq_none (by omega),List.getElem?_eq_none (by omega)]
    | some r =>
     have ⟨i,x,_,h2⟩ := jm hf
     split at h2
     ·cases h2
     ·cases h2
      simp [oS,q]
  ·intro i x hx
   have hi := (List.getElem?_eq_some_iff.1 hx).1
   have hy : b[i]? = some b[i] := List.getElem?_eq_getElem (by omega)
   unfold ya
   rw [decide_eq_true (by omega),cond_true,bdT (zC hx),bdT (zC hy),hy]
   by_cases e2 : x = b[i]
   ·rw [e2,bne_self_eq_false,cond_false,if_pos rfl]
    rfl
   ·have e3 : (x != b[i]) = true := by simpa using e2
    rw [e3,cond_true,if_neg fun g => e2 (Option.some.inj g).symm]
    rfl
  ·unfold ya
   rw [decide_eq_false (by omega),cond_false]
 ·have e : (((a.length : Nat) : Int) != ((b.length : Nat) : Int)) = true := by simpa using fun g : (a.length : Int) = b.length => hl (by omega)
  rw [e,cond_true,decide_eq_false fun q => hl (by rw [q])]
section
variable {m : z4} (h : VM m)
include h
omit h in theorem seq_out {s t : Nat} (q : SEq m s t) {j : Nat} (hj : j < kk m) : (E m s j).Out = (E m t j).Out ∧ ∀ w : List Nat,(∀ i ∈ w,i < kk m) → rsp m (E m s j).To w = rsp m (E m t j).To w := by
 have gen : ∀ w : List Nat,(∀ i ∈ w,i < kk m) → (E m s j).Out = (E m t j).Out ∧ rsp m (E m s j).To w = rsp m (E m t j).To w := by
  intro w hw
  have := q (j :: w) (fun i hi => by rcases List.mem_cons.1 hi with rfl | g; exact hj; exact hw i g)
  simp only [rsp,j0,List.cons.injEq] at this
  exact this
 exact ⟨(gen [] (by simp)).1,fun w hw => (gen w hw).2⟩
theorem z9V (hp : p.length = m.Rows.length) (hq : ∀ s t,s < m.Rows.length → t < m.Rows.length → SEq m s t → p[s]? = p[t]?) {s t : Nat} (hs : s < m.Rows.length) (ht : t < m.Rows.length) (q : SEq m s t) : ze1 m p s t := by
 refine ⟨hq s t hs ht q,fun j hj => ?_⟩
 have ⟨o1,o2⟩ := seq_out q hj
 have hes := h.edgeAt hs hj
 have het := h.edgeAt ht hj
 unfold sgN
 rw [if_pos hj,if_pos hj,o1]
 rcases hes with ⟨a1,a2⟩ | ⟨a1,a2,a3,a4⟩
 ·rcases het with ⟨b1,b2⟩ | ⟨b1,b2,b3,b4⟩
  ·rw [if_pos a1,if_pos b1]
  ·omega
 ·rcases het with ⟨b1,b2⟩ | ⟨b1,b2,b3,b4⟩
  ·omega
  ·rw [if_neg (by omega),if_neg (by omega)]
   have e1 : (((E m s j).To.toNat : Nat) : Int) = (E m s j).To := by omega
   have e2 : (((E m t j).To.toNat : Nat) : Int) = (E m t j).To := by omega
   have := hq _ _ (by omega) (by omega) (show SEq m (E m s j).To.toNat (E m t j).To.toNat from fun w hw => by rw [e1,e2]; exact o2 w hw)
   rw [this]
theorem zaU (hp : p.length = m.Rows.length) (hr : Rgf p) (hf : ∀ s t,s < m.Rows.length → t < m.Rows.length → p[s]? = p[t]? → ze1 m p s t) : ∀ (w : List Nat) (s t : Nat),s < m.Rows.length → t < m.Rows.length → p[s]? = p[t]? → (∀ i ∈ w,i < kk m) → rsp m (s : Int) w = rsp m (t : Int) w
 | [],_,_,_,_,_,_ => rfl
 | j :: w,s,t,hs,ht,e,hw => by
  have hj : j < kk m := hw j (by simp)
  have hw' : ∀ i ∈ w,i < kk m := fun i hi => hw i (by simp [hi])
  have hal := (hf s t hs ht e).2 j hj
  have hes := h.edgeAt hs hj
  have het := h.edgeAt ht hj
  have pos : ∀ u : Nat,u < m.Rows.length → 0 ≤ (p[u]?).getD 0 := fun u hu => by
   have hx : p[u]? = some p[u] := List.getElem?_eq_getElem (by omega)
   have ⟨v,v1,_⟩ := hr u _ hx
   rw [hx,Option.getD_some,v1]
   omega
  unfold sgN at hal
  rw [if_pos hj,if_pos hj] at hal
  have a0 := congrArg ye.e0 hal
  have a1 := congrArg ye.e1 hal
  simp only at a0 a1
  simp [rsp,j0,a0,List.cons.injEq,true_and]
  rcases hes with ⟨b1,b2⟩ | ⟨b1,b2,b3,b4⟩
  ·rcases het with ⟨c1,c2⟩ | ⟨c1,c2,c3,c4⟩
   ·rw [b1,c1]
   ·rw [if_pos b1,if_neg (by omega)] at a1
    have := pos (E m t j).To.toNat (by omega)
    omega
  ·rcases het with ⟨c1,c2⟩ | ⟨c1,c2,c3,c4⟩
   ·rw [if_neg (by omega),if_pos c1] at a1
    have := pos (E m s j).To.toNat (by omega)
    omega
   ·rw [if_neg (by omega),if_neg (by omega)] at a1
    have x1 : p[(E m s j).To.toNat]? = some p[(E m s j).To.toNat] := List.getElem?_eq_getElem (by omega)
    have x2 : p[(E m t j).To.toNat]? = some p[(E m t j).To.toNat] := List.getElem?_eq_getElem (by omega)
    have := zaU hp hr hf w (E m s j).To.toNat (E m t j).To.toNat (by omega) (by omega) (by rw [x1,x2] at a1 ⊢; exact congrArg some a1) hw'
    have e1 : (((E m s j).To.toNat : Nat) : Int) = (E m s j).To := by omega
    have e2 : (((E m t j).To.toNat : Nat) : Int) = (E m t j).To := by omega
    rw [e1,e2] at this
    exact this
def UT (N : Nat) (p : List Int) : Nat := ((List.range N).flatMap fun s => (List.range N).map fun t => (s,t)).countP fun x => decide (p[x.1]? = p[x.2]?)
omit h in
theorem z6u {N s t : Nat} : (s,t) ∈ ((List.range N).flatMap fun s => (List.range N).map fun t => (s,t)) ↔ s < N ∧ t < N := by
 simp only [List.mem_flatMap,List.mem_map,List.mem_range,Prod.mk.injEq]
 constructor
 ·rintro ⟨a,ha,b,hb,rfl,rfl⟩; exact ⟨ha,hb⟩
 ·rintro ⟨a,b⟩; exact ⟨s,a,t,b,rfl,rfl⟩
theorem z9t : Ret (uo m) fun r => r.2.2 = 0 ∧ r.1.length = m.Rows.length ∧ Rgf r.1 ∧ ∀ s t : Nat,s < m.Rows.length → t < m.Rows.length → (r.1[s]? = r.1[t]? ↔ SEq m s t) := by
 have hN := h.len64
 have hN1 := h.len1
 unfold uo ZQ
 rw [z2j,z8R h,Option.bind_some,bne_self_eq_false,cond_false,Option.bind_some]
 unfold vq
 rw [gdT (by omega),zh,zh]
 have e0 : ((m.Rows.length : Nat) : Int).toNat = m.Rows.length := by simp
 rw [e0]
 refine (zt (R := fun y : LR (List Int × Int) Empty => ∃ p n,y = .next (p,n) ∧ p.length = m.Rows.length ∧ Rgf p ∧ ∀ s t : Nat,s < m.Rows.length → t < m.Rows.length → (p[s]? = p[t]? ↔ SEq m s t))
  (fun st : LR (List Int × Int) Empty × List Int => (∃ x,st.1 = .next x) ∧ st.2.length = m.Rows.length ∧ Rgf st.2 ∧ ∀ s t : Nat,s < m.Rows.length → t < m.Rows.length → SEq m s t → st.2[s]? = st.2[t]?) (fun st => UT m.Rows.length st.2) ⟨⟨_,rfl⟩,by simp,?_,?_⟩ ?_ ?_).mono ?_
 ·intro s x hx
  simp only [List.getElem?_replicate] at hx
  split at hx
  ·cases hx
   exact ⟨0,rfl,fun w q => by omega⟩
  ·cases hx
 ·intro s t hs ht _
  simp only [List.getElem?_replicate]
  rw [if_pos hs,if_pos ht]
 ·have : UT m.Rows.length (List.replicate m.Rows.length (0 : Int)) ≤ ((List.range m.Rows.length).flatMap fun s => (List.range m.Rows.length).map fun t => (s,t)).length := List.countP_le_length
  have e : ((List.range m.Rows.length).flatMap fun s => (List.range m.Rows.length).map fun t => (s,t)).length = m.Rows.length * m.Rows.length := by
   rw [List.length_flatMap]
   simp only [List.length_map,List.length_range,List.map_const',List.sum_replicate_nat]
  rw [e] at this
  have := Nat.mul_le_mul hN hN
  show UT m.Rows.length (List.replicate m.Rows.length (0 : Int)) < 18446744073709551616
  omega
 ·rintro ⟨y,p⟩ ⟨⟨⟨x,n⟩,rfl⟩,hp,hr,hq⟩
  simp only at hp hr hq
  show Ret (xR m (yOf fun s x => xk s.1 s.2 x) (.next (x,n)) p) _
  unfold xR
  simp only [yOf,xk,Option.bind_some,cond_true]
  rw [zh]
  refine (z7u h hp).mono ?_
  rintro q ⟨q1,q2,q3⟩
  rw [zb0 p q (by omega),Option.bind_some,zg]
  refine ⟨fun hc => ?_,fun hc => ?_⟩
  ·have hc : p = q := of_decide_eq_true hc
   rw [z6]
   refine ⟨p,w64 (n + 1),rfl,hp,hr,fun s t hs ht => ⟨fun e w hw => ?_,hq s t hs ht⟩⟩
   exact zaU h hp hr (fun s t hs ht e => (q3 s t hs ht).1 (by rw [← hc]; exact e)) w s t hs ht e hw
  ·have hc : ¬ p = q := of_decide_eq_false hc
   rw [z6]
   refine ⟨⟨⟨_,rfl⟩,q1,q2,fun s t hs ht e => (q3 s t hs ht).2 (z9V h hp hq hs ht e)⟩,?_⟩
   show UT m.Rows.length q < UT m.Rows.length p
   unfold UT
   refine z3g (fun z hz hd => ?_) ?_
   ·have ⟨s,t⟩ := z
    have ⟨hs,ht⟩ := z6u.1 hz
    simp only [decide_eq_true_eq] at hd ⊢
    exact ((q3 s t hs ht).1 hd).1
   ·refine Classical.byContradiction fun g => hc (z8j hr q2 (by omega) fun s t hs ht => ⟨fun e => ?_,fun e => ((q3 s t (by omega) (by omega)).1 e).1⟩)
    refine Classical.byContradiction fun g2 => g ⟨(s,t),z6u.2 ⟨by omega,by omega⟩,by simpa using e,by simpa using g2⟩
 ·rintro y ⟨p,n,rfl,g1,g2,g3⟩
  rw [z6]
  unfold vT
  simp only
  rw [z6]
  exact ⟨rfl,g1,g2,g3⟩
end
variable {m : z4}
theorem SEq.refl (s : Nat) : SEq m s s := fun _ _ => rfl
theorem SEq.symm {s t : Nat} (h : SEq m s t) : SEq m t s := fun w hw => (h w hw).symm
theorem SEq.trans {s t u : Nat} (h : SEq m s t) (k : SEq m t u) : SEq m s u := fun w hw => (h w hw).trans (k w hw)
structure Zt (m : z4) (F : List Nat) : Prop where
 sorted : z90 m F
 acc : ∀ t ∈ F,t < m.Rows.length ∧ ∃ v,Acc m t v
 dist : F.Pairwise fun s t => ¬ SEq m s t
 all : ∀ t v,t < m.Rows.length → Acc m t v → ∃ s ∈ F,SEq m s t ∧ ∃ w,Acc m s w ∧ rk (kk m) w ≤ rk (kk m) v
section
variable {m : z4} (h : VM m) (hG : GG (kk m) m.Rows.length ≤ 1000000000)
include h hG
theorem z9m : Ret (uz m) fun o => ∃ F : List Nat,o = F.map Int.ofNat ∧ Zt m F := by
 have l64 := h.len64
 unfold uz kK
 rw [zh]
 refine (z3i h.wm).mono ?_
 rintro p ⟨p1,p2⟩
 rw [zh]
 refine (z6o h hG).mono ?_
 rintro o ⟨L,rfl,s1,s2,s3⟩
 have hLn : L.length ≤ m.Rows.length := by
  refine ZI _ L ?_ fun x hx => (s2 x hx).1
  refine List.Pairwise.imp_of_mem ?_ s1
  intro a b ha hb q e
  subst e
  have ⟨v,hv⟩ := (s2 a ha).2
  exact Nat.lt_irrefl _ (q v v hv hv)
 rw [zh]
 refine Ret.mono (Q := fun o => ∃ F : List Nat,o = F.map Int.ofNat ∧ Zt m F) ?_ fun o ho => z6.2 ho
 let J : List Nat → Nat → Prop := fun F k => k ≤ L.length ∧ F.length ≤ k ∧ F.Sublist (L.take k) ∧ (F.Pairwise fun s t => ¬ SEq m s t) ∧ ∀ t ∈ L.take k,∃ s ∈ F,SEq m s t ∧ ∀ v w,Acc m s w → Acc m t v → rk (kk m) w ≤ rk (kk m) v
 refine zt (fun q => ∃ (F : List Nat) (k : Nat),q.1 = F.map Int.ofNat ∧ q.2 = (k : Int) ∧ J F k) (fun q => 1000 - q.2.toNat) ⟨[],0,rfl,rfl,Nat.zero_le _,Nat.le_refl _,List.nil_sublist _,List.Pairwise.nil,fun t ht => by simp at ht⟩ (by simp) ?_
 rintro ⟨out,q⟩ ⟨F,k,e1,e2,j1,j2,j3,j4,j5⟩
 simp only at e1 e2
 subst e1; subst e2
 have cl : ∀ n,n < L.length → ∃ x,p[L[n]!]? = some x := by
  intro n hn
  have hm : L[n]! ∈ L := by rw [getElem!_pos L n hn]; exact List.getElem_mem hn
  have := (s2 _ hm).1
  exact ⟨_,List.getElem?_eq_getElem (by omega)⟩
 have gx : ∀ n,n < L.length → (L.map Int.ofNat)[n]? = some ((L[n]! : Nat) : Int) := by
  intro n hn
  rw [getElem!_pos L n hn]
  simp [hn]
 have gl : ∀ n,n < L.length → L[n]! ∈ L ∧ L[n]! < m.Rows.length := by
  intro n hn
  have hm : L[n]! ∈ L := by rw [getElem!_pos L n hn]; exact List.getElem_mem hn
  exact ⟨hm,(s2 _ hm).1⟩
 unfold kI
 rw [zg]
 refine ⟨fun hc => ?_,fun hc => ?_⟩
 ·have hk : k < L.length := by simpa using hc
  have hw : ∀ k : Nat,k < 1000 → w64 ((k : Int) + 1) = ((k + 1 : Nat) : Int) := fun k hk => by rw [zm (by omega) (by omega)]; rfl
  rw [zh]
  have inner : Ret (loop (fun s => uv p (L.map Int.ofNat) (k : Int) s.1 s.2) (0,0)) fun c => (c = 0 ∧ ∀ n,n < k → ¬ SEq m L[n]! L[k]!) ∨ (c = 1 ∧ ∃ n,n < k ∧ SEq m L[n]! L[k]!) := by
   refine zt (fun q => ∃ n : Nat,q.2 = (n : Int) ∧ n ≤ k ∧ ((q.1 = 0 ∧ ∀ i,i < n → ¬ SEq m L[i]! L[k]!) ∨ (q.1 = 1 ∧ ∃ i,i < k ∧ SEq m L[i]! L[k]!))) (fun q => 1000 - q.2.toNat) ⟨0,rfl,Nat.zero_le _,.inl ⟨rfl,fun i hi => by omega⟩⟩ (by simp) ?_
   rintro ⟨c,q⟩ ⟨n,e2,n1,n2⟩
   simp only at e2 n2
   subst e2
   unfold uv uw
   rw [zg]
   refine ⟨fun hc => ?_,fun hc => ?_⟩
   ·have hn : n < k := by simpa using hc
    have ⟨x,hx⟩ := cl n (by omega)
    have ⟨y,hy⟩ := cl k hk
    rw [zx,bdT (gx n (by omega)),zx,bdT hx,zx,bdT (gx k hk),zx,bdT hy,hw n (by omega),zg]
    have hs := p2 _ _ (gl n (by omega)).2 (gl k hk).2
    rw [hx,hy,Option.some.injEq] at hs
    refine ⟨fun e => ?_,fun e => ?_⟩
    ·have : SEq m L[n]! L[k]! := hs.1 (by simpa using e)
     exact z6.2 ⟨⟨n + 1,rfl,hn,.inr ⟨rfl,n,hn,this⟩⟩,by simp [Int.toNat_natCast]; omega⟩
    ·have hno : ¬ SEq m L[n]! L[k]! := fun g => by have := hs.2 g; simp [this] at e
     refine z6.2 ⟨⟨n + 1,rfl,hn,?_⟩,by simp [Int.toNat_natCast]; omega⟩
     rcases n2 with ⟨c0,n2⟩ | n2
     ·refine .inl ⟨c0,fun i hi => ?_⟩
      rcases Nat.lt_or_ge i n with q | q
      ·exact n2 i q
      ·have : i = n := by omega
       subst this; exact hno
     ·exact .inr n2
   ·have : n = k := by
     have : ¬ n < k := by simpa using hc
     omega
    subst this
    exact z6.2 n2
  refine inner.mono fun c hc => ?_
  have hx' : L[k]? = some L[k]! := by rw [getElem!_pos L k hk]; exact List.getElem?_eq_getElem hk
  have htk : L.take (k + 1) = L.take k ++ [L[k]!] := by rw [List.take_add_one,hx']; rfl
  have hmt : ∀ n,n < k → L[n]! ∈ L.take k := by
   intro n hn
   rw [getElem!_pos L n (by omega)]
   have : (L.take k)[n]'(by simp; omega) = L[n] := by simp
   rw [← this]; exact List.getElem_mem _
  unfold kJ
  rw [zg]
  have fin : ∀ F' : List Nat,J F' (k + 1) → Ret (wU (k : Int) (F'.map Int.ofNat)) (LRP (fun s' => (∃ (F : List Nat) (k : Nat),s'.1 = F.map Int.ofNat ∧ s'.2 = (k : Int) ∧ J F k) ∧ 1000 - s'.2.toNat < 1000 - (k : Int).toNat) fun o => ∃ F : List Nat,o = F.map Int.ofNat ∧ Zt m F) := by
   intro F' hF
   unfold wU
   rw [hw k (by omega)]
   exact z6.2 ⟨⟨F',k + 1,rfl,rfl,hF⟩,by simp [Int.toNat_natCast]; omega⟩
  rcases hc with ⟨rfl,hc⟩ | ⟨rfl,n,hn,hc⟩
  ·refine ⟨fun _ => ?_,fun e => by simp at e⟩
   rw [zx,bdT (gx k hk),WP]
   refine ⟨by simp; omega,?_⟩
   have e3 : F.map Int.ofNat ++ ([((L[k]! : Nat) : Int)] : List Int) = (F ++ [L[k]!]).map Int.ofNat := by simp
   rw [e3]
   refine fin _ ⟨hk,by simp; omega,by rw [htk]; exact List.Sublist.append j3 (List.Sublist.refl _),?_,fun t ht => ?_⟩
   ·rw [List.pairwise_append]
    refine ⟨j4,List.pairwise_singleton _ _,fun a ha b hb e => ?_⟩
    have hb : b = L[k]! := by simpa using hb
    subst hb
    have ha' : a ∈ L.take k := j3.subset ha
    have ⟨i,hi,e4⟩ := List.getElem_of_mem ha'
    have hi' : i < k ∧ i < L.length := by rw [List.length_take] at hi; omega
    have : L[i]! = a := by rw [getElem!_pos L i (by omega),← e4]; simp
    exact hc i hi'.1 (by rw [this]; exact e)
   ·rw [htk,List.mem_append] at ht
    rcases ht with ht | ht
    ·have ⟨s,q1,q2,q3⟩ := j5 t ht
     exact ⟨s,List.mem_append.2 (.inl q1),q2,q3⟩
    ·have : t = L[k]! := by simpa using ht
     subst this
     exact ⟨_,List.mem_append.2 (.inr (by simp)),SEq.refl _,fun v w hv hv' => by rw [VV hv hv']; exact Nat.le_refl _⟩
  ·refine ⟨fun e => by simp at e,fun _ => fin F ⟨hk,by omega,by rw [htk]; exact j3.trans (List.sublist_append_left _ _),j4,fun t ht => ?_⟩⟩
   rw [htk,List.mem_append] at ht
   rcases ht with ht | ht
   ·exact j5 t ht
   ·have : t = L[k]! := by simpa using ht
    subst this
    have ⟨s,q1,q2,q3⟩ := j5 _ (hmt n hn)
    refine ⟨s,q1,q2.trans hc,fun v w hw' hv' => ?_⟩
    have ⟨u,hu⟩ := (s2 _ (gl n (by omega)).1).2
    refine Nat.le_trans (q3 u w hw' hu) (Nat.le_of_lt ?_)
    have := List.pairwise_iff_getElem.1 s1 n k (by omega) hk hn
    rw [← getElem!_pos L n (by omega),← getElem!_pos L k hk] at this
    exact this u v hu hv'
 ·have hk : ¬ k < L.length := by simpa using hc
  have : k = L.length := by omega
  subst this
  rw [List.take_length] at j3 j5
  refine z6.2 ⟨F,rfl,List.Pairwise.sublist j3 s1,fun t ht => s2 t (j3.subset ht),j4,fun t v ht hv => ?_⟩
  have hmem : t ∈ L := Classical.byContradiction fun g => s3 t ht g v hv.wd hv.aft
  have ⟨s,q1,q2,q3⟩ := j5 t hmem
  have ⟨w,hw⟩ := (s2 s (j3.subset q1)).2
  exact ⟨s,q1,q2,w,hw,q3 v w hw hv⟩
end
def Rch (m : z4) (t : Nat) : Prop := ∃ u,Wd (kk m) u ∧ aft m 0 u = (t : Int)
theorem z0U {out : List Bool} {j t : Nat} (hj : j < out.length) : (out.set j true)[t]? = some true ↔ t = j ∨ out[t]? = some true := by
 by_cases e : t = j
 ·subst e; simp [hj]
 ·rw [List.getElem?_set_ne (Ne.symm e)]
  exact ⟨.inr,fun q => q.resolve_left e⟩
section
variable {m : z4} (h : VM m)
include h
omit h in theorem rch_step {s i : Nat} (hs : Rch m s) (hi : i < kk m) (h0 : 0 ≤ (E m s i).To) : Rch m (E m s i).To.toNat := by
 obtain ⟨u,hu,e⟩ := hs
 refine ⟨u ++ [i],fun j hj => ?_,?_⟩
 ·rcases List.mem_append.1 hj with q | q
  ·exact hu j q
  ·have : j = i := by simpa using q
   omega
 ·have := (JK m u 0 i).2
  rw [e,j0] at this
  rw [this]
  omega
theorem z7v : Ret (kY m 0) fun is => is.length = m.Rows.length ∧ ∀ t,t < m.Rows.length → (is[t]? = some true ↔ Rch m t) := by
 have l64 := h.len64
 have l1 := h.len1
 have hk2 := h.kk_le
 have hke := h.kk_eq
 have w1 : ∀ n : Nat,n < 1000 → w64 ((n : Int) + 1) = ((n + 1 : Nat) : Int) := fun n hn => by rw [zm (by omega) (by omega)]; rfl
 unfold kY qQ
 rw [WP]
 refine ⟨by omega,?_⟩
 have e0 : idx (List.replicate ((m.Rows.length : Nat) : Int).toNat false) 0 = some false := by
  show (List.replicate ((m.Rows.length : Nat) : Int).toNat false)[0]? = some false
  rw [List.getElem?_replicate,if_pos (by rw [Int.toNat_natCast]; omega)]
 rw [bdT e0,zh]
 let S : List Bool → Prop := fun out => out.length = m.Rows.length ∧ ∀ t : Nat,out[t]? = some true → Rch m t
 refine Ret.mono (Q := fun is => is.length = m.Rows.length ∧ ∀ t,t < m.Rows.length → (is[t]? = some true ↔ Rch m t)) ?_ fun o ho => z6.2 ho
 refine zt (fun q => ∃ r : Nat,q.2 = (r : Int) ∧ r ≤ m.Rows.length ∧ S q.1 ∧ ∀ (u : List Nat) (t : Nat),Wd (kk m) u → u.length ≤ r → aft m 0 u = ((t : Nat) : Int) → q.1[t]? = some true) (fun q => 1000 - q.2.toNat) ⟨0,rfl,Nat.zero_le _,⟨by simp,fun t ht => ?_⟩,fun u t hu hl e => ?_⟩ (by simp) ?_
 ·rw [show (0 : Int).toNat = 0 from rfl,z0U (by rw [List.length_replicate,Int.toNat_natCast]; omega)] at ht
  rcases ht with rfl | ht
  ·exact ⟨[],fun i hi => by simp at hi,rfl⟩
  ·rw [List.getElem?_replicate] at ht
   split at ht <;> simp at ht
 ·have : u = [] := List.eq_nil_of_length_eq_zero (by omega)
  subst this
  have : t = 0 := by simp [aft] at e; omega
  subst this
  rw [show (0 : Int).toNat = 0 from rfl,z0U (by rw [List.length_replicate,Int.toNat_natCast]; omega)]
  exact .inl rfl
 rintro ⟨out1,q⟩ ⟨r,e1,r1,r2,r3⟩
 simp only at e1 r2 r3
 subst e1
 unfold qN qP
 rw [zg]
 refine ⟨fun hc => ?_,fun hc => ?_⟩
 ·have hr : r < m.Rows.length := by simpa using hc
  rw [zh]
  let C : List Bool → Nat → Nat → Prop := fun out s i => S out ∧ (∀ t : Nat,out1[t]? = some true → out[t]? = some true) ∧ ∀ s' i' : Nat,(s' < s ∨ s' = s ∧ i' < i) → i' < kk m → s' < m.Rows.length → out1[s']? = some true → 0 ≤ (E m s' i').To → out[(E m s' i').To.toNat]? = some true
  have round : Ret (loop (fun s => vA m s.1 s.2) (out1,0)) fun out => C out m.Rows.length 0 := by
   refine zt (fun q => ∃ s : Nat,q.2 = (s : Int) ∧ s ≤ m.Rows.length ∧ C q.1 s 0) (fun q => 1000 - q.2.toNat) ⟨0,rfl,Nat.zero_le _,r2,fun t ht => ht,fun s' i' hh => by omega⟩ (by simp) ?_
   rintro ⟨out3,q⟩ ⟨s,e1,s1,s2⟩
   simp only at e1 s2
   subst e1
   unfold vA qO
   rw [zg]
   refine ⟨fun hc => ?_,fun hc => ?_⟩
   ·have hs : s < m.Rows.length := by simpa using hc
    rw [zh]
    have row : Ret (loop (fun q => vz m (s : Int) q.1 q.2) (out3,0)) fun out => C out s (kk m) := by
     refine zt (fun q => ∃ i : Nat,q.2 = (i : Int) ∧ i ≤ kk m ∧ C q.1 s i) (fun q => 1000 - q.2.toNat) ⟨0,rfl,Nat.zero_le _,s2⟩ (by simp) ?_
     rintro ⟨out5,q⟩ ⟨i,e1,i1,c1,c2,c3⟩
     simp only at e1 c1 c2 c3
     subst e1
     unfold vz wg
     rw [zg]
     refine ⟨fun hc => ?_,fun hc => ?_⟩
     ·have hi : i < kk m := by rw [← hke] at hc; simpa using hc
      have he := h.edgeAt hs hi
      have hl : s < out5.length := by rw [c1.1]; exact hs
      rw [h.edge_eq hs hi,zx,bdT (List.getElem?_eq_getElem hl),zg,w1 i (by omega)]
      have fin : ∀ out : List Bool,C out s (i + 1) → Ret (some (LR.next (out,((i + 1 : Nat) : Int)) : LR (List Bool × Int) (List Bool))) (LRP (fun s' => (∃ i : Nat,s'.2 = (i : Int) ∧ i ≤ kk m ∧ C s'.1 s i) ∧ 1000 - s'.2.toNat < 1000 - (i : Int).toNat) fun out => C out s (kk m)) := by
       intro out hC
       exact z6.2 ⟨⟨i + 1,rfl,hi,hC⟩,by simp [Int.toNat_natCast]; omega⟩
      have keep : (out1[s]? = some true → 0 ≤ (E m s i).To → out5[(E m s i).To.toNat]? = some true) → C out5 s (i + 1) := by
       intro hh
       refine ⟨c1,c2,fun s' i' g1 g2 g3 g4 g5 => ?_⟩
       by_cases e : s' = s ∧ i' = i
       ·obtain ⟨rfl,rfl⟩ := e
        exact hh g4 g5
       ·exact c3 s' i' (by omega) g2 g3 g4 g5
      refine ⟨fun hb => ?_,fun hb => ?_⟩
      ·have hb' : out5[s]? = some true := by rw [List.getElem?_eq_getElem hl,hb]
       rw [zg]
       refine ⟨fun hc => ?_,fun hc => ?_⟩
       ·have h0 : 0 ≤ (E m s i).To := by simpa using hc
        have ht : (E m s i).To.toNat < out5.length := by rw [c1.1]; omega
        have ⟨n,hn⟩ := Int.eq_ofNat_of_zero_le h0
        obtain ⟨y,hx⟩ : ∃ y,idx out5 (E m s i).To = some y := by
         rw [hn] at ht ⊢
         exact ⟨_,List.getElem?_eq_getElem ht⟩
        rw [bdT hx]
        refine fin _ ⟨⟨by simpa using c1.1,fun t hh => ?_⟩,fun t hh => (z0U ht).2 (.inr (c2 t hh)),fun s' i' g1 g2 g3 g4 g5 => (z0U ht).2 ?_⟩
        ·rcases (z0U ht).1 hh with rfl | hh
         ·exact rch_step (c1.2 s hb') hi h0
         ·exact c1.2 t hh
        ·by_cases e : s' = s ∧ i' = i
         ·obtain ⟨rfl,rfl⟩ := e
          exact .inl rfl
         ·exact .inr (c3 s' i' (by omega) g2 g3 g4 g5)
       ·have h0 : ¬ 0 ≤ (E m s i).To := by simpa using hc
        exact fin _ (keep fun _ g => (h0 g).elim)
      ·have hb' : out5[s]? = some false := by rw [List.getElem?_eq_getElem hl,hb]
       refine fin _ (keep fun g _ => ?_)
       have := c2 s g
       rw [hb'] at this
       cases this
     ·have : i = kk m := by
       have : ¬ i < kk m := by rw [← hke] at hc; simpa using hc
       omega
      subst this
      exact z6.2 ⟨c1,c2,c3⟩
    refine row.mono ?_
    rintro out ⟨c1,c2,c3⟩
    rw [w1 s (by omega)]
    exact z6.2 ⟨⟨s + 1,rfl,hs,c1,c2,fun s' i' g1 g2 g3 => c3 s' i' (by omega) g2 g3⟩,by simp [Int.toNat_natCast]; omega⟩
   ·have : s = m.Rows.length := by
     have : ¬ s < m.Rows.length := by simpa using hc
     omega
    subst this
    exact z6.2 s2
  refine round.mono ?_
  rintro out ⟨c1,c2,c3⟩
  rw [w1 r (by omega)]
  refine z6.2 ⟨⟨r + 1,rfl,hr,c1,fun u t hu hl e => ?_⟩,by simp [Int.toNat_natCast]; omega⟩
  rcases Nat.lt_or_ge r u.length with q | q
  ·obtain ⟨u',i,rfl⟩ : ∃ u' i,u = u' ++ [i] := by
    rcases List.eq_nil_or_concat u with e | ⟨u',i,e⟩
    ·subst e; simp at q
    ·exact ⟨u',i,by simpa using e⟩
   have hu' : Wd (kk m) u' := fun j hj => hu j (by simp [hj])
   have hi := hu i (by simp)
   rw [(JK m u' 0 i).2] at e
   have h1 := z6Z h u' 0 ⟨by omega,by omega⟩ hu'
   have h0 : 0 ≤ aft m 0 u' := by
    rcases Int.lt_or_le (aft m 0 u') 0 with g | g
    ·unfold nxE at e
     rw [if_pos g] at e
     simp only at e
     omega
    ·exact g
   have ⟨s,hs⟩ := Int.eq_ofNat_of_zero_le h0
   have hsN : s < m.Rows.length := by have := h1.2; omega
   rw [hs,j0] at e
   have := c3 s i (.inl hsN) hi hsN (r3 u' s hu' (by simp at hl; omega) hs) (by omega)
   rw [e] at this
   simpa using this
  ·exact c2 t (r3 u t hu (by omega) e)
 ·have : r = m.Rows.length := by
   have : ¬ r < m.Rows.length := by simpa using hc
   omega
  subst this
  refine z6.2 ⟨r2.1,fun t ht => ⟨r2.2 t,?_⟩⟩
  rintro ⟨u,hu,e⟩
  have ⟨w,x1,x2,x3,x4⟩ := QF h u.length u (Nat.le_refl _) hu (by omega)
  exact r3 w t x1 (by omega) (x4.trans e)
end
def QW (l : List (List Int)) : Prop := l.Pairwise fun a b => ¬ XN b a < 0
theorem zd1 {l : List α} {n : Nat} {x : α} : x ∈ l.take n ↔ ∃ i,i < n ∧ l[i]? = some x := by
 rw [List.mem_iff_getElem?]
 constructor
 ·rintro ⟨i,h⟩
  rw [List.getElem?_take] at h
  split at h
  ·exact ⟨i,by omega,h⟩
  ·cases h
 ·rintro ⟨i,h1,h2⟩
  exact ⟨i,by rw [List.getElem?_take,if_pos h1]; exact h2⟩
theorem zah (hs : SW l)   (hi : i ≤ l.length) (h1 : ∀ m x,m < i → l[m]? = some x → XN x w < 0) (h2 : ∀ m x,i ≤ m → l[m]? = some x → XN w x < 0) : l.take i ++ w :: l.drop i = z4n w l := by
 have ht : ∀ x ∈ l.take i,XN x w < 0 := fun x hx => by
  obtain ⟨m,q1,q2⟩ := zd1.1 hx
  exact h1 m x q1 q2
 have hd : ∀ x ∈ l.drop i,XN w x < 0 := fun x hx => by
  obtain ⟨m,q⟩ := List.mem_iff_getElem?.1 hx
  rw [List.getElem?_drop] at q
  exact h2 (i + m) x (by omega) q
 refine SW.unique ?_ hs.put fun x => ?_
 ·unfold SW
  rw [List.pairwise_append,List.pairwise_cons]
  refine ⟨hs.sub (List.take_sublist _ _),⟨hd,hs.sub (List.drop_sublist _ _)⟩,fun a ha b hb => ?_⟩
  rcases List.mem_cons.1 hb with rfl | hb
  ·exact ht a ha
  ·exact Xj (ht a ha) (hd b hb)
 ·rw [JN]
  have : x ∈ l ↔ x ∈ l.take i ∨ x ∈ l.drop i := by rw [← List.mem_append,List.take_append_drop]
  rw [this]
  simp only [List.mem_append,List.mem_cons]
  constructor
  ·rintro (h | h | h) <;> simp [h]
  ·rintro (h | h | h) <;> simp [h]
theorem zhx {l : List (List Int)} (hs : SW l) (hl : l.length ≤ 1000000) (hw : ∀ x ∈ l,x.length < 4611686018427387904)  (hww : w.length ≤ 4294967296) : Ur l w = some (z4n w l) := by
 unfold Ur
 apply Ret.eq
 rw [zh]
 refine Ret.mono (zt (fun q : Int × Int => ∃ i j : Nat,q = ((i : Int),(j : Int)) ∧ i ≤ j ∧ j ≤ l.length ∧ (∀ m x,m < i → l[m]? = some x → XN x w < 0) ∧ ∀ m x,j ≤ m → l[m]? = some x → ¬ XN x w < 0) (fun q => (q.2 - q.1).toNat) (R := fun t => ∃ i : Nat,t = (i : Int) ∧ i ≤ l.length ∧ (∀ m x,m < i → l[m]? = some x → XN x w < 0) ∧ ∀ m x,i ≤ m → l[m]? = some x → ¬ XN x w < 0) ?_ ?_ ?_) ?_
 ·exact ⟨0,l.length,rfl,Nat.zero_le _,Nat.le_refl _,fun m x h => by omega,fun m x h hx => by have := (List.getElem?_eq_some_iff.1 hx).1; omega⟩
 ·simp only; omega
 ·rintro _ ⟨i,j,rfl,g1,g2,g3,g4⟩
  show Ret (Ya l w (i : Int) (j : Int)) _
  unfold Ya
  rw [zg]
  refine ⟨fun hc => ?_,fun hc => ?_⟩
  ·have hij : i < j := by simpa using hc
   have hh : w64 (Int.tdiv (w64 ((i : Int) + (j : Int))) 2) = (((i + j) / 2 : Nat) : Int) := by
    rw [zm (x := (i : Int) + (j : Int)) (by omega) (by omega)]
    have : Int.tdiv ((i : Int) + (j : Int)) 2 = (((i + j) / 2 : Nat) : Int) := by
     rw [show ((i : Int) + (j : Int)) = ((i + j : Nat) : Int) by omega,Int.tdiv_eq_ediv_of_nonneg (by omega)]
     rfl
    rw [this,zm (by omega) (by omega)]
   rw [gdT (by omega),hh]
   have hm : (i + j) / 2 < l.length := by omega
   have hx : l[(i + j) / 2]? = some l[(i + j) / 2] := List.getElem?_eq_getElem hm
   rw [zC hx]
   simp only [Option.bind_some]
   rw [z6U _ _ (fun _ => hw _ (List.getElem_mem hm))]
   simp only [Option.bind_some]
   by_cases hc2 : XN l[(i + j) / 2] w < 0
   ·simp only [hc2,decide_true,cond_true]
    rw [zm (by omega) (by omega),z6]
    refine ⟨⟨(i + j) / 2 + 1,j,by simp,by omega,g2,fun m x h hmx => ?_,g4⟩,by simp only; omega⟩
    rcases Nat.lt_or_ge m ((i + j) / 2) with q | q
    ·have h1 := (List.pairwise_iff_getElem.1 hs) m ((i + j) / 2) (List.getElem?_eq_some_iff.1 hmx).1 hm q
     rw [(List.getElem?_eq_some_iff.1 hmx).2] at h1
     exact Xj h1 hc2
    ·rw [show m = (i + j) / 2 by omega,hx] at hmx
     cases hmx
     exact hc2
   ·simp only [hc2,decide_false,cond_false]
    rw [z6]
    refine ⟨⟨i,(i + j) / 2,rfl,by omega,by omega,g3,fun m x h hmx hlt => ?_⟩,by simp only; omega⟩
    rcases Nat.lt_or_ge ((i + j) / 2) m with q | q
    ·have h1 := (List.pairwise_iff_getElem.1 hs) ((i + j) / 2) m hm (List.getElem?_eq_some_iff.1 hmx).1 q
     rw [(List.getElem?_eq_some_iff.1 hmx).2] at h1
     exact hc2 (Xj h1 hlt)
    ·rw [show m = (i + j) / 2 by omega,hx] at hmx
     cases hmx
     exact hc2 hlt
  ·have hij : i = j := by
    have : ¬ i < j := by simpa using hc
    omega
   subst hij
   rw [z6]
   exact ⟨i,rfl,g2,g3,g4⟩
 ·rintro _ ⟨i,rfl,h1,h2,h3⟩
  have J2 : (∀ x,l[i]? = some x → x ≠ w) → Ret (jG l w (i : Int)) fun r => r = z4n w l := by
   intro hne
   have h4 : ∀ m x,i ≤ m → l[m]? = some x → XN w x < 0 := by
    intro m x hm hx
    have hil : i < l.length := by have := (List.getElem?_eq_some_iff.1 hx).1; omega
    have hxi : l[i]? = some l[i] := List.getElem?_eq_getElem hil
    have hlt : XN w l[i] < 0 := by
     rcases zbd.1 (h3 i _ (Nat.le_refl _) hxi) with q | q
     ·exact q
     ·exact absurd q (hne _ hxi)
    rcases Nat.lt_or_ge i m with q | q
    ·have h5 := (List.pairwise_iff_getElem.1 hs) i m hil (List.getElem?_eq_some_iff.1 hx).1 q
     rw [(List.getElem?_eq_some_iff.1 hx).2] at h5
     exact Xj hlt h5
    ·rw [show m = i by omega,hxi] at hx
     cases hx
     exact hlt
   unfold jG
   rw [gdT (by simp; omega),zh]
   have hlen : w64 ((((l ++ ([[]] : List (List Int))).length : Nat) : Int) - 1) = ((l.length : Nat) : Int) := by
    rw [List.length_append,List.length_singleton,zm (by omega) (by omega)]; omega
   rw [hlen]
   refine Ret.mono (zt (fun q : List (List Int) × Int => ∃ (j : Nat) (x : List Int),q = (l.take j ++ x :: l.drop j,(j : Int)) ∧ i ≤ j ∧ j ≤ l.length) (fun q => q.2.toNat) (R := fun t => ∃ x : List Int,t = l.take i ++ x :: l.drop i) ⟨l.length,[],by simp,h1,Nat.le_refl _⟩ (by simp only [Int.toNat_natCast]; omega) ?_) ?_
   ·rintro _ ⟨j,x,rfl,g1,g2⟩
    show Ret (Yb (i : Int) (l.take j ++ x :: l.drop j) (j : Int)) _
    unfold Yb
    rw [zg]
    refine ⟨fun hc => ?_,fun hc => ?_⟩
    ·have hij : i < j := by simpa using hc
     have hA : (l.take j).length = j := by rw [List.length_take]; omega
     have hy : (l.take j ++ x :: l.drop j)[j - 1]? = some l[j - 1] := by
      rw [List.getElem?_append_left (by omega),List.getElem?_take,if_pos (by omega)]; exact List.getElem?_eq_getElem (by omega)
     have hz : (l.take j ++ x :: l.drop j)[j]? = some x := by
      rw [List.getElem?_append_right (by omega),hA]; simp
     rw [zm (by omega) (by omega),show (j : Int) - 1 = ((j - 1 : Nat) : Int) by omega,zC hy,zC hz]
     simp only [Option.bind_some,z6,Int.toNat_natCast]
     refine ⟨⟨j - 1,l[j - 1],?_,by omega,by omega⟩,by simp only [Int.toNat_natCast]; omega⟩
     rw [List.set_append_right _ _ (by omega),hA,Nat.sub_self,List.set_cons_zero]
     have e1 : l.take j = l.take (j - 1) ++ [l[j - 1]] := by
      have := List.take_add_one (l := l) (i := j - 1)
      rw [show j - 1 + 1 = j by omega,List.getElem?_eq_getElem (by omega)] at this
      exact this
     have e2 : l.drop (j - 1) = l[j - 1] :: l.drop j := by
      rw [List.drop_eq_getElem_cons (by omega),show j - 1 + 1 = j by omega]
     rw [e2,e1,List.append_assoc]
     rfl
    ·have hij : j = i := by
      have : ¬ i < j := by simpa using hc
      omega
     subst hij
     rw [z6]
     exact ⟨x,rfl⟩
   ·rintro _ ⟨x,rfl⟩
    unfold W5
    have hA : (l.take i).length = i := by rw [List.length_take]; omega
    have hz : (l.take i ++ x :: l.drop i)[i]? = some x := by
     rw [List.getElem?_append_right (by omega),hA]; simp
    rw [gdT (by simpa using hww),zC hz]
    simp only [Option.bind_some,z6,Int.toNat_natCast]
    rw [List.set_append_right _ _ (by omega),hA,Nat.sub_self,List.set_cons_zero]
    exact zah hs h1 h2 h4
  unfold W6
  rw [zg]
  refine ⟨fun hc => ?_,fun hc => ?_⟩
  ·have hi : i < l.length := by simpa using hc
   have hx : l[i]? = some l[i] := List.getElem?_eq_getElem hi
   rw [zC hx]
   simp only [Option.bind_some]
   rw [z6U _ _ (fun _ => hw _ (List.getElem_mem hi))]
   simp only [Option.bind_some]
   by_cases he : l[i] = w
   ·have hb : (XN l[i] w == 0) = true := by rw [he,z3h]; rfl
    rw [hb,cond_true,z6]
    refine SW.unique hs hs.put fun x => ?_
    rw [JN]
    refine ⟨fun q => .inr q,fun q => ?_⟩
    rcases q with rfl | q
    ·exact he ▸ List.getElem_mem hi
    ·exact q
   ·have hb : (XN l[i] w == 0) = false := by simp; exact fun q => he (z7Q q)
    rw [hb,cond_false]
    exact J2 fun x hx2 => by rw [hx] at hx2; cases hx2; exact he
  ·have hi : ¬ i < l.length := by simpa using hc
   exact J2 fun x hx2 => by have := (List.getElem?_eq_some_iff.1 hx2).1; omega
theorem z8p (hl : l.length ≤ 1000000) (hw : ∀ x ∈ l,x.length ≤ 4294967296) : Xb l = some (srt l) := by
 unfold Xb
 have h := xG (step := fun s => wv l s.1 s.2) (fun i => (srt (l.take i),(i : Int))) l.length (t := srt l) (by omega) (by
  intro i hi
  show wv l _ (i : Int) = _
  unfold wv
  have hq : decide ((i : Int) < (l.length : Int)) = true := by simpa using hi
  have hx : l[i]? = some l[i] := List.getElem?_eq_getElem hi
  simp only [hq,cond_true,zC hx,Option.bind_some]
  have hlen : (srt (l.take i)).length ≤ 1000000 := by have := z7j (l.take i); rw [List.length_take] at this; omega
  rw [zhx (z9P _) hlen (fun x hx => by have := hw x (List.mem_of_mem_take (z7D.1 hx)); omega) (hw _ (List.getElem_mem hi))]
  simp only [Option.bind_some]
  rw [zm (by omega) (by omega),← zcp,List.take_add_one,hx]
  rfl) (by
  show wv l _ (l.length : Int) = _
  unfold wv
  simp)
 have h0 : (srt (l.take 0),((0 : Nat) : Int)) = (([] : List (List Int)),(0 : Int)) := by simp [srt]
 rw [h0] at h
 rw [bdT h]
 rfl
theorem z9L {m : Nat} {L : Nat} (hl : l.length ≤ L) (h : ∀ w ∈ l,w.length ≤ m) : z3Z l ≤ L * m := Nat.le_trans (z9M h) (Nat.mul_le_mul_right _ hl)
def Wq (n : Int) (L k : Nat) (l : List (List Int)) : Prop := SW l ∧ l.length ≤ L ∧ ∀ w ∈ l,w.length ≤ k ∧ ∀ c ∈ w,0 ≤ c ∧ c < n
theorem Wq.ch {L k : Nat}  (h : Wq n L k l) (hn : 1 ≤ n ∧ n ≤ 16) (hL : L ≤ 4096) (hk : k ≤ 256) (hLk : L * k ≤ 65536) : chE n l = 0 := by
 obtain ⟨h1,h2,h3⟩ := h
 refine zdD.2 ⟨z8x.2 ⟨hn,by omega,fun w hw => ⟨by have := (h3 w hw).1; omega,(h3 w hw).2⟩⟩,h1,?_⟩
 exact Nat.le_trans (z9L h2 fun w hw => (h3 w hw).1) hLk
theorem Wq.take {L k : Nat}  (h : Wq n L k l) (m : Nat) : Wq n m k (l.take m) :=
 ⟨h.1.sub (List.take_sublist _ _),by rw [List.length_take]; omega,fun w hw => h.2.2 w (List.mem_of_mem_take hw)⟩
variable {x : yf}
theorem zdS {x : yf} (h : 0 ≤ x.Inputs ∧ x.Inputs ≤ 255) : ∃ n : Int,xo x = some n ∧ 1 ≤ n ∧ n ≤ 3 := by
 unfold xo
 rw [gdT (by omega)]
 have e : Int.tmod x.Inputs 3 = x.Inputs % 3 := Int.tmod_eq_emod_of_nonneg h.1
 refine ⟨_,rfl,?_,?_⟩
 ·rw [e,zm (x := x.Inputs % 3) (by omega) (by omega),zm (by omega) (by omega)]; omega
 ·rw [e,zm (x := x.Inputs % 3) (by omega) (by omega),zm (by omega) (by omega)]; omega
theorem zcP {x : yf}  (hn : xo x = some n) (h1 : 1 ≤ n ∧ n ≤ 3) (hw : ∀ w ∈ x.Words,∀ c ∈ w,0 ≤ c ∧ c ≤ 255)  (hi : i < x.Words.length) :
  Ret (loop (fun s => vJ x (i : Int) s.1 s.2) (([] : List Int),0)) fun w => w.length ≤ 12 ∧ ∀ c ∈ w,0 ≤ c ∧ c < n := by
 refine zt (fun q => ∃ k : Nat,q.2 = (k : Int) ∧ q.1.length = k ∧ k ≤ 12 ∧ ∀ c ∈ q.1,0 ≤ c ∧ c < n) (fun q => 12 - q.2.toNat) ⟨0,rfl,rfl,by omega,by simp⟩ (by show 12 - _ < _; omega) ?_
 rintro ⟨w,_⟩ ⟨k,rfl,g1,g2,g3⟩
 simp only at g1 g3
 show Ret (vJ x (i : Int) w (k : Int)) _
 unfold vJ
 have hx : x.Words[i]? = some x.Words[i] := List.getElem?_eq_getElem hi
 rw [zC hx,Option.bind_some,zg]
 have fin : w.length ≤ 12 ∧ ∀ c ∈ w,0 ≤ c ∧ c < n := ⟨by omega,g3⟩
 refine ⟨fun hc => ?_,fun hc => z6.2 fin⟩
 rw [zg]
 refine ⟨fun hc2 => ?_,fun hc2 => z6.2 fin⟩
 have hk : k < x.Words[i].length := by simpa using hc
 have hk2 : k < 12 := by simp only [decide_eq_true_eq] at hc2; omega
 have hy : (x.Words[i])[k]? = some (x.Words[i])[k] := List.getElem?_eq_getElem hk
 obtain ⟨b1,b2⟩ := hw _ (List.getElem_mem hi) _ (List.getElem_mem hk)
 rw [Option.bind_some,zC hy,Option.bind_some,hn,Option.bind_some,gdT (by omega),gdT (by simp; omega),zm (x := (k : Int) + 1) (by omega) (by omega),z6]
 refine ⟨⟨k + 1,rfl,by simp [g1],by omega,fun c hc => ?_⟩,by simp only; omega⟩
 rcases List.mem_append.1 hc with q | q
 ·exact g3 c q
 ·simp at q
  subst q
  rw [zm (by omega) (by omega),Int.tmod_eq_emod_of_nonneg b1]
  exact ⟨Int.emod_nonneg _ (by omega),Int.emod_lt_of_pos _ (by omega)⟩
theorem zfN (hn : xo x = some n) (h1 : 1 ≤ n ∧ n ≤ 3) (hw : ∀ w ∈ x.Words,∀ c ∈ w,0 ≤ c ∧ c ≤ 255) : Ret (V2 x) (Wq n 40 12) := by
 have hraw : Ret (XG x) fun r => r.length ≤ 40 ∧ ∀ w ∈ r,w.length ≤ 12 ∧ ∀ c ∈ w,0 ≤ c ∧ c < n := by
  unfold XG
  rw [zh]
  refine Ret.mono (zt (fun q => ∃ k : Nat,q.2 = (k : Int) ∧ q.1.length = k ∧ k ≤ 40 ∧ ∀ w ∈ q.1,w.length ≤ 12 ∧ ∀ c ∈ w,0 ≤ c ∧ c < n) (fun q => 40 - q.2.toNat) (R := fun r : List (List Int) => r.length ≤ 40 ∧ ∀ w ∈ r,w.length ≤ 12 ∧ ∀ c ∈ w,0 ≤ c ∧ c < n) ⟨0,rfl,rfl,by omega,by simp⟩ (by show 40 - _ < _; omega) ?_) fun r hr => z6.2 hr
  rintro ⟨out,_⟩ ⟨k,rfl,g1,g2,g3⟩
  simp only at g1 g3
  show Ret (qB x out (k : Int)) _
  unfold qB
  have fin : out.length ≤ 40 ∧ ∀ w ∈ out,w.length ≤ 12 ∧ ∀ c ∈ w,0 ≤ c ∧ c < n := ⟨by omega,g3⟩
  rw [zg]
  refine ⟨fun hc => ?_,fun hc => z6.2 fin⟩
  rw [zg]
  refine ⟨fun hc2 => ?_,fun hc2 => z6.2 fin⟩
  have hk : k < x.Words.length := by simpa using hc
  have hk2 : k < 40 := by simp only [decide_eq_true_eq] at hc2; omega
  rw [zh]
  refine (zcP hn h1 hw hk).mono fun w hww => ?_
  unfold ZZ Y0
  rw [gdT (by simp; omega),zm (by omega) (by omega),z6]
  refine ⟨⟨k + 1,rfl,by simp [g1],by omega,fun v hv => ?_⟩,by simp only; omega⟩
  rcases List.mem_append.1 hv with q | q
  ·exact g3 v q
  ·simp at q
   subst q
   exact hww
 unfold V2
 rw [zh]
 refine hraw.mono fun r hr => ?_
 rw [z8p (by omega) (fun w hw => by have := (hr.2 w hw).1; omega),Option.bind_some,z6]
 exact ⟨z9P _,Nat.le_trans (z7j _) hr.1,fun w hw => hr.2 w (z7D.1 hw)⟩
theorem zbR (h : i < 9223372036854775807) : w64 ((i : Int) + 1) = ((i + 1 : Nat) : Int) := by rw [zm (by omega) (by omega)]; rfl
def un (x : List Bool) : Nat := x.countP fun b => !b
theorem zgJ {x : List Bool} {s : Nat} (h : x[s]? = some false) : un (x.set s true) < un x := by
 induction x generalizing s with
 | nil => simp at h
 | cons b x ih =>
  cases s with
  | zero => simp at h; subst h; simp [un]
  | succ s =>
   have := ih (s := s) (by simpa using h)
   unfold un at *
   rw [List.set_cons_succ,List.countP_cons,List.countP_cons]
   omega
theorem zgK : ∀ {x y : List Bool},y.length = x.length → (∀ t : Nat,x[t]? = some true → y[t]? = some true) → un y ≤ un x
 | [],[],_,_ => Nat.le_refl _
 | a :: x,b :: y,hl,h => by
  have ih := zgK (x := x) (y := y) (by simpa using hl) fun t ht => by simpa using h (t + 1) (by simpa using ht)
  have h0 := h 0
  unfold un at *
  rw [List.countP_cons,List.countP_cons]
  cases a <;> cases b <;> simp at h0 ⊢ <;> omega
 | [],_ :: _,hl,_ => by simp at hl
 | _ :: _,[],hl,_ => by simp at hl
structure Dfs (m : z4) (P : Nat → Prop) (x y : List Bool) : Prop where
 len : y.length = x.length
 mono : ∀ t : Nat,x[t]? = some true → y[t]? = some true
 new : ∀ t : Nat,y[t]? = some true → x[t]? = some true ∨ P t ∧ ∀ i,i < kk m → 0 ≤ (E m t i).To → y[(E m t i).To.toNat]? = some true
variable {P : Nat → Prop}
theorem Dfs.refl (x : List Bool) : Dfs m P x x := ⟨rfl,fun _ h => h,fun _ h => .inl h⟩
theorem Dfs.trans {x y z : List Bool} (h : Dfs m P x y) (k : Dfs m P y z) : Dfs m P x z := {
 len := k.len.trans h.len
 mono := fun t q => k.mono t (h.mono t q)
 new := fun t q => by
  rcases k.new t q with g | g
  ·rcases h.new t g with r | ⟨r1,r2⟩
   ·exact .inl r
   ·exact .inr ⟨r1,fun i hi h0 => k.mono _ (r2 i hi h0)⟩
  ·exact .inr g }
section
variable {m : z4} (h : VM m)
include h
theorem zb5 (hP : ∀ t i,P t → t < m.Rows.length → i < kk m → 0 ≤ (E m t i).To → P (E m t i).To.toNat) : ∀ (fu : Nat) (x : List Bool),x.length = m.Rows.length → un x < fu → ∀ s : Int,z1o m s → (0 ≤ s → P s.toNat) →
  ∃ y,zK fu s x m = some (y,m) ∧ Dfs m P x y ∧ (0 ≤ s → y[s.toNat]? = some true)
 | 0,x,_,hu,_,_,_ => by omega
 | fu + 1,x,hx,hu,s,hs,hPs => by
  have hk := h.kk_le
  show ∃ y,yQ (zK fu) s x m = some (y,m) ∧ _
  unfold yQ
  by_cases h1 : s = -1
  ·have : (s == -1) = true := by simpa using h1
   rw [this,cond_true]
   exact ⟨x,rfl,Dfs.refl x,fun q => by omega⟩
  ·have e1 : (s == -1) = false := by simpa using h1
   obtain ⟨n,rfl⟩ : ∃ n : Nat,s = n := ⟨s.toNat,by have := hs.1; omega⟩
   have hn : n < m.Rows.length := by have := hs.2; omega
   have hxn : x[n]? = some x[n] := List.getElem?_eq_getElem (by omega)
   rw [e1,cond_false,zC hxn,Option.bind_some]
   by_cases hb : x[n] = true
   ·rw [hb,cond_true]
    exact ⟨x,rfl,Dfs.refl x,fun _ => by simp only [Int.toNat_natCast]; rw [hxn,hb]⟩
   ·have hb : x[n] = false := by simpa using hb
    have ⟨r,hr,hrl,hre⟩ := h.rowAt hn
    rw [hb,cond_false,Option.bind_some,zC hr,Option.bind_some]
    simp only [Int.toNat_natCast]
    rw [hb] at hxn
    have hu1 := zgJ hxn
    have hxl : (x.set n true).length = m.Rows.length := by simpa using hx
    have run : Ret (loop (fun s => yb (zK fu) r s.1 s.2.1 s.2.2.1 s.2.2.2.1 s.2.2.2.2) (x.set n true,m.Inputs,m.Outputs,m.Rows,0)) fun q => q.2 = m ∧ Dfs m P (x.set n true) q.1 ∧ ∀ j,j < kk m → 0 ≤ (E m n j).To → q.1[(E m n j).To.toNat]? = some true := by
     refine zt (fun q => ∃ i : Nat,q.2 = (m.Inputs,m.Outputs,m.Rows,(i : Int)) ∧ i ≤ kk m ∧ Dfs m P (x.set n true) q.1 ∧ ∀ j,j < i → 0 ≤ (E m n j).To → q.1[(E m n j).To.toNat]? = some true) (fun q => 100 - q.2.2.2.2.toNat) ⟨0,rfl,Nat.zero_le _,Dfs.refl _,fun j hj => by omega⟩ (by show 100 - _ < _; omega) ?_
     rintro ⟨q,_⟩ ⟨i,rfl,hi,hd,hall⟩
     simp only at hd hall
     show Ret (yb (zK fu) r q m.Inputs m.Outputs m.Rows (i : Int)) _
     unfold yb
     rw [zg]
     refine ⟨fun hc => ?_,fun hc => ?_⟩
     ·have hlt : i < kk m := by simp at hc; omega
      rw [zC (hre i hlt),Option.bind_some]
      have hst : z1o m (E m n i).To := by
       rcases h.edgeAt hn hlt with ⟨g,_⟩ | ⟨g1,g2,_⟩
       ·exact ⟨by omega,by have := h.len1; omega⟩
       ·exact ⟨by omega,g2⟩
      have hPn : P n := by simpa using hPs (by omega)
      have ⟨y,y1,y2,y3⟩ := zb5 hP fu q (by rw [hd.len]; exact hxl) (by have := zgK hd.len hd.mono; omega) (E m n i).To hst (fun h0 => hP n i hPn hn hlt h0)
      have y1' : zK fu (E m n i).To q (z4.mk m.Inputs m.Outputs m.Rows) = some (y,m) := y1
      rw [y1',Option.bind_some,z6,zbR (by omega)]
      refine ⟨⟨i + 1,rfl,hlt,hd.trans y2,fun j hj h0 => ?_⟩,by simp only; omega⟩
      by_cases e : j = i
      ·subst e; exact y3 h0
      ·exact y2.mono _ (hall j (by omega) h0)
     ·have : i = kk m := by simp at hc; omega
      subst this
      rw [z6]
      exact ⟨rfl,hd,hall⟩
    have ⟨⟨y,m'⟩,e,hm,hd,hall⟩ := run
    simp only at hm hd hall
    subst hm
    rw [e]
    refine ⟨y,rfl,?_,fun _ => hd.mono _ ((z0U (by omega)).2 (.inl rfl))⟩
    refine ⟨by rw [hd.len]; simp,fun t ht => hd.mono t ((z0U (by omega)).2 (.inr ht)),fun t ht => ?_⟩
    rcases hd.new t ht with g | g
    ·rcases (z0U (by omega)).1 g with rfl | g
     ·exact .inr ⟨by simpa using hPs (by omega),hall⟩
     ·exact .inl g
    ·exact .inr g
omit h in
theorem z42 (l : List Bool) (hl : l.length < 4611686018427387904) : yl l false = some (!(l.all id)) := by
 unfold yl wb
 have hfs : ∀ (l : List Bool) (k : Nat),(yu (fun i x => if x = true then none else some ((i : Nat) : Int)) l k = none ∧ l.all id = true) ∨ ∃ i : Nat,yu (fun i x => if x = true then none else some ((i : Nat) : Int)) l k = some (i : Int) ∧ l.all id = false := by
  intro l
  induction l with
  | nil => intro k; exact .inl ⟨rfl,rfl⟩
  | cons x l ih =>
   intro k
   simp only [yu,List.all_cons]
   cases x with
   | true => simpa using ih (k + 1)
   | false => exact .inr ⟨k,by simp,by simp⟩
 rw [bdT (qA l hl (step := fun s => zX l false s) (fun i x => if x = true then none else some ((i : Nat) : Int)) ?_ ?_)]
 ·rcases hfs l 0 with ⟨h1,h2⟩ | ⟨i,h1,h2⟩
  ·rw [h1,h2]; rfl
  ·rw [h1,h2]; simp [oS]
 ·intro i x hx
  have hi := (List.getElem?_eq_some_iff.1 hx).1
  unfold zX
  rw [decide_eq_true (by omega),cond_true,zC hx,Option.bind_some]
  cases x <;> rfl
 ·unfold zX
  rw [decide_eq_false (by omega),cond_false]
theorem z5o : Ret (wz m) fun r => r.2 = 0 ∧ (r.1 = true ↔ ∀ t,t < m.Rows.length → Rch m t) := by
 have l1 := h.len1
 have l64 := h.len64
 unfold wz
 rw [z2j,z8R h,Option.bind_some,bne_self_eq_false,cond_false,gdT (by omega)]
 have e0 : ((m.Rows.length : Nat) : Int).toNat = m.Rows.length := by simp
 rw [e0]
 have hun : un (List.replicate m.Rows.length false) < WJ := by
  have : un (List.replicate m.Rows.length false) ≤ (List.replicate m.Rows.length false).length := List.countP_le_length
  rw [List.length_replicate] at this
  show _ < 18446744073709551616
  omega
 have hP : ∀ t i,Rch m t → t < m.Rows.length → i < kk m → 0 ≤ (E m t i).To → Rch m (E m t i).To.toNat := fun t i ht _ hi h0 => rch_step ht hi h0
 have ⟨y,y1,y2,y3⟩ := zb5 h hP WJ (List.replicate m.Rows.length false) (by simp) hun 0 ⟨by omega,by omega⟩ (fun _ => ⟨[],by simp [Wd],rfl⟩)
 have hyl : y.length = m.Rows.length := by rw [y2.len]; simp
 have no : ∀ t : Nat,(List.replicate m.Rows.length false)[t]? ≠ some true := fun t q => by
  rw [List.getElem?_replicate] at q
  split at q <;> cases q
 rw [y1,Option.bind_some,z42 y (by omega),Option.bind_some,z6]
 refine ⟨rfl,?_⟩
 rw [Bool.not_not,List.all_eq_true]
 have clo : ∀ (u : List Nat) (t : Nat),Wd (kk m) u → aft m 0 u = (t : Int) → y[t]? = some true := by
  intro u
  generalize hlen : u.length = n
  induction n generalizing u with
  | zero =>
   intro t _ e
   rw [List.length_eq_zero_iff.1 hlen] at e
   have : t = 0 := by have : (0 : Int) = t := e; omega
   subst this
   exact y3 (by omega)
  | succ n ih =>
   intro t hu e
   have hne : u ≠ [] := by intro q; rw [q] at hlen; simp at hlen
   have hsplit := List.dropLast_concat_getLast hne
   have hu' : Wd (kk m) u.dropLast := fun i hi => hu i (List.dropLast_subset _ hi)
   have hi : u.getLast hne < kk m := hu _ (List.getLast_mem hne)
   have h2 := (JK m u.dropLast 0 (u.getLast hne)).2
   rw [hsplit,e] at h2
   have hin := z6Z h u.dropLast 0 ⟨by omega,by omega⟩ hu'
   by_cases hneg : aft m 0 u.dropLast < 0
   ·exfalso
    unfold nxE at h2
    rw [if_pos hneg] at h2
    simp at h2
   ·obtain ⟨s,hs⟩ : ∃ s : Nat,aft m 0 u.dropLast = s := ⟨(aft m 0 u.dropLast).toNat,by omega⟩
    have hy := ih u.dropLast (by simp [hlen]) s hu' hs
    rw [hs,j0] at h2
    rcases y2.new s hy with g | ⟨_,g⟩
    ·exact absurd g (no s)
    ·have := g _ hi (by omega)
     rw [← h2] at this
     simpa using this
 constructor
 ·intro q t ht
  have hx : y[t]? = some y[t] := List.getElem?_eq_getElem (by omega)
  have := q _ (List.mem_of_getElem? hx)
  rw [show y[t] = true from this] at hx
  rcases y2.new t hx with g | ⟨g,_⟩
  ·exact absurd g (no t)
  ·exact g
 ·intro q b hb
  have ⟨t,ht⟩ := List.mem_iff_getElem?.1 hb
  have htl := (List.getElem?_eq_some_iff.1 ht).1
  have ⟨u,hu,e⟩ := q t (by omega)
  have := clo u t hu e
  rw [ht] at this
  cases this
  rfl
end
theorem zef : ∀ (N : Nat) (l : List Nat),l.Nodup → (∀ t ∈ l,t < N) → l.length ≤ N
 | 0,l,_,h => by
  cases l with
  | nil => exact Nat.le_refl _
  | cons x l => have := h x (by simp); omega
 | N + 1,l,hn,h => by
  have ih := zef N (l.erase N) (hn.erase N) fun t ht => by
   have h1 := h t (List.mem_of_mem_erase ht)
   have h2 : t ≠ N := fun e => by subst e; exact absurd ht (hn.not_mem_erase)
   omega
  by_cases hm : N ∈ l
  ·rw [List.length_erase_of_mem hm] at ih; omega
  ·rw [List.erase_of_not_mem hm] at ih; omega
def Cpl (m : z4) : Prop := ∀ s i,s < m.Rows.length → i < kk m → 0 ≤ (E m s i).To
def zi6 (m : z4) : Prop := ∀ t,t < m.Rows.length → Rch m t
def zic (m : z4) : Prop := ∀ s t,s < m.Rows.length → t < m.Rows.length → SEq m s t → s = t
def PE (m : z4) (e : Int) : Prop := (e = 9 ∧ ¬ Cpl m) ∨ (e = 11 ∧ Cpl m ∧ ¬ zi6 m) ∨ (e = 12 ∧ Cpl m ∧ zi6 m ∧ ¬ zic m) ∨ (e = 0 ∧ Cpl m ∧ zi6 m ∧ zic m)
theorem PE.uniq {e f : Int} (h : PE m e) (g : PE m f) : e = f := by
 rcases h with ⟨rfl,a⟩ | ⟨rfl,a,b⟩ | ⟨rfl,a,b,c⟩ | ⟨rfl,a,b,c⟩ <;> rcases g with ⟨rfl,x⟩ | ⟨rfl,x,y⟩ | ⟨rfl,x,y,z⟩ | ⟨rfl,x,y,z⟩ <;> first | rfl | exact absurd x a | exact absurd a x | exact absurd y b | exact absurd b y | exact absurd z c | exact absurd c z
section
variable {m : z4} (h : VM m)
include h
theorem zdv (hs : s < m.Rows.length) {r : List z5} (r2 : r.length = kk m) (r3 : ∀ i,i < kk m → r[i]? = some (E m s i)) {out0 : List (ye Int)} (hl : out0.length ≤ s * 16) :
  Ret (loop (fun st => yS (yOf fun s x => zQ s x.1 x.2) (s : Int) r st.1 st.2) ((.next out0 : LR (List (ye Int)) Empty),0)) fun y => ∃ out,y = .inl (.next out) ∧ out.length ≤ (s + 1) * 16 ∧ (out = [] ↔ out0 = [] ∧ ∀ i,i < kk m → 0 ≤ (E m s i).To) := by
 have hk := h.kk_le
 have hN := h.len64
 refine zt (fun st => ∃ (i : Nat) (out : List (ye Int)),st.2 = (i : Int) ∧ i ≤ kk m ∧ st.1 = .next out ∧ out.length ≤ s * 16 + i ∧ (out = [] ↔ out0 = [] ∧ ∀ j,j < i → 0 ≤ (E m s j).To)) (fun st => 20 - st.2.toNat) ⟨0,out0,rfl,by omega,rfl,by omega,by simp⟩ (by show 20 - _ < _; omega) ?_
 rintro ⟨_,_⟩ ⟨i,out,rfl,hi,rfl,ho,he⟩
 show Ret (yS (yOf fun s x => zQ s x.1 x.2) (s : Int) r (.next out) (i : Int)) _
 unfold yS
 rw [zg]
 refine ⟨fun hc => ?_,fun hc => ?_⟩
 ·have hc : (i : Int) < ((r.length : Nat) : Int) := of_decide_eq_true hc
  have hik : i < kk m := by omega
  have w2 : w64 ((i : Int) + 1) = ((i + 1 : Nat) : Int) := by rw [zm (by omega) (by omega)]; rfl
  have hed := h.edgeAt hs hik
  rw [bdT (zC (r3 i hik))]
  unfold yOf zQ uS
  simp only [Option.bind_some]
  by_cases ht : (E m s i).To = -1
  ·have ho1 : (E m s i).Out = -1 := by omega
   rw [ht,ho1]
   simp only [beq_self_eq_true,Bool.and_self,cond_true]
   rw [gdT (by simp; omega)]
   simp only [Option.bind_some,Bool.not_true,cond_false]
   rw [z6,w2]
   refine ⟨⟨i + 1,_,rfl,by omega,rfl,by simp; omega,?_⟩,by simp only [Int.toNat_natCast]; omega⟩
   constructor
   ·intro q; simp at q
   ·rintro ⟨_,q⟩
    have := q i (by omega)
    omega
  ·have e1 : ((E m s i).To == -1) = false := by simpa using ht
   rw [e1,Bool.false_and,cond_false]
   simp only [Option.bind_some,Bool.not_true,cond_false]
   rw [z6,w2]
   refine ⟨⟨i + 1,out,rfl,by omega,rfl,by omega,he.trans ?_⟩,by simp only [Int.toNat_natCast]; omega⟩
   constructor
   ·rintro ⟨a,b⟩
    refine ⟨a,fun j hj => ?_⟩
    by_cases e : j = i
    ·subst e; omega
    ·exact b j (by omega)
   ·rintro ⟨a,b⟩; exact ⟨a,fun j hj => b j (by omega)⟩
 ·have hc := of_decide_eq_false hc
  have : i = kk m := by omega
  subst this
  exact z6.2 ⟨out,rfl,by omega,he⟩
theorem z6T : Ret (wV m) fun r => r.2 = 0 ∧ (r.1 = true ↔ Cpl m) := by
 have hk := h.kk_le
 have hN := h.len64
 unfold wV vX ZY
 rw [z2j,z8R h,Option.bind_some,bne_self_eq_false,cond_false,Option.bind_some]
 unfold vC
 rw [zh,zh,zh]
 refine (zt (R := fun y : LR (List (ye Int)) Empty => ∃ out,y = .next out ∧ out.length ≤ 2000 ∧ (out = [] ↔ Cpl m)) (fun st : LR (List (ye Int)) Empty × Int => ∃ (s : Nat) (out : List (ye Int)),st.2 = (s : Int) ∧ s ≤ m.Rows.length ∧ st.1 = .next out ∧ out.length ≤ s * 16 ∧ (out = [] ↔ ∀ t j,t < s → j < kk m → 0 ≤ (E m t j).To)) (fun st => 100 - st.2.toNat) ⟨0,[],rfl,by omega,rfl,by simp,by simp⟩ (by show 100 - _ < _; omega) ?_).mono ?_
 ·rintro ⟨_,_⟩ ⟨s,out,rfl,hs,rfl,ho,he⟩
  show Ret (xZ m (yOf fun s x => zQ s x.1 x.2) (.next out) (s : Int)) _
  unfold xZ
  rw [zg]
  refine ⟨fun hc => ?_,fun hc => ?_⟩
  ·have hc : (s : Int) < ((m.Rows.length : Nat) : Int) := of_decide_eq_true hc
   have hsN : s < m.Rows.length := by omega
   have ⟨r,r1,r2,r3⟩ := h.rowAt hsN
   rw [bdT (zC r1),zh]
   refine (zdv h hsN r2 r3 ho).mono ?_
   rintro y ⟨out',rfl,g1,g2⟩
   simp only
   unfold vg
   rw [z6,zm (x := (s : Int) + 1) (by omega) (by omega)]
   refine ⟨⟨s + 1,out',rfl,by omega,rfl,g1,g2.trans ?_⟩,by simp only; omega⟩
   rw [he]
   constructor
   ·rintro ⟨a,b⟩ t j ht hj
    by_cases e : t = s
    ·subst e; exact b j hj
    ·exact a t j (by omega) hj
   ·intro a
    exact ⟨fun t j ht hj => a t j (by omega) hj,fun j hj => a s j (by omega) hj⟩
  ·have hc := of_decide_eq_false hc
   have : s = m.Rows.length := by omega
   subst this
   exact z6.2 ⟨out,rfl,by omega,he⟩
 ·rintro y ⟨out,rfl,g1,g2⟩
  rw [z6]
  simp only
  unfold wy xC
  rw [gdT (by omega),Option.bind_some,z6,z6]
  refine ⟨rfl,?_⟩
  rw [← g2]
  cases out with
  | nil => simp
  | cons a l => simp; omega
omit h in
theorem zfK {l : List Int} (h0 : 0 < l.length) (hl : l.length ≤ 100000) : Ret (wp l) fun x => x ∈ l ∧ ∀ y ∈ l,y ≤ x := by
 unfold wp wo
 have e0 : l[0]? = some l[0] := List.getElem?_eq_getElem h0
 rw [decide_eq_false (by omega),cond_false,bdT (show idx l 0 = some l[0] from e0),zh]
 refine Ret.mono ?_ fun x hx => z6.2 hx
 refine zt (fun st => ∃ i : Nat,st.2 = (i : Int) ∧ 1 ≤ i ∧ i ≤ l.length ∧ st.1 ∈ l ∧ ∀ j y,j < i → l[j]? = some y → y ≤ st.1) (fun st => 100000 - st.2.toNat) ⟨1,rfl,by omega,by omega,List.getElem_mem _,fun j y hj hy => by
  have : j = 0 := by omega
  subst this
  rw [e0] at hy
  cases hy
  exact Int.le_refl _⟩ (by show 100000 - _ < _; omega) ?_
 rintro ⟨x,_⟩ ⟨i,rfl,i1,i2,hx,hm⟩
 simp only at hx hm
 show Ret (xa l x (i : Int)) _
 unfold xa
 rw [zg]
 refine ⟨fun hc => ?_,fun hc => ?_⟩
 ·have hc : (i : Int) < ((l.length : Nat) : Int) := of_decide_eq_true hc
  have hy : l[i]? = some l[i] := List.getElem?_eq_getElem (by omega)
  rw [bdT (zC hy),z6,zm (x := (i : Int) + 1) (by omega) (by omega)]
  refine ⟨⟨i + 1,rfl,by omega,by omega,?_,fun j y hj hjy => ?_⟩,by simp only; omega⟩
  ·show mx x l[i] ∈ l
   unfold mx
   split
   ·exact List.getElem_mem _
   ·exact hx
  ·show y ≤ mx x l[i]
   unfold mx
   by_cases e : j = i
   ·subst e
    rw [hy] at hjy
    cases hjy
    split <;> omega
   ·have := hm j y (by omega) hjy
    split <;> omega
 ·have hc := of_decide_eq_false hc
  refine z6.2 ⟨hx,fun y hy => ?_⟩
  have ⟨j,hj⟩ := List.mem_iff_getElem?.1 hy
  exact hm j y (by have := (List.getElem?_eq_some_iff.1 hj).1; omega) hj
omit h in
theorem zfs (hr : Rgf p) (h0 : 0 < p.length) {x : Int} (hx : x ∈ p) (hm : ∀ y ∈ p,y ≤ x) : x = (p.length : Int) - 1 ↔ ∀ s t : Nat,s < p.length → t < p.length → p[s]? = p[t]? → s = t := by
 constructor
 ·intro e
  have ⟨s0,hs0⟩ := List.mem_iff_getElem?.1 hx
  have ⟨v,v1,v2⟩ := hr s0 x hs0
  have hs0l := (List.getElem?_eq_some_iff.1 hs0).1
  have place : ∀ w : Nat,w < p.length → ∃ s,s < p.length ∧ p[s]? = some (w : Int) := by
   intro w hw
   by_cases q : w = v
   ·subst q; exact ⟨s0,hs0l,by rw [hs0,v1]⟩
   ·have ⟨t,t1,t2⟩ := v2 w (by omega)
    exact ⟨t,by omega,t2⟩
  intro s t hs ht hst
  refine Classical.byContradiction fun hne => ?_
  have : ∃ g : Nat → Nat,∀ w,w < p.length → g w < p.length ∧ p[g w]? = some (w : Int) := by
   classical
   exact ⟨fun w => if q : w < p.length then (place w q).choose else 0,fun w hw => by simp [hw]; exact (place w hw).choose_spec⟩
  have ⟨g,hg⟩ := this
  have : ∃ u,u < p.length ∧ ∀ w,w < p.length → g w ≠ u := by
   refine Classical.byContradiction fun q => ?_
   have q : ∀ u,u < p.length → ∃ w,w < p.length ∧ g w = u := fun u hu => Classical.byContradiction fun q2 => q ⟨u,hu,fun w hw e => q2 ⟨w,hw,e⟩⟩
   obtain ⟨a,a1,rfl⟩ := q s hs
   obtain ⟨b,b1,rfl⟩ := q t ht
   rw [(hg a a1).2,(hg b b1).2] at hst
   have : a = b := by have := Option.some.inj hst; omega
   exact hne (by rw [this])
  have ⟨u,hu,hgu⟩ := this
  have hnd : (u :: (List.range p.length).map g).Nodup := by
   rw [List.nodup_cons]
   refine ⟨fun q => ?_,?_⟩
   ·have ⟨w,hw,e⟩ := List.mem_map.1 q
    exact hgu w (List.mem_range.1 hw) e
   ·rw [List.Nodup,List.pairwise_map]
    refine List.Pairwise.imp_of_mem (fun {a b} ha hb hab => ?_) List.nodup_range
    intro e
    have ha := hg a (List.mem_range.1 ha)
    have hb := hg b (List.mem_range.1 hb)
    rw [e,hb.2] at ha
    have := Option.some.inj ha.2
    omega
  have := zef p.length _ hnd (fun w hw => by
   rcases List.mem_cons.1 hw with rfl | q
   ·exact hu
   ·obtain ⟨z,hz,rfl⟩ := List.mem_map.1 q
    exact (hg z (List.mem_range.1 hz)).1)
  simp at this
  omega
 ·intro q
  have e : p = (List.range p.length).map Int.ofNat := by
   refine z8j hr (fun s y hy => ?_) (by simp) fun s t hs ht => ?_
   ·have hs : s < p.length := by have := (List.getElem?_eq_some_iff.1 hy).1; simpa using this
    simp [hs] at hy
    refine ⟨s,hy.symm,fun w hw => ⟨w,hw,by simp [show w < p.length by omega]⟩⟩
   ·constructor
    ·intro g; rw [q s t hs ht g]
    ·intro g
     simp [hs,ht] at g
     have : s = t := by omega
     rw [this]
  have hin : ((p.length - 1 : Nat) : Int) ∈ (List.range p.length).map Int.ofNat := List.mem_map.2 ⟨p.length - 1,List.mem_range.2 (by omega),rfl⟩
  rw [← e] at hin
  have h1 := hm _ hin
  rw [e] at hx
  obtain ⟨w,hw,rfl⟩ := List.mem_map.1 hx
  have := List.mem_range.1 hw
  have : Int.ofNat w = (w : Int) := rfl
  omega
theorem z9h : Ret (wh m) (PE m) := by
 have hN := h.len64
 have hN1 := h.len1
 unfold wh Za uR uQ uP ve
 rw [z2j,z8R h,Option.bind_some,bne_self_eq_false,cond_false,Option.bind_some,zh,zh]
 refine (z6T h).mono ?_
 rintro ⟨b1,_⟩ ⟨_,hb1⟩
 rw [z6]
 simp only at hb1 ⊢
 cases b1 with
 | false => exact z6.2 (.inl ⟨rfl,fun q => by have := hb1.2 q; cases this⟩)
 | true =>
  have hc := hb1.1 rfl
  simp [Bool.not_true,cond_false]
  rw [zh,zh]
  refine (z5o h).mono ?_
  rintro ⟨b2,_⟩ ⟨_,hb2⟩
  rw [z6]
  simp only at hb2 ⊢
  cases b2 with
  | false => exact z6.2 (.inr (.inl ⟨rfl,hc,fun q => by have := hb2.2 q; cases this⟩))
  | true =>
   have hr := hb2.1 rfl
   simp
   rw [zh,zh]
   refine (z9t h).mono ?_
   rintro ⟨p,n,e⟩ ⟨_,hp,hrg,hq⟩
   simp only at hp hrg hq ⊢
   rw [zh]
   refine (zfK (l := p) (by omega) (by omega)).mono ?_
   rintro x ⟨x1,x2⟩
   have hmax := zfs hrg (by omega) x1 x2
   rw [z6,zm (x := ((p.length : Nat) : Int) - 1) (by omega) (by omega)]
   have hd : zic m ↔ ∀ s t : Nat,s < p.length → t < p.length → p[s]? = p[t]? → s = t := by
    rw [hp]
    exact ⟨fun d s t hs ht g => d s t hs ht ((hq s t hs ht).1 g),fun d s t hs ht g => d s t hs ht ((hq s t hs ht).2 g)⟩
   by_cases g : x = (p.length : Int) - 1
   ·rw [beq_iff_eq.2 g]
    simp
    exact z6.2 (.inr (.inr (.inr ⟨rfl,hc,hr,hd.2 (hmax.1 g)⟩)))
   ·have : (x == (p.length : Int) - 1) = false := by simpa using g
    rw [this]
    simp
    exact z6.2 (.inr (.inr (.inl ⟨rfl,hc,hr,fun d => g (hmax.2 (hd.1 d))⟩)))
end
structure zdX (m : z4) (F : List Nat) (p : z4) : Prop where
 inp : p.Inputs = m.Inputs
 out : p.Outputs = m.Outputs
 len : p.Rows.length = F.length
 row : ∀ k : Nat,k < F.length → ∃ row,p.Rows[k]? = some row ∧ row.length = kk m ∧ ∀ i : Nat,i < kk m → ∃ e,row[i]? = some e ∧ e.Out = (E m F[k]! i).Out ∧
  ((0 ≤ (E m F[k]! i).To ∧ ∃ n : Nat,e.To = (n : Int) ∧ n < F.length ∧ SEq m F[n]! (E m F[k]! i).To.toNat) ∨ ((E m F[k]! i).To = -1 ∧ e.To = -1))
variable {F : List Nat}{k : Nat}
theorem Zt.at (hF : Zt m F)  (hk : k < F.length) : F[k]! ∈ F ∧ F[k]! < m.Rows.length ∧ F[k]? = some F[k]! := by
 have hm : F[k]! ∈ F := by rw [getElem!_pos F k hk]; exact List.getElem_mem hk
 exact ⟨hm,(hF.acc _ hm).1,by rw [getElem!_pos F k hk]; exact List.getElem?_eq_getElem hk⟩
theorem Zt.uniq (hF : Zt m F) {i j : Nat} (hi : i < F.length) (hj : j < F.length) (h : SEq m F[i]! F[j]!) : i = j := by
 rw [getElem!_pos F i hi,getElem!_pos F j hj] at h
 have := List.pairwise_iff_getElem.1 hF.dist
 rcases Nat.lt_trichotomy i j with q | q | q
 ·exact (this i j hi hj q h).elim
 ·exact q
 ·exact (this j i hj hi q h.symm).elim
theorem Zt.len (hF : Zt m F) : F.length ≤ m.Rows.length := by
 refine ZI _ F ?_ fun x hx => (hF.acc x hx).1
 refine List.Pairwise.imp ?_ hF.dist
 intro a b q e
 subst e
 exact q (SEq.refl _)
section
variable {m : z4} (h : VM m) (hG : GG (kk m) m.Rows.length ≤ 1000000000) {F : List Nat} (hF : Zt m F)
include h hG hF
theorem zds (hs : s < m.Rows.length) (hr : Rch m s) : ∃ i,i < F.length ∧ SEq m F[i]! s := by
 have ⟨r,_,_,_,r3⟩ := z0g h hG
 rcases r3 s hs with ⟨_,v,_,hv⟩ | ⟨_,hno⟩
 ·have ⟨t,ht,q,_⟩ := hF.all s v hs hv
  have ⟨i,hi,e⟩ := List.getElem_of_mem ht
  exact ⟨i,hi,by rw [getElem!_pos F i hi,e]; exact q⟩
 ·have ⟨u,hu,e⟩ := hr
  exact (hno u hu e).elim
theorem zfL (hf : uz m = some (F.map Int.ofNat)) : Ret (Us m) fun o => o.length = m.Rows.length ∧ ∀ s,s < m.Rows.length → Rch m s → ∃ n : Nat,o[s]? = some (n : Int) ∧ n < F.length ∧ SEq m F[n]! s := by
 have l64 := h.len64
 have hFl := hF.len
 unfold Us Wa
 rw [zh]
 refine (z3i h.wm).mono ?_
 rintro p ⟨p1,p2⟩
 rw [bdT hf,zh]
 refine (z7v h).mono ?_
 rintro is ⟨q1,q2⟩
 rw [zh]
 have w1 : ∀ n : Nat,n < 1000 → w64 ((n : Int) + 1) = ((n + 1 : Nat) : Int) := fun n hn => by rw [zm (by omega) (by omega)]; rfl
 refine Ret.mono (Q := fun o => o.length = m.Rows.length ∧ ∀ s,s < m.Rows.length → Rch m s → ∃ n : Nat,o[s]? = some (n : Int) ∧ n < F.length ∧ SEq m F[n]! s) ?_ fun o ho => z6.2 ho
 refine zt (fun q => ∃ s : Nat,q.2 = (s : Int) ∧ s ≤ m.Rows.length ∧ q.1.length = s ∧ ∀ t : Nat,t < s → Rch m t → ∃ n : Nat,q.1[t]? = some (n : Int) ∧ n < F.length ∧ SEq m F[n]! t) (fun q => 1000 - q.2.toNat) ⟨0,rfl,Nat.zero_le _,rfl,fun t ht => by omega⟩ (by simp) ?_
 rintro ⟨out,q⟩ ⟨s,e1,s1,s2,s3⟩
 simp only at e1 s2 s3
 subst e1
 unfold W7
 rw [zg]
 refine ⟨fun hc => ?_,fun hc => ?_⟩
 ·have hs : s < m.Rows.length := by rw [p1] at hc; simpa using hc
  rw [zh]
  have hl : s < is.length := by omega
  obtain ⟨y,hy⟩ : ∃ y,p[s]? = some y := ⟨_,List.getElem?_eq_getElem (by omega)⟩
  have inner : Ret (loop (fun q => Yd p (F.map Int.ofNat) is (s : Int) q.1 q.2) ((-1),0)) fun k => Rch m s → ∃ n : Nat,k = (n : Int) ∧ n < F.length ∧ SEq m F[n]! s := by
   refine zt (fun q => ∃ n : Nat,q.2 = (n : Int) ∧ n ≤ F.length ∧ (Rch m s → (∀ i,i < n → ¬ SEq m F[i]! s) ∨ ∃ i : Nat,q.1 = (i : Int) ∧ i < F.length ∧ SEq m F[i]! s)) (fun q => 1000 - q.2.toNat) ⟨0,rfl,Nat.zero_le _,fun _ => .inl fun i hi => by omega⟩ (by simp) ?_
   rintro ⟨k,q⟩ ⟨n,e1,n1,n2⟩
   simp only at e1 n2
   subst e1
   unfold Yd jH
   rw [zg]
   refine ⟨fun hc => ?_,fun hc => ?_⟩
   ·have hn : n < F.length := by simpa using hc
    have ⟨f1,f2,f3⟩ := hF.at hn
    have hx : (F.map Int.ofNat)[n]? = some ((F[n]! : Nat) : Int) := by rw [List.getElem?_map,f3]; rfl
    obtain ⟨x,hx2⟩ : ∃ x,p[F[n]!]? = some x := ⟨_,List.getElem?_eq_getElem (by omega)⟩
    have hcl := p2 _ _ f2 hs
    rw [hx2,hy,Option.some.injEq] at hcl
    rw [zx,bdT (List.getElem?_eq_getElem hl),zg,w1 n (by omega)]
    have step : ∀ k',(Rch m s → (∀ i,i < n + 1 → ¬ SEq m F[i]! s) ∨ ∃ i : Nat,k' = (i : Int) ∧ i < F.length ∧ SEq m F[i]! s) → Ret (some (LR.next (k',((n + 1 : Nat) : Int)) : LR (Int × Int) Int)) (LRP (fun s' => (∃ n : Nat,s'.2 = (n : Int) ∧ n ≤ F.length ∧ (Rch m s → (∀ i,i < n → ¬ SEq m F[i]! s) ∨ ∃ i : Nat,s'.1 = (i : Int) ∧ i < F.length ∧ SEq m F[i]! s)) ∧ 1000 - s'.2.toNat < 1000 - (n : Int).toNat) fun k => Rch m s → ∃ n : Nat,k = (n : Int) ∧ n < F.length ∧ SEq m F[n]! s) := by
     intro k' hk'
     exact z6.2 ⟨⟨n + 1,rfl,hn,hk'⟩,by simp [Int.toNat_natCast]; omega⟩
    have grow : ¬ SEq m F[n]! s → Rch m s → (∀ i,i < n + 1 → ¬ SEq m F[i]! s) ∨ ∃ i : Nat,k = (i : Int) ∧ i < F.length ∧ SEq m F[i]! s := by
     intro hno hr
     rcases n2 hr with g | g
     ·refine .inl fun i hi => ?_
      rcases Nat.lt_or_ge i n with q | q
      ·exact g i q
      ·have : i = n := by omega
       subst this; exact hno
     ·exact .inr g
    refine ⟨fun hb => ?_,fun hb => step k fun hr => ?_⟩
    ·rw [zx,bdT hx,zx,bdT hx2,zx,bdT hy,zg]
     refine ⟨fun e => step _ fun _ => .inr ⟨n,rfl,hn,hcl.1 (by simpa using e)⟩,fun e => step _ (grow fun g => ?_)⟩
     have := hcl.2 g
     simp [this] at e
    ·have := (q2 s hs).2 hr
     rw [List.getElem?_eq_getElem hl,hb] at this
     cases this
   ·have : n = F.length := by
     have : ¬ n < F.length := by simpa using hc
     omega
    subst this
    refine z6.2 fun hr => ?_
    rcases n2 hr with g | g
    ·have ⟨i,hi,q⟩ := zds h hG hF hs hr
     exact (g i hi q).elim
    ·exact g
  refine inner.mono fun k hk => ?_
  unfold W8 W9
  rw [WP,w1 s (by omega)]
  refine ⟨by simp; omega,z6.2 ⟨⟨s + 1,rfl,hs,by simp [s2],fun t ht hr => ?_⟩,by simp [Int.toNat_natCast]; omega⟩⟩
  rcases Nat.lt_or_ge t s with q | q
  ·rw [List.getElem?_append_left (show t < out.length from by rw [s2]; exact q)]
   exact s3 t q hr
  ·have : t = s := by omega
   subst this
   obtain ⟨n,rfl,g⟩ := hk hr
   exact ⟨n,by rw [← s2,List.getElem?_append_right (Nat.le_refl _)]; simp,g⟩
 ·have : s = m.Rows.length := by
   have : ¬ s < m.Rows.length := by rw [p1] at hc; simpa using hc
   omega
  subst this
  exact z6.2 ⟨s2,s3⟩
end
section
variable {m : z4} (h : VM m) (hG : GG (kk m) m.Rows.length ≤ 1000000000)
include h hG
theorem z7C : Ret (kH m) fun p => ∃ F,Zt m F ∧ zdX m F p := by
 have l64 := h.len64
 have hk2 := h.kk_le
 have hke := h.kk_eq
 obtain ⟨o,hf,F,rfl,hF⟩ := z9m h hG
 have hFl := hF.len
 have ⟨mp,hm,m1,m2⟩ := zfL h hG hF hf
 have w1 : ∀ n : Nat,n < 1000 → w64 ((n : Int) + 1) = ((n + 1 : Nat) : Int) := fun n hn => by rw [zm (by omega) (by omega)]; rfl
 unfold kH qM
 rw [bdT hf,bdT hm,zh]
 let RowI : Nat → List z5 → Nat → Prop := fun k row n => row.length = n ∧ ∀ i : Nat,i < n → ∃ e,row[i]? = some e ∧ e.Out = (E m F[k]! i).Out ∧
  ((0 ≤ (E m F[k]! i).To ∧ ∃ n : Nat,e.To = (n : Int) ∧ n < F.length ∧ SEq m F[n]! (E m F[k]! i).To.toNat) ∨ ((E m F[k]! i).To = -1 ∧ e.To = -1))
 have hrow : ∀ k : Nat,k < F.length → Ret (loop (fun s => vu m (F.map Int.ofNat) mp (k : Int) s.1 s.2) (([] : List z5),0)) fun row => RowI k row (kk m) := by
  intro k hk
  have ⟨f1,f2,f3⟩ := hF.at hk
  have hx : (F.map Int.ofNat)[k]? = some ((F[k]! : Nat) : Int) := by rw [List.getElem?_map,f3]; rfl
  have hrch : Rch m F[k]! := by have ⟨_,v,hv⟩ := hF.acc _ f1; exact ⟨v,hv.wd,hv.aft⟩
  refine zt (fun q => ∃ i : Nat,q.2 = (i : Int) ∧ i ≤ kk m ∧ RowI k q.1 i) (fun q => 1000 - q.2.toNat) ⟨0,rfl,Nat.zero_le _,rfl,fun i hi => by omega⟩ (by simp) ?_
  rintro ⟨row,q⟩ ⟨i,e1,i1,i2,i3⟩
  simp only at e1 i2 i3
  subst e1
  unfold vu
  rw [zg]
  refine ⟨fun hc => ?_,fun hc => ?_⟩
  ·have hi : i < kk m := by rw [← hke] at hc; simpa using hc
   have he := h.edgeAt f2 hi
   rw [zx,bdT hx,h.edge_eq f2 hi,zg]
   have fin : ∀ to : Int,((0 ≤ (E m F[k]! i).To ∧ ∃ n : Nat,to = (n : Int) ∧ n < F.length ∧ SEq m F[n]! (E m F[k]! i).To.toNat) ∨ ((E m F[k]! i).To = -1 ∧ to = -1)) →
     Ret (we row (i : Int) (E m F[k]! i) to) (LRP (fun s' => (∃ i : Nat,s'.2 = (i : Int) ∧ i ≤ kk m ∧ RowI k s'.1 i) ∧ 1000 - s'.2.toNat < 1000 - (i : Int).toNat) fun row => RowI k row (kk m)) := by
    intro to hto
    unfold we
    rw [WP,w1 i (by omega)]
    refine ⟨by simp; omega,z6.2 ⟨⟨i + 1,rfl,hi,by simp [i2],fun j hj => ?_⟩,by simp [Int.toNat_natCast]; omega⟩⟩
    rcases Nat.lt_or_ge j i with q | q
    ·rw [List.getElem?_append_left (show j < row.length from by rw [i2]; exact q)]
     exact i3 j q
    ·have : j = i := by omega
     subst this
     refine ⟨⟨to,(E m F[k]! j).Out⟩,?_,rfl,hto⟩
     conv => lhs; arg 2; rw [← i2]
     rw [List.getElem?_append_right (Nat.le_refl _)]
     simp
   refine ⟨fun hc => ?_,fun hc => ?_⟩
   ·have h0 : 0 ≤ (E m F[k]! i).To := by simpa using hc
    have ⟨t,ht⟩ := Int.eq_ofNat_of_zero_le h0
    have htN : t < m.Rows.length := by omega
    have hr : Rch m t := by have := rch_step hrch hi h0; rw [ht] at this; simpa using this
    have ⟨n,n1,n2,n3⟩ := m2 t htN hr
    rw [ht,zx,bdT n1]
    exact fin _ (.inl ⟨h0,n,rfl,n2,by rw [ht]; simpa using n3⟩)
   ·have h0 : ¬ 0 ≤ (E m F[k]! i).To := by simpa using hc
    have : (E m F[k]! i).To = -1 := by omega
    exact fin _ (.inr ⟨this,this⟩)
  ·have : i = kk m := by
    have : ¬ i < kk m := by rw [← hke] at hc; simpa using hc
    omega
   subst this
   exact z6.2 ⟨i2,i3⟩
 have hloop : Ret (loop (fun s => vw m (F.map Int.ofNat) mp s.1 s.2) (([] : List (List z5)),0)) fun rows => rows.length = F.length ∧ ∀ k : Nat,k < F.length → ∃ row,rows[k]? = some row ∧ RowI k row (kk m) := by
  refine zt (fun q => ∃ k : Nat,q.2 = (k : Int) ∧ k ≤ F.length ∧ q.1.length = k ∧ ∀ j : Nat,j < k → ∃ row,q.1[j]? = some row ∧ RowI j row (kk m)) (fun q => 1000 - q.2.toNat) ⟨0,rfl,Nat.zero_le _,rfl,fun i hi => by omega⟩ (by simp) ?_
  rintro ⟨rows,q⟩ ⟨k,e1,k1,k2,k3⟩
  simp only at e1 k2 k3
  subst e1
  unfold vw
  rw [zg]
  refine ⟨fun hc => ?_,fun hc => ?_⟩
  ·have hk : k < F.length := by simpa using hc
   rw [zh]
   refine (hrow k hk).mono fun row hr => ?_
   unfold qK qL
   rw [WP,w1 k (by omega)]
   refine ⟨by simp; omega,z6.2 ⟨⟨k + 1,rfl,hk,by simp [k2],fun j hj => ?_⟩,by simp [Int.toNat_natCast]; omega⟩⟩
   rcases Nat.lt_or_ge j k with q | q
   ·rw [List.getElem?_append_left (show j < rows.length from by rw [k2]; exact q)]
    exact k3 j q
   ·have : j = k := by omega
    subst this
    refine ⟨row,?_,hr⟩
    conv => lhs; arg 2; rw [← k2]
    rw [List.getElem?_append_right (Nat.le_refl _)]
    simp
  ·have : k = F.length := by
    have : ¬ k < F.length := by simpa using hc
    omega
   subst this
   exact z6.2 ⟨k2,k3⟩
 refine hloop.mono ?_
 rintro rows ⟨r1,r2⟩
 refine z6.2 ⟨F,hF,rfl,rfl,r1,fun k hk => ?_⟩
 have ⟨row,e,q1,q2⟩ := r2 k hk
 exact ⟨row,e,q1,q2⟩
end
section
variable {m : z4} (h : VM m)
include h
omit h in
theorem zj5 {p : z4} (hp : zdX m F p) (hk : kk p = kk m) {k i : Nat} (h1 : k < F.length) (hi : i < kk m) : (E p k i).Out = (E m F[k]! i).Out ∧ ((0 ≤ (E m F[k]! i).To ∧ ∃ n : Nat,(E p k i).To = (n : Int) ∧ n < F.length ∧ SEq m F[n]! (E m F[k]! i).To.toNat) ∨ ((E m F[k]! i).To = -1 ∧ (E p k i).To = -1)) := by
 have ⟨row,q1,q2,q3⟩ := hp.row k h1
 have ⟨e,e1,e2⟩ := q3 i hi
 have : E p k i = e := by unfold E; rw [q1,Option.getD_some,e1]; rfl
 rw [this]
 exact e2
omit h in
theorem z7s (hF : Zt m F) {p : z4} (hp : zdX m F p) : ∀ (w : List Nat) (k : Nat),k < F.length → Wd (kk m) w → rsp p (k : Int) w = rsp m ((F[k]! : Nat) : Int) w
 | [],_,_,_ => rfl
 | i :: w,k,hk,hw => by
  have hkk : kk p = kk m := by unfold kk; rw [hp.inp]
  have hi := hw i (by simp)
  have hw' : Wd (kk m) w := fun j hj => hw j (by simp [hj])
  have ⟨e1,e2⟩ := zj5 hp hkk hk hi
  simp only [rsp,j0,e1,List.cons.injEq,true_and]
  rcases e2 with ⟨h0,n,g1,g2,g3⟩ | ⟨g1,g2⟩
  ·rw [g1,z7s hF hp w n g2 hw',g3 w hw']
   congr 1
   omega
  ·rw [g1,g2,z7r _ _ _ (by omega),z7r _ _ _ (by omega)]
theorem z4z (hF : Zt m F) : 0 < F.length ∧ F[0]! = 0 := by
 have l1 := h.len1
 have hacc : Acc m 0 [] := ⟨fun i hi => by simp at hi,by show 0 < m.Rows.length; omega,rfl,fun u _ _ => by simp [rk,GG,Ub]⟩
 have ⟨s,hs,_,w,hw,hle⟩ := hF.all 0 [] (by omega) hacc
 have hw0 : w = [] := z8h hw.wd hacc.wd (by
  have : rk (kk m) ([] : List Nat) = 0 := by simp [rk,GG,Ub]
  omega)
 subst hw0
 have hs0 : s = 0 := by have := hw.aft; simp [aft] at this; omega
 subst hs0
 have ⟨j,hj,ej⟩ := List.getElem_of_mem hs
 refine ⟨by omega,?_⟩
 rcases Nat.eq_zero_or_pos j with rfl | q
 ·rw [getElem!_pos F 0 (by omega)]; exact ej
 ·have h0 : 0 < F.length := by omega
  have := List.pairwise_iff_getElem.1 hF.sorted 0 j h0 hj q
  have ⟨_,v,hv⟩ := hF.acc F[0] (List.getElem_mem h0)
  have := this v [] hv (by rw [ej]; exact hacc)
  simp [rk,GG,Ub] at this
end
instance edgeDec : DecidableEq z5 := fun x y => if h : x.To = y.To ∧ x.Out = y.Out then isTrue (by cases x; cases y; simp_all) else isFalse (by rintro rfl; exact h ⟨rfl,rfl⟩)
theorem zdw {x y : z5} : ((x.To == y.To) && ((x.Out == y.Out) && true)) = decide (x = y) := by
 cases x; cases y
 simp only [z5.mk.injEq,Bool.and_true,Bool.decide_and]
 rfl
theorem zea {p q : z4} (hi : p.Inputs = q.Inputs) (ho : p.Outputs = q.Outputs) (hp : p.Rows.length ≤ 1000) (hr : ∀ r ∈ p.Rows,r.length ≤ 1000) : uN p q = some (decide (p.Rows = q.Rows)) := by
 have w1 : ∀ n : Nat,n < 1000 → w64 ((n : Int) + 1) = ((n + 1 : Nat) : Int) := fun n hn => by rw [zm (by omega) (by omega)]; rfl
 refine Ret.eq ?_
 unfold uN
 rw [hi,ho]
 simp only [bne_self_eq_false,cond_false]
 rw [zg]
 refine ⟨fun hc => ?_,fun hc => ?_⟩
 ·refine z6.2 ?_
  rw [decide_eq_false]
  intro e
  simp [e] at hc
 ·have hl : p.Rows.length = q.Rows.length := by
   have : ((p.Rows.length : Nat) : Int) = ((q.Rows.length : Nat) : Int) := by simpa using hc
   omega
  rw [zh]
  have hloop : Ret (loop (fun s => kX p q s) 0) fun r => match r with
    | .inl _ => p.Rows = q.Rows
    | .inr v => v = false ∧ p.Rows ≠ q.Rows := by
   refine zt (fun k => ∃ s : Nat,k = (s : Int) ∧ s ≤ p.Rows.length ∧ ∀ j : Nat,j < s → p.Rows[j]? = q.Rows[j]?) (fun k => 2000 - k.toNat) ⟨0,rfl,Nat.zero_le _,fun j hj => by omega⟩ (by simp) ?_
   rintro k ⟨s,rfl,s1,s2⟩
   unfold kX
   rw [zg]
   refine ⟨fun hc => ?_,fun hc => ?_⟩
   ·have hs : s < p.Rows.length := by simpa using hc
    have hx : p.Rows[s]? = some p.Rows[s] := List.getElem?_eq_getElem hs
    have hy : q.Rows[s]? = some (q.Rows[s]'(by omega)) := List.getElem?_eq_getElem (by omega)
    have hrl := hr _ (List.getElem_mem hs)
    rw [zx,bdT hx,zx,bdT hy,zg]
    have neq : p.Rows[s] ≠ q.Rows[s]'(by omega) → p.Rows ≠ q.Rows := fun g e => g (by
     have : p.Rows[s]? = q.Rows[s]? := by rw [e]
     rw [hx,hy] at this
     exact Option.some.inj this)
    refine ⟨fun hc => ?_,fun hc => ?_⟩
    ·refine z6.2 ⟨rfl,neq fun e => ?_⟩
     rw [e] at hc
     simp at hc
    ·have hll : p.Rows[s].length = (q.Rows[s]'(by omega)).length := by
      have : ((p.Rows[s].length : Nat) : Int) = (((q.Rows[s]'(by omega)).length : Nat) : Int) := by simpa using hc
      omega
     rw [zh]
     have inner : Ret (loop (fun i => kW p q (s : Int) i) 0) fun r => match r with
       | .inl _ => p.Rows[s] = q.Rows[s]'(by omega)
       | .inr v => v = false ∧ p.Rows[s] ≠ q.Rows[s]'(by omega) := by
      refine zt (fun k => ∃ i : Nat,k = (i : Int) ∧ i ≤ p.Rows[s].length ∧ ∀ j : Nat,j < i → p.Rows[s][j]? = (q.Rows[s]'(by omega))[j]?) (fun k => 2000 - k.toNat) ⟨0,rfl,Nat.zero_le _,fun j hj => by omega⟩ (by simp) ?_
      rintro k ⟨i,rfl,i1,i2⟩
      unfold kW
      rw [zx,bdT hx,zg]
      refine ⟨fun hc => ?_,fun hc => ?_⟩
      ·have hi : i < p.Rows[s].length := by simpa using hc
       have ex : p.Rows[s][i]? = some p.Rows[s][i] := List.getElem?_eq_getElem hi
       have ey : (q.Rows[s]'(by omega))[i]? = some ((q.Rows[s]'(by omega))[i]'(by omega)) := List.getElem?_eq_getElem (by omega)
       rw [bdT hx,zx,bdT ex,zx,bdT hy,zx,bdT ey,zdw,zg]
       refine ⟨fun hc => ?_,fun hc => ?_⟩
       ·have hne : p.Rows[s][i] ≠ (q.Rows[s]'(by omega))[i]'(by omega) := by simpa using hc
        refine z6.2 ⟨rfl,fun e => hne ?_⟩
        have : p.Rows[s][i]? = (q.Rows[s]'(by omega))[i]? := by rw [e]
        rw [ex,ey] at this
        exact Option.some.inj this
       ·have he : p.Rows[s][i] = (q.Rows[s]'(by omega))[i]'(by omega) := by simpa using hc
        rw [w1 i (by omega)]
        refine z6.2 ⟨⟨i + 1,rfl,hi,fun j hj => ?_⟩,by simp only [Int.toNat_natCast]; omega⟩
        rcases Nat.lt_or_ge j i with g | g
        ·exact i2 j g
        ·have : j = i := by omega
         subst this
         rw [ex,ey,he]
      ·have : i = p.Rows[s].length := by
        have : ¬ i < p.Rows[s].length := by simpa using hc
        omega
       subst this
       refine z6.2 (show p.Rows[s] = q.Rows[s]'(by omega) from List.ext_getElem? fun j => ?_)
       rcases Nat.lt_or_ge j p.Rows[s].length with g | g
       ·exact i2 j g
       ·rw [List.getElem?_eq_none g,List.getElem?_eq_none (by omega)]
     refine inner.mono fun r hr => ?_
     cases r with
     | inl u =>
      have hr : p.Rows[s] = q.Rows[s]'(by omega) := hr
      unfold YU
      rw [w1 s (by omega)]
      refine z6.2 ⟨⟨s + 1,rfl,hs,fun j hj => ?_⟩,by simp only [Int.toNat_natCast]; omega⟩
      rcases Nat.lt_or_ge j s with g | g
      ·exact s2 j g
      ·have : j = s := by omega
       subst this
       rw [hx,hy,hr]
     | inr v => exact z6.2 ⟨hr.1,neq hr.2⟩
   ·have : s = p.Rows.length := by
     have : ¬ s < p.Rows.length := by simpa using hc
     omega
    subst this
    refine z6.2 (show p.Rows = q.Rows from List.ext_getElem? fun j => ?_)
    rcases Nat.lt_or_ge j p.Rows.length with g | g
    ·exact s2 j g
    ·rw [List.getElem?_eq_none g,List.getElem?_eq_none (by omega)]
  refine hloop.mono fun r hr => ?_
  cases r with
  | inl u =>
   have hr : p.Rows = q.Rows := hr
   exact z6.2 (by rw [decide_eq_true hr])
  | inr v => exact z6.2 (by rw [hr.1,decide_eq_false hr.2])
theorem zbF (k : Nat) : ∀ n,GG k (n + 1) = k * GG k n + 1
 | 0 => by simp [GG]
 | n + 1 => by
  have ih := zbF k n
  show GG k (n + 1) + k ^ (n + 1) = k * (GG k n + k ^ n) + 1
  rw [ih,Nat.mul_add,Nat.pow_succ,Nat.mul_comm (k ^ n) k]
  omega
theorem z8i (k : Nat) (w : List Nat) (i : Nat) : rk k (w ++ [i]) = k * rk k w + i + 1 := by
 unfold rk
 rw [List.length_append,List.length_singleton,zbF,List.reverse_append,List.reverse_singleton,List.singleton_append,Nat.mul_add]
 show k * GG k w.length + 1 + (i + k * Ub k w.reverse) = _
 omega
def tE (m : z4) (J : Nat) : Nat := (E m (J / kk m) (J % kk m)).To.toNat
def Zx (m : z4) : Nat → Nat
 | 0 => 1
 | J + 1 => if tE m J = Zx m J then Zx m J + 1 else Zx m J
theorem QI {I J : Nat} (h : I ≤ J) : Zx m I ≤ Zx m J := by
 induction h with
 | refl => exact Nat.le_refl _
 | step _ ih => refine Nat.le_trans ih ?_; simp only [Zx]; split <;> omega
theorem zej (m : z4) (J : Nat) : 1 ≤ Zx m J := QI (Nat.zero_le J)
theorem zek {t : Nat} (ht : 1 ≤ t) : ∀ {J : Nat},t < Zx m J → ∃ I,I < J ∧ Zx m I = t ∧ tE m I = t
 | 0,h => by simp only [Zx] at h; omega
 | J + 1,h => by
  rcases Nat.lt_or_ge t (Zx m J) with g | g
  ·obtain ⟨I,h1,h2⟩ := zek ht g
   exact ⟨I,by omega,h2⟩
  ·simp only [Zx] at h
   split at h
   ·exact ⟨J,by omega,by omega,by omega⟩
   ·omega
theorem z3f {s k j : Nat} (h : j < k) : (s * k + j) / k = s ∧ (s * k + j) % k = j :=
 ⟨by rw [Nat.mul_comm,Nat.mul_add_div (by omega),Nat.div_eq_of_lt h,Nat.add_zero],by rw [Nat.mul_comm,Nat.mul_add_mod,Nat.mod_eq_of_lt h]⟩
theorem z6S {J n k : Nat} (h : J < n * k) : J / k < n ∧ J % k < k := by
 have hk : 0 < k := by rcases Nat.eq_zero_or_pos k with e | e; (rw [e] at h; omega); exact e
 exact ⟨(Nat.div_lt_iff_lt_mul hk).2 h,Nat.mod_lt _ hk⟩
def P18 (m : z4) : Prop := ∃ v : Nat → List Nat,(∀ t,t < m.Rows.length → Acc m t (v t)) ∧ ∀ s t,s < t → t < m.Rows.length → rk (kk m) (v s) < rk (kk m) (v t)
variable {J : Nat}
section
variable {m : z4} (h : VM m) (hc : Cpl m)
include h hc
theorem zfb {s j : Nat} (hs : s < m.Rows.length) (hj : j < kk m) : ((tE m (s * kk m + j) : Nat) : Int) = (E m s j).To ∧ tE m (s * kk m + j) < m.Rows.length := by
 unfold tE
 obtain ⟨e1,e2⟩ := z3f (s := s) hj
 rw [e1,e2]
 have h1 := hc s j hs hj
 have h2 := h.edgeAt hs hj
 omega
theorem zfa (hJ : J < m.Rows.length * kk m) : tE m J < m.Rows.length := by
 obtain ⟨h1,h2⟩ := z6S hJ
 have := (zfb h hc h1 h2).2
 rwa [Nat.mul_comm,Nat.div_add_mod] at this
theorem zhB {J : Nat} (hJ : J ≤ m.Rows.length * kk m) : Zx m J ≤ m.Rows.length := by
 induction J with
 | zero => exact h.len1
 | succ J ih =>
  have h1 := ih (by omega)
  have h2 := zfa h hc (J := J) (by omega)
  simp only [Zx]
  split <;> omega
def zdW (m : z4) (b : Bool) : Prop :=
 (b = true ∧ (∀ J,J < m.Rows.length * kk m → tE m J ≤ Zx m J) ∧ (∀ s,s < m.Rows.length → s < Zx m (s * kk m)) ∧ Zx m (m.Rows.length * kk m) = m.Rows.length) ∨
 (b = false ∧ ∃ J,(∀ I,I < J → tE m I ≤ Zx m I) ∧ ((J < m.Rows.length * kk m ∧ Zx m J < tE m J) ∨ ∃ s,s < m.Rows.length ∧ J = s * kk m ∧ Zx m J = s))
theorem zcE : Ret (vN m) (zdW m) := by
 have l1 := h.len1
 have l64 := h.len64
 have k1 := h.kk_pos
 have k16 := h.kk_le
 have w1 : ∀ n : Nat,n < 10000 → w64 ((n : Int) + 1) = ((n + 1 : Nat) : Int) := fun n hn => by rw [zm (by omega) (by omega)]; rfl
 unfold vN
 rw [zh]
 have outer : Ret (loop (fun s => xM m s.1 s.2) (1,0)) fun r => match r with
   | .inl p => ∃ s : Nat,p = (s : Int) ∧ s ≤ m.Rows.length ∧ Zx m (s * kk m) = s ∧ (∀ J,J < s * kk m → tE m J ≤ Zx m J) ∧ ∀ t,t < s → t < Zx m (t * kk m)
   | .inr b => zdW m b := by
  refine zt (fun q => ∃ s : Nat,q.2 = (s : Int) ∧ q.1 = ((Zx m (s * kk m) : Nat) : Int) ∧ s ≤ m.Rows.length ∧ s ≤ Zx m (s * kk m) ∧ (∀ J,J < s * kk m → tE m J ≤ Zx m J) ∧ ∀ t,t < s → t < Zx m (t * kk m)) (fun q => 1000 - q.2.toNat) ⟨0,rfl,by rw [Nat.zero_mul]; rfl,Nat.zero_le _,Nat.zero_le _,fun J hJ => by omega,fun t ht => by omega⟩ (by simp) ?_
  rintro ⟨_,_⟩ ⟨s,rfl,rfl,hs,hsn,hJ,ht⟩
  show Ret (xM m _ (s : Int)) _
  have hb := zhB h hc (J := s * kk m) (Nat.mul_le_mul_right _ hs)
  unfold xM
  rw [zg]
  refine ⟨fun c => ?_,fun c => ?_⟩
  ·have hlt : s < Zx m (s * kk m) := by have := of_decide_eq_true c; omega
   have hsl : s < m.Rows.length := by omega
   obtain ⟨r,r1,r2,r3⟩ := h.rowAt hsl
   have hend : s * kk m + kk m = (s + 1) * kk m := by rw [Nat.add_mul,Nat.one_mul]
   have hsk : (s + 1) * kk m ≤ m.Rows.length * kk m := Nat.mul_le_mul_right _ hsl
   rw [zx,bdT r1,zh]
   have inner : Ret (loop (fun q => xL r q.1 q.2) (((Zx m (s * kk m) : Nat) : Int),0)) fun r => match r with
     | .inl p => p = ((Zx m ((s + 1) * kk m) : Nat) : Int) ∧ ∀ J,J < (s + 1) * kk m → tE m J ≤ Zx m J
     | .inr b => zdW m b := by
    refine zt (fun q => ∃ j : Nat,q.2 = (j : Int) ∧ q.1 = ((Zx m (s * kk m + j) : Nat) : Int) ∧ j ≤ kk m ∧ ∀ J,J < s * kk m + j → tE m J ≤ Zx m J) (fun q => 1000 - q.2.toNat) ⟨0,rfl,rfl,Nat.zero_le _,hJ⟩ (by simp) ?_
    rintro ⟨_,_⟩ ⟨j,rfl,rfl,hj,hJ2⟩
    show Ret (xL r _ (j : Int)) _
    unfold xL
    rw [zg]
    refine ⟨fun c => ?_,fun c => ?_⟩
    ·have hjl : j < kk m := by have := of_decide_eq_true c; omega
     obtain ⟨t1,t2⟩ := zfb h hc hsl hjl
     have hb2 := zhB h hc (J := s * kk m + j) (by omega)
     rw [zx,bdT (r3 j hjl),← t1,zg]
     have fin : ∀ v : Nat,v = Zx m (s * kk m + j + 1) → tE m (s * kk m + j) ≤ Zx m (s * kk m + j) → Ret (xN (j : Int) (v : Int)) (LRP (fun q => (∃ j : Nat,q.2 = (j : Int) ∧ q.1 = ((Zx m (s * kk m + j) : Nat) : Int) ∧ j ≤ kk m ∧ ∀ J,J < s * kk m + j → tE m J ≤ Zx m J) ∧ 1000 - q.2.toNat < 1000 - ((j : Nat) : Int).toNat) fun r => match r with
       | .inl p => p = ((Zx m ((s + 1) * kk m) : Nat) : Int) ∧ ∀ J,J < (s + 1) * kk m → tE m J ≤ Zx m J
       | .inr b => zdW m b) := by
      intro v hv hle
      unfold xN
      rw [w1 j (by omega)]
      refine z6.2 ⟨⟨j + 1,rfl,by rw [hv]; rfl,hjl,fun J hJ => ?_⟩,by simp only [Int.toNat_natCast]; omega⟩
      rcases Nat.lt_or_ge J (s * kk m + j) with g | g
      ·exact hJ2 J g
      ·have : J = s * kk m + j := by omega
       rw [this]; exact hle
     refine ⟨fun c2 => ?_,fun c2 => ?_⟩
     ·have := of_decide_eq_true c2
      exact z6.2 (.inr ⟨rfl,s * kk m + j,hJ2,.inl ⟨by omega,by omega⟩⟩)
     ·have := of_decide_eq_false c2
      rw [zg]
      refine ⟨fun c3 => ?_,fun c3 => ?_⟩
      ·have he : tE m (s * kk m + j) = Zx m (s * kk m + j) := by simp at c3; omega
       rw [w1 _ (by omega)]
       exact fin _ (by simp only [Zx]; rw [if_pos he]) (by omega)
      ·have he : tE m (s * kk m + j) ≠ Zx m (s * kk m + j) := by intro e; rw [e] at c3; simp at c3
       exact fin _ (by simp only [Zx]; rw [if_neg he]) (by omega)
    ·have : j = kk m := by have := of_decide_eq_false c; omega
     subst this
     rw [hend] at hJ2 ⊢
     exact z6.2 ⟨rfl,hJ2⟩
   refine inner.mono ?_
   rintro (p | b) hp
   ·obtain ⟨rfl,hp⟩ := hp
    show Ret (wY (s : Int) _) _
    unfold wY
    rw [w1 s (by omega)]
    have := QI (m := m) (I := s * kk m) (J := (s + 1) * kk m) (by omega)
    refine z6.2 ⟨⟨s + 1,rfl,rfl,hsl,by omega,hp,fun t hts => ?_⟩,by simp only [Int.toNat_natCast]; omega⟩
    rcases Nat.lt_or_ge t s with g | g
    ·exact ht t g
    ·have : t = s := by omega
     rw [this]; exact hlt
   ·exact z6.2 hp
  ·have : Zx m (s * kk m) = s := by have := of_decide_eq_false c; omega
   exact z6.2 ⟨s,by rw [this],hs,this,hJ,ht⟩
 refine outer.mono ?_
 rintro (p | b) hp
 ·obtain ⟨s,rfl,s1,s2,s3,s4⟩ := hp
  show Ret (wZ m (s : Int)) _
  unfold wZ
  refine z6.2 ?_
  by_cases e : s = m.Rows.length
  ·rw [e] at s2 s3 s4 ⊢
   exact .inl ⟨by simp,s3,s4,s2⟩
  ·refine .inr ⟨?_,s * kk m,s3,.inr ⟨s,by omega,rfl,s2⟩⟩
   simp only [beq_eq_false_iff_ne,ne_eq]
   omega
 ·exact z6.2 hp
end
def aw (f : Nat → Nat) (k : Nat) : Nat → List Nat
 | 0 => []
 | t + 1 => aw f k (min (f (t + 1) / k) t) ++ [f (t + 1) % k]
termination_by t => t
decreasing_by omega
theorem z5A (m : z4) (w : List Nat) (s : Int) (i : Nat) : aft m s (w ++ [i]) = (nxE m (aft m s w) i).To := (JK m w s i).2
section
variable {m : z4} (h : VM m) (hc : Cpl m)
include h hc
theorem z7S (u : List Nat) (hu : Wd (kk m) u) : ∃ s : Nat,s < m.Rows.length ∧ aft m 0 u = (s : Int) := by
 have l1 := h.len1
 have key : ∀ (n : Nat) (u : List Nat),u.length ≤ n → Wd (kk m) u → ∃ s : Nat,s < m.Rows.length ∧ aft m 0 u = (s : Int) := by
  intro n
  induction n with
  | zero => intro u hl _; rw [List.length_eq_zero_iff.1 (show u.length = 0 by omega)]; exact ⟨0,l1,rfl⟩
  | succ n ih =>
   intro u hl hu
   rcases List.eq_nil_or_concat u with e | ⟨u',i,e⟩
   ·rw [e]; exact ⟨0,l1,rfl⟩
   ·rw [List.concat_eq_append] at e
    subst e
    rw [List.length_append,List.length_singleton] at hl
    obtain ⟨s,h1,h2⟩ := ih u' (by omega) fun j hj => hu j (by simp [hj])
    have hi := hu i (by simp)
    rw [z5A,h2,j0]
    have h3 := hc s i h1 hi
    have h4 := h.edgeAt h1 hi
    exact ⟨(E m s i).To.toNat,by omega,by omega⟩
 exact key u.length u (Nat.le_refl _) hu
theorem z8Z {s i : Nat} (hs : s < m.Rows.length) (hi : i < kk m) {w : List Nat} (hw : aft m 0 w = (s : Int)) : aft m 0 (w ++ [i]) = ((tE m (s * kk m + i) : Nat) : Int) := by
 rw [z5A,hw,j0,(zfb h hc hs hi).1]
theorem za5 (h1 : ∀ J,J < m.Rows.length * kk m → tE m J ≤ Zx m J) (h2 : ∀ s,s < m.Rows.length → s < Zx m (s * kk m)) (h3 : Zx m (m.Rows.length * kk m) = m.Rows.length) : P18 m := by
 have k1 := h.kk_pos
 obtain ⟨f,hf⟩ := Classical.skolem.1 fun t : Nat => show ∃ J,1 ≤ t → t < m.Rows.length → J < m.Rows.length * kk m ∧ Zx m J = t ∧ tE m J = t ∧ J / kk m < t by
  by_cases hh : 1 ≤ t ∧ t < m.Rows.length
  ·obtain ⟨J,j1,j2,j3⟩ := zek (m := m) hh.1 (J := m.Rows.length * kk m) (by omega)
   refine ⟨J,fun _ _ => ⟨j1,j2,j3,?_⟩⟩
   have q1 := h2 (J / kk m) (z6S j1).1
   have q2 := QI (m := m) (I := J / kk m * kk m) (J := J) (Nat.div_mul_le_self _ _)
   omega
  ·exact ⟨0,fun a b => absurd ⟨a,b⟩ hh⟩
 have awS : ∀ t,t + 1 < m.Rows.length → aw f (kk m) (t + 1) = aw f (kk m) (f (t + 1) / kk m) ++ [f (t + 1) % kk m] := fun t ht => by
  rw [aw,Nat.min_eq_left (by have := (hf (t + 1) (by omega) ht).2.2.2; omega)]
 have all : ∀ n t,t ≤ n → t < m.Rows.length → Wd (kk m) (aw f (kk m) t) ∧ (aw f (kk m) t).length ≤ t ∧ aft m 0 (aw f (kk m) t) = (t : Int) := by
  intro n
  induction n with
  | zero => intro t ht _; rw [show t = 0 by omega,aw]; exact ⟨fun i hi => (by simp at hi),Nat.le_refl _,rfl⟩
  | succ n ih =>
   intro t ht htl
   cases t with
   | zero => exact ih 0 (by omega) htl
   | succ t =>
    obtain ⟨f1,f2,f3,f4⟩ := hf (t + 1) (by omega) htl
    obtain ⟨d1,d2⟩ := z6S f1
    obtain ⟨g1,g2,g3⟩ := ih (f (t + 1) / kk m) (by omega) d1
    rw [awS t htl]
    refine ⟨fun i hi => ?_,by rw [List.length_append,List.length_singleton]; omega,?_⟩
    ·rcases List.mem_append.1 hi with q | q
     ·exact g1 i q
     ·rw [List.mem_singleton.1 q]; exact d2
    ·rw [z8Z h hc d1 d2 g3,Nat.mul_comm,Nat.div_add_mod,f3]
 have rkS : ∀ t,1 ≤ t → t < m.Rows.length → rk (kk m) (aw f (kk m) t) = kk m * rk (kk m) (aw f (kk m) (f t / kk m)) + f t % kk m + 1 := fun t h1 h2 => by
  obtain ⟨t,rfl⟩ : ∃ u,t = u + 1 := ⟨t - 1,by omega⟩
  rw [awS t h2,z8i]
 have rk0 : rk (kk m) (aw f (kk m) 0) = 0 := by rw [aw]; rfl
 have mono : ∀ n s t,t ≤ n → s < t → t < m.Rows.length → rk (kk m) (aw f (kk m) s) < rk (kk m) (aw f (kk m) t) := by
  intro n
  induction n with
  | zero => intro s t a b; omega
  | succ n ih =>
   intro s t htn hst htl
   rw [rkS t (by omega) htl]
   rcases Nat.eq_zero_or_pos s with e | e
   ·rw [e,rk0]; omega
   ·rw [rkS s e (by omega)]
    obtain ⟨a1,a2,a3,a4⟩ := hf s e (by omega)
    obtain ⟨b1,b2,b3,b4⟩ := hf t (by omega) htl
    have hlt : f s < f t := by
     rcases Nat.lt_or_ge (f s) (f t) with q | q
     ·exact q
     ·have := QI (m := m) q; omega
    have hd : f s / kk m ≤ f t / kk m := Nat.div_le_div_right (Nat.le_of_lt hlt)
    rcases Nat.lt_or_ge (f s / kk m) (f t / kk m) with q | q
    ·have g := ih _ _ (by omega) q (by omega)
     have g2 := Nat.mul_le_mul_left (kk m) g
     rw [Nat.mul_succ] at g2
     have := (z6S a1).2
     omega
    ·have e2 : f s / kk m = f t / kk m := by omega
     have m1 := Nat.div_add_mod (f s) (kk m)
     have m2 := Nat.div_add_mod (f t) (kk m)
     rw [e2] at m1 ⊢
     omega
 have least : ∀ (n : Nat) (u : List Nat),u.length ≤ n → Wd (kk m) u → ∀ t : Nat,t < m.Rows.length → aft m 0 u = (t : Int) → rk (kk m) (aw f (kk m) t) ≤ rk (kk m) u := by
  intro n
  induction n with
  | zero =>
   intro u hl _ t ht e
   rw [List.length_eq_zero_iff.1 (show u.length = 0 by omega)] at e ⊢
   have e : (0 : Int) = (t : Int) := e
   rw [show t = 0 by omega,rk0]; exact Nat.zero_le _
  | succ n ih =>
   intro u hl hu t ht e
   rcases List.eq_nil_or_concat u with g | ⟨u',i,g⟩
   ·exact ih u (by rw [g]; exact Nat.zero_le _) hu t ht e
   ·rw [List.concat_eq_append] at g
    subst g
    rw [List.length_append,List.length_singleton] at hl
    rcases Nat.eq_zero_or_pos t with z | z
    ·rw [z,rk0]; exact Nat.zero_le _
    have hu' : Wd (kk m) u' := fun j hj => hu j (by simp [hj])
    have hi := hu i (by simp)
    obtain ⟨s,s1,s2⟩ := z7S h hc u' hu'
    rw [z8Z h hc s1 hi s2] at e
    have e : tE m (s * kk m + i) = t := by omega
    obtain ⟨a1,a2,a3,a4⟩ := hf t z ht
    have hsk : s * kk m + i < m.Rows.length * kk m := by
     have := Nat.mul_le_mul_right (kk m) (show s + 1 ≤ m.Rows.length from s1)
     rw [Nat.add_mul] at this
     omega
    have hle : f t ≤ s * kk m + i := by
     rcases Nat.lt_or_ge (s * kk m + i) (f t) with q | q
     ·have q1 := h1 _ hsk
      have q2 := QI (m := m) (I := s * kk m + i) (J := f t) (by omega)
      have q3 := QI (m := m) (I := s * kk m + i + 1) (J := f t) (by omega)
      simp only [Zx] at q3
      rw [if_pos (by omega)] at q3
      omega
     ·exact q
    have hle2 := Nat.div_le_div_right (c := kk m) hle
    rw [(z3f hi).1] at hle2
    rw [rkS t z ht,z8i]
    have hr := ih u' (by omega) hu' s s1 s2
    rcases Nat.lt_or_ge (f t / kk m) s with q | q
    ·have g := mono s _ s (Nat.le_refl _) q s1
     have g2 := Nat.mul_le_mul_left (kk m) (Nat.le_trans (Nat.succ_le_of_lt g) hr)
     rw [Nat.mul_succ] at g2
     have := (z6S a1).2
     omega
    ·have e2 : f t / kk m = s := by omega
     have m1 := Nat.div_add_mod (f t) (kk m)
     have g2 := Nat.mul_le_mul_left (kk m) hr
     rw [e2] at m1 ⊢
     rw [Nat.mul_comm] at m1
     omega
 refine ⟨aw f (kk m),fun t ht => ?_,fun s t => mono t s t (Nat.le_refl _)⟩
 obtain ⟨g1,g2,g3⟩ := all t t (Nat.le_refl _) ht
 exact ⟨g1,by omega,g3,fun u hu e => least u.length u (Nat.le_refl _) hu t ht e⟩
theorem z9b (h1 : ∀ I,I < J → tE m I ≤ Zx m I) (h2 : (J < m.Rows.length * kk m ∧ Zx m J < tE m J) ∨ ∃ s,s < m.Rows.length ∧ J = s * kk m ∧ Zx m J = s) : ¬ P18 m := by
 rintro ⟨v,v1,v2⟩
 have l1 := h.len1
 have low : ∀ I,I < J → tE m I < Zx m J := fun I hI => by
  have q1 := h1 I hI
  have q2 := QI (m := m) (show I + 1 ≤ J from hI)
  simp only [Zx] at q2
  split at q2 <;> omega
 have up : ∀ I,I < m.Rows.length * kk m → rk (kk m) (v (tE m I)) ≤ kk m * rk (kk m) (v (I / kk m)) + I % kk m + 1 := fun I hI => by
  obtain ⟨d1,d2⟩ := z6S hI
  have a1 := v1 _ d1
  have a2 := v1 _ (zfa h hc hI)
  rw [← z8i]
  refine a2.least _ (fun j hj => ?_) ?_
  ·rcases List.mem_append.1 hj with q | q
   ·exact a1.wd j q
   ·rw [List.mem_singleton.1 q]; exact d2
  ·rw [z8Z h hc d1 d2 a1.aft,Nat.mul_comm,Nat.div_add_mod]
 have hit : ∀ t,1 ≤ t → t < m.Rows.length → ∃ I,I < t * kk m ∧ tE m I = t ∧ rk (kk m) (v t) = kk m * rk (kk m) (v (I / kk m)) + I % kk m + 1 := fun t t1 t2 => by
  have a := v1 t t2
  rcases List.eq_nil_or_concat (v t) with g | ⟨u,i,g⟩
  ·have e := a.aft
   rw [g] at e
   have e : (0 : Int) = (t : Int) := e
   omega
  ·rw [List.concat_eq_append] at g
   have wd := a.wd
   rw [g] at wd
   have hu : Wd (kk m) u := fun j hj => wd j (by simp [hj])
   have hi := wd i (by simp)
   obtain ⟨s,s1,s2⟩ := z7S h hc u hu
   have e := a.aft
   rw [g,z8Z h hc s1 hi s2] at e
   have b := v1 s s1
   have b1 := b.least u hu s2
   have hI : s * kk m + i < m.Rows.length * kk m := by
    have := Nat.mul_le_mul_right (kk m) (show s + 1 ≤ m.Rows.length from s1)
    rw [Nat.add_mul] at this
    omega
   have b2 := up _ hI
   have e : tE m (s * kk m + i) = t := by omega
   have hr := z8i (kk m) u i
   rw [← g] at hr
   rw [(z3f hi).1,(z3f hi).2,e] at b2
   have g2 := Nat.mul_le_mul_left (kk m) b1
   have hst : s < t := by
    rcases Nat.lt_or_ge s t with q | q
    ·exact q
    ·have k1 := h.kk_pos
     have c : rk (kk m) (v t) ≤ rk (kk m) (v s) := by
      rcases Nat.lt_or_ge t s with q2 | q2
      ·exact Nat.le_of_lt (v2 t s q2 s1)
      ·rw [show t = s by omega]; exact Nat.le_refl _
     have c2 := Nat.mul_le_mul k1 (Nat.le_refl (rk (kk m) u))
     rw [Nat.one_mul] at c2
     omega
   refine ⟨s * kk m + i,?_,e,?_⟩
   ·have := Nat.mul_le_mul_right (kk m) (show s + 1 ≤ t from hst)
    rw [Nat.add_mul] at this
    omega
   ·rw [(z3f hi).1,(z3f hi).2]; omega
 rcases h2 with ⟨j1,j2⟩ | ⟨s,s1,rfl,s2⟩
 ·have hq := zej m J
  have ht := zfa h hc j1
  obtain ⟨I,i1,i2,i3⟩ := hit (Zx m J) hq (by omega)
  have hIJ : J < I := by
   rcases Nat.lt_trichotomy I J with q | q | q
   ·have := low I q; omega
   ·rw [q] at i2; omega
   ·exact q
  have b := up J j1
  have c := v2 _ _ j2 ht
  have hI : I < m.Rows.length * kk m := by
   have := Nat.mul_le_mul_right (kk m) (show Zx m J ≤ m.Rows.length by omega)
   omega
  have hd := Nat.div_le_div_right (c := kk m) (Nat.le_of_lt hIJ)
  rcases Nat.lt_or_ge (J / kk m) (I / kk m) with q | q
  ·have g2 := Nat.mul_le_mul_left (kk m) (Nat.succ_le_of_lt (v2 _ _ q (z6S hI).1))
   rw [Nat.mul_succ] at g2
   have := (z6S j1).2
   omega
  ·have e2 : J / kk m = I / kk m := by omega
   have m1 := Nat.div_add_mod J (kk m)
   have m2 := Nat.div_add_mod I (kk m)
   rw [e2] at m1 b
   omega
 ·have hq := zej m (s * kk m)
  obtain ⟨I,i1,i2,i3⟩ := hit s (by omega) s1
  have := low I i1
  omega
theorem zgf : Ret (vN m) fun b => b = true ↔ P18 m := by
 refine (zcE h hc).mono ?_
 rintro b (⟨rfl,b1,b2,b3⟩ | ⟨rfl,J,b1,b2⟩)
 ·exact ⟨fun _ => za5 h hc b1 b2 b3,fun _ => rfl⟩
 ·exact ⟨fun e => (by cases e),fun p => absurd p (z9b h hc b1 b2)⟩
end
theorem z8o {n : Nat} : ∀ {l : List Nat} {a : Nat},l.Pairwise (· < ·) → (∀ t,t ∈ l ↔ a ≤ t ∧ t < n) → l = List.range' a (n - a)
 | [],a,_,h => by
  have : n - a = 0 := by
   rcases Nat.lt_or_ge a n with q | q
   ·have := (h a).2 ⟨Nat.le_refl _,q⟩; cases this
   ·omega
  rw [this]; rfl
 | x :: l,a,hp,h => by
  obtain ⟨p1,p2⟩ := List.pairwise_cons.1 hp
  have hx := (h x).1 List.mem_cons_self
  have hxa : x = a := by
   rcases List.mem_cons.1 ((h a).2 ⟨Nat.le_refl _,by omega⟩) with q | q
   ·exact q.symm
   ·have := p1 a q; omega
  subst hxa
  rw [show n - x = (n - (x + 1)) + 1 by omega,List.range'_succ]
  congr 1
  refine z8o p2 fun t => ⟨fun ht => ?_,fun ht => ?_⟩
  ·have := p1 t ht
   have := (h t).1 (List.mem_cons_of_mem _ ht)
   omega
  ·rcases List.mem_cons.1 ((h t).2 ⟨by omega,ht.2⟩) with q | q
   ·omega
   ·exact q
def zil (m : z4) (L : List Nat) (s n : Nat) (row : List z5) : Prop :=
 row.length = n ∧ ∀ i,i < n → ∃ p : Nat,L[p]? = some (E m s i).To.toNat ∧ row[i]? = some ⟨(p : Int),(E m s i).Out⟩
def zgr (m : z4) (L : List Nat) (n : Nat) (R : List (List z5)) : Prop :=
 R.length = n ∧ ∀ j s,j < n → L[j]? = some s → ∃ row : List z5,R[j]? = some row ∧ zil m L s (kk m) row
theorem z9S {P : Nat → α → Prop} {l : List α} {n : Nat} (hl : l.length = n) (h : ∀ j,j < n → ∃ x,l[j]? = some x ∧ P j x) {y : α} (hy : P n y) : ∀ j,j < n + 1 → ∃ x,(l ++ [y])[j]? = some x ∧ P j x := fun j hj => by
 rcases Nat.lt_or_ge j n with q | q
 ·obtain ⟨x,h1,h2⟩ := h j q
  exact ⟨x,by rw [List.getElem?_append_left (by omega)]; exact h1,h2⟩
 ·obtain rfl : j = n := by omega
  exact ⟨y,by rw [List.getElem?_append_right (by omega),hl,Nat.sub_self]; rfl,hy⟩
section
variable {m : z4} (h : VM m) (hc : Cpl m)
include h hc
theorem zhz {L : List Nat} (hl : L.length ≤ 64) (hL : ∀ s,s ∈ L ↔ s < m.Rows.length) : Ret (WT m (L.map Int.ofNat)) fun o => ∃ R,o = z4.mk m.Inputs m.Outputs R ∧ zgr m L L.length R := by
 have k16 := h.kk_le
 have hk := h.kk_eq
 have w1 : ∀ n : Nat,n < 10000 → w64 ((n : Int) + 1) = ((n + 1 : Nat) : Int) := fun n hn => by rw [zm (by omega) (by omega)]; rfl
 have hm : ∀ {j s : Nat},L[j]? = some s → (L.map Int.ofNat)[j]? = some (s : Int) := fun q => by rw [List.getElem?_map,q]; rfl
 have pos : ∀ e : z5,0 ≤ e.To → e.To.toNat ∈ L → Ret (loop (fun q => uK (L.map Int.ofNat) e q.1 q.2) (-1,0)) fun r => ∃ p : Nat,r = (p : Int) ∧ L[p]? = some e.To.toNat := fun e e0 hx => by
  refine zt (fun q => ∃ n : Nat,q.2 = (n : Int) ∧ n ≤ L.length ∧ ((q.1 = -1 ∧ ∀ p,p < n → L[p]? ≠ some e.To.toNat) ∨ ∃ p : Nat,q.1 = (p : Int) ∧ L[p]? = some e.To.toNat)) (fun q => 1000 - q.2.toNat) ⟨0,rfl,Nat.zero_le _,.inl ⟨rfl,fun p hp => by omega⟩⟩ (by simp) ?_
  rintro ⟨v,_⟩ ⟨n,rfl,hn,hv⟩
  show Ret (uK (L.map Int.ofNat) e v (n : Int)) _
  unfold uK
  rw [zg]
  refine ⟨fun c => ?_,fun c => ?_⟩
  ·have hlt : n < L.length := by have := of_decide_eq_true c; simp only [List.length_map] at this; omega
   have hx := List.getElem?_eq_getElem hlt
   rw [zx,bdT (hm hx),zg]
   unfold kU
   rw [w1 n (by omega)]
   refine ⟨fun c => ?_,fun c => ?_⟩
   ·have he : L[n] = e.To.toNat := by have := eq_of_beq c; omega
    exact z6.2 ⟨⟨n + 1,rfl,hlt,.inr ⟨n,rfl,by rw [hx,he]⟩⟩,by simp only [Int.toNat_natCast]; omega⟩
   ·refine z6.2 ⟨⟨n + 1,rfl,hlt,?_⟩,by simp only [Int.toNat_natCast]; omega⟩
    rcases hv with ⟨v1,v2⟩ | hv
    ·refine .inl ⟨v1,fun p hp => ?_⟩
     rcases Nat.lt_or_ge p n with q | q
     ·exact v2 p q
     ·obtain rfl : p = n := by omega
      intro g
      rw [hx] at g
      have := Option.some.inj g
      have c := ne_of_beq_false c
      omega
    ·exact .inr hv
  ·have hlt : n = L.length := by have := of_decide_eq_false c; simp only [List.length_map] at this; omega
   refine z6.2 ?_
   rcases hv with ⟨v1,v2⟩ | hv
   ·obtain ⟨p,hp⟩ := List.getElem?_of_mem hx
    exact absurd hp (v2 p (by have := (List.getElem?_eq_some_iff.1 hp).1; omega))
   ·exact hv
 have rowr : ∀ (j s : Nat),L[j]? = some s → Ret (loop (fun q => uL m (L.map Int.ofNat) (j : Int) q.1 q.2) (([] : List z5),0)) (zil m L s (kk m)) := fun j s hj => by
  have hs : s < m.Rows.length := (hL s).1 (List.mem_of_getElem? hj)
  refine zt (fun q => ∃ i : Nat,q.2 = (i : Int) ∧ i ≤ kk m ∧ zil m L s i q.1) (fun q => 1000 - q.2.toNat) ⟨0,rfl,Nat.zero_le _,rfl,fun i hi => by omega⟩ (by simp) ?_
  rintro ⟨ay,_⟩ ⟨i,rfl,hi,a1,a2⟩
  replace a1 : ay.length = i := a1
  show Ret (uL m (L.map Int.ofNat) (j : Int) ay (i : Int)) _
  unfold uL
  rw [zg]
  refine ⟨fun c => ?_,fun c => ?_⟩
  ·have hlt : i < kk m := by have := of_decide_eq_true c; omega
   have t0 := hc s i hs hlt
   have t1 := h.edgeAt hs hlt
   rw [zx,bdT (hm hj),h.edge_eq hs hlt,zh]
   refine (pos _ t0 ((hL _).2 (by omega))).mono ?_
   rintro _ ⟨p,rfl,hp⟩
   unfold YP YQ
   rw [gdT (by simp; omega),w1 i (by omega)]
   refine z6.2 ⟨⟨i + 1,rfl,hlt,by simp [a1],fun i' hi' => ?_⟩,by simp only [Int.toNat_natCast]; omega⟩
   obtain ⟨x,x1,p',x2,rfl⟩ := z9S (P := fun i x => ∃ p : Nat,L[p]? = some (E m s i).To.toNat ∧ x = ⟨(p : Int),(E m s i).Out⟩) a1 (fun i' q => by obtain ⟨p,p1,p2⟩ := a2 i' q; exact ⟨_,p2,p,p1,rfl⟩) ⟨p,hp,rfl⟩ i' hi'
   exact ⟨p',x2,x1⟩
  ·have : i = kk m := by have := of_decide_eq_false c; omega
   rw [← this]
   exact z6.2 ⟨a1,a2⟩
 have outer : Ret (loop (fun s => uM m (L.map Int.ofNat) s.1 s.2) (([] : List (List z5)),0)) (zgr m L L.length) := by
  refine zt (fun q => ∃ j : Nat,q.2 = (j : Int) ∧ j ≤ L.length ∧ zgr m L j q.1) (fun q => 1000 - q.2.toNat) ⟨0,rfl,Nat.zero_le _,rfl,fun j s hj => by omega⟩ (by simp) ?_
  rintro ⟨al,_⟩ ⟨j,rfl,hj,a1,a2⟩
  replace a1 : al.length = j := a1
  show Ret (uM m (L.map Int.ofNat) al (j : Int)) _
  unfold uM
  rw [zg]
  refine ⟨fun c => ?_,fun c => ?_⟩
  ·have hlt : j < L.length := by have := of_decide_eq_true c; simp only [List.length_map] at this; omega
   have hx := List.getElem?_eq_getElem hlt
   rw [zh]
   refine (rowr j _ hx).mono fun row hr => ?_
   unfold YR YS
   rw [gdT (by simp; omega),w1 j (by omega)]
   refine z6.2 ⟨⟨j + 1,rfl,hlt,by simp [a1],fun j' s hj' hs => ?_⟩,by simp only [Int.toNat_natCast]; omega⟩
   obtain ⟨x,x1,x2⟩ := z9S (P := fun j x => ∀ s,L[j]? = some s → zil m L s (kk m) x) a1 (fun j' q => by
    obtain ⟨row,r1,r2⟩ := a2 j' _ q (List.getElem?_eq_getElem (by omega))
    exact ⟨row,r1,fun s hs => by rw [List.getElem?_eq_getElem (by omega)] at hs; cases hs; exact r2⟩) (fun s hs => by rw [hx] at hs; cases hs; exact hr) j' hj'
   exact ⟨x,x1,x2 s hs⟩
  ·have : j = L.length := by have := of_decide_eq_false c; simp only [List.length_map] at this; omega
   rw [← this]
   exact z6.2 ⟨a1,a2⟩
 unfold WT
 rw [zh]
 refine outer.mono fun R hR => ?_
 unfold YT
 exact z6.2 ⟨R,rfl,hR⟩
variable (hG : GG (kk m) m.Rows.length ≤ 1000000000)
include hG
theorem zcO : Ret (wS m) fun b => b = true ↔ P18 m := by
 have l1 := h.len1
 have l64 := h.len64
 have k16 := h.kk_le
 have w1 : ∀ n : Nat,n < 10000 → w64 ((n : Int) + 1) = ((n + 1 : Nat) : Int) := fun n hn => by rw [zm (by omega) (by omega)]; rfl
 unfold wS
 rw [zh]
 refine (z0g h hG).mono ?_
 rintro r ⟨r1,r2,r3⟩
 rw [zh]
 have lp : Ret (loop (fun s => wt r s) 0) fun t => match t with
   | .inl _ => ∀ t,t < m.Rows.length → ∃ v,Acc m t v
   | .inr b => b = false ∧ ¬ P18 m := by
  refine zt (fun q => ∃ s : Nat,q = (s : Int) ∧ s ≤ m.Rows.length ∧ ∀ t,t < s → ∃ v,Acc m t v) (fun q => 1000 - q.toNat) ⟨0,rfl,Nat.zero_le _,fun t ht => by omega⟩ (by simp) ?_
  rintro _ ⟨s,rfl,hs,hv⟩
  unfold wt
  rw [zg]
  refine ⟨fun c => ?_,fun c => ?_⟩
  ·have hlt : s < m.Rows.length := by have := of_decide_eq_true c; omega
   rcases r3 s hlt with ⟨g1,v,_,g2⟩ | ⟨g1,g2⟩
   ·rw [zx,bdT g1,w1 s (by omega)]
    refine z6.2 ⟨⟨s + 1,rfl,hlt,fun t ht => ?_⟩,by simp only [Int.toNat_natCast]; omega⟩
    rcases Nat.lt_or_ge t s with q | q
    ·exact hv t q
    ·obtain rfl : t = s := by omega
     exact ⟨v,g2⟩
   ·rw [zx,bdT g1]
    refine z6.2 ⟨rfl,fun ⟨v,v1,_⟩ => ?_⟩
    have a := v1 s hlt
    exact g2 _ a.wd a.aft
  ·obtain rfl : s = m.Rows.length := by have := of_decide_eq_false c; omega
   exact z6.2 hv
 refine lp.mono ?_
 rintro (_ | b) ht
 ·show Ret (wu m) _
  unfold wu kV
  rw [zh,zh]
  refine (z6o h hG).mono ?_
  rintro _ ⟨L,rfl,o1,o2,o3⟩
  have hL : ∀ s,s ∈ L ↔ s < m.Rows.length := fun s => ⟨fun q => (o2 s q).1,fun q => Classical.byContradiction fun hn => by
   obtain ⟨v,a⟩ := ht s q
   exact o3 s q hn v a.wd a.aft⟩
  have hnd : L.Nodup := List.Pairwise.imp_of_mem (fun {a b} ha hb q e => by
   subst e
   obtain ⟨v,hv⟩ := (o2 a ha).2
   exact absurd (q v v hv hv) (Nat.lt_irrefl _)) o1
  have hl := ZI m.Rows.length L hnd fun x hx => (hL x).1 hx
  rw [zh]
  refine (zhz h hc (by omega) hL).mono ?_
  rintro _ ⟨R,rfl,p1,p2⟩
  refine z6.2 ?_
  rw [zea (p := m) (q := z4.mk m.Inputs m.Outputs R) rfl rfl (by omega) (fun r hr => by have := h.row r hr; have := h.kk_eq; omega)]
  refine z6.2 ?_
  rw [decide_eq_true_eq]
  constructor
  ·intro e
   have e : m.Rows = R := e
   have hid : ∀ (n : Nat) (u : List Nat),u.length ≤ n → Wd (kk m) u → ∀ t : Nat,aft m 0 u = (t : Int) → L[t]? = some t := by
    intro n
    have base : L[0]? = some 0 := by
     have h0 : (0 : Nat) ∈ L := (hL 0).2 (by omega)
     cases hLe : L with
     | nil => rw [hLe] at h0; cases h0
     | cons x L' =>
      rw [hLe] at h0 o1
      rcases List.mem_cons.1 h0 with q | q
      ·rw [← q]; rfl
      ·obtain ⟨v,hv⟩ := ht 0 (by omega)
       obtain ⟨w,hw⟩ := (o2 x (by rw [hLe]; exact List.mem_cons_self)).2
       have h1 := (List.pairwise_cons.1 o1).1 0 q w v hw hv
       have h2 := hv.least [] (fun i hi => by simp at hi) rfl
       have h3 : rk (kk m) [] = 0 := rfl
       omega
    induction n with
    | zero =>
     intro u hu _ t et
     rw [List.length_eq_zero_iff.1 (show u.length = 0 by omega)] at et
     have et : (0 : Int) = (t : Int) := et
     rw [show t = 0 by omega]; exact base
    | succ n ih =>
     intro u hu wd t et
     rcases List.eq_nil_or_concat u with g | ⟨u',i,g⟩
     ·rw [g] at et
      have et : (0 : Int) = (t : Int) := et
      rw [show t = 0 by omega]; exact base
     ·rw [List.concat_eq_append] at g
      subst g
      rw [List.length_append,List.length_singleton] at hu
      have hu' : Wd (kk m) u' := fun j hj => wd j (by simp [hj])
      have hi := wd i (by simp)
      obtain ⟨s,s1,s2⟩ := z7S h hc u' hu'
      have hs := ih u' (by omega) hu' s s2
      rw [z5A,s2,j0] at et
      obtain ⟨row,w1,w2,w3⟩ := p2 s s (by have := (List.getElem?_eq_some_iff.1 hs).1; omega) hs
      obtain ⟨p,q1,q2⟩ := w3 i hi
      obtain ⟨row',v1,v2,v3⟩ := h.rowAt s1
      rw [e,w1] at v1
      cases v1
      rw [v3 i hi] at q2
      have q3 := congrArg z5.To (Option.some.inj q2)
      have q3 : (E m s i).To = (p : Int) := q3
      rw [show t = p by omega,q1,show (E m s i).To.toNat = p by omega]
   have hLr : ∀ t,t < m.Rows.length → L[t]? = some t := fun t q => by
    obtain ⟨v,a⟩ := ht t q
    exact hid _ v (Nat.le_refl _) a.wd t a.aft
   obtain ⟨v,hv⟩ := Classical.skolem.1 fun t : Nat => show ∃ v,t < m.Rows.length → Acc m t v by
    by_cases q : t < m.Rows.length
    ·obtain ⟨v,a⟩ := ht t q; exact ⟨v,fun _ => a⟩
    ·exact ⟨[],fun q2 => absurd q2 q⟩
   refine ⟨v,hv,fun s t hst htl => ?_⟩
   obtain ⟨s1,s2⟩ := List.getElem?_eq_some_iff.1 (hLr s (by omega))
   obtain ⟨t1,t2⟩ := List.getElem?_eq_some_iff.1 (hLr t htl)
   have := List.pairwise_iff_getElem.1 o1 s t s1 t1 hst
   rw [s2,t2] at this
   exact this _ _ (hv s (by omega)) (hv t htl)
  ·rintro ⟨v,v1,v2⟩
   have hLr : L = List.range m.Rows.length := by
    have := z8o (n := m.Rows.length) (l := L) (a := 0) (List.Pairwise.imp_of_mem (fun {a b} ha hb q => by
     have la := (hL a).1 ha
     have lb := (hL b).1 hb
     have q1 := q _ _ (v1 a la) (v1 b lb)
     rcases Nat.lt_trichotomy a b with g | g | g
     ·exact g
     ·rw [g] at q1; exact absurd q1 (Nat.lt_irrefl _)
     ·have := v2 b a g la; omega) o1) (fun t => by rw [hL t]; omega)
    rw [this,List.range_eq_range',Nat.sub_zero]
   have hlen : L.length = m.Rows.length := by rw [hLr,List.length_range]
   have hat : ∀ {p s : Nat},L[p]? = some s → s = p := fun {p s} q => by
    rw [hLr] at q
    obtain ⟨q1,q2⟩ := List.getElem?_eq_some_iff.1 q
    rw [List.getElem_range] at q2
    exact q2.symm
   show m.Rows = R
   refine List.ext_getElem? fun s => ?_
   rcases Nat.lt_or_ge s m.Rows.length with q | q
   ·have hs : L[s]? = some s := by rw [hLr,List.getElem?_eq_getElem (by simpa using q),List.getElem_range]
    obtain ⟨row,w1,w2,w3⟩ := p2 s s (by omega) hs
    obtain ⟨row',u1,u2,u3⟩ := h.rowAt q
    rw [w1,u1]
    congr 1
    refine List.ext_getElem? fun i => ?_
    rcases Nat.lt_or_ge i (kk m) with g | g
    ·obtain ⟨p,e1,e2⟩ := w3 i g
     rw [u3 i g,e2]
     have e1 := hat e1
     have t0 := hc s i q g
     rw [show (p : Int) = (E m s i).To by omega]
    ·rw [List.getElem?_eq_none (by omega),List.getElem?_eq_none (by omega)]
   ·rw [List.getElem?_eq_none q,List.getElem?_eq_none (by omega)]
 ·obtain ⟨rfl,hn⟩ := ht
  exact z6.2 ⟨fun e => (by cases e),fun p => absurd p hn⟩
end
theorem z34 {l : List Int} (h : ∀ c ∈ l,0 ≤ c) : (l.map Int.toNat).map Int.ofNat = l := by
 rw [List.map_map]
 conv => rhs; rw [← List.map_id l]
 exact List.map_congr_left fun c hc => by have := h c hc; show ((c.toNat : Nat) : Int) = c; omega
def fd : List Int → List Int → Nat → Int
 | x :: a,y :: b,k => if x = y then fd a b (k + 1) else (k : Int)
 | _,_,_ => -1
theorem zhO : ∀ (a b : List Int) (k : Nat),fd a b k = -1 ∨ (k : Int) ≤ fd a b k
 | [],_,_ => .inl rfl
 | _ :: _,[],_ => .inl rfl
 | x :: a,y :: b,k => by
  simp only [fd]
  split
  ·rcases zhO a b (k + 1) with h | h
   ·exact .inl h
   ·exact .inr (by omega)
  ·exact .inr (Int.le_refl _)
def ouS : Unit ⊕ Int → Int
 | .inl _ => -1
 | .inr p => p
theorem z9c {a b : List Int} (hl : a.length = b.length) (ha : a.length < 4611686018427387904) : Ret (loop (fun s => jY a b s) 0) fun t => ouS t = fd a b 0 := by
 refine zt (fun q => ∃ k : Nat,q = (k : Int) ∧ k ≤ a.length ∧ fd (a.drop k) (b.drop k) k = fd a b 0) (fun q => a.length + 1 - q.toNat) ⟨0,rfl,Nat.zero_le _,rfl⟩ (by simp; omega) ?_
 rintro _ ⟨k,rfl,hk,e⟩
 unfold jY
 rw [zg]
 refine ⟨fun c => ?_,fun c => ?_⟩
 ·have hlt : k < a.length := by simpa using c
  have hlb : k < b.length := by omega
  rw [zx,bdT (List.getElem?_eq_getElem hlt),zx,bdT (List.getElem?_eq_getElem hlb),zg]
  rw [List.drop_eq_getElem_cons hlt,List.drop_eq_getElem_cons hlb] at e
  simp only [fd] at e
  refine ⟨fun c2 => ?_,fun c2 => ?_⟩
  ·have hne : a[k] ≠ b[k] := by simpa using c2
   rw [if_neg hne] at e
   exact z6.2 e
  ·have he : a[k] = b[k] := by simpa using c2
   rw [if_pos he] at e
   have hw : w64 ((k : Int) + 1) = ((k + 1 : Nat) : Int) := by rw [zm (by omega) (by omega)]; rfl
   exact z6.2 ⟨⟨k + 1,hw,hlt,e⟩,by rw [hw]; simp only [Int.toNat_natCast]; omega⟩
 ·have hge : k = a.length := by have := of_decide_eq_false c; omega
  subst hge
  rw [List.drop_length] at e
  exact z6.2 e
section
variable {m o : z4} (hm : VM m) (ho : VM o) (hi : m.Inputs = o.Inputs)
include hm ho hi
theorem zaJ : kk m = kk o := by have := hm.kk_eq; have := ho.kk_eq; omega
omit hm ho hi in
theorem st0 (hm : VM m) : z1o m 0 := ⟨by omega,by have := hm.len1; omega⟩
def stp (m o : z4) (w : List Int) : Int := fd (rsp m 0 (w.map Int.toNat)) (rsp o 0 (w.map Int.toNat)) 0
theorem zcG (hw : ∀ c ∈ w,0 ≤ c ∧ c < m.Inputs) (hl : w.length ≤ 1000) : WQ m o w = some (stp m o w) := by
 have hn : (w.map Int.toNat).map Int.ofNat = w := z34 fun c hc => (hw c hc).1
 have hk := hm.kk_eq
 have hk2 := zaJ hm ho hi
 have hd : ∀ i ∈ w.map Int.toNat,i < kk m := fun i h => by
  obtain ⟨c,hc,rfl⟩ := List.mem_map.1 h
  have := hw c hc
  omega
 have hll : (w.map Int.toNat).length ≤ 1000 := by rw [List.length_map]; exact hl
 have e1 := zeb hm (st0 hm) (w.map Int.toNat) hd (by omega)
 have e2 := zeb ho (st0 ho) (w.map Int.toNat) (fun i h => hk2 ▸ hd i h) (by omega)
 rw [hn] at e1 e2
 unfold WQ
 rw [bdT e1,bdT e2]
 refine Ret.eq ?_
 rw [zh]
 refine (z9c (by rw [z5c,z5c]) (by rw [z5c]; omega)).mono fun t ht => ?_
 unfold stp
 rw [← ht]
 cases t <;> exact z6.2 rfl
theorem zdo (hw : ∀ c ∈ w,0 ≤ c ∧ c < m.Inputs) (hl : w.length ≤ 1000) : V6 m o w = some (stp m o w) := by
 have hk := hm.kk_eq
 have hk2 := zaJ hm ho hi
 obtain ⟨v,hv⟩ : ∃ v,v = w.map Int.toNat := ⟨_,rfl⟩
 have hn : v.map Int.ofNat = w := by rw [hv]; exact z34 fun c hc => (hw c hc).1
 have hd : ∀ i ∈ v,i < kk m := fun i h => by
  rw [hv] at h
  obtain ⟨c,hc,rfl⟩ := List.mem_map.1 h
  have := hw c hc
  omega
 have hvl : v.length = w.length := by rw [hv,List.length_map]
 unfold V6
 refine Ret.eq ?_
 rw [zh]
 have key : Ret (loop (fun s => jK m o w s.1 s.2.1 s.2.2) (0,0,0)) fun t => ouS t = stp m o w := by
  refine zt (fun q => ∃ k : Nat,q.2.2 = (k : Int) ∧ k ≤ v.length ∧ z1o m q.1 ∧ z1o o q.2.1 ∧ fd (rsp m q.1 (v.drop k)) (rsp o q.2.1 (v.drop k)) k = stp m o w) (fun q => 2000 - q.2.2.toNat) ⟨0,rfl,Nat.zero_le _,st0 hm,st0 ho,by rw [hv]; rfl⟩ (by show 2000 - _ < _; omega) ?_
  rintro ⟨s,t,_⟩ ⟨k,rfl,hkl,hs,ht,e⟩
  simp only at hs ht e
  show Ret (jK m o w s t (k : Int)) _
  unfold jK
  rw [zg]
  refine ⟨fun c => ?_,fun c => ?_⟩
  ·have hlt : k < v.length := by rw [hvl]; simpa using c
   have hx : w[k]? = some ((v[k] : Nat) : Int) := by rw [← hn,List.getElem?_map,List.getElem?_eq_getElem hlt]; rfl
   have hxk : v[k] < kk m := hd _ (List.getElem_mem hlt)
   have hxo : v[k] < kk o := hk2 ▸ hxk
   rw [List.drop_eq_getElem_cons hlt] at e
   simp only [rsp,fd] at e
   have hw64 : w64 ((k : Int) + 1) = ((k + 1 : Nat) : Int) := by rw [zm (by omega) (by omega)]; rfl
   have fin : Ret (uD (k : Int) (nxE m s v[k]).To (nxE m s v[k]).Out (nxE o t v[k]).To (nxE o t v[k]).Out) (LRP (fun q => (∃ k : Nat,q.2.2 = (k : Int) ∧ k ≤ v.length ∧ z1o m q.1 ∧ z1o o q.2.1 ∧ fd (rsp m q.1 (v.drop k)) (rsp o q.2.1 (v.drop k)) k = stp m o w) ∧ 2000 - q.2.2.toNat < 2000 - ((k : Int)).toNat) fun t => ouS t = stp m o w) := by
    unfold uD
    rw [zg]
    refine ⟨fun c2 => ?_,fun c2 => ?_⟩
    ·have hne : (nxE m s v[k]).Out ≠ (nxE o t v[k]).Out := by simpa using c2
     rw [if_neg hne] at e
     exact z6.2 e
    ·have he : (nxE m s v[k]).Out = (nxE o t v[k]).Out := by simpa using c2
     rw [if_pos he] at e
     rw [hw64]
     exact z6.2 ⟨⟨k + 1,rfl,hlt,zfD hm hs hxk,zfD ho ht hxo,e⟩,by simp only [Int.toNat_natCast]; omega⟩
   have fin3 : Ret (uE o t (k : Int) ((v[k] : Nat) : Int) (nxE m s v[k]).To (nxE m s v[k]).Out) (LRP (fun q => (∃ k : Nat,q.2.2 = (k : Int) ∧ k ≤ v.length ∧ z1o m q.1 ∧ z1o o q.2.1 ∧ fd (rsp m q.1 (v.drop k)) (rsp o q.2.1 (v.drop k)) k = stp m o w) ∧ 2000 - q.2.2.toNat < 2000 - ((k : Int)).toNat) fun t => ouS t = stp m o w) := by
    unfold uE
    rw [zg]
    refine ⟨fun c2 => ?_,fun c2 => ?_⟩
    ·have h1 : t ≠ -1 := by simpa using c2
     have h2 := ht.1
     have h3 := ht.2
     have he := ho.edge_eq (s := t.toNat) (by omega) hxo (f := fun e => uD (k : Int) (nxE m s v[k]).To (nxE m s v[k]).Out e.To e.Out)
     rw [show ((t.toNat : Nat) : Int) = t by omega] at he
     rw [he]
     have : nxE o t v[k] = E o t.toNat v[k] := by unfold nxE; rw [if_neg (by omega)]
     rw [← this]
     exact fin
    ·have h1 : t = -1 := by simpa using c2
     have : nxE o t v[k] = ⟨-1,-1⟩ := by unfold nxE; rw [if_pos (by omega)]
     rw [this] at fin
     exact fin
   rw [zx,bdT hx,zg]
   refine ⟨fun c2 => ?_,fun c2 => ?_⟩
   ·have h1 : s ≠ -1 := by simpa using c2
    have h2 := hs.1
    have h3 := hs.2
    have he := hm.edge_eq (s := s.toNat) (by omega) hxk (f := fun e => uE o t (k : Int) ((v[k] : Nat) : Int) e.To e.Out)
    rw [show ((s.toNat : Nat) : Int) = s by omega] at he
    rw [he]
    have : nxE m s v[k] = E m s.toNat v[k] := by unfold nxE; rw [if_neg (by omega)]
    rw [← this]
    exact fin3
   ·have h1 : s = -1 := by simpa using c2
    have : nxE m s v[k] = ⟨-1,-1⟩ := by unfold nxE; rw [if_pos (by omega)]
    rw [this] at fin3
    exact fin3
  ·have hge : k = v.length := by have := of_decide_eq_false c; omega
   subst hge
   rw [List.drop_length] at e
   exact z6.2 e
 refine key.mono fun t ht => ?_
 rw [← ht]
 cases t <;> exact z6.2 rfl
variable {l : List (List Int)} (hl : l.length ≤ 1000) (hw : ∀ w ∈ l,w.length ≤ 1000 ∧ ∀ c ∈ w,0 ≤ c ∧ c < m.Inputs)
include hl hw
end
theorem zfI {a c : Nat} (hc : 1 ≤ c) : min (min a 65537 * c) 65537 = min (a * c) 65537 := by
 rcases Nat.le_total a 65537 with h | h
 ·rw [Nat.min_eq_left h]
 ·rw [Nat.min_eq_right h]
  have h1 := Nat.mul_le_mul_right c h
  omega
section
variable {m : z4} (h : VM m)
include h
theorem zdB (hs : 1 ≤ s ∧ s ≤ 65536) : Ret (loop (fun q => uY m (s : Int) q.1 q.2) (1,0)) fun x => ∃ i : Nat,i ≤ s * kk m ∧ x = (((s * m.Outputs.toNat) ^ i : Nat) : Int) ∧ (i = s * kk m ∨ 65536 < x) := by
 have hk := h.kk_eq
 have hk2 := h.kk_le
 have o1 := h.out1
 have o2 := h.out16
 obtain ⟨o,ho⟩ : ∃ o : Nat,m.Outputs = (o : Int) := ⟨m.Outputs.toNat,by omega⟩
 rw [ho,Int.toNat_natCast]
 have hN : s * kk m ≤ 65536 * 16 := Nat.mul_le_mul hs.2 hk2
 have hC : s * o ≤ 65536 * 16 := Nat.mul_le_mul hs.2 (by omega)
 have e1 : w64 ((s : Int) * m.Inputs) = ((s * kk m : Nat) : Int) := by rw [← hk,← Int.natCast_mul,zm (by omega) (by omega)]
 have e2 : w64 ((s : Int) * m.Outputs) = ((s * o : Nat) : Int) := by rw [ho,← Int.natCast_mul,zm (by omega) (by omega)]
 refine zt (fun q => ∃ i : Nat,q.2 = (i : Int) ∧ i ≤ s * kk m ∧ q.1 = (((s * o) ^ i : Nat) : Int)) (fun q => 2000000 - q.2.toNat) ⟨0,rfl,Nat.zero_le _,by simp⟩ (by show 2000000 - _ < _; omega) ?_
 rintro ⟨_,_⟩ ⟨i,rfl,hi,rfl⟩
 show Ret (uY m (s : Int) _ (i : Int)) _
 unfold uY
 rw [e1,e2,zg]
 refine ⟨fun c => ?_,fun c => ?_⟩
 ·have hlt : i < s * kk m := by have := of_decide_eq_true c; omega
  rw [zg]
  refine ⟨fun c2 => ?_,fun c2 => ?_⟩
  ·have hp : (s * o) ^ i ≤ 65536 := by have := of_decide_eq_true c2; omega
   have hm : (s * o) ^ i * (s * o) ≤ 65536 * (65536 * 16) := Nat.mul_le_mul hp hC
   have hw : w64 ((i : Int) + 1) = ((i + 1 : Nat) : Int) := by rw [zm (by omega) (by omega)]; rfl
   rw [← Int.natCast_mul,zm (x := (((s * o) ^ i * (s * o) : Nat) : Int)) (by omega) (by omega),hw]
   exact z6.2 ⟨⟨i + 1,rfl,hlt,by rw [Nat.pow_succ]⟩,by simp only [Int.toNat_natCast]; omega⟩
  ·exact z6.2 ⟨i,hi,rfl,.inr (by have := of_decide_eq_false c2; omega)⟩
 ·exact z6.2 ⟨i,hi,rfl,.inl (by have := of_decide_eq_false c; omega)⟩
theorem z2P (hs : 1 ≤ s ∧ s ≤ 20) : xc m (s : Int) = some ((min ((s * m.Outputs.toNat) ^ (s * kk m)) 65537 : Nat) : Int) := by
 have hk := h.kk_eq
 have hk2 := h.kk_le
 have o1 := h.out1
 have o2 := h.out16
 obtain ⟨o,ho⟩ : ∃ o : Nat,m.Outputs = (o : Int) := ⟨m.Outputs.toNat,by omega⟩
 rw [ho,Int.toNat_natCast]
 have hN : s * kk m ≤ 20 * 16 := Nat.mul_le_mul hs.2 hk2
 have hC : 1 ≤ s * o := Nat.mul_le_mul hs.1 (show 1 ≤ o by omega)
 have e1 : w64 ((s : Int) * m.Inputs) = ((s * kk m : Nat) : Int) := by rw [← hk,← Int.natCast_mul,zm (by omega) (by omega)]
 have hloop : loop (fun q => yD m (s : Int) q.1 q.2) (1,0) = some ((min ((s * o) ^ (s * kk m)) 65537 : Nat) : Int) := by
  have := xG (step := fun q => yD m (s : Int) q.1 q.2) (fun i => (((min ((s * o) ^ i) 65537 : Nat) : Int),(i : Int))) (s * kk m) (t := ((min ((s * o) ^ (s * kk m)) 65537 : Nat) : Int)) (by omega) (fun i hi => ?_) ?_
  ·exact this
  ·show yD m (s : Int) _ (i : Int) = _
   unfold yD
   have hw : w64 ((i : Int) + 1) = ((i + 1 : Nat) : Int) := by rw [zm (by omega) (by omega)]; rfl
   obtain ⟨a,ha⟩ : ∃ a,a = min ((s * o) ^ i) 65537 := ⟨_,rfl⟩
   have ha2 : a ≤ 65537 := by omega
   have m1 : a * s ≤ 65537 * 20 := Nat.mul_le_mul ha2 hs.2
   have m2 : a * s * o ≤ 65537 * 20 * 16 := Nat.mul_le_mul m1 (by omega)
   have q := zfI (a := (s * o) ^ i) hC
   rw [← ha,← Nat.mul_assoc,← Nat.pow_succ] at q
   rw [e1,decide_eq_true (by omega),cond_true,← ha,← Int.natCast_mul,zm (x := ((a * s : Nat) : Int)) (by omega) (by omega),ho,← Int.natCast_mul,zm (x := ((a * s * o : Nat) : Int)) (by omega) (by omega),hw,← q]
   congr 3
   unfold mn
   split <;> omega
  ·show yD m (s : Int) _ ((s * kk m : Nat) : Int) = _
   unfold yD
   rw [e1,decide_eq_false (by omega)]; rfl
 unfold xc
 rw [decide_eq_false (by omega),cond_false,bdT hloop]; rfl
theorem z9r (hn : 1 ≤ n) : ∃ x r : Int,uZ m n = some x ∧ xc m n = some r ∧ (65536 < x ↔ 65536 < r) ∧ (x ≤ 65536 → x = r) := by
 by_cases hb : 65536 < n
 ·refine ⟨65537,65537,?_,?_,Iff.rfl,fun _ => rfl⟩
  ·unfold uZ; rw [decide_eq_true (by omega)]; rfl
  ·unfold xc; rw [decide_eq_true (by omega)]; rfl
 obtain ⟨s,rfl⟩ : ∃ s : Nat,n = (s : Int) := ⟨n.toNat,by omega⟩
 have hk := h.kk_eq
 have k1 := h.kk_pos
 have o1 := h.out1
 obtain ⟨x,e,i,hi,rfl,hx⟩ := zdB h (s := s) ⟨by omega,by omega⟩
 have hg : uZ m (s : Int) = some (((s * m.Outputs.toNat) ^ i : Nat) : Int) := by
  unfold uZ
  rw [decide_eq_false (by omega),cond_false,bdT e]; rfl
 have hC : 1 ≤ s * m.Outputs.toNat := Nat.mul_le_mul (show 1 ≤ s by omega) (show 1 ≤ m.Outputs.toNat by omega)
 have hmono := Nat.pow_le_pow_right hC hi
 by_cases h20 : s ≤ 20
 ·refine ⟨_,_,hg,z2P h ⟨by omega,h20⟩,?_,?_⟩
  ·rcases hx with rfl | hx <;> omega
  ·rcases hx with rfl | hx <;> omega
 ·refine ⟨_,65537,hg,?_,?_,?_⟩
  ·unfold xc; rw [decide_eq_true (by omega)]; rfl
  all_goals
   have hbig : 65536 < (s * m.Outputs.toNat) ^ i := by
    rcases hx with rfl | hx
    ·have c1 : 21 ≤ s * m.Outputs.toNat := Nat.le_trans (show 21 ≤ s * 1 by omega) (Nat.mul_le_mul (Nat.le_refl s) (show 1 ≤ m.Outputs.toNat by omega))
     have c2 : 4 ≤ s * kk m := Nat.le_trans (show 4 ≤ s * 1 by omega) (Nat.mul_le_mul (Nat.le_refl s) k1)
     have p1 := Nat.pow_le_pow_left c1 (s * kk m)
     have p2 := Nat.pow_le_pow_right (show 0 < 21 by decide) c2
     have p3 : 21 ^ 4 = 194481 := by decide
     omega
    ·omega
   omega
end
def dg (O d : Nat) : z5 := ⟨((d / O : Nat) : Int),((d % O : Nat) : Int)⟩
def esR (O B : Nat) : Nat → Nat → List z5
 | 0,_ => []
 | L + 1,k => dg O (k % B) :: esR O B L (k / B)
def InE (O S : Nat) (e : z5) : Prop := 0 ≤ e.Out ∧ e.Out < (O : Int) ∧ 0 ≤ e.To ∧ e.To < (S : Int)
def z8G (O S : Nat) : List z5 → Option (List z5)
 | [] => none
 | e :: r => if e.Out + 1 < (O : Int) then some (⟨e.To,e.Out + 1⟩ :: r) else if e.To + 1 < (S : Int) then some (⟨e.To + 1,0⟩ :: r) else (z8G O S r).map (⟨0,0⟩ :: ·)
theorem zhS {O S d : Nat} (hO : 1 ≤ O) (hd : d < S * O) : InE O S (dg O d) := by
 have h1 := Nat.mod_lt d hO
 have h2 := (Nat.div_lt_iff_lt_mul hO).2 hd
 exact ⟨Int.natCast_nonneg _,Int.ofNat_lt.2 h1,Int.natCast_nonneg _,Int.ofNat_lt.2 h2⟩
theorem z0d (O B : Nat) : ∀ L k,(esR O B L k).length = L
 | 0,_ => rfl
 | L + 1,k => by simp [esR,z0d O B L]
theorem zaZ {O B : Nat} : ∀ {L k j},j < L → (esR O B L k)[j]? = some (dg O (k / B ^ j % B))
 | L + 1,k,0,_ => by simp [esR]
 | L + 1,k,j + 1,h => by
  rw [esR,List.getElem?_cons_succ,zaZ (by omega),Nat.div_div_eq_div_mul,Nat.pow_succ,Nat.mul_comm B]
theorem z8M (O B : Nat) : ∀ L,esR O B L 0 = List.replicate L ⟨0,0⟩
 | 0 => rfl
 | L + 1 => by rw [esR,Nat.zero_mod,Nat.zero_div,z8M O B L,List.replicate_succ]; unfold dg; rw [Nat.zero_div,Nat.zero_mod]; rfl
theorem z8F {O S : Nat} (hO : 1 ≤ O) (hS : 1 ≤ S) : ∀ (L k : Nat),k < (S * O) ^ L → z8G O S (esR O (S * O) L k) = if k + 1 < (S * O) ^ L then some (esR O (S * O) L (k + 1)) else none
 | 0,k,h => by rw [Nat.pow_zero] at h ⊢; rw [if_neg (by omega)]; rfl
 | L + 1,k,h => by
  have hB : 0 < S * O := Nat.mul_pos hS hO
  obtain ⟨B,hBe⟩ : ∃ B,B = S * O := ⟨_,rfl⟩
  have h2 : k / (S * O) < (S * O) ^ L := by rw [Nat.div_lt_iff_lt_mul hB,← Nat.pow_succ]; exact h
  have ih := z8F hO hS L (k / (S * O)) h2
  have hd := Nat.mod_lt k hB
  have hk := Nat.div_add_mod k (S * O)
  obtain ⟨d,hde⟩ : ∃ d,d = k % (S * O) := ⟨_,rfl⟩
  have hdd := Nat.div_add_mod d O
  have hdm := Nat.mod_lt d hO
  have hdl := (Nat.div_lt_iff_lt_mul hO).2 (show d < S * O by omega)
  have hp := Nat.pow_succ (S * O) L
  have up : d + 1 < S * O → k + 1 < (S * O) ^ (L + 1) ∧ (k + 1) % (S * O) = d + 1 ∧ (k + 1) / (S * O) = k / (S * O) := fun q => by
   have e : k + 1 = S * O * (k / (S * O)) + (d + 1) := by omega
   refine ⟨?_,by rw [e,Nat.mul_add_mod,Nat.mod_eq_of_lt q],by rw [e,Nat.mul_add_div hB,Nat.div_eq_of_lt q,Nat.add_zero]⟩
   have := Nat.mul_le_mul_left (S * O) (Nat.succ_le_of_lt h2)
   rw [Nat.mul_succ] at this
   rw [hp,e,Nat.mul_comm ((S * O) ^ L)]
   omega
  rw [esR,← hde]
  unfold z8G
  show (if ((d % O : Nat) : Int) + 1 < (O : Int) then _ else if ((d / O : Nat) : Int) + 1 < (S : Int) then _ else _) = _
  by_cases c1 : d % O + 1 < O
  ·rw [if_pos (by omega)]
   have q : d + 1 < S * O := by
    have := Nat.mul_le_mul_left O (Nat.succ_le_of_lt hdl)
    rw [Nat.mul_succ,Nat.mul_comm O S] at this
    omega
   obtain ⟨u1,u2,u3⟩ := up q
   have e : d + 1 = O * (d / O) + (d % O + 1) := by omega
   rw [if_pos u1,esR,u2,u3]
   unfold dg
   have e1 : (d + 1) / O = d / O := by rw [e,Nat.mul_add_div hO,Nat.div_eq_of_lt c1,Nat.add_zero]
   have e2 : (d + 1) % O = d % O + 1 := by rw [e,Nat.mul_add_mod,Nat.mod_eq_of_lt c1]
   rw [e1,e2]
   rfl
  ·rw [if_neg (by omega)]
   have e : d + 1 = O * (d / O + 1) := by rw [Nat.mul_add,Nat.mul_one]; omega
   by_cases c2 : d / O + 1 < S
   ·rw [if_pos (by omega)]
    have q : d + 1 < S * O := by
     have := Nat.mul_lt_mul_of_pos_left c2 hO
     rw [Nat.mul_comm O S] at this
     omega
    obtain ⟨u1,u2,u3⟩ := up q
    rw [if_pos u1,esR,u2,u3]
    unfold dg
    rw [e,Nat.mul_div_cancel_left _ hO,Nat.mul_mod_right]
    rfl
   ·rw [if_neg (by omega),ih]
    have q : d + 1 = S * O := by rw [e,show d / O + 1 = S by omega,Nat.mul_comm]
    have e3 : k + 1 = S * O * (k / (S * O) + 1) := by rw [Nat.mul_add,Nat.mul_one]; omega
    have e4 : (k + 1) % (S * O) = 0 := by rw [e3,Nat.mul_mod_right]
    have e5 : (k + 1) / (S * O) = k / (S * O) + 1 := by rw [e3,Nat.mul_div_cancel_left _ hB]
    have e6 : k + 1 < (S * O) ^ (L + 1) ↔ k / (S * O) + 1 < (S * O) ^ L := by
     rw [hp,e3,Nat.mul_comm ((S * O) ^ L)]
     exact Nat.mul_lt_mul_left hB
    by_cases c3 : k / (S * O) + 1 < (S * O) ^ L
    ·rw [if_pos c3,if_pos (e6.2 c3),esR,e4,e5]
     unfold dg
     rw [Nat.zero_div,Nat.zero_mod]
     rfl
    ·rw [if_neg c3,if_neg (fun g => c3 (e6.1 g))]
     rfl
theorem Qz {n : Nat} (h : n < 4611686018427387904) : w64 ((n : Int) + 1) = ((n + 1 : Nat) : Int) := by rw [zm (by omega) (by omega)]; rfl
theorem zfS {O S : Nat} (hm : m.Outputs = (O : Int)) (hO : O ≤ 10000) (hS : S ≤ 10000) {all : List z5} (hl : all.length ≤ 10000) (ha : ∀ e ∈ all,InE O S e) :
  Ret (loop (fun q => xp m (S : Int) q.1 q.2) (all,w64 (((all.length : Nat) : Int) - 1))) fun r => match z8G O S all.reverse with | some x => r.1 = x.reverse ∧ 0 ≤ r.2 | none => r.2 < 0 := by
 refine zt (fun q => ∃ (p : List z5) (z : Nat),q.1 = p ++ List.replicate z (⟨0,0⟩ : z5) ∧ q.2 = (p.length : Int) - 1 ∧ (∀ e ∈ p,InE O S e) ∧ p.length + z = all.length ∧ z8G O S all.reverse = (z8G O S p.reverse).map (List.replicate z (⟨0,0⟩ : z5) ++ ·)) (fun q => (q.2 + 1).toNat) ⟨all,0,by simp,by rw [zm (by omega) (by omega)],ha,rfl,by cases z8G O S all.reverse <;> simp⟩ (by simp only; rw [zm (by omega) (by omega)]; omega) ?_
 rintro ⟨_,_⟩ ⟨p,z,rfl,rfl,h3,h4,h5⟩
 show Ret (xp m (S : Int) _ _) _
 unfold xp
 rw [zg]
 refine ⟨fun c => ?_,fun c => ?_⟩
 ·have hp : 1 ≤ p.length := by have := of_decide_eq_true c; omega
  obtain ⟨p',e,rfl⟩ : ∃ p' e,p = p' ++ [e] := by
   rcases List.eq_nil_or_concat p with g | ⟨p',e,g⟩
   ·subst g; simp at hp
   ·exact ⟨p',e,by simpa using g⟩
  obtain ⟨i1,i2,i3,i4⟩ := h3 e (by simp)
  have hj : (((p' ++ [e]).length : Nat) : Int) - 1 = ((p'.length : Nat) : Int) := by simp
  have hset : ∀ x y : z5,(p' ++ [x] ++ List.replicate z (⟨0,0⟩ : z5)).set p'.length y = p' ++ [y] ++ List.replicate z (⟨0,0⟩ : z5) := fun x y => by
   rw [List.append_assoc,List.set_append,if_neg (by omega),Nat.sub_self,List.append_assoc]; rfl
  have hget : ∀ x : z5,(p' ++ [x] ++ List.replicate z (⟨0,0⟩ : z5))[p'.length]? = some x := fun x => by
   rw [List.append_assoc,List.getElem?_append_right (Nat.le_refl _),Nat.sub_self]; rfl
  have hr : (p' ++ [e]).reverse = e :: p'.reverse := by simp
  rw [hr] at h5
  have hw1 : w64 (e.Out + 1) = e.Out + 1 := zm (by omega) (by omega)
  have hw2 : w64 (e.To + 1) = e.To + 1 := zm (by omega) (by omega)
  rw [hj,Int.toNat_natCast,zx,bdT (hget e),bdT (hget e),hset,hw1,zx,bdT (hget _),zg,hm]
  refine ⟨fun c => ?_,fun c => ?_⟩
  ·have c : e.Out + 1 < (O : Int) := of_decide_eq_true c
   have hin : z8G O S (e :: p'.reverse) = some (⟨e.To,e.Out + 1⟩ :: p'.reverse) := by unfold z8G; rw [if_pos c]
   rw [hin] at h5
   refine z6.2 ?_
   rw [h5]
   exact ⟨by simp,by simp only; omega⟩
  ·have c : ¬ e.Out + 1 < (O : Int) := of_decide_eq_false c
   rw [bdT (hget _),hset,zx,bdT (hget _),hset,zx,hw2,bdT (hget _),zg]
   refine ⟨fun c2 => ?_,fun c2 => ?_⟩
   ·have c2 : e.To + 1 < (S : Int) := of_decide_eq_true c2
    have hin : z8G O S (e :: p'.reverse) = some (⟨e.To + 1,0⟩ :: p'.reverse) := by unfold z8G; rw [if_neg c,if_pos c2]
    rw [hin] at h5
    refine z6.2 ?_
    rw [h5]
    exact ⟨by simp,by simp only; omega⟩
   ·have c2 : ¬ e.To + 1 < (S : Int) := of_decide_eq_false c2
    have hin : z8G O S (e :: p'.reverse) = (z8G O S p'.reverse).map (⟨0,0⟩ :: ·) := by
     show (if e.Out + 1 < (O : Int) then _ else if e.To + 1 < (S : Int) then _ else _) = _
     rw [if_neg c,if_neg c2]
    rw [bdT (hget _),hset]
    have hpl : p'.length ≤ 10000 := by simp at h4; omega
    rw [zm (by omega) (by omega)]
    refine z6.2 ⟨⟨p',z + 1,by rw [List.replicate_succ,List.append_assoc]; rfl,rfl,fun x hx => h3 x (by simp [hx]),by simp at h4; omega,?_⟩,?_⟩
    ·rw [hin] at h5
     rw [h5]
     cases z8G O S p'.reverse with
     | none => rfl
     | some r => simp [List.replicate_succ']
    ·simp only
     omega
 ·have hp : p.length = 0 := by have := of_decide_eq_false c; omega
  rw [List.length_eq_zero_iff.1 hp] at h5 ⊢
  refine z6.2 ?_
  rw [h5]
  show _ < (0 : Int)
  simp
def tb (m : z4) (S k : Nat) : z4 :=
 ⟨m.Inputs,m.Outputs,(List.range S).map fun s => (List.range (kk m)).map fun i => dg m.Outputs.toNat (k / (S * m.Outputs.toNat) ^ (S * kk m - 1 - (s * kk m + i)) % (S * m.Outputs.toNat))⟩
def tot (m : z4) (S : Nat) : Nat := (S * m.Outputs.toNat) ^ (S * kk m)
theorem lin {S I s i : Nat} (hs : s < S) (hi : i < I) : s * I + i < S * I := by
 have := Nat.mul_le_mul_right I (show s + 1 ≤ S from hs)
 rw [Nat.add_mul] at this
 omega
theorem z6f (es : List α) (I : Nat) : ∀ l : List Nat,(∀ s ∈ l,(s + 1) * I ≤ es.length) → z2Q es (l.map fun s => some (((s * I : Nat) : Int),(((s + 1) * I : Nat) : Int),(((s + 1) * I : Nat) : Int))) = some (l.map fun s => (es.drop (s * I)).take I)
 | [],_ => rfl
 | s :: l,h => by
  have h1 := h s List.mem_cons_self
  have e : (s + 1) * I = s * I + I := by rw [Nat.add_mul,Nat.one_mul]
  rw [List.map_cons,z2Q]
  rw [gdT ⟨Int.natCast_nonneg _,Int.ofNat_le.2 (by omega),rfl,h1⟩,bdT (z6f es I l fun t ht => h t (List.mem_cons_of_mem _ ht))]
  simp only [Int.toNat_natCast]
  rw [show (s + 1) * I - s * I = I by omega,List.map_cons]
section
variable {m : z4} (h : VM m) {S : Nat} (hS : 1 ≤ S ∧ S ≤ 20)
include h hS
omit h hS in
theorem zfq (k : Nat) : z2Q (esR m.Outputs.toNat (S * m.Outputs.toNat) (S * kk m) k).reverse ((List.range S).map fun s => some (((s * kk m : Nat) : Int),(((s + 1) * kk m : Nat) : Int),(((s + 1) * kk m : Nat) : Int))) = some (tb m S k).Rows := by
 have hl : (esR m.Outputs.toNat (S * m.Outputs.toNat) (S * kk m) k).reverse.length = S * kk m := by rw [List.length_reverse,z0d]
 rw [z6f _ _ _ (fun s hs => by rw [hl]; exact Nat.mul_le_mul_right _ (List.mem_range.1 hs))]
 unfold tb
 refine congrArg some (List.map_congr_left fun s hs => ?_)
 have hs := List.mem_range.1 hs
 have hle := Nat.mul_le_mul_right (kk m) (show s + 1 ≤ S from hs)
 rw [Nat.add_mul,Nat.one_mul] at hle
 refine List.ext_getElem? fun i => ?_
 by_cases hi : i < kk m
 ·rw [List.getElem?_take_of_lt hi,List.getElem?_drop,List.getElem?_reverse (by rw [z0d]; omega),z0d,zaZ (by omega),List.getElem?_map,List.getElem?_range hi]
  rfl
 ·rw [List.getElem?_eq_none (by rw [List.length_take]; omega),List.getElem?_eq_none (by simp; omega)]
theorem zcS : loop (fun s => yp m (S : Int) s.1 s.2) ((List.replicate S none),0) = some ((List.range S).map fun s => some (((s * kk m : Nat) : Int),(((s + 1) * kk m : Nat) : Int),(((s + 1) * kk m : Nat) : Int))) := by
 have hk := h.kk_eq
 have k16 := h.kk_le
 have hN : S * kk m ≤ 20 * 16 := Nat.mul_le_mul hS.2 k16
 have e0 : w64 ((S : Int) * m.Inputs) = ((S * kk m : Nat) : Int) := by rw [← hk,← Int.natCast_mul,zm (by omega) (by omega)]
 have := xG (step := fun s => yp m (S : Int) s.1 s.2) (fun i => ((List.range S).map fun s => if s < i then some (((s * kk m : Nat) : Int),(((s + 1) * kk m : Nat) : Int),(((s + 1) * kk m : Nat) : Int)) else none,(i : Int))) S (t := (List.range S).map fun s => some (((s * kk m : Nat) : Int),(((s + 1) * kk m : Nat) : Int),(((s + 1) * kk m : Nat) : Int))) (by omega) (fun i hi => ?_) ?_
 ·rw [show (List.replicate S (none : Option (Int × Int × Int)),(0 : Int)) = ((List.range S).map fun s => if s < 0 then some (((s * kk m : Nat) : Int),(((s + 1) * kk m : Nat) : Int),(((s + 1) * kk m : Nat) : Int)) else none,((0 : Nat) : Int)) from Prod.ext (by simp [List.map_const']) rfl]
  exact this
 ·show yp m (S : Int) _ (i : Int) = _
  have hle := Nat.mul_le_mul_right (kk m) (show i + 1 ≤ S from hi)
  have hle2 : i * kk m ≤ (i + 1) * kk m := Nat.mul_le_mul_right _ (Nat.le_succ i)
  have e1 : w64 ((i : Int) * m.Inputs) = ((i * kk m : Nat) : Int) := by rw [← hk,← Int.natCast_mul,zm (by omega) (by omega)]
  have e2 : w64 (((i + 1 : Nat) : Int) * m.Inputs) = (((i + 1) * kk m : Nat) : Int) := by rw [← hk,← Int.natCast_mul,zm (by omega) (by omega)]
  unfold yp
  rw [decide_eq_true (by omega),cond_true,Qz (by omega),e1,e2,e0,gdT (by simp only [List.length_replicate,Int.toNat_natCast]; omega),zx,bdT (u := none) (by rw [List.getElem?_map,List.getElem?_range hi]; simp),gdT rfl,Int.toNat_natCast,JG]
  refine congrArg some (congrArg LR.next (Prod.ext ?_ rfl))
  refine List.map_congr_left fun s hs => ?_
  by_cases q : s = i
  ·rw [if_pos q,if_pos (by omega),q]
  ·rw [if_neg q]
   by_cases q2 : s < i
   ·rw [if_pos q2,if_pos (by omega)]
   ·rw [if_neg q2,if_neg (by omega)]
 ·show yp m (S : Int) _ (S : Int) = _
  unfold yp
  rw [decide_eq_false (by omega),cond_false]
  refine congrArg some (congrArg LR.done (List.map_congr_left fun s hs => ?_))
  rw [if_pos (List.mem_range.1 hs)]
end
theorem z9E {n : Nat} (h : n < 4611686018427387904) : w64 (n : Int) = (n : Int) := zm (by omega) (by omega)
set_option linter.unusedSectionVars false
variable {τ : Type}
section
variable {m : z4} (h : VM m) {S : Nat} (hS : 1 ≤ S ∧ S ≤ 20) (ht : tot m S ≤ 65536)
include h hS ht
theorem zhL (hk : k < tot m S) : Ret (loop (fun q => xp m (S : Int) q.1 q.2) ((esR m.Outputs.toNat (S * m.Outputs.toNat) (S * kk m) k).reverse,w64 ((((esR m.Outputs.toNat (S * m.Outputs.toNat) (S * kk m) k).reverse.length : Nat) : Int) - 1))) fun r => if k + 1 < tot m S then r.1 = (esR m.Outputs.toNat (S * m.Outputs.toNat) (S * kk m) (k + 1)).reverse ∧ 0 ≤ r.2 else r.2 < 0 := by
 have o1 := h.out1
 have o2 := h.out16
 have k16 := h.kk_le
 have hN : S * kk m ≤ 20 * 16 := Nat.mul_le_mul hS.2 k16
 have hO : 1 ≤ m.Outputs.toNat := by omega
 refine (zfS (m := m) (O := m.Outputs.toNat) (S := S) (by omega) (by omega) (by omega) (by rw [List.length_reverse,z0d]; omega) (fun e he => ?_)).mono fun r hr => ?_
 ·obtain ⟨j,hj⟩ := List.getElem?_of_mem (List.mem_reverse.1 he)
  have hlt := (List.getElem?_eq_some_iff.1 hj).1
  rw [z0d] at hlt
  rw [zaZ hlt] at hj
  cases hj
  exact zhS hO (Nat.mod_lt _ (Nat.mul_pos hS.1 hO))
 ·rw [List.reverse_reverse,z8F hO hS.1 _ _ hk] at hr
  unfold tot
  by_cases c : k + 1 < (S * m.Outputs.toNat) ^ (S * kk m)
  ·rw [if_pos c] at hr ⊢; exact hr
  ·rw [if_neg c] at hr ⊢; exact hr
theorem z2b {yy : τ → z4 → Option (τ × Bool)} {s s' : τ}  (hk : k < tot m S) {b : Bool} (hy : yy s (tb m S k) = some (s',b)) :
  zL m (S : Int) yy ((List.range S).map fun s => some (((s * kk m : Nat) : Int),(((s + 1) * kk m : Nat) : Int),(((s + 1) * kk m : Nat) : Int))) s (esR m.Outputs.toNat (S * m.Outputs.toNat) (S * kk m) k).reverse = some (if b = true ∧ k + 1 < tot m S then .next (s',(esR m.Outputs.toNat (S * m.Outputs.toNat) (S * kk m) (k + 1)).reverse) else .done s') := by
 unfold zL
 rw [bdT (zfq k),show z4.mk m.Inputs m.Outputs (tb m S k).Rows = tb m S k from rfl,bdT hy]
 cases b with
 | false => rw [if_neg (fun q => by cases q.1)]; rfl
 | true =>
  obtain ⟨r,r1,r2⟩ := zhL h hS ht hk
  rw [cond_true,bdT r1]
  unfold qU
  by_cases c : k + 1 < tot m S
  ·rw [if_pos c] at r2
   rw [if_pos ⟨rfl,c⟩,decide_eq_false (by omega),cond_false,r2.1]
  ·rw [if_neg c] at r2
   rw [if_neg (fun q => c q.2),decide_eq_true r2,cond_true]
theorem z7X {yy : τ → z4 → Option (τ × Bool)} {s r : τ} (hl : loop (fun q => zL m (S : Int) yy ((List.range S).map fun s => some (((s * kk m : Nat) : Int),(((s + 1) * kk m : Nat) : Int),(((s + 1) * kk m : Nat) : Int))) q.1 q.2) (s,(esR m.Outputs.toNat (S * m.Outputs.toNat) (S * kk m) 0).reverse) = some r) : wB m (S : Int) yy s = some r := by
 have hk := h.kk_eq
 have k16 := h.kk_le
 have hN : S * kk m ≤ 20 * 16 := Nat.mul_le_mul hS.2 k16
 have e0 : w64 ((S : Int) * m.Inputs) = ((S * kk m : Nat) : Int) := by rw [← hk,← Int.natCast_mul,zm (by omega) (by omega)]
 unfold wB
 rw [e0,gdT (by omega),gdT (by omega),Int.toNat_natCast,bdT (zcS h hS)]
 unfold qV
 rw [z8M,List.reverse_replicate] at hl
 rw [e0,Int.toNat_natCast,bdT hl]
theorem zeB : 1 ≤ tot m S := by
 have o1 := h.out1
 exact Nat.pow_pos (Nat.mul_pos hS.1 (show 0 < m.Outputs.toNat by omega))
theorem z4e {yy : τ → z4 → Option (τ × Bool)} (st : Nat → τ) (hy : ∀ k,k < tot m S → yy (st k) (tb m S k) = some (st (k + 1),true)) : wB m (S : Int) yy (st 0) = some (st (tot m S)) := by
 have hp := zeB h hS ht
 refine z7X h hS ht ?_
 refine xG (step := fun q => zL m (S : Int) yy _ q.1 q.2) (fun k => (st k,(esR m.Outputs.toNat (S * m.Outputs.toNat) (S * kk m) k).reverse)) (tot m S - 1) (by omega) (fun k hk => ?_) ?_
 ·show zL m (S : Int) yy _ (st k) _ = _
  rw [z2b h hS ht (by omega) (hy k (by omega)),if_pos ⟨rfl,by omega⟩]
 ·show zL m (S : Int) yy _ (st (tot m S - 1)) _ = _
  rw [z2b h hS ht (by omega) (hy (tot m S - 1) (by omega)),if_neg (by omega),show tot m S - 1 + 1 = tot m S by omega]
theorem z7h {yy : τ → z4 → Option (τ × Bool)} {K : Nat} (hK : K < tot m S) {s r : τ} (hy : ∀ k,k < K → yy s (tb m S k) = some (s,true)) (hr : yy s (tb m S K) = some (r,false)) : wB m (S : Int) yy s = some r := by
 refine z7X h hS ht ?_
 refine xG (step := fun q => zL m (S : Int) yy _ q.1 q.2) (fun k => (s,(esR m.Outputs.toNat (S * m.Outputs.toNat) (S * kk m) k).reverse)) K (by omega) (fun k hk => ?_) ?_
 ·show zL m (S : Int) yy _ s _ = _
  rw [z2b h hS ht (by omega) (hy k hk),if_pos ⟨rfl,by omega⟩]
 ·show zL m (S : Int) yy _ s _ = _
  rw [z2b h hS ht hK hr,if_neg (fun q => by cases q.1)]
theorem zhu (hk : k < tot m S) : Xy m (S : Int) (k : Int) = some (tb m S k) := by
 have hi := h.kk_eq
 have k1 := h.kk_pos
 have k16 := h.kk_le
 have o1 := h.out1
 have o2 := h.out16
 have hN : S * kk m ≤ 20 * 16 := Nat.mul_le_mul hS.2 k16
 obtain ⟨O,hO⟩ : ∃ O : Nat,m.Outputs = (O : Int) := ⟨m.Outputs.toNat,by omega⟩
 have hOt : m.Outputs.toNat = O := by omega
 obtain ⟨I,hI⟩ : ∃ I,I = kk m := ⟨_,rfl⟩
 obtain ⟨B,hB⟩ : ∃ B,B = S * O := ⟨_,rfl⟩
 have hB1 : B ≤ 20 * 16 := by rw [hB]; exact Nat.mul_le_mul hS.2 (by omega)
 have hB0 : 1 ≤ B := by rw [hB]; exact Nat.mul_pos hS.1 (by omega)
 have hBw : w64 ((S : Int) * m.Outputs) = (B : Int) := by rw [hO,← Int.natCast_mul,← hB,zm (by omega) (by omega)]
 have zero : loop (fun s => yU m (S : Int) s.1 s.2) (([] : List (List z5)),0) = some (List.replicate S (List.replicate I ⟨0,0⟩)) := by
  refine xG (step := fun s => yU m (S : Int) s.1 s.2) (fun i => (List.replicate i (List.replicate I (⟨0,0⟩ : z5)),(i : Int))) S (by omega) (fun i hi2 => ?_) ?_
  ·show yU m (S : Int) _ (i : Int) = _
   unfold yU
   rw [decide_eq_true (by omega),cond_true,gdT (by omega),gdT (by simp; omega),Qz (by omega),← hi,Int.toNat_natCast,← hI,List.replicate_succ']
  ·show yU m (S : Int) _ (S : Int) = _
   unfold yU
   rw [decide_eq_false (by omega)]; rfl
 let en : Nat → Nat → Nat → z5 := fun c s i => if S * I - 1 - (s * I + i) < c then dg O (k / B ^ (S * I - 1 - (s * I + i)) % B) else ⟨0,0⟩
 let G : Nat → List (List z5) := fun c => (List.range S).map fun s => (List.range I).map fun i => en c s i
 have hG : ∀ c,G c = (List.range S).map fun s => (List.range I).map fun i => en c s i := fun _ => rfl
 have hen : ∀ c s i,en c s i = if S * I - 1 - (s * I + i) < c then dg O (k / B ^ (S * I - 1 - (s * I + i)) % B) else ⟨0,0⟩ := fun _ _ _ => rfl
 have tdiv : ∀ a b : Nat,Int.tdiv (a : Int) (b : Int) = ((a / b : Nat) : Int) := fun _ _ => rfl
 have tmod : ∀ a b : Nat,Int.tmod (a : Int) (b : Int) = ((a % b : Nat) : Int) := fun _ _ => rfl
 have kb : k < 65536 := by omega
 have dle : ∀ a : Nat,k / a ≤ k := fun a => Nat.div_le_self _ _
 have inner : ∀ a,a < S → loop (fun q => yV m (S : Int) ((S : Int) - 1 - a) q.1 q.2.1 q.2.2) (((k / B ^ (a * I) : Nat) : Int),G (a * I),w64 (m.Inputs - 1)) = some (((k / B ^ ((a + 1) * I) : Nat) : Int),G ((a + 1) * I)) := fun a ha => by
  have := xG (step := fun q => yV m (S : Int) ((S : Int) - 1 - a) q.1 q.2.1 q.2.2) (fun b => (((k / B ^ (a * I + b) : Nat) : Int),G (a * I + b),(I : Int) - 1 - b)) I (t := (((k / B ^ ((a + 1) * I) : Nat) : Int),G ((a + 1) * I))) (by omega) (fun b hb => ?_) ?_
  ·rw [show w64 (m.Inputs - 1) = (I : Int) - 1 - (0 : Nat) by rw [zm (by omega) (by omega)]; omega]
   exact this
  ·show yV m (S : Int) ((S : Int) - 1 - a) _ _ ((I : Int) - 1 - b) = _
   obtain ⟨s,hs⟩ : ∃ s : Nat,(S : Int) - 1 - a = (s : Int) ∧ s + 1 + a = S := ⟨S - 1 - a,by omega,by omega⟩
   obtain ⟨i,hii⟩ : ∃ i : Nat,(I : Int) - 1 - b = (i : Int) ∧ i + 1 + b = I := ⟨I - 1 - b,by omega,by omega⟩
   have hsS : s < S := by omega
   have hiI : i < I := by omega
   have hc : S * I - 1 - (s * I + i) = a * I + b := by
    have e : S * I = s * I + I + a * I := by rw [← hs.2,Nat.add_mul,Nat.add_mul,Nat.one_mul]
    omega
   obtain ⟨c,hcc⟩ : ∃ c,c = a * I + b := ⟨_,rfl⟩
   rw [← hcc] at hc ⊢
   rw [show a * I + (b + 1) = c + 1 by omega,hs.1,hii.1]
   have q1 : ((k / B ^ c : Nat) : Int).tdiv (B : Int) = ((k / B ^ (c + 1) : Nat) : Int) := by rw [tdiv,Nat.div_div_eq_div_mul,Nat.pow_succ]
   have hkc := dle (B ^ c)
   have hkc1 := dle (B ^ (c + 1))
   have hmd := Nat.mod_le (k / B ^ c) B
   have hmd2 := Nat.div_le_self (k / B ^ c % B) O
   have e1 : (G c)[s]? = some ((List.range I).map fun i => en c s i) := by rw [hG,List.getElem?_map,List.getElem?_range hsS]; rfl
   have e2 : ((List.range I).map fun i => en c s i)[i]? = some (en c s i) := by rw [List.getElem?_map,List.getElem?_range hiI]; rfl
   unfold yV
   rw [decide_eq_true (by omega),cond_true,hBw,gdT (by omega),gdT (by omega),zx,bdT e1,hO,gdT (by omega),gdT (by omega),zx,bdT e2,q1,tmod,tdiv,tmod,z9E (Nat.lt_of_le_of_lt hkc1 (by omega)),z9E (Nat.lt_of_le_of_lt (Nat.le_trans hmd2 (Nat.le_trans hmd hkc)) (by omega)),zm (x := (i : Int) - 1) (by omega) (by omega),Int.toNat_natCast,Int.toNat_natCast]
   rw [show (i : Int) - 1 = (I : Int) - 1 - ((b + 1 : Nat) : Int) by omega]
   refine congrArg some (congrArg LR.next (Prod.ext rfl (Prod.ext ?_ rfl)))
   show (G c).set s _ = G (c + 1)
   rw [hG,hG,JG]
   refine List.map_congr_left fun t ht => ?_
   have ht := List.mem_range.1 ht
   have other : ∀ j,j < I → ¬ (t = s ∧ j = i) → en c t j = en (c + 1) t j := fun j hj hne => by
    have l1 := lin ht hj
    have l2 := lin hsS hiI
    have hne2 : S * I - 1 - (t * I + j) ≠ c := fun q => by
     have q : t * I + j = s * I + i := by omega
     have d1 := z3f (s := t) hj
     have d2 := z3f (s := s) hiI
     rw [q] at d1
     exact hne ⟨d1.1.symm.trans d2.1,d1.2.symm.trans d2.2⟩
    rw [hen,hen]
    by_cases q : S * I - 1 - (t * I + j) < c
    ·rw [if_pos q,if_pos (by omega)]
    ·rw [if_neg q,if_neg (by omega)]
   by_cases q : t = s
   ·rw [if_pos q,JG]
    refine List.map_congr_left fun j hj => ?_
    have hj := List.mem_range.1 hj
    by_cases q2 : j = i
    ·rw [if_pos q2,q,q2,hen,hc,if_pos (by omega)]
     rfl
    ·rw [if_neg q2,← q]
     exact other j hj fun g => q2 g.2
   ·rw [if_neg q]
    exact List.map_congr_left fun j hj => other j (List.mem_range.1 hj) fun g => q g.1
  ·show yV m (S : Int) ((S : Int) - 1 - a) _ _ ((I : Int) - 1 - I) = _
   unfold yV
   rw [decide_eq_false (by omega),cond_false,show a * I + I = (a + 1) * I by rw [Nat.add_mul,Nat.one_mul]]
 have outer : loop (fun s => yW m (S : Int) s.1 s.2.1 s.2.2) ((k : Int),G 0,w64 ((S : Int) - 1)) = some (G (S * I)) := by
  have := xG (step := fun s => yW m (S : Int) s.1 s.2.1 s.2.2) (fun a => (((k / B ^ (a * I) : Nat) : Int),G (a * I),(S : Int) - 1 - a)) S (t := G (S * I)) (by omega) (fun a ha => ?_) ?_
  ·rw [show ((k : Int),G 0,w64 ((S : Int) - 1)) = (((k / B ^ (0 * I) : Nat) : Int),G (0 * I),(S : Int) - 1 - (0 : Nat)) from by rw [Nat.zero_mul,Nat.pow_zero,Nat.div_one,zm (by omega) (by omega)]; simp]
   exact this
  ·show yW m (S : Int) _ _ ((S : Int) - 1 - a) = _
   unfold yW
   rw [decide_eq_true (by omega),cond_true,bdT (inner a ha)]
   unfold ZR
   rw [zm (by omega) (by omega),show (S : Int) - 1 - a - 1 = (S : Int) - 1 - ((a + 1 : Nat) : Int) by omega]
  ·show yW m (S : Int) _ _ ((S : Int) - 1 - S) = _
   unfold yW
   rw [decide_eq_false (by omega),cond_false]
 have hz : List.replicate S (List.replicate I ⟨0,0⟩) = G 0 := by
  rw [hG]
  have : ∀ s i,en 0 s i = ⟨0,0⟩ := fun s i => by rw [hen,if_neg (Nat.not_lt_zero _)]
  simp only [this,List.map_const',List.length_range]
 unfold Xy
 rw [bdT zero,hz]
 unfold ZT
 rw [bdT outer]
 unfold ZS tb
 rw [hG,hOt,← hB,← hI]
 refine congrArg some (congrArg (z4.mk m.Inputs m.Outputs) (List.map_congr_left fun s hs => List.map_congr_left fun i hi2 => ?_))
 have l1 := lin (List.mem_range.1 hs) (List.mem_range.1 hi2)
 rw [hen,if_pos (by omega)]
end
theorem QT : ∀ {l : List Bool} {i : Nat},l[i]? = some false → (l.set i true).count false + 1 = l.count false
 | [],i,h => by simp at h
 | x :: l,0,h => by simp at h; subst h; simp
 | x :: l,i + 1,h => by
  have := QT (l := l) (i := i) (by simpa using h)
  rw [List.set_cons_succ,List.count_cons,List.count_cons]
  omega
section
variable (m t : z4)
def z64 (ku : List Bool) (p : Nat × Nat) : Prop := ku[p.1 * t.Rows.length + p.2]? = some true
def Mkx (p : Nat × Nat) : Prop := ∃ n,Mk (kk m) (qn m t) (nxP m t) n p
def zk8 (ku : List Bool) (p : Nat × Nat) : Prop := ∀ i,i < kk m → qn m t p i = false ∧ ∀ q,nxP m t p i = some q → z64 t ku q
def z5D (X : Nat × Nat → Prop) (ku : List Bool) (list : List (ye Int)) : Prop :=
 ku.length = m.Rows.length * t.Rows.length ∧ list.length + ku.count false ≤ m.Rows.length * t.Rows.length ∧ (∀ x ∈ list,∃ p,InP m t p ∧ x = pA p ∧ z64 t ku p) ∧ z64 t ku (0,0) ∧ (∀ p,InP m t p → z64 t ku p → Mkx m t p → Mkx m t (0,0)) ∧ ∀ p,InP m t p → z64 t ku p → pA p ∈ list ∨ X p ∨ zk8 m t ku p
end
variable {t : z4}{ku : List Bool}
theorem z9T (hi : i < ku.length) {p : Nat × Nat} : z64 t (ku.set i true) p ↔ z64 t ku p ∨ p.1 * t.Rows.length + p.2 = i := by
 unfold z64
 rw [List.getElem?_set]
 by_cases e : i = p.1 * t.Rows.length + p.2
 ·rw [if_pos e,if_pos hi]; simp [e]
 ·rw [if_neg e]
  exact ⟨.inl,fun q => q.elim id fun q => absurd q.symm e⟩
section
variable {m t : z4} (hm : VM m) (ht : VM t) (hi : m.Inputs = t.Inputs) (cm : Cpl m) (ct : Cpl t)
include hm ht hi cm ct
theorem zhT {p : Nat × Nat} (hp : InP m t p) (ku : List Bool) (list : List (ye Int)) (h0 : z5D m t (· = p) ku list) (h1 : z64 t ku p) :
  Ret (loop (fun q => uW t (pA p) (m.Rows[p.1]?.getD []) q.1 q.2.1 q.2.2) (ku,list,0)) fun r => match r with
   | .inl q => z5D m t (fun _ => False) q.1 q.2 ∧ q.2.length + 2 * q.1.count false ≤ list.length + 2 * ku.count false
   | .inr b => b = false ∧ Mkx m t (0,0) := by
 have k16 := hm.kk_le
 have lm := hm.len64
 have lt := ht.len64
 have hk : kk m = kk t := zaJ hm ht hi
 obtain ⟨p1,p2⟩ := hp
 obtain ⟨r,r1,r2,r3⟩ := hm.rowAt p1
 rw [r1,Option.getD_some]
 have hMT : m.Rows.length * t.Rows.length ≤ 64 * 64 := Nat.mul_le_mul lm lt
 refine (zt (R := fun r : (List Bool × List (ye Int)) ⊕ Bool => match r with
   | .inl q => (z5D m t (· = p) q.1 q.2 ∧ zk8 m t q.1 p) ∧ q.2.length + 2 * q.1.count false ≤ list.length + 2 * ku.count false
   | .inr b => b = false ∧ Mkx m t (0,0)) (fun q => ∃ i : Nat,q.2.2 = (i : Int) ∧ i ≤ kk m ∧ z5D m t (· = p) q.1 q.2.1 ∧ z64 t q.1 p ∧ (∀ j,j < i → qn m t p j = false ∧ ∀ q',nxP m t p j = some q' → z64 t q.1 q') ∧ q.2.1.length + 2 * q.1.count false ≤ list.length + 2 * ku.count false) (fun q => 100 - q.2.2.toNat) ?_ (by simp) ?_).mono ?_
 ·exact ⟨0,rfl,Nat.zero_le _,h0,h1,fun j hj => by omega,Nat.le_refl _⟩
 ·rintro ⟨fg,fy,_⟩ ⟨i,rfl,hik,hd,hsp,hj,hms⟩
  replace hd : z5D m t (· = p) fg fy := hd
  show Ret (uW t (pA p) r fg fy (i : Int)) _
  unfold uW
  rw [zg]
  refine ⟨fun c => ?_,fun c => ?_⟩
  ·have hlt : i < kk m := by have := of_decide_eq_true c; omega
   have e1 := cm p.1 i p1 hlt
   have e2 := hm.edgeAt p1 hlt
   have f1 := ct p.2 i p2 (by omega)
   have f2 := ht.edgeAt p2 (i := i) (by omega)
   rw [zx,bdT (r3 i hlt)]
   show Ret (Option.bind (idx t.Rows ((p.2 : Nat) : Int)) _) _
   rw [ht.edge_eq p2 (i := i) (by omega),zg]
   refine ⟨fun c => ?_,fun c => ?_⟩
   ·have hb : qn m t p i = true := c
    exact z6.2 ⟨rfl,hd.2.2.2.2.1 p ⟨p1,p2⟩ hsp ⟨1,.inr ⟨i,hlt,.inl hb⟩⟩⟩
   ·have hb : qn m t p i = false := c
    obtain ⟨q,hq⟩ : ∃ q : Nat × Nat,q = ((E m p.1 i).To.toNat,(E t p.2 i).To.toNat) := ⟨_,rfl⟩
    have hnx : nxP m t p i = some q := by unfold nxP; rw [if_pos ⟨e1,f1⟩,hq]
    have hqi : InP m t q := by rw [hq]; exact ⟨by simp only; omega,by simp only; omega⟩
    have hix := lin hqi.1 hqi.2
    have hI : w64 (w64 ((E m p.1 i).To * ((t.Rows.length : Nat) : Int)) + (E t p.2 i).To) = ((q.1 * t.Rows.length + q.2 : Nat) : Int) := by
     rw [show (E m p.1 i).To = ((q.1 : Nat) : Int) by rw [hq]; simp only; omega,show (E t p.2 i).To = ((q.2 : Nat) : Int) by rw [hq]; simp only; omega,← Int.natCast_mul,z9E (by omega),← Int.natCast_add,z9E (by omega)]
    have hg : fg[q.1 * t.Rows.length + q.2]? = some (fg[q.1 * t.Rows.length + q.2]'(by rw [hd.1]; exact hix)) := List.getElem?_eq_getElem _
    obtain ⟨v,hv⟩ : ∃ v,v = fg[q.1 * t.Rows.length + q.2]'(by rw [hd.1]; exact hix) := ⟨_,rfl⟩
    rw [← hv] at hg
    rw [hI,zx,bdT hg,zg]
    unfold Zj
    rw [Qz (by omega)]
    refine ⟨fun c => ?_,fun c => ?_⟩
    ·have hvf : v = false := by simpa using c
     rw [hvf] at hg
     obtain ⟨d1,d2,d3,d4,d5,d6⟩ := hd
     have hc := QT hg
     have hsn : ∀ {p'},z64 t (fg.set (q.1 * t.Rows.length + q.2) true) p' ↔ z64 t fg p' ∨ p'.1 * t.Rows.length + p'.2 = q.1 * t.Rows.length + q.2 := fun {p'} => z9T (by rw [d1]; exact hix)
     have hqe : ∀ {p'},InP m t p' → p'.1 * t.Rows.length + p'.2 = q.1 * t.Rows.length + q.2 → p' = q := fun {p'} h1 h2 => by
      have a1 := z3f (s := p'.1) h1.2
      have a2 := z3f (s := q.1) hqi.2
      rw [h2] at a1
      exact Prod.ext (a1.1.symm.trans a2.1) (a1.2.symm.trans a2.2)
     rw [bdT hg,gdT (by simp; omega),Int.toNat_natCast]
     refine z6.2 ⟨⟨i + 1,rfl,hlt,⟨by simpa using d1,?_,?_,hsn.2 (.inl d4),?_,?_⟩,hsn.2 (.inl hsp),?_,?_⟩,?_⟩
     ·show (fy ++ [_]).length + (fg.set (q.1 * t.Rows.length + q.2) true).count false ≤ _
      rw [List.length_append,List.length_singleton]
      omega
     ·intro x hx
      rcases List.mem_append.1 hx with g | g
      ·obtain ⟨p',a1,a2,a3⟩ := d3 x g
       exact ⟨p',a1,a2,hsn.2 (.inl a3)⟩
      ·refine ⟨q,hqi,?_,hsn.2 (.inr rfl)⟩
       rw [List.mem_singleton.1 g,hq]
       unfold pA
       simp only [ye.mk.injEq]
       omega
     ·intro p' a1 a2 ⟨n,a3⟩
      rcases hsn.1 a2 with g | g
      ·exact d5 p' a1 g ⟨n,a3⟩
      ·obtain rfl := hqe a1 g
       exact d5 p ⟨p1,p2⟩ hsp ⟨n + 1,.inr ⟨i,hlt,.inr ⟨_,hnx,a3⟩⟩⟩
     ·intro p' a1 a2
      rcases hsn.1 a2 with g | g
      ·rcases d6 p' a1 g with b | b | b
       ·exact .inl (List.mem_append_left _ b)
       ·exact .inr (.inl b)
       ·exact .inr (.inr fun j hj => ⟨(b j hj).1,fun q' h' => hsn.2 (.inl ((b j hj).2 q' h'))⟩)
      ·obtain rfl := hqe a1 g
       refine .inl (List.mem_append_right _ (List.mem_singleton.2 ?_))
       rw [hq]
       unfold pA
       simp only [ye.mk.injEq]
       omega
     ·intro j hjl
      rcases Nat.lt_or_ge j i with g | g
      ·exact ⟨(hj j g).1,fun q' h' => hsn.2 (.inl ((hj j g).2 q' h'))⟩
      ·obtain rfl : j = i := by omega
       refine ⟨hb,fun q' h' => ?_⟩
       rw [hnx] at h'
       cases h'
       exact hsn.2 (.inr rfl)
     ·show (fy ++ [_]).length + 2 * (fg.set (q.1 * t.Rows.length + q.2) true).count false ≤ _
      rw [List.length_append,List.length_singleton]
      replace hms : fy.length + 2 * fg.count false ≤ list.length + 2 * ku.count false := hms
      omega
     ·simp only [Int.toNat_natCast]; omega
    ·have hvt : v = true := by simpa using c
     rw [hvt] at hg
     refine z6.2 ⟨⟨i + 1,rfl,hlt,hd,hsp,fun j hjl => ?_,hms⟩,by simp only [Int.toNat_natCast]; omega⟩
     rcases Nat.lt_or_ge j i with g | g
     ·exact hj j g
     ·obtain rfl : j = i := by omega
      refine ⟨hb,fun q' h' => ?_⟩
      rw [hnx] at h'
      cases h'
      exact hg
  ·have : i = kk m := by have := of_decide_eq_false c; omega
   subst this
   exact z6.2 ⟨⟨hd,hj⟩,hms⟩
 ·rintro (q | b) hr
  ·obtain ⟨⟨⟨d1,d2,d3,d4,d5,d6⟩,hcl⟩,hms⟩ := hr
   refine ⟨⟨d1,d2,d3,d4,d5,fun p' a1 a2 => ?_⟩,hms⟩
   rcases d6 p' a1 a2 with g | g | g
   ·exact .inl g
   ·have g : p' = p := g
    rw [g]; exact .inr (.inr hcl)
   ·exact .inr (.inr g)
  ·exact hr
theorem zg4 (h : z5D m t (fun _ => False) ku []) (n : Nat) : ∀ p,InP m t p → z64 t ku p → ¬ Mk (kk m) (qn m t) (nxP m t) n p := by
 induction n with
 | zero => exact fun p _ _ q => q
 | succ n ih =>
  rintro p h1 h2 (q | ⟨i,hi,q⟩)
  ·exact ih p h1 h2 q
  ·rcases h.2.2.2.2.2 p h1 h2 with g | g | g
   ·cases g
   ·exact g
   ·obtain ⟨g1,g2⟩ := g i hi
    rcases q with q | ⟨q',a,b⟩
    ·rw [g1] at q; cases q
    ·exact ih q' (zaP hm ht ‹_› p i q' h1 hi a) (g2 q' a) b
theorem zfY : Ret (Xg m t) fun b => b = true ↔ ¬ Mkx m t (0,0) := by
 have lm := hm.len64
 have lt := ht.len64
 have lm1 := hm.len1
 have lt1 := ht.len1
 have hMT : m.Rows.length * t.Rows.length ≤ 64 * 64 := Nat.mul_le_mul lm lt
 have hMT1 : 1 ≤ m.Rows.length * t.Rows.length := Nat.mul_pos lm1 lt1
 obtain ⟨N,hN⟩ : ∃ N,N = m.Rows.length * t.Rows.length := ⟨_,rfl⟩
 have hNw : w64 (((m.Rows.length : Nat) : Int) * ((t.Rows.length : Nat) : Int)) = (N : Int) := by rw [← Int.natCast_mul,← hN,z9E (by omega)]
 have hz : (List.replicate N false)[0]? = some false := by rw [List.getElem?_replicate,if_pos (by omega)]
 unfold Xg
 rw [hNw,gdT (by omega),Int.toNat_natCast]
 show Ret (Option.bind (idx (List.replicate N false) ((0 : Nat) : Int)) _) _
 rw [zx,bdT hz,zh]
 have start : z5D m t (fun _ => False) ((List.replicate N false).set 0 true) [ye.mk 0 0] := by
  have hc := QT hz
  have hs0 : ∀ {p},z64 t ((List.replicate N false).set 0 true) p → p.1 * t.Rows.length + p.2 = 0 := fun {p} q => by
   rcases (z9T (by simp; omega)).1 q with g | g
   ·unfold z64 at g
    rw [List.getElem?_replicate] at g
    split at g <;> cases g
   ·exact g
  have h00 : z64 t ((List.replicate N false).set 0 true) (0,0) := (z9T (by simp; omega)).2 (.inr (by simp))
  have hz0 : ∀ {p : Nat × Nat},InP m t p → p.1 * t.Rows.length + p.2 = 0 → p = (0,0) := fun {p} h1 h2 => by
   have a := z3f (s := p.1) h1.2
   rw [h2,Nat.zero_div,Nat.zero_mod] at a
   exact Prod.ext a.1.symm a.2.symm
  refine ⟨by simp [hN],?_,fun x hx => ⟨(0,0),⟨lm1,lt1⟩,List.mem_singleton.1 hx,h00⟩,h00,fun p h1 h2 q => ?_,fun p h1 h2 => ?_⟩
  ·rw [List.count_replicate] at hc
   simp at hc
   rw [List.length_singleton]
   omega
  ·rwa [hz0 h1 (hs0 h2)] at q
  ·rw [hz0 h1 (hs0 h2)]; exact .inl (List.mem_singleton.2 rfl)
 have lp : Ret (loop (fun s => uX m t s.1 s.2) ((List.replicate N false).set (0 : Int).toNat true,[ye.mk 0 0])) fun r => match r with
   | .inl _ => ¬ Mkx m t (0,0)
   | .inr b => b = false ∧ Mkx m t (0,0) := by
  refine zt (fun q => z5D m t (fun _ => False) q.1 q.2) (fun q => q.2.length + 2 * q.1.count false) start (by have := start.2.1; have : ([ye.mk (0 : Int) 0] : List (ye Int)).length = 1 := rfl; show ([ye.mk (0 : Int) 0] : List (ye Int)).length + 2 * List.count false ((List.replicate N false).set 0 true) < _; omega) ?_
  rintro ⟨ku,list⟩ hd
  replace hd : z5D m t (fun _ => False) ku list := hd
  show Ret (uX m t ku list) _
  obtain ⟨d1,d2,d3,d4,d5,d6⟩ := hd
  unfold uX
  rw [zg]
  refine ⟨fun c => ?_,fun c => ?_⟩
  ·have hl : 1 ≤ list.length := by have := of_decide_eq_true c; omega
   obtain ⟨l',x,rfl⟩ : ∃ l' x,list = l' ++ [x] := by
    rcases List.eq_nil_or_concat list with g | ⟨l',x,g⟩
    ·subst g; simp at hl
    ·exact ⟨l',x,by simpa using g⟩
   have hll : (l' ++ [x]).length = l'.length + 1 := by simp
   obtain ⟨p,p1,rfl,p2⟩ := d3 x (by simp)
   have hw : w64 (((l' ++ [pA p]).length : Nat) - 1 : Int) = ((l'.length : Nat) : Int) := by rw [hll,zm (by omega) (by omega)]; omega
   obtain ⟨r,r1,r2,r3⟩ := hm.rowAt p1.1
   rw [hw,zx,bdT (u := pA p) (by rw [List.getElem?_append_right (Nat.le_refl _),Nat.sub_self]; rfl),gdT (by omega)]
   show Ret (Option.bind (idx m.Rows ((p.1 : Nat) : Int)) _) _
   rw [zx,bdT r1,zh,Int.toNat_natCast,List.take_left']
   ·have := zhT hm ht ‹_› cm ct p1 ku l' ⟨d1,by omega,fun x hx => d3 x (List.mem_append_left _ hx),d4,d5,fun p' h1 h2 => by
     rcases d6 p' h1 h2 with g | g | g
     ·rcases List.mem_append.1 g with g | g
      ·exact .inl g
      ·refine .inr (.inl ?_)
       have g := List.mem_singleton.1 g
       unfold pA at g
       simp only [ye.mk.injEq] at g
       exact Prod.ext (by omega) (by omega)
     ·exact g.elim
     ·exact .inr (.inr g)⟩ p2
    rw [r1,Option.getD_some] at this
    refine this.mono ?_
    rintro (q | b) hq
    ·exact z6.2 ⟨hq.1,by have := hq.2; simp only [hll]; omega⟩
    ·exact z6.2 hq
   ·rfl
  ·have hl : list.length = 0 := by have := of_decide_eq_false c; omega
   obtain rfl := List.length_eq_zero_iff.1 hl
   refine z6.2 ?_
   rintro ⟨n,hn⟩
   exact zg4 hm ht ‹_› cm ct ⟨d1,d2,d3,d4,d5,d6⟩ n (0,0) ⟨lm1,lt1⟩ d4 hn
 refine lp.mono ?_
 rintro (_ | b) hb
 ·exact z6.2 ⟨fun _ => hb,fun _ => rfl⟩
 ·obtain ⟨rfl,hb⟩ := hb
  exact z6.2 ⟨fun e => (by cases e),fun e => absurd hb e⟩
theorem zhR : ∃ w d,ut m t = some (w,d) ∧ (d = true ↔ Mkx m t (0,0)) := by
 obtain ⟨r,e,hr⟩ := zcL hm ht ‹_›
 rcases hr with ⟨n,w,h1,_,_,_,rfl⟩ | ⟨h1,rfl⟩
 ·exact ⟨_,_,e,fun _ => ⟨_,h1⟩,fun _ => rfl⟩
 ·exact ⟨_,_,e,fun q => (by cases q),fun ⟨n,q⟩ => absurd q (h1 n)⟩
end
section
variable {m : z4} (hm : VM m) {S : Nat} (hS : 1 ≤ S ∧ S ≤ 20) (k : Nat)
include hm hS
theorem z61 : (tb m S k).Rows.length = S := by simp [tb]
theorem zf5 : VM (tb m S k) := by
 have hk := hm.kk_eq
 have o1 := hm.out1
 have hO : 1 ≤ m.Outputs.toNat := by omega
 have hB := Nat.mul_pos hS.1 hO
 have hl := z61 hm hS k
 refine ⟨hm.in1,hm.in16,o1,hm.out16,by omega,by omega,fun r hr => ?_,fun r hr x hx => .inr ?_⟩
 ·obtain ⟨s,_,rfl⟩ := List.mem_map.1 hr
  rw [List.length_map,List.length_range]
  exact hk
 ·obtain ⟨s,_,rfl⟩ := List.mem_map.1 hr
  obtain ⟨i,_,rfl⟩ := List.mem_map.1 hx
  obtain ⟨h1,h2,h3,h4⟩ := zhS (S := S) hO (Nat.mod_lt (k / (S * m.Outputs.toNat) ^ (S * kk m - 1 - (s * kk m + i))) hB)
  rw [hl]
  exact ⟨h3,h4,h1,Int.lt_of_lt_of_le h2 (show ((m.Outputs.toNat : Nat) : Int) ≤ m.Outputs by omega)⟩
theorem zhh : Cpl (tb m S k) := fun s i hs hi => by
 have hl := z61 hm hS k
 rw [hl] at hs
 have hi : i < kk m := hi
 unfold E tb
 simp only
 rw [List.getElem?_map,List.getElem?_range hs,Option.map_some,Option.getD_some,List.getElem?_map,List.getElem?_range hi]
 exact Int.natCast_nonneg _
end
def z2f (m : z4) (l : List (List Int)) (S k : Nat) : Bool := (xe ⟨m,l,()⟩ (tb m S k)).getD false
abbrev G18 : Type := Option z4 × Nat
def Yr (g : Bool) (t : z4) (q : G18) : G18 := if g = true then (some (q.1.getD t),q.2 + 1) else q
def XV (m : z4) (l : List (List Int)) (S : Nat) (q : G18) : Nat → G18
 | 0 => q
 | K + 1 => Yr (z2f m l S K) (tb m S K) (XV m l S q K)
def jB (m : z4) (l : List (List Int)) : Nat → G18
 | 0 => (none,0)
 | S + 1 => XV m l (S + 1) (jB m l S) (tot m (S + 1))
def z18 : z4 := ⟨0,0,[]⟩
def zcW (q : G18) : Prop := q.1 = none ↔ q.2 = 0
theorem zhi {g : Bool}  {q : G18} (h : zcW q) : zcW (Yr g t q) := by
 unfold Yr
 split
 ·exact ⟨fun e => (by cases e),fun e => (by cases e)⟩
 ·exact h
variable {S : Nat}
theorem za8 {q : G18} (h : zcW q) : ∀ K,zcW (XV m l S q K)
 | 0 => h
 | K + 1 => zhi (za8 h K)
theorem zbA (m : z4) (l : List (List Int)) : ∀ S,zcW (jB m l S)
 | 0 => ⟨fun _ => rfl,fun _ => rfl⟩
 | S + 1 => za8 (zbA m l S) _
theorem z8e (m : z4) (l : List (List Int)) (S : Nat) (q : G18) : ∀ K,(XV m l S q K).2 ≤ q.2 + K
 | 0 => Nat.le_refl _
 | K + 1 => by
  have := z8e m l S q K
  show (Yr _ _ _).2 ≤ _
  unfold Yr
  split
  ·simp only; omega
  ·omega
theorem z8b {q : G18} {x : z4} : ∀ {K J : Nat},K ≤ J → (XV m l S q K).1 = some x → (XV m l S q J).1 = some x := by
 intro K J h e
 induction h with
 | refl => exact e
 | step _ ih =>
  show (Yr _ _ _).1 = _
  unfold Yr
  split
  ·simp only [ih,Option.getD_some]
  ·exact ih
theorem z5b {q : G18} (h : q.1 = none) : ∀ {K : Nat},(∀ k,k < K → z2f m l S k = false) → (XV m l S q K).1 = none
 | 0,_ => h
 | K + 1,g => by
  show (Yr _ _ _).1 = _
  unfold Yr
  rw [g K (Nat.lt_succ_self K),if_neg (by decide)]
  exact z5b h fun k hk => g k (Nat.lt_succ_of_lt hk)
section
variable {m : z4} (hm : VM m) (cm : Cpl m) {l : List (List Int)} (hl : l.length ≤ 1000) (hw : ∀ w ∈ l,w.length ≤ 1000 ∧ ∀ c ∈ w,0 ≤ c ∧ c < m.Inputs)
include hm cm hl hw
theorem zdp (ht : VM t) (hi : m.Inputs = t.Inputs) : Ret (loop (fun s => wC ⟨m,l,()⟩ t s) 0) fun r => (r = .inl () ∧ ∀ w ∈ l,stp m t w = -1) ∨ (r = .inr false ∧ ¬ ∀ w ∈ l,stp m t w = -1) := by
 refine zt (fun q => ∃ i : Nat,q = (i : Int) ∧ i ≤ l.length ∧ ∀ w ∈ l.take i,stp m t w = -1) (fun q => 2000 - q.toNat) ⟨0,rfl,Nat.zero_le _,fun w h => by simp at h⟩ (by simp) ?_
 rintro _ ⟨i,rfl,hi2,hall⟩
 unfold wC
 rw [zg]
 refine ⟨fun c => ?_,fun c => ?_⟩
 ·have hlt : i < l.length := by have := of_decide_eq_true c; simp only at this; omega
  have hx := List.getElem?_eq_getElem hlt
  have hmem := List.getElem_mem hlt
  show Ret (Option.bind (idx l (i : Int)) _) _
  rw [zx,bdT hx,bdT (zdo hm ht hi (hw _ hmem).2 (hw _ hmem).1),zg]
  refine ⟨fun c => z6.2 (.inr ⟨rfl,fun q => ?_⟩),fun c => ?_⟩
  ·rw [q _ hmem] at c; simp at c
  ·rw [Qz (by omega)]
   refine z6.2 ⟨⟨i + 1,rfl,hlt,fun w h => ?_⟩,by simp only [Int.toNat_natCast]; omega⟩
   rw [List.take_add_one,hx] at h
   rcases List.mem_append.1 h with g | g
   ·exact hall w g
   ·rw [show w = l[i] by simpa using g]; simpa using c
 ·have : i = l.length := by have := of_decide_eq_false c; simp only at this; omega
  rw [this,List.take_length] at hall
  exact z6.2 (.inl ⟨rfl,hall⟩)
theorem zap (ht : VM t) (hi : m.Inputs = t.Inputs) : Ret (jF m t l) fun p => (p.1 < 0 ∧ ∀ w ∈ l,stp m t w = -1) ∨ (0 ≤ p.1 ∧ ¬ ∀ w ∈ l,stp m t w = -1) := by
 unfold jF
 rw [zh]
 refine Ret.mono (Q := fun r : Unit ⊕ (Int × Int) => match r with | .inl _ => ∀ w ∈ l,stp m t w = -1 | .inr p => 0 ≤ p.1 ∧ ¬ ∀ w ∈ l,stp m t w = -1) (zt (fun q => ∃ i : Nat,q = (i : Int) ∧ i ≤ l.length ∧ ∀ w ∈ l.take i,stp m t w = -1) (fun q => 2000 - q.toNat) ⟨0,rfl,Nat.zero_le _,fun w h => by simp at h⟩ (by simp) ?_) ?_
 ·rintro _ ⟨i,rfl,hi2,hall⟩
  unfold jZ
  rw [zg]
  refine ⟨fun c => ?_,fun c => ?_⟩
  ·have hlt : i < l.length := by have := of_decide_eq_true c; omega
   have hx := List.getElem?_eq_getElem hlt
   have hmem := List.getElem_mem hlt
   have hg := zhO (rsp m 0 (l[i].map Int.toNat)) (rsp t 0 (l[i].map Int.toNat)) 0
   rw [zx,bdT hx,bdT (zcG hm ht hi (hw _ hmem).2 (hw _ hmem).1),zg]
   refine ⟨fun c => z6.2 ⟨by simp only; omega,fun q => ?_⟩,fun c => ?_⟩
   ·rw [q _ hmem] at c; simp at c
   ·rw [Qz (by omega)]
    refine z6.2 ⟨⟨i + 1,rfl,hlt,fun w h => ?_⟩,by simp only [Int.toNat_natCast]; omega⟩
    rw [List.take_add_one,hx] at h
    rcases List.mem_append.1 h with g | g
    ·exact hall w g
    ·have c := of_decide_eq_false c
     rw [show w = l[i] by simpa using g]
     unfold stp at c ⊢
     omega
  ·have : i = l.length := by have := of_decide_eq_false c; omega
   rw [this,List.take_length] at hall
   exact z6.2 hall
 ·rintro (_ | p) hp
  ·exact z6.2 (.inl ⟨by simp only; omega,hp⟩)
  ·exact z6.2 (.inr hp)
variable (h4 : m.Inputs ≤ 4)
include h4
theorem z5k (hS : 1 ≤ S ∧ S ≤ 5) (k : Nat) : ∃ (p : Int × Int) (b : Bool) (w : List Int) (d : Bool),xe ⟨m,l,()⟩ (tb m S k) = some (z2f m l S k) ∧ jF m (tb m S k) l = some p ∧ wS (tb m S k) = some b ∧ ut m (tb m S k) = some (w,d) ∧ (z2f m l S k = true ↔ (p.1 < 0 ∧ b = true ∧ d = true)) := by
 have hS2 : 1 ≤ S ∧ S ≤ 20 := by omega
 have ht := zf5 hm hS2 k
 have ct := zhh hm hS2 k
 have tl := z61 hm hS2 k
 have hi : m.Inputs = (tb m S k).Inputs := rfl
 have hk : kk (tb m S k) = kk m := rfl
 have hke := hm.kk_eq
 have hk1 := hm.kk_pos
 have hG : GG (kk (tb m S k)) (tb m S k).Rows.length ≤ 1000000000 := by
  rw [hk,tl]
  have e : kk m = 1 ∨ kk m = 2 ∨ kk m = 3 ∨ kk m = 4 := by omega
  have hg : GG (kk m) S ≤ GG (kk m) 8 := z3I (by omega)
  rcases e with e | e | e | e <;> rw [e] at hg ⊢ <;> exact Nat.le_trans hg (by decide)
 obtain ⟨b1,c1,c2⟩ := zgf ht ct
 obtain ⟨b,c3,c4⟩ := zcO ht ct hG
 obtain ⟨p,p1,p2⟩ := zap hm cm hl hw ht hi
 obtain ⟨r,r1,r2⟩ := zdp hm cm hl hw ht hi
 obtain ⟨e,e1,e2⟩ := zfY hm ht hi cm ct
 obtain ⟨w,d,d1,d2⟩ := zhR hm ht hi cm ct
 have hb : b1 = b := by rw [Bool.eq_iff_iff,c2,c4]
 have hd : e = !d := by rw [Bool.eq_iff_iff,e2,Bool.not_eq_true',← Bool.not_eq_true,d2]
 have key : ∃ g,xe ⟨m,l,()⟩ (tb m S k) = some g ∧ (g = true ↔ (p.1 < 0 ∧ b = true ∧ d = true)) := by
  unfold xe
  rw [bdT c1,hb]
  cases b with
  | false => exact ⟨false,rfl,fun q => (by cases q),fun q => (by cases q.2.1)⟩
  | true =>
   rw [Bool.not_true,cond_false,bdT r1]
   rcases r2 with ⟨rfl,r2⟩ | ⟨rfl,r2⟩
   ·refine ⟨d,?_,fun q => ⟨?_,rfl,q⟩,fun q => q.2.2⟩
    ·show wD _ _ = _
     unfold wD
     show Option.bind (Xg m (tb m S k)) _ = _
     rw [bdT e1,hd,Bool.not_not]
    ·rcases p2 with q | q
     ·exact q.1
     ·exact absurd r2 q.2
   ·refine ⟨false,rfl,fun q => (by cases q),fun q => ?_⟩
    rcases p2 with g | g
    ·exact absurd g.2 r2
    ·have := q.1; omega
 obtain ⟨g,g1,g2⟩ := key
 have hg : z2f m l S k = g := by unfold z2f; rw [g1]; rfl
 exact ⟨p,b,w,d,by rw [hg]; exact g1,p1,c3,d1,by rw [hg]; exact g2⟩
end
theorem z63 {q : G18} (h : zcW q) : (((q.2 : Nat) : Int) == 0) = q.1.isNone := by
 unfold zcW at h
 cases e : q.1 with
 | none => rw [h.1 e]; rfl
 | some x =>
  have : q.2 ≠ 0 := fun g => by rw [h.2 g] at e; cases e
  simp only [Option.isNone_some,beq_eq_false_iff_ne,ne_eq]
  omega
section
variable {m : z4} (hm : VM m) (cm : Cpl m) {l : List (List Int)} (hl : l.length ≤ 1000) (hw : ∀ w ∈ l,w.length ≤ 1000 ∧ ∀ c ∈ w,0 ≤ c ∧ c < m.Inputs) (h4 : m.Inputs ≤ 4)
include hm cm hl hw h4
theorem zcM (hS : 1 ≤ S ∧ S ≤ 5) (ht : tot m S ≤ 65536)  (hk : k < tot m S) {q : G18} (hq : zcW q) (hb : q.2 ≤ 1000000) :
  xD m l (S : Int) (q.1.getD z18).Inputs (q.1.getD z18).Outputs (q.1.getD z18).Rows ((q.2 : Nat) : Int) (k : Int) = some (.next (((Yr (z2f m l S k) (tb m S k) q).1.getD z18).Inputs,((Yr (z2f m l S k) (tb m S k) q).1.getD z18).Outputs,((Yr (z2f m l S k) (tb m S k) q).1.getD z18).Rows,(((Yr (z2f m l S k) (tb m S k) q).2 : Nat) : Int),((k + 1 : Nat) : Int))) := by
 have hS2 : 1 ≤ S ∧ S ≤ 20 := by omega
 obtain ⟨p,b,w,d,g1,g2,g3,g4,g5⟩ := z5k hm cm hl hw h4 hS k
 have hmin : min ((S * m.Outputs.toNat) ^ (S * kk m)) 65537 = tot m S := Nat.min_eq_left (by unfold tot at ht; omega)
 have hk2 : k < 65536 := by omega
 unfold xD
 rw [bdT (z2P hm hS2),hmin,decide_eq_true (by omega),cond_true,bdT (zhu hm hS2 ht hk),bdT g2]
 have skip : z2f m l S k = false → (xF (k : Int) (q.1.getD z18).Inputs (q.1.getD z18).Outputs (q.1.getD z18).Rows ((q.2 : Nat) : Int) : zgE) = some (.next (((Yr (z2f m l S k) (tb m S k) q).1.getD z18).Inputs,((Yr (z2f m l S k) (tb m S k) q).1.getD z18).Outputs,((Yr (z2f m l S k) (tb m S k) q).1.getD z18).Rows,(((Yr (z2f m l S k) (tb m S k) q).2 : Nat) : Int),((k + 1 : Nat) : Int))) := fun e => by
  unfold Yr
  rw [e,if_neg (by decide)]
  unfold xF
  rw [Qz (by omega)]
 by_cases c1 : p.1 ≥ 0
 ·rw [decide_eq_true c1]
  exact skip (Bool.eq_false_iff.2 fun q => by have := (g5.1 q).1; omega)
 ·rw [decide_eq_false c1,cond_false,bdT g3]
  cases b with
  | false => exact skip (Bool.eq_false_iff.2 fun q => by cases (g5.1 q).2.1)
  | true =>
   rw [Bool.not_true,cond_false,bdT g4]
   cases d with
   | false => exact skip (Bool.eq_false_iff.2 fun q => by cases (g5.1 q).2.2)
   | true =>
    have e : z2f m l S k = true := g5.2 ⟨by omega,rfl,rfl⟩
    rw [Bool.not_true,cond_false,z63 hq]
    unfold Yr kf xF
    rw [e,if_pos rfl,Qz (by omega),Qz (by omega)]
    cases q.1 with
    | none => rfl
    | some x => rfl
theorem zfv (hS : 1 ≤ S ∧ S ≤ 5) (ht : tot m S ≤ 65536) {q : G18} (hq : zcW q) (hb : q.2 ≤ 500000) :
  loop (fun s => xD m l (S : Int) s.1 s.2.1 s.2.2.1 s.2.2.2.1 s.2.2.2.2) ((q.1.getD z18).Inputs,(q.1.getD z18).Outputs,(q.1.getD z18).Rows,((q.2 : Nat) : Int),0) = some (((XV m l S q (tot m S)).1.getD z18).Inputs,((XV m l S q (tot m S)).1.getD z18).Outputs,((XV m l S q (tot m S)).1.getD z18).Rows,(((XV m l S q (tot m S)).2 : Nat) : Int)) := by
 have hS2 : 1 ≤ S ∧ S ≤ 20 := by omega
 have hmin : min ((S * m.Outputs.toNat) ^ (S * kk m)) 65537 = tot m S := Nat.min_eq_left (by unfold tot at ht; omega)
 refine xG (step := fun s => xD m l (S : Int) s.1 s.2.1 s.2.2.1 s.2.2.2.1 s.2.2.2.2) (fun k => (((XV m l S q k).1.getD z18).Inputs,((XV m l S q k).1.getD z18).Outputs,((XV m l S q k).1.getD z18).Rows,(((XV m l S q k).2 : Nat) : Int),(k : Int))) (tot m S) (by omega) (fun k hk => ?_) ?_
 ·have hle := z8e m l S q k
  exact zcM hm cm hl hw h4 hS ht hk (za8 hq k) (by omega)
 ·show xD m l (S : Int) _ _ _ _ (tot m S : Int) = _
  unfold xD
  rw [bdT (z2P hm hS2),hmin,decide_eq_false (by omega),cond_false]
variable {n : Nat} (hn : 1 ≤ n ∧ n ≤ 5) (ht : ∀ S,1 ≤ S → S ≤ n → tot m S ≤ 65536)
include hn ht
theorem zbB : ∀ S,S ≤ n → (jB m l S).2 ≤ S * 65536
 | 0,_ => Nat.zero_le _
 | S + 1,h => by
  have h1 := zbB S (by omega)
  have h2 := z8e m l (S + 1) (jB m l S) (tot m (S + 1))
  have h3 := ht (S + 1) (by omega) h
  show (XV m l (S + 1) (jB m l S) (tot m (S + 1))).2 ≤ _
  omega
theorem zfw : WR m l (n : Int) = some (((jB m l n).1.getD z18),(((jB m l n).2 : Nat) : Int)) := by
 have lp : loop (fun s => xE m l (n : Int) s.1 s.2.1 s.2.2.1 s.2.2.2.1 s.2.2.2.2) (0,0,([] : List (List z5)),0,1) = some (((jB m l n).1.getD z18).Inputs,((jB m l n).1.getD z18).Outputs,((jB m l n).1.getD z18).Rows,(((jB m l n).2 : Nat) : Int)) := by
  refine xG (step := fun s => xE m l (n : Int) s.1 s.2.1 s.2.2.1 s.2.2.2.1 s.2.2.2.2) (fun S => (((jB m l S).1.getD z18).Inputs,((jB m l S).1.getD z18).Outputs,((jB m l S).1.getD z18).Rows,(((jB m l S).2 : Nat) : Int),((S : Int) + 1))) n (by omega) (fun S hS => ?_) ?_
  ·have h1 := zbB hm cm hl hw h4 hn ht S (by omega)
   have hr := zfv hm cm hl hw h4 (S := S + 1) (by omega) (ht (S + 1) (by omega) hS) (zbA m l S) (by omega)
   show xE m l (n : Int) _ _ _ _ ((S : Int) + 1) = _
   unfold xE
   rw [decide_eq_true (by omega),cond_true,show ((S : Int) + 1) = ((S + 1 : Nat) : Int) by omega,bdT hr]
   unfold YO
   rw [Qz (by omega)]
   rfl
  ·show xE m l (n : Int) _ _ _ _ ((n : Int) + 1) = _
   unfold xE
   rw [decide_eq_false (by omega),cond_false]
 unfold WR
 rw [bdT lp]
 rfl
theorem zg8 : yG (fun (s : Int) _ => some (w64 (s + 1),true)) m l (n : Int) 0 = some (((jB m l n).2 : Nat) : Int) := by
 unfold yG
 refine xG (step := fun q : Int × Int => zZ (fun s _ => some (w64 (s + 1),true)) m l (n : Int) q.1 q.2) (fun S => ((S : Int) + 1,(((jB m l S).2 : Nat) : Int))) n (by omega) (fun S hS => ?_) ?_
 ·have h1 := zbB hm cm hl hw h4 hn ht S (by omega)
  have h2 := ht (S + 1) (by omega) hS
  have ta := z4e (S := S + 1) hm (by omega) h2 (yy := yOf fun s x => zO (fun (s : Int) _ => some (w64 (s + 1),true)) m l s x) (fun k => LR.next (((XV m l (S + 1) (jB m l S) k).2 : Nat) : Int)) (fun k hk => by
   obtain ⟨p,b,w,d,g1,_⟩ := z5k hm cm hl hw h4 (S := S + 1) (by omega) k
   have hle := z8e m l (S + 1) (jB m l S) k
   unfold yOf zO
   simp only
   rw [bdT g1]
   show _ = some (LR.next (((Yr _ _ _).2 : Nat) : Int),true)
   unfold Yr
   cases z2f m l (S + 1) k with
   | false => rfl
   | true =>
    rw [cond_true,if_pos rfl]
    simp only [Option.bind_some,cond_true]
    rw [Qz (by omega)])
  show zZ _ m l (n : Int) ((S : Int) + 1) _ = _
  unfold zZ
  rw [decide_eq_true (by omega),cond_true,show ((S : Int) + 1) = ((S + 1 : Nat) : Int) by omega]
  unfold XI
  rw [Option.bind_some]
  show Option.bind (wB m ((S + 1 : Nat) : Int) _ (LR.next (((XV m l (S + 1) (jB m l S) 0).2 : Nat) : Int))) _ = _
  rw [bdT ta]
  simp only
  rw [Qz (by omega)]
  rfl
 ·show zZ _ m l (n : Int) ((n : Int) + 1) _ = _
  unfold zZ
  rw [decide_eq_false (by omega),cond_false]
theorem zfU : yG (fun (_ : z4) x => some (x,false)) m l (n : Int) z18 = some ((jB m l n).1.getD z18) := by
 have keep : ∀ S T,S ≤ T → ∀ x,(jB m l S).1 = some x → (jB m l T).1 = some x := fun S T h x e => by
  induction h with
  | refl => exact e
  | step _ ih => exact z8b (K := 0) (Nat.zero_le _) ih
 unfold yG
 refine Ret.eq ?_
 refine zt (fun q : Int × z4 => ∃ S : Nat,q.1 = (S : Int) + 1 ∧ S ≤ n ∧ q.2 = z18 ∧ (jB m l S).1 = none) (fun q => 100 - q.1.toNat) ⟨0,rfl,Nat.zero_le _,rfl,rfl⟩ (by show 100 - _ < _; omega) ?_
 rintro ⟨_,_⟩ ⟨S,rfl,hSn,rfl,hnone⟩
 show Ret (zZ _ m l (n : Int) ((S : Int) + 1) z18) _
 unfold zZ
 rw [zg]
 refine ⟨fun c => ?_,fun c => ?_⟩
 ·have hS : S < n := by have := of_decide_eq_true c; omega
  have h2 := ht (S + 1) (by omega) hS
  have gb : ∀ k,xe ⟨m,l,()⟩ (tb m (S + 1) k) = some (z2f m l (S + 1) k) := fun k => by
   obtain ⟨p,b,w,d,g1,_⟩ := z5k hm cm hl hw h4 (S := S + 1) (by omega) k
   exact g1
  have yn : ∀ k,z2f m l (S + 1) k = false → (yOf fun s x => zO (fun (_ : z4) x => some (x,false)) m l s x) (LR.next z18) (tb m (S + 1) k) = some (LR.next z18,true) := fun k e => by
   unfold yOf zO
   simp only
   rw [bdT (gb k),e]
   rfl
  have yd : ∀ k,z2f m l (S + 1) k = true → (yOf fun s x => zO (fun (_ : z4) x => some (x,false)) m l s x) (LR.next z18) (tb m (S + 1) k) = some (LR.done (tb m (S + 1) k),false) := fun k e => by
   unfold yOf zO
   simp only
   rw [bdT (gb k),e]
   rfl
  rw [show ((S : Int) + 1) = ((S + 1 : Nat) : Int) by omega]
  unfold XI
  rw [Option.bind_some]
  by_cases hex : ∃ K,K < tot m (S + 1) ∧ z2f m l (S + 1) K = true ∧ ∀ k,k < K → z2f m l (S + 1) k = false
  ·obtain ⟨K,k1,k2,k3⟩ := hex
   rw [show ((m,((S + 1 : Nat) : Int)) : z4 × Int).1 = m from rfl,show ((m,((S + 1 : Nat) : Int)) : z4 × Int).2 = ((S + 1 : Nat) : Int) from rfl,bdT (z7h (S := S + 1) hm (by omega) h2 k1 (fun k hk => yn k (k3 k hk)) (yd K k2))]
   refine z6.2 ?_
   have e1 : (XV m l (S + 1) (jB m l S) (K + 1)).1 = some (tb m (S + 1) K) := by
    show (Yr _ _ _).1 = _
    unfold Yr
    rw [k2,if_pos rfl,z5b hnone k3]
    rfl
   have e2 : (jB m l (S + 1)).1 = some (tb m (S + 1) K) := z8b (J := tot m (S + 1)) k1 e1
   rw [keep (S + 1) n hS _ e2]
   rfl
  ·have hall : ∀ k,k < tot m (S + 1) → z2f m l (S + 1) k = false := fun k => by
    induction k using Nat.strongRecOn with
    | _ k ih =>
     intro hk
     refine Bool.eq_false_iff.2 fun e => hex ⟨k,hk,e,fun j hj => ih j hj (by omega)⟩
   rw [show ((m,((S + 1 : Nat) : Int)) : z4 × Int).1 = m from rfl,show ((m,((S + 1 : Nat) : Int)) : z4 × Int).2 = ((S + 1 : Nat) : Int) from rfl,bdT (z4e (S := S + 1) hm (by omega) h2 (fun _ => LR.next z18) (fun k hk => yn k (hall k hk)))]
   simp only
   rw [Qz (by omega)]
   refine z6.2 ⟨⟨S + 1,rfl,hS,rfl,z5b hnone hall⟩,by simp only [Int.toNat_natCast]; omega⟩
 ·have : S = n := by have := of_decide_eq_false c; omega
  rw [this] at hnone
  refine z6.2 ?_
  rw [hnone]
  rfl
end
theorem z76 {k : Int} (hk : 1 ≤ k)   (hw : l[i]? = some w) (h0 : ∀ c ∈ w,0 ≤ c) (hl : w.length ≤ 100000) :
  Ret (loop (fun s => wW l k (i : Int) s.1 s.2) (([] : List Int),0)) fun r => r.length ≤ w.length ∧ ∀ c ∈ r,0 ≤ c ∧ c < k := by
 refine zt (fun q => ∃ j : Nat,q.2 = (j : Int) ∧ j ≤ w.length ∧ q.1.length = j ∧ ∀ c ∈ q.1,0 ≤ c ∧ c < k) (fun q => 200000 - q.2.toNat) ⟨0,rfl,Nat.zero_le _,rfl,by simp⟩ (by show 200000 - _ < _; omega) ?_
 rintro ⟨q,_⟩ ⟨j,rfl,hj,hq,hc⟩
 simp only at hq hc
 show Ret (wW l k (i : Int) q (j : Int)) _
 unfold wW
 rw [zC hw,Option.bind_some,zg]
 refine ⟨fun h1 => ?_,fun h1 => z6.2 ⟨by omega,hc⟩⟩
 have hlt : j < w.length := by simpa using h1
 have hx : w[j]? = some w[j] := List.getElem?_eq_getElem hlt
 have hp := h0 _ (List.getElem_mem hlt)
 rw [Option.bind_some,zC hx,Option.bind_some,gdT (by omega),gdT (by simp; omega),z6,Qz (by omega),Int.tmod_eq_emod_of_nonneg hp]
 refine ⟨⟨j + 1,rfl,hlt,by simp [hq],fun c hm => ?_⟩,by simp only; omega⟩
 rcases List.mem_append.1 hm with g | g
 ·exact hc c g
 ·rw [List.mem_singleton.1 g]
  exact ⟨Int.emod_nonneg _ (by omega),Int.emod_lt_of_pos _ (by omega)⟩
theorem z94 {L K : Nat}  (h : Wq n L K l) (hL : L ≤ 1000) (hK : K ≤ 1000) {k : Int} (hk : 1 ≤ k) : Ret (Yf l k) (Wq k L K) := by
 have hlen := h.2.1
 have loop_ : Ret (loop (fun s => wX l k s.1 s.2) (([] : List (List Int)),0)) fun r => r.length ≤ L ∧ ∀ w ∈ r,w.length ≤ K ∧ ∀ c ∈ w,0 ≤ c ∧ c < k := by
  refine zt (fun q => ∃ j : Nat,q.2 = (j : Int) ∧ j ≤ l.length ∧ q.1.length = j ∧ ∀ w ∈ q.1,w.length ≤ K ∧ ∀ c ∈ w,0 ≤ c ∧ c < k) (fun q => 2000 - q.2.toNat) ⟨0,rfl,Nat.zero_le _,rfl,by simp⟩ (by show 2000 - _ < _; omega) ?_
  rintro ⟨q,_⟩ ⟨j,rfl,hj,hq,hc⟩
  simp only at hq hc
  show Ret (wX l k q (j : Int)) _
  unfold wX
  rw [zg]
  refine ⟨fun h1 => ?_,fun h1 => z6.2 ⟨by omega,hc⟩⟩
  have hlt : j < l.length := by simpa using h1
  have hx : l[j]? = some l[j] := List.getElem?_eq_getElem hlt
  obtain ⟨b1,b2⟩ := h.2.2 _ (List.getElem_mem hlt)
  rw [zh]
  refine (z76 hk hx (fun c hc => (b2 c hc).1) (by omega)).mono fun r hr => ?_
  unfold Zc Zd
  rw [gdT (by simp; omega),z6,Qz (by omega)]
  refine ⟨⟨j + 1,rfl,hlt,by simp [hq],fun w hm => ?_⟩,by simp only; omega⟩
  rcases List.mem_append.1 hm with g | g
  ·exact hc w g
  ·rw [List.mem_singleton.1 g]
   exact ⟨by have := hr.1; omega,hr.2⟩
 unfold Yf
 rw [zh]
 refine loop_.mono fun r hr => ?_
 unfold Ze
 rw [z8p (by have := hr.1; omega) (fun w hw => by have := (hr.2 w hw).1; omega),Option.bind_some,z6]
 exact ⟨z9P r,Nat.le_trans (z7j r) hr.1,fun w hw => hr.2 w (z7D.1 hw)⟩
structure KM (m : z4) : Prop where
 vm : VM m
 cpl : Cpl m
 dist : zic m
 rall : zi6 m
 inp : m.Inputs ≤ 4
 len : m.Rows.length ≤ 6
theorem KM.proper (h : KM m) : wh m = some 0 := by
 have ⟨e,e1,e2⟩ := z9h h.vm
 rw [e1,e2.uniq (.inr (.inr (.inr ⟨rfl,h.cpl,h.rall,h.dist⟩)))]
theorem zfM {l : List α}  {x : α} (h : l[i]? = some x) : i < l.length := (List.getElem?_eq_some_iff.1 h).1
section
variable {m p : z4} {F : List Nat} (h : VM m) (hc : Cpl m) (hF : Zt m F) (hp : zdX m F p)
include h hc hF hp
theorem zhF : VM p := by
 have hz := (z4z h hF).1
 have hl := hF.len
 have l64 := h.len64
 have hkk : kk p = kk m := by unfold kk; rw [hp.inp]
 have hke := h.kk_eq
 refine ⟨by rw [hp.inp]; exact h.in1,by rw [hp.inp]; exact h.in16,by rw [hp.out]; exact h.out1,by rw [hp.out]; exact h.out16,by rw [hp.len]; omega,by rw [hp.len]; omega,fun r hr => ?_,fun r hr x hx => ?_⟩
 ·have ⟨k,hk⟩ := List.mem_iff_getElem?.1 hr
  have hkl := zfM hk
  rw [hp.len] at hkl
  have ⟨row,q1,q2,_⟩ := hp.row k hkl
  rw [hk] at q1
  cases q1
  rw [hp.inp]
  omega
 ·have ⟨k,hk⟩ := List.mem_iff_getElem?.1 hr
  have hkl := zfM hk
  rw [hp.len] at hkl
  have ⟨row,q1,q2,q3⟩ := hp.row k hkl
  rw [hk] at q1
  cases q1
  have ⟨i,hi⟩ := List.mem_iff_getElem?.1 hx
  have hil := zfM hi
  rw [q2] at hil
  have ⟨e,e1,e2,e3⟩ := q3 i hil
  rw [hi] at e1
  cases e1
  have ⟨_,f2,_⟩ := hF.at hkl
  have he := h.edgeAt f2 hil
  have hcc := hc _ i f2 hil
  rw [hp.len,hp.out]
  rcases e3 with ⟨g0,n,g1,g2,_⟩ | ⟨g0,_⟩
  ·right
   omega
  ·omega
omit h in
theorem zfJ : Cpl p := by
 intro s i hs hi
 rw [hp.len] at hs
 have hkk : kk p = kk m := by unfold kk; rw [hp.inp]
 rw [hkk] at hi
 have ⟨_,f2,_⟩ := hF.at hs
 have hcc := hc _ i f2 hi
 rcases (zj5 hp hkk hs hi).2 with ⟨_,n,g,_⟩ | ⟨g,_⟩
 ·rw [g]; exact Int.natCast_nonneg n
 ·omega
omit h hc in
theorem zd0 : zic p := by
 intro s t hs ht hst
 rw [hp.len] at hs ht
 have hkk : kk p = kk m := by unfold kk; rw [hp.inp]
 refine hF.uniq hs ht fun w hw => ?_
 rw [← z7s hF hp w s hs hw,← z7s hF hp w t ht hw]
 exact hst w (by rw [hkk]; exact hw)
omit h hF hp in
theorem zcu {s t i : Nat} (hs : s < m.Rows.length) (ht : t < m.Rows.length) (hi : i < kk m) (q : SEq m s t) : SEq m (E m s i).To.toNat (E m t i).To.toNat := by
 have a := hc s i hs hi
 have b := hc t i ht hi
 intro w hw
 have := q (i :: w) fun j hj => by
  rcases List.mem_cons.1 hj with rfl | hj
  ·exact hi
  ·exact hw j hj
 simp [rsp,j0,List.cons.injEq] at this
 rw [Int.toNat_of_nonneg a,Int.toNat_of_nonneg b]
 exact this.2
theorem zaB : ∀ (v : List Nat) (k s : Nat),k < F.length → s < m.Rows.length → Wd (kk m) v → SEq m F[k]! s → ∃ n t : Nat,aft p (k : Int) v = (n : Int) ∧ n < F.length ∧ aft m (s : Int) v = (t : Int) ∧ t < m.Rows.length ∧ SEq m F[n]! t
 | [],k,s,hk,hs,_,q => ⟨k,s,rfl,hk,rfl,hs,q⟩
 | i :: v,k,s,hk,hs,hv,q => by
  have hkk : kk p = kk m := by unfold kk; rw [hp.inp]
  have hi := hv i (by simp)
  have ⟨_,f2,_⟩ := hF.at hk
  have hcs := hc s i hs hi
  have hes := h.edgeAt hs hi
  rcases (zj5 hp hkk hk hi).2 with ⟨g0,n,g1,g2,g3⟩ | ⟨g,_⟩
  ·have hstep := zcu hc f2 hs hi q
   have ⟨n',t',r1,r2,r3,r4,r5⟩ := zaB v n (E m s i).To.toNat g2 (by omega) (fun j hj => hv j (by simp [hj])) (g3.trans hstep)
   refine ⟨n',t',?_,r2,?_,r4,r5⟩
   ·simp [aft,j0,g1]
    exact r1
   ·simp [aft,j0]
    rw [← Int.toNat_of_nonneg hcs]
    exact r3
  ·have := hc _ i f2 hi
   omega
theorem zcZ : zi6 p := by
 intro t ht
 rw [hp.len] at ht
 have hkk : kk p = kk m := by unfold kk; rw [hp.inp]
 have hz := z4z h hF
 have ⟨f1,f2,_⟩ := hF.at ht
 have ⟨_,v,hv⟩ := hF.acc _ f1
 have ⟨n,u,a,b,c,_,d⟩ := zaB h hc hF hp v 0 0 hz.1 (by have := h.len1; omega) hv.wd (by rw [hz.2]; exact SEq.refl 0)
 have hu : u = F[t]! := by
  have e : aft m 0 v = (u : Int) := c
  rw [hv.aft] at e
  omega
 subst hu
 have hn := hF.uniq b ht d
 subst hn
 exact ⟨v,by rw [hkk]; exact hv.wd,a⟩
end
end Go.Own
