/- -/
import Derived.Test.YtlejgipmepemjaaPartE
import Derived.Test.YtlejgipmepemjaaPartG
import Derived.Test.YtlejgipmepemjaaPartB
import Derived.OpenShut
import Derived.ChangeShapes
import Derived.Test.YtlejgipmepemjaaPartC
import Derived.WalkKit
import Derived.ProofKit
import Derived.Carry
import Derived.Test.YtlejgipmepemjaaRows
import Derived.Test.YtlejgipmepemjaaChecked
set_option linter.unusedVariables false
set_option linter.unusedSimpArgs false
namespace Go.Own
theorem zD {α : Type} {l : List α} {i : Nat} {x : α} (h : l[i]? = some x) : idx l (i : Int) = some x := h
theorem z2X (b : List Int) (g : Nat → Int → Option Int) (hg : ∀ i x y, b[i]? = some y → g i x = if x < y then some (-1) else if y < x then some 1 else none) :
  ∀ (a : List Int) (k : Nat), k + a.length = b.length → (yQ g a k).getD 0 = Yy a (b.drop k)
 | [], k, h => by
  have : b.drop k = [] := List.drop_eq_nil_of_le (by simp at h; omega)
  rw [this]; rfl
 | x :: a, k, h => by
  simp only [List.length_cons] at h
  have hk : k < b.length := by omega
  rw [List.drop_eq_getElem_cons hk]
  simp only [yQ, Yy, hg k x b[k] (List.getElem?_eq_getElem hk)]
  by_cases h1 : x < b[k]
  ·simp [h1]
  ·by_cases h2 : b[k] < x
   ·simp [h1, h2]
   ·simp only [h1, h2, if_false]
    exact z2X b g hg a (k + 1) (by omega)
theorem ub (a b : List Int) (h : a.length = b.length → a.length < 4611686018427387904) : yJ a b = some (uM a b) := by
 unfold yJ
 by_cases hl : a.length = b.length
 ·have h' := h hl
  simp only [hl, bne_self_eq_false, cond_false]
  rw [bdT (wX a h' (fun i x => match b[i]? with | some y => if x < y then some (-1 : Int) else if y < x then some 1 else none | none => none) ?_ ?_)]
  ·have q := z2X b (fun i x => match b[i]? with | some y => if x < y then some (-1 : Int) else if y < x then some 1 else none | none => none) (fun i x y hy => by simp only [hy]) a 0 (by omega)
   rw [List.drop_zero] at q
   have hc : uM a b = Yy a b := by unfold uM; rw [if_neg (by omega), if_neg (by omega)]
   rw [hc, ← q]
   cases yQ (fun i x => match b[i]? with | some y => if x < y then some (-1 : Int) else if y < x then some 1 else none | none => none) a 0 <;> rfl
  ·intro i x hx
   have hi : i < a.length := (List.getElem?_eq_some_iff.1 hx).1
   have hy : b[i]? = some b[i] := List.getElem?_eq_getElem (by omega)
   unfold vt
   have hc : decide ((i : Int) < (a.length : Int)) = true := by simpa using hi
   simp only [hc, cond_true, zD hx, zD hy, hy, Option.bind_some]
   by_cases h1 : x < b[i]
   ·simp [h1, nS]
   ·by_cases h2 : b[i] < x
    ·simp [h1, h2, nS]
    ·simp [h1, h2, nS]
  ·unfold vt
   simp
 ·have h1 : (((a.length : Nat) : Int) != ((b.length : Nat) : Int)) = true := by simp; omega
  simp only [h1, cond_true]
  unfold uM
  by_cases h2 : a.length < b.length
  ·simp [h2]
  ·have h3 : b.length < a.length := by omega
   simp [h2, h3]
def cI (x y : Int) : Int := if x < y then -1 else if y < x then 1 else 0
theorem z35 (x y : Int) : v7 x y = some (cI x y) := by
 unfold v7 uY cI
 simp only [bne_self_eq_false, Option.bind_some, cond_false]
 by_cases h1 : x < y
 ·simp [h1]
 ·by_cases h2 : y < x
  ·simp [h1, h2]
  ·simp [h1, h2]
theorem z68 (a b : List Int) (h : a.length < 4611686018427387904) : ∃ c, xc a b = some c ∧ (a.length = b.length → c = Yy a b) := by
 unfold xc
 have hloop := wX a h (step := fun s => yq a b s) (fun i x => match b[i]? with | some y => if x < y then some (-1 : Int) else if y < x then some 1 else none | none => some 1) (by
  intro i x hx
  have hi : i < a.length := (List.getElem?_eq_some_iff.1 hx).1
  unfold yq
  have hc : decide ((i : Int) < (a.length : Int)) = true := by simpa using hi
  simp only [hc, cond_true, zD hx, Option.bind_some]
  by_cases hb : i < b.length
  ·have hy : b[i]? = some b[i] := List.getElem?_eq_getElem hb
   have hd : decide ((i : Int) ≥ (b.length : Int)) = false := by simp; omega
   simp only [hd, cond_false, zD hy, hy, Option.bind_some, z35]
   unfold cI
   by_cases h1 : x < b[i]
   ·simp [h1, nS]
   ·by_cases h2 : b[i] < x
    ·simp [h1, h2, nS]
    ·simp [h1, h2, nS]
  ·have hy : b[i]? = none := List.getElem?_eq_none (by omega)
   have hd : decide ((i : Int) ≥ (b.length : Int)) = true := by simp; omega
   simp only [hd, cond_true, hy, nS]) (by unfold yq; simp)
 rw [bdT hloop]
 have q := fun hl => z2X b (fun i x => match b[i]? with | some y => if x < y then some (-1 : Int) else if y < x then some 1 else none | none => some 1) (fun i x y hy => by simp only [hy]) a 0 hl
 cases hf : yQ (fun i x => match b[i]? with | some y => if x < y then some (-1 : Int) else if y < x then some 1 else none | none => some 1) a 0 with
 | some r =>
  refine ⟨r, rfl, fun hl => ?_⟩
  have := q (by omega)
  rw [hf] at this
  simpa using this
 | none =>
  unfold xg
  by_cases hl : a.length < b.length
  ·refine ⟨-1, by simp [oS, hl], fun hl2 => by omega⟩
  ·refine ⟨0, by simp [oS, hl], fun hl2 => ?_⟩
   have := q (by omega)
   rw [hf] at this
   simpa using this
theorem z9o (x y : Int) : Z9 [x, y] = some (if x = 0 then y else x) := by
 unfold Z9
 rw [bdT (wX [x, y] (by simp) (step := fun s => uc [x, y] s) (fun i v => if v ≠ 0 then some v else none) ?_ ?_)]
 ·by_cases h1 : x = 0
  ·by_cases h2 : y = 0
   ·simp [yQ, h1, h2, oS, ju]
   ·simp [yQ, h1, h2, oS]
  ·simp [yQ, h1, oS]
 ·intro i v hv
  have hi : i < [x, y].length := (List.getElem?_eq_some_iff.1 hv).1
  unfold uc
  have hc : decide ((i : Int) < (([x, y] : List Int).length : Int)) = true := by simp only [decide_eq_true_eq]; omega
  simp only [hc, cond_true, zD hv, Option.bind_some]
  by_cases h : v = 0
  ·simp [h, nS]
  ·have hb : (v != 0) = true := by simpa using h
   simp [h, hb, nS]
 ·unfold uc; simp
theorem z1X (a b : List Int) (h : a.length < 4611686018427387904) : vd a b = some (uM a b) := by
 unfold vd
 obtain ⟨c, hc, hl⟩ := z68 a b h
 rw [z35, hc]
 simp only [Option.bind_some, z9o]
 unfold cI uM
 by_cases h1 : a.length < b.length
 ·simp [h1]
 ·by_cases h2 : b.length < a.length
  ·simp [h1, h2]
  ·simp [h1, h2, hl (by omega)]
def wE (n : Int) (w : List Int) : Int := if 256 < w.length then 3 else if w.any (fun c => decide (c < 0) || decide (n ≤ c)) then 1 else 0
theorem z26 {n : Int} {w : List Int} : wE n w = 0 ↔ w.length ≤ 256 ∧ ∀ c ∈ w, 0 ≤ c ∧ c < n := by
 unfold wE
 by_cases h : 256 < w.length
 ·rw [if_pos h]
  exact ⟨fun q => by simp at q, fun q => by omega⟩
 ·rw [if_neg h]
  by_cases h2 : w.any (fun c => decide (c < 0) || decide (n ≤ c)) = true
  ·rw [if_pos h2]
   simp only [List.any_eq_true, Bool.or_eq_true, decide_eq_true_eq] at h2
   obtain ⟨c, h3, h4⟩ := h2
   refine ⟨fun q => by simp at q, fun q => ?_⟩
   have := q.2 c h3
   omega
  ·rw [if_neg h2]
   simp only [List.any_eq_true, Bool.or_eq_true, decide_eq_true_eq, not_exists, not_and, not_or] at h2
   refine ⟨fun _ => ⟨by omega, fun c hc => ?_⟩, fun _ => rfl⟩
   have := h2 c hc
   omega
theorem z1m {ρ : Type} (p : Int → Bool) (g : Nat → Int → Option ρ) (hg : ∀ i x, (g i x).isSome = p x) : ∀ (w : List Int) (k : Nat), (yQ g w k).isSome = w.any p
 | [], k => rfl
 | x :: w, k => by
  simp only [yQ, List.any_cons]
  have := hg k x
  cases hx : g k x with
  | some r => rw [hx] at this; simp at this; simp [← this]
  | none => rw [hx] at this; simp at this; rw [this, Bool.false_or]; exact z1m p g hg w (k + 1)
theorem z5o (n : Int) (w : List Int) : (Option.bind (jA w) fun r => bif r != 0 then some r else uT w n) = some (wE n w) := by
 unfold jA wE
 by_cases h : 256 < w.length
 ·have h' : (256 : Int) < (w.length : Int) := by omega
  simp [h, h']
 ·have hd : decide (((w.length : Nat) : Int) > 256) = false := by simp; omega
  simp only [hd, cond_false, Option.bind_some, bne_self_eq_false, if_neg h]
  unfold uT
  have hl := wX w (by omega) (step := fun s => wh w n s) (fun i c => if c < 0 ∨ n ≤ c then some (1 : Int) else none) (by
   intro i c hc
   have hi : i < w.length := (List.getElem?_eq_some_iff.1 hc).1
   unfold wh
   have hq : decide ((i : Int) < (w.length : Int)) = true := by simpa using hi
   simp only [hq, cond_true, zD hc, Option.bind_some]
   by_cases h1 : c < 0
   ·simp [h1, nS]
   ·by_cases h2 : n ≤ c
    ·simp [h1, h2, nS]
    ·simp [h1, h2, nS]) (by unfold wh; simp)
  rw [bdT hl]
  have q := z1m (fun c => decide (c < 0) || decide (n ≤ c)) (fun i c => if c < 0 ∨ n ≤ c then some (1 : Int) else none) (fun i c => by by_cases h : c < 0 ∨ n ≤ c <;> simp [h] <;> simpa using h) w 0
  cases hf : yQ (fun i c => if c < 0 ∨ n ≤ c then some (1 : Int) else none) w 0 with
  | none => rw [hf] at q; rw [← q]; rfl
  | some r =>
   rw [hf] at q
   obtain ⟨i, x, h1, h2⟩ := u0 hf
   rw [← q]
   split at h2
   ·cases h2; rfl
   ·cases h2
theorem z27 (n : Int) (w : List Int) : qu w n = some (if 16 < n then 3 else if 256 < w.length then 3 else if n < 1 then 1 else wE n w) := by
 unfold qu
 by_cases h0 : 16 < n
 ·simp [h0]
 by_cases h : 256 < w.length
 ·have h' : (256 : Int) < (w.length : Int) := by omega
  simp [h0, h, h']
 by_cases h1 : n < 1
 ·have h' : ¬ (256 : Int) < (w.length : Int) := by omega
  simp [h0, h, h', h1]
 ·have hd : decide (((w.length : Nat) : Int) > 256) = false := by simp; omega
  have hd0 : decide (n > 16) = false := by simp; omega
  have hd1 : decide (n < 1) = false := by simp; omega
  simp only [hd, hd0, hd1, cond_false, if_neg h, if_neg h0, if_neg h1]
  unfold yV xD wE
  have hl := wX w (by omega) (step := fun s => yh w n s) (fun i c => if c < 0 ∨ n ≤ c then some (i : Int) else none) (by
   intro i c hc
   have hi : i < w.length := (List.getElem?_eq_some_iff.1 hc).1
   unfold yh jl
   have hq : decide ((i : Int) < (w.length : Int)) = true := by simpa using hi
   simp only [hq, cond_true, zD hc, Option.bind_some]
   by_cases h1 : c < 0
   ·simp [h1, nS]
   ·by_cases h2 : n ≤ c
    ·simp [h1, h2, nS]
    ·simp [h1, h2, nS]) (by unfold yh; simp)
  rw [bdT hl, if_neg h]
  have q := z1m (fun c => decide (c < 0) || decide (n ≤ c)) (fun i c => if c < 0 ∨ n ≤ c then some (i : Int) else none) (fun i c => by by_cases h : c < 0 ∨ n ≤ c <;> simp [h] <;> simpa using h) w 0
  cases hf : yQ (fun i c => if c < 0 ∨ n ≤ c then some (i : Int) else none) w 0 with
  | none => rw [hf] at q; rw [← q]; rfl
  | some r =>
   rw [hf] at q
   obtain ⟨i, x, h1, h2⟩ := u0 hf
   rw [← q]
   split at h2
   ·cases h2
    simp [oS]
   ·cases h2
def eS (e : Int) : Option Int := if e = 0 then none else some e
def loE (n : Int) (l : List (List Int)) : Int := if 16 < n then 3 else if 4096 < l.length then 3 else if n < 1 then 1 else (yQ (fun _ w => eS (wE n w)) l 0).getD 0
theorem z1n {n : Int} : ∀ {l : List (List Int)} {k : Nat}, (yQ (fun _ w => eS (wE n w)) l k).getD 0 = 0 ↔ ∀ w ∈ l, wE n w = 0
 | [], _ => by simp [yQ]
 | w :: l, k => by
  by_cases h : wE n w = 0
  ·have : eS (wE n w) = none := by simp [eS, h]
   simp only [yQ, this]
   rw [z1n]
   simp [h]
  ·have : eS (wE n w) = some (wE n w) := by simp [eS, h]
   simp [yQ, this, h]
theorem z18 {n : Int} {l : List (List Int)} : loE n l = 0 ↔ (1 ≤ n ∧ n ≤ 16) ∧ l.length ≤ 4096 ∧ ∀ w ∈ l, w.length ≤ 256 ∧ ∀ c ∈ w, 0 ≤ c ∧ c < n := by
 unfold loE
 by_cases h0 : 16 < n
 ·rw [if_pos h0]; exact ⟨fun q => by simp at q, fun q => by omega⟩
 by_cases h1 : 4096 < l.length
 ·rw [if_neg h0, if_pos h1]; exact ⟨fun q => by simp at q, fun q => by omega⟩
 by_cases h2 : n < 1
 ·rw [if_neg h0, if_neg h1, if_pos h2]; exact ⟨fun q => by simp at q, fun q => by omega⟩
 rw [if_neg h0, if_neg h1, if_neg h2, z1n]
 constructor
 ·intro q; exact ⟨by omega, by omega, fun w hw => z26.1 (q w hw)⟩
 ·intro q w hw; exact z26.2 (q.2.2 w hw)
theorem z4O (l : List (List Int)) (n : Int) : jX l n = some (loE n l) := by
 unfold jX loE
 by_cases h0 : 16 < n
 ·simp [h0]
 by_cases h1 : 4096 < l.length
 ·have h' : (4096 : Int) < (l.length : Int) := by omega
  simp [h0, h1, h']
 by_cases h2 : n < 1
 ·have h' : ¬ (4096 : Int) < (l.length : Int) := by omega
  simp [h0, h1, h2, h']
 have d0 : decide (n > 16) = false := by simp; omega
 have d1 : decide (((l.length : Nat) : Int) > 4096) = false := by simp; omega
 have d2 : decide (n < 1) = false := by simp; omega
 simp only [d0, d1, d2, cond_false, if_neg h0, if_neg h1, if_neg h2]
 rw [bdT (wX l (by omega) (step := fun s => vK l n s) (fun _ w => eS (wE n w)) ?_ ?_)]
 ·cases yQ (fun _ w => eS (wE n w)) l 0 <;> rfl
 ·intro i w hw
  have hi : i < l.length := (List.getElem?_eq_some_iff.1 hw).1
  have hq : decide ((i : Int) < (l.length : Int)) = true := by simpa using hi
  have he := z5o n w
  unfold vK
  simp only [hq, cond_true, zD hw, Option.bind_some]
  unfold jA at he ⊢
  by_cases h : 256 < w.length
  ·have h' : (256 : Int) < (w.length : Int) := by omega
   have : wE n w = 3 := by unfold wE; rw [if_pos h]
   simp [h', this, eS, nS]
  ·have hd : decide (((w.length : Nat) : Int) > 256) = false := by simp; omega
   simp only [hd, cond_false, Option.bind_some, bne_self_eq_false] at he ⊢
   rw [he]
   simp only [Option.bind_some]
   by_cases hz : wE n w = 0
   ·simp [hz, eS, nS]
   ·have hb : (wE n w != 0) = true := by simpa using hz
    simp [hz, hb, eS, nS]
 ·unfold vK; simp
theorem z4c (l : List (List Int)) (n : Int) : qw l n = some (loE n l) := by
 unfold qw loE
 by_cases h0 : 16 < n
 ·simp [h0]
 by_cases h1 : 4096 < l.length
 ·have h' : (4096 : Int) < (l.length : Int) := by omega
  simp [h0, h1, h']
 by_cases h2 : n < 1
 ·have h' : ¬ (4096 : Int) < (l.length : Int) := by omega
  simp [h0, h1, h2, h']
 have d0 : decide (n > 16) = false := by simp; omega
 have d1 : decide (((l.length : Nat) : Int) > 4096) = false := by simp; omega
 have d2 : decide (n < 1) = false := by simp; omega
 simp only [d0, d1, d2, cond_false, if_neg h0, if_neg h1, if_neg h2]
 rw [bdT (wX l (by omega) (step := fun s => vA l n s) (fun _ w => eS (wE n w)) ?_ ?_)]
 ·cases yQ (fun _ w => eS (wE n w)) l 0 <;> rfl
 ·intro i w hw
  have hi : i < l.length := (List.getElem?_eq_some_iff.1 hw).1
  have hq : decide ((i : Int) < (l.length : Int)) = true := by simpa using hi
  have he : qu w n = some (wE n w) := by
   rw [z27, if_neg h0, if_neg h2]
   by_cases h : 256 < w.length
   ·rw [if_pos h]; unfold wE; rw [if_pos h]
   ·rw [if_neg h]
  unfold vA
  simp only [hq, cond_true, zD hw, Option.bind_some, he]
  by_cases hz : wE n w = 0
  ·simp [hz, eS, nS]
  ·have hb : (wE n w != 0) = true := by simpa using hz
   simp [hz, hb, eS, nS]
 ·unfold vA; simp
theorem z17 (l : List (List Int)) (hl : l.length < 4611686018427387904) {step : Int × Int → Option (LR (Int × Int) Int)}
  (h : ∀ (n : Int) (i : Nat) (x : List Int), l[i]? = some x → step (n, (i : Int)) = some (.next (w64 (n + ((x.length : Nat) : Int)), w64 ((i : Int) + 1)))) (h2 : ∀ n, step (n, (l.length : Int)) = some (.done n)) :
  loop step (0, 0) = some (l.foldl (fun n x => w64 (n + ((x.length : Nat) : Int))) 0) := by
 have gen : ∀ (m k : Nat) (n : Int), k ≤ l.length → l.length - k < m → yG step m (n, (k : Int)) = some ((l.drop k).foldl (fun n x => w64 (n + ((x.length : Nat) : Int))) n) := by
  intro m
  induction m with
  | zero => intro k n _ h; omega
  | succ m ih =>
   intro k n hk hn
   rw [wY]
   rcases Nat.lt_or_ge k l.length with hlt | hge
   ·have hx : l[k]? = some l[k] := List.getElem?_eq_getElem hlt
    rw [h n k _ hx, List.drop_eq_getElem_cons hlt]
    simp only [List.foldl_cons]
    rw [xy (x := (k : Int) + 1) (by omega) (by omega)]
    exact ih (k + 1) _ hlt (by omega)
   ·have : k = l.length := by omega
    subst this
    rw [h2, List.drop_length]
    rfl
 exact gen wJ 0 0 (Nat.zero_le _) (by show l.length - 0 < 18446744073709551616; omega)
def stW (l : List (List Int)) : Int := l.foldl (fun n x => w64 (n + ((x.length : Nat) : Int))) 0
theorem z4M (l : List (List Int)) (hl : l.length < 4611686018427387904) : jV l = some (stW l) := by
 unfold jV
 rw [bdT (z17 l hl (step := fun s => vJ l s.1 s.2) ?_ ?_)]
 ·rfl
 ·intro n i x hx
  have hi : i < l.length := (List.getElem?_eq_some_iff.1 hx).1
  have hq : decide ((i : Int) < (l.length : Int)) = true := by simpa using hi
  unfold vJ
  simp only [hq, cond_true, zD hx, Option.bind_some]
 ·intro n; unfold vJ; simp
theorem z3L (l : List (List Int)) (hl : l.length < 4611686018427387904) : uw l = some (stW l) := by
 unfold uw
 rw [bdT (z17 l hl (step := fun s => vz l s.1 s.2) ?_ ?_)]
 ·rfl
 ·intro n i x hx
  have hi : i < l.length := (List.getElem?_eq_some_iff.1 hx).1
  have hq : decide ((i : Int) < (l.length : Int)) = true := by simpa using hi
  unfold vz
  simp only [hq, cond_true, zD hx, Option.bind_some]
 ·intro n; unfold vz; simp
def Vl (l : List (List Int)) : Nat := (l.map List.length).sum
theorem z4U {l : List (List Int)} (h : Vl l < 4611686018427387904) : stW l = (Vl l : Int) := by
 have gen : ∀ (l : List (List Int)) (n : Nat), n + Vl l < 4611686018427387904 → l.foldl (fun n x => w64 (n + ((x.length : Nat) : Int))) (n : Int) = ((n + Vl l : Nat) : Int) := by
  intro l
  induction l with
  | nil => intro n _; simp [Vl]
  | cons x l ih =>
   intro n hn
   have hs : Vl (x :: l) = x.length + Vl l := by simp [Vl]
   rw [hs] at hn ⊢
   rw [List.foldl_cons, xy (by omega) (by omega), ← Int.natCast_add, ih (n + x.length) (by omega)]
   congr 1; omega
 have := gen l 0 (by omega)
 simpa [stW] using this
theorem z5Q {l : List (List Int)} {m : Nat} (h : ∀ w ∈ l, w.length ≤ m) : Vl l ≤ l.length * m := by
 induction l with
 | nil => simp [Vl]
 | cons x l ih =>
  have hs : Vl (x :: l) = x.length + Vl l := by simp [Vl]
  have h1 := h x (by simp)
  have h2 := ih fun w hw => h w (by simp [hw])
  rw [hs, List.length_cons, Nat.add_mul]
  omega
theorem z0K : ∀ {l : List (List Int)}, SW l ↔ ∀ i x y, l[i]? = some x → l[i + 1]? = some y → uM x y < 0
 | [] => by simp [SW]
 | [x] => ⟨fun _ i a b _ h2 => by simp at h2, fun _ => by simp [SW]⟩
 | x :: y :: l => by
  constructor
  ·intro h i a b h1 h2
   cases i with
   | zero =>
    simp at h1 h2
    subst h1; subst h2
    exact h.head y (by simp)
   | succ i => exact z0K.1 h.tail i a b (by simpa using h1) (by simpa using h2)
  ·intro h
   have ht : SW (y :: l) := z0K.2 fun i a b h1 h2 => h (i + 1) a b (by simpa using h1) (by simpa using h2)
   have h0 := h 0 x y rfl rfl
   refine List.pairwise_cons.2 ⟨fun z hz => ?_, ht⟩
   rcases List.mem_cons.1 hz with rfl | hz
   ·exact h0
   ·exact jC h0 (ht.head z hz)
theorem Qt {α ρ : Type} (l : List α) (hl : l.length < 4611686018427387904) {step : Int → Option (LR Int (Unit ⊕ ρ))} (f : Nat → α → Option ρ)
  (h : ∀ (i : Nat) (x : α), 1 ≤ i → l[i]? = some x → step (i : Int) = some (nS i (f i x))) (h2 : ∀ k : Nat, l.length ≤ k → step (k : Int) = some (.done (.inl ()))) :
  loop step 1 = some (oS (yQ f (l.drop 1) 1)) := by
 have gen : ∀ (n : Nat) (k : Nat), 1 ≤ k → l.length - k < n → yG step n (k : Int) = some (oS (yQ f (l.drop k) k)) := by
  intro n
  induction n with
  | zero => intro k _ h; omega
  | succ n ih =>
   intro k hk hn
   rw [wY]
   rcases Nat.lt_or_ge k l.length with hlt | hge
   ·have hx : l[k]? = some l[k] := List.getElem?_eq_getElem hlt
    rw [h k _ hk hx, List.drop_eq_getElem_cons hlt]
    simp only [yQ]
    cases hf : f k l[k] with
    | some r => rfl
    | none =>
     simp only [nS]
     rw [xy (by omega) (by omega)]
     exact ih (k + 1) (by omega) (by omega)
   ·rw [h2 k hge, List.drop_eq_nil_of_le hge]
    rfl
 exact gen wJ 1 (Nat.le_refl _) (by show l.length - 1 < 18446744073709551616; omega)
instance (l : List (List Int)) : Decidable (SW l) := by unfold SW; infer_instance
theorem z1l {ρ : Type} (l : List (List Int)) (r : ρ) : yQ (fun i x => match l[i - 1]? with | some y => if 0 ≤ uM y x then some r else none | none => none) (l.drop 1) 1 = if SW l then none else some r := by
 by_cases hs : SW l
 ·rw [if_pos hs]
  refine YO fun i x hx => ?_
  rw [List.getElem?_drop] at hx
  have hi : 1 + i < l.length := (List.getElem?_eq_some_iff.1 hx).1
  have hy : l[1 + i - 1]? = some l[i] := by rw [show 1 + i - 1 = i by omega]; exact List.getElem?_eq_getElem (by omega)
  rw [hy]
  have := z0K.1 hs i l[i] x (List.getElem?_eq_getElem (by omega)) (by rw [Nat.add_comm]; exact hx)
  simp only
  rw [if_neg (by omega)]
 ·rw [if_neg hs]
  cases hf : yQ (fun i x => match l[i - 1]? with | some y => if 0 ≤ uM y x then some r else none | none => none) (l.drop 1) 1 with
  | some r' =>
   obtain ⟨i, x, h1, h2⟩ := u0 hf
   split at h2
   ·split at h2
    ·exact h2.symm
    ·cases h2
   ·cases h2
  | none =>
   exfalso
   refine hs (z0K.2 fun i x y hx hy => ?_)
   have := jt hf i y (by rw [List.getElem?_drop, Nat.add_comm]; exact hy)
   rw [show 1 + i - 1 = i by omega, hx] at this
   simp only at this
   split at this
   ·cases this
   ·omega
theorem z4L (l : List (List Int)) (h : l.length ≤ 4096) (hw : ∀ w ∈ l, w.length < 4611686018427387904) : jH l = some (decide (SW l)) := by
 unfold jH
 rw [bdT (Qt l (by omega) (step := fun s => vB l s) (fun i x => match l[i - 1]? with | some y => if 0 ≤ uM y x then some false else none | none => none) ?_ ?_), z1l]
 ·by_cases hs : SW l
  ·simp [hs, oS, qJ]
  ·simp [hs, oS]
 ·intro i x hi hx
  have hil : i < l.length := (List.getElem?_eq_some_iff.1 hx).1
  have hy : l[i - 1]? = some l[i - 1] := List.getElem?_eq_getElem (by omega)
  have hq : decide ((i : Int) < (l.length : Int)) = true := by simpa using hil
  unfold vB
  rw [xy (x := (i : Int) - 1) (by omega) (by omega), show ((i : Int) - 1) = ((i - 1 : Nat) : Int) by omega]
  have hE := z1X l[i - 1] x (hw _ (List.getElem_mem (by omega)))
  simp only [hq, cond_true, zD hx, zD hy, Option.bind_some, hy, hE]
  by_cases hc : 0 ≤ uM l[i - 1] x
  ·simp [hc, nS]
  ·simp [hc, nS]
 ·intro k hk; unfold vB; have : decide ((k : Int) < (l.length : Int)) = false := by simp; omega
  simp only [this, cond_false]
def chE (n : Int) (l : List (List Int)) : Int := if loE n l ≠ 0 then loE n l else if SW l then (if 65536 < Vl l then 3 else 0) else 1
theorem Vv {n : Int} {l : List (List Int)} : chE n l = 0 ↔ loE n l = 0 ∧ SW l ∧ Vl l ≤ 65536 := by
 unfold chE
 by_cases h : loE n l = 0
 ·rw [if_neg (by simp [h])]
  by_cases h2 : SW l
  ·rw [if_pos h2]
   by_cases h3 : 65536 < Vl l
   ·rw [if_pos h3]; exact ⟨fun q => by simp at q, fun q => by omega⟩
   ·rw [if_neg h3]; exact ⟨fun _ => ⟨h, h2, by omega⟩, fun _ => rfl⟩
  ·rw [if_neg h2]; exact ⟨fun q => by simp at q, fun q => absurd q.2.1 h2⟩
 ·rw [if_pos h]; exact ⟨fun q => absurd q h, fun q => absurd q.1 h⟩
theorem Uc {n : Int} {l : List (List Int)} (h : loE n l = 0) : l.length ≤ 4096 ∧ (∀ w ∈ l, w.length ≤ 256) ∧ Vl l ≤ 1048576 := by
 obtain ⟨_, h1, h2⟩ := z18.1 h
 refine ⟨h1, fun w hw => (h2 w hw).1, ?_⟩
 have := z5Q (m := 256) fun w hw => (h2 w hw).1
 omega
theorem K7 (l : List (List Int)) (n : Int) : xe l n = some (chE n l) := by
 unfold xe chE
 rw [z4c]
 simp only [Option.bind_some]
 by_cases h : loE n l = 0
 ·obtain ⟨h1, h2, h3⟩ := Uc h
  rw [z4L l h1 fun w hw => by have := h2 w hw; omega, z3L l (by omega), z4U (by omega)]
  simp only [h, bne_self_eq_false, cond_false, Option.bind_some, ne_eq, not_true, if_false]
  by_cases hs : SW l
  ·by_cases hq : 65536 < Vl l
   ·have : (65536 : Int) < (Vl l : Int) := by omega
    simp [hs, hq, this]
   ·have : ¬ (65536 : Int) < (Vl l : Int) := by omega
    simp [hs, hq, this]
  ·simp [hs]
 ·have hb : (loE n l != 0) = true := by simpa using h
  simp [h, hb]
theorem Ko (l : List (List Int)) (n : Int) : jY l n = some (chE n l) := by
 unfold jY chE
 rw [z4O]
 simp only [Option.bind_some]
 by_cases h : loE n l = 0
 ·obtain ⟨h1, h2, h3⟩ := Uc h
  simp only [h, bne_self_eq_false, cond_false, ne_eq, not_true, if_false]
  rw [bdT (Qt l (by omega) (step := fun s => vL l s) (fun i x => match l[i - 1]? with | some y => if 0 ≤ uM y x then some (1 : Int) else none | none => none) ?_ ?_), z1l]
  ·by_cases hs : SW l
   ·simp only [hs, if_true, oS]
    unfold qP
    rw [z4M l (by omega), z4U (by omega)]
    simp only [Option.bind_some]
    by_cases hq : 65536 < Vl l
    ·have : (65536 : Int) < (Vl l : Int) := by omega
     simp [hq, this]
    ·have : ¬ (65536 : Int) < (Vl l : Int) := by omega
     simp [hq, this]
   ·simp [hs, oS]
  ·intro i x hi hx
   have hil : i < l.length := (List.getElem?_eq_some_iff.1 hx).1
   have hy : l[i - 1]? = some l[i - 1] := List.getElem?_eq_getElem (by omega)
   have hq : decide ((i : Int) < (l.length : Int)) = true := by simpa using hil
   unfold vL
   rw [xy (x := (i : Int) - 1) (by omega) (by omega), show ((i : Int) - 1) = ((i - 1 : Nat) : Int) by omega]
   have hE := ub l[i - 1] x (fun _ => by have := h2 _ (List.getElem_mem (show i - 1 < l.length by omega)); omega)
   simp only [hq, cond_true, zD hx, zD hy, Option.bind_some, hy, hE]
   by_cases hc : 0 ≤ uM l[i - 1] x
   ·simp [hc, nS]
   ·simp [hc, nS]
  ·intro k hk; unfold vL; have : decide ((k : Int) < (l.length : Int)) = false := by simp; omega
   simp only [this, cond_false]
 ·have hb : (loE n l != 0) = true := by simpa using h
  simp [h, hb]
end Go.Own

namespace Go.Own
theorem JB (w : List Int) : y9 w = some w := by
 unfold y9
 rw [gdT (by omega)]
 simp
theorem z1y (l : List (List Int)) : ye l = some l := by
 unfold ye
 rw [gdT (by omega)]
 simp
theorem z1x (w : List Int) (h : w.length ≤ 4294967296) : yu w = some w := by
 unfold yu
 rw [gdT (by simpa using h)]
def QW (l : List (List Int)) : Prop := l.Pairwise fun a b => ¬ uM b a < 0
theorem Vq {α : Type} {l : List α} {n : Nat} {x : α} : x ∈ l.take n ↔ ∃ i, i < n ∧ l[i]? = some x := by
 rw [List.mem_iff_getElem?]
 constructor
 ·rintro ⟨i, h⟩
  rw [List.getElem?_take] at h
  split at h
  ·exact ⟨i, by omega, h⟩
  ·cases h
 ·rintro ⟨i, h1, h2⟩
  exact ⟨i, by rw [List.getElem?_take, if_pos h1]; exact h2⟩
end Go.Own

namespace Go.Own
def UU (a : Nat) (w : List Int) : List (List Int) := (List.range a).map fun s : Nat => w ++ [(s : Int)]
def exW (a : Nat) : Nat → List (List Int)
 | 0 => [[]]
 | k + 1 => (exW a k).flatMap (UU a)
theorem z4v (a : Nat) (w : List Int) : (UU a w).length = a := by simp [UU]
theorem z1o (a : Nat) (l : List (List Int)) : (l.flatMap (UU a)).length = l.length * a := by
 induction l with
 | nil => simp
 | cons w l ih => rw [List.flatMap_cons, List.length_append, ih, z4v, List.length_cons, Nat.succ_mul]; omega
theorem W2 (a : Nat) : ∀ k, (exW a k).length = a ^ k
 | 0 => rfl
 | k + 1 => by rw [exW, z1o, W2, Nat.pow_succ]
theorem z1r (a : Nat) : ∀ k, ∀ w ∈ exW a k, w.length = k
 | 0, w, h => by simp [exW] at h; subst h; rfl
 | k + 1, w, h => by
  rw [exW, List.mem_flatMap] at h
  obtain ⟨v, h1, h2⟩ := h
  simp only [UU, List.mem_map] at h2
  obtain ⟨s, _, rfl⟩ := h2
  simp [z1r a k v h1]
theorem z7L {a : Nat} (ha : a ≤ 16) {w : List Int} (hw : w.length ≤ 1000) {nx : List (List Int)} (hn : nx.length ≤ 10000000) :
  loop (fun s => wk (a : Int) w s.1 s.2) (nx, 0) = some (nx ++ UU a w) := by
 have h := uW (step := fun s => wk (a : Int) w s.1 s.2) (fun i => (nx ++ (List.range i).map (fun s : Nat => w ++ [(s : Int)]), (i : Int))) a (t := nx ++ UU a w) (by omega) (by
  intro i hi
  show wk (a : Int) w _ (i : Int) = _
  unfold wk
  have hq : decide ((i : Int) < (a : Int)) = true := by simpa using hi
  simp only [hq, cond_true, JB, Option.bind_some]
  rw [gdT (by simp; omega), gdT (by simp; omega), xy (by omega) (by omega), List.range_succ, List.map_append, List.append_assoc]
  rfl) (by
  show wk (a : Int) w _ (a : Int) = _
  unfold wk
  simp [UU])
 have h0 : ((nx ++ (List.range 0).map (fun s : Nat => w ++ [(s : Int)])), ((0 : Nat) : Int)) = (nx, (0 : Int)) := by simp
 rw [h0] at h
 exact h
theorem z6k {a : Nat} (ha : a ≤ 16) {l : List (List Int)} (hw : ∀ w ∈ l, w.length ≤ 1000) (hl : l.length ≤ 100000) :
  loop (fun s => wm (a : Int) l s.1 s.2) (([] : List (List Int)), 0) = some (l.flatMap (UU a)) := by
 have h := uW (step := fun s => wm (a : Int) l s.1 s.2) (fun i => ((l.take i).flatMap (UU a), (i : Int))) l.length (t := l.flatMap (UU a)) (by omega) (by
  intro i hi
  show wm (a : Int) l _ (i : Int) = _
  unfold wm
  have hq : decide ((i : Int) < (l.length : Int)) = true := by simpa using hi
  have hx : l[i]? = some l[i] := List.getElem?_eq_getElem hi
  have hlen : ((l.take i).flatMap (UU a)).length ≤ 10000000 := by
   rw [z1o, List.length_take]
   have : min i l.length * a ≤ 100000 * 16 := Nat.mul_le_mul (by omega) ha
   omega
  simp only [hq, cond_true, zD hx, Option.bind_some]
  rw [bdT (z7L ha (hw _ (List.getElem_mem hi)) hlen)]
  unfold kr
  rw [xy (by omega) (by omega), List.take_add_one, hx, List.flatMap_append]
  simp) (by
  show wm (a : Int) l _ (l.length : Int) = _
  unfold wm
  simp)
 simpa using h
def WF (a f : Nat) : Nat → List (List Int)
 | 0 => []
 | k + 1 => if f ≤ k then WF a f k ++ exW a k else WF a f k
def syW (a f : Nat) : Nat → Nat
 | 0 => 0
 | k + 1 => if f ≤ k then syW a f k + k * a ^ k else syW a f k
def kZ (a f t k : Nat) : Prop := 4096 < (WF a f (k + 1)).length ∨ 65536 < syW a f (k + 1) ∨ k < t ∧ 4096 < a ^ k * a
instance (a f t k : Nat) : Decidable (kZ a f t k) := by unfold kZ; infer_instance
theorem z3t {a f t k : Nat} (ha : 1 ≤ a ∧ a ≤ 16) (hf : f ≤ 256) (ht : t ≤ 256) (hk : k ≤ t) (ho : (WF a f k).length ≤ 4096) (hs : syW a f k ≤ 65536) (hl : a ^ k ≤ 4096) :
  v8 (a : Int) (f : Int) (t : Int) (WF a f k) (exW a k) (syW a f k : Int) (k : Int) = if kZ a f t k then some (.done ([], 3)) else if k = t then Option.bind (xO (WF a f (k + 1))) (fun r => some (.done (r.1, r.2))) else some (.next (WF a f (k + 1), exW a (k + 1), (syW a f (k + 1) : Int), ((k + 1 : Nat) : Int))) := by
 have hmul : k * a ^ k ≤ 256 * 4096 := Nat.mul_le_mul (by omega) hl
 have hma : a ^ k * a ≤ 4096 * 16 := Nat.mul_le_mul hl ha.2
 have e : v8 (a : Int) (f : Int) (t : Int) (WF a f k) (exW a k) (syW a f k : Int) (k : Int) = uH (a : Int) (t : Int) (exW a k) (k : Int) (WF a f (k + 1)) (syW a f (k + 1) : Int) := by
  unfold v8
  by_cases h : f ≤ k
  ·have hd : decide ((k : Int) ≥ (f : Int)) = true := by simpa using h
   simp only [hd, cond_true]
   have hm : w64 ((k : Int) * ((exW a k).length : Int)) = ((k * a ^ k : Nat) : Int) := by
    rw [W2, ← Int.natCast_mul, xy (by omega) (by omega)]
   rw [gdT (by rw [W2]; omega), hm, xy (by omega) (by omega)]
   simp only [WF, syW, if_pos h]
   congr 1
  ·have hd : decide ((k : Int) ≥ (f : Int)) = false := by simp; omega
   simp only [hd, cond_false, WF, syW, if_neg h]
 rw [e]
 unfold uH
 by_cases h1 : 4096 < (WF a f (k + 1)).length
 ·have : decide (((WF a f (k + 1)).length : Int) > 4096) = true := by simp only [decide_eq_true_eq]; omega
  simp only [this, cond_true]
  rw [if_pos (show kZ a f t k from .inl h1)]
 have d1 : decide (((WF a f (k + 1)).length : Int) > 4096) = false := by simp; omega
 simp only [d1, cond_false]
 by_cases h2 : 65536 < syW a f (k + 1)
 ·have : decide ((syW a f (k + 1) : Int) > 65536) = true := by simp only [decide_eq_true_eq]; omega
  simp only [this, cond_true]
  rw [if_pos (show kZ a f t k from .inr (.inl h2))]
 have d2 : decide ((syW a f (k + 1) : Int) > 65536) = false := by simp; omega
 simp only [d2, cond_false]
 have hm : w64 (((exW a k).length : Int) * (a : Int)) = ((a ^ k * a : Nat) : Int) := by
  rw [W2, ← Int.natCast_mul, xy (by omega) (by omega)]
 rw [hm]
 have J4 : ∀ (hns : ¬ (k < t ∧ 4096 < a ^ k * a)) (b : Bool), uG (a : Int) (t : Int) (exW a k) (k : Int) (WF a f (k + 1)) (syW a f (k + 1) : Int) b = if k = t then Option.bind (xO (WF a f (k + 1))) (fun r => some (.done (r.1, r.2))) else some (.next (WF a f (k + 1), exW a (k + 1), (syW a f (k + 1) : Int), ((k + 1 : Nat) : Int))) := by
  intro hns b
  unfold uG
  by_cases hkt : k = t
  ·subst hkt
   simp
  ·have hd : ((k : Int) == (t : Int)) = false := by simp; omega
   simp only [hd, cond_false, if_neg hkt]
   rw [bdT (z6k ha.2 (fun w hw => by rw [z1r a k w hw]; omega) (by rw [W2]; omega))]
   unfold ku kw
   rw [xy (by omega) (by omega)]
   rfl
 by_cases hkt : k < t
 ·have hd : decide ((k : Int) < (t : Int)) = true := by simpa using hkt
  simp only [hd, cond_true]
  by_cases h3 : 4096 < a ^ k * a
  ·have : decide (((a ^ k * a : Nat) : Int) > 4096) = true := by simp only [decide_eq_true_eq]; omega
   simp only [this, cond_true]
   rw [if_pos (show kZ a f t k from .inr (.inr ⟨hkt, h3⟩))]
  ·have : decide (((a ^ k * a : Nat) : Int) > 4096) = false := by simp only [decide_eq_false_iff_not]; omega
   simp only [this, cond_false]
   rw [J4 (by omega), if_neg (show ¬ kZ a f t k by unfold kZ; omega)]
 ·have hd : decide ((k : Int) < (t : Int)) = false := by simp; omega
  simp only [hd, cond_false]
  rw [J4 (by omega), if_neg (show ¬ kZ a f t k by unfold kZ; omega)]
theorem Jr {a f t k : Nat} (ha : 1 ≤ a) (hs : ¬ kZ a f t k) (hk : k < t) : (WF a f (k + 1)).length ≤ 4096 ∧ syW a f (k + 1) ≤ 65536 ∧ a ^ (k + 1) ≤ 4096 := by
 unfold kZ at hs
 rw [Nat.pow_succ]
 omega
theorem z3u {a f t : Nat} (ha : 1 ≤ a ∧ a ≤ 16) (hf : f ≤ 256) (ht : t ≤ 256) {r : Option (List (List Int) × Int)}
  (hr : (∃ j, j ≤ t ∧ kZ a f t j) → r = some ([], 3)) (hr2 : (∀ j, j ≤ t → ¬ kZ a f t j) → r = Option.bind (xO (WF a f (t + 1))) fun r => some (r.1, r.2)) :
  ∀ (m k : Nat), k ≤ t → t - k < m → (∀ j, j < k → ¬ kZ a f t j) → (WF a f k).length ≤ 4096 → syW a f k ≤ 65536 → a ^ k ≤ 4096 → yG (fun s => v8 (a : Int) (f : Int) (t : Int) s.1 s.2.1 s.2.2.1 s.2.2.2) m (WF a f k, exW a k, (syW a f k : Int), (k : Int)) = r
 | 0, k, _, h, _, _, _, _ => by omega
 | m + 1, k, hk, hm, hns, h1, h2, h3 => by
  rw [wY]
  dsimp only
  rw [z3t ha hf ht hk h1 h2 h3]
  by_cases hst : kZ a f t k
  ·rw [if_pos hst, hr ⟨k, hk, hst⟩]
  ·rw [if_neg hst]
   by_cases hkt : k = t
   ·subst hkt
    rw [if_pos rfl, hr2 fun j hj => by
     rcases Nat.lt_or_ge j k with q | q
     ·exact hns j q
     ·rw [show j = k by omega]; exact hst]
    cases xO (WF a f (k + 1)) <;> rfl
   ·rw [if_neg hkt]
    obtain ⟨q1, q2, q3⟩ := Jr ha.1 hst (by omega)
    exact z3u ha hf ht hr hr2 m (k + 1) (by omega) (by omega) (fun j hj => by
     rcases Nat.lt_or_ge j k with q | q
     ·exact hns j q
     ·rw [show j = k by omega]; exact hst) q1 q2 q3
theorem z7W {a f t : Nat} (ha : 1 ≤ a ∧ a ≤ 16) (hf : f ≤ 256) (ht : t ≤ 256) {r : Option (List (List Int) × Int)}
  (hr : (∃ j, j ≤ t ∧ kZ a f t j) → r = some ([], 3)) (hr2 : (∀ j, j ≤ t → ¬ kZ a f t j) → r = Option.bind (xO (WF a f (t + 1))) fun r => some (r.1, r.2)) :
  jG (a : Int) (f : Int) (t : Int) = r := by
 unfold jG
 have d1 : decide ((a : Int) > 16) = false := by simp; omega
 have d2 : decide ((a : Int) < 1) = false := by simp; omega
 have d3 : decide ((t : Int) < 0) = false := by simp
 have d4 : decide ((t : Int) > 256) = false := by simp; omega
 simp only [d1, d2, d3, d4, cond_false]
 have h := z3u ha hf ht hr hr2 wJ 0 (Nat.zero_le _) (by show t - 0 < 18446744073709551616; omega) (fun j hj => by omega) (by simp [WF]) (by simp [syW]) (by simp)
 have h' : loop (fun s => v8 (a : Int) (f : Int) (t : Int) s.1 s.2.1 s.2.2.1 s.2.2.2) (([] : List (List Int)), ([[]] : List (List Int)), 0, 0) = r := h
 rw [h']
 cases r <;> rfl
theorem z73 : jz 2 12 = some ([], 3) := by
 unfold jz
 have len : ∀ k, (WF 2 0 k).length = 2 ^ k - 1 := by
  intro k
  induction k with
  | zero => rfl
  | succ k ih => simp only [WF, Nat.zero_le, if_true, List.length_append, ih, W2, Nat.pow_succ]; have : 1 ≤ 2 ^ k := Nat.one_le_two_pow; omega
 have h12 : kZ 2 0 12 12 := by
  unfold kZ
  rw [len]
  left; decide
 have := z7W (a := 2) (f := 0) (t := 12) (r := some ([], 3)) (by omega) (by omega) (by omega) (fun _ => rfl) (fun h => absurd h12 (h 12 (by omega)))
 have h2 : jG 2 0 12 = some ([], 3) := this
 rw [h2]
 rfl
theorem z1Q : uz = some true := by
 unfold uz
 rw [z73]
 kernel_rfl
end Go.Own

namespace Go.Own
theorem z5h (w : List Int) : ∀ (l : List (List Int)) (k : Nat), yQ (fun _ x => if x = w then some true else none) l k = if w ∈ l then some true else none
 | [], _ => rfl
 | x :: l, k => by
  by_cases h : x = w
  ·simp [yQ, h]
  ·simp only [yQ, if_neg h, z5h w l (k + 1), List.mem_cons]
   by_cases h2 : w ∈ l
   ·simp [h2]
   ·have : ¬ w = x := fun e => h e.symm
    simp [h2, this]
theorem z6d (l : List (List Int)) (w : List Int) (hl : l.length < 4611686018427387904) (hw : w.length < 4611686018427387904) : Y3 l w = some (decide (w ∈ l)) := by
 unfold Y3
 rw [bdT (wX l hl (step := fun s => uK l w s) (fun _ x => if x = w then some true else none) ?_ ?_), z5h]
 ·by_cases h : w ∈ l
  ·simp [h, oS]
  ·simp [h, oS, kA]
 ·intro i x hx
  have hi : i < l.length := (List.getElem?_eq_some_iff.1 hx).1
  have hq : decide ((i : Int) < (l.length : Int)) = true := by simpa using hi
  unfold uK
  simp only [hq, cond_true, zD hx, Option.bind_some, ub x w (fun e => by omega)]
  by_cases h : x = w
  ·subst h; simp [uZ, nS]
  ·have : (uM x w == 0) = false := by simp; exact fun q => h (Ya q)
   simp [this, h, nS]
 ·unfold uK; simp
end Go.Own

namespace Go.Own
theorem z2s {l : List (List Int)} (hs : SW l) {w : List Int} {i : Nat} (hi : i ≤ l.length) (h1 : ∀ m x, m < i → l[m]? = some x → uM x w < 0) (h2 : ∀ m x, i ≤ m → l[m]? = some x → uM w x < 0) : l.take i ++ w :: l.drop i = Qm w l := by
 have ht : ∀ x ∈ l.take i, uM x w < 0 := fun x hx => by
  obtain ⟨m, q1, q2⟩ := Vq.1 hx
  exact h1 m x q1 q2
 have hd : ∀ x ∈ l.drop i, uM w x < 0 := fun x hx => by
  obtain ⟨m, q⟩ := List.mem_iff_getElem?.1 hx
  rw [List.getElem?_drop] at q
  exact h2 (i + m) x (by omega) q
 refine SW.unique ?_ hs.put fun x => ?_
 ·unfold SW
  rw [List.pairwise_append, List.pairwise_cons]
  refine ⟨hs.sub (List.take_sublist _ _), ⟨hd, hs.sub (List.drop_sublist _ _)⟩, fun a ha b hb => ?_⟩
  rcases List.mem_cons.1 hb with rfl | hb
  ·exact ht a ha
  ·exact jC (ht a ha) (hd b hb)
 ·rw [Xg]
  have : x ∈ l ↔ x ∈ l.take i ∨ x ∈ l.drop i := by rw [← List.mem_append, List.take_append_drop]
  rw [this]
  simp only [List.mem_append, List.mem_cons]
  constructor
  ·rintro (h | h | h) <;> simp [h]
  ·rintro (h | h | h) <;> simp [h]
theorem z7v {l : List (List Int)} (hs : SW l) (hl : l.length ≤ 1000000) (hw : ∀ x ∈ l, x.length < 4611686018427387904) {w : List Int} (hww : w.length ≤ 4294967296) : Y2 l w = some (Qm w l) := by
 unfold Y2
 apply Ret.eq
 rw [Vn]
 refine Ret.mono (Vm (fun q : Int × Int => ∃ i j : Nat, q = ((i : Int), (j : Int)) ∧ i ≤ j ∧ j ≤ l.length ∧ (∀ m x, m < i → l[m]? = some x → uM x w < 0) ∧ ∀ m x, j ≤ m → l[m]? = some x → ¬ uM x w < 0) (fun q => (q.2 - q.1).toNat) (R := fun t => ∃ i : Nat, t = (i : Int) ∧ i ≤ l.length ∧ (∀ m x, m < i → l[m]? = some x → uM x w < 0) ∧ ∀ m x, i ≤ m → l[m]? = some x → ¬ uM x w < 0) ?_ ?_ ?_) ?_
 ·exact ⟨0, l.length, rfl, Nat.zero_le _, Nat.le_refl _, fun m x h => by omega, fun m x h hx => by have := (List.getElem?_eq_some_iff.1 hx).1; omega⟩
 ·simp only; omega
 ·rintro _ ⟨i, j, rfl, g1, g2, g3, g4⟩
  show Ret (qT l w (i : Int) (j : Int)) _
  unfold qT
  rw [Zv]
  refine ⟨fun hc => ?_, fun hc => ?_⟩
  ·have hij : i < j := by simpa using hc
   have hh : w64 (Int.tdiv (w64 ((i : Int) + (j : Int))) 2) = (((i + j) / 2 : Nat) : Int) := by
    rw [xy (x := (i : Int) + (j : Int)) (by omega) (by omega)]
    have : Int.tdiv ((i : Int) + (j : Int)) 2 = (((i + j) / 2 : Nat) : Int) := by
     rw [show ((i : Int) + (j : Int)) = ((i + j : Nat) : Int) by omega, Int.tdiv_eq_ediv_of_nonneg (by omega)]
     rfl
    rw [this, xy (by omega) (by omega)]
   rw [gdT (by omega), hh]
   have hm : (i + j) / 2 < l.length := by omega
   have hx : l[(i + j) / 2]? = some l[(i + j) / 2] := List.getElem?_eq_getElem hm
   rw [zD hx]
   simp only [Option.bind_some]
   rw [ub _ _ (fun _ => hw _ (List.getElem_mem hm))]
   simp only [Option.bind_some]
   by_cases hc2 : uM l[(i + j) / 2] w < 0
   ·simp only [hc2, decide_true, cond_true]
    rw [xy (by omega) (by omega), xa]
    refine ⟨⟨(i + j) / 2 + 1, j, by simp, by omega, g2, fun m x h hmx => ?_, g4⟩, by simp only; omega⟩
    rcases Nat.lt_or_ge m ((i + j) / 2) with q | q
    ·have h1 := (List.pairwise_iff_getElem.1 hs) m ((i + j) / 2) (List.getElem?_eq_some_iff.1 hmx).1 hm q
     rw [(List.getElem?_eq_some_iff.1 hmx).2] at h1
     exact jC h1 hc2
    ·rw [show m = (i + j) / 2 by omega, hx] at hmx
     cases hmx
     exact hc2
   ·simp only [hc2, decide_false, cond_false]
    rw [xa]
    refine ⟨⟨i, (i + j) / 2, rfl, by omega, by omega, g3, fun m x h hmx hlt => ?_⟩, by simp only; omega⟩
    rcases Nat.lt_or_ge ((i + j) / 2) m with q | q
    ·have h1 := (List.pairwise_iff_getElem.1 hs) ((i + j) / 2) m hm (List.getElem?_eq_some_iff.1 hmx).1 q
     rw [(List.getElem?_eq_some_iff.1 hmx).2] at h1
     exact hc2 (jC h1 hlt)
    ·rw [show m = (i + j) / 2 by omega, hx] at hmx
     cases hmx
     exact hc2 hlt
  ·have hij : i = j := by
    have : ¬ i < j := by simpa using hc
    omega
   subst hij
   rw [xa]
   exact ⟨i, rfl, g2, g3, g4⟩
 ·rintro _ ⟨i, rfl, h1, h2, h3⟩
  have J2 : (∀ x, l[i]? = some x → x ≠ w) → Ret (uI l w (i : Int)) fun r => r = Qm w l := by
   intro hne
   have h4 : ∀ m x, i ≤ m → l[m]? = some x → uM w x < 0 := by
    intro m x hm hx
    have hil : i < l.length := by have := (List.getElem?_eq_some_iff.1 hx).1; omega
    have hxi : l[i]? = some l[i] := List.getElem?_eq_getElem hil
    have hlt : uM w l[i] < 0 := by
     rcases z36.1 (h3 i _ (Nat.le_refl _) hxi) with q | q
     ·exact q
     ·exact absurd q (hne _ hxi)
    rcases Nat.lt_or_ge i m with q | q
    ·have h5 := (List.pairwise_iff_getElem.1 hs) i m hil (List.getElem?_eq_some_iff.1 hx).1 q
     rw [(List.getElem?_eq_some_iff.1 hx).2] at h5
     exact jC hlt h5
    ·rw [show m = i by omega, hxi] at hx
     cases hx
     exact hlt
   unfold uI
   rw [gdT (by simp; omega), Vn]
   have hlen : w64 ((((l ++ ([[]] : List (List Int))).length : Nat) : Int) - 1) = ((l.length : Nat) : Int) := by
    rw [List.length_append, List.length_singleton, xy (by omega) (by omega)]; omega
   rw [hlen]
   refine Ret.mono (Vm (fun q : List (List Int) × Int => ∃ (j : Nat) (x : List Int), q = (l.take j ++ x :: l.drop j, (j : Int)) ∧ i ≤ j ∧ j ≤ l.length) (fun q => q.2.toNat) (R := fun t => ∃ x : List Int, t = l.take i ++ x :: l.drop i) ⟨l.length, [], by simp, h1, Nat.le_refl _⟩ (by simp only [Int.toNat_natCast]; omega) ?_) ?_
   ·rintro _ ⟨j, x, rfl, g1, g2⟩
    show Ret (qU (i : Int) (l.take j ++ x :: l.drop j) (j : Int)) _
    unfold qU
    rw [Zv]
    refine ⟨fun hc => ?_, fun hc => ?_⟩
    ·have hij : i < j := by simpa using hc
     have hA : (l.take j).length = j := by rw [List.length_take]; omega
     have hy : (l.take j ++ x :: l.drop j)[j - 1]? = some l[j - 1] := by
      rw [List.getElem?_append_left (by omega), List.getElem?_take, if_pos (by omega)]; exact List.getElem?_eq_getElem (by omega)
     have hz : (l.take j ++ x :: l.drop j)[j]? = some x := by
      rw [List.getElem?_append_right (by omega), hA]; simp
     rw [xy (by omega) (by omega), show (j : Int) - 1 = ((j - 1 : Nat) : Int) by omega, zD hy, zD hz]
     simp only [Option.bind_some, xa, Int.toNat_natCast]
     refine ⟨⟨j - 1, l[j - 1], ?_, by omega, by omega⟩, by simp only [Int.toNat_natCast]; omega⟩
     rw [List.set_append_right _ _ (by omega), hA, Nat.sub_self, List.set_cons_zero]
     have e1 : l.take j = l.take (j - 1) ++ [l[j - 1]] := by
      have := List.take_add_one (l := l) (i := j - 1)
      rw [show j - 1 + 1 = j by omega, List.getElem?_eq_getElem (by omega)] at this
      exact this
     have e2 : l.drop (j - 1) = l[j - 1] :: l.drop j := by
      rw [List.drop_eq_getElem_cons (by omega), show j - 1 + 1 = j by omega]
     rw [e2, e1, List.append_assoc]
     rfl
    ·have hij : j = i := by
      have : ¬ i < j := by simpa using hc
      omega
     subst hij
     rw [xa]
     exact ⟨x, rfl⟩
   ·rintro _ ⟨x, rfl⟩
    unfold ky
    have hA : (l.take i).length = i := by rw [List.length_take]; omega
    have hz : (l.take i ++ x :: l.drop i)[i]? = some x := by
     rw [List.getElem?_append_right (by omega), hA]; simp
    rw [gdT (by simpa using hww), zD hz]
    simp only [Option.bind_some, xa, Int.toNat_natCast]
    rw [List.set_append_right _ _ (by omega), hA, Nat.sub_self, List.set_cons_zero]
    exact z2s hs h1 h2 h4
  unfold kz
  rw [Zv]
  refine ⟨fun hc => ?_, fun hc => ?_⟩
  ·have hi : i < l.length := by simpa using hc
   have hx : l[i]? = some l[i] := List.getElem?_eq_getElem hi
   rw [zD hx]
   simp only [Option.bind_some]
   rw [ub _ _ (fun _ => hw _ (List.getElem_mem hi))]
   simp only [Option.bind_some]
   by_cases he : l[i] = w
   ·have hb : (uM l[i] w == 0) = true := by rw [he, uZ]; rfl
    rw [hb, cond_true, xa]
    refine SW.unique hs hs.put fun x => ?_
    rw [Xg]
    refine ⟨fun q => .inr q, fun q => ?_⟩
    rcases q with rfl | q
    ·exact he ▸ List.getElem_mem hi
    ·exact q
   ·have hb : (uM l[i] w == 0) = false := by simp; exact fun q => he (Ya q)
    rw [hb, cond_false]
    exact J2 fun x hx2 => by rw [hx] at hx2; cases hx2; exact he
  ·have hi : ¬ i < l.length := by simpa using hc
   exact J2 fun x hx2 => by have := (List.getElem?_eq_some_iff.1 hx2).1; omega
theorem z11 (a b : List (List Int)) (hl : a.length < 4611686018427387904) (hw : ∀ x ∈ a, x.length < 4611686018427387904) : jB a b = some (decide (a = b)) := by
 unfold jB
 by_cases he : a.length = b.length
 ·have hb : (((a.length : Nat) : Int) != ((b.length : Nat) : Int)) = false := by simp; omega
  simp only [hb, cond_false]
  rw [bdT (wX a hl (step := fun s => u7 a b s) (fun i x => if b[i]? = some x then none else some false) ?_ ?_)]
  ·cases hf : yQ (fun i x => if b[i]? = some x then none else some false) a 0 with
   | some r =>
    obtain ⟨i, x, h1, h2⟩ := u0 hf
    rw [Nat.zero_add] at h2
    split at h2
    ·cases h2
    ·rename_i h3
     have : a ≠ b := fun e => h3 (by rw [← e]; exact h1)
     cases h2
     simp [oS, this]
   | none =>
    have hab : a = b := by
     refine List.ext_getElem? fun i => ?_
     rcases Nat.lt_or_ge i a.length with q | q
     ·have hx : a[i]? = some a[i] := List.getElem?_eq_getElem q
      have := jt hf i _ hx
      rw [Nat.zero_add] at this
      split at this
      ·rename_i h3; rw [h3, hx]
      ·cases this
     ·rw [List.getElem?_eq_none q, List.getElem?_eq_none (by omega)]
    simp [oS, js, hab]
  ·intro i x hx
   have hi : i < a.length := (List.getElem?_eq_some_iff.1 hx).1
   have hq : decide ((i : Int) < (a.length : Int)) = true := by simpa using hi
   have hy : b[i]? = some b[i] := List.getElem?_eq_getElem (by omega)
   have hxm : x ∈ a := (List.getElem?_eq_some_iff.1 hx).2 ▸ List.getElem_mem hi
   unfold u7
   simp only [hq, cond_true, zD hx, zD hy, Option.bind_some, ub x b[i] (fun _ => hw x hxm), hy]
   by_cases h : b[i] = x
   ·rw [if_pos (by rw [h]), h, uZ]; rfl
   ·have : (uM x b[i] != 0) = true := by simp; exact fun q => h (Ya q).symm
    rw [this, if_neg (by simpa using h)]
    rfl
  ·unfold u7; simp
 ·have hb : (((a.length : Nat) : Int) != ((b.length : Nat) : Int)) = true := by simp; omega
  have : a ≠ b := fun e => he (by rw [e])
  simp [hb, this]
end Go.Own

namespace Go.Own
theorem z1z {n : Int} {l : List (List Int)} (h : chE n l = 0) : l.length ≤ 4096 ∧ (∀ w ∈ l, w.length ≤ 256) ∧ Vl l ≤ 65536 ∧ SW l ∧ (1 ≤ n ∧ n ≤ 16) ∧ ∀ w ∈ l, ∀ c ∈ w, 0 ≤ c ∧ c < n := by
 obtain ⟨h1, h2, h3⟩ := Vv.1 h
 obtain ⟨q1, q2, _⟩ := Uc h1
 obtain ⟨r1, _, r3⟩ := z18.1 h1
 exact ⟨q1, q2, h3, h2, r1, fun w hw => (r3 w hw).2⟩
def Wd (n : Int) (L k : Nat) (l : List (List Int)) : Prop := SW l ∧ l.length ≤ L ∧ ∀ w ∈ l, w.length ≤ k ∧ ∀ c ∈ w, 0 ≤ c ∧ c < n
theorem Wd.take {n : Int} {L k : Nat} {l : List (List Int)} (h : Wd n L k l) (m : Nat) : Wd n m k (l.take m) :=
 ⟨h.1.sub (List.take_sublist _ _), by rw [List.length_take]; omega, fun w hw => h.2.2 w (List.mem_of_mem_take hw)⟩
end Go.Own

namespace Go.Own
theorem z1a : ∀ {u v : List Int} (x y : List Int), u.length = v.length → Yy u v < 0 → Yy (u ++ x) (v ++ y) < 0
 | [], [], _, _, _, h => by simp [Yy] at h
 | [], _ :: _, _, _, h, _ => by simp at h
 | _ :: _, [], _, _, h, _ => by simp at h
 | a :: u, b :: v, x, y, hl, h => by
  simp only [List.cons_append, Yy] at h ⊢
  by_cases h1 : a < b
  ·simp [h1]
  ·by_cases h2 : b < a
   ·simp [h1, h2] at h
   ·simp only [h1, h2, if_false] at h ⊢
    exact z1a x y (by simpa using hl) h
theorem KA : ∀ (u : List Int) {s t : Int}, s < t → Yy (u ++ [s]) (u ++ [t]) < 0
 | [], s, t, h => by simp [Yy, h]
 | a :: u, s, t, h => by
  simp only [List.cons_append, Yy, Int.lt_irrefl, if_false]
  exact KA u h
theorem JA {a b : List Int} (h : a.length = b.length) : uM a b = Yy a b := by unfold uM; rw [if_neg (by omega), if_neg (by omega)]
theorem z6A (a : Nat) (w : List Int) : SW (UU a w) := by
 unfold UU SW
 rw [List.pairwise_map]
 refine List.Pairwise.imp (fun {s t} h => ?_) List.pairwise_lt_range
 rw [JA (by simp)]
 exact KA w (by omega)
theorem z30 (a k : Nat) : ∀ {l : List (List Int)}, SW l → (∀ w ∈ l, w.length = k) → SW (l.flatMap (UU a))
 | [], _, _ => by simp [SW]
 | w :: l, h, hk => by
  rw [List.flatMap_cons]
  unfold SW
  rw [List.pairwise_append]
  refine ⟨z6A a w, z30 a k h.tail fun x hx => hk x (by simp [hx]), fun x hx y hy => ?_⟩
  simp only [UU, List.mem_map] at hx
  obtain ⟨s, _, rfl⟩ := hx
  rw [List.mem_flatMap] at hy
  obtain ⟨v, hv, hy⟩ := hy
  simp only [UU, List.mem_map] at hy
  obtain ⟨t, _, rfl⟩ := hy
  have e1 := hk w (by simp)
  have e2 := hk v (by simp [hv])
  rw [JA (by simp [e1, e2])]
  have := h.head v hv
  rw [JA (by omega)] at this
  exact z1a _ _ (by omega) this
end Go.Own

namespace Go.Own
structure Zb (a : Nat) (nodes : List z7) (wd : List (List Int)) (D : List Int → Prop) : Prop where
 len : nodes.length = wd.length
 nod : wd.Nodup
 nlen : ∀ (i : Nat) (N : z7), nodes[i]? = some N → N.Next.length = a
 nxt : ∀ (i : Nat) (N : z7) (x : List Int), nodes[i]? = some N → wd[i]? = some x → ∀ s : Nat, s < a → (N.Next[s]? = some (-1) ∧ (x ++ [(s : Int)]) ∉ wd) ∨ ∃ j : Nat, N.Next[s]? = some (j : Int) ∧ wd[j]? = some (x ++ [(s : Int)])
 root : 0 < wd.length → wd[0]? = some []
 clo : ∀ (w : List Int) (s : Int), w ++ [s] ∈ wd → w ∈ wd ∧ 0 ≤ s ∧ s < (a : Int)
 en : ∀ (i : Nat) (N : z7) (x : List Int), nodes[i]? = some N → wd[i]? = some x → (N.End = true ↔ D x)
theorem Zb.mem_at {a : Nat} {nodes : List z7} {wd : List (List Int)} {D : List Int → Prop} (h : Zb a nodes wd D) {i j : Nat} {x : List Int} (hi : wd[i]? = some x) (hj : wd[j]? = some x) : i = j := by
 exact (List.getElem?_inj (List.getElem?_eq_some_iff.1 hi).1 h.nod).1 (hi.trans hj.symm)
end Go.Own

namespace Go.Own
section
variable {σ : Type} (yy : σ → za → Option (σ × Bool))
def k8 : List za → σ → Option (σ × Bool)
 | [], sg => some (sg, true)
 | p :: ps, sg => Option.bind (yy sg p) fun r => if r.2 = true then k8 ps r.1 else some (r.1, false)
theorem WJ : ∀ (l m : List za) (sg : σ), k8 yy (l ++ m) sg = Option.bind (k8 yy l sg) fun r => if r.2 = true then k8 yy m r.1 else some (r.1, false)
 | [], m, sg => by simp [k8]
 | p :: l, m, sg => by
  simp only [List.cons_append, k8]
  cases yy sg p with
  | none => rfl
  | some r =>
   simp only [Option.bind_some]
   by_cases h : r.2 = true
   ·simp only [h, if_true]
    exact WJ l m r.1
   ·simp [h]
def JP (w : List Int) : List Int → Nat → List za
 | [], _ => []
 | k :: nx, s => (if k = -1 then [] else [za.mk k (w ++ [(s : Int)])]) ++ JP w nx (s + 1)
theorem Jv (w : List Int) : ∀ (nx : List Int) (s : Nat), (JP w nx s).length ≤ nx.length
 | [], _ => Nat.le_refl _
 | k :: nx, s => by
  have := Jv w nx (s + 1)
  simp only [JP, List.length_append, List.length_cons]
  split <;> simp <;> omega
theorem Ug (w : List Int) (k : Int) : ∀ (nx : List Int) (s : Nat), JP w (nx ++ [k]) s = JP w nx s ++ (if k = -1 then [] else [za.mk k (w ++ [((s + nx.length : Nat) : Int)])])
 | [], s => by simp [JP]
 | k' :: nx, s => by
  simp only [List.cons_append, JP, Ug w k nx (s + 1), List.append_assoc, List.length_cons]
  rw [show s + 1 + nx.length = s + (nx.length + 1) by omega]
theorem z2P {p : za} {yr : σ × Bool} {N : z7} (hN : N.Next.length ≤ 1000) (hw : p.w_.length ≤ 100000) {nx : List za} (hn : nx.length ≤ 1000000000) :
  loop (fun s => yS p yr N s.1 s.2) (nx, 0) = some (yr.1, nx ++ JP p.w_ N.Next 0) := by
 have h := uW (step := fun s => yS p yr N s.1 s.2) (fun i => (nx ++ JP p.w_ (N.Next.take i) 0, (i : Int))) N.Next.length (t := (yr.1, nx ++ JP p.w_ N.Next 0)) (by omega) (by
  intro i hi
  show yS p yr N _ (i : Int) = _
  unfold yS
  have hq : decide ((i : Int) < (N.Next.length : Int)) = true := by simpa using hi
  have hx : N.Next[i]? = some N.Next[i] := List.getElem?_eq_getElem hi
  have hl := Jv p.w_ (N.Next.take i) 0
  rw [List.length_take] at hl
  have htk : N.Next.take (i + 1) = N.Next.take i ++ [N.Next[i]] := by rw [List.take_add_one, hx]; rfl
  rw [hq, cond_true, zD hx, Option.bind_some]
  have hi2 : w64 ((i : Int) + 1) = ((i + 1 : Nat) : Int) := by rw [xy (by omega) (by omega)]; omega
  have hlt : (N.Next.take i).length = i := by rw [List.length_take]; omega
  by_cases hk : N.Next[i] = -1
  ·have hb : (N.Next[i] != -1) = false := by simp [hk]
   rw [hb, cond_false]
   unfold wO
   rw [hi2, htk, Ug, if_pos hk, List.append_nil]
  ·have hb : (N.Next[i] != -1) = true := by simpa using hk
   rw [hb, cond_true, JB, Option.bind_some, gdT (by simp; omega), gdT (by rw [List.length_append, List.length_singleton]; omega)]
   unfold wO
   rw [hi2, htk, Ug, if_neg hk, hlt, Nat.zero_add, List.append_assoc]) (by
  show yS p yr N _ (N.Next.length : Int) = _
  unfold yS
  have hq : decide ((N.Next.length : Int) < (N.Next.length : Int)) = false := by simp
  rw [hq, cond_false, List.take_length])
 have h0 : (nx ++ JP p.w_ (N.Next.take 0) 0, ((0 : Nat) : Int)) = (nx, (0 : Int)) := by simp [JP]
 rw [h0] at h
 exact h
variable {nodes : List z7}
def Zx (nodes : List z7) (p : za) : List za :=
 match nodes[p.at_.toNat]? with
 | some N => JP p.w_ N.Next 0
 | none => []
def z4R (nodes : List z7) (p : za) : Prop := 0 ≤ p.at_ ∧ p.w_.length ≤ 100000 ∧ ∃ N, nodes[p.at_.toNat]? = some N ∧ N.Next.length ≤ 1000
theorem z1R {lv : List za} (hl : lv.length ≤ 500000) (hg : ∀ p ∈ lv, z4R nodes p) (sg : σ) :
  loop (fun s => wM nodes yy lv s.1 s.2.1 s.2.2) (sg, ([] : List za), 0) = Option.bind (k8 yy lv sg) fun r => some (if r.2 = true then .inl (r.1, lv.flatMap (Zx nodes)) else .inr r.1) := by
 have gen : ∀ (n k : Nat) (sg : σ), k ≤ lv.length → lv.length - k < n → yG (fun s => wM nodes yy lv s.1 s.2.1 s.2.2) n (sg, (lv.take k).flatMap (Zx nodes), (k : Int)) = Option.bind (k8 yy (lv.drop k) sg) fun r => some (if r.2 = true then .inl (r.1, lv.flatMap (Zx nodes)) else .inr r.1) := by
  intro n
  induction n with
  | zero => intro k _ _ h; omega
  | succ n ih =>
   intro k sg hk hn
   rw [wY]
   dsimp only
   rw [wM.eq_1 nodes yy lv sg ((lv.take k).flatMap (Zx nodes)) (k : Int)]
   rcases Nat.lt_or_ge k lv.length with hlt | hge
   ·have hx : lv[k]? = some lv[k] := List.getElem?_eq_getElem hlt
    have hq : decide ((k : Int) < (lv.length : Int)) = true := by simpa using hlt
    rw [hq, cond_true, zD hx, Option.bind_some, List.drop_eq_getElem_cons hlt]
    simp only [k8]
    cases hy : yy sg lv[k] with
    | none => rfl
    | some r =>
     simp only [Option.bind_some]
     by_cases hr : r.2 = true
     ·obtain ⟨p1, p2, N, p3, p4⟩ := hg _ (List.getElem_mem hlt)
      have hidx : idx nodes lv[k].at_ = some N := by
       rw [show lv[k].at_ = ((lv[k].at_.toNat : Nat) : Int) by omega]; exact p3
      have hnl : ((lv.take k).flatMap (Zx nodes)).length ≤ 1000000000 := by
       have : ∀ m : List za, (∀ p ∈ m, z4R nodes p) → (m.flatMap (Zx nodes)).length ≤ m.length * 1000 := by
        intro m
        induction m with
        | nil => intro _; simp
        | cons p m ih2 =>
         intro hm
         obtain ⟨_, _, M, m3, m4⟩ := hm p (by simp)
         have h1 : (Zx nodes p).length ≤ 1000 := by
          unfold Zx
          rw [m3]
          exact Nat.le_trans (Jv _ _ _) m4
         have h2 := ih2 fun q hq => hm q (by simp [hq])
         rw [List.flatMap_cons, List.length_append, List.length_cons]
         omega
       have h1 := this (lv.take k) fun p hp => hg p (List.mem_of_mem_take hp)
       rw [List.length_take] at h1
       omega
      have hnp : Zx nodes lv[k] = JP lv[k].w_ N.Next 0 := by unfold Zx; rw [p3]
      have htk : (lv.take (k + 1)).flatMap (Zx nodes) = (lv.take k).flatMap (Zx nodes) ++ JP lv[k].w_ N.Next 0 := by
       rw [List.take_add_one, hx, List.flatMap_append]
       simp [hnp]
      rw [hr, Bool.not_true, cond_false, hidx, Option.bind_some, bdT (z2P p4 p2 hnl)]
      unfold uN
      rw [xy (by omega) (by omega)]
      dsimp only
      rw [← htk]
      rw [show (k : Int) + 1 = ((k + 1 : Nat) : Int) by omega, ih (k + 1) r.1 hlt (by omega)]
      simp
     ·have hb : r.2 = false := by simpa using hr
      simp [hb]
   ·have hk2 : k = lv.length := by omega
    subst hk2
    have hq : decide ((lv.length : Int) < (lv.length : Int)) = false := by simp
    rw [hq, cond_false, List.drop_length, List.take_length]
    simp [k8]
 have h := gen wJ 0 sg (Nat.zero_le _) (by show lv.length - 0 < 18446744073709551616; omega)
 have h0 : (sg, (lv.take 0).flatMap (Zx nodes), ((0 : Nat) : Int)) = (sg, ([] : List za), (0 : Int)) := by simp
 rw [h0, List.drop_zero] at h
 exact h
def z6r (nodes : List z7) : Nat → List za → List za
 | 0, _ => []
 | m + 1, lv => lv ++ z6r nodes m (lv.flatMap (Zx nodes))
def itL (nodes : List z7) : Nat → List za → List za
 | 0, lv => lv
 | m + 1, lv => itL nodes m (lv.flatMap (Zx nodes))
theorem JS : ∀ (m n : Nat) (lv : List za) (sg : σ), m < n → itL nodes m lv = [] → (∀ j, j < m → (itL nodes j lv).length ≤ 500000 ∧ ∀ p ∈ itL nodes j lv, z4R nodes p) →
  yG (fun s => wN nodes yy s.1 s.2) n (sg, lv) = Option.bind (k8 yy (z6r nodes m lv) sg) fun r => some r.1
 | m, 0, lv, sg, h, _, _ => by omega
 | 0, n + 1, lv, sg, _, h0, _ => by
  have : lv = [] := h0
  subst this
  rw [wY]
  rfl
 | m + 1, n + 1, lv, sg, hmn, h0, hg => by
  rw [wY]
  dsimp only
  rw [wN.eq_1 nodes yy sg lv]
  have g := hg 0 (by omega)
  have g1 : lv.length ≤ 500000 := g.1
  have g2 : ∀ p ∈ lv, z4R nodes p := g.2
  by_cases he : lv = []
  ·subst he
   have hlv : ∀ m, z6r nodes m [] = [] := by
    intro m
    induction m with
    | zero => rfl
    | succ m ih => simp [z6r, ih]
   rw [hlv]
   rfl
  ·have hpos : 0 < lv.length := List.length_pos_iff.2 he
   have hq : decide (((lv.length : Nat) : Int) > 0) = true := by rw [decide_eq_true_eq]; omega
   rw [hq, cond_true, z1R yy g1 g2]
   simp only [z6r]
   rw [WJ]
   cases hf : k8 yy lv sg with
   | none => rfl
   | some r =>
    simp only [Option.bind_some]
    by_cases hr : r.2 = true
    ·simp only [hr, if_true]
     unfold uO
     exact JS m n _ r.1 (by omega) h0 fun j hj => hg (j + 1) (by omega)
    ·simp [hr]
end
def pl (wd : List (List Int)) (w : List Int) : za := ⟨((wd.idxOf w : Nat) : Int), w⟩
theorem Um {wd : List (List Int)} (hn : wd.Nodup) {i : Nat} {w : List Int} (h : wd[i]? = some w) : wd.idxOf w = i := by
 have hi := (List.getElem?_eq_some_iff.1 h).1
 have hm : w ∈ wd := List.mem_of_getElem? h
 have hlt : wd.idxOf w < wd.length := List.idxOf_lt_length_iff.2 hm
 have h2 : wd[wd.idxOf w]? = some w := by rw [List.getElem?_eq_getElem hlt, List.getElem_idxOf]
 exact (List.getElem?_inj hlt hn).1 (h2.trans h.symm)
theorem Yc {wd : List (List Int)} {w : List Int} (hm : w ∈ wd) : wd[wd.idxOf w]? = some w := by
 have hlt : wd.idxOf w < wd.length := List.idxOf_lt_length_iff.2 hm
 rw [List.getElem?_eq_getElem hlt, List.getElem_idxOf]
theorem z2Q {wd : List (List Int)} (hn : wd.Nodup) (w : List Int) : ∀ (nx : List Int) (s0 : Nat), (∀ t k, nx[t]? = some k → (k = -1 ∧ w ++ [((s0 + t : Nat) : Int)] ∉ wd) ∨ ∃ j : Nat, k = (j : Int) ∧ wd[j]? = some (w ++ [((s0 + t : Nat) : Int)])) →
  JP w nx s0 = (((List.range' s0 nx.length).map fun s : Nat => w ++ [(s : Int)]).filter fun x => decide (x ∈ wd)).map (pl wd)
 | [], _, _ => rfl
 | k :: nx, s0, h => by
  have ih := z2Q hn w nx (s0 + 1) fun t k' hk => by
   have := h (t + 1) k' (by simpa using hk)
   rwa [show s0 + (t + 1) = s0 + 1 + t by omega] at this
  simp only [JP, ih, List.length_cons, List.range'_succ, List.map_cons, List.filter_cons]
  rcases h 0 k rfl with ⟨h1, h2⟩ | ⟨j, h1, h2⟩
  ·rw [Nat.add_zero] at h2
   simp [h1, h2]
  ·rw [Nat.add_zero] at h2
   have hm := List.mem_of_getElem? h2
   have hk : ¬ k = -1 := by omega
   simp only [hk, if_false, hm, decide_true, if_true, List.map_cons, List.singleton_append]
   congr 1
   unfold pl
   rw [Um hn h2, h1]
def LW (wd : List (List Int)) (k : Nat) : List (List Int) := (srt wd).filter fun x => decide (x.length = k)
theorem Yw {wd : List (List Int)} {k : Nat} {x : List Int} : x ∈ LW wd k ↔ x ∈ wd ∧ x.length = k := by simp [LW, wb]
theorem z4P (wd : List (List Int)) (k : Nat) : SW (LW wd k) := (Z0 wd).filter _
section
variable {a : Nat} {nodes : List z7} {wd : List (List Int)} {D : List Int → Prop} (h : Zb a nodes wd D) (ha : a ≤ 1000)
include h
theorem z6j {w : List Int} (hw : w ∈ wd) : Zx nodes (pl wd w) = ((UU a w).filter fun x => decide (x ∈ wd)).map (pl wd) := by
 have hi := Yc hw
 have hlt : wd.idxOf w < nodes.length := by rw [h.len]; exact (List.getElem?_eq_some_iff.1 hi).1
 have hN : nodes[wd.idxOf w]? = some nodes[wd.idxOf w] := List.getElem?_eq_getElem hlt
 have hl := h.nlen _ _ hN
 unfold Zx
 have : (pl wd w).at_.toNat = wd.idxOf w := by simp [pl]
 rw [this, hN]
 show JP w nodes[wd.idxOf w].Next 0 = _
 rw [z2Q h.nod w nodes[wd.idxOf w].Next 0, hl]
 ·unfold UU
  rw [List.range_eq_range']
 ·intro t k hk
  have ht : t < a := by have := (List.getElem?_eq_some_iff.1 hk).1; omega
  rw [Nat.zero_add]
  rcases h.nxt _ _ _ hN hi t ht with ⟨q1, q2⟩ | ⟨j, q1, q2⟩
  ·rw [hk] at q1
   exact .inl ⟨by simpa using q1, q2⟩
  ·rw [hk] at q1
   exact .inr ⟨j, by simpa using q1, q2⟩
theorem Qq (k : Nat) : ((LW wd k).map (pl wd)).flatMap (Zx nodes) = (LW wd (k + 1)).map (pl wd) := by
 have e : ∀ l : List (List Int), (∀ w ∈ l, w ∈ wd) → (l.map (pl wd)).flatMap (Zx nodes) = ((l.flatMap (UU a)).filter fun x => decide (x ∈ wd)).map (pl wd) := by
  intro l
  induction l with
  | nil => intro _; rfl
  | cons w l ih =>
   intro hl
   rw [List.map_cons, List.flatMap_cons, ih fun v hv => hl v (by simp [hv]), z6j h (hl w (by simp)), List.flatMap_cons, List.filter_append, List.map_append]
 rw [e _ fun w hw => (Yw.1 hw).1]
 congr 1
 refine SW.unique ((z30 a k (z4P wd k) fun w hw => (Yw.1 hw).2).filter _) (z4P _ _) fun x => ?_
 rw [List.mem_filter, List.mem_flatMap, Yw, decide_eq_true_eq]
 constructor
 ·rintro ⟨⟨w, q1, q2⟩, q3⟩
  simp only [UU, List.mem_map] at q2
  obtain ⟨s, _, rfl⟩ := q2
  exact ⟨q3, by simp [(Yw.1 q1).2]⟩
 ·rintro ⟨q1, q2⟩
  rcases List.eq_nil_or_concat x with rfl | ⟨w, s, rfl⟩
  ·simp at q2
  ·rw [List.concat_eq_append] at q1 q2 ⊢
   obtain ⟨c1, c2, c3⟩ := h.clo w s q1
   refine ⟨⟨w, Yw.2 ⟨c1, by simpa using q2⟩, ?_⟩, q1⟩
   simp only [UU, List.mem_map, List.mem_range]
   exact ⟨s.toNat, by omega, by rw [Int.toNat_of_nonneg c2]⟩
theorem Jw : ∀ (j k : Nat), itL nodes j ((LW wd k).map (pl wd)) = (LW wd (k + j)).map (pl wd)
 | 0, k => rfl
 | j + 1, k => by
  rw [itL, Qq h, Jw j (k + 1), show k + 1 + j = k + (j + 1) by omega]
def z3y (wd : List (List Int)) : Nat → Nat → List (List Int)
 | _, 0 => []
 | k, m + 1 => LW wd k ++ z3y wd (k + 1) m
theorem z2L : ∀ (m k : Nat), z6r nodes m ((LW wd k).map (pl wd)) = (z3y wd k m).map (pl wd)
 | 0, k => rfl
 | m + 1, k => by rw [z6r, Qq h, z2L m (k + 1), z3y, List.map_append]
omit h in
theorem Ju : ∀ (m k : Nat) (x : List Int), x ∈ z3y wd k m ↔ x ∈ wd ∧ k ≤ x.length ∧ x.length < k + m
 | 0, k, x => by simp [z3y]
 | m + 1, k, x => by
  rw [z3y, List.mem_append, Yw, Ju m (k + 1) x]
  constructor
  ·rintro (⟨q1, q2⟩ | ⟨q1, q2, q3⟩)
   ·exact ⟨q1, by omega, by omega⟩
   ·exact ⟨q1, by omega, by omega⟩
  ·rintro ⟨q1, q2, q3⟩
   rcases Nat.lt_or_ge k x.length with q | q
   ·exact .inr ⟨q1, by omega, by omega⟩
   ·exact .inl ⟨q1, by omega⟩
omit h in
theorem z3b : ∀ (m k : Nat), SW (z3y wd k m)
 | 0, k => by simp [z3y, SW]
 | m + 1, k => by
  unfold z3y SW
  rw [List.pairwise_append]
  refine ⟨z4P wd k, z3b m (k + 1), fun x hx y hy => ?_⟩
  have h1 := (Yw.1 hx).2
  have h2 := ((Ju m (k + 1) y).1 hy).2.1
  unfold uM
  rw [if_pos (by omega)]
  omega
include ha
theorem z23 {σ : Type} (yy : σ → za → Option (σ × Bool)) (sg : σ) (hlen : wd.length ≤ 500000) (hwl : ∀ w ∈ wd, w.length ≤ 10000) :
  x4 nodes yy sg = Option.bind (k8 yy ((srt wd).map (pl wd)) sg) fun r => some r.1 := by
 have hcat : z3y wd 0 10001 = srt wd := SW.unique (z3b 10001 0) (Z0 wd) fun x => by
  rw [Ju, wb]
  exact ⟨fun q => q.1, fun q => ⟨q, Nat.zero_le _, by have := hwl x q; omega⟩⟩
 have main : wP nodes yy sg ((LW wd 0).map (pl wd)) = Option.bind (k8 yy ((srt wd).map (pl wd)) sg) fun r => some r.1 := by
  unfold wP
  have hl := JS yy (nodes := nodes) 10001 wJ ((LW wd 0).map (pl wd)) sg (by show 10001 < 18446744073709551616; omega) (by
   rw [Jw h]
   have : LW wd (0 + 10001) = [] := by
    rw [List.eq_nil_iff_forall_not_mem]
    intro x hx
    obtain ⟨q1, q2⟩ := Yw.1 hx
    have := hwl x q1
    omega
   rw [this]; rfl) (fun j hj => by
   rw [Jw h]
   refine ⟨?_, fun p hp => ?_⟩
   ·rw [List.length_map]
    refine Nat.le_trans (List.length_filter_le _ _) (Nat.le_trans (Jg wd) hlen)
   ·obtain ⟨w, q1, rfl⟩ := List.mem_map.1 hp
    have hw := (Yw.1 q1).1
    have hlt : wd.idxOf w < nodes.length := by rw [h.len]; exact (List.getElem?_eq_some_iff.1 (Yc hw)).1
    have hN : nodes[wd.idxOf w]? = some nodes[wd.idxOf w] := List.getElem?_eq_getElem hlt
    refine ⟨by simp [pl], by have := hwl w hw; show w.length ≤ 100000; omega, nodes[wd.idxOf w], by simp [pl], by rw [h.nlen _ _ hN]; exact ha⟩)
  have hl2 : loop (fun s => wN nodes yy s.1 s.2) (sg, (LW wd 0).map (pl wd)) = _ := hl
  rw [hl2, z2L h, hcat]
  cases k8 yy ((srt wd).map (pl wd)) sg <;> rfl
 unfold x4
 by_cases hn : nodes = []
 ·have hw0 : wd = [] := List.eq_nil_of_length_eq_zero (by rw [← h.len, hn]; rfl)
  have hq : decide (((nodes.length : Nat) : Int) > 0) = false := by rw [hn]; rfl
  rw [hq, cond_false]
  have hL : LW wd 0 = [] := by rw [hw0]; rfl
  rw [hL] at main
  exact main
 ·have hpos : 0 < nodes.length := List.length_pos_iff.2 hn
  have hq : decide (((nodes.length : Nat) : Int) > 0) = true := by rw [decide_eq_true_eq]; omega
  rw [hq, cond_true]
  have hr := h.root (by rw [← h.len]; exact hpos)
  have hL : LW wd 0 = [[]] := SW.unique (z4P wd 0) (by simp [SW]) fun x => by
   rw [Yw, List.mem_singleton]
   constructor
   ·rintro ⟨_, q⟩; exact List.eq_nil_of_length_eq_zero q
   ·rintro rfl; exact ⟨List.mem_of_getElem? hr, rfl⟩
  rw [hL] at main
  have hp : [[]].map (pl wd) = [za.mk 0 []] := by simp [pl, Um h.nod hr]
  rw [hp] at main
  exact main
end
end Go.Own

namespace Go.Own
theorem Uf {N : z7} (hN : N.Next.length ≤ 1000) : qz N = some (N.Next.all fun c => c == -1) := by
 unfold qz yB yU
 have hl := wX N.Next (by omega) (step := fun s => ya N.Next s) (fun i c => if c ≠ -1 then some (i : Int) else none) (by
  intro i c hc
  have hi : i < N.Next.length := (List.getElem?_eq_some_iff.1 hc).1
  have hq : decide ((i : Int) < (N.Next.length : Int)) = true := by simpa using hi
  unfold ya kq
  rw [hq, cond_true, zD hc, Option.bind_some, Option.bind_some]
  by_cases h : c = -1
  ·simp [h, nS]
  ·have hb : (c != -1) = true := by simpa using h
   rw [hb, cond_true, if_pos h]
   rfl) (by unfold ya; simp)
 rw [hl]
 have q := z1m (fun c => c != -1) (fun i c => if c ≠ -1 then some (i : Int) else none) (fun i c => by by_cases h : c = -1 <;> simp [h]) N.Next 0
 have hall : (N.Next.all fun c => c == -1) = !(N.Next.any fun c => c != -1) := by
  rw [List.all_eq_not_any_not]
  rfl
 rw [hall, ← q]
 cases hf : yQ (fun i c => if c ≠ -1 then some (i : Int) else none) N.Next 0 with
 | none => rfl
 | some r =>
  obtain ⟨i, x, h1, h2⟩ := u0 hf
  rw [Nat.zero_add] at h2
  split at h2
  ·cases h2
   have : decide ((i : Int) ≥ 0) = true := by simp
   simp [oS]
  ·cases h2
def kV (x v : List Int) : Bool := decide (x.length < v.length) && decide (v.take x.length = x)
theorem Vr {x v : List Int} : kV x v = true ↔ x.length < v.length ∧ v.take x.length = x := by simp [kV]
def z5k (l : List (List Int)) : List (List Int) := l.filter fun x => !l.any (kV x)
theorem z16 {l : List (List Int)} {x : List Int} : x ∈ z5k l ↔ x ∈ l ∧ ∀ v ∈ l, ¬ (x.length < v.length ∧ v.take x.length = x) := by
 unfold z5k
 rw [List.mem_filter]
 simp only [Bool.not_eq_true', List.any_eq_false, Vr]
def yb (l : List (List Int)) : List (List Int) := l.flatMap fun w => (List.range (w.length + 1)).map fun k => w.take k
theorem vu {l : List (List Int)} {x : List Int} : x ∈ yb l ↔ ∃ w ∈ l, ∃ j, j ≤ w.length ∧ x = w.take j := by
 simp only [yb, List.mem_flatMap, List.mem_map, List.mem_range]
 constructor
 ·rintro ⟨w, h1, j, h2, rfl⟩; exact ⟨w, h1, j, by omega, rfl⟩
 ·rintro ⟨w, h1, j, h2, rfl⟩; exact ⟨w, h1, j, by omega, rfl⟩
section
variable {a : Nat} {nodes : List z7} {wd : List (List Int)} {D : List Int → Prop} (h : Zb a nodes wd D) (ha : a ≤ 1000) (hlen : wd.length ≤ 400000) (hwl : ∀ w ∈ wd, w.length ≤ 10000)
include h
theorem z2F {w : List Int} (hw : w ∈ wd) : ∃ N, nodes[wd.idxOf w]? = some N ∧ idx nodes (pl wd w).at_ = some N ∧ N.Next.length = a := by
 have hlt : wd.idxOf w < nodes.length := by rw [h.len]; exact (List.getElem?_eq_some_iff.1 (Yc hw)).1
 have hN : nodes[wd.idxOf w]? = some nodes[wd.idxOf w] := List.getElem?_eq_getElem hlt
 exact ⟨_, hN, hN, h.nlen _ _ hN⟩
theorem z0x {w : List Int} (hw : w ∈ wd) (hpre : ∀ v ∈ wd, ∀ j, v.take j ∈ wd) {N : z7} (hN : nodes[wd.idxOf w]? = some N) : (N.Next.all fun c => c == -1) = !wd.any (kV w) := by
 rw [Bool.eq_iff_iff]
 simp only [List.all_eq_true, beq_iff_eq, Bool.not_eq_true', List.any_eq_false, Vr]
 have hl := h.nlen _ _ hN
 constructor
 ·intro hall v hv hext
  have h1 : v.take (w.length + 1) ∈ wd := hpre v hv _
  have hlt := hext.1
  have e : v.take (w.length + 1) = w ++ [v[w.length]] := by rw [List.take_add_one, List.getElem?_eq_getElem hlt, hext.2]; rfl
  rw [e] at h1
  obtain ⟨_, c2, c3⟩ := h.clo _ _ h1
  obtain ⟨s, hs⟩ : ∃ s : Nat, v[w.length] = (s : Int) := ⟨v[w.length].toNat, by omega⟩
  rw [hs] at h1 c3
  rcases h.nxt _ _ _ hN (Yc hw) s (by omega) with ⟨_, q⟩ | ⟨j, q1, _⟩
  ·exact q h1
  ·have := hall _ (List.mem_of_getElem? q1)
   omega
 ·intro hno c hc
  obtain ⟨t, ht⟩ := List.mem_iff_getElem?.1 hc
  have hta : t < a := by have := (List.getElem?_eq_some_iff.1 ht).1; omega
  rcases h.nxt _ _ _ hN (Yc hw) t hta with ⟨q, _⟩ | ⟨j, _, q2⟩
  ·rw [ht] at q
   simpa using q
  ·exact absurd ⟨by simp, by simp⟩ (hno _ (List.mem_of_getElem? q2))
include ha hlen hwl
end
theorem z1O {l wd : List (List Int)} (hm : ∀ x, x ∈ wd ↔ ∃ w ∈ l, ∃ j, j ≤ w.length ∧ x = w.take j) : ∀ v ∈ wd, ∀ j, v.take j ∈ wd := by
 intro v hv j
 obtain ⟨w, h1, i, h2, rfl⟩ := (hm v).1 hv
 exact (hm _).2 ⟨w, h1, min j i, by omega, by rw [List.take_take]⟩
theorem z2w {x v : List Int} (hx : x.length < 1000000000) : qV x v = some (kV x v) := by
 unfold qV kV
 by_cases h : x.length < v.length
 ·have hq : decide (((x.length : Nat) : Int) < ((v.length : Nat) : Int)) = true := by rw [decide_eq_true_eq]; omega
  have e : (v.drop 0).take (((x.length : Nat) : Int).toNat - 0) = v.take x.length := by simp
  rw [hq, cond_true, gdT (by omega), e, ub _ _ (fun _ => by omega), Option.bind_some, decide_eq_true h, Bool.true_and]
  by_cases he : v.take x.length = x
  ·rw [he, uZ, decide_eq_true rfl]; rfl
  ·have hb : (uM x (v.take x.length) == 0) = false := by rw [beq_eq_false_iff_ne]; exact fun q => he (Ya q).symm
   rw [hb, decide_eq_false he]
 ·have hq : decide (((x.length : Nat) : Int) < ((v.length : Nat) : Int)) = false := by rw [decide_eq_false_iff_not]; omega
  rw [hq, cond_false, decide_eq_false h, Bool.false_and]
theorem z1M {l : List (List Int)} (hl : l.length ≤ 100000) (hw : ∀ w ∈ l, w.length < 1000000000) : uJ l = some (z5k l) := by
 unfold uJ
 have h := uW (step := fun s => xw l s.1 s.2) (fun i => ((l.take i).filter (fun x => !l.any (kV x)), (i : Int))) l.length (t := z5k l) (by omega) (by
  intro i hi
  show xw l _ (i : Int) = _
  unfold xw
  have hq : decide ((i : Int) < (l.length : Int)) = true := by simpa using hi
  have hx : l[i]? = some l[i] := List.getElem?_eq_getElem hi
  have hin := uW (step := fun s => xv l (i : Int) s.1 s.2) (fun k => ((l.take k).any (kV l[i]), (k : Int))) l.length (t := l.any (kV l[i])) (by omega) (by
   intro k hk
   show xv l (i : Int) _ (k : Int) = _
   unfold xv
   have hq2 : decide ((k : Int) < (l.length : Int)) = true := by simpa using hk
   have hy : l[k]? = some l[k] := List.getElem?_eq_getElem hk
   have htk : (l.take (k + 1)).any (kV l[i]) = ((l.take k).any (kV l[i]) || kV l[i] l[k]) := by
    rw [List.take_add_one, hy, List.any_append]
    simp
   rw [hq2, cond_true, xy (by omega) (by omega), htk]
   cases (l.take k).any (kV l[i]) with
   | true => rfl
   | false => rw [cond_false, zD hx, Option.bind_some, zD hy, Option.bind_some, z2w (hw _ (List.getElem_mem hi)), Option.bind_some, Bool.false_or]; rfl) (by
   show xv l (i : Int) _ (l.length : Int) = _
   unfold xv
   have hq2 : decide (((l.length : Nat) : Int) < (l.length : Int)) = false := by simp
   rw [hq2, cond_false, List.take_length])
  have h0 : ((l.take 0).any (kV l[i]), ((0 : Nat) : Int)) = (false, (0 : Int)) := by simp
  rw [h0] at hin
  rw [hq, cond_true, bdT hin]
  unfold uV vX
  rw [xy (by omega) (by omega)]
  have hfl := List.length_filter_le (fun x => !l.any (kV x)) (l.take i)
  rw [List.length_take] at hfl
  have htk : (l.take (i + 1)).filter (fun x => !l.any (kV x)) = (l.take i).filter (fun x => !l.any (kV x)) ++ (if l.any (kV l[i]) = true then [] else [l[i]]) := by
   rw [List.take_add_one, hx, List.filter_append]
   congr 1
   rw [Option.toList_some, List.filter_cons, List.filter_nil]
   cases l.any (kV l[i]) <;> rfl
  rw [htk]
  cases hb : l.any (kV l[i]) with
  | true => simp
  | false =>
   rw [Bool.not_false, cond_true, zD hx, Option.bind_some, gdT (by dsimp only; rw [List.length_singleton]; omega)]
   rfl) (by
  show xw l _ (l.length : Int) = _
  unfold xw
  have hq : decide (((l.length : Nat) : Int) < (l.length : Int)) = false := by simp
  rw [hq, cond_false, List.take_length]
  rfl)
 have h0 : ((l.take 0).filter (fun x => !l.any (kV x)), ((0 : Nat) : Int)) = (([] : List (List Int)), (0 : Int)) := by simp
 rw [h0] at h
 rw [bdT h]
 rfl
theorem Kn {l : List (List Int)} (hl : l.length ≤ 100) (hw : ∀ w ∈ l, w.length ≤ 100) : uk l = some (srt (yb l)) := by
 have hpl : ∀ m : List (List Int), (∀ w ∈ m, w.length ≤ 100) → (yb m).length ≤ m.length * 101 := by
  intro m
  induction m with
  | nil => intro _; simp [yb]
  | cons w m ih =>
   intro hm
   have e : yb (w :: m) = ((List.range (w.length + 1)).map fun k => w.take k) ++ yb m := rfl
   have h1 := hm w (by simp)
   have h2 := ih fun v hv => hm v (by simp [hv])
   rw [e, List.length_append, List.length_map, List.length_range, List.length_cons]
   omega
 unfold uk
 have h := uW (step := fun s => yN l s.1 s.2) (fun i => (srt (yb (l.take i)), (i : Int))) l.length (t := srt (yb l)) (by omega) (by
  intro i hi
  show yN l _ (i : Int) = _
  unfold yN
  have hq : decide ((i : Int) < (l.length : Int)) = true := by simpa using hi
  have hx : l[i]? = some l[i] := List.getElem?_eq_getElem hi
  have hwi := hw _ (List.getElem_mem hi)
  have hpi := hpl (l.take i) fun w hww => hw w (List.mem_of_mem_take hww)
  rw [List.length_take] at hpi
  have htk : yb (l.take (i + 1)) = yb (l.take i) ++ (List.range (l[i].length + 1)).map fun k => l[i].take k := by
   unfold yb
   rw [List.take_add_one, hx, List.flatMap_append]
   simp
  have hin := uW (step := fun s => yM l (i : Int) s.1 s.2) (fun k => (srt (yb (l.take i) ++ (List.range k).map fun j => l[i].take j), (k : Int))) (l[i].length + 1) (t := srt (yb (l.take (i + 1)))) (by omega) (by
   intro k hk
   show yM l (i : Int) _ (k : Int) = _
   unfold yM
   have hq2 : decide ((k : Int) ≤ ((l[i].length : Nat) : Int)) = true := by rw [decide_eq_true_eq]; omega
   have e : (l[i].drop 0).take ((k : Int).toNat - 0) = l[i].take k := by simp
   have hll : (srt (yb (l.take i) ++ (List.range k).map fun j => l[i].take j)).length ≤ 1000000 := by
    refine Nat.le_trans (Jg _) ?_
    rw [List.length_append, List.length_map, List.length_range]; omega
   rw [zD hx, Option.bind_some, hq2, cond_true, Option.bind_some, gdT (by omega), e, z7v (Z0 _) hll (fun x hxx => by
    rcases List.mem_append.1 (wb.1 hxx) with q | q
    ·obtain ⟨w, w1, j, w2, rfl⟩ := vu.1 q
     have := hw w (List.mem_of_mem_take w1)
     rw [List.length_take]; omega
    ·obtain ⟨j, _, rfl⟩ := List.mem_map.1 q
     rw [List.length_take]; omega) (by rw [List.length_take]; omega), Option.bind_some, xy (by omega) (by omega), ← z3N, List.range_succ, List.map_append, List.append_assoc]
   rfl) (by
   show yM l (i : Int) _ ((l[i].length + 1 : Nat) : Int) = _
   unfold yM
   have hq2 : decide (((l[i].length + 1 : Nat) : Int) ≤ ((l[i].length : Nat) : Int)) = false := by rw [decide_eq_false_iff_not]; omega
   rw [zD hx, Option.bind_some, hq2, cond_false, htk])
  have h0 : (srt (yb (l.take i) ++ (List.range 0).map fun j => l[i].take j), ((0 : Nat) : Int)) = (srt (yb (l.take i)), (0 : Int)) := by simp
  rw [h0] at hin
  rw [hq, cond_true, bdT hin]
  unfold u9
  rw [xy (by omega) (by omega)]
  rfl) (by
  show yN l _ (l.length : Int) = _
  unfold yN
  have hq : decide (((l.length : Nat) : Int) < (l.length : Int)) = false := by simp
  rw [hq, cond_false, List.take_length])
 have h0 : (srt (yb (l.take 0)), ((0 : Nat) : Int)) = (([] : List (List Int)), (0 : Int)) := by simp [yb, srt]
 rw [h0] at h
 rw [bdT h]
 rfl
end Go.Own

namespace Go.Own
def nxW (W : List (List Int)) (w : List Int) (s : Nat) : Int := if w ++ [(s : Int)] ∈ W then ((W.idxOf (w ++ [(s : Int)]) : Nat) : Int) else -1
def Us (a : Nat) (W l : List (List Int)) (w : List Int) : z7 := z7.mk ((List.range a).map (nxW W w)) (decide (w ∈ l))
def wt (a : Nat) (l : List (List Int)) : List z7 := (srt (yb l)).map (Us a (srt (yb l)) l)
theorem z1W {a : Nat} {l : List (List Int)} (hs : ∀ w ∈ l, ∀ c ∈ w, 0 ≤ c ∧ c < (a : Int)) : Zb a (wt a l) (srt (yb l)) (fun y => y ∈ l) := by
 have nd := (Z0 (yb l)).nodup
 have pre : ∀ v ∈ srt (yb l), ∀ j, v.take j ∈ srt (yb l) := by
  intro v hv j
  obtain ⟨w, h1, i, h2, rfl⟩ := vu.1 (wb.1 hv)
  exact wb.2 (vu.2 ⟨w, h1, min j i, by omega, by rw [List.take_take]⟩)
 have at_ : ∀ (i : Nat) (N : z7) (x : List Int), (wt a l)[i]? = some N → (srt (yb l))[i]? = some x → N = Us a (srt (yb l)) l x := by
  intro i N x h1 h2
  unfold wt at h1
  rw [List.getElem?_map, h2] at h1
  simpa using h1.symm
 have ex : ∀ (i : Nat) (N : z7), (wt a l)[i]? = some N → ∃ x, (srt (yb l))[i]? = some x := by
  intro i N h1
  have := (List.getElem?_eq_some_iff.1 h1).1
  unfold wt at this
  rw [List.length_map] at this
  exact ⟨_, List.getElem?_eq_getElem this⟩
 refine ⟨by simp [wt], nd, ?_, ?_, ?_, ?_, ?_⟩
 ·intro i N h1
  obtain ⟨x, h2⟩ := ex i N h1
  rw [at_ i N x h1 h2]
  simp [Us]
 ·intro i N x h1 h2 s hs2
  rw [at_ i N x h1 h2]
  have e : (Us a (srt (yb l)) l x).Next[s]? = some (nxW (srt (yb l)) x s) := by
   unfold Us
   simp [hs2]
  rw [e]
  unfold nxW
  by_cases hm : x ++ [(s : Int)] ∈ srt (yb l)
  ·right
   rw [if_pos hm]
   exact ⟨_, rfl, Yc hm⟩
  ·left
   rw [if_neg hm]
   exact ⟨rfl, hm⟩
 ·intro hpos
  have hne : srt (yb l) ≠ [] := fun e => by rw [e] at hpos; simp at hpos
  obtain ⟨v, W', hvW⟩ := List.exists_cons_of_ne_nil hne
  have hv : v ∈ srt (yb l) := by rw [hvW]; simp
  have hnil : ([] : List Int) ∈ srt (yb l) := by
   have := pre v hv 0
   simpa using this
  rw [hvW] at hnil ⊢
  rcases List.mem_cons.1 hnil with e | e
  ·rw [← e]; rfl
  ·have hsw := Z0 (yb l)
   rw [hvW] at hsw
   have := hsw.head [] e
   unfold uM at this
   rw [if_neg (by simp)] at this
   by_cases hz : v.length = 0
   ·rw [List.eq_nil_of_length_eq_zero hz]; rfl
   ·rw [if_pos (by simp; omega)] at this
    omega
 ·intro w s hw
  obtain ⟨v, v1, j, v2, e⟩ := vu.1 (wb.1 hw)
  have hpw := pre _ hw w.length
  rw [List.take_left'  rfl] at hpw
  refine ⟨hpw, ?_⟩
  have hsm : s ∈ v := List.mem_of_mem_take (i := j) (by rw [← e]; simp)
  exact hs v v1 s hsm
 ·intro i N x h1 h2
  rw [at_ i N x h1 h2]
  simp [Us]
theorem z10 {a : Nat} {l : List (List Int)} (ha : a ≤ 100) (hl : l.length ≤ 100) (hw : ∀ w ∈ l, w.length ≤ 100) : Z2 l (a : Int) = some (zb.mk (a : Int) (wt a l)) := by
 have hW : (srt (yb l)).length ≤ 1000000 := by
  refine Nat.le_trans (Jg _) ?_
  have hpl : ∀ m : List (List Int), (∀ w ∈ m, w.length ≤ 100) → (yb m).length ≤ m.length * 101 := by
   intro m
   induction m with
   | nil => intro _; simp [yb]
   | cons w m ih =>
    intro hm
    have e : yb (w :: m) = ((List.range (w.length + 1)).map fun k => w.take k) ++ yb m := rfl
    have h1 := hm w (by simp)
    have h2 := ih fun v hv => hm v (by simp [hv])
    rw [e, List.length_append, List.length_map, List.length_range, List.length_cons]
    omega
  have := hpl l hw
  omega
 have hWw : ∀ w ∈ srt (yb l), w.length ≤ 100 := fun w h => by
  obtain ⟨v, v1, j, v2, rfl⟩ := vu.1 (wb.1 h)
  have := hw v v1
  rw [List.length_take]; omega
 have nd := (Z0 (yb l)).nodup
 unfold Z2
 rw [Kn hl hw, Option.bind_some]
 generalize hWd : srt (yb l) = W at hW hWw nd
 have h := uW (step := fun s => wq l (a : Int) W s.1 s.2) (fun i => ((W.take i).map (Us a W l), (i : Int))) W.length (t := W.map (Us a W l)) (by omega) (by
  intro i hi
  show wq l (a : Int) W _ (i : Int) = _
  unfold wq
  have hq : decide ((i : Int) < (W.length : Int)) = true := by simpa using hi
  have hx : W[i]? = some W[i] := List.getElem?_eq_getElem hi
  have hwi := hWw _ (List.getElem_mem hi)
  have h5 := uW (step := fun s => wp (a : Int) W (i : Int) s.1 s.2) (fun s => ((List.range s).map (nxW W W[i]), (s : Int))) a (t := (List.range a).map (nxW W W[i])) (by omega) (by
   intro s hs
   show wp (a : Int) W (i : Int) _ (s : Int) = _
   unfold wp
   have hq2 : decide ((s : Int) < (a : Int)) = true := by simpa using hs
   have h8 := uW (step := fun q => wo W (i : Int) (s : Int) q.1 q.2) (fun k => ((if W[i] ++ [(s : Int)] ∈ W.take k then ((W.idxOf (W[i] ++ [(s : Int)]) : Nat) : Int) else -1), (k : Int))) W.length (t := nxW W W[i] s) (by omega) (by
    intro k hk
    show wo W (i : Int) (s : Int) _ (k : Int) = _
    unfold wo
    have hq3 : decide ((k : Int) < (W.length : Int)) = true := by simpa using hk
    have hy : W[k]? = some W[k] := List.getElem?_eq_getElem hk
    have hk2 : w64 ((k : Int) + 1) = ((k + 1 : Nat) : Int) := by rw [xy (by omega) (by omega)]; omega
    have hwk := hWw _ (List.getElem_mem hk)
    rw [hq3, cond_true, zD hy, Option.bind_some, zD hx, Option.bind_some, gdT (by simp; omega), gdT (by simp; omega), ub _ _ (fun _ => by omega), Option.bind_some]
    unfold uU
    by_cases he : W[k] = W[i] ++ [(s : Int)]
    ·have hb : (uM W[k] (W[i] ++ [(s : Int)]) == 0) = true := by rw [he, uZ]; rfl
     have hm : W[i] ++ [(s : Int)] ∈ W.take (k + 1) := Vq.2 ⟨k, by omega, by rw [hy, he]⟩
     have hid : W.idxOf (W[i] ++ [(s : Int)]) = k := Um nd (by rw [hy, he])
     rw [hb, cond_true, hk2, if_pos hm, hid]
    ·have hb : (uM W[k] (W[i] ++ [(s : Int)]) == 0) = false := by rw [beq_eq_false_iff_ne]; exact fun q => he (Ya q)
     have hm : W[i] ++ [(s : Int)] ∈ W.take (k + 1) ↔ W[i] ++ [(s : Int)] ∈ W.take k := by
      rw [Vq, Vq]
      constructor
      ·rintro ⟨j, j1, j2⟩
       rcases Nat.lt_or_ge j k with q | q
       ·exact ⟨j, q, j2⟩
       ·rw [show j = k by omega, hy] at j2
        exact absurd (by simpa using j2) he
      ·rintro ⟨j, j1, j2⟩; exact ⟨j, by omega, j2⟩
     rw [hb, cond_false, hk2]
     by_cases hm2 : W[i] ++ [(s : Int)] ∈ W.take k
     ·rw [if_pos hm2, if_pos (hm.2 hm2)]
     ·rw [if_neg hm2, if_neg (fun q => hm2 (hm.1 q))]) (by
    show wo W (i : Int) (s : Int) _ (W.length : Int) = _
    unfold wo
    have hq3 : decide (((W.length : Nat) : Int) < (W.length : Int)) = false := by simp
    rw [hq3, cond_false, List.take_length]
    rfl)
   have h0 : ((if W[i] ++ [(s : Int)] ∈ W.take 0 then ((W.idxOf (W[i] ++ [(s : Int)]) : Nat) : Int) else -1), ((0 : Nat) : Int)) = ((-1 : Int), (0 : Int)) := by simp
   rw [h0] at h8
   rw [hq2, cond_true, bdT h8]
   unfold jn jo
   rw [gdT (by simp; omega), xy (by omega) (by omega), List.range_succ, List.map_append]
   rfl) (by
   show wp (a : Int) W (i : Int) _ (a : Int) = _
   unfold wp
   have hq2 : decide ((a : Int) < (a : Int)) = false := by simp
   rw [hq2, cond_false])
  have h0 : ((List.range 0).map (nxW W W[i]), ((0 : Nat) : Int)) = (([] : List Int), (0 : Int)) := by simp
  rw [h0] at h5
  rw [hq, cond_true, zD hx, Option.bind_some, z6d l _ (by omega) (by omega), Option.bind_some, bdT h5]
  unfold jp jq
  rw [gdT (by simp [List.length_take]; omega), xy (by omega) (by omega), List.take_add_one, hx, List.map_append]
  rfl) (by
  show wq l (a : Int) W _ (W.length : Int) = _
  unfold wq
  have hq : decide (((W.length : Nat) : Int) < (W.length : Int)) = false := by simp
  rw [hq, cond_false, List.take_length])
 have h0 : ((W.take 0).map (Us a W l), ((0 : Nat) : Int)) = (([] : List z7), (0 : Int)) := by simp
 rw [h0] at h
 rw [bdT h]
 unfold jr wt
 rw [hWd]
theorem z0n {t : zb} (hl : t.Nodes.length ≤ 1000000) (hn : ∀ N ∈ t.Nodes, N.Next.length ≤ 1000) : vY t t = some true := by
 unfold vY
 rw [bne_self_eq_false, cond_false, bne_self_eq_false, cond_false]
 have h := wX t.Nodes (by omega) (step := fun s => xh t t s) (ρ := Bool) (fun _ _ => none) (by
  intro i N hN
  have hi : i < t.Nodes.length := (List.getElem?_eq_some_iff.1 hN).1
  have hq : decide ((i : Int) < (t.Nodes.length : Int)) = true := by simpa using hi
  have hNl := hn N (List.mem_of_getElem? hN)
  unfold xh
  have hb : (N.End == N.End) = true := by simp
  have hb0 : ((0 : Int) != 0) = false := rfl
  rw [hq, cond_true, zD hN, Option.bind_some, Option.bind_some, hb, Bool.not_true, cond_false, Option.bind_some, Option.bind_some, ub _ _ (fun _ => by omega), Option.bind_some, uZ, hb0, cond_false]
  rfl) (by unfold xh; simp)
 rw [bdT h, YO fun _ _ _ => rfl]
 rfl
end Go.Own

namespace Go.Own
theorem z56 {l wd : List (List Int)} (hs : SW l) (t2 : ∀ x, x ∈ wd ↔ ∃ w ∈ l, ∃ j, j ≤ w.length ∧ x = w.take j) : (srt wd).filter (fun x => !wd.any (kV x)) = z5k l := by
 refine SW.unique ((Z0 wd).filter _) (hs.sub List.filter_sublist) fun x => ?_
 rw [z16, List.mem_filter, wb]
 simp only [Bool.not_eq_true', List.any_eq_false, Vr]
 constructor
 ·rintro ⟨h1, h2⟩
  obtain ⟨w, w1, j, w2, rfl⟩ := (t2 x).1 h1
  have hmem : ∀ v ∈ l, v ∈ wd := fun v hv => (t2 v).2 ⟨v, hv, v.length, Nat.le_refl _, by simp⟩
  have hj : j = w.length := by
   rcases Nat.lt_or_ge j w.length with q | q
   ·refine absurd ⟨?_, ?_⟩ (h2 w (hmem w w1))
    ·rw [List.length_take]; omega
    ·rw [List.length_take, Nat.min_eq_left w2]
   ·omega
  rw [hj, List.take_length] at h2 ⊢
  exact ⟨w1, fun v hv => h2 v (hmem v hv)⟩
 ·rintro ⟨h1, h2⟩
  refine ⟨(t2 x).2 ⟨x, h1, x.length, Nat.le_refl _, by simp⟩, fun v hv hext => ?_⟩
  obtain ⟨w, w1, j, w2, rfl⟩ := (t2 v).1 hv
  rw [List.length_take] at hext
  refine h2 w w1 ⟨by omega, ?_⟩
  have := hext.2
  rw [List.take_take, Nat.min_eq_left (by omega)] at this
  exact this
theorem z7h {W : List (List Int)} (h : SW W) {i j : Nat} {x y : List Int} (hi : W[i]? = some x) (hj : W[j]? = some y) (hxy : uM x y < 0) : i < j := by
 rcases Nat.lt_or_ge i j with q | q
 ·exact q
 ·rcases Nat.lt_or_ge j i with q2 | q2
  ·have := (List.pairwise_iff_getElem.1 h) j i (List.getElem?_eq_some_iff.1 hj).1 (List.getElem?_eq_some_iff.1 hi).1 q2
   rw [(List.getElem?_eq_some_iff.1 hj).2, (List.getElem?_eq_some_iff.1 hi).2] at this
   exact absurd this (KP hxy)
  ·have : i = j := by omega
   subst this
   rw [hi] at hj
   have : x = y := by simpa using hj
   subst this
   exact absurd hxy (Vu _)
theorem z1u (x : List Int) (s : Int) : uM x (x ++ [s]) < 0 := by
 unfold uM
 rw [if_pos (by simp)]
 omega
section
variable {a : Nat} {T : List z7} {W : List (List Int)} {D : List Int → Prop} (h : Zb a T W D) (hs : SW W) (hlen : W.length ≤ 60000) (ha : 1 ≤ a ∧ a ≤ 16)
include h hs hlen ha
omit hlen in
theorem z5r {i : Nat} (hi : i < T.length) {x : List Int} (hx : W[i]? = some x) {N : z7} (hN : T[i]? = some N) {seen : List Bool} (hsl : seen.length = T.length) (hseen : ∀ (j : Nat) (y : List Int), W[j]? = some y → (seen[j]? = some true ↔ ∃ p s, p < i ∧ ∃ z, W[p]? = some z ∧ y = z ++ [s])) :
  Ret (loop (fun s => xJ (zb.mk (a : Int) T) (i : Int) N s.1 s.2) (seen, 0)) fun t => match t with | .inl p => p.1.length = T.length ∧ ∀ (j : Nat) (y : List Int), W[j]? = some y → (p.1[j]? = some true ↔ ∃ q s, q < i + 1 ∧ ∃ z, W[q]? = some z ∧ y = z ++ [s]) | .inr _ => False := by
 have hl := h.len
 have hNl := h.nlen i N hN
 refine Vm (fun q => ∃ m : Nat, q.2 = (m : Int) ∧ m ≤ a ∧ q.1.length = T.length ∧ ∀ (j : Nat) (y : List Int), W[j]? = some y → (q.1[j]? = some true ↔ (∃ p s, p < i ∧ ∃ z, W[p]? = some z ∧ y = z ++ [s]) ∨ ∃ s : Nat, s < m ∧ y = x ++ [(s : Int)])) (fun q => a - q.2.toNat) ⟨0, rfl, Nat.zero_le _, hsl, fun j y hy => by rw [hseen j y hy]; simp⟩ (by show a - _ < _; omega) ?_
 rintro ⟨sn, _⟩ ⟨m, rfl, g1, g2, g3⟩
 simp only at g2 g3
 show Ret (xJ (zb.mk (a : Int) T) (i : Int) N sn (m : Int)) _
 unfold xJ
 rw [Zv]
 refine ⟨fun hc => ?_, fun hc => ?_⟩
 ·have hm : m < a := by rw [hNl] at hc; simpa using hc
  have hm2 : w64 ((m : Int) + 1) = ((m + 1 : Nat) : Int) := by rw [xy (by omega) (by omega)]; omega
  rcases h.nxt i N x hN hx m hm with ⟨q1, q2⟩ | ⟨j, q1, q2⟩
  ·rw [zD q1, Option.bind_some]
   have hb : ((-1 : Int) == -1) = true := rfl
   rw [hb, cond_true]
   unfold wj
   rw [hm2, xa]
   refine ⟨⟨m + 1, rfl, hm, g2, fun j y hy => ?_⟩, by simp only; omega⟩
   rw [g3 j y hy]
   constructor
   ·rintro (q | ⟨s, s1, s2⟩)
    ·exact .inl q
    ·exact .inr ⟨s, by omega, s2⟩
   ·rintro (q | ⟨s, s1, s2⟩)
    ·exact .inl q
    ·rcases Nat.lt_or_ge s m with q | q
     ·exact .inr ⟨s, q, s2⟩
     ·have : s = m := by omega
      subst this
      exact absurd (s2 ▸ List.mem_of_getElem? hy) q2
  ·have hij : i < j := z7h hs hx q2 (z1u _ _)
   have hj : j < T.length := by rw [hl]; exact (List.getElem?_eq_some_iff.1 q2).1
   have hns : sn[j]? = some false := by
    have hlt : j < sn.length := by omega
    rw [List.getElem?_eq_getElem hlt]
    cases hv : sn[j] with
    | false => rfl
    | true =>
     exfalso
     have := (g3 j _ q2).1 (by rw [List.getElem?_eq_getElem hlt, hv])
     rcases this with ⟨p, s, p1, z, p2, p3⟩ | ⟨s, s1, s2⟩
     ·obtain ⟨e1, _⟩ := List.append_inj' p3 rfl
      subst e1
      have := h.mem_at hx p2
      omega
     ·obtain ⟨_, e2⟩ := List.append_inj' s2 rfl
      simp at e2
      omega
   rw [zD q1, Option.bind_some]
   have hb : ((j : Int) == -1) = false := by simp
   have d1 : decide ((j : Int) ≤ (i : Int)) = false := by rw [decide_eq_false_iff_not]; omega
   have d2 : decide ((j : Int) ≥ ((T.length : Nat) : Int)) = false := by rw [decide_eq_false_iff_not]; omega
   rw [hb, cond_false, d1, cond_false]
   show Ret (bif decide ((j : Int) ≥ ((T.length : Nat) : Int)) then _ else _) _
   rw [d2, cond_false, zD hns, Option.bind_some, cond_false, Option.bind_some]
   unfold wj
   rw [hm2, xa]
   refine ⟨⟨m + 1, rfl, hm, by simp [g2], fun j' y hy => ?_⟩, by simp only; omega⟩
   simp only [Int.toNat_natCast]
   by_cases hjj : j' = j
   ·subst hjj
    rw [List.getElem?_set_self (by omega)]
    rw [q2] at hy
    have : x ++ [(m : Int)] = y := by simpa using hy
    subst this
    simp only [true_iff]
    exact .inr ⟨m, by omega, rfl⟩
   ·rw [List.getElem?_set_ne (fun e => hjj e.symm), g3 j' y hy]
    constructor
    ·rintro (q | ⟨s, s1, s2⟩)
     ·exact .inl q
     ·exact .inr ⟨s, by omega, s2⟩
    ·rintro (q | ⟨s, s1, s2⟩)
     ·exact .inl q
     ·rcases Nat.lt_or_ge s m with q | q
      ·exact .inr ⟨s, q, s2⟩
      ·have : s = m := by omega
       subst this
       subst s2
       exact absurd (h.mem_at hy q2) hjj
 ·have hm : m = a := by
   have : ¬ m < a := by rw [hNl] at hc; simpa using hc
   omega
  rw [xa]
  refine ⟨g2, fun j y hy => ?_⟩
  rw [g3 j y hy]
  constructor
  ·rintro (⟨p, s, p1, z, p2, p3⟩ | ⟨s, s1, s2⟩)
   ·exact ⟨p, s, by omega, z, p2, p3⟩
   ·exact ⟨i, (s : Int), by omega, x, hx, s2⟩
  ·rintro ⟨p, s, p1, z, p2, p3⟩
   rcases Nat.lt_or_ge p i with q | q
   ·exact .inl ⟨p, s, q, z, p2, p3⟩
   ·have : p = i := by omega
    subst this
    rw [hx] at p2
    have : x = z := by simpa using p2
    subst this
    have hmem : x ++ [s] ∈ W := p3 ▸ List.mem_of_getElem? hy
    obtain ⟨_, c2, c3⟩ := h.clo _ _ hmem
    exact .inr ⟨s.toNat, by omega, by rw [Int.toNat_of_nonneg c2]; exact p3⟩
theorem z29 : uE (zb.mk (a : Int) T) = some true := by
 have hl := h.len
 unfold uE
 dsimp only
 rw [gdT (by omega)]
 apply Ret.eq
 rw [Vn]
 refine Ret.mono (Vm (fun q : List Bool × Int => ∃ i : Nat, q.2 = (i : Int) ∧ i ≤ T.length ∧ q.1.length = T.length ∧ ∀ (j : Nat) (y : List Int), W[j]? = some y → (q.1[j]? = some true ↔ ∃ p s, p < i ∧ ∃ z, W[p]? = some z ∧ y = z ++ [s])) (fun q => T.length - q.2.toNat) (R := fun t : Unit ⊕ Bool => t = .inl ()) ?_ ?_ ?_) ?_
 ·refine ⟨0, rfl, Nat.zero_le _, by simp, fun j y hy => ?_⟩
  constructor
  ·intro q
   have := List.mem_of_getElem? q
   simp at this
  ·rintro ⟨p, s, p1, _⟩; omega
 ·show T.length - _ < _
  omega
 ·rintro ⟨sn, _⟩ ⟨i, rfl, g1, g2, g3⟩
  simp only at g2 g3
  show Ret (wi (zb.mk (a : Int) T) sn (i : Int)) _
  unfold wi
  dsimp only
  rw [Zv]
  refine ⟨fun hc => ?_, fun hc => ?_⟩
  ·have hi : i < T.length := by simpa using hc
   have hN : T[i]? = some T[i] := List.getElem?_eq_getElem hi
   have hx : W[i]? = some W[i] := List.getElem?_eq_getElem (by omega)
   have hNl := h.nlen i _ hN
   have J4 : Ret (xK (zb.mk (a : Int) T) sn (i : Int) T[i]) (LRP (fun s' => (∃ i : Nat, s'.2 = (i : Int) ∧ i ≤ T.length ∧ s'.1.length = T.length ∧ ∀ (j : Nat) (y : List Int), W[j]? = some y → (s'.1[j]? = some true ↔ ∃ p s, p < i ∧ ∃ z, W[p]? = some z ∧ y = z ++ [s])) ∧ T.length - s'.2.toNat < T.length - ((i : Int)).toNat) fun t : Unit ⊕ Bool => t = .inl ()) := by
    unfold xK
    rw [Vn]
    refine (z5r h hs ha hi hx hN g2 g3).mono ?_
    rintro (p | p) hp
    ·show Ret (u6 (i : Int) p.1 p.2.1 p.2.2.1 p.2.2.2) _
     unfold u6
     rw [xy (by omega) (by omega), xa]
     exact ⟨⟨i + 1, rfl, hi, hp.1, hp.2⟩, by simp only; omega⟩
    ·exact hp.elim
   have hnb : (((T[i].Next.length : Nat) : Int) != (a : Int)) = false := by rw [hNl]; simp
   rw [zD hN, Option.bind_some, Zv]
   refine ⟨fun hp => ?_, fun hp => ?_⟩
   ·have hi0 : 0 < i := by simpa using hp
    have hst : sn[i]? = some true := by
     refine (g3 i _ hx).2 ?_
     rcases List.eq_nil_or_concat W[i] with e | ⟨w, s, e⟩
     ·have h0 := h.root (by omega)
      rw [e] at hx
      have := h.mem_at h0 hx
      omega
     ·rw [List.concat_eq_append] at e
      have hmem : w ++ [s] ∈ W := e ▸ List.getElem_mem (show i < W.length by omega)
      have hw := (h.clo w s hmem).1
      have hlt := z7h hs (Yc hw) hx (by rw [e]; exact z1u _ _)
      exact ⟨_, s, hlt, w, Yc hw, e⟩
    rw [zD hst, Option.bind_some, Bool.not_true, cond_false, hnb, cond_false]
    exact J4
   ·rw [hnb, cond_false]
    exact J4
  ·rw [xa]
   exact rfl
 ·rintro _ rfl
  exact xa.2 rfl
end
theorem Qd {a : Nat} {T : List z7} {W l : List (List Int)} (h : Zb a T W (fun y => y ∈ l)) (hlen : W.length ≤ 60000) (ha : a ≤ 100) (hwl : ∀ w ∈ W, w.length ≤ 256) (hpre : ∀ v ∈ W, ∀ j, v.take j ∈ W) (hleaf : ∀ w ∈ W, (!W.any (kV w)) = true → w ∈ l) : ∀ (n k : Nat) (out : List (List Int)), W.length - k = n → k ≤ W.length → out.length ≤ k →
  k8 (yOf (fun (s : Int × List (List Int) × Int) x => yc (zb.mk (a : Int) T) s.1 s.2.1 s.2.2 x)) ((W.drop k).map (pl W)) (.next (0, out, (k : Int))) = some (.next (0, out ++ (W.drop k).filter (fun w => decide (w ∈ l)), (W.length : Int)), true)
 | 0, k, out, hn, hk, ho => by
  have : W.drop k = [] := List.drop_eq_nil_of_le (by omega)
  rw [this]
  have hk2 : k = W.length := by omega
  simp [k8, hk2]
 | n + 1, k, out, hn, hk, ho => by
  have hlt : k < W.length := by omega
  have hx : W[k]? = some W[k] := List.getElem?_eq_getElem hlt
  have hd : W.drop k = W[k] :: W.drop (k + 1) := List.drop_eq_getElem_cons hlt
  have hmem : W[k] ∈ W := List.getElem_mem hlt
  obtain ⟨N, n1, n2, n3⟩ := z2F h hmem
  have hid : W.idxOf W[k] = k := Um h.nod hx
  have hat : (pl W W[k]).at_ = (k : Int) := by unfold pl; rw [hid]
  have hen := h.en _ N _ n1 (Yc hmem)
  have hlf := z0x h hmem hpre n1
  have hw := hwl _ hmem
  have hwe : (pl W W[k]).w_ = W[k] := rfl
  have e : yc (zb.mk (a : Int) T) 0 out (k : Int) (pl W W[k]) = some (.next (0, if W[k] ∈ l then out ++ [W[k]] else out, ((k + 1 : Nat) : Int))) := by
   have hk2 : w64 ((k : Int) + 1) = ((k + 1 : Nat) : Int) := by rw [xy (by omega) (by omega)]; omega
   have d1 : decide (((W[k].length : Nat) : Int) > 256) = false := by rw [decide_eq_false_iff_not]; omega
   have J3 : ∀ (b1 b2 b3 : Bool), xP 0 out (k : Int) (pl W W[k]) N b1 b2 b3 = some (.next (0, if W[k] ∈ l then out ++ [W[k]] else out, ((k + 1 : Nat) : Int))) := by
    intro b1 b2 b3
    unfold xP vC
    by_cases hm : W[k] ∈ l
    ·rw [hen.2 hm, cond_true, hwe, z1x _ (by omega), Option.bind_some, JB, Option.bind_some, gdT (by rw [List.length_singleton]; omega), hk2, if_pos hm]
    ·have hE : N.End = false := by
      cases hE : N.End with
      | false => rfl
      | true => exact absurd (hen.1 hE) hm
     rw [hE, cond_false, hk2, if_neg hm]
   unfold yc
   dsimp only
   rw [n2, Option.bind_some, hat, bne_self_eq_false, cond_false, hwe, d1, cond_false, Uf (by omega), Option.bind_some, hlf]
   by_cases hp : (!W.any (kV W[k])) = true
   ·have hm := hleaf _ hmem hp
    rw [hp, cond_true, hen.2 hm, Bool.not_true, cond_false]
    exact J3 _ _ _
   ·have hb : (!W.any (kV W[k])) = false := by simpa using hp
    rw [hb, cond_false]
    exact J3 _ _ _
  rw [hd]
  simp only [List.map_cons, k8, yOf, e, Option.bind_some, if_true]
  rw [Qd h hlen ha hwl hpre hleaf n (k + 1) _ (by omega) hlt (by split <;> (try rw [List.length_append, List.length_singleton]) <;> omega)]
  by_cases hm : W[k] ∈ l
  ·rw [if_pos hm, List.filter_cons, if_pos (decide_eq_true hm), List.append_assoc]
   rfl
  ·rw [if_neg hm, List.filter_cons, if_neg (by rw [decide_eq_false hm]; exact Bool.false_ne_true)]
section
variable {a : Nat} {l : List (List Int)} (hc : chE (a : Int) l = 0) (hw : (srt (yb l)).length ≤ 520 ∧ ∀ w ∈ srt (yb l), w.length ≤ 200)
include hc hw
theorem KQ : Zb a (wt a l) (srt (yb l)) (fun y => y ∈ l) ∧ (srt (yb l)).length ≤ 520 ∧ (∀ w ∈ srt (yb l), w.length ≤ 200) ∧ (∀ v ∈ srt (yb l), ∀ j, v.take j ∈ srt (yb l)) ∧ (1 ≤ a ∧ a ≤ 16) := by
 obtain ⟨q1, q2, q3, q4, q5, q6⟩ := z1z hc
 obtain ⟨p2, p3⟩ := hw
 exact ⟨z1W q6, p2, p3, z1O (fun x => by rw [wb, vu]), by omega⟩
omit hw in
theorem z6t : ∀ w ∈ srt (yb l), (!(srt (yb l)).any (kV w)) = true → w ∈ l := by
 intro w hm hlf
 have := z56 (l := l) (wd := srt (yb l)) (Vv.1 hc).2.1 (fun x => by rw [wb, vu])
 have h2 : w ∈ z5k l := by
  rw [← this, List.mem_filter]
  exact ⟨wb.2 hm, hlf⟩
 exact (z16.1 h2).1
theorem K6 : xF (zb.mk (a : Int) (wt a l)) = some (l, 0) := by
 obtain ⟨t, p2, p3, p4, p5⟩ := KQ hc hw
 have hs := Z0 (yb l)
 have hnl := t.len
 unfold xF
 dsimp only
 have d1 : decide ((a : Int) < 1) = false := by rw [decide_eq_false_iff_not]; omega
 have d2 : decide ((a : Int) > 16) = false := by rw [decide_eq_false_iff_not]; omega
 have d3 : decide ((((wt a l).length : Nat) : Int) > 65537) = false := by rw [decide_eq_false_iff_not]; omega
 have hf := Qd t (by omega) (by omega) (fun w hww => by have := p3 w hww; omega) p4 (z6t hc) (srt (yb l)).length 0 [] (by omega) (Nat.zero_le _) (by simp)
 have z0 : ((0 : Nat) : Int) = 0 := rfl
 rw [List.drop_zero, List.nil_append, z0] at hf
 have hfl : (srt (yb l)).filter (fun w => decide (w ∈ l)) = l := by
  refine SW.unique (hs.filter _) (Vv.1 hc).2.1 fun x => ?_
  rw [List.mem_filter, decide_eq_true_eq, wb, vu]
  exact ⟨fun q => q.2, fun q => ⟨⟨x, q, x.length, Nat.le_refl _, by simp⟩, q⟩⟩
 rw [hfl] at hf
 rw [d1, cond_false, d2, cond_false, d3, cond_false, z29 t hs (by omega) p5, Option.bind_some, Bool.not_true, cond_false]
 unfold uD
 rw [Option.bind_some, z23 t (by omega) _ _ (by omega) (fun w hww => by have := p3 w hww; omega), K9 hs, hf, Option.bind_some, Option.bind_some]
 show wD (zb.mk (a : Int) (wt a l)) 0 l = _
 unfold wD
 dsimp only
 rw [K7, hc, Option.bind_some, bne_self_eq_false, cond_false, z1y, Option.bind_some]
theorem z2c : vT (zb.mk (a : Int) (wt a l)) = some (((z5k l).length : Int), 0) := by
 obtain ⟨t, p2, p3, p4, p5⟩ := KQ hc hw
 have hs := Z0 (yb l)
 have hnl := t.len
 unfold vT
 rw [K6 hc hw, Option.bind_some, bne_self_eq_false, cond_false]
 have hred := z56 (l := l) (wd := srt (yb l)) (Vv.1 hc).2.1 (fun x => by rw [wb, vu])
 rw [K9 hs] at hred
 have h := uW (step := fun s => xQ (zb.mk (a : Int) (wt a l)) s.1 s.2) (fun i => ((((((srt (yb l)).take i).filter fun x => !(srt (yb l)).any (kV x)).length : Nat) : Int), (i : Int))) (srt (yb l)).length (t := (((z5k l).length : Nat) : Int)) (by omega) (by
  intro i hi
  show xQ (zb.mk (a : Int) (wt a l)) _ (i : Int) = _
  unfold xQ
  dsimp only
  have hiT : i < (wt a l).length := by omega
  have hN : (wt a l)[i]? = some (wt a l)[i] := List.getElem?_eq_getElem hiT
  have hx : (srt (yb l))[i]? = some (srt (yb l))[i] := List.getElem?_eq_getElem hi
  have hmem : (srt (yb l))[i] ∈ srt (yb l) := List.getElem_mem hi
  have hq : decide ((i : Int) < (((wt a l).length : Nat) : Int)) = true := by rw [decide_eq_true_eq]; omega
  have hi2 : w64 ((i : Int) + 1) = ((i + 1 : Nat) : Int) := by rw [xy (by omega) (by omega)]; omega
  have hid : (srt (yb l)).idxOf (srt (yb l))[i] = i := Um t.nod hx
  have hlf := z0x t hmem p4 (by rw [hid]; exact hN)
  have hNl := t.nlen i _ hN
  have hfl := List.length_filter_le (fun x => !(srt (yb l)).any (kV x)) ((srt (yb l)).take i)
  rw [List.length_take] at hfl
  have htk : ((srt (yb l)).take (i + 1)).filter (fun x => !(srt (yb l)).any (kV x)) = ((srt (yb l)).take i).filter (fun x => !(srt (yb l)).any (kV x)) ++ (if (!(srt (yb l)).any (kV (srt (yb l))[i])) = true then [(srt (yb l))[i]] else []) := by
   rw [List.take_add_one, hx, List.filter_append]
   congr 1
   rw [Option.toList_some, List.filter_cons, List.filter_nil]
  rw [hq, cond_true, zD hN, Option.bind_some, Uf (by omega), Option.bind_some, hlf, htk]
  unfold uh
  cases (!(srt (yb l)).any (kV (srt (yb l))[i])) with
  | true =>
   rw [cond_true, if_pos rfl, hi2, List.length_append, List.length_singleton, xy (by omega) (by omega)]
   rfl
  | false =>
   rw [cond_false, if_neg Bool.false_ne_true, hi2, List.append_nil]) (by
  show xQ (zb.mk (a : Int) (wt a l)) _ (((srt (yb l)).length : Nat) : Int) = _
  unfold xQ
  dsimp only
  have hq : decide ((((srt (yb l)).length : Nat) : Int) < (((wt a l).length : Nat) : Int)) = false := by rw [decide_eq_false_iff_not]; omega
  rw [hq, cond_false, List.take_length, hred])
 have h0 : ((((((srt (yb l)).take 0).filter fun x => !(srt (yb l)).any (kV x)).length : Nat) : Int), ((0 : Nat) : Int)) = ((0 : Int), (0 : Int)) := by simp
 rw [h0] at h
 rw [bdT h]
 rfl
end
end Go.Own

namespace Go.Own
def prP (i m p s : Nat) : Prop := p < i ∨ (p = i ∧ s < m)
structure ScI (n : Nat) (T : List z7) (wd : List (List Int)) (sn : List Bool) (i m : Nat) : Prop where
 wl : wd.length = n
 sl : sn.length = n
 short : ∀ (k : Nat) (w : List Int), wd[k]? = some w → w.length ≤ k
 fwd : ∀ (p s : Nat) (N : z7) (c : Int), prP i m p s → T[p]? = some N → N.Next[s]? = some c → c = -1 ∨ ∃ k : Nat, c = (k : Int) ∧ p < k ∧ sn[k]? = some true ∧ ∃ x, wd[p]? = some x ∧ wd[k]? = some (x ++ [(s : Int)])
 back : ∀ k : Nat, 0 < k → sn[k]? = some true → ∃ p s N x, prP i m p s ∧ p < k ∧ T[p]? = some N ∧ N.Next[s]? = some (k : Int) ∧ wd[p]? = some x ∧ wd[k]? = some (x ++ [(s : Int)])
section
variable {n i m : Nat} {T : List z7} {wd : List (List Int)} {sn : List Bool}
theorem ScI.put (h : ScI n T wd sn i m) {N : z7} {x : List Int} {k : Nat} (hN : T[i]? = some N) (hx : wd[i]? = some x) (hc : N.Next[m]? = some (k : Int)) (hik : i < k) (hk : k < n) (hs : sn[k]? = some false) : ScI n T (wd.set k (x ++ [(m : Int)])) (sn.set k true) i (m + 1) := by
 have e1 : ∀ j, j ≠ k → (wd.set k (x ++ [(m : Int)]))[j]? = wd[j]? := fun j hj => List.getElem?_set_ne (fun e => hj e.symm)
 have e2 : ∀ j, j ≠ k → (sn.set k true)[j]? = sn[j]? := fun j hj => List.getElem?_set_ne (fun e => hj e.symm)
 have w1 : (wd.set k (x ++ [(m : Int)]))[k]? = some (x ++ [(m : Int)]) := List.getElem?_set_self (by rw [h.wl]; exact hk)
 have s1 : (sn.set k true)[k]? = some true := List.getElem?_set_self (by rw [h.sl]; exact hk)
 refine ⟨by rw [List.length_set]; exact h.wl, by rw [List.length_set]; exact h.sl, ?_, ?_, ?_⟩
 ·intro j w hw
  by_cases hj : j = k
  ·subst hj
   rw [w1] at hw
   have : x ++ [(m : Int)] = w := Option.some.inj hw
   subst this
   have := h.short i x hx
   rw [List.length_append, List.length_singleton]; omega
  ·rw [e1 j hj] at hw; exact h.short j w hw
 ·intro p s M c hp hM hcs
  have hpk : p ≠ k := by rcases hp with q | ⟨q, _⟩ <;> omega
  by_cases hq : p = i ∧ s = m
  ·obtain ⟨rfl, rfl⟩ := hq
   rw [hN] at hM
   cases hM
   rw [hc] at hcs
   cases hcs
   exact .inr ⟨k, rfl, hik, s1, x, by rw [e1 _ hpk]; exact hx, w1⟩
  ·have hp' : prP i m p s := by unfold prP at hp ⊢; omega
   rcases h.fwd p s M c hp' hM hcs with q | ⟨k', q1, q2, q3, y, q4, q5⟩
   ·exact .inl q
   ·have hkk : k' ≠ k := by rintro rfl; rw [hs] at q3; cases q3
    exact .inr ⟨k', q1, q2, by rw [e2 _ hkk]; exact q3, y, by rw [e1 _ hpk]; exact q4, by rw [e1 _ hkk]; exact q5⟩
 ·intro j j0 hj
  by_cases hjk : j = k
  ·subst hjk
   exact ⟨i, m, N, x, .inr ⟨rfl, by omega⟩, hik, hN, hc, by rw [e1 _ (by omega)]; exact hx, w1⟩
  ·rw [e2 j hjk] at hj
   obtain ⟨p, s, M, y, q1, q2, q3, q4, q5, q6⟩ := h.back j j0 hj
   have hpk : p ≠ k := by rcases q1 with q | ⟨q, _⟩ <;> omega
   exact ⟨p, s, M, y, by unfold prP at q1 ⊢; omega, q2, q3, q4, by rw [e1 _ hpk]; exact q5, by rw [e1 _ hjk]; exact q6⟩
theorem ScI.skip (h : ScI n T wd sn i m) {N : z7} (hN : T[i]? = some N) (hc : N.Next[m]? = some (-1)) : ScI n T wd sn i (m + 1) := by
 refine ⟨h.wl, h.sl, h.short, ?_, ?_⟩
 ·intro p s M c hp hM hcs
  by_cases hq : p = i ∧ s = m
  ·obtain ⟨rfl, rfl⟩ := hq
   rw [hN] at hM
   cases hM
   rw [hc] at hcs
   exact .inl (Option.some.inj hcs).symm
  ·exact h.fwd p s M c (by unfold prP at hp ⊢; omega) hM hcs
 ·intro j j0 hj
  obtain ⟨p, s, M, y, q1, q⟩ := h.back j j0 hj
  exact ⟨p, s, M, y, by unfold prP at q1 ⊢; omega, q⟩
theorem ScI.row (h : ScI n T wd sn i m) {N : z7} (hN : T[i]? = some N) (hm : N.Next.length ≤ m) : ScI n T wd sn (i + 1) 0 := by
 refine ⟨h.wl, h.sl, h.short, ?_, ?_⟩
 ·intro p s M c hp hM hcs
  refine h.fwd p s M c ?_ hM hcs
  by_cases hq : p = i
  ·subst hq
   rw [hN] at hM
   cases hM
   have := (List.getElem?_eq_some_iff.1 hcs).1
   exact .inr ⟨rfl, by omega⟩
  ·unfold prP at hp ⊢; omega
 ·intro j j0 hj
  obtain ⟨p, s, M, y, q1, q⟩ := h.back j j0 hj
  exact ⟨p, s, M, y, by unfold prP at q1 ⊢; omega, q⟩
end
def z1T (T : List z7) (wd : List (List Int)) : List (List Int) := ((T.zip wd).filter fun p : z7 × List Int => p.1.End).map fun p : z7 × List Int => p.2
theorem z4a {T : List z7} {wd : List (List Int)} {y : List Int} : y ∈ z1T T wd ↔ ∃ (i : Nat) (N : z7), T[i]? = some N ∧ wd[i]? = some y ∧ N.End = true := by
 unfold z1T
 rw [List.mem_map]
 constructor
 ·rintro ⟨⟨N, z⟩, h, rfl⟩
  rw [List.mem_filter] at h
  obtain ⟨i, hi⟩ := List.mem_iff_getElem?.1 h.1
  rw [List.getElem?_zip_eq_some] at hi
  exact ⟨i, N, hi.1, hi.2, h.2⟩
 ·rintro ⟨i, N, h1, h2, h3⟩
  refine ⟨(N, y), ?_, rfl⟩
  rw [List.mem_filter]
  exact ⟨List.mem_iff_getElem?.2 ⟨i, List.getElem?_zip_eq_some.2 ⟨h1, h2⟩⟩, h3⟩
theorem KN {T : List z7} {wd : List (List Int)} {i : Nat} {N : z7} {x : List Int} (h1 : T[i]? = some N) (h2 : wd[i]? = some x) : z1T (T.take (i + 1)) (wd.take (i + 1)) = z1T (T.take i) (wd.take i) ++ (if N.End = true then [x] else []) := by
 have l1 := (List.getElem?_eq_some_iff.1 h1).1
 have l2 := (List.getElem?_eq_some_iff.1 h2).1
 unfold z1T
 rw [List.take_add_one, h1, List.take_add_one, h2, Option.toList_some, Option.toList_some, List.zip_append (by rw [List.length_take, List.length_take]; omega), List.filter_append, List.map_append]
 congr 1
 cases hE : N.End <;> simp [hE]
theorem z4w {T : List z7} {wd : List (List Int)} (h : wd.length ≤ T.length) : List.Sublist (z1T T wd) wd := by
 have : List.Sublist (z1T T wd) ((T.zip wd).map fun p : z7 × List Int => p.2) := List.filter_sublist.map _
 rwa [show ((T.zip wd).map fun p : z7 × List Int => p.2) = wd from List.map_snd_zip h] at this
section
variable {n a : Nat} {T : List z7} {wd : List (List Int)} {sn : List Bool} (h : ScI n T wd sn n 0) (hs : ∀ k, 0 < k → k < n → sn[k]? = some true)
include h hs
theorem ScI.inj : ∀ (L j k : Nat) (x : List Int), x.length = L → wd[j]? = some x → wd[k]? = some x → j = k := by
 have par : ∀ (k : Nat) (x : List Int), 0 < k → wd[k]? = some x → ∃ (p s : Nat) (N : z7) (y : List Int), T[p]? = some N ∧ N.Next[s]? = some (k : Int) ∧ wd[p]? = some y ∧ x = y ++ [((s : Nat) : Int)] := by
  intro k x hk hx
  obtain ⟨p, s, N, y, q1, q2, q3, q4, q5, q6⟩ := h.back k hk (hs k hk (by rw [← h.wl]; exact (List.getElem?_eq_some_iff.1 hx).1))
  rw [hx] at q6
  exact ⟨p, s, N, y, q3, q4, q5, Option.some.inj q6⟩
 intro L
 induction L with
 | zero =>
  intro j k x hL hj hk
  have z : ∀ k, wd[k]? = some x → k = 0 := by
   intro k hk
   rcases Nat.eq_zero_or_pos k with q | q
   ·exact q
   ·obtain ⟨p, s, N, y, _, _, _, rfl⟩ := par k x q hk
    rw [List.length_append, List.length_singleton] at hL
    omega
  rw [z j hj, z k hk]
 | succ L ih =>
  intro j k x hL hj hk
  have z : ∀ k, wd[k]? = some x → 0 < k := by
   intro k hk
   have := h.short k x hk
   omega
  obtain ⟨p, s, N, y, p1, p2, p3, rfl⟩ := par j x (z j hj) hj
  obtain ⟨q, t, M, y', q1, q2, q3, e⟩ := par k _ (z k hk) hk
  obtain ⟨e1, e2⟩ := List.append_inj' e rfl
  subst e1
  rw [List.length_append, List.length_singleton] at hL
  have : p = q := ih p q y (by omega) p3 q3
  subst this
  rw [p1] at q1
  cases q1
  simp only [List.cons.injEq, and_true] at e2
  have : s = t := by omega
  subst this
  rw [p2] at q2
  have := Option.some.inj q2
  omega
theorem ScI.tree (hT : T.length = n) (hl : ∀ (i : Nat) (N : z7), T[i]? = some N → N.Next.length = a) : Zb a T wd (fun y => y ∈ z1T T wd) := by
 have inj : ∀ (j k : Nat) (x : List Int), wd[j]? = some x → wd[k]? = some x → j = k := fun j k x => ScI.inj h hs x.length j k x rfl
 have nd : wd.Nodup := by
  refine List.pairwise_iff_getElem.2 fun j k hj hk hjk e => ?_
  have := inj j k wd[k] (by rw [← e]; exact List.getElem?_eq_getElem hj) (List.getElem?_eq_getElem hk)
  omega
 have par : ∀ (w : List Int) (s : Int) (k : Nat), wd[k]? = some (w ++ [s]) → ∃ (p t : Nat) (N : z7), T[p]? = some N ∧ N.Next[t]? = some (k : Int) ∧ wd[p]? = some w ∧ s = ((t : Nat) : Int) := by
  intro w s k hk
  have h0 := h.short k _ hk
  rw [List.length_append, List.length_singleton] at h0
  obtain ⟨p, t, N, y, q1, q2, q3, q4, q5, q6⟩ := h.back k (by omega) (hs k (by omega) (by rw [← h.wl]; exact (List.getElem?_eq_some_iff.1 hk).1))
  rw [hk] at q6
  obtain ⟨e1, e2⟩ := List.append_inj' (Option.some.inj q6) rfl
  subst e1
  simp only [List.cons.injEq, and_true] at e2
  exact ⟨p, t, N, q3, q4, q5, e2⟩
 refine ⟨by rw [hT, h.wl], nd, hl, ?_, ?_, ?_, ?_⟩
 ·intro i N x hN hx s hsa
  have hNl := hl i N hN
  have hc : N.Next[s]? = some N.Next[s] := List.getElem?_eq_getElem (by omega)
  rcases h.fwd i s N _ (.inl (by rw [← hT]; exact (List.getElem?_eq_some_iff.1 hN).1)) hN hc with q | ⟨k, q1, q2, q3, y, q4, q5⟩
  ·left
   refine ⟨by rw [hc, q], fun hm => ?_⟩
   obtain ⟨k, hk⟩ := List.mem_iff_getElem?.1 hm
   obtain ⟨p, t, M, r1, r2, r3, r4⟩ := par _ _ k hk
   have : p = i := inj p i x r3 hx
   subst this
   rw [hN] at r1
   cases r1
   have : s = t := by omega
   subst this
   rw [hc, q] at r2
   have := Option.some.inj r2
   omega
  ·right
   rw [hx] at q4
   cases q4
   exact ⟨k, by rw [hc, q1], q5⟩
 ·intro hp
  have hx : wd[0]? = some wd[0] := List.getElem?_eq_getElem hp
  have := h.short 0 _ hx
  rw [hx, List.eq_nil_of_length_eq_zero (by omega : wd[0].length = 0)]
 ·intro w s hm
  obtain ⟨k, hk⟩ := List.mem_iff_getElem?.1 hm
  obtain ⟨p, t, M, r1, r2, r3, r4⟩ := par _ _ k hk
  have := (List.getElem?_eq_some_iff.1 r2).1
  rw [hl p M r1] at this
  exact ⟨List.mem_of_getElem? r3, by omega, by omega⟩
 ·intro i N x hN hx
  rw [z4a]
  constructor
  ·intro hE
   exact ⟨i, N, hN, hx, hE⟩
  ·rintro ⟨j, M, q1, q2, q3⟩
   have : i = j := inj i j x hx q2
   subst this
   rw [hN] at q1
   cases q1
   exact q3
end
theorem Zb.pre {a : Nat} {T : List z7} {wd : List (List Int)} {D : List Int → Prop} (h : Zb a T wd D) : ∀ (n : Nat) (v : List Int), v ∈ wd → v.length ≤ n → ∀ j, v.take j ∈ wd
 | 0, v, hv, hn, j => by rw [List.eq_nil_of_length_eq_zero (Nat.le_zero.1 hn)] at hv ⊢; rw [List.take_nil]; exact hv
 | n + 1, v, hv, hn, j => by
  rcases Nat.lt_or_ge j v.length with q | q
  ·rcases List.eq_nil_or_concat v with rfl | ⟨w, s, rfl⟩
   ·simp at q
   ·rw [List.concat_eq_append] at hv hn q ⊢
    rw [List.length_append, List.length_singleton] at hn q
    rw [List.take_append_of_le_length (by omega)]
    exact Zb.pre h n w (h.clo w s hv).1 (by omega) j
  ·rw [List.take_of_length_le q]; exact hv
theorem z1c {wd : List (List Int)} {L : Nat} (hl : ∀ w ∈ wd, w.length ≤ L) : ∀ (m : Nat) (x : List Int), x ∈ wd → L + 1 - x.length ≤ m → ∃ w ∈ wd, (!wd.any (kV w)) = true ∧ x.length ≤ w.length ∧ w.take x.length = x
 | 0, x, hx, hm => by have := hl x hx; omega
 | m + 1, x, hx, hm => by
  by_cases hq : (!wd.any (kV x)) = true
  ·exact ⟨x, hx, hq, Nat.le_refl _, List.take_length⟩
  ·rw [Bool.not_eq_true', Bool.not_eq_false, List.any_eq_true] at hq
   obtain ⟨v, v1, v2⟩ := hq
   rw [Vr] at v2
   have := hl x hx
   obtain ⟨w, w1, w2, w3, w4⟩ := z1c hl m v v1 (by omega)
   refine ⟨w, w1, w2, by omega, ?_⟩
   have e : w.take x.length = (w.take v.length).take x.length := by rw [List.take_take, Nat.min_eq_left (by omega)]
   rw [e, w4, v2.2]
theorem Zb.nodes {a : Nat} {T : List z7} {wd l : List (List Int)} (h : Zb a T wd (fun y => y ∈ l)) : T = wd.map (Us a wd l) := by
 refine List.ext_getElem? fun i => ?_
 rw [List.getElem?_map]
 rcases Nat.lt_or_ge i T.length with q | q
 ·have hN : T[i]? = some T[i] := List.getElem?_eq_getElem q
  have hx : wd[i]? = some (wd[i]'(by rw [← h.len]; exact q)) := List.getElem?_eq_getElem _
  have hl := h.nlen i _ hN
  have nx := h.nxt i _ _ hN hx
  have en := h.en i _ _ hN hx
  rw [hN, hx, Option.map_some]
  generalize T[i] = N at hl nx en
  generalize wd[i]'_ = x at nx en
  congr 1
  obtain ⟨N1, N2⟩ := N
  unfold Us
  congr 1
  ·refine List.ext_getElem? fun s => ?_
   rw [List.getElem?_map]
   simp only at hl nx
   by_cases hs : s < a
   ·rw [List.getElem?_range hs, Option.map_some]
    unfold nxW
    rcases nx s hs with ⟨q1, q2⟩ | ⟨j, q1, q2⟩
    ·rw [if_neg q2, q1]
    ·rw [if_pos (List.mem_of_getElem? q2), q1, Um h.nod q2]
   ·rw [List.getElem?_eq_none (by omega), List.getElem?_eq_none (by simp; omega)]
    rfl
  ·simp only at en
   cases N2 with
   | true => exact (decide_eq_true (en.1 rfl)).symm
   | false => exact (decide_eq_false fun z => by have := en.2 z; cases this).symm
 ·rw [List.getElem?_eq_none q, List.getElem?_eq_none (by rw [← h.len]; exact q)]
  rfl
theorem z4D {a : Nat} {T : List z7} {wd l : List (List Int)} (h : Zb a T wd (fun y => y ∈ l)) (hsw : SW wd) (hl : ∀ w ∈ l, w ∈ wd) (hleaf : ∀ w ∈ wd, (!wd.any (kV w)) = true → w ∈ l) {L : Nat} (hlen : ∀ w ∈ wd, w.length ≤ L) : srt (yb l) = wd ∧ T = wt a l := by
 have e : srt (yb l) = wd := by
  refine SW.unique (Z0 _) hsw fun x => ?_
  rw [wb, vu]
  constructor
  ·rintro ⟨w, w1, j, w2, rfl⟩
   exact h.pre w.length w (hl w w1) (Nat.le_refl _) j
  ·intro hx
   obtain ⟨w, w1, w2, w3, w4⟩ := z1c hlen _ x hx (Nat.le_refl _)
   exact ⟨w, hleaf w w1 w2, x.length, w3, w4.symm⟩
 refine ⟨e, ?_⟩
 unfold wt
 rw [e]
 exact h.nodes
end Go.Own

namespace Go.Own
theorem JR {a : Nat} {T : List z7} {W l : List (List Int)} (h : Zb a T W (fun y => y ∈ l)) (hlen : W.length ≤ 60) (ha : a ≤ 100) (hwl : ∀ w ∈ W, w.length ≤ 60) (hpre : ∀ v ∈ W, ∀ j, v.take j ∈ W) : ∀ (ws : List (List Int)) (k : Nat) (out : List (List Int)), (∀ w ∈ ws, w ∈ W) → out.length ≤ k → k + ws.length ≤ 60 →
  Ret (k8 (yOf (fun (s : Int × List (List Int) × Int) x => yc (zb.mk (a : Int) T) s.1 s.2.1 s.2.2 x)) (ws.map (pl W)) (.next (0, out, (k : Int)))) fun r => (∃ l' at', r.1 = .done (4, l', at')) ∨ (r.1 = .next (0, out ++ ws.filter (fun w => decide (w ∈ l)), ((k + ws.length : Nat) : Int)) ∧ (∀ j w, ws[j]? = some w → W.idxOf w = k + j) ∧ ∀ w ∈ ws, (!W.any (kV w)) = true → w ∈ l)
 | [], k, out, hm, ho, hk => by
  rw [List.map_nil]
  refine xa.2 (.inr ⟨?_, fun j w q => by simp at q, fun w q => by simp at q⟩)
  simp
 | w :: ws, k, out, hm, ho, hk => by
  have hmem : w ∈ W := hm w (by simp)
  rw [List.length_cons] at hk
  obtain ⟨N, n1, n2, n3⟩ := z2F h hmem
  have hen := h.en _ N _ n1 (Yc hmem)
  have hlf := z0x h hmem hpre n1
  have hw := hwl _ hmem
  have hwe : (pl W w).w_ = w := rfl
  have hat : (pl W w).at_ = ((W.idxOf w : Nat) : Int) := rfl
  rw [List.map_cons]
  have fail : ∀ l' at', yc (zb.mk (a : Int) T) 0 out (k : Int) (pl W w) = some (.done (4, l', at')) → Ret (k8 (yOf (fun (s : Int × List (List Int) × Int) x => yc (zb.mk (a : Int) T) s.1 s.2.1 s.2.2 x)) (pl W w :: ws.map (pl W)) (.next (0, out, (k : Int)))) fun r => (∃ l' at', r.1 = .done (4, l', at')) ∨ (r.1 = .next (0, out ++ (w :: ws).filter (fun w => decide (w ∈ l)), ((k + (w :: ws).length : Nat) : Int)) ∧ (∀ j v, (w :: ws)[j]? = some v → W.idxOf v = k + j) ∧ ∀ v ∈ w :: ws, (!W.any (kV v)) = true → v ∈ l) := by
   intro l' at' e
   simp only [k8, yOf, e, Option.bind_some]
   rw [if_neg Bool.false_ne_true]
   exact xa.2 (.inl ⟨l', at', rfl⟩)
  by_cases hid : W.idxOf w = k
  ·have hk2 : w64 ((k : Int) + 1) = ((k + 1 : Nat) : Int) := by rw [xy (by omega) (by omega)]; omega
   have d1 : decide (((w.length : Nat) : Int) > 256) = false := by rw [decide_eq_false_iff_not]; omega
   have J3 : ∀ (b1 b2 b3 : Bool), xP 0 out (k : Int) (pl W w) N b1 b2 b3 = some (.next (0, if w ∈ l then out ++ [w] else out, ((k + 1 : Nat) : Int))) := by
    intro b1 b2 b3
    unfold xP vC
    by_cases hm : w ∈ l
    ·rw [hen.2 hm, cond_true, hwe, z1x _ (by omega), Option.bind_some, JB, Option.bind_some, gdT (by rw [List.length_singleton]; omega), hk2, if_pos hm]
    ·have hE : N.End = false := by
      cases hE : N.End with
      | false => rfl
      | true => exact absurd (hen.1 hE) hm
     rw [hE, cond_false, hk2, if_neg hm]
   have go : ((!W.any (kV w)) = true → w ∈ l) → yc (zb.mk (a : Int) T) 0 out (k : Int) (pl W w) = some (.next (0, if w ∈ l then out ++ [w] else out, ((k + 1 : Nat) : Int))) → Ret (k8 (yOf (fun (s : Int × List (List Int) × Int) x => yc (zb.mk (a : Int) T) s.1 s.2.1 s.2.2 x)) (pl W w :: ws.map (pl W)) (.next (0, out, (k : Int)))) fun r => (∃ l' at', r.1 = .done (4, l', at')) ∨ (r.1 = .next (0, out ++ (w :: ws).filter (fun w => decide (w ∈ l)), ((k + (w :: ws).length : Nat) : Int)) ∧ (∀ j v, (w :: ws)[j]? = some v → W.idxOf v = k + j) ∧ ∀ v ∈ w :: ws, (!W.any (kV v)) = true → v ∈ l) := by
    intro hq e
    simp only [k8, yOf, e, Option.bind_some, if_true]
    refine (JR h hlen ha hwl hpre ws (k + 1) _ (fun v hv => hm v (by simp [hv])) (by split <;> (try rw [List.length_append, List.length_singleton]) <;> omega) (by omega)).mono ?_
    rintro r (q | ⟨q1, q2, q3⟩)
    ·exact .inl q
    ·refine .inr ⟨?_, ?_, ?_⟩
     ·rw [q1, List.length_cons, List.filter_cons, show k + 1 + ws.length = k + (ws.length + 1) by omega]
      by_cases hm : w ∈ l
      ·rw [if_pos hm, if_pos (decide_eq_true hm), List.append_assoc]
       rfl
      ·rw [if_neg hm, if_neg (by rw [decide_eq_false hm]; exact Bool.false_ne_true)]
     ·intro j v hv
      cases j with
      | zero =>
       simp only [List.getElem?_cons_zero, Option.some.injEq] at hv
       subst hv
       exact hid
      | succ j =>
       rw [q2 j v (by simpa using hv)]
       omega
     ·intro v hv
      rcases List.mem_cons.1 hv with rfl | hv
      ·exact hq
      ·exact q3 v hv
   by_cases hp : (!W.any (kV w)) = true
   ·by_cases hm : w ∈ l
    ·refine go (fun _ => hm) ?_
     unfold yc
     dsimp only
     rw [n2, Option.bind_some, hat, hid, bne_self_eq_false, cond_false, hwe, d1, cond_false, Uf (by omega), Option.bind_some, hlf, hp, cond_true, hen.2 hm, Bool.not_true, cond_false]
     exact J3 _ _ _
    ·have hE : N.End = false := by
      cases hE : N.End with
      | false => rfl
      | true => exact absurd (hen.1 hE) hm
     refine fail out (k : Int) ?_
     unfold yc
     dsimp only
     rw [n2, Option.bind_some, hat, hid, bne_self_eq_false, cond_false, hwe, d1, cond_false, Uf (by omega), Option.bind_some, hlf, hp, cond_true, hE, Bool.not_false, cond_true]
   ·have hb : (!W.any (kV w)) = false := by simpa using hp
    refine go (fun q => absurd q hp) ?_
    unfold yc
    dsimp only
    rw [n2, Option.bind_some, hat, hid, bne_self_eq_false, cond_false, hwe, d1, cond_false, Uf (by omega), Option.bind_some, hlf, hb, cond_false]
    exact J3 _ _ _
  ·refine fail out (k : Int) ?_
   have hb : (((W.idxOf w : Nat) : Int) != (k : Int)) = true := by rw [bne_iff_ne]; omega
   unfold yc
   dsimp only
   rw [n2, Option.bind_some, hat, hb, cond_true]
theorem z1J {a : Nat} {T : List z7} {W l : List (List Int)} (h : Zb a T W (fun y => y ∈ l)) (hT : uE (zb.mk (a : Int) T) = some true) (hlen : W.length ≤ 60) (ha : 1 ≤ a ∧ a ≤ 16) (hwl : ∀ w ∈ W, w.length ≤ 60) (hsub : List.Sublist l W) :
  Ret (xF (zb.mk (a : Int) T)) fun r => r = ([], 4) ∨ (chE (a : Int) l = 0 ∧ srt (yb l) = W ∧ T = wt a l) := by
 have hpre : ∀ v ∈ W, ∀ j, v.take j ∈ W := fun v hv j => h.pre v.length v hv (Nat.le_refl _) j
 have hnl := h.len
 have hsl := Jg W
 have d1 : decide ((a : Int) < 1) = false := by rw [decide_eq_false_iff_not]; omega
 have d2 : decide ((a : Int) > 16) = false := by rw [decide_eq_false_iff_not]; omega
 have d3 : decide (((T.length : Nat) : Int) > 65537) = false := by rw [decide_eq_false_iff_not]; omega
 have hf := JR h hlen (by omega) hwl hpre (srt W) 0 [] (fun w hw => wb.1 hw) (Nat.zero_le _) (by omega)
 obtain ⟨r, hr, hq⟩ := hf
 unfold xF
 dsimp only
 rw [d1, cond_false, d2, cond_false, d3, cond_false, hT, Option.bind_some, Bool.not_true, cond_false]
 unfold uD
 have z0 : ((0 : Nat) : Int) = 0 := rfl
 rw [z0] at hr
 rw [Option.bind_some, z23 h (by omega) _ _ (by omega) (fun w hw => by have := hwl w hw; omega), hr, Option.bind_some, Option.bind_some]
 rcases hq with ⟨l', at', q⟩ | ⟨q1, q2, q3⟩
 ·rw [q]
  exact xa.2 (.inl rfl)
 ·rw [q1]
  have hlW : (srt W).length = W.length := by
   refine Nat.le_antisymm hsl (Nat.le_of_not_lt fun q => ?_)
   have hx : W[(srt W).length]? = some W[(srt W).length] := List.getElem?_eq_getElem q
   obtain ⟨j, hj⟩ := List.mem_iff_getElem?.1 (wb.2 (List.getElem_mem q))
   have e := q2 j _ hj
   rw [Um h.nod hx] at e
   have := (List.getElem?_eq_some_iff.1 hj).1
   omega
  have hW : srt W = W := by
   refine List.ext_getElem? fun j => ?_
   rcases Nat.lt_or_ge j (srt W).length with q | q
   ·have hj : (srt W)[j]? = some (srt W)[j] := List.getElem?_eq_getElem q
    have e := q2 j _ hj
    have hm : (srt W)[j] ∈ W := wb.1 (List.getElem_mem q)
    have := Yc hm
    rw [e, Nat.zero_add] at this
    rw [hj, this]
   ·rw [List.getElem?_eq_none q, List.getElem?_eq_none (by omega)]
  have hsw : SW W := hW ▸ Z0 W
  have hsl : SW l := hsw.sub hsub
  have hfl : (srt W).filter (fun w => decide (w ∈ l)) = l := by
   refine SW.unique ((Z0 W).filter _) hsl fun x => ?_
   rw [List.mem_filter, decide_eq_true_eq, wb]
   exact ⟨fun q => q.2, fun q => ⟨hsub.subset q, q⟩⟩
  rw [hfl, List.nil_append]
  show Ret (wD (zb.mk (a : Int) T) 0 l) _
  unfold wD
  dsimp only
  rw [K7, Option.bind_some, Zv]
  refine ⟨fun _ => xa.2 (.inl rfl), fun hc => ?_⟩
  have hc : chE (a : Int) l = 0 := by simpa using hc
  have := z4D h hsw (fun w hw => hsub.subset hw) (fun w hw hl => q3 w (wb.2 hw) hl) hwl
  rw [z1y, Option.bind_some]
  exact xa.2 (.inr ⟨hc, this⟩)
theorem z1N {t u : zb} (hl : t.Nodes.length ≤ 1000000) (hn : ∀ N ∈ t.Nodes, N.Next.length ≤ 1000) : Ret (vY t u) fun b => b = true → t = u := by
 classical
 unfold vY
 rw [Zv]
 refine ⟨fun _ => xa.2 (fun q => by cases q), fun h1 => ?_⟩
 rw [Zv]
 refine ⟨fun _ => xa.2 (fun q => by cases q), fun h2 => ?_⟩
 have h1 : t.Inputs = u.Inputs := by simpa using h1
 have h2 : t.Nodes.length = u.Nodes.length := by
  have : ((t.Nodes.length : Nat) : Int) = ((u.Nodes.length : Nat) : Int) := by simpa using h2
  omega
 have h := wX t.Nodes (by omega) (step := fun s => xh t u s) (ρ := Bool) (fun i N => if u.Nodes[i]? = some N then none else some false) (by
  intro i N hN
  have hi : i < t.Nodes.length := (List.getElem?_eq_some_iff.1 hN).1
  have hq : decide ((i : Int) < (t.Nodes.length : Int)) = true := by simpa using hi
  have hNl := hn N (List.mem_of_getElem? hN)
  have hM : u.Nodes[i]? = some (u.Nodes[i]'(by omega)) := List.getElem?_eq_getElem _
  generalize u.Nodes[i]'_ = M at hM
  unfold xh
  rw [hq, cond_true, zD hN, Option.bind_some, zD hM, Option.bind_some]
  obtain ⟨N1, N2⟩ := N
  obtain ⟨M1, M2⟩ := M
  by_cases he : N2 = M2
  ·subst he
   have hb : (N2 == N2) = true := by simp
   rw [hb, Bool.not_true, cond_false, Option.bind_some, Option.bind_some, ub _ _ (fun e => by simp only at hNl e ⊢; omega), Option.bind_some]
   by_cases hc : N1 = M1
   ·subst hc
    have hb0 : ((0 : Int) != 0) = false := rfl
    rw [uZ, hb0, cond_false, if_pos hM]
    rfl
   ·have hb0 : (uM N1 M1 != 0) = true := by rw [bne_iff_ne]; exact fun q => hc (Ya q)
    rw [hb0, cond_true, hM, if_neg (fun q => hc (by have := Option.some.inj q; injection this with q1 q2; exact q1.symm))]
    rfl
  ·have hb : (N2 == M2) = false := by rw [beq_eq_false_iff_ne]; exact he
   rw [hb, Bool.not_false, cond_true, hM, if_neg (fun q => he (by have := Option.some.inj q; injection this with q1 q2; exact q2.symm))]
   rfl) (by unfold xh; simp)
 rw [bdT h]
 cases hf : yQ (fun i N => if u.Nodes[i]? = some N then none else some false) t.Nodes 0 with
 | some r =>
  obtain ⟨i, N, q1, q2⟩ := u0 hf
  have : r = false := by
   split at q2
   ·cases q2
   ·exact (Option.some.inj q2).symm
  subst this
  exact xa.2 (fun q => by cases q)
 | none =>
  have hall := jt hf
  refine xa.2 fun _ => ?_
  obtain ⟨t1, t2⟩ := t
  obtain ⟨u1, u2⟩ := u
  simp only at h1 h2 hall ⊢
  congr 1
  refine List.ext_getElem? fun i => ?_
  rcases Nat.lt_or_ge i t2.length with q | q
  ·have hN : t2[i]? = some t2[i] := List.getElem?_eq_getElem q
   have := hall i _ hN
   rw [Nat.zero_add] at this
   split at this
   ·rename_i e; rw [e, hN]
   ·cases this
  ·rw [List.getElem?_eq_none q, List.getElem?_eq_none (by omega)]
end Go.Own

namespace Go.Own
section
variable {α β γ δ σ σ' τ τ' : Type}
def Rel (x : Option α) (y : Option β) (R : α → β → Prop) : Prop := ∃ a b, x = some a ∧ y = some b ∧ R a b
theorem uS {a : α} {b : β} {R : α → β → Prop} (h : R a b) : Rel (some a) (some b) R := ⟨a, b, rfl, rfl, h⟩
theorem z48 {x : Option α} {y : Option β} {P : α → β → Prop} {f : α → Option γ} {g : β → Option δ} {R : γ → δ → Prop} (h : Rel x y P) (q : ∀ a b, P a b → Rel (f a) (g b) R) : Rel (Option.bind x f) (Option.bind y g) R := by
 obtain ⟨a, b, rfl, rfl, h⟩ := h
 exact q a b h
def LR2 (I : σ → σ' → Prop) (R : τ → τ' → Prop) : LR σ τ → LR σ' τ' → Prop
 | .next s, .next t => I s t
 | .done u, .done v => R u v
 | _, _ => False
theorem z0Z {step1 : σ → Option (LR σ τ)} {step2 : σ' → Option (LR σ' τ')} (I : σ → σ' → Prop) (m : σ → Nat) {R : τ → τ' → Prop} {s : σ} {t : σ'} (hs : I s t) (hm : m s < 18446744073709551616)
  (h : ∀ s t, I s t → Rel (step1 s) (step2 t) (LR2 (fun s' t' => I s' t' ∧ m s' < m s) R)) : Rel (loop step1 s) (loop step2 t) R := by
 have gen : ∀ (n : Nat) (s : σ) (t : σ'), I s t → m s < n → Rel (yG step1 n s) (yG step2 n t) R := by
  intro n
  induction n with
  | zero => intro s t _ h; omega
  | succ n ih =>
   intro s t hs hm
   obtain ⟨a, b, e1, e2, q⟩ := h s t hs
   rw [wY, wY, e1, e2]
   cases a with
   | next s' =>
    cases b with
    | next t' => exact ih s' t' q.1 (by have := q.2; omega)
    | done v => exact q.elim
   | done u =>
    cases b with
    | next t' => exact q.elim
    | done v => exact ⟨u, v, rfl, rfl, q⟩
 exact gen wJ s t hs hm
end
def SnR (n : Nat) (sn sn' : List Bool) : Prop := sn.length = n ∧ ∀ k, 0 < k → sn[k]? = sn'[k]?
section
variable {a : Nat} {T : List z7} (hn : T.length ≤ 60) (ha : 1 ≤ a ∧ a ≤ 16)
include hn ha
theorem z6L {i : Nat} {N : z7} (hN : T[i]? = some N) (hNl : N.Next.length = a) {x : List Int} {l : List (List Int)} {wd : List (List Int)} {sn sn' : List Bool} (hx : wd[i]? = some x) (hI : ScI T.length T wd sn' i 0) (hS : SnR T.length sn sn') (h0 : sn[0]? = some true) :
  Rel (loop (fun s => vE (zb.mk (a : Int) T) (i : Int) N x l s.1 s.2.1 s.2.2) (wd, sn, 0)) (loop (fun s => xJ (zb.mk (a : Int) T) (i : Int) N s.1 s.2) (sn', 0)) fun u v => match u, v with
   | .inl p, .inl q => ScI T.length T p.1 q.1 i a ∧ SnR T.length p.2.1 q.1 ∧ p.2.1[0]? = some true ∧ p.1.take (i + 1) = wd.take (i + 1) ∧ p.2.2.1 = l ∧ ∀ k : Nat, sn'[k]? = some true → q.1[k]? = some true
   | .inr r, .inr b => r = ([], 4) ∧ b = false
   | _, _ => False := by
 have hi : i < T.length := (List.getElem?_eq_some_iff.1 hN).1
 refine z0Z (fun s t => ∃ m : Nat, s.2.2 = (m : Int) ∧ t.2 = (m : Int) ∧ m ≤ a ∧ ScI T.length T s.1 t.1 i m ∧ SnR T.length s.2.1 t.1 ∧ s.2.1[0]? = some true ∧ s.1.take (i + 1) = wd.take (i + 1) ∧ ∀ k : Nat, sn'[k]? = some true → t.1[k]? = some true) (fun s => a - s.2.2.toNat) ⟨0, rfl, rfl, Nat.zero_le _, hI, hS, h0, rfl, fun k q => q⟩ (by show a - _ < _; omega) ?_
 rintro ⟨w, b, _⟩ ⟨c, _⟩ ⟨m, rfl, rfl, g1, g2, g3, g4, g5, g6⟩
 simp only at g2 g3 g4 g5 g6
 show Rel (vE (zb.mk (a : Int) T) (i : Int) N x l w b (m : Int)) (xJ (zb.mk (a : Int) T) (i : Int) N c (m : Int)) _
 have hwx : w[i]? = some x := by
  have e1 : (w.take (i + 1))[i]? = w[i]? := List.getElem?_take_of_lt (by omega)
  have e2 : (wd.take (i + 1))[i]? = wd[i]? := List.getElem?_take_of_lt (by omega)
  rw [← e1, g5, e2, hx]
 unfold vE xJ
 dsimp only
 rcases Nat.lt_or_ge m a with hm | hm
 ·have q1 : decide ((m : Int) < (a : Int)) = true := by rw [decide_eq_true_eq]; omega
  have q2 : decide ((m : Int) < ((N.Next.length : Nat) : Int)) = true := by rw [decide_eq_true_eq]; omega
  have hm2 : w64 ((m : Int) + 1) = ((m + 1 : Nat) : Int) := by rw [xy (by omega) (by omega)]; omega
  have hc : N.Next[m]? = some (N.Next[m]'(by omega)) := List.getElem?_eq_getElem _
  generalize N.Next[m]'_ = k at hc
  rw [q1, q2, cond_true, cond_true, zD hN, Option.bind_some, zD hc, Option.bind_some, Option.bind_some]
  by_cases hk : k = -1
  ·subst hk
   have hb : ((-1 : Int) == -1) = true := rfl
   rw [hb, cond_true, cond_true]
   unfold vG wj
   rw [hm2]
   exact uS ⟨⟨m + 1, rfl, rfl, hm, g2.skip hN hc, g3, g4, g5, g6⟩, by simp only; omega⟩
  ·have hb : (k == -1) = false := by rw [beq_eq_false_iff_ne]; exact hk
   rw [hb, cond_false, cond_false]
   by_cases h1 : k ≤ (i : Int)
   ·rw [decide_eq_true h1, cond_true, cond_true]
    exact uS ⟨rfl, rfl⟩
   ·rw [decide_eq_false h1, cond_false, cond_false]
    by_cases h2 : k ≥ ((T.length : Nat) : Int)
    ·rw [decide_eq_true h2, cond_true, cond_true]
     exact uS ⟨rfl, rfl⟩
    ·rw [decide_eq_false h2, cond_false, cond_false]
     obtain ⟨j, rfl⟩ : ∃ j : Nat, k = (j : Int) := ⟨k.toNat, by omega⟩
     have hj : j < T.length := by omega
     have hjc : c[j]? = some (c[j]'(by rw [g2.sl]; exact hj)) := List.getElem?_eq_getElem _
     generalize c[j]'_ = v at hjc
     have hjb : b[j]? = some v := by rw [g3.2 j (by omega), hjc]
     rw [zD hjc, zD hjb, Option.bind_some, Option.bind_some]
     cases v with
     | true =>
      rw [cond_true, Option.bind_some, cond_true]
      exact uS ⟨rfl, rfl⟩
     | false =>
      have hws := g2.short i x hwx
      have hwj : w[j]? = some (w[j]'(by rw [g2.wl]; exact hj)) := List.getElem?_eq_getElem _
      rw [cond_false, Option.bind_some, Option.bind_some, cond_false, zD hwx, Option.bind_some, gdT (by rw [List.length_nil]; omega), gdT (by rw [List.length_singleton]; omega), zD hwj, Option.bind_some]
      unfold vG wj
      rw [hm2, Int.toNat_natCast]
      refine uS ⟨⟨m + 1, rfl, rfl, hm, g2.put hN hwx hc (by omega) hj hjc, ⟨by simp only [List.length_set]; exact g3.1, fun k hk => ?_⟩, ?_, ?_, fun k q => ?_⟩, by simp only; omega⟩
      ·simp only
       by_cases hkj : k = j
       ·subst hkj
        rw [List.getElem?_set_self (by rw [g3.1]; exact hj), List.getElem?_set_self (by rw [g2.sl]; exact hj)]
       ·rw [List.getElem?_set_ne (fun e => hkj e.symm), List.getElem?_set_ne (fun e => hkj e.symm)]
        exact g3.2 k hk
      ·simp only
       rw [List.getElem?_set_ne (by omega)]
       exact g4
      ·simp only
       rw [List.take_set_of_le (by omega)]
       exact g5
      ·simp only
       by_cases hkj : k = j
       ·subst hkj
        rw [List.getElem?_set_self (by rw [g2.sl]; exact hj)]
       ·rw [List.getElem?_set_ne (fun e => hkj e.symm)]
        exact g6 k q
 ·have hma : m = a := by omega
  subst hma
  have q1 : decide ((m : Int) < (m : Int)) = false := by rw [decide_eq_false_iff_not]; omega
  have q2 : decide ((m : Int) < ((N.Next.length : Nat) : Int)) = false := by rw [decide_eq_false_iff_not]; omega
  rw [q1, q2, cond_false, cond_false]
  exact uS ⟨g2, g3, g4, g5, rfl, g6⟩
theorem zbb :
  Rel (loop (fun s => vF (zb.mk (a : Int) T) s.1 s.2.1 s.2.2.1 s.2.2.2) (List.replicate T.length [], List.replicate T.length false, [], 0)) (loop (fun s => wi (zb.mk (a : Int) T) s.1 s.2) (List.replicate T.length false, 0)) fun u v => match u, v with
   | .inl l, .inl _ => ∃ W, Zb a T W (fun y => y ∈ l) ∧ W.length ≤ 60 ∧ (∀ w ∈ W, w.length ≤ 60) ∧ List.Sublist l W
   | .inr r, .inr b => r = ([], 4) ∧ b = false
   | _, _ => False := by
 refine z0Z (fun (s : List (List Int) × List Bool × List (List Int) × Int) (t : List Bool × Int) => ∃ i : Nat, s.2.2.2 = (i : Int) ∧ t.2 = (i : Int) ∧ i ≤ T.length ∧ ScI T.length T s.1 t.1 i 0 ∧ SnR T.length s.2.1 t.1 ∧ (0 < i → s.2.1[0]? = some true) ∧ s.2.2.1 = z1T (T.take i) (s.1.take i) ∧ (∀ p N, p < i → T[p]? = some N → N.Next.length = a) ∧ (∀ p, 0 < p → p < i → t.1[p]? = some true) ∧ s.2.2.1.length ≤ i) (fun s => T.length - s.2.2.2.toNat) ⟨0, rfl, rfl, Nat.zero_le _, ⟨by simp, by simp, ?_, ?_, ?_⟩, ⟨by simp, fun k _ => rfl⟩, fun q => absurd q (Nat.lt_irrefl 0), by simp [z1T], fun p N hp => absurd hp (Nat.not_lt_zero _), fun p _ hp => absurd hp (Nat.not_lt_zero _), Nat.zero_le _⟩ (by show T.length - _ < _; omega) ?_
 ·intro k w hw
  have := List.mem_of_getElem? hw
  rw [List.mem_replicate] at this
  rw [this.2]
  exact Nat.zero_le _
 ·intro p s N c hp
  unfold prP at hp
  omega
 ·intro k _ hk
  have := List.mem_of_getElem? hk
  rw [List.mem_replicate] at this
  exact absurd this.2 (by simp)
 rintro ⟨w, b, l, _⟩ ⟨c, _⟩ ⟨i, rfl, rfl, g1, g2, g3, g4, g5, g6, g7, g8⟩
 simp only at g2 g3 g4 g5 g6 g7 g8
 show Rel (vF (zb.mk (a : Int) T) w b l (i : Int)) (wi (zb.mk (a : Int) T) c (i : Int)) _
 unfold vF wi
 dsimp only
 rcases Nat.lt_or_ge i T.length with hi | hi
 ·have q1 : decide ((i : Int) < ((T.length : Nat) : Int)) = true := by rw [decide_eq_true_eq]; omega
  have hN : T[i]? = some T[i] := List.getElem?_eq_getElem hi
  have hwi : w[i]? = some (w[i]'(by rw [g2.wl]; exact hi)) := List.getElem?_eq_getElem _
  generalize T[i] = N at hN
  generalize w[i]'_ = x at hwi
  have hws := g2.short i x hwi
  rw [q1, cond_true, cond_true, zD hN, Option.bind_some]
  have core : ∀ b', SnR T.length b' c → b'[0]? = some true → b'[i]? = some true → (0 < i → c[i]? = some true) → Rel (wG (zb.mk (a : Int) T) w l (i : Int) b') (bif ((N.Next.length : Nat) : Int) != (a : Int) then some (.done (.inr false)) else xK (zb.mk (a : Int) T) c (i : Int) N) (LR2 (fun (s' : List (List Int) × List Bool × List (List Int) × Int) (t' : List Bool × Int) => (∃ i : Nat, s'.2.2.2 = (i : Int) ∧ t'.2 = (i : Int) ∧ i ≤ T.length ∧ ScI T.length T s'.1 t'.1 i 0 ∧ SnR T.length s'.2.1 t'.1 ∧ (0 < i → s'.2.1[0]? = some true) ∧ s'.2.2.1 = z1T (T.take i) (s'.1.take i) ∧ (∀ p N, p < i → T[p]? = some N → N.Next.length = a) ∧ (∀ p, 0 < p → p < i → t'.1[p]? = some true) ∧ s'.2.2.1.length ≤ i) ∧ T.length - s'.2.2.2.toNat < T.length - ((i : Int)).toNat) fun (u : List (List Int) ⊕ (List (List Int) × Int)) (v : Unit ⊕ Bool) => match u, v with
   | .inl l, .inl _ => ∃ W, Zb a T W (fun y => y ∈ l) ∧ W.length ≤ 60 ∧ (∀ w ∈ W, w.length ≤ 60) ∧ List.Sublist l W
   | .inr r, .inr b => r = ([], 4) ∧ b = false
   | _, _ => False) := by
   intro b' s1 s2 s3 s4
   unfold wG
   dsimp only
   rw [zD s3, Option.bind_some, Bool.not_true, cond_false, zD hN, Option.bind_some]
   by_cases hl : N.Next.length = a
   ·have hb : (((N.Next.length : Nat) : Int) != (a : Int)) = false := by rw [hl]; exact bne_self_eq_false _
    have d1 : decide (((x.length : Nat) : Int) > 256) = false := by rw [decide_eq_false_iff_not]; omega
    rw [hb, cond_false, cond_false, zD hwi, Option.bind_some, d1, cond_false, Option.bind_some]
    have fin : ∀ l', l' = z1T (T.take (i + 1)) (w.take (i + 1)) → l'.length ≤ i + 1 → Rel (vH (zb.mk (a : Int) T) w (i : Int) b' N x l') (xK (zb.mk (a : Int) T) c (i : Int) N) (LR2 (fun (s' : List (List Int) × List Bool × List (List Int) × Int) (t' : List Bool × Int) => (∃ i : Nat, s'.2.2.2 = (i : Int) ∧ t'.2 = (i : Int) ∧ i ≤ T.length ∧ ScI T.length T s'.1 t'.1 i 0 ∧ SnR T.length s'.2.1 t'.1 ∧ (0 < i → s'.2.1[0]? = some true) ∧ s'.2.2.1 = z1T (T.take i) (s'.1.take i) ∧ (∀ p N, p < i → T[p]? = some N → N.Next.length = a) ∧ (∀ p, 0 < p → p < i → t'.1[p]? = some true) ∧ s'.2.2.1.length ≤ i) ∧ T.length - s'.2.2.2.toNat < T.length - ((i : Int)).toNat) fun (u : List (List Int) ⊕ (List (List Int) × Int)) (v : Unit ⊕ Bool) => match u, v with
     | .inl l, .inl _ => ∃ W, Zb a T W (fun y => y ∈ l) ∧ W.length ≤ 60 ∧ (∀ w ∈ W, w.length ≤ 60) ∧ List.Sublist l W
     | .inr r, .inr b => r = ([], 4) ∧ b = false
     | _, _ => False) := by
     intro l' e1 e2
     unfold vH xK
     refine z48 (z6L hn ha hN hl hwi g2 s1 s2) ?_
     rintro (p | p) (q | q) hpq
     ·obtain ⟨r1, r2, r3, r4, r5, r6⟩ := hpq
      simp only
      unfold qO u6
      have hi2 : w64 ((i : Int) + 1) = ((i + 1 : Nat) : Int) := by rw [xy (by omega) (by omega)]; omega
      rw [hi2]
      refine uS ⟨⟨i + 1, rfl, rfl, hi, r1.row hN (by omega), r2, fun _ => r3, ?_, ?_, ?_, ?_⟩, by simp only; omega⟩
      ·simp only
       rw [r5, r4, e1]
      ·intro p N' hp hN'
       rcases Nat.lt_or_ge p i with z | z
       ·exact g6 p N' z hN'
       ·have : p = i := by omega
        subst this
        rw [hN] at hN'
        cases hN'
        exact hl
      ·intro p' p0 hp
       simp only
       rcases Nat.lt_or_ge p' i with z | z
       ·exact r6 p' (g7 p' p0 z)
       ·have : p' = i := by omega
        subst this
        exact r6 p' (s4 p0)
      ·simp only
       rw [r5]
       exact e2
     ·exact hpq.elim
     ·exact hpq.elim
     ·obtain ⟨rfl, rfl⟩ := hpq
      exact uS ⟨rfl, rfl⟩
    cases hE : N.End with
    | true =>
     rw [cond_true, Option.bind_some, gdT (by rw [List.length_singleton]; omega)]
     refine fin _ ?_ (by rw [List.length_append, List.length_singleton]; omega)
     rw [KN hN hwi, if_pos hE, g5]
    | false =>
     rw [cond_false]
     refine fin _ ?_ (by omega)
     rw [KN hN hwi, if_neg (by rw [hE]; exact Bool.false_ne_true), List.append_nil, g5]
   ·have hb : (((N.Next.length : Nat) : Int) != (a : Int)) = true := by rw [bne_iff_ne]; omega
    rw [hb, cond_true, cond_true]
    exact uS ⟨rfl, rfl⟩
  rcases Nat.eq_zero_or_pos i with h0 | h0
  ·subst h0
   have hb0 : b[0]? = some (b[0]'(by rw [g3.1]; exact hi)) := List.getElem?_eq_getElem _
   have e1 : (((0 : Nat) : Int) == 0) = true := rfl
   have e2 : decide (((0 : Nat) : Int) > 0) = false := rfl
   rw [e1, cond_true, e2, cond_false]
   have e3 : idx b 0 = some (b[0]'(by rw [g3.1]; exact hi)) := hb0
   rw [e3, Option.bind_some]
   have e4 : (b.set (0 : Int).toNat true)[0]? = some true := List.getElem?_set_self (by rw [g3.1]; exact hi)
   refine core _ ⟨by rw [List.length_set]; exact g3.1, fun k hk => ?_⟩ e4 e4 (fun q => absurd q (Nat.lt_irrefl 0))
   rw [show (0 : Int).toNat = 0 from rfl, List.getElem?_set_ne (by omega)]
   exact g3.2 k hk
  ·have e1 : ((i : Int) == 0) = false := by rw [beq_eq_false_iff_ne]; omega
   have e2 : decide ((i : Int) > 0) = true := by rw [decide_eq_true_eq]; omega
   have hci : c[i]? = some (c[i]'(by rw [g2.sl]; exact hi)) := List.getElem?_eq_getElem _
   generalize c[i]'_ = v at hci
   have hbi : b[i]? = some v := by rw [g3.2 i h0, hci]
   rw [e1, cond_false, e2, cond_true, zD hci, Option.bind_some]
   cases v with
   | true =>
    rw [Bool.not_true, cond_false]
    exact core b g3 (g4 h0) hbi (fun _ => hci)
   | false =>
    unfold wG
    rw [zD hbi, Option.bind_some, Bool.not_false, cond_true, cond_true]
    exact uS ⟨rfl, rfl⟩
 ·have hin : i = T.length := by omega
  subst hin
  have q1 : decide (((T.length : Nat) : Int) < ((T.length : Nat) : Int)) = false := by rw [decide_eq_false_iff_not]; omega
  rw [q1, cond_false, cond_false]
  rw [List.take_length, List.take_of_length_le (by rw [g2.wl]; exact Nat.le_refl _)] at g5
  subst g5
  have hseen : ∀ k, 0 < k → k < T.length → c[k]? = some true := fun k h1 h2 => g7 k h1 h2
  refine uS ⟨w, g2.tree hseen rfl (fun p N hp => g6 p N (List.getElem?_eq_some_iff.1 hp).1 hp), by rw [g2.wl]; exact hn, fun v hv => ?_, z4w (by rw [g2.wl]; exact Nat.le_refl _)⟩
  obtain ⟨k, hk⟩ := List.mem_iff_getElem?.1 hv
  have h1 := g2.short k v hk
  have h2 := (List.getElem?_eq_some_iff.1 hk).1
  rw [g2.wl] at h2
  omega
end
end Go.Own

namespace Go.Own
theorem z05 {t : zb} (hn : t.Nodes.length ≤ 60) (hr : ∀ N ∈ t.Nodes, N.Next.length ≤ 20) :
  (vj t = some ([], 4) ∧ xF t = some ([], 4)) ∨ ∃ (a : Nat) (l : List (List Int)), t = zb.mk (a : Int) (wt a l) ∧ chE (a : Int) l = 0 ∧ (srt (yb l)).length ≤ 60 ∧ (∀ w ∈ srt (yb l), w.length ≤ 60) ∧ vj t = some (l, 0) := by
 obtain ⟨I, T⟩ := t
 simp only at hn hr
 by_cases h1 : I < 1
 ·left
  unfold vj xF
  simp only [decide_eq_true h1, cond_true]
  exact ⟨trivial, trivial⟩
 by_cases h2 : I > 16
 ·left
  unfold vj xF
  simp only [decide_eq_false h1, decide_eq_true h2, cond_true, cond_false]
  exact ⟨trivial, trivial⟩
 obtain ⟨a, rfl⟩ : ∃ a : Nat, I = (a : Int) := ⟨I.toNat, by omega⟩
 have ha : 1 ≤ a ∧ a ≤ 16 := by omega
 have d3 : decide (((T.length : Nat) : Int) > 65537) = false := by rw [decide_eq_false_iff_not]; omega
 obtain ⟨u, v, e1, e2, hq⟩ := zbb hn ha
 have tr : uE (zb.mk (a : Int) T) = Sum.elim (fun _ => some true) (fun b => some b) v := by
  unfold uE
  dsimp only
  rw [gdT (by omega), Int.toNat_natCast, e2, Option.bind_some]
  cases v <;> rfl
 have rf : vj (zb.mk (a : Int) T) = Sum.elim (fun l => vI (zb.mk (a : Int) T) l) (fun r => some r) u := by
  unfold vj
  dsimp only
  rw [decide_eq_false h1, decide_eq_false h2, cond_false, cond_false, gdT (by omega), gdT (by omega), Int.toNat_natCast, e1, Option.bind_some]
  cases u <;> rfl
 rcases u with l | r <;> rcases v with x | b
 ·obtain ⟨W, q1, q2, q3, q4⟩ := hq
  simp only [Sum.elim_inl] at tr rf
  have hg := z1J q1 tr q2 ha q3 q4
  have hll : l.length ≤ 60 := Nat.le_trans q4.length_le q2
  have hlw : ∀ w ∈ l, w.length ≤ 60 := fun w hw => q3 w (q4.subset hw)
  by_cases hc : chE (a : Int) l = 0 ∧ T = wt a l
  ·right
   have hpw : ∀ w ∈ srt (yb l), w.length ≤ 60 := fun w hw => by
    obtain ⟨x, x1, j, x2, rfl⟩ := vu.1 (wb.1 hw)
    have := hlw x x1
    rw [List.length_take]; omega
   have hpl : (srt (yb l)).length ≤ 60 := by
    have : T.length = (srt (yb l)).length := by rw [hc.2]; unfold wt; rw [List.length_map]
    omega
   refine ⟨a, l, by rw [hc.2], hc.1, hpl, hpw, ?_⟩
   rw [rf]
   unfold vI
   dsimp only
   rw [Ko, hc.1, Option.bind_some, bne_self_eq_false, cond_false, z10 (by omega) (by omega) (fun w hw => by have := hlw w hw; omega), Option.bind_some, ← hc.2, z0n (by show T.length ≤ _; omega) (fun N hN => by have := hr N hN; omega), Option.bind_some, Bool.not_true, cond_false]
  ·left
   have no : ¬ (chE (a : Int) l = 0 ∧ srt (yb l) = W ∧ T = wt a l) := fun q => hc ⟨q.1, q.2.2⟩
   obtain ⟨r, r1, r2⟩ := hg
   refine ⟨?_, by rw [r1, r2.resolve_right no]⟩
   rw [rf]
   unfold vI
   dsimp only
   rw [Ko, Option.bind_some]
   by_cases h0 : chE (a : Int) l = 0
   ·have hb : (chE (a : Int) l != 0) = false := by rw [h0]; rfl
    obtain ⟨b, b1, b2⟩ := z1N (t := zb.mk (a : Int) T) (u := zb.mk (a : Int) (wt a l)) (by show T.length ≤ _; omega) (fun N hN => by have := hr N hN; omega)
    have hbf : b = false := by
     cases b with
     | false => rfl
     | true =>
      have := b2 rfl
      injection this with _ z
      exact absurd ⟨h0, z⟩ hc
    rw [hb, cond_false, z10 (by omega) (by omega) (fun w hw => by have := hlw w hw; omega), Option.bind_some, b1, hbf, Option.bind_some, Bool.not_false, cond_true]
   ·have hb : (chE (a : Int) l != 0) = true := by rw [bne_iff_ne]; exact h0
    rw [hb, cond_true]
 ·exact hq.elim
 ·exact hq.elim
 ·obtain ⟨rfl, rfl⟩ := hq
  left
  simp only [Sum.elim_inr] at tr rf
  refine ⟨rf, ?_⟩
  unfold xF
  dsimp only
  rw [decide_eq_false h1, decide_eq_false h2, cond_false, cond_false, d3, cond_false, tr, Option.bind_some, Bool.not_false, cond_true]
theorem z2Y (t : zb) : vZ t = some true := by
 unfold vZ
 by_cases hn : t.Nodes.length ≤ 60
 ·have hb : decide (((t.Nodes.length : Nat) : Int) > 60) = false := by rw [decide_eq_false_iff_not]; omega
  have h := wX t.Nodes (by omega) (step := fun s => xE t s) (ρ := Bool) (fun _ N => if 20 < N.Next.length then some true else none) (by
   intro i N hN
   have hi : i < t.Nodes.length := (List.getElem?_eq_some_iff.1 hN).1
   have hq : decide ((i : Int) < (t.Nodes.length : Int)) = true := by simpa using hi
   unfold xE
   rw [hq, cond_true, zD hN, Option.bind_some]
   by_cases h : 20 < N.Next.length
   ·rw [if_pos h, decide_eq_true (by omega), cond_true]
    rfl
   ·rw [if_neg h, decide_eq_false (by omega), cond_false]
    rfl) (by unfold xE; simp)
  rw [hb, cond_false, bdT h]
  cases hf : yQ (fun _ N => if 20 < N.Next.length then some true else none) t.Nodes 0 with
  | some r =>
   obtain ⟨i, N, _, q⟩ := u0 hf
   split at q
   ·cases q; rfl
   ·cases q
  | none =>
   show wr t = some true
   have hr : ∀ N ∈ t.Nodes, N.Next.length ≤ 20 := by
    intro N hN
    obtain ⟨i, hi⟩ := List.mem_iff_getElem?.1 hN
    have := jt hf i N hi
    split at this
    ·cases this
    ·omega
   unfold wr
   rw [z1Q]
   have hb0 : ((0 : Int) != 0) = false := bne_self_eq_false 0
   have hb4 : ((4 : Int) != 0) = true := rfl
   have hb44 : ((4 : Int) != 4) = false := bne_self_eq_false 4
   have e00 : ((0 : Int) == 0) = true := BEq.rfl
   rcases z05 hn hr with ⟨q1, q2⟩ | ⟨a, l, rfl, q2, q3, q4, q5⟩
   ·have hC : vT t = some (0, 4) := by
     unfold vT
     rw [q2, Option.bind_some, hb4, cond_true]
    rw [q1, Option.bind_some, q2, Option.bind_some, hC, Option.bind_some, hb44, cond_false, cond_false, z11 [] [] (by simp) (by simp), Option.bind_some, decide_eq_true rfl, Bool.not_true, cond_false, hb4, cond_true, e00, cond_true, Option.bind_some]
   ·have hw : (srt (yb l)).length ≤ 520 ∧ ∀ w ∈ srt (yb l), w.length ≤ 200 := ⟨by omega, fun w hw => by have := q4 w hw; omega⟩
    have hlw : ∀ w ∈ l, w.length ≤ 60 := fun w hw => q4 w (wb.2 (vu.2 ⟨w, hw, w.length, Nat.le_refl _, by simp⟩))
    have hll : l.length ≤ 4096 := (z1z q2).1
    have hR := z1M (l := l) (by omega) (fun w hw => by have := hlw w hw; omega)
    rw [q5, Option.bind_some, K6 q2 hw, Option.bind_some, z2c q2 hw, Option.bind_some, hb0, cond_false, cond_false, z11 l l (by omega) (fun w hw => by have := hlw w hw; omega), Option.bind_some, decide_eq_true rfl, Bool.not_true, cond_false, cond_false, e00, cond_true, hR, Option.bind_some, BEq.rfl, cond_true, Option.bind_some]
 ·have hb : decide (((t.Nodes.length : Nat) : Int) > 60) = true := by rw [decide_eq_true_eq]; omega
  rw [hb, cond_true]
end Go.Own

namespace Go.Own
def Ok3 (a : Int) : Prop := (-9223372036854775808) ≤ a ∧ a ≤ 9223372036854775807
def zaH (l : List Int) : Prop := ∀ a ∈ l, Ok3 a
def Ok4 (_ : Bool) : Prop := True
def z9T (a : z7) : Prop := zaH a.Next ∧ Ok4 a.End
def zaJ (l : List z7) : Prop := ∀ a ∈ l, z9T a
def zaI (a : zb) : Prop := Ok3 a.Inputs ∧ zaJ a.Nodes
end Go.Own

namespace Go.Own
theorem z4n {t : zb} (ht : zaI t) : vZ t = some true := z2Y t
end Go.Own

namespace Go.Own
def KT (w : World) : zl := fun b o => yi w.heap b o
theorem z3a {w : World} {a : Addr} {v : Value} (h : w.cell? a = some v) : a.spot = none ∧ yi w.heap a.block a.off = some v := by
 unfold World.cell? at h
 unfold yi
 split at h
 ·rename_i c ty fr he
  rw [he]
  split at h
  ·cases h
  ·rename_i hs
   exact ⟨by simpa using hs, h⟩
 ·cases h
section
variable {H : Type} {enc : TypeId × Value → H} {P : Program} {w : World} {base : Nat} {spare : Nat → Bool} {held : Bool}
theorem z37 {a : Addr} {n : Nat} {cs : List Value} (h : w.cells? base a n = some cs) (hn : 0 < n) : a.spot = none ∧ cs.length = n ∧ KW (KT w) a.block a.off cs := by
 obtain ⟨_, h2, h3⟩ := World.cells?_some h
 have h0 : a.spot = none := by
  have h4 := h3 0 hn
  cases hc : cs[0]? with
  | none => rw [List.getElem?_eq_none_iff] at hc; omega
  | some v =>
   rw [hc] at h4
   have := (z3a h4).1
   simpa [Addr.add] using this
 refine ⟨h0, h2, fun j v hj => ?_⟩
 have hlt := (List.getElem?_eq_some_iff.1 hj).1
 have h4 := h3 j (by omega)
 rw [hj] at h4
 have q := (z3a h4).2
 unfold Addr.add at q
 split at q
 ·rename_i e; subst e; exact q
 ·exact q
theorem Kl {S : zl} : ∀ {bs : List A} {cs : List Value} {a : A} {c : List Value}, yj S bs cs → Rep S a c → yj S (bs ++ [a]) (cs ++ c)
 | [], cs, a, c, h1, h2 => by
  simp only [yj] at h1
  subst h1
  simp only [List.nil_append, yj]
  exact ⟨c, [], by simp, h2, rfl⟩
 | x :: bs, cs, a, c, h1, h2 => by
  simp only [yj] at h1
  obtain ⟨c1, c2, rfl, r1, r2⟩ := h1
  simp only [List.cons_append, yj]
  exact ⟨c1, c2 ++ c, by simp, r1, Kl r2 h2⟩
theorem z4h {S : zl} {b o : Nat} {c1 c2 : List Value} (h1 : KW S b o c1) (h2 : KW S b (o + c1.length) c2) : KW S b o (c1 ++ c2) := by
 intro j v hj
 rcases Nat.lt_or_ge j c1.length with q | q
 ·rw [List.getElem?_append_left q] at hj
  exact h1 j v hj
 ·rw [List.getElem?_append_right q] at hj
  have := h2 _ _ hj
  rwa [show o + c1.length + (j - c1.length) = o + j by omega] at this
theorem Ka {α : Type} {t e sz : Nat} (f : α → A) (ok : α → Prop) (ht : P.underlying t = some (.slice e)) (hsz : P.cellsOf e = sz) (h0 : 0 < sz) (hf : ∀ a, (f a).size = sz)
    (hel : ∀ n cs x, DataW.trod enc P w base spare held n e cs = some x → ∃ a, ok a ∧ Rep (KT w) (f a) cs)
    {wJ : Nat} {cs : List Value} {x : DataW H × List MemPlace} (h : DataW.trod enc P w base spare held wJ t cs = some x) : ∃ l : List α, (∀ a ∈ l, ok a) ∧ Rep (KT w) (.sl sz false (l.map f)) cs := by
  rcases DataW.trod_slice ht h with ⟨rfl, _⟩ | ⟨a, len, cap, elems, rest, n, _, rfl, _, _, hlc, _, hlen, hall, _, _⟩
  · refine ⟨[], by simp, ?_⟩
    simp only [Rep, List.map_nil, List.length_nil]
    exact ⟨none, 0, rfl, by simp, Nat.le_refl _, by simp, .inl trivial⟩
  · have key : ∀ k, k ≤ len → ∃ (l : List α) (cells : List Value), l.length = k ∧ (∀ a ∈ l, ok a) ∧ yj (KT w) (l.map f) cells ∧ cells.length = k * sz ∧ (0 < k → a.spot = none) ∧ KW (KT w) a.block a.off cells := by
      intro k
      induction k with
      | zero => intro _; exact ⟨[], [], rfl, by simp, by simp [yj], by simp, by simp, fun j v h => by simp at h⟩
      | succ k ih =>
        intro hk
        obtain ⟨l, cells, q1, q2, q3, q4, q5, q6⟩ := ih (by omega)
        have hk' := hall k (by omega)
        have hsome : elems[k]? = some elems[k] := List.getElem?_eq_getElem (by omega)
        rw [hsome, Option.bind_eq_some_iff, hsz] at hk'
        obtain ⟨c, hc, htr⟩ := hk'
        obtain ⟨y, hy, hr⟩ := hel _ _ _ htr
        obtain ⟨g1, g2, g3⟩ := z37 hc h0
        refine ⟨l ++ [y], cells ++ c, by simp [q1], ?_, ?_, ?_, ?_, ?_⟩
        · intro z hz
          rcases List.mem_append.1 hz with q | q
          · exact q2 z q
          · simp only [List.mem_cons, List.not_mem_nil, or_false] at q; subst q; exact hy
        · rw [List.map_append]; exact Kl q3 hr
        · rw [List.length_append, q4, g2, Nat.succ_mul]
        · intro _
          rcases Nat.eq_zero_or_pos k with rfl | hk0
          · simpa [Addr.add] using g1
          · exact q5 hk0
        · refine z4h q6 ?_
          rw [q4]
          unfold Addr.add at g3
          split at g3
          · rename_i e0
            rw [e0, Nat.add_zero]
            exact g3
          · exact g3
    obtain ⟨l, cells, q1, q2, q3, q4, q5, q6⟩ := key len (Nat.le_refl _)
    refine ⟨l, q2, ?_⟩
    simp only [Rep, List.length_map]
    refine ⟨some a, cap, by rw [q1], by simp, by omega, ?_, ?_⟩
    · intro y hy
      obtain ⟨z, _, rfl⟩ := List.mem_map.1 hy
      exact hf z
    · rcases Nat.eq_zero_or_pos len with rfl | hl
      · left; rw [List.length_eq_zero_iff.1 q1]; rfl
      · right
        refine ⟨a.block, a.off, cells, ?_, q3, q6⟩
        have := q5 hl
        obtain ⟨b, o, s⟩ := a
        simp only at this
        subst this
        rfl
theorem z6w {t : Nat} {k : IntKind} {lo hi : Int} (ht : P.underlying t = some (.int k)) (hlo : k.min = lo) (hhi : k.max = hi) {wJ : Nat} {cs : List Value} {x : DataW H × List MemPlace} (h : DataW.trod enc P w base spare held wJ t cs = some x) :
  ∃ n : Int, (lo ≤ n ∧ n ≤ hi) ∧ cs = [.int k n] ∧ Rep (KT w) (.atom (.int k n)) cs := by
 obtain ⟨n, rfl, _, hw⟩ := DataW.trod_int ht h
 simp only [Lit.wf, Bool.and_eq_true, decide_eq_true_eq, hlo, hhi] at hw
 exact ⟨n, hw, rfl, by simp only [Rep]; exact ⟨trivial, rfl⟩⟩
theorem z4G {t : Nat} (ht : P.underlying t = some .bool) {wJ : Nat} {cs : List Value} {x : DataW H × List MemPlace} (h : DataW.trod enc P w base spare held wJ t cs = some x) :
  ∃ b : Bool, Rep (KT w) (.atom (.bool b)) cs := by
 obtain ⟨b, rfl, _⟩ := DataW.trod_bool ht h
 exact ⟨b, by simp only [Rep]; exact ⟨trivial, rfl⟩⟩
theorem X6 {t : Nat} {fs : List Field} (ht : P.underlying t = some (.struct ⟨fs⟩)) {wJ : Nat} {cs : List Value} {x : DataW H × List MemPlace} (h : DataW.trod enc P w base spare held wJ t cs = some x) :
  cs.length = P.cellsOf t ∧ ∀ (i : Nat) (f : Field), fs[i]? = some f → ∃ n y, DataW.trod enc P w base spare held n f.type ((cs.drop f.offset).take (P.cellsOf f.type)) = some y := by
 obtain ⟨xs, n, _, _, hl, hxl, hall⟩ := DataW.trod_struct ht h
 refine ⟨hl, fun i f hf => ?_⟩
 have hlt := (List.getElem?_eq_some_iff.1 hf).1
 have := hall i f (by simpa using hf)
 rw [List.getElem?_eq_getElem (by rw [hxl]; simpa using hlt)] at this
 exact ⟨n, _, this⟩
end
theorem Xb {S : zl} {a : A} {bs : List A} {cs : List Value} {n : Nat} (h1 : Rep S a (cs.take n)) (h2 : yj S bs (cs.drop n)) : yj S (a :: bs) cs := by
 simp only [yj]
 exact ⟨cs.take n, cs.drop n, (List.take_append_drop n cs).symm, h1, h2⟩
end Go.Own

namespace Go.Own
section
open Go Go.ChangeShapes Go.WideShapes Go.ChangeAt Go.RowKit
theorem z2x {P : Program} {H : Type} {enc : TypeId × Value → H} {f : Func} {s : ChangeSpec} {apart fresh handsOn again : Bool} {W W' : World} {args : Array Value} {v : Value} {ds : List (DataW H)} {pa : List MemPlace}
  (hvar : s.vars = []) (hvars2 : (s.fn H (ds ++ [])).vars = []) (hW : DataW.Whole enc P f.params.toList s.vars apart W args.toList ds [] (pa ++ [])) (hb : Below W.heap.size W W')
  (hres : ∀ (b : Nat) (sp : Nat → Bool) (hd : Bool), DataW.TrodAll enc P W' b sp hd f.resultTypes.toList (v.resultList f.resultTypes.size) (s.fn H (ds ++ [])).results [])
  (hargs : ∀ sp : Nat → Bool, (∀ p ∈ pa ++ [], sp p.block = true) → DataW.TrodAll enc P W' 0 sp true f.params.toList args.toList (s.fn H (ds ++ [])).args pa)
  (hok : ∀ (j : Nat) (t : TypeId) (r : Value), f.resultTypes[j]? = some t → (v.resultList f.resultTypes.size)[j]? = some r → Value.okWide P W' .any 0 t r) :
  s.post enc P f apart fresh handsOn again W args v W' := by
 have hlt : ∀ p ∈ pa ++ [], p.block < W.heap.size := fun p hp => by simpa using hW.lt p hp
 have hvr : ∀ sp : Nat → Bool, DataW.TrodVars enc P W' sp s.vars (s.fn H (ds ++ [])).vars [] := fun sp => by rw [hvar, hvars2]; rfl
 refine ⟨ds, [], pa ++ [], [], pa, [], hW, hres _ _ _, hargs _ (fun p hp => by simpa using hlt p hp), hvr _, World.keptBut_mono (fun _ q => q.elim) (hb.frame fun _ => False), fun _ => ?_⟩
 obtain ⟨_, _, _, _, _, hz, hn⟩ := hW
 refine ⟨hok, _, _, ([] ++ pa) ++ [], ⟨[] ++ pa, [], trodAll_append (hargs _ (fun _ _ => rfl)) (hres _ _ _), hvr _, rfl, ?_, ?_⟩, ?_⟩
 ·intro b off hp
  have hp' : MemPlace.cell b off ∈ pa ++ [] := by simpa using hp
  rw [hb.frozen (p := ⟨b, off, none⟩) (hlt _ hp')]
  exact hz b off hp'
 ·intro ha
  simpa using hn ha
 ·intro p hp _
  simpa using hp
end
theorem z3O {P : Program} {k : Nat} {α ρ : Type} {enc : α → List A} {encR : ρ → A} {F : α → Option ρ} {gives : List Bool} {inj : ∀ x y, enc x = enc y → x = y} (h : (spF k enc encR F gives inj).Ok P) {x : α} {r : ρ} (hr : F x = some r) : XK P k (enc x) (encR r) := by
 have := h x ⟨r, hr⟩
 simpa only [spF, hr] using this
section
variable {P : Program} {w : World} {r : Reach} {base t : Nat} {v : Value}
theorem z1H {fs : Array Field} (hu : P.underlying t = some (.struct fs)) (h : Value.okWide P w r base t v) : v = .agg v.cells.toList.toArray := by
 unfold Value.okWide at h
 rw [hu] at h
 obtain ⟨cs, rfl, _⟩ := h
 rfl
theorem z0m {fs : Array Field} {S : zl} {a : A} (hu : P.underlying t = some (.struct fs)) (hr : Rep S a v.cells.toList) (h : Value.okWide P w r base t v) (ha : a.isAgg = true) : vM S a v := ⟨_, hr, by cases a <;> first | exact z1H hu h | cases ha⟩
theorem z4t {S : zl} {h : Array Obj} {v : Value} {F : List Nat} (q : Has S h (.atom (.bool true)) v F) : v = .bool true := by
 rcases q with ⟨q, _⟩ | ⟨cs, q, _, rfl⟩
 ·rw [(zy.1 q).1]
 ·simp only [zO, Rep] at q
  obtain ⟨⟨rfl, _⟩, _⟩ := q
  rfl
end
end Go.Own

namespace Go.Own
open Go.Proofs
section
variable {H : Type} {enc : TypeId × Value → H} {w : World} {base : Nat} {spare : Nat → Bool} {held : Bool}
theorem z5j : Try.prog.cellsOf 3 = 1 := by kernel_rfl
theorem rd3 {wJ : Nat} {cs : List Value} {x : DataW H × List MemPlace} (h : DataW.trod enc Try.prog w base spare held wJ 3 cs = some x) : ∃ a : Int, Ok3 a ∧ Rep (KT w) ((eI .i64) a) cs := by
 obtain ⟨n, h1, _, h2⟩ := z6w Try.underlying3 (lo := -9223372036854775808) (hi := 9223372036854775807) rfl rfl h
 exact ⟨n, h1, h2⟩
theorem z6F : Try.prog.cellsOf 52 = 1 := by kernel_rfl
theorem zb4 {wJ : Nat} {cs : List Value} {x : DataW H × List MemPlace} (h : DataW.trod enc Try.prog w base spare held wJ 52 cs = some x) : ∃ a : List Int, zaH a ∧ Rep (KT w) ((eSl 1 false (eI .i64)) a) cs := by
 exact Ka (eI .i64) Ok3 Try.underlying52 z5j (by omega) (fun _ => rfl) (fun _ _ _ q => rd3 q) h
theorem z7P : Try.prog.cellsOf 4 = 1 := by kernel_rfl
theorem rd4 {wJ : Nat} {cs : List Value} {x : DataW H × List MemPlace} (h : DataW.trod enc Try.prog w base spare held wJ 4 cs = some x) : ∃ a : Bool, Ok4 a ∧ Rep (KT w) (eB a) cs := by
 obtain ⟨n, h2⟩ := z4G Try.underlying4 h
 exact ⟨n, trivial, h2⟩
theorem z38 : Try.prog.cellsOf 54 = 2 := by kernel_rfl
theorem zb3 {wJ : Nat} {cs : List Value} {x : DataW H × List MemPlace} (h : DataW.trod enc Try.prog w base spare held wJ 54 cs = some x) : ∃ a : z7, z9T a ∧ Rep (KT w) ((y3 (eSl 1 false (eI .i64)) eB) a) cs := by
 obtain ⟨hl, hf⟩ := X6 Try.underlying54 h
 rw [z38] at hl
 obtain ⟨_, _, q0⟩ := hf 0 _ rfl
 obtain ⟨_, _, q1⟩ := hf 1 _ rfl
 simp only [z7P, z6F] at q0 q1
 obtain ⟨a0, k0, r0⟩ := zb4 q0
 obtain ⟨a1, k1, r1⟩ := rd4 q1
 refine ⟨⟨a0, a1⟩, ⟨k0, k1⟩, ?_⟩
 show Rep (KT w) (.agg [(eSl 1 false (eI .i64)) a0, eB a1]) cs
 simp only [Rep]
 refine Xb (n := 1) (by simpa [List.drop_drop] using r0) (Xb (n := 1) (by simpa [List.drop_drop] using r1) ?_)
 simp only [List.drop_drop, yj]
 exact List.drop_eq_nil_of_le (by omega)
theorem z6H : Try.prog.cellsOf 42 = 1 := by kernel_rfl
theorem zb6 {wJ : Nat} {cs : List Value} {x : DataW H × List MemPlace} (h : DataW.trod enc Try.prog w base spare held wJ 42 cs = some x) : ∃ a : List z7, zaJ a ∧ Rep (KT w) ((eSl 2 false (y3 (eSl 1 false (eI .i64)) eB)) a) cs := by
 exact Ka (y3 (eSl 1 false (eI .i64)) eB) z9T Try.underlying42 z38 (by omega) (fun _ => rfl) (fun _ _ _ q => zb3 q) h
theorem z6G : Try.prog.cellsOf 44 = 2 := by kernel_rfl
theorem zb5 {wJ : Nat} {cs : List Value} {x : DataW H × List MemPlace} (h : DataW.trod enc Try.prog w base spare held wJ 44 cs = some x) : ∃ a : zb, zaI a ∧ Rep (KT w) ((xS (eI .i64) (eSl 2 false (y3 (eSl 1 false (eI .i64)) eB))) a) cs := by
 obtain ⟨hl, hf⟩ := X6 Try.underlying44 h
 rw [z6G] at hl
 obtain ⟨_, _, q0⟩ := hf 0 _ rfl
 obtain ⟨_, _, q1⟩ := hf 1 _ rfl
 simp only [z5j, z6H] at q0 q1
 obtain ⟨a0, k0, r0⟩ := rd3 q0
 obtain ⟨a1, k1, r1⟩ := zb6 q1
 refine ⟨⟨a0, a1⟩, ⟨k0, k1⟩, ?_⟩
 show Rep (KT w) (.agg [(eI .i64) a0, (eSl 2 false (y3 (eSl 1 false (eI .i64)) eB)) a1]) cs
 simp only [Rep]
 refine Xb (n := 1) (by simpa [List.drop_drop] using r0) (Xb (n := 1) (by simpa [List.drop_drop] using r1) ?_)
 simp only [List.drop_drop, yj]
 exact List.drop_eq_nil_of_le (by omega)
end
end Go.Own
namespace Go.Proofs.Ytlejgipmepemjaa.triesForm
open Go Go.ChangeShapes Go.WideShapes Go.ChangeAt Go.RowKit
theorem own : ownKnob Try.prog.godebug = none := by kernel_rfl
theorem z6u : laidOutB Try.prog = true := by kernel_rfl
section
variable {H : Type} {enc : TypeId × Value → H} {W : World}
set_option maxRecDepth 100000 in
theorem zaO {base : Nat} {v0 : Value} {d0 : DataW H} {p0 : List MemPlace} (h0 : DataW.Trod enc Try.prog W 0 (fun _ => true) true 44 v0 d0 p0) (k0 : Value.okWide Try.prog W .any base (44 : Nat) v0) :
  Calls Try.prog 7 #[v0] W fun e w' => e = .returned (.bool true) ∧ Go.Own.kW (fun k => W.heap.size ≤ k) W w' := by
 obtain ⟨n0, h0⟩ := h0
 obtain ⟨x0, o0, r0⟩ := Go.Own.zb5 h0
 have q := (Go.Own.z3O (Go.Own.z1V Go.Own.z85 List.mem_cons_self : Go.Own.uR.Ok Try.prog) (x := x0) (r := true) (Go.Own.z4n o0)).2 (Go.Own.KT W) W [v0] [] (fun _ _ _ h => h) ?_ (by simp)
 ·refine Calls.mono q ?_
  rintro e w' ⟨v, S', F', rfl, hk, _, _, _, hr, _, _⟩
  refine ⟨?_, hk.mono (by rintro k (h | h) <;> simp_all)⟩
  rw [Go.Own.z4t hr]
 ·refine Go.Own.kc ?_
  have g0 : Go.Own.vM (Go.Own.KT W) ((Go.Own.xS (Go.Own.eI .i64) (Go.Own.eSl 2 false (Go.Own.y3 (Go.Own.eSl 1 false (Go.Own.eI .i64)) Go.Own.eB))) x0) v0 := Go.Own.z0m (t := (44 : Nat)) Try.underlying44 r0 k0 rfl
  exact ⟨g0, trivial⟩
end
set_option maxRecDepth 100000 in
theorem z7C (os : Os) (started : os.Started) (H : Type) (enc : TypeId × Value → H) :
  ReturnsInHanded {} Try.checked os 7 .any (Rows.triesFormSpec.pre6 enc Try.prog Try.f7 Rows.triesFormRow.domain false) (Rows.triesFormSpec.post enc Try.prog Try.f7 false true false false) := by
 refine returnsInHanded_of_change (C := Try.checked) own started (by kernel_rfl) Try.func7
  (ChangeSpec.witness6 (enc := enc) (C := Try.checked) false ⟨#[], #[.agg #[.int .i64 0, .slice none 0 0]], []⟩ 8 (by kernel_rfl) (by kernel_rfl) (by kernel_rfl) (by kernel_rfl)) ?_
 intro W base args ds gs before hval0 hW hcnd _
 have hval : ∀ (j : Nat) t v, Try.f7.params[j]? = some t → args[j]? = some v → Value.okWide Try.prog W .any base t v := hval0
 have hW' := hW
 obtain ⟨p, q, hA0, hV, rfl, hfz, hnd⟩ := hW
 have hA : DataW.TrodAll enc Try.prog W 0 (fun _ => true) true Try.f7.params.toList args.toList ds p := hA0
 rw [Try.params7] at hA hval
 obtain ⟨v0, d0, rfl, rfl, h0⟩ := trodAll_one hA
 obtain ⟨rfl, rfl⟩ := trodVars_none hV
 clear hA0 hval0
 refine (zaO h0 (hval 0 (44 : Nat) v0 rfl rfl)).mono fun e W' ⟨he, hk⟩ => ?_
 subst he
 have hb : Below W.heap.size W W' := ⟨hk.os, hk.tape, hk.output, hk.size, fun k q => hk.block k (by omega)⟩
 have hlt : ∀ x ∈ p, x.block < W.heap.size := fun x hx => by simpa using hW'.lt x (by simpa using hx)
 refine ⟨_, rfl, Go.Own.z2x rfl rfl hW' hb (fun _ _ _ => trodAll_cons_mk (shut_bool Try.underlying4 _) trodAll_mk0) (fun sp hsp => ?_) (ok_one (by kernel_rfl) rfl (okWide_bool_mk Try.underlying4 _))⟩
 have st : ∀ {t : Nat} {v : Value} {d : DataW H} {p' : List MemPlace}, DataW.Trod enc Try.prog W 0 (fun _ => true) true t v d p' → Try.prog.readableRec t = true → t < Try.prog.types.size → (∀ x ∈ p', x ∈ p) → DataW.Trod enc Try.prog W' 0 sp true t v d p' := by
  intro t v d p' hd h1 h2 hp
  exact WideElems.Trod_stays z6u h1 h2 hd (fun x hx => hb.same (hlt x (hp x hx))) (fun x hx => hsp x (by simpa using hp x hx))
 have := trodAll_mk1 (st h0 (by kernel_rfl) (of_decide_eq_true (by kernel_rfl)) (fun x hx => by simp [hx]))
 rw [Try.params7]
 exact this
theorem ZL : Rows.triesFormRow.holds Try.pinned (OpenSpec.ofChange Rows.triesFormSpec) :=
 OpenClaim.holds_of_wide 7 Try.f7 rfl rfl rfl rfl rfl rfl rfl ⟨rfl, rfl, rfl, rfl, rfl⟩ rfl rfl rfl rfl rfl (by kernel_rfl) Try.func7 (by kernel_rfl)
  (of_decide_eq_true (by kernel_rfl)) (by unfold Func.isWrapper; first | (rw [if_pos (by decide +kernel)]; kernel_rfl) | (rw [if_neg (by decide +kernel)]; exact ⟨rfl, rfl⟩))
  (fun os started H enc _ => z7C os started H enc)
theorem proved : Rows.TriesFormSaid :=
 ZL
#print axioms proved
end Go.Proofs.Ytlejgipmepemjaa.triesForm
