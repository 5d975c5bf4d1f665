/- -/
import Derived.Test.YtkelmheleahmpaaDoorPartF
import Derived.Test.YtkelmheleahmpaaDoorPartE
import Derived.Test.YtkelmheleahmpaaDoorPartB
import Derived.OpenShut
import Derived.ChangeShapes
import Derived.Stop.LaidErr
import Derived.Test.YtkelmheleahmpaaDoorPartC
import Derived.WalkKit
import Derived.ProofKit
import Derived.Carry
import Derived.Test.YtkelmheleahmpaaDoorRows
import Derived.Test.YtkelmheleahmpaaDoorChecked
import Derived.LaidMore
import Derived.Stop.Joined
import Derived.SevenTiedAt
import Derived.Test.YtkelmheleahmpaaDoorCards
import Derived.Test.YtkelmheleahmpaaDoorTie
import Derived.MakeChecks
noncomputable section
set_option linter.unusedVariables false
set_option linter.unusedSimpArgs false
namespace Go.Own
def Qs (k : Nat) : List Nat → Nat
 | [] => 0
 | d :: r => d + k * Qs k r
variable {k : Nat}
theorem z1W {k : Nat} : ∀ {r : List Nat}, (∀ d ∈ r, d < k) → Qs k r < k ^ r.length
 | [], _ => by simp [Qs]
 | d :: r, h => by
  have ih := z1W (k := k) (r := r) fun x hx => h x (by simp [hx])
  have hd := h d (by simp)
  simp only [Qs, List.length_cons, Nat.pow_succ]
  have : k * (Qs k r + 1) ≤ k * k ^ r.length := Nat.mul_le_mul_left k ih
  rw [Nat.mul_add, Nat.mul_one] at this
  rw [Nat.mul_comm (k ^ r.length) k]
  omega
theorem z0j : ∀ {r s : List Nat}, r.length = s.length → (∀ d ∈ r, d < k) → (∀ d ∈ s, d < k) → Qs k r = Qs k s → r = s
 | [], [], _, _, _, _ => rfl
 | [], _ :: _, h, _, _, _ => by simp at h
 | _ :: _, [], h, _, _, _ => by simp at h
 | d :: r, e :: s, h, h1, h2, hv => by
  have hd := h1 d (by simp)
  have he := h2 e (by simp)
  simp only [Qs] at hv
  have a1 : (d + k * Qs k r) % k = d := by rw [Nat.add_mul_mod_self_left, Nat.mod_eq_of_lt hd]
  have a2 : (e + k * Qs k s) % k = e := by rw [Nat.add_mul_mod_self_left, Nat.mod_eq_of_lt he]
  have hde : d = e := by rw [← a1, ← a2, hv]
  subst hde
  have hk : 0 < k := by omega
  have : k * Qs k r = k * Qs k s := by omega
  have := Nat.eq_of_mul_eq_mul_left hk this
  rw [z0j (by simpa using h) (fun x hx => h1 x (by simp [hx])) (fun x hx => h2 x (by simp [hx])) this]
def GG (k : Nat) : Nat → Nat
 | 0 => 0
 | n + 1 => GG k n + k ^ n
theorem z8i {k n m : Nat} (h : n ≤ m) : GG k n ≤ GG k m := by
 induction h with
 | refl => exact Nat.le_refl _
 | step _ ih => exact Nat.le_trans ih (Nat.le_add_right _ _)
def rk (k : Nat) (w : List Nat) : Nat := GG k w.length + Qs k w.reverse
def Wd (k : Nat) (w : List Nat) : Prop := ∀ i ∈ w, i < k
variable {w : List Nat}
theorem Wd.rev (h : Wd k w) : ∀ d ∈ w.reverse, d < k := fun d hd => h d (by simpa using hd)
theorem zbG (h : Wd k w) : rk k w < GG k (w.length + 1) := by
 have := z1W h.rev
 rw [List.length_reverse] at this
 show GG k w.length + Qs k w.reverse < GG k w.length + k ^ w.length
 omega
theorem z0A {k : Nat} {w u : List Nat} (hw : Wd k w) (h : w.length < u.length) : rk k w < rk k u := by
 have h1 := zbG hw
 have h2 := z8i (k := k) (show w.length + 1 ≤ u.length from h)
 unfold rk at *
 omega
theorem z9c {w u : List Nat} (hw : Wd k w) (hu : Wd k u) (h : rk k w = rk k u) : w = u := by
 have hl : w.length = u.length := by
  rcases Nat.lt_trichotomy w.length u.length with q | q | q
  ·have := z0A hw q; omega
  ·exact q
  ·have := z0A hu q; omega
 have hv : Qs k w.reverse = Qs k u.reverse := by unfold rk at h; rw [hl] at h; omega
 have := z0j (by simpa using hl) hw.rev hu.rev hv
 simpa using congrArg List.reverse this
section
variable {m : z8}
theorem z3T (h : VM m) : ∀ (w : List Nat) (s : Int), z8v m s → Wd (kk m) w → z8v m (aft m s w)
 | [], s, hs, _ => hs
 | i :: w, s, hs, hw => z3T h w _ (zbI h hs (hw i (by simp))) fun j hj => hw j (by simp [hj])
end
theorem z0g (m : z8) : ∀ (u w : List Nat) (s : Int), aft m s (u ++ w) = aft m (aft m s u) w
 | [], _, _ => rfl
 | i :: u, w, s => by simp only [List.cons_append, aft, z0g m u w]
theorem z0f (m : z8) : ∀ (w : List Nat) (s : Int), s < 0 → aft m s w < 0
 | [], s, h => h
 | i :: w, s, h => by
  simp only [aft, nxE, if_pos h]
  exact z0f m w (-1) (by omega)
structure Acc (m : z8) (t : Nat) (v : List Nat) : Prop where
 wd : Wd (kk m) v
 len : v.length < m.Rows.length
 aft : aft m 0 v = (t : Int)
 least : ∀ u, Wd (kk m) u → Go.Own.aft m 0 u = (t : Int) → rk (kk m) v ≤ rk (kk m) u
section
variable {m : z8} (h : VM m) (hG : GG (kk m) m.Rows.length ≤ 1000000000)
include h hG
def z40 (m : z8) (r : List (List Int) × List Bool) : Prop :=
 r.1.length = m.Rows.length ∧ r.2.length = m.Rows.length ∧ ∀ t, t < m.Rows.length →
  (r.2[t]? = some true ∧ ∃ v : List Nat, r.1[t]? = some (v.map Int.ofNat) ∧ Acc m t v) ∨ (r.2[t]? = some false ∧ ∀ u, Wd (kk m) u → aft m 0 u ≠ (t : Int))
end
variable {m : z8}{s : Nat}
theorem z5N {v w : List Nat} (hv : Acc m s v) (hw : Acc m s w) : v = w :=
 z9c hv.wd hw.wd (Nat.le_antisymm (hv.least w hw.wd hw.aft) (hw.least v hv.wd hv.aft))
def Rch (m : z8) (t : Nat) : Prop := ∃ u, Wd (kk m) u ∧ aft m 0 u = (t : Int)
theorem z5S {out : List Bool} {j t : Nat} (hj : j < out.length) : (out.set j true)[t]? = some true ↔ t = j ∨ out[t]? = some true := by
 by_cases e : t = j
 ·subst e; simp [hj]
 ·rw [List.getElem?_set_ne (Ne.symm e)]
  exact ⟨.inr, fun q => q.resolve_left e⟩
section
variable {m : z8} (h : VM m)
include h
omit h in theorem rch_step {s i : Nat} (hs : Rch m s) (hi : i < kk m) (h0 : 0 ≤ (E m s i).To) : Rch m (E m s i).To.toNat := by
 obtain ⟨u, hu, e⟩ := hs
 refine ⟨u ++ [i], fun j hj => ?_, ?_⟩
 ·rcases List.mem_append.1 hj with q | q
  ·exact hu j q
  ·have : j = i := by simpa using q
   omega
 ·have := (V2 m u 0 i).2
  rw [e, QM] at this
  rw [this]
  omega
end
def vw : List Int → List Int → Int
 | [], [] => 0
 | [], _ :: _ => -1
 | _ :: _, [] => 1
 | x :: a, y :: b => if x < y then -1 else if y < x then 1 else vw a b
def kr (a b : List Int) : Int := if a.length < b.length then -1 else if b.length < a.length then 1 else vw a b
theorem z2Z : ∀ {a b : List Int}, vw a b = 0 → a = b
 | [], [], _ => rfl
 | [], _ :: _, h => by simp [vw] at h
 | _ :: _, [], h => by simp [vw] at h
 | x :: a, y :: b, h => by
  simp only [vw] at h
  split at h
  ·simp at h
  ·split at h
   ·simp at h
   ·rw [show x = y by omega, z2Z h]
theorem K6 : ∀ a : List Int, vw a a = 0
 | [] => rfl
 | x :: a => by simp [vw, K6 a]
theorem z0Q : ∀ a b : List Int, vw b a = - vw a b
 | [], [] => rfl
 | [], _ :: _ => rfl
 | _ :: _, [] => rfl
 | x :: a, y :: b => by
  simp only [vw]
  split
  ·rw [if_neg (by omega)]
  ·split
   ·rfl
   ·exact z0Q a b
theorem UY : ∀ {a b c : List Int}, vw a b < 0 → vw b c < 0 → vw a c < 0
 | [], [], _, h, _ => by simp [vw] at h
 | [], _ :: _, [], _, h => by simp [vw] at h
 | [], _ :: _, _ :: _, _, _ => by simp [vw]
 | _ :: _, [], _, h, _ => by simp [vw] at h
 | _ :: _, _ :: _, [], _, h => by simp [vw] at h
 | x :: a, y :: b, z :: c, h1, h2 => by
  simp only [vw] at h1 h2 ⊢
  by_cases e1 : x < y
  ·by_cases e2 : y < z
   ·rw [if_pos (by omega)]; omega
   ·rw [if_neg e2] at h2
    by_cases e3 : z < y
    ·rw [if_pos e3] at h2; omega
    ·rw [if_pos (by omega)]; omega
  ·rw [if_neg e1] at h1
   by_cases e3 : y < x
   ·rw [if_pos e3] at h1; omega
   ·rw [if_neg e3] at h1
    have : x = y := by omega
    subst this
    by_cases e2 : x < z
    ·rw [if_pos e2]; omega
    ·rw [if_neg e2] at h2 ⊢
     by_cases e4 : z < x
     ·rw [if_pos e4] at h2; omega
     ·rw [if_neg e4] at h2 ⊢
      exact UY h1 h2
variable {a b : List Int}
theorem z0a (h : kr a b = 0) : a = b := by
 unfold kr at h
 split at h
 ·simp at h
 ·split at h
  ·simp at h
  ·exact z2Z h
theorem Uk (a : List Int) : kr a a = 0 := by simp [kr, K6]
theorem z1c : kr a b = 0 ↔ a = b := ⟨z0a, fun h => h ▸ Uk a⟩
theorem z1b (a b : List Int) : kr b a = - kr a b := by
 unfold kr
 by_cases h1 : a.length < b.length
 ·rw [if_pos h1, if_neg (by omega), if_pos h1]; rfl
 ·by_cases h2 : b.length < a.length
  ·rw [if_pos h2, if_neg h1, if_pos h2]
  ·rw [if_neg h1, if_neg h2, if_neg h2, if_neg h1, z0Q]
theorem kF {a b c : List Int} (h1 : kr a b < 0) (h2 : kr b c < 0) : kr a c < 0 := by
 unfold kr at *
 by_cases e1 : a.length < b.length
 ·by_cases e2 : b.length < c.length
  ·rw [if_pos (by omega)]; omega
  ·rw [if_neg e2] at h2
   by_cases e3 : c.length < b.length
   ·rw [if_pos e3] at h2; omega
   ·rw [if_pos (by omega)]; omega
 ·rw [if_neg e1] at h1
  by_cases e3 : b.length < a.length
  ·rw [if_pos e3] at h1; omega
  ·rw [if_neg e3] at h1
   have e : a.length = b.length := by omega
   rw [e]
   by_cases e2 : b.length < c.length
   ·rw [if_pos e2]; omega
   ·rw [if_neg e2] at h2 ⊢
    by_cases e4 : c.length < b.length
    ·rw [if_pos e4] at h2; omega
    ·rw [if_neg e4] at h2 ⊢
     exact UY h1 h2
theorem Vd (a : List Int) : ¬ kr a a < 0 := by rw [Uk]; omega
theorem z3x (h : kr a b < 0) : ¬ kr b a < 0 := by rw [z1b a b]; omega
theorem z09 : ¬ kr a b < 0 ↔ kr b a < 0 ∨ a = b := by
 rw [← z1c, z1b a b]; omega
def SW (l : List (List Int)) : Prop := l.Pairwise fun a b => kr a b < 0
theorem SW.nil : SW [] := List.Pairwise.nil
variable {l : List (List Int)}{x : List Int}
theorem SW.tail (h : SW (x :: l)) : SW l := (List.pairwise_cons.1 h).2
theorem SW.head (h : SW (x :: l)) : ∀ y ∈ l, kr x y < 0 := (List.pairwise_cons.1 h).1
theorem SW.unique : ∀ {l m : List (List Int)}, SW l → SW m → (∀ x, x ∈ l ↔ x ∈ m) → l = m
 | [], [], _, _, _ => rfl
 | [], y :: m, _, _, h => by have := (h y).2 (by simp); simp at this
 | x :: l, [], _, _, h => by have := (h x).1 (by simp); simp at this
 | x :: l, y :: m, h1, h2, h => by
  have hxy : x = y := by
   rcases List.mem_cons.1 ((h x).1 (by simp)) with e | e
   ·exact e
   ·rcases List.mem_cons.1 ((h y).2 (by simp)) with e' | e'
    ·exact e'.symm
    ·exact absurd (h2.head x e) (z3x (h1.head y e'))
  subst hxy
  rw [SW.unique h1.tail h2.tail fun z => ?_]
  constructor
  ·intro hz
   rcases List.mem_cons.1 ((h z).1 (by simp [hz])) with e | e
   ·subst e; exact absurd (h1.head _ hz) (Vd _)
   ·exact e
  ·intro hz
   rcases List.mem_cons.1 ((h z).2 (by simp [hz])) with e | e
   ·subst e; exact absurd (h2.head _ hz) (Vd _)
   ·exact e
theorem SW.nodup (h : SW l) : l.Nodup := List.Pairwise.imp (fun {a b} q e => by subst e; exact Vd _ q) h
def Kz (w : List Int) : List (List Int) → List (List Int)
 | [] => [w]
 | x :: l => if kr x w < 0 then x :: Kz w l else if kr x w = 0 then x :: l else w :: x :: l
theorem QP {w x : List Int} : ∀ {l : List (List Int)}, x ∈ Kz w l ↔ x = w ∨ x ∈ l
 | [] => by simp [Kz]
 | y :: l => by
  simp only [Kz]
  split
  ·simp only [List.mem_cons, QP]
   constructor
   ·rintro (h | h | h) <;> simp [h]
   ·rintro (h | h | h) <;> simp [h]
  ·split
   ·rename_i h1 h2
    have := z0a h2
    subst this
    simp
   ·simp
theorem SW.put {w : List Int} : ∀ {l : List (List Int)}, SW l → SW (Kz w l)
 | [], _ => by simp [Kz, SW]
 | y :: l, h => by
  simp only [Kz]
  split
  ·rename_i h1
   refine List.pairwise_cons.2 ⟨fun z hz => ?_, SW.put h.tail⟩
   rcases QP.1 hz with rfl | hz
   ·exact h1
   ·exact h.head z hz
  ·split
   ·exact h
   ·rename_i h1 h2
    have hw : kr w y < 0 := by
     rcases z09.1 h1 with q | q
     ·exact q
     ·exact absurd (z1c.2 q) h2
    refine List.pairwise_cons.2 ⟨fun z hz => ?_, h⟩
    rcases List.mem_cons.1 hz with rfl | hz
    ·exact hw
    ·exact kF hw (h.head z hz)
theorem z0E (w : List Int) : ∀ l, (Kz w l).length ≤ l.length + 1
 | [] => by simp [Kz]
 | y :: l => by
  simp only [Kz]
  split
  ·have := z0E w l; simp; omega
  ·split <;> simp
def srt (l : List (List Int)) : List (List Int) := l.foldl (fun m w => Kz w m) []
theorem KJ : ∀ (l m : List (List Int)), SW m → SW (l.foldl (fun m w => Kz w m) m) ∧ ∀ x, x ∈ l.foldl (fun m w => Kz w m) m ↔ x ∈ m ∨ x ∈ l
 | [], m, h => ⟨h, by simp⟩
 | w :: l, m, h => by
  obtain ⟨h1, h2⟩ := KJ l (Kz w m) h.put
  refine ⟨h1, fun x => ?_⟩
  rw [List.foldl_cons, h2, QP]
  simp only [List.mem_cons]
  constructor
  ·rintro ((h | h) | h) <;> simp [h]
  ·rintro (h | h | h) <;> simp [h]
theorem z0s (l : List (List Int)) : SW (srt l) := (KJ l [] .nil).1
theorem Y4 : x ∈ srt l ↔ x ∈ l := by rw [srt, (KJ l [] .nil).2]; simp
theorem z2c {l m : List (List Int)} (h : SW m) (hm : ∀ x, x ∈ m ↔ x ∈ l) : m = srt l := h.unique (z0s l) fun x => by rw [hm, Y4]
theorem Jz (h : SW l) : srt l = l := (z2c h fun _ => .rfl).symm
theorem z2d {l m : List (List Int)} (h : ∀ x, x ∈ l ↔ x ∈ m) : srt l = srt m := z2c (z0s l) fun x => by rw [Y4, h]
theorem z2b (l : List (List Int)) : (srt l).length ≤ l.length := by
 have : ∀ (l m : List (List Int)), (l.foldl (fun m w => Kz w m) m).length ≤ m.length + l.length := by
  intro l
  induction l with
  | nil => intro m; simp
  | cons w l ih => intro m; have := ih (Kz w m); have := z0E w m; simp only [List.foldl_cons, List.length_cons]; omega
 have q := this l []
 simp only [List.length_nil, Nat.zero_add] at q
 exact q
variable {α : Type}{i : Nat}
theorem wg {l : List α}  {x : α} (h : l[i]? = some x) : idx l (i : Int) = some x := h
theorem z6m (b : List Int) (g : Nat → Int → Option Int) (hg : ∀ i x y, b[i]? = some y → g i x = if x < y then some (-1) else if y < x then some 1 else none) :
  ∀ (a : List Int) (k : Nat), k + a.length = b.length → (xC g a k).getD 0 = vw a (b.drop k)
 | [], k, h => by
  have : b.drop k = [] := List.drop_eq_nil_of_le (by simp at h; omega)
  rw [this]; rfl
 | x :: a, k, h => by
  simp only [List.length_cons] at h
  have hk : k < b.length := by omega
  rw [List.drop_eq_getElem_cons hk]
  simp only [xC, vw, hg k x b[k] (List.getElem?_eq_getElem hk)]
  by_cases h1 : x < b[k]
  ·simp [h1]
  ·by_cases h2 : b[k] < x
   ·simp [h1, h2]
   ·simp only [h1, h2, if_false]
    exact z6m b g hg a (k + 1) (by omega)
def cI (x y : Int) : Int := if x < y then -1 else if y < x then 1 else 0
theorem z3w (x y : Int) : wM x y = some (cI x y) := by
 unfold wM uG cI
 simp only [bne_self_eq_false, Option.bind_some, cond_false]
 by_cases h1 : x < y
 ·simp [h1]
 ·by_cases h2 : y < x
  ·simp [h1, h2]
  ·simp [h1, h2]
theorem z7t (a b : List Int) (h : a.length < 4611686018427387904) : ∃ c, xh a b = some c ∧ (a.length = b.length → c = vw a b) := by
 unfold xh
 have hloop := kA a h (step := fun s => yj a b s) (fun i x => match b[i]? with | some y => if x < y then some (-1 : Int) else if y < x then some 1 else none | none => some 1) (by
  intro i x hx
  have hi : i < a.length := (List.getElem?_eq_some_iff.1 hx).1
  unfold yj
  have hc : decide ((i : Int) < (a.length : Int)) = true := by simpa using hi
  simp only [hc, cond_true, wg hx, Option.bind_some]
  by_cases hb : i < b.length
  ·have hy : b[i]? = some b[i] := List.getElem?_eq_getElem hb
   have hd : decide ((i : Int) ≥ (b.length : Int)) = false := by simp; omega
   simp only [hd, cond_false, wg hy, hy, Option.bind_some, z3w]
   unfold cI
   by_cases h1 : x < b[i]
   ·simp [h1, nS]
   ·by_cases h2 : b[i] < x
    ·simp [h1, h2, nS]
    ·simp [h1, h2, nS]
  ·have hy : b[i]? = none := List.getElem?_eq_none (by omega)
   have hd : decide ((i : Int) ≥ (b.length : Int)) = true := by simp; omega
   simp only [hd, cond_true, hy, nS]) (by unfold yj; simp)
 rw [bdT hloop]
 have q := fun hl => z6m b (fun i x => match b[i]? with | some y => if x < y then some (-1 : Int) else if y < x then some 1 else none | none => some 1) (fun i x y hy => by simp only [hy]) a 0 hl
 cases hf : xC (fun i x => match b[i]? with | some y => if x < y then some (-1 : Int) else if y < x then some 1 else none | none => some 1) a 0 with
 | some r =>
  refine ⟨r, rfl, fun hl => ?_⟩
  have := q (by omega)
  rw [hf] at this
  simpa using this
 | none =>
  unfold xv
  by_cases hl : a.length < b.length
  ·refine ⟨-1, by simp [oS, hl], fun hl2 => by omega⟩
  ·refine ⟨0, by simp [oS, hl], fun hl2 => ?_⟩
   have := q (by omega)
   rw [hf] at this
   simpa using this
theorem zeb (x y : Int) : kE [x, y] = some (if x = 0 then y else x) := by
 unfold kE
 rw [bdT (kA [x, y] (by simp) (step := fun s => vK [x, y] s) (fun i v => if v ≠ 0 then some v else none) ?_ ?_)]
 ·by_cases h1 : x = 0
  ·by_cases h2 : y = 0
   ·simp [xC, h1, h2, oS, jm]
   ·simp [xC, h1, h2, oS]
  ·simp [xC, h1, oS]
 ·intro i v hv
  have hi : i < [x, y].length := (List.getElem?_eq_some_iff.1 hv).1
  unfold vK
  have hc : decide ((i : Int) < (([x, y] : List Int).length : Int)) = true := by simp only [decide_eq_true_eq]; omega
  simp only [hc, cond_true, wg hv, Option.bind_some]
  by_cases h : v = 0
  ·simp [h, nS]
  ·have hb : (v != 0) = true := by simpa using h
   simp [h, hb, nS]
 ·unfold vK; simp
theorem Wp (a b : List Int) (h : a.length < 4611686018427387904) : yK a b = some (kr a b) := by
 unfold yK
 obtain ⟨c, hc, hl⟩ := z7t a b h
 rw [z3w, hc]
 simp only [Option.bind_some, zeb]
 unfold cI kr
 by_cases h1 : a.length < b.length
 ·simp [h1]
 ·by_cases h2 : b.length < a.length
  ·simp [h1, h2]
  ·simp [h1, h2, hl (by omega)]
def wE (n : Int) (w : List Int) : Int := if 256 < w.length then 3 else if w.any (fun c => decide (c < 0) || decide (n ≤ c)) then 1 else 0
variable {n : Int}
theorem z1U {w : List Int} : wE n w = 0 ↔ w.length ≤ 256 ∧ ∀ c ∈ w, 0 ≤ c ∧ c < n := by
 unfold wE
 by_cases h : 256 < w.length
 ·rw [if_pos h]
  exact ⟨fun q => by simp at q, fun q => by omega⟩
 ·rw [if_neg h]
  by_cases h2 : w.any (fun c => decide (c < 0) || decide (n ≤ c)) = true
  ·rw [if_pos h2]
   simp only [List.any_eq_true, Bool.or_eq_true, decide_eq_true_eq] at h2
   obtain ⟨c, h3, h4⟩ := h2
   refine ⟨fun q => by simp at q, fun q => ?_⟩
   have := q.2 c h3
   omega
  ·rw [if_neg h2]
   simp only [List.any_eq_true, Bool.or_eq_true, decide_eq_true_eq, not_exists, not_and, not_or] at h2
   refine ⟨fun _ => ⟨by omega, fun c hc => ?_⟩, fun _ => rfl⟩
   have := h2 c hc
   omega
variable {ρ : Type}
theorem z6n (p : Int → Bool) (g : Nat → Int → Option ρ) (hg : ∀ i x, (g i x).isSome = p x) : ∀ (w : List Int) (k : Nat), (xC g w k).isSome = w.any p
 | [], k => rfl
 | x :: w, k => by
  simp only [xC, List.any_cons]
  have := hg k x
  cases hx : g k x with
  | some r => rw [hx] at this; simp at this; simp [← this]
  | none => rw [hx] at this; simp at this; rw [this, Bool.false_or]; exact z6n p g hg w (k + 1)
theorem z1V (n : Int) (w : List Int) : uU w n = some (if 16 < n then 3 else if 256 < w.length then 3 else if n < 1 then 1 else wE n w) := by
 unfold uU
 by_cases h0 : 16 < n
 ·simp [h0]
 by_cases h : 256 < w.length
 ·have h' : (256 : Int) < (w.length : Int) := by omega
  simp [h0, h, h']
 by_cases h1 : n < 1
 ·have h' : ¬ (256 : Int) < (w.length : Int) := by omega
  simp [h0, h, h', h1]
 ·have hd : decide (((w.length : Nat) : Int) > 256) = false := by simp; omega
  have hd0 : decide (n > 16) = false := by simp; omega
  have hd1 : decide (n < 1) = false := by simp; omega
  simp only [hd, hd0, hd1, cond_false, if_neg h, if_neg h0, if_neg h1]
  unfold yX xI wE
  have hl := kA w (by omega) (step := fun s => yb w n s) (fun i c => if c < 0 ∨ n ≤ c then some (i : Int) else none) (by
   intro i c hc
   have hi : i < w.length := (List.getElem?_eq_some_iff.1 hc).1
   unfold yb je
   have hq : decide ((i : Int) < (w.length : Int)) = true := by simpa using hi
   simp only [hq, cond_true, wg hc, Option.bind_some]
   by_cases h1 : c < 0
   ·simp [h1, nS]
   ·by_cases h2 : n ≤ c
    ·simp [h1, h2, nS]
    ·simp [h1, h2, nS]) (by unfold yb; simp)
  rw [bdT hl, if_neg h]
  have q := z6n (fun c => decide (c < 0) || decide (n ≤ c)) (fun i c => if c < 0 ∨ n ≤ c then some (i : Int) else none) (fun i c => by by_cases h : c < 0 ∨ n ≤ c <;> simp [h] <;> simpa using h) w 0
  cases hf : xC (fun i c => if c < 0 ∨ n ≤ c then some (i : Int) else none) w 0 with
  | none => rw [hf] at q; rw [← q]; rfl
  | some r =>
   rw [hf] at q
   obtain ⟨i, x, h1, h2⟩ := jE hf
   rw [← q]
   split at h2
   ·cases h2
    simp [oS]
   ·cases h2
def eS (e : Int) : Option Int := if e = 0 then none else some e
def loE (n : Int) (l : List (List Int)) : Int := if 16 < n then 3 else if 4096 < l.length then 3 else if n < 1 then 1 else (xC (fun _ w => eS (wE n w)) l 0).getD 0
theorem z0Z : ∀ {l : List (List Int)} {k : Nat}, (xC (fun _ w => eS (wE n w)) l k).getD 0 = 0 ↔ ∀ w ∈ l, wE n w = 0
 | [], _ => by simp [xC]
 | w :: l, k => by
  by_cases h : wE n w = 0
  ·have : eS (wE n w) = none := by simp [eS, h]
   simp only [xC, this]
   rw [z0Z]
   simp [h]
  ·have : eS (wE n w) = some (wE n w) := by simp [eS, h]
   simp [xC, this, h]
theorem V8 : loE n l = 0 ↔ (1 ≤ n ∧ n ≤ 16) ∧ l.length ≤ 4096 ∧ ∀ w ∈ l, w.length ≤ 256 ∧ ∀ c ∈ w, 0 ≤ c ∧ c < n := by
 unfold loE
 by_cases h0 : 16 < n
 ·rw [if_pos h0]; exact ⟨fun q => by simp at q, fun q => by omega⟩
 by_cases h1 : 4096 < l.length
 ·rw [if_neg h0, if_pos h1]; exact ⟨fun q => by simp at q, fun q => by omega⟩
 by_cases h2 : n < 1
 ·rw [if_neg h0, if_neg h1, if_pos h2]; exact ⟨fun q => by simp at q, fun q => by omega⟩
 rw [if_neg h0, if_neg h1, if_neg h2, z0Z]
 constructor
 ·intro q; exact ⟨by omega, by omega, fun w hw => z1U.1 (q w hw)⟩
 ·intro q w hw; exact z1U.2 (q.2.2 w hw)
theorem z0P (l : List (List Int)) (n : Int) : uX l n = some (loE n l) := by
 unfold uX loE
 by_cases h0 : 16 < n
 ·simp [h0]
 by_cases h1 : 4096 < l.length
 ·have h' : (4096 : Int) < (l.length : Int) := by omega
  simp [h0, h1, h']
 by_cases h2 : n < 1
 ·have h' : ¬ (4096 : Int) < (l.length : Int) := by omega
  simp [h0, h1, h2, h']
 have d0 : decide (n > 16) = false := by simp; omega
 have d1 : decide (((l.length : Nat) : Int) > 4096) = false := by simp; omega
 have d2 : decide (n < 1) = false := by simp; omega
 simp only [d0, d1, d2, cond_false, if_neg h0, if_neg h1, if_neg h2]
 rw [bdT (kA l (by omega) (step := fun s => vd l n s) (fun _ w => eS (wE n w)) ?_ ?_)]
 ·cases xC (fun _ w => eS (wE n w)) l 0 <;> rfl
 ·intro i w hw
  have hi : i < l.length := (List.getElem?_eq_some_iff.1 hw).1
  have hq : decide ((i : Int) < (l.length : Int)) = true := by simpa using hi
  have he : uU w n = some (wE n w) := by
   rw [z1V, if_neg h0, if_neg h2]
   by_cases h : 256 < w.length
   ·rw [if_pos h]; unfold wE; rw [if_pos h]
   ·rw [if_neg h]
  unfold vd
  simp only [hq, cond_true, wg hw, Option.bind_some, he]
  by_cases hz : wE n w = 0
  ·simp [hz, eS, nS]
  ·have hb : (wE n w != 0) = true := by simpa using hz
   simp [hz, hb, eS, nS]
 ·unfold vd; simp
theorem z4W (l : List (List Int)) (hl : l.length < 4611686018427387904) {step : Int × Int → Option (LR (Int × Int) Int)}
  (h : ∀ (n : Int) (i : Nat) (x : List Int), l[i]? = some x → step (n, (i : Int)) = some (.next (w64 (n + ((x.length : Nat) : Int)), w64 ((i : Int) + 1)))) (h2 : ∀ n, step (n, (l.length : Int)) = some (.done n)) :
  loop step (0, 0) = some (l.foldl (fun n x => w64 (n + ((x.length : Nat) : Int))) 0) := by
 have gen : ∀ (m k : Nat) (n : Int), k ≤ l.length → l.length - k < m → YV step m (n, (k : Int)) = some ((l.drop k).foldl (fun n x => w64 (n + ((x.length : Nat) : Int))) n) := by
  intro m
  induction m with
  | zero => intro k n _ h; omega
  | succ m ih =>
   intro k n hk hn
   rw [kB]
   rcases Nat.lt_or_ge k l.length with hlt | hge
   ·have hx : l[k]? = some l[k] := List.getElem?_eq_getElem hlt
    rw [h n k _ hx, List.drop_eq_getElem_cons hlt]
    simp only [List.foldl_cons]
    rw [jX (x := (k : Int) + 1) (by omega) (by omega)]
    exact ih (k + 1) _ hlt (by omega)
   ·have : k = l.length := by omega
    subst this
    rw [h2, List.drop_length]
    rfl
 exact gen fuel 0 0 (Nat.zero_le _) (by show l.length - 0 < 18446744073709551616; omega)
def stW (l : List (List Int)) : Int := l.foldl (fun n x => w64 (n + ((x.length : Nat) : Int))) 0
theorem z0n (l : List (List Int)) (hl : l.length < 4611686018427387904) : uW l = some (stW l) := by
 unfold uW
 rw [bdT (z4W l hl (step := fun s => va l s.1 s.2) ?_ ?_)]
 ·rfl
 ·intro n i x hx
  have hi : i < l.length := (List.getElem?_eq_some_iff.1 hx).1
  have hq : decide ((i : Int) < (l.length : Int)) = true := by simpa using hi
  unfold va
  simp only [hq, cond_true, wg hx, Option.bind_some]
 ·intro n; unfold va; simp
def XY (l : List (List Int)) : Nat := (l.map List.length).sum
theorem z5V (h : XY l < 4611686018427387904) : stW l = (XY l : Int) := by
 have gen : ∀ (l : List (List Int)) (n : Nat), n + XY l < 4611686018427387904 → l.foldl (fun n x => w64 (n + ((x.length : Nat) : Int))) (n : Int) = ((n + XY l : Nat) : Int) := by
  intro l
  induction l with
  | nil => intro n _; simp [XY]
  | cons x l ih =>
   intro n hn
   have hs : XY (x :: l) = x.length + XY l := by simp [XY]
   rw [hs] at hn ⊢
   rw [List.foldl_cons, jX (by omega) (by omega), ← Int.natCast_add, ih (n + x.length) (by omega)]
   congr 1; omega
 have := gen l 0 (by omega)
 simpa [stW] using this
theorem KH {m : Nat} (h : ∀ w ∈ l, w.length ≤ m) : XY l ≤ l.length * m := by
 induction l with
 | nil => simp [XY]
 | cons x l ih =>
  have hs : XY (x :: l) = x.length + XY l := by simp [XY]
  have h1 := h x (by simp)
  have h2 := ih fun w hw => h w (by simp [hw])
  rw [hs, List.length_cons, Nat.add_mul]
  omega
theorem z0m : ∀ {l : List (List Int)}, SW l ↔ ∀ i x y, l[i]? = some x → l[i + 1]? = some y → kr x y < 0
 | [] => by simp [SW]
 | [x] => ⟨fun _ i a b _ h2 => by simp at h2, fun _ => by simp [SW]⟩
 | x :: y :: l => by
  constructor
  ·intro h i a b h1 h2
   cases i with
   | zero =>
    simp at h1 h2
    subst h1; subst h2
    exact h.head y (by simp)
   | succ i => exact z0m.1 h.tail i a b (by simpa using h1) (by simpa using h2)
  ·intro h
   have ht : SW (y :: l) := z0m.2 fun i a b h1 h2 => h (i + 1) a b (by simpa using h1) (by simpa using h2)
   have h0 := h 0 x y rfl rfl
   refine List.pairwise_cons.2 ⟨fun z hz => ?_, ht⟩
   rcases List.mem_cons.1 hz with rfl | hz
   ·exact h0
   ·exact kF h0 (ht.head z hz)
theorem z1v {α ρ : Type} (l : List α) (hl : l.length < 4611686018427387904) {step : Int → Option (LR Int (Unit ⊕ ρ))} (f : Nat → α → Option ρ)
  (h : ∀ (i : Nat) (x : α), 1 ≤ i → l[i]? = some x → step (i : Int) = some (nS i (f i x))) (h2 : ∀ k : Nat, l.length ≤ k → step (k : Int) = some (.done (.inl ()))) :
  loop step 1 = some (oS (xC f (l.drop 1) 1)) := by
 have gen : ∀ (n : Nat) (k : Nat), 1 ≤ k → l.length - k < n → YV step n (k : Int) = some (oS (xC f (l.drop k) k)) := by
  intro n
  induction n with
  | zero => intro k _ h; omega
  | succ n ih =>
   intro k hk hn
   rw [kB]
   rcases Nat.lt_or_ge k l.length with hlt | hge
   ·have hx : l[k]? = some l[k] := List.getElem?_eq_getElem hlt
    rw [h k _ hk hx, List.drop_eq_getElem_cons hlt]
    simp only [xC]
    cases hf : f k l[k] with
    | some r => rfl
    | none =>
     simp only [nS]
     rw [jX (by omega) (by omega)]
     exact ih (k + 1) (by omega) (by omega)
   ·rw [h2 k hge, List.drop_eq_nil_of_le hge]
    rfl
 exact gen fuel 1 (Nat.le_refl _) (by show l.length - 1 < 18446744073709551616; omega)
instance (l : List (List Int)) : Decidable (SW l) := by unfold SW; infer_instance
theorem z5l (l : List (List Int)) (r : ρ) : xC (fun i x => match l[i - 1]? with | some y => if 0 ≤ kr y x then some r else none | none => none) (l.drop 1) 1 = if SW l then none else some r := by
 by_cases hs : SW l
 ·rw [if_pos hs]
  refine X3 fun i x hx => ?_
  rw [List.getElem?_drop] at hx
  have hi : 1 + i < l.length := (List.getElem?_eq_some_iff.1 hx).1
  have hy : l[1 + i - 1]? = some l[i] := by rw [show 1 + i - 1 = i by omega]; exact List.getElem?_eq_getElem (by omega)
  rw [hy]
  have := z0m.1 hs i l[i] x (List.getElem?_eq_getElem (by omega)) (by rw [Nat.add_comm]; exact hx)
  simp only
  rw [if_neg (by omega)]
 ·rw [if_neg hs]
  cases hf : xC (fun i x => match l[i - 1]? with | some y => if 0 ≤ kr y x then some r else none | none => none) (l.drop 1) 1 with
  | some r' =>
   obtain ⟨i, x, h1, h2⟩ := jE hf
   split at h2
   ·split at h2
    ·exact h2.symm
    ·cases h2
   ·cases h2
  | none =>
   exfalso
   refine hs (z0m.2 fun i x y hx hy => ?_)
   have := Zf hf i y (by rw [List.getElem?_drop, Nat.add_comm]; exact hy)
   rw [show 1 + i - 1 = i by omega, hx] at this
   simp only at this
   split at this
   ·cases this
   ·omega
theorem z5M (l : List (List Int)) (h : l.length ≤ 4096) (hw : ∀ w ∈ l, w.length < 4611686018427387904) : js l = some (decide (SW l)) := by
 unfold js
 rw [bdT (z1v l (by omega) (step := fun s => ve l s) (fun i x => match l[i - 1]? with | some y => if 0 ≤ kr y x then some false else none | none => none) ?_ ?_), z5l]
 ·by_cases hs : SW l
  ·simp [hs, oS, qw]
  ·simp [hs, oS]
 ·intro i x hi hx
  have hil : i < l.length := (List.getElem?_eq_some_iff.1 hx).1
  have hy : l[i - 1]? = some l[i - 1] := List.getElem?_eq_getElem (by omega)
  have hq : decide ((i : Int) < (l.length : Int)) = true := by simpa using hil
  unfold ve
  rw [jX (x := (i : Int) - 1) (by omega) (by omega), show ((i : Int) - 1) = ((i - 1 : Nat) : Int) by omega]
  have hE := Wp l[i - 1] x (hw _ (List.getElem_mem (by omega)))
  simp only [hq, cond_true, wg hx, wg hy, Option.bind_some, hy, hE]
  by_cases hc : 0 ≤ kr l[i - 1] x
  ·simp [hc, nS]
  ·simp [hc, nS]
 ·intro k hk; unfold ve; have : decide ((k : Int) < (l.length : Int)) = false := by simp; omega
  simp only [this, cond_false]
def chE (n : Int) (l : List (List Int)) : Int := if loE n l ≠ 0 then loE n l else if SW l then (if 65536 < XY l then 3 else 0) else 1
theorem z1e : chE n l = 0 ↔ loE n l = 0 ∧ SW l ∧ XY l ≤ 65536 := by
 unfold chE
 by_cases h : loE n l = 0
 ·rw [if_neg (by simp [h])]
  by_cases h2 : SW l
  ·rw [if_pos h2]
   by_cases h3 : 65536 < XY l
   ·rw [if_pos h3]; exact ⟨fun q => by simp at q, fun q => by omega⟩
   ·rw [if_neg h3]; exact ⟨fun _ => ⟨h, h2, by omega⟩, fun _ => rfl⟩
  ·rw [if_neg h2]; exact ⟨fun q => by simp at q, fun q => absurd q.2.1 h2⟩
 ·rw [if_pos h]; exact ⟨fun q => absurd q h, fun q => absurd q.1 h⟩
theorem z2Y (h : loE n l = 0) : l.length ≤ 4096 ∧ (∀ w ∈ l, w.length ≤ 256) ∧ XY l ≤ 1048576 := by
 obtain ⟨_, h1, h2⟩ := V8.1 h
 refine ⟨h1, fun w hw => (h2 w hw).1, ?_⟩
 have := KH (m := 256) fun w hw => (h2 w hw).1
 omega
theorem z26 (l : List (List Int)) (n : Int) : jt l n = some (chE n l) := by
 unfold jt chE
 rw [z0P]
 simp only [Option.bind_some]
 by_cases h : loE n l = 0
 ·obtain ⟨h1, h2, h3⟩ := z2Y h
  rw [z5M l h1 fun w hw => by have := h2 w hw; omega, z0n l (by omega), z5V (by omega)]
  simp only [h, bne_self_eq_false, cond_false, Option.bind_some, ne_eq, not_true, if_false]
  by_cases hs : SW l
  ·by_cases hq : 65536 < XY l
   ·have : (65536 : Int) < (XY l : Int) := by omega
    simp [hs, hq, this]
   ·have : ¬ (65536 : Int) < (XY l : Int) := by omega
    simp [hs, hq, this]
  ·simp [hs]
 ·have hb : (loE n l != 0) = true := by simpa using h
  simp [h, hb]
theorem Ul (w : List Int) : zY w = some w := by
 unfold zY
 rw [gdT (by omega)]
 simp
theorem XC (w : List Int) (h : w.length ≤ 4294967296) : zP w = some w := by
 unfold zP
 rw [gdT (by simpa using h)]
theorem z0y (a b : List Int) (h : a.length < 4611686018427387904) : vb a b = some (decide (a = b)) := by
 unfold vb
 rw [Wp a b h]
 simp only [Option.bind_some]
 by_cases e : a = b
 ·subst e; simp [Uk]
 ·have : kr a b ≠ 0 := fun q => e (z0a q)
  simp [e, this]
def QW (l : List (List Int)) : Prop := l.Pairwise fun a b => ¬ kr b a < 0
theorem jY {l : List α} {n : Nat} {x : α} : x ∈ l.take n ↔ ∃ i, i < n ∧ l[i]? = some x := by
 rw [List.mem_iff_getElem?]
 constructor
 ·rintro ⟨i, h⟩
  rw [List.getElem?_take] at h
  split at h
  ·exact ⟨i, by omega, h⟩
  ·cases h
 ·rintro ⟨i, h1, h2⟩
  exact ⟨i, by rw [List.getElem?_take, if_pos h1]; exact h2⟩
theorem z27 (h : SW l) (hx : ∀ y ∈ l, kr y x < 0) : SW (l ++ [x]) := by
 unfold SW
 rw [List.pairwise_append]
 exact ⟨h, by simp, fun a ha b hb => by simp at hb; subst hb; exact hx a ha⟩
section
variable {s : List (List Int)} (hq : QW s) (hl : s.length ≤ 4294967296) (hw : ∀ w ∈ s, w.length < 4611686018427387904)
include hq hl hw
omit hl hw in
theorem z4O {i j : Nat} {x y : List Int} (hi : s[i]? = some x) (hj : s[j]? = some y) (h : i ≤ j) : kr x y < 0 ∨ x = y := by
 rcases Nat.lt_or_ge i j with h | h
 ·have := (List.pairwise_iff_getElem.1 hq) i j (List.getElem?_eq_some_iff.1 hi).1 (List.getElem?_eq_some_iff.1 hj).1 h
  rw [(List.getElem?_eq_some_iff.1 hi).2, (List.getElem?_eq_some_iff.1 hj).2] at this
  rcases z09.1 this with q | q
  ·exact .inl q
  ·exact .inr q.symm
 ·have : i = j := by omega
  subst this
  rw [hi] at hj
  exact .inr (by simpa using hj)
theorem Kq (h1 : 1 ≤ k) (hk : k < s.length) (hd : s[k - 1]? = s[k]?) (hs : SW (s.take k)) :
  Ret (Option.bind (loop (fun q => y3 (k : Int) q.1 q.2.1 q.2.2) (s, (k : Int), 1)) fun t => y5 t.1 t.2) fun r => r = .done (.inr (srt s)) := by
 rw [kW]
 refine Ret.mono (kV (fun q => ∃ kk k2 : Nat, q.2.1 = (kk : Int) ∧ q.2.2 = (k2 : Int) ∧ 1 ≤ k2 ∧ k + k2 ≤ s.length ∧ kk < k + k2 ∧ q.1.length = s.length ∧ (∀ i, kk ≤ i → q.1[i]? = s[i]?) ∧ SW (q.1.take kk) ∧ ∀ x, x ∈ q.1.take kk ↔ x ∈ s.take (k + k2)) (fun q => s.length - q.2.2.toNat) (R := fun t => ∃ kk : Nat, t.2 = (kk : Int) ∧ kk ≤ s.length ∧ t.1.length = s.length ∧ t.1.take kk = srt s) ?_ ?_ ?_) ?_
 ·refine ⟨k, 1, rfl, rfl, Nat.le_refl _, hk, by omega, rfl, fun _ _ => rfl, hs, fun x => ?_⟩
  rw [jY, jY]
  constructor
  ·rintro ⟨i, h2, h3⟩; exact ⟨i, by omega, h3⟩
  ·rintro ⟨i, h2, h3⟩
   rcases Nat.lt_or_ge i k with h | h
   ·exact ⟨i, h, h3⟩
   ·have : i = k := by omega
    subst this
    exact ⟨i - 1, by omega, by rw [hd]; exact h3⟩
 ·show s.length - _ < _
  omega
 ·rintro ⟨S, a, b⟩ ⟨kk, k2, rfl, rfl, g1, g2, g3, g4, g5, g6, g7⟩
  simp only at g4 g5 g6 g7
  show Ret (y3 (k : Int) S (kk : Int) (k2 : Int)) _
  unfold y3
  rw [kX]
  refine ⟨fun hc => ?_, fun hc => ?_⟩
  ·have hlt : k2 < s.length - k := by rw [g4] at hc; simpa using hc
   have e1 : s[k + k2]? = some s[k + k2] := List.getElem?_eq_getElem (by omega)
   have e2 : s[k + k2 - 1]? = some s[k + k2 - 1] := List.getElem?_eq_getElem (by omega)
   have f1 : idx S ((k : Int) + (k2 : Int)) = some s[k + k2] := by
    rw [← Int.natCast_add, vz, g5 _ (by omega), e1]
   have f2 : idx S ((k : Int) + w64 ((k2 : Int) - 1)) = some s[k + k2 - 1] := by
    rw [jX (by omega) (by omega), show (k : Int) + ((k2 : Int) - 1) = ((k + k2 - 1 : Nat) : Int) by omega, vz, g5 _ (by omega), e2]
   rw [gdT (by omega), f1]
   simp only [Option.bind_some]
   rw [gdT (by rw [jX (by omega) (by omega)]; omega), f2]
   simp only [Option.bind_some]
   rw [z0y _ _ (hw _ (List.getElem_mem (by omega)))]
   simp only [Option.bind_some]
   have hk2 : w64 ((k2 : Int) + 1) = ((k2 + 1 : Nat) : Int) := by rw [jX (by omega) (by omega)]; omega
   by_cases he : s[k + k2] = s[k + k2 - 1]
   ·simp only [he, decide_true, Bool.not_true, cond_false]
    unfold y4
    rw [hk2, yU]
    refine ⟨⟨kk, k2 + 1, rfl, rfl, by omega, by omega, by omega, g4, g5, g6, fun x => ?_⟩, by simp only [Int.toNat_natCast]; omega⟩
    rw [g7, jY, jY]
    constructor
    ·rintro ⟨i, h2, h3⟩; exact ⟨i, by omega, h3⟩
    ·rintro ⟨i, h2, h3⟩
     rcases Nat.lt_or_ge i (k + k2) with h | h
     ·exact ⟨i, h, h3⟩
     ·have : i = k + k2 := by omega
      subst this
      exact ⟨k + k2 - 1, by omega, by rw [e2, ← he, ← e1]; exact h3⟩
   ·simp only [he, decide_false, Bool.not_false, cond_true]
    rw [gdT (by omega)]
    have e3 : idx S (kk : Int) = some s[kk] := by rw [vz, g5 _ (Nat.le_refl _), List.getElem?_eq_getElem (by omega)]
    rw [e3]
    simp only [Option.bind_some]
    unfold y4
    rw [hk2, jX (x := (kk : Int) + 1) (by omega) (by omega), yU]
    have hset : (S.set ((kk : Int).toNat) s[k + k2]).take (kk + 1) = S.take kk ++ [s[k + k2]] := by
     rw [Int.toNat_natCast, List.take_add_one, List.take_set_of_le (Nat.le_refl _), List.getElem?_set_self (by omega)]
     rfl
    refine ⟨⟨kk + 1, k2 + 1, rfl, rfl, by omega, by omega, by omega, by simp [g4], fun i hi => ?_, ?_, fun x => ?_⟩, by simp only [Int.toNat_natCast]; omega⟩
    ·simp only
     rw [List.getElem?_set_ne (by omega), g5 _ (by omega)]
    ·simp only
     rw [hset]
     refine z27 g6 fun y hy => ?_
     obtain ⟨i, h2, h3⟩ := jY.1 ((g7 y).1 hy)
     have hlast : kr s[k + k2 - 1] s[k + k2] < 0 := by
      rcases z4O hq e2 e1 (by omega) with q | q
      ·exact q
      ·exact absurd q.symm he
     rcases z4O hq h3 e2 (by omega) with q | q
     ·exact kF q hlast
     ·rw [q]; exact hlast
    ·simp only
     rw [hset, List.mem_append, g7, jY, jY]
     constructor
     ·rintro (⟨i, h2, h3⟩ | h)
      ·exact ⟨i, by omega, h3⟩
      ·simp at h; subst h; exact ⟨k + k2, by omega, e1⟩
     ·rintro ⟨i, h2, h3⟩
      rcases Nat.lt_or_ge i (k + k2) with h | h
      ·exact .inl ⟨i, h, h3⟩
      ·have : i = k + k2 := by omega
       subst this
       rw [e1] at h3
       exact .inr (by simpa using h3.symm)
  ·have hge : s.length - k ≤ k2 := by rw [g4] at hc; simpa using hc
   have hkk : k + k2 = s.length := by omega
   rw [yU]
   refine ⟨kk, rfl, by omega, g4, z2c g6 fun x => ?_⟩
   rw [g7, hkk, List.take_length]
 ·rintro ⟨S, a⟩ ⟨kk, rfl, h1, h2, h3⟩
  simp only at h2 h3
  show Ret (y5 S (kk : Int)) _
  unfold y5
  have hlen : (S.take (kk : Int).toNat ++ List.replicate (S.length - (kk : Int).toNat) ([] : List Int)).length = S.length := by simp [List.length_take]; omega
  rw [gdT (by omega), gdT (by omega), gdT (by rw [hlen]; omega), yU]
  simp only [Int.toNat_natCast]
  rw [List.take_left' (by rw [List.length_take]; omega), h3]
theorem z1E : yo s () = some (srt s) := by
 unfold yo
 by_cases h2 : s.length < 2
 ·have hd : decide (((s.length : Nat) : Int) < 2) = true := by simp; omega
  simp only [hd, cond_true]
  rw [Jz]
  match s, h2 with
  | [], _ => exact SW.nil
  | [x], _ => simp [SW]
 ·have hd : decide (((s.length : Nat) : Int) < 2) = false := by simp; omega
  simp only [hd, cond_false]
  apply Ret.eq
  rw [kW]
  refine Ret.mono (kV (fun q : Int => ∃ j : Nat, q = (j : Int) ∧ 1 ≤ j ∧ j ≤ s.length ∧ SW (s.take j)) (fun q => s.length - q.toNat) (R := fun t : Unit ⊕ List (List Int) => match t with | .inl _ => srt s = s | .inr p => p = srt s) ?_ ?_ ?_) ?_
  ·refine ⟨1, rfl, Nat.le_refl _, by omega, ?_⟩
   match s, h2 with
   | [], h2 => simp at h2
   | x :: l, _ => simp [SW]
  ·show s.length - _ < _
   omega
  ·rintro _ ⟨j, rfl, g1, g2, g3⟩
   show Ret (ye s (j : Int)) _
   unfold ye
   rw [kX]
   refine ⟨fun hc => ?_, fun hc => ?_⟩
   ·have hj : j < s.length := by simpa using hc
    have e1 : s[j]? = some s[j] := List.getElem?_eq_getElem hj
    have e2 : s[j - 1]? = some s[j - 1] := List.getElem?_eq_getElem (by omega)
    rw [jX (x := (j : Int) - 1) (by omega) (by omega), show (j : Int) - 1 = ((j - 1 : Nat) : Int) by omega, wg e1, wg e2]
    simp only [Option.bind_some]
    rw [z0y _ _ (hw _ (List.getElem_mem hj))]
    simp only [Option.bind_some]
    by_cases he : s[j] = s[j - 1]
    ·simp only [he, decide_true, cond_true]
     rw [gdT (by omega)]
     refine (Kq hq hl hw g1 hj (by rw [e1, e2, he]) g3).mono ?_
     rintro _ rfl
     rfl
    ·simp only [he, decide_false, cond_false]
     unfold yD
     rw [jX (by omega) (by omega), yU]
     refine ⟨⟨j + 1, rfl, by omega, hj, ?_⟩, by simp only [Int.toNat_natCast]; omega⟩
     have : s.take (j + 1) = s.take j ++ [s[j]] := by rw [List.take_add_one, e1]; rfl
     rw [this]
     refine z27 g3 fun y hy => ?_
     obtain ⟨i, h3, h4⟩ := jY.1 hy
     have hlast : kr s[j - 1] s[j] < 0 := by
      rcases z4O hq e2 e1 (by omega) with q | q
      ·exact q
      ·exact absurd q.symm he
     rcases z4O hq h4 e2 (by omega) with q | q
     ·exact kF q hlast
     ·rw [q]; exact hlast
   ·have hj : j = s.length := by
     have : ¬ j < s.length := by simpa using hc
     omega
    rw [yU]
    show srt s = s
    rw [hj, List.take_length] at g3
    exact Jz g3
  ·rintro (u | p) h
   ·show Ret (some s) _
    rw [yU]
    exact h.symm
   ·show Ret (some p) _
    rw [yU]
    exact h
end
theorem JA (l : List (List Int)) : SOk kr l :=
 ⟨fun x _ => Vd x, fun x _ y _ z _ h1 h2 => kF h1 h2, fun x _ y _ h1 h2 => by
  rcases z09.1 h1 with q | q
  ·exact absurd q h2
  ·exact q⟩
theorem z4t {l m : List (List Int)} (h : l.Perm m) : srt l = srt m := z2d fun x => h.mem_iff
theorem VW {c d : List Int → List Int → Int} : ∀ {l : List (List Int)}, (∀ x ∈ l, ∀ y ∈ l, c x y = d x y) → YX c l = YX d l
 | [], _ => rfl
 | x :: l, h => by
  have ih := VW (c := c) (d := d) (l := l) fun a ha b hb => h a (by simp [ha]) b (by simp [hb])
  show z1O c x (YX c l) = z1O d x (YX d l)
  rw [ih]
  have gen : ∀ m : List (List Int), (∀ y ∈ m, y ∈ l) → z1O c x m = z1O d x m := by
   intro m
   induction m with
   | nil => intro _; rfl
   | cons y m ih2 =>
    intro hm
    simp only [z1O]
    rw [h y (by simp [hm y (by simp)]) x (by simp), ih2 fun z hz => hm z (by simp [hz])]
  exact gen _ fun y hy => (qe d l).mem_iff.1 hy
def soR (l : List (List Int)) : List (List Int) × Int := if 4096 < (srt l).length ∨ 65536 < XY (srt l) then ([], 3) else (srt l, 0)
theorem z4v (hl : l.length ≤ 100000) (hw : ∀ w ∈ l, w.length ≤ 4294967296) : qD l = some (soR l) := by
 unfold qD ws
 rw [gdT (by simp; omega)]
 simp only [Option.bind_some]
 have hc : ∀ x ∈ l, ∀ y, yK x y = some (kr x y) := fun x hx y => Wp x y (by have := hw x hx; omega)
 have hso : z2g (fun x y => yK x y) l = some (YX kr l) := by
  unfold z2g
  rw [gdT ⟨by omega, fun x hx y hy => by simp only [hc x hx y]; rfl⟩]
  have hcc : ∀ x ∈ l, ∀ y ∈ l, (yK x y).getD 0 = kr x y := fun x hx y _ => by rw [hc x hx y]; rfl
  rw [gdT, VW (c := fun x y => (yK x y).getD 0) (d := kr) hcc]
  have q := JA l
  refine ⟨fun x hx => by show ¬ (yK x x).getD 0 < 0; rw [hcc x hx x hx]; exact q.1 x hx, fun x hx y hy z hz h1 h2 => ?_, fun x hx y hy h1 h2 => ?_⟩
  ·simp only [hcc x hx y hy, hcc y hy z hz, hcc x hx z hz] at h1 h2 ⊢
   exact q.2.1 x hx y hy z hz h1 h2
  ·simp only [hcc x hx y hy, hcc y hy x hx] at h1 h2
   exact q.2.2 x hx y hy h1 h2
 rw [hso]
 simp only [Option.bind_some]
 have hp := qe kr l
 have hq : QW (YX kr l) := Y7 (JA l) (fun y hy => hy)
 rw [z1E hq (by rw [hp.length_eq]; omega) (fun w h => by have := hw w (hp.mem_iff.1 h); omega)]
 simp only [Option.bind_some]
 unfold yY
 simp only [Option.bind_some]
 rw [z4t hp]
 have hlen : (srt l).length ≤ 100000 := Nat.le_trans (z2b l) hl
 have hws : ∀ w ∈ srt l, w.length ≤ 4294967296 := fun w h => hw w (Y4.1 h)
 unfold soR
 generalize srt l = r at hlen hws
 have hsy : XY r ≤ 100000 * 4294967296 := Nat.le_trans (KH hws) (Nat.mul_le_mul_right _ hlen)
 by_cases h1 : 4096 < r.length
 ·have : (4096 : Int) < (r.length : Int) := by omega
  simp [h1, this]
 ·have d1 : decide (((r.length : Nat) : Int) > 4096) = false := by simp; omega
  simp only [d1, cond_false]
  rw [z0n r (by omega), z5V (by omega)]
  simp only [Option.bind_some]
  by_cases h2 : 65536 < XY r
  ·have : (65536 : Int) < (XY r : Int) := by omega
   simp [h2, this]
  ·have d2 : decide (((XY r : Nat) : Int) > 65536) = false := by simp; omega
   simp only [d2, cond_false]
   rw [if_neg (by omega)]
   have hloop := QR (step := fun s => xw r s.1 s.2) (fun i => ((r.take i).map (fun q => (q, true)) ++ (r.drop i).map (fun q => (q, false)), (i : Int))) r.length (t := r.map fun q => (q, true)) (by omega) (by
    intro i hi
    have hA : ((r.take i).map (fun q : List Int => (q, true))).length = i := by rw [List.length_map, List.length_take]; omega
    have hd : r.drop i = r[i] :: r.drop (i + 1) := List.drop_eq_getElem_cons hi
    have hx : ((r.take i).map (fun q => (q, true)) ++ (r.drop i).map (fun q => (q, false)))[i]? = some (r[i], false) := by
     rw [List.getElem?_append_right (by omega), hA, hd]; simp
    show xw r _ (i : Int) = _
    unfold xw
    have hq : decide ((i : Int) < ((r.length - (0 : Int).toNat : Nat) : Int)) = true := by simpa using hi
    simp only [hq, cond_true]
    rw [gdT (by omega), Int.zero_add, wg hx]
    simp only [Option.bind_some]
    rw [XC _ (hws _ (List.getElem_mem hi))]
    simp only [Option.bind_some, Ul, Int.toNat_natCast]
    rw [jX (by omega) (by omega)]
    congr 3
    rw [List.set_append_right _ _ (by omega), hA, hd, List.take_add_one, List.getElem?_eq_getElem hi]
    simp only [Nat.sub_self, List.map_cons, List.set_cons_zero, List.map_append, Option.toList_some, List.map_nil, List.append_assoc, List.cons_append, List.nil_append]) (by
    show xw r _ (r.length : Int) = _
    unfold xw
    simp)
   have h0 : ((r.take 0).map (fun q => (q, true)) ++ (r.drop 0).map (fun q => (q, false)), ((0 : Nat) : Int)) = (r.map (fun q => (q, false)), (0 : Int)) := by simp
   rw [h0] at hloop
   rw [hloop]
   simp only [Option.bind_some]
   unfold ur
   rw [gdT (by intro q hq; obtain ⟨_, _, rfl⟩ := List.mem_map.1 hq; rfl)]
   simp [List.map_map, Function.comp_def]
variable {σ : Type}
theorem Y0 (f : Nat → σ → σ) (s : σ) (n : Nat) : (List.range (n + 1)).foldl (fun s i => f i s) s = f n ((List.range n).foldl (fun s i => f i s) s) := by
 rw [List.range_succ, List.foldl_append]; rfl
theorem YK {f : Nat → σ → σ} {I : Nat → σ → Prop} {s : σ} (h0 : I 0 s) : ∀ (n : Nat), (∀ i s, i < n → I i s → I (i + 1) (f i s)) → I n ((List.range n).foldl (fun s i => f i s) s)
 | 0, _ => h0
 | n + 1, h => by
  rw [Y0]
  exact h n _ (Nat.lt_succ_self n) (YK h0 n fun i s hi => h i s (by omega))
theorem VF {σ α : Type} (g : α → σ → σ) (d : α) (l : List α) (s : σ) : (List.range l.length).foldl (fun s i => g ((l[i]?).getD d) s) s = l.foldl (fun s x => g x s) s := by
 have e : l = (List.range l.length).map fun i => (l[i]?).getD d := by
  apply List.ext_getElem (by simp)
  intro i h1 h2
  simp [List.getElem?_eq_getElem h1]
 have q : ((List.range l.length).map fun i => (l[i]?).getD d).foldl (fun s x => g x s) s = (List.range l.length).foldl (fun s i => g ((l[i]?).getD d) s) s := by rw [List.foldl_map]
 rw [← q, ← e]
theorem K3 {σ S τ : Type} {step : S → Option (LR S τ)} (st : σ → Nat → S) (f : Nat → σ → σ) (I : Nat → σ → Prop) (n : Nat) (hn : n < 9223372036854775808) {s0 : σ} {t : τ} (h0 : I 0 s0)
  (h : ∀ i s, i < n → I i s → step (st s i) = some (.next (st (f i s) (i + 1))) ∧ I (i + 1) (f i s))
  (hd : I n ((List.range n).foldl (fun s i => f i s) s0) → step (st ((List.range n).foldl (fun s i => f i s) s0) n) = some (.done t)) : loop step (st s0 0) = some t := by
 have inv : ∀ m, m ≤ n → I m ((List.range m).foldl (fun s i => f i s) s0) := fun m hm => YK h0 m fun i s hi hI => (h i s (by omega) hI).2
 refine QR (fun m => st ((List.range m).foldl (fun s i => f i s) s0) m) n hn (fun i hi => ?_) (hd (inv n (Nat.le_refl _)))
 show step (st ((List.range i).foldl (fun s i => f i s) s0) i) = _
 rw [(h i _ hi (inv i (by omega))).1, Y0]
theorem u4 (h : i < 9223372036854775807) : w64 ((i : Int) + 1) = ((i + 1 : Nat) : Int) := by rw [jX (by omega) (by omega)]; rfl
theorem z3X (k : Nat) : ∀ n, GG k (n + 1) = k * GG k n + 1
 | 0 => by simp [GG]
 | n + 1 => by
  have ih := z3X k n
  show GG k (n + 1) + k ^ (n + 1) = k * (GG k n + k ^ n) + 1
  rw [ih, Nat.mul_add, Nat.pow_succ, Nat.mul_comm (k ^ n) k]
  omega
theorem z7u (k : Nat) : ∀ u : List Nat, rv k u = rk k u.reverse
 | [] => by simp [rv, rk, GG, Qs]
 | i :: u => by
  have ih := z7u k u
  unfold rk at ih ⊢
  rw [List.reverse_reverse, List.length_reverse] at ih ⊢
  simp only [rv, List.length_cons, Qs, ih, z3X, Nat.add_mul]
  rw [Nat.mul_comm (GG k u.length) k, Nat.mul_comm (Qs k u) k]
  omega
def nx1 (m : z8) (s i : Nat) : Option Nat := if 0 ≤ (E m s i).To then some (E m s i).To.toNat else none
abbrev nob : Nat → Nat → Bool := fun _ _ => false
theorem z0J : ∀ (N : Nat) (l : List Nat), l.Nodup → (∀ t ∈ l, t < N) → l.length ≤ N
 | 0, l, _, h => by
  cases l with
  | nil => exact Nat.le_refl _
  | cons x l => have := h x (by simp); omega
 | N + 1, l, hn, h => by
  have ih := z0J N (l.erase N) (hn.erase N) fun t ht => by
   have h1 := h t (List.mem_of_mem_erase ht)
   have h2 : t ≠ N := fun e => by subst e; exact absurd ht (hn.not_mem_erase)
   omega
  by_cases hm : N ∈ l
  ·rw [List.length_erase_of_mem hm] at ih; omega
  ·rw [List.erase_of_not_mem hm] at ih; omega
variable {L : List (Nat × List Nat)}{c : Nat × List Nat}
section
variable {m : z8} (h : VM m)
include h
theorem Yn : ∀ (u : List Nat) (q : Nat), z3W (kk m) nob (nx1 m) 0 u q → Wd (kk m) u.reverse ∧ aft m 0 u.reverse = (q : Int) ∧ q < m.Rows.length
 | [], q, e => by
  have e : q = 0 := e
  subst e
  exact ⟨by simp [Wd], rfl, h.len1⟩
 | i :: u, q, ⟨p, hp, hi, _, hn⟩ => by
  obtain ⟨g1, g2, g3⟩ := Yn u p hp
  unfold nx1 at hn
  split at hn
  ·rename_i h0
   cases hn
   have q2 := (V2 m u.reverse 0 i).2
   rw [g2, QM] at q2
   rw [List.reverse_cons]
   refine ⟨fun j hj => ?_, by rw [q2]; omega, ?_⟩
   ·rcases List.mem_append.1 hj with g | g
    ·exact g1 j g
    ·rw [List.mem_singleton.1 g]; exact hi
   ·rcases h.edgeAt g3 hi with ⟨g, _⟩ | ⟨_, g, _⟩ <;> omega
  ·cases hn
theorem Jk : ∀ (u : List Nat) (q : Nat), Wd (kk m) u.reverse → aft m 0 u.reverse = (q : Int) → z3W (kk m) nob (nx1 m) 0 u q
 | [], q, _, e => by have : (0 : Int) = q := e; show q = 0; omega
 | i :: u, q, hu, e => by
  rw [List.reverse_cons] at hu e
  have hu' : Wd (kk m) u.reverse := fun j hj => hu j (by simp [List.mem_reverse.1 hj])
  have hi : i < kk m := hu i (by simp)
  have q2 := (V2 m u.reverse 0 i).2
  rw [e] at q2
  have hin := z3T h u.reverse 0 ⟨by omega, by have := h.len1; omega⟩ hu'
  by_cases hneg : aft m 0 u.reverse < 0
  ·exfalso
   unfold nxE at q2
   rw [if_pos hneg] at q2
   simp at q2
  ·obtain ⟨s, hs⟩ : ∃ s : Nat, aft m 0 u.reverse = s := ⟨(aft m 0 u.reverse).toNat, by omega⟩
   rw [hs, QM] at q2
   refine ⟨s, Jk u s hu' hs, hi, rfl, ?_⟩
   unfold nx1
   rw [if_pos (by omega), ← q2]
   simp
def zb2 (L : List (Nat × List Nat)) (a : Nat) (x : zh) (c : Nat × List Nat) : Prop :=
 x.state_ = (c.1 : Int) ∧ ((c.2 = [] ∧ x.from_ = -1) ∨ ∃ (i : Nat) (u : List Nat) (p j : Nat), c.2 = i :: u ∧ x.input_ = (i : Int) ∧ x.from_ = (p : Int) ∧ j < a ∧ L[j]? = some (p, u))
structure Que (m : z8) (L : List (Nat × List Nat)) (a : Nat) (seen : List Bool) (Q : List zh) : Prop where
 len : seen.length = m.Rows.length
 seen : ∀ t : Nat, seen[t]? = some true ↔ ∃ u, (t, u) ∈ L
 nodup : (L.map (·.1)).Nodup
 qlen : Q.length + a = L.length
 arr : ∀ (j : Nat) (x : zh), Q[j]? = some x → ∃ c, L[a + j]? = some c ∧ zb2 L (a + j) x c
theorem KQ {a : Nat}  (hb : Bfs (kk m) nob (nx1 m) 0 L a i) (hn : (L.map (·.1)).Nodup) : L.length ≤ m.Rows.length := by
 have := z0J m.Rows.length (L.map (·.1)) hn fun t ht => by
  obtain ⟨c, hc, rfl⟩ := List.mem_map.1 ht
  exact (Yn h c.2 c.1 (hb.path c hc)).2.2
 simpa using this
theorem z7v {a : Nat}  {seen : List Bool} {Q : List zh} {σ : Type} (yr : σ × Bool) (x : zh) (hc : L[a]? = some c) (hx : x.state_ = (c.1 : Int))
  (hb : Bfs (kk m) nob (nx1 m) 0 L a 0) (hq : Que m L (a + 1) seen Q) {r : List zf} (hr : r.length = kk m) (hre : ∀ i, i < kk m → r[i]? = some (E m c.1 i)) :
  Ret (loop (fun s => xk x yr r s.1 s.2.1 s.2.2) (seen, Q, 0)) fun t => t.1 = yr.1 ∧ ∃ L', L.length ≤ L'.length ∧ L'.take L.length = L ∧ Bfs (kk m) nob (nx1 m) 0 L' a (kk m) ∧ Que m L' (a + 1) t.2.1 t.2.2 := by
 have hk := h.kk_le
 have hal := (List.getElem?_eq_some_iff.1 hc).1
 have hcN := (Yn h c.2 c.1 (hb.path c (List.mem_of_getElem? hc))).2.2
 refine kV (fun s => ∃ (i : Nat) (L' : List (Nat × List Nat)), s.2.2 = (i : Int) ∧ i ≤ kk m ∧ L.length ≤ L'.length ∧ L'.take L.length = L ∧ Bfs (kk m) nob (nx1 m) 0 L' a i ∧ Que m L' (a + 1) s.1 s.2.1) (fun s => 100 - s.2.2.toNat) ⟨0, L, rfl, Nat.zero_le _, Nat.le_refl _, List.take_length, hb, hq⟩ (by show 100 - _ < _; omega) ?_
 rintro ⟨seen', Q', _⟩ ⟨i, L', rfl, hi, hll, htk, hb', hq'⟩
 simp only at hq'
 show Ret (xk x yr r seen' Q' (i : Int)) _
 unfold xk
 rw [kX]
 refine ⟨fun h1 => ?_, fun h1 => ?_⟩
 ·have hlt : i < kk m := by simp at h1; omega
  have hc' : L'[a]? = some c := by
   have : (L'.take L.length)[a]? = some c := by rw [htk]; exact hc
   rwa [List.getElem?_take, if_pos hal] at this
  rw [wg (hre i hlt), Option.bind_some]
  have old : (∀ q, nx1 m c.1 i = some q → ∃ b ∈ L', b.1 = q) → Ret (yn (σ := σ) (i : Int) seen' Q') (LRP (fun s' => (∃ (i : Nat) (L' : List (Nat × List Nat)), s'.2.2 = (i : Int) ∧ i ≤ kk m ∧ L.length ≤ L'.length ∧ L'.take L.length = L ∧ Bfs (kk m) nob (nx1 m) 0 L' a i ∧ Que m L' (a + 1) s'.1 s'.2.1) ∧ 100 - s'.2.2.toNat < 100 - ((i : Int)).toNat) (fun t => t.1 = yr.1 ∧ ∃ L', L.length ≤ L'.length ∧ L'.take L.length = L ∧ Bfs (kk m) nob (nx1 m) 0 L' a (kk m) ∧ Que m L' (a + 1) t.2.1 t.2.2)) := by
   intro hn
   unfold yn
   rw [yU, u4 (by omega)]
   exact ⟨⟨i + 1, L', rfl, hlt, hll, htk, hb'.old hc' hlt rfl hn, hq'⟩, by simp only; omega⟩
  rcases h.edgeAt hcN hlt with ⟨g1, _⟩ | ⟨g1, g2, _⟩
  ·have : ((E m c.1 i).To != -1) = false := by rw [g1]; rfl
   rw [this, cond_false]
   exact old fun q hq => by unfold nx1 at hq; rw [if_neg (by omega)] at hq; cases hq
  ·have e1 : ((E m c.1 i).To != -1) = true := by simp; omega
   obtain ⟨q, hq0⟩ : ∃ q : Nat, (E m c.1 i).To = q := ⟨(E m c.1 i).To.toNat, by omega⟩
   have hqN : q < m.Rows.length := by omega
   have hnx : nx1 m c.1 i = some q := by unfold nx1; rw [if_pos g1, hq0]; simp
   have hsq : seen'[q]? = some seen'[q]! := by
    have : q < seen'.length := by rw [hq'.len]; exact hqN
    rw [List.getElem?_eq_getElem this]; simp [this]
   rw [e1, cond_true, hq0, wg hsq, Option.bind_some]
   by_cases hs : seen'[q]! = true
   ·rw [hs]
    simp only [Bool.not_true, cond_false]
    refine old fun q' hq2 => ?_
    rw [hnx] at hq2
    cases hq2
    rw [hs] at hsq
    obtain ⟨u, hu⟩ := (hq'.seen q).1 hsq
    exact ⟨_, hu, rfl⟩
   ·have hs : seen'[q]! = false := by simpa using hs
    have hnot : ∀ u, (q, u) ∉ L' := fun u hu => by
     have := (hq'.seen q).2 ⟨u, hu⟩
     rw [hsq, hs] at this
     cases this
    have hL' := KQ h hb' hq'.nodup
    have hN := h.len64
    have hql := hq'.qlen
    rw [hs]
    simp only [Bool.not_false, cond_true]
    rw [Option.bind_some, gdT (by simp; omega)]
    unfold yn
    rw [yU, u4 (by omega)]
    refine ⟨⟨i + 1, L' ++ [(q, i :: c.2)], rfl, hlt, by simp; omega, by rw [List.take_append_of_le_length hll, htk], hb'.new hc' hlt rfl hnx, ?_⟩, by simp only; omega⟩
    refine ⟨by simp [hq'.len], fun t => ?_, ?_, by simp; omega, fun j y hy => ?_⟩
    ·simp only [Int.toNat_natCast]
     rw [z5S (by rw [hq'.len]; exact hqN), hq'.seen]
     constructor
     ·rintro (rfl | ⟨u, hu⟩)
      ·exact ⟨_, List.mem_append_right _ (List.mem_singleton.2 rfl)⟩
      ·exact ⟨u, List.mem_append_left _ hu⟩
     ·rintro ⟨u, hu⟩
      rcases List.mem_append.1 hu with g | g
      ·exact .inr ⟨u, g⟩
      ·have := List.mem_singleton.1 g
       cases this
       exact .inl rfl
    ·rw [List.map_append, List.nodup_append]
     refine ⟨hq'.nodup, by simp, fun t ht s hs' e => ?_⟩
     obtain ⟨b, hb1, rfl⟩ := List.mem_map.1 ht
     have hs2 : s = q := by simpa using hs'
     exact hnot b.2 (by rw [← hs2, ← e]; exact hb1)
    ·rcases Nat.lt_or_ge j Q'.length with g | g
     ·rw [List.getElem?_append_left g] at hy
      obtain ⟨d, d1, d2, d3⟩ := hq'.arr j y hy
      have dl := (List.getElem?_eq_some_iff.1 d1).1
      refine ⟨d, by rw [List.getElem?_append_left dl]; exact d1, d2, ?_⟩
      rcases d3 with d3 | ⟨i', u', p, j', e1, e2, e3, e4, e5⟩
      ·exact .inl d3
      ·exact .inr ⟨i', u', p, j', e1, e2, e3, e4, by rw [List.getElem?_append_left (List.getElem?_eq_some_iff.1 e5).1]; exact e5⟩
     ·have hjl := (List.getElem?_eq_some_iff.1 hy).1
      simp at hjl
      have hj : j = Q'.length := by omega
      subst hj
      simp at hy
      subst hy
      refine ⟨(q, i :: c.2), by rw [List.getElem?_append_right (by omega), show a + 1 + Q'.length - L'.length = 0 by omega]; rfl, rfl, .inr ⟨i, c.2, c.1, a, rfl, rfl, hx, by omega, ?_⟩⟩
      rw [List.getElem?_append_left (by omega), hc']
 ·have : i = kk m := by simp at h1; omega
  subst this
  rw [yU]
  exact ⟨rfl, L', hll, htk, hb', hq'⟩
structure zaj (m : z8) (L : List (Nat × List Nat)) (a : Nat) (l : List (List Int)) (is : List Bool) : Prop where
 l1 : l.length = m.Rows.length
 l2 : is.length = m.Rows.length
 got : ∀ (j : Nat) (c : Nat × List Nat), j < a → L[j]? = some c → is[c.1]? = some true ∧ l[c.1]? = some (c.2.reverse.map Int.ofNat)
 rest : ∀ t : Nat, t < m.Rows.length → (∀ (j : Nat) (c : Nat × List Nat), j < a → L[j]? = some c → c.1 ≠ t) → is[t]? = some false ∧ l[t]? = some []
omit h in
theorem z9U (w : List Int) (hw : w.length ≤ 4294967296) : zP w = some w := XC w hw
theorem z4Q {a : Nat}  {is : List Bool} (hp : zaj m L a l is)  (hc : L[a]? = some c) {x : zh} (hx : zb2 L a x c) (hn : (L.map (·.1)).Nodup) (hb : Bfs (kk m) nob (nx1 m) 0 L a 0) :
  ∃ l' is', xu l is x = some (.next (l', is')) ∧ zaj m L (a + 1) l' is' := by
 have hal := (List.getElem?_eq_some_iff.1 hc).1
 have hcN := (Yn h c.2 c.1 (hb.path c (List.mem_of_getElem? hc))).2.2
 obtain ⟨q1, q2⟩ := hx
 have hne : ∀ (j : Nat) (d : Nat × List Nat), j < a → L[j]? = some d → d.1 ≠ c.1 := fun j d hj hd e => by
  have h1 : (L.map (·.1))[j]? = some d.1 := by rw [List.getElem?_map, hd]; rfl
  have h2 : (L.map (·.1))[a]? = some c.1 := by rw [List.getElem?_map, hc]; rfl
  rw [← e] at h2
  have := ((List.getElem?_inj (List.getElem?_eq_some_iff.1 h1).1 hn).1 (h1.trans h2.symm))
  omega
 obtain ⟨r1, r2⟩ := hp.rest c.1 hcN hne
 have main : ∀ w : List Int, w = c.2.reverse.map Int.ofNat → zaj m L (a + 1) (l.set c.1 w) (is.set c.1 true) := by
  intro w hw
  refine ⟨by simp [hp.l1], by simp [hp.l2], fun j d hj hd => ?_, fun t ht hall => ?_⟩
  ·by_cases e : j = a
   ·subst e
    rw [hc] at hd
    cases hd
    rw [List.getElem?_set_self (by rw [hp.l2]; exact hcN), List.getElem?_set_self (by rw [hp.l1]; exact hcN), hw]
    exact ⟨rfl, rfl⟩
   ·have hne' := hne j d (by omega) hd
    rw [List.getElem?_set_ne (Ne.symm hne'), List.getElem?_set_ne (Ne.symm hne')]
    exact hp.got j d (by omega) hd
  ·have hne' : c.1 ≠ t := hall a c (by omega) hc
   rw [List.getElem?_set_ne hne', List.getElem?_set_ne hne']
   exact hp.rest t ht fun j d hj hd => hall j d (by omega) hd
 unfold xu
 rw [q1, wg r1, Option.bind_some]
 simp only [Int.toNat_natCast]
 rcases q2 with ⟨q2, q3⟩ | ⟨i, u, p, j, q2, q3, q4, q5, q6⟩
 ·have : (x.from_ != -1) = false := by rw [q3]; rfl
  rw [this, cond_false]
  refine ⟨l, is.set c.1 true, rfl, ?_⟩
  have := main [] (by rw [q2]; rfl)
  have e : l.set c.1 [] = l := by
   apply List.ext_getElem?
   intro t
   by_cases e : t = c.1
   ·subst e; rw [List.getElem?_set_self (by rw [hp.l1]; exact hcN), r2]
   ·rw [List.getElem?_set_ne (Ne.symm e)]
  rwa [e] at this
 ·have : (x.from_ != -1) = true := by rw [q4]; simp <;> omega
  obtain ⟨g1, g2⟩ := hp.got j (p, u) q5 q6
  have hul : u.length ≤ j := hb.short j (p, u) q6
  have hjL := (List.getElem?_eq_some_iff.1 q6).1
  have hLN := KQ h hb hn
  have hN := h.len64
  rw [this, cond_true, q4, wg g2, Option.bind_some, z9U _ (by simp; omega), Option.bind_some, gdT (by simp; omega), Ul, Option.bind_some, wg r2, Option.bind_some]
  refine ⟨_, _, rfl, main _ ?_⟩
  rw [q2, q3]
  simp
theorem Qk : Ret (jr m 0) (z40 m) := by
 have l1 := h.len1
 have hN := h.len64
 have e0 : ((m.Rows.length : Nat) : Int).toNat = m.Rows.length := by simp
 unfold jr qu
 rw [gdT (by omega), gdT (by omega), Option.bind_some, e0, kW]
 refine Ret.mono (Q := fun t => ∃ l is, t = .next (l, is) ∧ z40 m (l, is)) ?_ ?_
 ·dsimp only
  unfold v6
  have hrep : (List.replicate m.Rows.length false)[(0 : Nat)]? = some false := by rw [List.getElem?_replicate, if_pos (by omega)]
  rw [gdT (by omega), e0, kW, show idx (List.replicate m.Rows.length false) 0 = some false from hrep, yU, kW]
  refine Ret.mono (Q := fun t => ∃ l is, t = .next (l, is) ∧ z40 m (l, is)) ?_ fun t ht => yU.2 ht
  have hst0 : Que m [(0, [])] 0 ((List.replicate m.Rows.length false).set (0 : Int).toNat true) [zh.mk 0 (-1) (-1)] := by
   refine ⟨by simp, fun t => ?_, by simp, by simp, fun j x hx => ?_⟩
   ·show ((List.replicate m.Rows.length false).set 0 true)[t]? = some true ↔ _
    rw [z5S (by simp; omega)]
    constructor
    ·rintro (rfl | q)
     ·exact ⟨[], by simp⟩
     ·rw [List.getElem?_replicate] at q; split at q <;> cases q
    ·rintro ⟨u, hu⟩
     simp at hu
     exact .inl hu.1
   ·have hj := (List.getElem?_eq_some_iff.1 hx).1
    simp at hj
    subst hj
    simp at hx
    subst hx
    exact ⟨(0, []), rfl, rfl, .inl ⟨rfl, rfl⟩⟩
  have hp0 : zaj m [(0, [])] 0 (List.replicate m.Rows.length ([] : List Int)) (List.replicate m.Rows.length false) := by
   refine ⟨by simp, by simp, fun j c hj => by omega, fun t ht _ => ?_⟩
   rw [List.getElem?_replicate, List.getElem?_replicate, if_pos ht, if_pos ht]
   exact ⟨rfl, rfl⟩
  refine kV (fun s => ∃ (a : Nat) (L : List (Nat × List Nat)) (l : List (List Int)) (is : List Bool), s.1 = .next (l, is) ∧ a ≤ L.length ∧ Bfs (kk m) nob (nx1 m) 0 L a 0 ∧ Que m L a s.2.1 s.2.2 ∧ zaj m L a l is) (fun s => match s.1 with | .next (l, is) => 200 - (is.countP id) | .done _ => 0) ⟨0, _, _, _, rfl, by simp, Bfs.start, hst0, hp0⟩ (by show 200 - _ < _; omega) ?_
  rintro ⟨sg, seen, Q⟩ ⟨a, L, l, is, hsg, haL, hb, hq, hp⟩
  simp only at hsg hq
  subst hsg
  have hLN := KQ h hb hq.nodup
  have hql := hq.qlen
  show Ret (xY m (yOf (fun s x => xu s.1 s.2 x)) (.next (l, is)) seen Q) _
  unfold xY
  rw [kX]
  refine ⟨fun h1 => ?_, fun h1 => ?_⟩
  ·have hQ : 0 < Q.length := by simp at h1; omega
   have hx0 : Q[0]? = some Q[0] := List.getElem?_eq_getElem hQ
   obtain ⟨c, c1, c2⟩ := hq.arr 0 _ hx0
   rw [Nat.add_zero] at c1 c2
   have hal := (List.getElem?_eq_some_iff.1 c1).1
   have hcN := (Yn h c.2 c.1 (hb.path c (List.mem_of_getElem? c1))).2.2
   obtain ⟨l', is', y1, y2⟩ := z4Q h hp c1 c2 hq.nodup hb
   have yv : yOf (fun (s : List (List Int) × List Bool) x => xu s.1 s.2 x) (.next (l, is)) Q[0] = some (.next (l', is'), true) := by
    unfold yOf
    simp only
    rw [y1]
   obtain ⟨r, hr, hrl, hre⟩ := h.rowAt hcN
   have hs0 := c2.1
   rw [show idx Q 0 = some Q[0] from hx0, Option.bind_some, gdT (by omega), yv, Option.bind_some]
   simp only [Bool.not_true, cond_false]
   rw [hs0, wg hr, Option.bind_some, kW]
   have hq' : Que m L (a + 1) seen (Q.drop 1) := by
    refine ⟨hq.len, hq.seen, hq.nodup, by rw [List.length_drop]; omega, fun j x hx => ?_⟩
    rw [List.getElem?_drop] at hx
    have := hq.arr (1 + j) x hx
    rwa [show a + (1 + j) = a + 1 + j by omega] at this
   refine (z7v h (σ := LR (List (List Int) × List Bool) Empty) (LR.next (l', is'), true) Q[0] c1 hs0 hb hq' hrl hre).mono ?_
   rintro ⟨sg', seen', Q'⟩ ⟨e1, L', g1, g2, g3, g4⟩
   simp only at e1 g4
   rw [yU]
   have same : ∀ j, j < L.length → L'[j]? = L[j]? := fun j hj => by
    have : (L'.take L.length)[j]? = L[j]? := by rw [g2]
    rwa [List.getElem?_take, if_pos hj] at this
   have hal' : a < L'.length := by omega
   refine ⟨⟨a + 1, L', l', is', e1, hal', g3.step hal', g4, ?_⟩, ?_⟩
   ·refine ⟨y2.l1, y2.l2, fun j d hj hd => y2.got j d hj (by rw [← same j (by omega)]; exact hd), fun t ht hall => y2.rest t ht fun j d hj hd => hall j d hj (by rw [same j (by omega)]; exact hd)⟩
   ·subst e1
    have hfalse : is[c.1]? = some false := (hp.rest c.1 hcN fun j d hj hd e => by
     have h1 : (L.map (·.1))[j]? = some d.1 := by rw [List.getElem?_map, hd]; rfl
     have h2 : (L.map (·.1))[a]? = some c.1 := by rw [List.getElem?_map, c1]; rfl
     rw [← e] at h2
     have := ((List.getElem?_inj (List.getElem?_eq_some_iff.1 h1).1 hq.nodup).1 (h1.trans h2.symm))
     omega).1
    have hset : is' = is.set c.1 true := by
     unfold xu at y1
     rw [hs0, wg hfalse, Option.bind_some] at y1
     simp only [Int.toNat_natCast] at y1
     rcases yq y1 with ⟨_, y1⟩ | ⟨_, y1⟩
     ·obtain ⟨_, _, y1⟩ := zt y1
      obtain ⟨_, _, y1⟩ := zt y1
      obtain ⟨_, y1⟩ := gdE y1
      obtain ⟨_, _, y1⟩ := zt y1
      obtain ⟨_, _, y1⟩ := zt y1
      cases y1; rfl
     ·cases y1; rfl
    subst hset
    have hcl : c.1 < is.length := by rw [hp.l2]; exact hcN
    have cnt : (is.set c.1 true).countP id = is.countP id + 1 := by
     rw [List.countP_set hcl]
     have : is[c.1] = false := by rw [List.getElem?_eq_getElem hcl] at hfalse; exact Option.some.inj hfalse
     simp [this]
    have cle : (is.set c.1 true).countP id ≤ (is.set c.1 true).length := List.countP_le_length
    rw [List.length_set, hp.l2] at cle
    show 200 - (is.set c.1 true).countP id < 200 - is.countP id
    omega
  ·have hQ : Q.length = 0 := by simp at h1; simp [h1]
   have ha : a = L.length := by omega
   rw [yU]
   refine ⟨l, is, rfl, hp.l1, hp.l2, fun t ht => ?_⟩
   have atEnd : ∀ c, L[a]? = some c → False := fun c hc => by have := (List.getElem?_eq_some_iff.1 hc).1; omega
   by_cases hex : ∃ u, (t, u) ∈ L
   ·obtain ⟨u, hu⟩ := hex
    obtain ⟨j, hj⟩ := List.getElem?_of_mem hu
    have hjl := (List.getElem?_eq_some_iff.1 hj).1
    obtain ⟨g1, g2⟩ := hp.got j (t, u) (by omega) hj
    obtain ⟨p1, p2, p3⟩ := Yn h u t (hb.path _ hu)
    refine .inl ⟨g1, u.reverse, g2, p1, ?_, p2, fun v hv e => ?_⟩
    ·rw [List.length_reverse]
     have : u.length ≤ j := hb.short j (t, u) hj
     omega
    ·obtain ⟨j2, b, b1, b2, b3⟩ := hb.reach v.reverse t (Jk h v.reverse t (by rw [List.reverse_reverse]; exact hv) (by rw [List.reverse_reverse]; exact e)) fun c hc => (atEnd c hc).elim
     have hb2 : b.2 = u := by
      have h1 : (L.map (·.1))[j]? = some t := by rw [List.getElem?_map, hj]; rfl
      have h2 : (L.map (·.1))[j2]? = some t := by rw [List.getElem?_map, b1]; exact congrArg some b2
      have := ((List.getElem?_inj (List.getElem?_eq_some_iff.1 h1).1 hq.nodup).1 (h1.trans h2.symm))
      subst this
      rw [hj] at b1
      cases b1; rfl
     rw [hb2, z7u, z7u, List.reverse_reverse] at b3
     exact b3
   ·refine .inr ⟨(hp.rest t ht fun j c hj hc e => hex ⟨c.2, by rw [← e]; exact List.mem_of_getElem? hc⟩).1, fun v hv e => ?_⟩
    obtain ⟨j2, b, b1, b2, _⟩ := hb.reach v.reverse t (Jk h v.reverse t (by rw [List.reverse_reverse]; exact hv) (by rw [List.reverse_reverse]; exact e)) fun c hc => (atEnd c hc).elim
    exact hex ⟨b.2, by rw [← b2]; exact List.mem_of_getElem? b1⟩
 ·rintro t ⟨l, is, rfl, ha⟩
  simp only
  unfold qt
  exact yU.2 ha
theorem Vg : Ret (qB m) fun r => r.2.2 = 0 ∧ z40 m (r.1, r.2.1) := by
 unfold qB
 rw [z1d, z6p h, Option.bind_some, bne_self_eq_false, cond_false, kW]
 exact (Qk h).mono fun r hr => yU.2 ⟨rfl, hr⟩
end
open Classical
section
variable {K : Type} [BEq K] [LawfulBEq K]
def z1N (S : List K) (x : K) : List K := if x ∈ S then S else S ++ [x]
def mks (S : List K) : List (K × Bool) := S.map fun x => (x, true)
theorem Zc {S : List K} {x y : K} : y ∈ z1N S x ↔ y ∈ S ∨ y = x := by
 unfold z1N
 split
 ·rename_i h
  exact ⟨.inl, fun q => q.elim id (fun e => e ▸ h)⟩
 ·simp
theorem Wa {S : List K} {x : K} (h : S.Nodup) : (z1N S x).Nodup := by
 unfold z1N
 split
 ·exact h
 ·rename_i hx
  rw [List.nodup_append]
  exact ⟨h, by simp, fun a ha b hb e => by simp only [List.mem_singleton] at hb; subst hb; subst e; exact hx ha⟩
theorem z2R : ∀ {S : List K} {x : K}, x ∈ S → V5 (mks S) x true = mks S
 | [], x, h => by simp at h
 | y :: S, x, h => by
  show (if (y == x) = true then (x, true) :: mks S else (y, true) :: V5 (mks S) x true) = (y, true) :: mks S
  by_cases e : (y == x) = true
  ·rw [if_pos e, eq_of_beq e]
  ·rw [if_neg e]
   have : x ∈ S := by
    rcases List.mem_cons.1 h with q | q
    ·subst q; exact (e (beq_self_eq_true x)).elim
    ·exact q
   rw [z2R this]
theorem z0M : ∀ {S : List K} {x : K}, x ∉ S → V5 (mks S) x true = mks (S ++ [x])
 | [], x, _ => rfl
 | y :: S, x, h => by
  show (if (y == x) = true then (x, true) :: mks S else (y, true) :: V5 (mks S) x true) = (y, true) :: mks (S ++ [x])
  have e : ¬ (y == x) = true := fun e => h (by rw [eq_of_beq e]; simp)
  rw [if_neg e, z0M (fun q => h (by simp [q]))]
theorem QO (S : List K) (x : K) : V5 (mks S) x true = mks (z1N S x) := by
 unfold z1N
 split
 ·rename_i h; exact z2R h
 ·rename_i h; exact z0M h
theorem V6 : ∀ (S : List K) (x : K), (z1L (mks S) x).getD false = decide (x ∈ S)
 | [], x => by simp [mks, z1L]
 | y :: S, x => by
  show ((if (y == x) = true then some true else z1L (mks S) x) : Option Bool).getD false = _
  by_cases e : (y == x) = true
  ·rw [if_pos e, eq_of_beq e]; simp
  ·rw [if_neg e, V6 S x]
   have : x ≠ y := fun q => e (by rw [q]; exact beq_self_eq_true y)
   simp [this]
end
instance : LawfulBEq z7 := {
 eq_of_beq := by
  rintro ⟨a, b, c⟩ ⟨d, e, f⟩ h
  simp only [BEq.beq, Bool.and_eq_true, decide_eq_true_eq] at h
  simp_all
 rfl := by
  rintro ⟨a, b, c⟩
  simp [BEq.beq] }
instance : LawfulBEq (yu Int) := {
 eq_of_beq := by
  rintro ⟨a, b⟩ ⟨d, e⟩ h
  simp only [BEq.beq, Bool.and_eq_true, decide_eq_true_eq] at h
  simp_all
 rfl := by
  rintro ⟨a, b⟩
  simp [BEq.beq] }
abbrev Mk3 := List Int × List (yu Int) × List z7
def mk3 (x : Mk3) : zg := ⟨mks x.1, mks x.2.1, mks x.2.2⟩
def z7Q (Z : List z7) (bf : Option (Nat × Nat)) (i : Nat) : List z7 := match bf with | some p => z1N Z ⟨p.1, p.2, i⟩ | none => Z
def YS (m : z8) : Nat → Option (Nat × Nat) → List Nat → Mk3 → Mk3
 | _, _, [], x => x
 | s, bf, i :: w, x => if (E m s i).To = -1 then x else YS m (E m s i).To.toNat (some (s, i)) w (z1N x.1 (E m s i).To, z1N x.2.1 ⟨s, i⟩, z7Q x.2.2 bf i)
def KA (m : z8) (s : Nat) : Nat → List Nat → Prop
 | t, [] => s = t
 | t, i :: w => s = t ∨ ((E m t i).To ≠ -1 ∧ KA m s (E m t i).To.toNat w)
def z1Q (m : z8) (s j : Nat) : Nat → List Nat → Prop
 | _, [] => False
 | t, i :: w => (E m t i).To ≠ -1 ∧ ((s = t ∧ j = i) ∨ z1Q m s j (E m t i).To.toNat w)
def nxt (m : z8) (k t : Nat) : List Nat → Prop
 | [] => False
 | i :: _ => i = k ∧ (E m t k).To ≠ -1
def z1C (m : z8) (s j k : Nat) : Nat → List Nat → Prop
 | _, [] => False
 | t, i :: w => (E m t i).To ≠ -1 ∧ ((s = t ∧ j = i ∧ nxt m k (E m t i).To.toNat w) ∨ z1C m s j k (E m t i).To.toNat w)
section
variable {m : z8} (h : VM m)
include h
theorem z3u (s : Nat) (w : List Nat) : KA m s s w := by have _ := h; cases w <;> simp [KA]
theorem Xp {t i : Nat} (ht : t < m.Rows.length) (hi : i < kk m) (hn : (E m t i).To ≠ -1) : (E m t i).To.toNat < m.Rows.length ∧ (((E m t i).To.toNat : Nat) : Int) = (E m t i).To := by
 rcases h.edgeAt ht hi with q | q
 ·exact (hn q.1).elim
 ·omega
theorem z97 : ∀ (w : List Nat) (t : Nat) (bf : Option (Nat × Nat)) (x : Mk3) (s : Nat), t < m.Rows.length → Wd (kk m) w → (t : Int) ∈ x.1 → ((s : Int) ∈ (YS m t bf w x).1 ↔ (s : Int) ∈ x.1 ∨ KA m s t w)
 | [], t, bf, x, s, _, _, hx => by
  simp only [YS, KA]
  exact ⟨.inl, fun q => q.elim id (fun e => e ▸ hx)⟩
 | i :: w, t, bf, x, s, ht, hw, hx => by
  have hi : i < kk m := hw i (by simp)
  simp only [YS, KA]
  by_cases hn : (E m t i).To = -1
  ·rw [if_pos hn]
   simp only [hn, ne_eq, not_true_eq_false, false_and, or_false]
   exact ⟨.inl, fun q => q.elim id (fun e => e ▸ hx)⟩
  ·rw [if_neg hn]
   obtain ⟨q1, q2⟩ := Xp h ht hi hn
   rw [z97 w _ _ _ s q1 (fun j hj => hw j (by simp [hj])) (by show (((E m t i).To.toNat : Nat) : Int) ∈ z1N x.1 _; rw [Zc, q2]; exact .inr rfl)]
   show (s : Int) ∈ z1N x.1 _ ∨ _ ↔ _
   rw [Zc]
   constructor
   ·rintro ((q | q) | q)
    ·exact .inl q
    ·have : s = (E m t i).To.toNat := by omega
     exact .inr (.inr ⟨hn, this ▸ z3u h _ _⟩)
    ·exact .inr (.inr ⟨hn, q⟩)
   ·rintro (q | q | q)
    ·exact .inl (.inl q)
    ·exact .inl (.inl (q ▸ hx))
    ·exact .inr q.2
theorem z9a : ∀ (w : List Nat) (t : Nat) (bf : Option (Nat × Nat)) (x : Mk3) (s j : Nat), t < m.Rows.length → Wd (kk m) w → ((⟨s, j⟩ : yu Int) ∈ (YS m t bf w x).2.1 ↔ (⟨s, j⟩ : yu Int) ∈ x.2.1 ∨ z1Q m s j t w)
 | [], t, bf, x, s, j, _, _ => by simp only [YS, z1Q, or_false]
 | i :: w, t, bf, x, s, j, ht, hw => by
  have hi : i < kk m := hw i (by simp)
  simp only [YS, z1Q]
  by_cases hn : (E m t i).To = -1
  ·rw [if_pos hn]; simp [hn]
  ·rw [if_neg hn]
   obtain ⟨q1, q2⟩ := Xp h ht hi hn
   rw [z9a w _ _ _ s j q1 (fun j hj => hw j (by simp [hj]))]
   show (⟨s, j⟩ : yu Int) ∈ z1N x.2.1 _ ∨ _ ↔ _
   rw [Zc, yu.mk.injEq]
   constructor
   ·rintro ((q | q) | q)
    ·exact .inl q
    ·exact .inr ⟨hn, .inl (by omega)⟩
    ·exact .inr ⟨hn, .inr q⟩
   ·rintro (q | ⟨_, q | q⟩)
    ·exact .inl (.inl q)
    ·exact .inl (.inr (by omega))
    ·exact .inr q
theorem z98 : ∀ (w : List Nat) (t : Nat) (bf : Option (Nat × Nat)) (x : Mk3) (s j k : Nat), t < m.Rows.length → Wd (kk m) w →
  ((⟨s, j, k⟩ : z7) ∈ (YS m t bf w x).2.2 ↔ (⟨s, j, k⟩ : z7) ∈ x.2.2 ∨ (bf = some (s, j) ∧ nxt m k t w) ∨ z1C m s j k t w)
 | [], t, bf, x, s, j, k, _, _ => by simp only [YS, z1C, nxt, and_false, or_false]
 | i :: w, t, bf, x, s, j, k, ht, hw => by
  have hi : i < kk m := hw i (by simp)
  simp only [YS, z1C, nxt]
  by_cases hn : (E m t i).To = -1
  ·rw [if_pos hn]
   constructor
   ·exact .inl
   ·rintro (q | ⟨_, rfl, q⟩ | ⟨q, _⟩)
    ·exact q
    ·exact (q hn).elim
    ·exact (q hn).elim
  ·rw [if_neg hn]
   obtain ⟨q1, q2⟩ := Xp h ht hi hn
   rw [z98 w _ _ _ s j k q1 (fun j hj => hw j (by simp [hj]))]
   have hz : ((⟨s, j, k⟩ : z7) ∈ z7Q x.2.2 bf i) ↔ ((⟨s, j, k⟩ : z7) ∈ x.2.2 ∨ (bf = some (s, j) ∧ i = k)) := by
    unfold z7Q
    cases bf with
    | none => simp
    | some p =>
     obtain ⟨a, b⟩ := p
     simp only [Zc, z7.mk.injEq, Option.some.injEq, Prod.mk.injEq]
     constructor
     ·rintro (q | q)
      ·exact .inl q
      ·exact .inr (by omega)
     ·rintro (q | q)
      ·exact .inl q
      ·exact .inr (by omega)
   show (⟨s, j, k⟩ : z7) ∈ z7Q x.2.2 bf i ∨ _ ↔ _
   rw [hz]
   simp only [Option.some.injEq, Prod.mk.injEq]
   constructor
   ·rintro ((q | ⟨q, rfl⟩) | ⟨⟨rfl, rfl⟩, q⟩ | q)
    ·exact .inl q
    ·exact .inr (.inl ⟨q, rfl, hn⟩)
    ·exact .inr (.inr ⟨hn, .inl ⟨rfl, rfl, q⟩⟩)
    ·exact .inr (.inr ⟨hn, .inr q⟩)
   ·rintro (q | ⟨q, rfl, _⟩ | ⟨_, ⟨rfl, rfl, q⟩ | q⟩)
    ·exact .inl (.inl q)
    ·exact .inl (.inr ⟨q, rfl⟩)
    ·exact .inr (.inl ⟨⟨rfl, rfl⟩, q⟩)
    ·exact .inr (.inr q)
theorem z99 : ∀ (w : List Nat) (t : Nat) (bf : Option (Nat × Nat)) (x : Mk3), x.1.Nodup ∧ x.2.1.Nodup ∧ x.2.2.Nodup → (YS m t bf w x).1.Nodup ∧ (YS m t bf w x).2.1.Nodup ∧ (YS m t bf w x).2.2.Nodup
 | [], t, bf, x, q => by have _ := h; exact q
 | i :: w, t, bf, x, q => by
  simp only [YS]
  split
  ·exact q
  ·refine z99 w _ _ _ ⟨Wa q.1, Wa q.2.1, ?_⟩
   unfold z7Q
   cases bf with
   | none => exact q.2.2
   | some p => exact Wa q.2.2
theorem z63 (hw : Wd (kk m) w) (hl : w.length < 4611686018427387904) (x : Mk3) : xm m (w.map Int.ofNat) (mk3 x) = some (mk3 (YS m 0 none w x)) := by
 unfold xm
 have key : loop (fun s => xi m (w.map Int.ofNat) s.1 s.2.1 s.2.2.1 s.2.2.2.1 s.2.2.2.2.1 s.2.2.2.2.2.1 s.2.2.2.2.2.2) ((mk3 x).states_, (mk3 x).edges_, (mk3 x).pairs_, 0, (-1), (-1), 0) = some (mk3 (YS m 0 none w x)) := by
  refine Ret.eq (kV (fun s => ∃ (u v : List Nat) (t : Nat) (bf : Option (Nat × Nat)) (y : Mk3), w = u ++ v ∧ t < m.Rows.length ∧ YS m t bf v y = YS m 0 none w x ∧ s = (mks y.1, mks y.2.1, mks y.2.2, (t : Int), (match bf with | some p => (p.1 : Int) | none => -1), (match bf with | some p => (p.2 : Int) | none => -1), (u.length : Int)))
   (fun s => w.length - s.2.2.2.2.2.2.toNat) ⟨[], w, 0, none, x, rfl, h.len1, rfl, rfl⟩ (by simp only; omega) ?_)
  rintro s ⟨u, v, t, bf, y, rfl, ht, hr, rfl⟩
  simp only
  unfold xi
  rw [kX]
  cases v with
  | nil =>
   constructor
   ·intro hc
    simp at hc
   ·intro _
    rw [yU, ← hr]
    rfl
  | cons i v =>
   have hi : i < kk m := hw i (by simp)
   constructor
   ·intro _
    have hix : idx ((u ++ i :: v).map Int.ofNat) (u.length : Int) = some (i : Int) := by
     rw [vz, List.getElem?_map, List.getElem?_append_right (Nat.le_refl _)]
     simp
    rw [hix, Option.bind_some, h.edge_eq ht hi, kX]
    have hr' := hr
    simp only [YS] at hr'
    constructor
    ·intro hc
     rw [if_pos (by simpa using hc)] at hr'
     rw [yU, ← hr']
     rfl
    ·intro hc
     have hn : ¬ (E m t i).To = -1 := by simpa using hc
     rw [if_neg hn] at hr'
     obtain ⟨q1, q2⟩ := Xp h ht hi hn
     have hw1 : w64 ((u.length : Int) + 1) = (((u ++ [i]).length : Nat) : Int) := by
      rw [List.length_append, List.length_singleton]
      exact u4 (by simp at hl; omega)
     have fin : ∀ Z, Z = mks (z7Q y.2.2 bf i) → Ret (yH (mks y.1) (mks y.2.1) (t : Int) (u.length : Int) (i : Int) (E m t i) Z)
       (LRP (fun s' => (∃ (u' v' : List Nat) (t : Nat) (bf : Option (Nat × Nat)) (y : Mk3), u ++ i :: v = u' ++ v' ∧ t < m.Rows.length ∧ YS m t bf v' y = YS m 0 none (u ++ i :: v) x ∧ s' = (mks y.1, mks y.2.1, mks y.2.2, (t : Int), (match bf with | some p => (p.1 : Int) | none => -1), (match bf with | some p => (p.2 : Int) | none => -1), (u'.length : Int))) ∧ (u ++ i :: v).length - s'.2.2.2.2.2.2.toNat < (u ++ i :: v).length - ((u.length : Int)).toNat) fun t => t = mk3 (YS m 0 none (u ++ i :: v) x)) := by
      rintro Z rfl
      unfold yH
      rw [yU]
      refine ⟨⟨u ++ [i], v, (E m t i).To.toNat, some (t, i), _, by simp, q1, hr', ?_⟩, ?_⟩
      ·rw [QO, QO, hw1, q2]
      ·simp only
       rw [hw1]
       simp
       omega
     rw [kX]
     cases bf with
     | none => exact ⟨fun q => by simp at q, fun _ => fin _ rfl⟩
     | some p => exact ⟨fun _ => fin _ (QO _ _), fun q => by simp at q⟩
   ·intro hc
    simp at hc
    omega
 rw [key]
 rfl
end
structure yf where
 State : Int
 Input : Int
 Next : Int
open Classical
def wN (w : List Nat) : List Int := w.map Int.ofNat
def lN (l : List (List Nat)) : List (List Int) := l.map wN
theorem z5R (w : List Nat) : (wN w).length = w.length := by simp [wN]
theorem k0 (l : List (List Nat)) : (lN l).length = l.length := by simp [lN]
theorem z9F {l : List (List Nat)}   (h : l[i]? = some w) : idx (lN l) (i : Int) = some (wN w) := by
 rw [vz, lN, List.getElem?_map, h]; rfl
def cvA (m : z8) (l : List (List Nat)) (x : Mk3) : Mk3 := l.foldl (fun x w => YS m 0 none w x) x
def cv0 (m : z8) (l : List (List Nat)) : Mk3 := cvA m l ([0], [], [])
def WL (m : z8) (l : List (List Nat)) : Prop := l.length ≤ 4096 ∧ ∀ w ∈ l, Wd (kk m) w ∧ w.length ≤ 256
def z1D (m : z8) (x : yf) : Nat → List Nat → Prop
 | t, [] => x.Input = -1 ∧ x.State = (t : Int)
 | t, i :: w => (x.Input = -1 ∧ x.State = (t : Int)) ∨ ((E m t i).To ≠ -1 ∧ ((x.State = (t : Int) ∧ x.Input = (i : Int) ∧ (x.Next = -1 ∨ ∃ k : Nat, x.Next = (k : Int) ∧ nxt m k (E m t i).To.toNat w)) ∨ z1D m x (E m t i).To.toNat w))
section
variable {m : z8} (h : VM m)
include h
theorem Q6 {l : List (List Nat)} (hl : WL m l) : yp m (lN l) = some (mk3 (cv0 m l)) := by
 unfold yp vX
 rw [Option.bind_some]
 have key : loop (fun s => x9 m (lN l) s.1 s.2.1 s.2.2.1 s.2.2.2) (V5 ([] : List (Int × Bool)) 0 true, ([] : List ((yu Int) × Bool)), ([] : List (z7 × Bool)), (0 : Int)) = some ((mk3 (cv0 m l)).states_, (mk3 (cv0 m l)).edges_, (mk3 (cv0 m l)).pairs_) := by
  have e0 : (List.range l.length).foldl (fun s i => YS m 0 none ((l[i]?).getD []) s) ([0], [], []) = cv0 m l := VF (fun w s => YS m 0 none w s) [] l _
  rw [← e0]
  refine K3 (σ := Mk3) (fun y i => ((mk3 y).states_, (mk3 y).edges_, (mk3 y).pairs_, (i : Int))) (fun i y => YS m 0 none ((l[i]?).getD []) y) (fun _ _ => True) l.length (by have := hl.1; omega) (s0 := ([0], [], [])) trivial ?_ ?_
  ·intro i y hi _
   refine ⟨?_, trivial⟩
   have hw := List.getElem?_eq_getElem hi
   have hm := hl.2 _ (List.getElem_mem hi)
   unfold x9
   rw [k0]
   simp only
   rw [show decide ((i : Int) < (l.length : Int)) = true by simp [hi], cond_true, z9F hw, Option.bind_some]
   have hr := z63 h hm.1 (by omega) y
   rw [show (zg.mk (mk3 y).states_ (mk3 y).edges_ (mk3 y).pairs_) = mk3 y from rfl, show wN l[i] = l[i].map Int.ofNat from rfl, hr, Option.bind_some, u4 (by have := hl.1; omega), hw]
   rfl
  ·intro _
   unfold x9
   rw [k0]
   simp
 rw [key]
 rfl
theorem z3q {l : List (List Nat)} : ∀ {x : Mk3}, (∀ w ∈ l, Wd (kk m) w) → (0 : Int) ∈ x.1 →
  (∀ s : Nat, (s : Int) ∈ (cvA m l x).1 ↔ (s : Int) ∈ x.1 ∨ ∃ w ∈ l, KA m s 0 w) ∧ (∀ s j : Nat, (⟨s, j⟩ : yu Int) ∈ (cvA m l x).2.1 ↔ (⟨s, j⟩ : yu Int) ∈ x.2.1 ∨ ∃ w ∈ l, z1Q m s j 0 w) ∧
  (∀ s j k : Nat, (⟨s, j, k⟩ : z7) ∈ (cvA m l x).2.2 ↔ (⟨s, j, k⟩ : z7) ∈ x.2.2 ∨ ∃ w ∈ l, z1C m s j k 0 w) := by
 induction l with
 | nil => intro x _ _; simp [cvA]
 | cons w l ih =>
  intro x hw hx
  have hw1 := hw w (by simp)
  have h1 := fun s => z97 h w 0 none x s h.len1 hw1 hx
  have h2 := fun s j => z9a h w 0 none x s j h.len1 hw1
  have h3 := fun s j k => z98 h w 0 none x s j k h.len1 hw1
  obtain ⟨a1, a2, a3⟩ := ih (x := YS m 0 none w x) (fun u hu => hw u (by simp [hu])) (by have := (h1 0).2 (.inl hx); simpa using this)
  have e : cvA m (w :: l) x = cvA m l (YS m 0 none w x) := rfl
  rw [e]
  refine ⟨fun s => ?_, fun s j => ?_, fun s j k => ?_⟩
  ·rw [a1, h1]; simp only [List.mem_cons, exists_eq_or_imp]
   exact or_assoc
  ·rw [a2, h2]; simp only [List.mem_cons, exists_eq_or_imp]
   exact or_assoc
  ·rw [a3, h3]; simp only [List.mem_cons, exists_eq_or_imp, reduceCtorEq, false_and, false_or]
   exact or_assoc
theorem z3p {l : List (List Nat)} : ∀ {x : Mk3}, x.1.Nodup ∧ x.2.1.Nodup ∧ x.2.2.Nodup → (cvA m l x).1.Nodup ∧ (cvA m l x).2.1.Nodup ∧ (cvA m l x).2.2.Nodup := by
 induction l with
 | nil => exact fun q => q
 | cons w l ih => intro x q; exact ih (z99 h w 0 none x q)
def zak (x : Mk3) : Prop := (∀ y ∈ x.1, ∃ s : Nat, y = (s : Int)) ∧ (∀ y ∈ x.2.1, ∃ s j : Nat, y = ⟨s, j⟩) ∧ ∀ y ∈ x.2.2, ∃ s j k : Nat, y = ⟨s, j, k⟩
theorem JM : ∀ (w : List Nat) (t : Nat) (bf : Option (Nat × Nat)) (x : Mk3), t < m.Rows.length → Wd (kk m) w → zak x → zak (YS m t bf w x)
 | [], _, _, _, _, _, q => q
 | i :: w, t, bf, x, ht, hw, q => by
  have hi : i < kk m := hw i (by simp)
  simp only [YS]
  by_cases hn : (E m t i).To = -1
  ·rw [if_pos hn]; exact q
  ·rw [if_neg hn]
   obtain ⟨q1, q2⟩ := Xp h ht hi hn
   refine JM w _ _ _ q1 (fun j hj => hw j (by simp [hj])) ⟨?_, ?_, ?_⟩
   ·intro y hy
    rcases Zc.1 hy with k | k
    ·exact q.1 y k
    ·exact ⟨_, by rw [k]; exact q2.symm⟩
   ·intro y hy
    rcases Zc.1 hy with k | k
    ·exact q.2.1 y k
    ·exact ⟨_, _, k⟩
   ·intro y hy
    unfold z7Q at hy
    cases bf with
    | none => exact q.2.2 y hy
    | some p =>
     rcases Zc.1 hy with k | k
     ·exact q.2.2 y k
     ·exact ⟨_, _, _, k⟩
theorem z5p {l : List (List Nat)} : ∀ {x : Mk3}, (∀ w ∈ l, Wd (kk m) w) → zak x → zak (cvA m l x) := by
 induction l with
 | nil => exact fun _ q => q
 | cons w l ih => intro x hw q; exact ih (fun u hu => hw u (by simp [hu])) (JM h w 0 none x h.len1 (hw w (by simp)) q)
def kK (m : z8) (l : List (List Nat)) (x : yf) : Prop := (∃ w ∈ l, z1D m x 0 w) ∨ x = ⟨0, -1, -1⟩
omit h in
theorem Q7 (s : Nat) : ∀ (w : List Nat) (t : Nat), z1D m ⟨s, -1, -1⟩ t w ↔ KA m s t w
 | [], t => by simp only [z1D, KA, true_and]; omega
 | i :: w, t => by
  simp only [z1D, KA, Q7 s w, true_and]
  constructor
  ·rintro (q | ⟨q, ⟨_, q2, _⟩ | q2⟩)
   ·exact .inl (by omega)
   ·omega
   ·exact .inr ⟨q, q2⟩
  ·rintro (q | ⟨q, q2⟩)
   ·exact .inl (by omega)
   ·exact .inr ⟨q, .inr q2⟩
omit h in
theorem Ui (s j : Nat) : ∀ (w : List Nat) (t : Nat), z1D m ⟨s, j, -1⟩ t w ↔ z1Q m s j t w
 | [], t => by simp only [z1D, z1Q, iff_false]; omega
 | i :: w, t => by
  simp only [z1D, z1Q, Ui s j w]
  constructor
  ·rintro (q | ⟨q, ⟨q2, q3, _⟩ | q2⟩)
   ·omega
   ·exact ⟨q, .inl (by omega)⟩
   ·exact ⟨q, .inr q2⟩
  ·rintro ⟨q, q2 | q2⟩
   ·exact .inr ⟨q, .inl ⟨by omega, by omega, .inl trivial⟩⟩
   ·exact .inr ⟨q, .inr q2⟩
omit h in
theorem Uh (s j k : Nat) : ∀ (w : List Nat) (t : Nat), z1D m ⟨s, j, k⟩ t w ↔ z1C m s j k t w
 | [], t => by simp only [z1D, z1C, iff_false]; omega
 | i :: w, t => by
  simp only [z1D, z1C, Uh s j k w]
  constructor
  ·rintro (q | ⟨q, ⟨q2, q3, q4 | ⟨k', q4, q5⟩⟩ | q2⟩)
   ·omega
   ·omega
   ·have : k' = k := by omega
    exact ⟨q, .inl ⟨by omega, by omega, this ▸ q5⟩⟩
   ·exact ⟨q, .inr q2⟩
  ·rintro ⟨q, ⟨q2, q3, q4⟩ | q2⟩
   ·exact .inr ⟨q, .inl ⟨by omega, by omega, .inr ⟨k, rfl, q4⟩⟩⟩
   ·exact .inr ⟨q, .inr q2⟩
end
open Classical
theorem z10 (g : Nat → List α) (out : List α) : ∀ n, (List.range n).foldl (fun s i => s ++ g i) out = out ++ (List.range n).flatMap g
 | 0 => by simp
 | n + 1 => by rw [List.range_succ, List.foldl_append, z10 g out n, List.flatMap_append]; simp
theorem z11 {g : Nat → List α} {C : Nat} : ∀ n, (∀ i, i < n → (g i).length ≤ C) → ((List.range n).flatMap g).length ≤ C * n
 | 0, _ => by simp
 | n + 1, h => by
  rw [List.range_succ, List.flatMap_append, List.length_append, List.flatMap_cons, List.flatMap_nil, List.append_nil, Nat.mul_succ]
  have := z11 n fun i hi => h i (by omega)
  have := h n (by omega)
  omega
theorem qG {step : List α × Int → Option (LR (List α × Int) (List α))} (g : Nat → List α) (n : Nat) (hn : n < 9223372036854775808) (C L0 : Nat) {out0 : List α} (h0 : out0.length ≤ L0) (hg : ∀ i, i < n → (g i).length ≤ C)
  (h : ∀ i out, i < n → out.length ≤ L0 + C * n → step (out, (i : Int)) = some (.next (out ++ g i, ((i + 1 : Nat) : Int)))) (hd : ∀ out, step (out, (n : Int)) = some (.done out)) : loop step (out0, 0) = some (out0 ++ (List.range n).flatMap g) := by
 rw [← z10]
 refine K3 (σ := List α) (fun o i => (o, (i : Int))) (fun i o => o ++ g i) (fun i o => o.length ≤ L0 + C * i) n hn (by simpa using h0) ?_ fun _ => hd _
 intro i o hi ho
 have h1 : C * i ≤ C * n := Nat.mul_le_mul_left _ (by omega)
 refine ⟨h i o hi (by omega), ?_⟩
 have := hg i hi
 rw [List.length_append, Nat.mul_add]
 omega
theorem z4X {σ τ : Type} {step : σ → Option (LR σ τ)} {s : σ} {t : τ} (h : step s = some (.done t)) : loop step s = some t := by
 refine Ret.eq (kV (fun x => x = s) (fun _ => 0) rfl (by decide) ?_)
 rintro x rfl
 rw [h, yU]
 rfl
abbrev T3 := Nat × Nat × Nat
def Rc (m : z8) (t : Nat) : Prop := ∃ u, Wd (kk m) u ∧ aft m 0 u = (t : Int)
def WS (m : z8) (t : Nat) : List Nat := if h : ∃ v, Acc m t v then h.choose else []
def z3C (m : z8) (s i : Nat) : List T3 := (List.range (kk m)).flatMap fun j => if (E m (E m s i).To.toNat j).To = -1 then [] else [(s, i, j)]
def Jc (m : z8) (g s i : Nat) : List T3 := if (E m s i).To = -1 then [] else if g = 1 then [(s, i, 0)] else z3C m s i
def z0b (m : z8) (g s : Nat) : List T3 := if g = 0 then [(s, 0, 0)] else (List.range (kk m)).flatMap (Jc m g s)
def GL (m : z8) (g : Nat) : List T3 := (List.range m.Rows.length).flatMap fun s => if Rc m s then z0b m g s else []
def toI (g : Nat) (t : T3) : yf := if g = 0 then ⟨t.1, -1, -1⟩ else if g = 1 then ⟨t.1, t.2.1, -1⟩ else ⟨t.1, t.2.1, t.2.2⟩
def toC (m : z8) (g : Nat) (t : T3) : za :=
 if g = 0 then ⟨wN (WS m t.1), ⟨t.1, 0, 0⟩, .inl t.1⟩ else if g = 1 then ⟨wN (WS m t.1) ++ [(t.2.1 : Int)], ⟨t.1, t.2.1, 0⟩, .inr (.inl (t.1, t.2.1))⟩
 else ⟨wN (WS m t.1) ++ [(t.2.1 : Int)] ++ [(t.2.2 : Int)], ⟨t.1, t.2.1, t.2.2⟩, .inr (.inr ⟨t.1, t.2.1, t.2.2⟩)⟩
theorem QQ {α β : Type} (f : α → β) (g : Nat → List α) (l : List Nat) : (l.flatMap g).map f = l.flatMap fun i => (g i).map f := by
 rw [List.map_flatMap]
variable {g : Nat}
section
variable {m : z8} (h : VM m)
include h
theorem z5D (s i : Nat) : (z3C m s i).length ≤ 16 := by
 have := z11 (g := fun j => if (E m (E m s i).To.toNat j).To = -1 then [] else [(s, i, j)]) (C := 1) (kk m) (fun j _ => by split <;> simp)
 have := h.kk_le
 unfold z3C
 omega
theorem z1h (g s i : Nat) : (Jc m g s i).length ≤ 16 := by
 unfold Jc
 split
 ·simp
 split
 ·simp
 ·exact z5D h s i
theorem z1g (g s : Nat) : (z0b m g s).length ≤ 256 := by
 unfold z0b
 split
 ·simp
 ·have := z11 (g := Jc m g s) (C := 16) (kk m) (fun i _ => z1h h g s i)
  have := h.kk_le
  omega
theorem z6w {r : List (List Int) × List Bool} (hr : z40 m r) {t : Nat} (ht : t < m.Rows.length) : r.2[t]? = some (decide (Rc m t)) ∧ (Rc m t → r.1[t]? = some (wN (WS m t)) ∧ Acc m t (WS m t)) := by
 have _ := h
 rcases hr.2.2 t ht with ⟨q1, v, q2, q3⟩ | ⟨q1, q2⟩
 ·have hc : Rc m t := ⟨v, q3.wd, q3.aft⟩
  refine ⟨by rw [q1, decide_eq_true hc], fun _ => ?_⟩
  have he : ∃ v, Acc m t v := ⟨v, q3⟩
  have : WS m t = v := by
   unfold WS
   rw [dif_pos he]
   exact z5N he.choose_spec q3
  rw [this]
  exact ⟨q2, q3⟩
 ·have hc : ¬ Rc m t := fun ⟨u, k1, k2⟩ => q2 u k1 k2
  exact ⟨by rw [q1, decide_eq_false hc], fun k => (hc k).elim⟩
theorem z1i (hg : g < 3) : wv m (g : Int) = some ((GL m g).map (toC m g)) := by
 obtain ⟨r, e, _, hr⟩ := Vg h
 unfold wv
 rw [e, Option.bind_some]
 have hn := h.len64
 have hk := h.kk_le
 have key : loop (fun s => wq m (g : Int) r s.1 s.2) (([] : List za), (0 : Int)) = some ([] ++ (List.range m.Rows.length).flatMap fun s => ((if Rc m s then z0b m g s else []).map (toC m g))) := by
  refine qG (fun s => (if Rc m s then z0b m g s else []).map (toC m g)) m.Rows.length (by omega) 256 0 (Nat.le_refl _) ?_ ?_ ?_
  ·intro s hs
   rw [List.length_map]
   split
   ·exact z1g h g s
   ·simp
  ·intro s out hs ho
   obtain ⟨a1, a2⟩ := z6w h hr hs
   obtain ⟨R, b1, b2, b3⟩ := h.rowAt hs
   unfold wq
   simp only
   rw [show decide ((s : Int) < (m.Rows.length : Int)) = true by simp [hs], cond_true, vz, b1, Option.bind_some, vz, a1, Option.bind_some]
   have hw : w64 ((s : Int) + 1) = ((s + 1 : Nat) : Int) := u4 (by omega)
   by_cases hc : Rc m s
   ·obtain ⟨c1, c2⟩ := a2 hc
    have hal : (wN (WS m s)).length ≤ 64 := by rw [z5R]; have := c2.len; omega
    rw [decide_eq_true hc, Bool.not_true, cond_false, if_pos hc]
    by_cases h0 : g = 0
    ·subst h0
     rw [show ((((0 : Nat) : Int)) == 0) = true from rfl, cond_true, vz, c1, Option.bind_some, gdT (by simp; omega)]
     unfold xc
     rw [hw]
     rfl
    ·rw [show (((g : Int)) == 0) = false by simp; omega, cond_false]
     have e4 : loop (fun s_1 => wp m (g : Int) r (s : Int) R s_1.1 s_1.2) (out, (0 : Int)) = some (out ++ (List.range (kk m)).flatMap fun i => (Jc m g s i).map (toC m g)) := by
      refine qG (fun i => (Jc m g s i).map (toC m g)) (kk m) (by omega) 16 20000 (by omega) (fun i _ => by rw [List.length_map]; exact z1h h g s i) ?_ ?_
      ·intro i out hi ho
       unfold wp
       simp only
       rw [b2, show decide ((i : Int) < (kk m : Int)) = true by simp [hi], cond_true, vz, b3 i hi, Option.bind_some]
       have hwi : w64 ((i : Int) + 1) = ((i + 1 : Nat) : Int) := u4 (by omega)
       by_cases hn1 : (E m s i).To = -1
       ·rw [show ((E m s i).To == -1) = true by simp [hn1], cond_true]
        unfold xa Jc
        rw [if_pos hn1, hwi]
        simp
       ·obtain ⟨t1, t2⟩ := Xp h hs hi hn1
        rw [show ((E m s i).To == -1) = false by simp [hn1], cond_false, vz, c1, Option.bind_some, XC _ (by omega), Option.bind_some, Ul, Option.bind_some, gdT (by simp; omega)]
        by_cases h1 : g = 1
        ·subst h1
         rw [show ((((1 : Nat) : Int)) == 1) = true from rfl, cond_true, gdT (by simp; omega)]
         unfold xa Jc
         rw [if_neg hn1, if_pos rfl, hwi]
         rfl
        ·have h2 : g = 2 := by omega
         subst h2
         rw [show ((((2 : Nat) : Int)) == 1) = false from rfl, cond_false]
         obtain ⟨R2, d1, d2, d3⟩ := h.rowAt t1
         rw [← t2, vz, d1, Option.bind_some]
         have e6 : loop (fun s_1 => wo (s : Int) (i : Int) (wN (WS m s)) R2 s_1.1 s_1.2) (out, (0 : Int)) = some (out ++ (List.range (kk m)).flatMap fun j => (if (E m (E m s i).To.toNat j).To = -1 then [] else [(s, i, j)]).map (toC m 2)) := by
          refine qG (fun j => (if (E m (E m s i).To.toNat j).To = -1 then [] else [(s, i, j)]).map (toC m 2)) (kk m) (by omega) 1 40000 (by omega) (fun j _ => by rw [List.length_map]; split <;> simp) ?_ ?_
          ·intro j out hj ho
           unfold wo
           simp only
           rw [d2, show decide ((j : Int) < (kk m : Int)) = true by simp [hj], cond_true, vz, d3 j hj, Option.bind_some]
           have hwj : w64 ((j : Int) + 1) = ((j + 1 : Nat) : Int) := u4 (by omega)
           by_cases hn2 : (E m (E m s i).To.toNat j).To = -1
           ·rw [show ((E m (E m s i).To.toNat j).To != -1) = false by simp [hn2], cond_false, if_pos hn2]
            unfold wr
            rw [hwj]
            simp
           ·rw [show ((E m (E m s i).To.toNat j).To != -1) = true by simp [hn2], cond_true, if_neg hn2, XC _ (by simp; omega), Option.bind_some, Ul, Option.bind_some, gdT (by simp; omega), gdT (by simp; omega)]
            unfold wr
            rw [hwj]
            rfl
          ·intro out
           unfold wo
           simp only
           rw [d2]
           simp
         rw [e6, Option.bind_some]
         unfold xa Jc
         rw [if_neg hn1, if_neg (by decide), hwi]
         unfold z3C
         rw [QQ]
      ·intro out
       unfold wp
       simp only
       rw [b2]
       simp
     rw [e4, Option.bind_some]
     unfold xc
     rw [hw]
     unfold z0b
     rw [if_neg h0, QQ]
   ·rw [decide_eq_false hc, Bool.not_false, cond_true, if_neg hc]
    unfold xc
    rw [hw]
    simp
  ·intro out
   unfold wq
   simp
 rw [key, Option.bind_some]
 unfold ua GL
 rw [List.nil_append, QQ]
variable (hG : GG (kk m) m.Rows.length ≤ 1000000000)
include hG
end
open Classical
theorem Yr {f : Nat → List α} (key : α → Nat) : ∀ n, (∀ i, i < n → (f i).Nodup ∧ ∀ x ∈ f i, key x = i) → ((List.range n).flatMap f).Nodup
 | 0, _ => by simp
 | n + 1, h => by
  rw [List.range_succ, List.flatMap_append, List.flatMap_cons, List.flatMap_nil, List.append_nil, List.nodup_append]
  refine ⟨Yr key n fun i hi => h i (by omega), (h n (by omega)).1, ?_⟩
  intro a ha b hb e
  subst e
  obtain ⟨i, hi, hx⟩ := List.mem_flatMap.1 ha
  have hi := List.mem_range.1 hi
  have h1 := (h i (by omega)).2 a hx
  have h2 := (h n (by omega)).2 a hb
  omega
theorem z0L {α β : Type} {l1 : List α} {l2 : List β} (f : α → β) (n1 : l1.Nodup) (n2 : l2.Nodup) (hf : ∀ x ∈ l1, ∀ y ∈ l1, f x = f y → x = y) (hm : ∀ b, b ∈ l2 ↔ ∃ a ∈ l1, f a = b) : l1.length = l2.length := by
 have n3 : (l1.map f).Nodup := by
  unfold List.Nodup
  rw [List.pairwise_map]
  exact List.Pairwise.imp_of_mem (fun {a b} ha hb q e => q (hf a ha b hb e)) n1
 have hp : (l1.map f).Perm l2 := (List.perm_ext_iff_of_nodup n3 n2).2 fun b => by rw [hm, List.mem_map]
 rw [← hp.length_eq, List.length_map]
variable {t : T3}
section
variable {m : z8} (h : VM m)
include h
omit h in
theorem QE : Rc m 0 := ⟨[], fun i hi => by simp at hi, rfl⟩
theorem KP {t i : Nat} (ht : t < m.Rows.length) (hr : Rc m t) (hi : i < kk m) (hn : (E m t i).To ≠ -1) : Rc m (E m t i).To.toNat := by
 obtain ⟨u, hu, ha⟩ := hr
 obtain ⟨q1, q2⟩ := Xp h ht hi hn
 refine ⟨u ++ [i], fun j hj => ?_, ?_⟩
 ·rcases List.mem_append.1 hj with q | q
  ·exact hu j q
  ·simp only [List.mem_singleton] at q; subst q; exact hi
 ·rw [z0g, ha]
  show (nxE m (t : Int) i).To = _
  unfold nxE
  rw [if_neg (by omega), q2]
  rfl
theorem z2z : ∀ (w : List Nat) (t s : Nat), t < m.Rows.length → Rc m t → Wd (kk m) w → KA m s t w → s < m.Rows.length ∧ Rc m s
 | [], t, s, ht, hr, _, q => by simp only [KA] at q; subst q; exact ⟨ht, hr⟩
 | i :: w, t, s, ht, hr, hw, q => by
  have hi : i < kk m := hw i (by simp)
  simp only [KA] at q
  rcases q with q | ⟨hn, q⟩
  ·subst q; exact ⟨ht, hr⟩
  ·exact z2z w _ s (Xp h ht hi hn).1 (KP h ht hr hi hn) (fun j hj => hw j (by simp [hj])) q
theorem z2B : ∀ (w : List Nat) (t s j : Nat), t < m.Rows.length → Rc m t → Wd (kk m) w → z1Q m s j t w → s < m.Rows.length ∧ Rc m s ∧ j < kk m ∧ (E m s j).To ≠ -1
 | [], t, s, j, _, _, _, q => q.elim
 | i :: w, t, s, j, ht, hr, hw, q => by
  have hi : i < kk m := hw i (by simp)
  obtain ⟨hn, q⟩ := q
  rcases q with ⟨rfl, rfl⟩ | q
  ·exact ⟨ht, hr, hi, hn⟩
  ·exact z2B w _ s j (Xp h ht hi hn).1 (KP h ht hr hi hn) (fun j hj => hw j (by simp [hj])) q
theorem z2A : ∀ (w : List Nat) (t s j k : Nat), t < m.Rows.length → Rc m t → Wd (kk m) w → z1C m s j k t w → s < m.Rows.length ∧ Rc m s ∧ j < kk m ∧ (E m s j).To ≠ -1 ∧ k < kk m ∧ (E m (E m s j).To.toNat k).To ≠ -1
 | [], t, s, j, k, _, _, _, q => q.elim
 | i :: w, t, s, j, k, ht, hr, hw, q => by
  have hi : i < kk m := hw i (by simp)
  obtain ⟨hn, q⟩ := q
  rcases q with ⟨rfl, rfl, q⟩ | q
  ·refine ⟨ht, hr, hi, hn, ?_⟩
   cases w with
   | nil => exact q.elim
   | cons a w =>
    obtain ⟨rfl, q2⟩ := q
    exact ⟨hw a (by simp), q2⟩
  ·exact z2A w _ s j k (Xp h ht hi hn).1 (KP h ht hr hi hn) (fun j hj => hw j (by simp [hj])) q
omit h in
theorem Xx {s i : Nat}  : t ∈ z3C m s i ↔ ∃ j, j < kk m ∧ (E m (E m s i).To.toNat j).To ≠ -1 ∧ t = (s, i, j) := by
 unfold z3C
 rw [List.mem_flatMap]
 constructor
 ·rintro ⟨j, hj, q⟩
  split at q
  ·simp at q
  ·rename_i hn
   exact ⟨j, List.mem_range.1 hj, hn, by simpa using q⟩
 ·rintro ⟨j, hj, hn, rfl⟩
  exact ⟨j, List.mem_range.2 hj, by rw [if_neg hn]; simp⟩
omit h in
theorem jZ {g s i : Nat}  : t ∈ Jc m g s i ↔ (E m s i).To ≠ -1 ∧ ((g = 1 ∧ t = (s, i, 0)) ∨ (g ≠ 1 ∧ t ∈ z3C m s i)) := by
 unfold Jc
 split
 ·rename_i hn; simp [hn]
 ·rename_i hn
  split
  ·rename_i h1; simp [hn, h1]
  ·rename_i h1; simp [hn, h1]
omit h in
theorem uw {g s : Nat}  : t ∈ z0b m g s ↔ (g = 0 ∧ t = (s, 0, 0)) ∨ (g ≠ 0 ∧ ∃ i, i < kk m ∧ t ∈ Jc m g s i) := by
 unfold z0b
 split
 ·rename_i h0; simp [h0]
 ·rename_i h0
  simp [h0, List.mem_flatMap]
omit h in
theorem YL : t ∈ GL m g ↔ ∃ s, s < m.Rows.length ∧ Rc m s ∧ t ∈ z0b m g s := by
 unfold GL
 rw [List.mem_flatMap]
 constructor
 ·rintro ⟨s, hs, q⟩
  split at q
  ·rename_i hr; exact ⟨s, List.mem_range.1 hs, hr, q⟩
  ·simp at q
 ·rintro ⟨s, hs, hr, q⟩
  exact ⟨s, List.mem_range.2 hs, by rw [if_pos hr]; exact q⟩
omit h in
theorem Jn (g : Nat) : (GL m g).Nodup := by
 have hP : ∀ s i, (z3C m s i).Nodup := fun s i => by
  unfold z3C
  refine Yr (fun t : T3 => t.2.2) _ fun j _ => ⟨?_, ?_⟩
  ·split <;> simp
  ·intro x hx
   split at hx
   ·simp at hx
   ·simp only [List.mem_singleton] at hx; subst hx; rfl
 have hE : ∀ s i, (Jc m g s i).Nodup := fun s i => by
  unfold Jc
  split
  ·simp
  split
  ·simp
  ·exact hP s i
 have hE1 : ∀ s i, ∀ t ∈ Jc m g s i, t.1 = s ∧ t.2.1 = i := fun s i t ht => by
  rcases (jZ.1 ht).2 with ⟨_, rfl⟩ | ⟨_, q⟩
  ·exact ⟨rfl, rfl⟩
  ·obtain ⟨j, _, _, rfl⟩ := Xx.1 q
   exact ⟨rfl, rfl⟩
 unfold GL
 refine Yr (fun t : T3 => t.1) _ fun s _ => ⟨?_, ?_⟩
 ·split
  ·unfold z0b
   split
   ·simp
   ·exact Yr (fun t : T3 => t.2.1) _ fun i _ => ⟨hE s i, fun t ht => (hE1 s i t ht).2⟩
  ·simp
 ·intro t ht
  split at ht
  ·rcases uw.1 ht with ⟨_, rfl⟩ | ⟨_, i, _, q⟩
   ·rfl
   ·exact (hE1 s i t q).1
  ·simp at ht
def z5u (g : Nat) (x : Mk3) : Nat := if g = 0 then x.1.length else if g = 1 then x.2.1.length else x.2.2.length
omit h in
theorem zbK : zak ([0], [], []) := ⟨fun y hy => ⟨0, by simpa using hy⟩, fun y hy => by simp at hy, fun y hy => by simp at hy⟩
theorem z3t {l : List (List Nat)} (hl : WL m l) :
  (∀ s : Nat, (s : Int) ∈ (cv0 m l).1 ↔ kK m l ⟨s, -1, -1⟩) ∧ (∀ s j : Nat, (⟨s, j⟩ : yu Int) ∈ (cv0 m l).2.1 ↔ kK m l ⟨s, j, -1⟩) ∧ (∀ s j k : Nat, (⟨s, j, k⟩ : z7) ∈ (cv0 m l).2.2 ↔ kK m l ⟨s, j, k⟩) := by
 obtain ⟨a1, a2, a3⟩ := z3q h (l := l) (x := ([0], [], [])) (fun w hw => (hl.2 w hw).1) (by simp)
 refine ⟨fun s => ?_, fun s j => ?_, fun s j k => ?_⟩
 ·show (s : Int) ∈ (cvA m l _).1 ↔ _
  rw [a1]
  unfold kK
  simp only [Q7, List.mem_singleton, yf.mk.injEq, and_true]
  exact or_comm
 ·show (⟨s, j⟩ : yu Int) ∈ (cvA m l _).2.1 ↔ _
  rw [a2]
  unfold kK
  simp only [Ui, List.not_mem_nil, false_or, yf.mk.injEq]
  constructor
  ·exact .inl
  ·rintro (q | q)
   ·exact q
   ·omega
 ·show (⟨s, j, k⟩ : z7) ∈ (cvA m l _).2.2 ↔ _
  rw [a3]
  unfold kK
  simp only [Uh, List.not_mem_nil, false_or, yf.mk.injEq]
  constructor
  ·exact .inl
  ·rintro (q | q)
   ·exact q
   ·omega
theorem z9S {l : List (List Nat)} (hl : WL m l) :
  (∀ s : Nat, kK m l ⟨s, -1, -1⟩ → (s, 0, 0) ∈ GL m 0) ∧ (∀ s j : Nat, kK m l ⟨s, j, -1⟩ → (s, j, 0) ∈ GL m 1) ∧ (∀ s j k : Nat, kK m l ⟨s, j, k⟩ → (s, j, k) ∈ GL m 2) := by
 refine ⟨fun s q => ?_, fun s j q => ?_, fun s j k q => ?_⟩
 ·rw [YL]
  rcases q with ⟨w, hw, q⟩ | q
  ·obtain ⟨b1, b2⟩ := z2z h w 0 s h.len1 QE (hl.2 w hw).1 ((Q7 s w 0).1 q)
   exact ⟨s, b1, b2, uw.2 (.inl ⟨rfl, rfl⟩)⟩
  ·simp only [yf.mk.injEq, and_true] at q
   have : s = 0 := by omega
   subst this
   exact ⟨0, h.len1, QE, uw.2 (.inl ⟨rfl, rfl⟩)⟩
 ·rw [YL]
  rcases q with ⟨w, hw, q⟩ | q
  ·obtain ⟨b1, b2, b3, b4⟩ := z2B h w 0 s j h.len1 QE (hl.2 w hw).1 ((Ui s j w 0).1 q)
   exact ⟨s, b1, b2, uw.2 (.inr ⟨by decide, j, b3, jZ.2 ⟨b4, .inl ⟨rfl, rfl⟩⟩⟩)⟩
  ·simp only [yf.mk.injEq] at q; omega
 ·rw [YL]
  rcases q with ⟨w, hw, q⟩ | q
  ·obtain ⟨b1, b2, b3, b4, b5, b6⟩ := z2A h w 0 s j k h.len1 QE (hl.2 w hw).1 ((Uh s j k w 0).1 q)
   exact ⟨s, b1, b2, uw.2 (.inr ⟨by decide, j, b3, jZ.2 ⟨b4, .inr ⟨by decide, Xx.2 ⟨k, b5, b6, rfl⟩⟩⟩⟩)⟩
  ·simp only [yf.mk.injEq] at q; omega
def cvL (m : z8) (l : List (List Nat)) (g : Nat) : List T3 := (GL m g).filter fun t => decide (kK m l (toI g t))
theorem z9T {l : List (List Nat)} (hl : WL m l)  (hg : g < 3) : (cvL m l g).length = z5u g (cv0 m l) := by
 obtain ⟨a1, a2, a3⟩ := z3t h hl
 obtain ⟨b1, b2, b3⟩ := z9S h hl
 obtain ⟨c1, c2, c3⟩ := z3p h (l := l) (x := ([0], [], [])) (by simp)
 obtain ⟨d1, d2, d3⟩ := z5p h (l := l) (fun w hw => (hl.2 w hw).1) zbK
 have hnd : (cvL m l g).Nodup := List.Nodup.sublist List.filter_sublist (Jn g)
 have hmem : ∀ t, t ∈ cvL m l g ↔ t ∈ GL m g ∧ kK m l (toI g t) := fun t => by unfold cvL; rw [List.mem_filter]; simp
 have hg : g = 0 ∨ g = 1 ∨ g = 2 := by omega
 rcases hg with rfl | rfl | rfl
 ·refine z0L (l2 := (cv0 m l).1) (fun t : T3 => (t.1 : Int)) hnd c1 ?_ ?_
  ·intro x hx y hy e
   obtain ⟨s, _, _, q⟩ := YL.1 ((hmem x).1 hx).1
   obtain ⟨s', _, _, q'⟩ := YL.1 ((hmem y).1 hy).1
   simp only [uw, true_and, ne_eq, not_true_eq_false, false_and, or_false] at q q'
   subst q q'
   have e' : (s : Int) = (s' : Int) := e
   have : s = s' := by omega
   rw [this]
  ·intro b
   constructor
   ·intro hb
    obtain ⟨s, rfl⟩ := d1 b hb
    exact ⟨(s, 0, 0), (hmem _).2 ⟨b1 s ((a1 s).1 hb), (a1 s).1 hb⟩, rfl⟩
   ·rintro ⟨t, ht, rfl⟩
    exact (a1 t.1).2 ((hmem t).1 ht).2
 ·refine z0L (l2 := (cv0 m l).2.1) (fun t : T3 => (⟨t.1, t.2.1⟩ : yu Int)) hnd c2 ?_ ?_
  ·intro x hx y hy e
   obtain ⟨s, _, _, q⟩ := YL.1 ((hmem x).1 hx).1
   obtain ⟨s', _, _, q'⟩ := YL.1 ((hmem y).1 hy).1
   simp only [uw, jZ, Nat.one_ne_zero, false_and, false_or, ne_eq, not_false_eq_true, true_and, not_true_eq_false, or_false] at q q'
   obtain ⟨i, _, _, rfl⟩ := q
   obtain ⟨i', _, _, rfl⟩ := q'
   simp only [yu.mk.injEq] at e
   have e1 : s = s' := by omega
   have e2 : i = i' := by omega
   rw [e1, e2]
  ·intro b
   constructor
   ·intro hb
    obtain ⟨s, j, rfl⟩ := d2 b hb
    exact ⟨(s, j, 0), (hmem _).2 ⟨b2 s j ((a2 s j).1 hb), (a2 s j).1 hb⟩, rfl⟩
   ·rintro ⟨t, ht, rfl⟩
    exact (a2 t.1 t.2.1).2 ((hmem t).1 ht).2
 ·refine z0L (l2 := (cv0 m l).2.2) (fun t : T3 => (⟨t.1, t.2.1, t.2.2⟩ : z7)) hnd c3 ?_ ?_
  ·intro x hx y hy e
   simp only [z7.mk.injEq] at e
   have e1 : x.1 = y.1 := by omega
   have e2 : x.2.1 = y.2.1 := by omega
   have e3 : x.2.2 = y.2.2 := by omega
   exact Prod.ext e1 (Prod.ext e2 e3)
  ·intro b
   constructor
   ·intro hb
    obtain ⟨s, j, k, rfl⟩ := d3 b hb
    exact ⟨(s, j, k), (hmem _).2 ⟨b3 s j k ((a3 s j k).1 hb), (a3 s j k).1 hb⟩, rfl⟩
   ·rintro ⟨t, ht, rfl⟩
    exact (a3 t.1 t.2.1 t.2.2).2 ((hmem t).1 ht).2
def msL (m : z8) (l : List (List Nat)) (g : Nat) : List yf := ((GL m g).map (toI g)).filter fun x => !decide (kK m l x)
theorem z9p {l : List (List Nat)} (hl : WL m l)  (hg : g < 3) : (msL m l g).length + z5u g (cv0 m l) = (GL m g).length := by
 rw [← z9T h hl hg]
 unfold msL cvL
 generalize GL m g = L
 induction L with
 | nil => rfl
 | cons t L ih =>
  rw [List.map_cons, List.filter_cons, List.filter_cons]
  by_cases hc : kK m l (toI g t)
  ·simp only [hc, decide_true, Bool.not_true, Bool.false_eq_true, if_false, if_true, List.length_cons]
   omega
  ·simp only [hc, decide_false, Bool.not_false, Bool.false_eq_true, if_false, if_true, List.length_cons]
   omega
end
open Classical
theorem z9u : ∀ {l : List (List Int)}, (∀ w ∈ l, ∃ u : List Nat, w = wN u ∧ Wd (kk m) u ∧ u.length ≤ 256) → ∃ L : List (List Nat), l = lN L ∧ ∀ u ∈ L, Wd (kk m) u ∧ u.length ≤ 256
 | [], _ => ⟨[], rfl, fun u hu => by simp at hu⟩
 | w :: l, h => by
  obtain ⟨u, rfl, q⟩ := h w (by simp)
  obtain ⟨L, rfl, q2⟩ := z9u (l := l) (fun w hw => h w (by simp [hw]))
  refine ⟨u :: L, rfl, fun v hv => ?_⟩
  rcases List.mem_cons.1 hv with e | e
  ·rw [e]; exact q
  ·exact q2 v e
section
variable {m : z8} {l : List (List Nat)}
theorem z3y (v : VM m) (hc : chE m.Inputs (lN l) = 0) : xE m (lN l) = some 0 := by
 unfold xE
 rw [z1d, z6p v, Option.bind_some, z26, hc]
 rfl
def YA (m : z8) (l : List (List Nat)) : zC := ⟨⟨z5u 0 (cv0 m l), (GL m 0).length⟩, ⟨z5u 1 (cv0 m l), (GL m 1).length⟩, ⟨z5u 2 (cv0 m l), (GL m 2).length⟩⟩
theorem z5r (x : Mk3)  (hg : g < 3) : xD (g : Int) (mk3 x) = some (z5u g x : Int) := by
 have hg : g = 0 ∨ g = 1 ∨ g = 2 := by omega
 unfold xD mk3 mks z5u
 rcases hg with rfl | rfl | rfl <;> simp <;> rfl
theorem z68 (v : VM m) (hl : WL m l) (hc : chE m.Inputs (lN l) = 0) : wP m (lN l) = some (YA m l, 0) := by
 unfold wP
 rw [z3y v hc, Option.bind_some, show ((0 : Int) != 0) = false from rfl, cond_false, Q6 v hl, Option.bind_some]
 have step : ∀ (n : kL (yu Int)) (g : Nat), g < 3 → xF m (mk3 (cv0 m l)) n (g : Int) = some (.next (kL.setI n (g : Int) ⟨(z5u g (cv0 m l) : Int), ((GL m g).length : Int)⟩, ((g + 1 : Nat) : Int))) := by
  intro n g hg
  unfold xF
  rw [show decide ((g : Int) < 3) = true by simp; omega, cond_true, z5r _ hg, Option.bind_some, z1i v hg, Option.bind_some, List.length_map, u4 (by omega)]
  have : ∃ c, idx (kL.toL n) (g : Int) = some c := by
   have hg : g = 0 ∨ g = 1 ∨ g = 2 := by omega
   rcases hg with rfl | rfl | rfl <;> exact ⟨_, rfl⟩
  obtain ⟨c, e⟩ := this
  rw [e]
  rfl
 have key : loop (fun s => xF m (mk3 (cv0 m l)) s.1 s.2) ((kL.mk (yu.mk 0 0) (yu.mk 0 0) (yu.mk 0 0)), (0 : Int)) = some ⟨(YA m l).States, (YA m l).Edges, (YA m l).Pairs⟩ := by
  refine QR (fun i => (match i with | 0 => (⟨⟨0, 0⟩, ⟨0, 0⟩, ⟨0, 0⟩⟩ : kL (yu Int)) | 1 => ⟨(YA m l).States, ⟨0, 0⟩, ⟨0, 0⟩⟩ | 2 => ⟨(YA m l).States, (YA m l).Edges, ⟨0, 0⟩⟩ | _ => ⟨(YA m l).States, (YA m l).Edges, (YA m l).Pairs⟩, (i : Int))) 3 (by decide) ?_ ?_
  ·intro i hi
   have hg : i = 0 ∨ i = 1 ∨ i = 2 := by omega
   rcases hg with rfl | rfl | rfl <;> exact step _ _ (by decide)
  ·show xF m (mk3 (cv0 m l)) _ 3 = _
   unfold xF
   rfl
 rw [key]
 rfl
end
open Classical
def up (m : z8) (g : Nat) (t : T3) : List Nat := if g = 0 then WS m t.1 else if g = 1 then WS m t.1 ++ [t.2.1] else WS m t.1 ++ [t.2.1, t.2.2]
def exS (m : z8) (g : Nat) (out : List (List Nat)) (t : T3) : List (List Nat) := if kK m out (toI g t) then out else out ++ [up m g t]
def exL (m : z8) (g : Nat) (l : List (List Nat)) : List (List Nat) := (GL m g).foldl (exS m g) l
def mkd (g : Nat) (t : T3) (x : Mk3) : Prop := if g = 0 then (t.1 : Int) ∈ x.1 else if g = 1 then (⟨t.1, t.2.1⟩ : yu Int) ∈ x.2.1 else (⟨t.1, t.2.1, t.2.2⟩ : z7) ∈ x.2.2
theorem z7X (m : z8) (g : Nat) (t : T3) (x : Mk3) : Y9 (toC m g t).has_ (mk3 x) = some (decide (mkd g t x)) := by
 unfold toC mkd
 by_cases h0 : g = 0
 ·simp only [if_pos h0, Y9, uD, mk3, V6]; rfl
 ·by_cases h1 : g = 1
  ·simp only [if_neg h0, if_pos h1, Y9, uC, mk3, V6]; rfl
  ·simp only [if_neg h0, if_neg h1, Y9, uB, mk3, V6]; rfl
theorem z4b (m : z8) (g : Nat) (t : T3) : (toC m g t).word_ = wN (up m g t) := by
 unfold toC up
 by_cases h0 : g = 0
 ·simp only [if_pos h0]
 ·by_cases h1 : g = 1
  ·simp only [if_neg h0, if_pos h1]; simp [wN]
  ·simp only [if_neg h0, if_neg h1]; simp [wN]
theorem kK.app {l : List (List Nat)} {x : yf} (h : kK m l x) (k : List (List Nat)) : kK m (l ++ k) x := by
 rcases h with ⟨w, hw, q⟩ | q
 ·exact .inl ⟨w, List.mem_append_left _ hw, q⟩
 ·exact .inr q
theorem kK.congr {l k : List (List Nat)} {x : yf} (h : ∀ w, w ∈ l ↔ w ∈ k) : kK m l x ↔ kK m k x := by
 unfold kK
 simp only [h]
theorem z80 (m : z8) (g : Nat) (out : List (List Nat)) (t : T3) : ∃ k, exS m g out t = out ++ k ∧ k.length ≤ 1 ∧ ∀ w ∈ k, w = up m g t := by
 unfold exS
 split
 ·exact ⟨[], by simp, by simp, by simp⟩
 ·exact ⟨[up m g t], rfl, by simp, by simp⟩
theorem Ud (m : z8) (g : Nat) : ∀ (L : List T3) (out : List (List Nat)), ∃ k, L.foldl (exS m g) out = out ++ k ∧ k.length ≤ L.length ∧ ∀ w ∈ k, ∃ t ∈ L, w = up m g t
 | [], out => ⟨[], by simp, by simp, by simp⟩
 | t :: L, out => by
  obtain ⟨k1, e1, l1, w1⟩ := z80 m g out t
  obtain ⟨k2, e2, l2, w2⟩ := Ud m g L (exS m g out t)
  refine ⟨k1 ++ k2, by rw [List.foldl_cons, e2, e1, List.append_assoc], by simp; omega, fun w hw => ?_⟩
  rcases List.mem_append.1 hw with q | q
  ·exact ⟨t, by simp, w1 w q⟩
  ·obtain ⟨t', ht, q⟩ := w2 w q
   exact ⟨t', by simp [ht], q⟩
variable {K : List (List Nat)}
section
variable {m : z8} (h : VM m)
include h
theorem z3U {t : Nat} (ht : t < m.Rows.length) (hr : Rc m t) : Acc m t (WS m t) := by
 obtain ⟨r, e, _, q⟩ := Vg h
 exact ((z6w h q ht).2 hr).2
omit h in
theorem Zp (t i : Nat) (w : List Nat) : aft m (t : Int) (i :: w) = aft m (E m t i).To w := by
 show aft m (nxE m (t : Int) i).To w = _
 rw [QM]
omit h in
theorem Jl (w : List Nat) : aft m (-1) w < 0 := z0f m w (-1) (by omega)
theorem z15 : ∀ (w : List Nat) (t s : Nat), t < m.Rows.length → Wd (kk m) w → aft m (t : Int) w = (s : Int) → KA m s t w
 | [], t, s, _, _, q => by
  have q : (t : Int) = (s : Int) := q
  show s = t
  omega
 | i :: w, t, s, ht, hw, q => by
  have hi : i < kk m := hw i (by simp)
  rw [Zp] at q
  have hn : (E m t i).To ≠ -1 := by
   intro e
   rw [e] at q
   have := Jl (m := m) w
   omega
  obtain ⟨q1, q2⟩ := Xp h ht hi hn
  rw [← q2] at q
  exact .inr ⟨hn, z15 w _ s q1 (fun j hj => hw j (by simp [hj])) q⟩
theorem z18 : ∀ (u : List Nat) (t s i : Nat), t < m.Rows.length → Wd (kk m) u → aft m (t : Int) u = (s : Int) → (E m s i).To ≠ -1 → ∀ v, z1Q m s i t (u ++ i :: v)
 | [], t, s, i, _, _, q, hn, v => by
  have q : (t : Int) = (s : Int) := q
  have : t = s := by omega
  subst this
  exact ⟨hn, .inl ⟨rfl, rfl⟩⟩
 | j :: u, t, s, i, ht, hw, q, hn, v => by
  have hj : j < kk m := hw j (by simp)
  rw [Zp] at q
  have hn' : (E m t j).To ≠ -1 := by
   intro e
   rw [e] at q
   have := Jl (m := m) u
   omega
  obtain ⟨q1, q2⟩ := Xp h ht hj hn'
  rw [← q2] at q
  exact ⟨hn', .inr (z18 u _ s i q1 (fun j hj => hw j (by simp [hj])) q hn v)⟩
theorem z17 : ∀ (u : List Nat) (t s i k : Nat), t < m.Rows.length → Wd (kk m) u → aft m (t : Int) u = (s : Int) → (E m s i).To ≠ -1 → (E m (E m s i).To.toNat k).To ≠ -1 → z1C m s i k t (u ++ [i, k])
 | [], t, s, i, k, _, _, q, hn, hn2 => by
  have q : (t : Int) = (s : Int) := q
  have : t = s := by omega
  subst this
  exact ⟨hn, .inl ⟨rfl, rfl, rfl, hn2⟩⟩
 | j :: u, t, s, i, k, ht, hw, q, hn, hn2 => by
  have hj : j < kk m := hw j (by simp)
  rw [Zp] at q
  have hn' : (E m t j).To ≠ -1 := by
   intro e
   rw [e] at q
   have := Jl (m := m) u
   omega
  obtain ⟨q1, q2⟩ := Xp h ht hj hn'
  rw [← q2] at q
  exact ⟨hn', .inr (z17 u _ s i k q1 (fun j hj => hw j (by simp [hj])) q hn hn2)⟩
theorem k8 (hg : g < 3)  (ht : t ∈ GL m g) : t.1 < m.Rows.length ∧ Rc m t.1 ∧ (g ≠ 0 → t.2.1 < kk m ∧ (E m t.1 t.2.1).To ≠ -1) ∧ (g = 2 → t.2.2 < kk m ∧ (E m (E m t.1 t.2.1).To.toNat t.2.2).To ≠ -1) := by
 have _ := h
 obtain ⟨s, hs, hr, q⟩ := YL.1 ht
 rcases uw.1 q with ⟨rfl, rfl⟩ | ⟨h0, i, hi, q⟩
 ·exact ⟨hs, hr, fun q => (q rfl).elim, fun q => by omega⟩
 ·obtain ⟨hn, q⟩ := jZ.1 q
  rcases q with ⟨rfl, rfl⟩ | ⟨h1, q⟩
  ·exact ⟨hs, hr, fun _ => ⟨hi, hn⟩, fun q => by omega⟩
  ·obtain ⟨j, hj, hn2, rfl⟩ := Xx.1 q
   exact ⟨hs, hr, fun _ => ⟨hi, hn⟩, fun _ => ⟨hj, hn2⟩⟩
theorem Qj (hg : g < 3)  (ht : t ∈ GL m g) : Wd (kk m) (up m g t) ∧ (up m g t).length ≤ m.Rows.length + 1 ∧ z1D m (toI g t) 0 (up m g t) := by
 obtain ⟨a1, a2, a3, a4⟩ := k8 h hg ht
 have ha := z3U h a1 a2
 have hlen := ha.len
 have hg' : g = 0 ∨ g = 1 ∨ g = 2 := by omega
 unfold up toI
 rcases hg' with rfl | rfl | rfl
 ·simp only [if_true]
  exact ⟨ha.wd, by omega, (Q7 _ _ _).2 (z15 h _ 0 _ h.len1 ha.wd ha.aft)⟩
 ·obtain ⟨b1, b2⟩ := a3 (by decide)
  simp only [Nat.one_ne_zero, if_false, if_true]
  refine ⟨fun j hj => ?_, by simp; omega, (Ui _ _ _ _).2 (z18 h _ 0 _ _ h.len1 ha.wd ha.aft b2 [])⟩
  rcases List.mem_append.1 hj with q | q
  ·exact ha.wd j q
  ·simp only [List.mem_singleton] at q; subst q; exact b1
 ·obtain ⟨b1, b2⟩ := a3 (by decide)
  obtain ⟨c1, c2⟩ := a4 rfl
  simp only [show ¬ (2 = 0) by decide, show ¬ (2 = 1) by decide, if_false]
  refine ⟨fun j hj => ?_, by simp; omega, (Uh _ _ _ _ _).2 (z17 h _ 0 _ _ _ h.len1 ha.wd ha.aft b2 c2)⟩
  rcases List.mem_append.1 hj with q | q
  ·exact ha.wd j q
  ·simp only [List.mem_cons, List.not_mem_nil, or_false] at q
   rcases q with rfl | rfl
   ·exact b1
   ·exact c1
theorem z6o (hg : g < 3) : ∀ (L : List T3), (∀ t ∈ L, t ∈ GL m g) → ∀ (out : List (List Nat)), ∀ t ∈ L, kK m (L.foldl (exS m g) out) (toI g t)
 | [], _, _, t, ht => by simp at ht
 | t0 :: L, hL, out, t, ht => by
  rw [List.foldl_cons]
  rcases List.mem_cons.1 ht with e | q
  ·subst e
   obtain ⟨k, e, _, _⟩ := Ud m g L (exS m g out t)
   rw [e]
   refine kK.app ?_ k
   unfold exS
   split
   ·assumption
   ·exact .inl ⟨up m g t, by simp, (Qj h hg (hL t (by simp))).2.2⟩
  ·exact z6o hg L (fun t ht => hL t (by simp [ht])) _ t q
variable {l : List (List Nat)} (hl : WL m l) (h12 : l.length ≤ 12 ∧ ∀ w ∈ l, w.length ≤ 8) (hR : m.Rows.length ≤ 6) (h3 : kk m ≤ 3)
include hl h12 hR h3
omit hl h12 hR h3 in
theorem K1 (hK : WL m K)  (hg : g < 3) (hc : ∀ t ∈ GL m g, kK m K (toI g t)) : ((GL m g).map (toI g)).filter (fun x => !decide (kK m K x)) = [] ∧ z5u g (cv0 m K) = (GL m g).length := by
 have h1 : ((GL m g).map (toI g)).filter (fun x => !decide (kK m K x)) = [] := by
  rw [List.filter_eq_nil_iff]
  intro x hx
  obtain ⟨t, ht, rfl⟩ := List.mem_map.1 hx
  simp [hc t ht]
 have h2 := z9p h hK hg
 unfold msL at h2
 rw [h1] at h2
 exact ⟨h1, by simpa using h2⟩
omit h hl h12 hR h3 in
theorem Kp {s j : Nat} : ∀ (w : List Nat) (t : Nat), z1Q m s j t w → (E m s j).To ≠ -1 → KA m (E m s j).To.toNat t w
 | [], _, q, _ => q.elim
 | i :: w, t, ⟨hn, q⟩, hn2 => by
  rcases q with ⟨rfl, rfl⟩ | q
  ·refine .inr ⟨hn, ?_⟩
   cases w <;> simp [KA]
  ·exact .inr ⟨hn, Kp w _ q hn2⟩
omit hl h12 hR h3 in
theorem WB (hc : ∀ t ∈ GL m 1, kK m K (toI 1 t)) : ∀ t ∈ GL m 0, kK m K (toI 0 t) := by
 intro t ht
 obtain ⟨a1, a2, _, _⟩ := k8 h (by decide) ht
 have ha := z3U h a1 a2
 show kK m K ⟨(t.1 : Int), -1, -1⟩
 generalize t.1 = s at *
 generalize WS m s = v at ha
 rcases List.eq_nil_or_concat v with rfl | ⟨u, i, rfl⟩
 ·have : ((0 : Nat) : Int) = (s : Int) := ha.aft
  have : s = 0 := by omega
  subst this
  exact .inr rfl
 ·rw [List.concat_eq_append] at ha
  have hu : Wd (kk m) u := fun j hj => ha.wd j (by simp [hj])
  have hi : i < kk m := ha.wd i (by simp)
  have haf := ha.aft
  rw [z0g] at haf
  have hin := z3T h u 0 ⟨by omega, by have := h.len1; omega⟩ hu
  obtain ⟨p, hp⟩ : ∃ p : Nat, aft m 0 u = (p : Int) := by
   rcases Int.lt_or_le (aft m 0 u) 0 with q | q
   ·have := z0f m [i] _ q
    omega
   ·exact ⟨(aft m 0 u).toNat, by omega⟩
  have hpn : p < m.Rows.length := by have := hin.2; omega
  rw [hp, Zp] at haf
  have haf : (E m p i).To = (s : Int) := haf
  have hn : (E m p i).To ≠ -1 := by omega
  have hg : (p, i, 0) ∈ GL m 1 := YL.2 ⟨p, hpn, ⟨u, hu, hp⟩, uw.2 (.inr ⟨by decide, i, hi, jZ.2 ⟨hn, .inl ⟨rfl, rfl⟩⟩⟩)⟩
  rcases hc _ hg with ⟨w, hw, q⟩ | q
  ·have q' := Kp w 0 ((Ui p i w 0).1 q) hn
   rw [show (E m p i).To.toNat = s by omega] at q'
   exact .inl ⟨w, hw, (Q7 s w 0).2 q'⟩
  ·have : (toI 1 (p, i, 0)).Input = -1 := by rw [q]
   have : ((i : Nat) : Int) = -1 := this
   omega
end
open Classical
section
variable {m : z8} (h : VM m)
include h
theorem GLr (g : Nat) : (GL m g).length ≤ 256 * m.Rows.length :=
 z11 (g := fun s => if Rc m s then z0b m g s else []) (C := 256) m.Rows.length (fun s _ => by split <;> first | exact z1g h g s | simp)
theorem GLb (g : Nat) : (GL m g).length ≤ 16384 := by
 have := GLr h g
 have := h.len64
 omega
variable {l : List (List Nat)} (hl : WL m l) (hc : chE m.Inputs (lN l) = 0)
include hl hc
omit h hl hc in
theorem z3r (out : List (List Nat)) (w : List Nat) : cv0 m (out ++ [w]) = YS m 0 none w (cv0 m out) := by
 unfold cv0 cvA
 rw [List.foldl_append]
 rfl
end
open Classical
def z1y (n s i : Nat) : zf := ⟨(((s + i + 1) % n : Nat) : Int), 0⟩
def y7 (n : Nat) : z8 := ⟨16, 1, (List.range n).map fun s => (List.range 16).map (z1y n s)⟩
theorem z3g {n : Nat} (h1 : 1 ≤ n) (h2 : n ≤ 64) : vH (n : Int) 16 = some (y7 n) := by
 have row : ∀ s, s < n → loop (fun q => vF (n : Int) 16 (s : Int) q.1 q.2) (([] : List zf), 0) = some ((List.range 16).map (z1y n s)) := by
  intro s hs
  refine (qG (fun i => [z1y n s i]) 16 (by decide) 1 0 (Nat.le_refl _) (fun i _ => Nat.le_refl _) ?_ ?_).trans ?_
  ·intro i out hi ho
   have e1 : w64 ((s : Int) + (i : Int)) = ((s + i : Nat) : Int) := by rw [jX (by omega) (by omega)]; omega
   have e2 : w64 (((s + i : Nat) : Int) + 1) = ((s + i + 1 : Nat) : Int) := u4 (by omega)
   have e3 : Int.tmod ((s + i + 1 : Nat) : Int) (n : Int) = (((s + i + 1) % n : Nat) : Int) := rfl
   unfold vF
   simp only
   rw [show decide ((i : Int) < 16) = true by simp; omega, cond_true, gdT (by omega), e1, e2, e3, gdT (by simp; omega), u4 (by omega)]
   rfl
  ·intro out
   unfold vF
   rfl
  ·rw [List.nil_append, ← List.map_eq_flatMap]
 have rows : loop (fun s => vG (n : Int) 16 s.1 s.2) (([] : List (List zf)), 0) = some ((List.range n).map fun s => (List.range 16).map (z1y n s)) := by
  refine (qG (fun s => [(List.range 16).map (z1y n s)]) n (by omega) 1 0 (Nat.le_refl _) (fun i _ => Nat.le_refl _) ?_ ?_).trans ?_
  ·intro s out hs ho
   unfold vG
   simp only
   rw [show decide ((s : Int) < (n : Int)) = true by simp [hs], cond_true, row s hs, Option.bind_some]
   unfold jk jl
   rw [gdT (by simp; omega), u4 (by omega)]
  ·intro out
   unfold vG
   simp
  ·rw [List.nil_append, ← List.map_eq_flatMap]
 unfold vH
 rw [rows, Option.bind_some]
 rfl
theorem vV (n : Nat) : (y7 n).Rows.length = n := by simp [y7]
theorem z6l {n s i : Nat} (hs : s < n) (hi : i < 16) : E (y7 n) s i = z1y n s i := by
 unfold E y7
 simp [hs, hi]
theorem QY {n s i : Nat} (hs : s < n) (hi : i < 16) : (E (y7 n) s i).To ≠ -1 := by
 rw [z6l hs hi]
 show (((s + i + 1) % n : Nat) : Int) ≠ -1
 omega
theorem z01 {n s i : Nat} (hs : s < n) (hi : i < 16) : (E (y7 n) s i).To = (((s + i + 1) % n : Nat) : Int) := by
 rw [z6l hs hi]
 rfl
def sw : List Nat → Nat
 | [] => 0
 | i :: w => i + 1 + sw w
theorem z8R : ∀ {w : List Nat}, Wd 16 w → sw w ≤ 16 * w.length
 | [], _ => Nat.le_refl _
 | i :: w, h => by
  have := z8R (w := w) fun j hj => h j (by simp [hj])
  have := h i (by simp)
  simp only [sw, List.length_cons]
  omega
theorem zbr (s : Nat) : ∃ w, Wd 16 w ∧ sw w = s ∧ 16 * w.length < s + 16 := by
 induction s using Nat.strongRecOn with
 | ind s ih =>
  by_cases h0 : s = 0
  ·subst h0; exact ⟨[], fun i hi => by simp at hi, rfl, by decide⟩
  ·by_cases h1 : s ≤ 16
   ·refine ⟨[s - 1], fun i hi => ?_, ?_, ?_⟩
    ·simp only [List.mem_singleton] at hi; omega
    ·simp only [sw]; omega
    ·simp only [List.length_cons, List.length_nil]; omega
   ·obtain ⟨w, a, b, c⟩ := ih (s - 16) (by omega)
    refine ⟨15 :: w, fun i hi => ?_, ?_, ?_⟩
    ·rcases List.mem_cons.1 hi with q | q
     ·omega
     ·exact a i q
    ·simp only [sw]; omega
    ·simp only [List.length_cons]; omega
theorem J0 {n : Nat} : ∀ (w : List Nat) (s : Nat), s < n → Wd 16 w → aft (y7 n) (s : Int) w = (((s + sw w) % n : Nat) : Int)
 | [], s, hs, _ => by
  show (s : Int) = (((s + 0) % n : Nat) : Int)
  rw [Nat.add_zero, Nat.mod_eq_of_lt hs]
 | i :: w, s, hs, hw => by
  have hi : i < 16 := hw i (by simp)
  rw [Zp, z01 hs hi, J0 w _ (Nat.mod_lt _ (by omega)) fun j hj => hw j (by simp [hj]), Nat.mod_add_mod]
  simp only [sw]
  rw [show s + i + 1 + sw w = s + (i + 1 + sw w) by omega]
section
variable {n : Nat} (h1 : 16 ≤ n) (h2 : n ≤ 64)
include h1 h2
theorem X1 : VM (y7 n) := by
 refine ⟨by show (1 : Int) ≤ 16; decide, by show (16 : Int) ≤ 16; decide, by show (1 : Int) ≤ 1; decide, by show (1 : Int) ≤ 16; decide, by rw [vV]; omega, by rw [vV]; omega, fun r hr => ?_, fun r hr x hx => ?_⟩
 ·obtain ⟨s, _, rfl⟩ := List.mem_map.1 hr
  simp [y7]
 ·obtain ⟨s, _, rfl⟩ := List.mem_map.1 hr
  obtain ⟨i, _, rfl⟩ := List.mem_map.1 hx
  right
  rw [vV]
  have := Nat.mod_lt (s + i + 1) (show 0 < n by omega)
  refine ⟨?_, ?_, by show (0 : Int) ≤ 0; decide, by show (0 : Int) < 1; decide⟩
  ·show (0 : Int) ≤ (((s + i + 1) % n : Nat) : Int)
   omega
  ·show (((s + i + 1) % n : Nat) : Int) < (n : Int)
   omega
omit h2 in
theorem Q1 (hs : s < n) : ∃ w, Wd 16 w ∧ aft (y7 n) 0 w = (s : Int) ∧ 16 * w.length < s + 16 := by
 obtain ⟨w, a, b, c⟩ := zbr s
 refine ⟨w, a, ?_, c⟩
 have := J0 (n := n) w 0 (by omega) a
 rw [show (0 : Int) = ((0 : Nat) : Int) from rfl, this, b, Nat.zero_add, Nat.mod_eq_of_lt hs]
omit h2 in
theorem z3f (hs : s < n) : Rc (y7 n) s := by
 obtain ⟨w, a, b, _⟩ := Q1 h1 hs
 exact ⟨w, a, b⟩
theorem XA (hs : s < n) : Acc (y7 n) s (WS (y7 n) s) ∧ 16 * (WS (y7 n) s).length < s + 16 ∧ s ≤ 16 * (WS (y7 n) s).length := by
 have ha := z3U (X1 h1 h2) (t := s) (by rw [vV]; exact hs) (z3f h1 hs)
 refine ⟨ha, ?_, ?_⟩
 ·obtain ⟨w, a, b, c⟩ := Q1 h1 hs
  have hr := ha.least w a b
  have : ¬ w.length < (WS (y7 n) s).length := fun q => by
   have := z0A (k := kk (y7 n)) a q
   omega
  omega
 ·have h3 := J0 (n := n) (WS (y7 n) s) 0 (by omega) ha.wd
  have h4 := ha.aft
  rw [show (0 : Int) = ((0 : Nat) : Int) from rfl, h3, Nat.zero_add] at h4
  have h5 := z8R ha.wd
  have h6 := Nat.mod_le (sw (WS (y7 n) s)) n
  omega
omit h1 h2 in
theorem Ya {f : Nat → List α} {c : Nat} : ∀ k, (∀ i, i < k → (f i).length = c) → ((List.range k).flatMap f).length = k * c
 | 0, _ => by simp
 | k + 1, h => by
  have := Ya (f := f) (c := c) k fun i hi => h i (by omega)
  rw [List.range_succ, List.flatMap_append, List.length_append, this, List.flatMap_cons, List.flatMap_nil, List.append_nil, h k (by omega), Nat.add_mul, Nat.one_mul]
theorem GLf (g : Nat) (hg : g < 3) : (GL (y7 n) g).length = n * (if g = 0 then 1 else if g = 1 then 16 else 256) := by
 have hP : ∀ s i, s < n → i < 16 → (z3C (y7 n) s i).length = 16 := fun s i hs hi => by
  unfold z3C
  rw [Ya (c := 1) (kk (y7 n)) (fun j hj => by
   have hj : j < 16 := hj
   have ht : (E (y7 n) s i).To.toNat < n := by rw [z01 hs hi, Int.toNat_natCast]; exact Nat.mod_lt _ (by omega)
   rw [if_neg (QY ht hj)]
   rfl)]
  rfl
 have hS : ∀ s, s < n → (z0b (y7 n) g s).length = (if g = 0 then 1 else if g = 1 then 16 else 256) := fun s hs => by
  have hg : g = 0 ∨ g = 1 ∨ g = 2 := by omega
  rcases hg with rfl | rfl | rfl
  ·rfl
  ·show ((List.range 16).flatMap (Jc (y7 n) 1 s)).length = 16
   rw [Ya (c := 1) 16 (fun i hi => by
    unfold Jc
    rw [if_neg (QY hs hi), if_pos rfl]
    rfl)]
  ·show ((List.range 16).flatMap (Jc (y7 n) 2 s)).length = 256
   rw [Ya (c := 16) 16 (fun i hi => by
    unfold Jc
    rw [if_neg (QY hs hi), if_neg (by decide)]
    exact hP s i hs hi)]
 unfold GL
 rw [vV]
 exact Ya n fun s hs => by rw [if_pos (z3f h1 hs)]; exact hS s hs
omit h1 h2 in
theorem z8b {g s : Nat}  (h : t ∈ z0b m g s) : t.1 = s := by
 rcases uw.1 h with ⟨_, rfl⟩ | ⟨_, i, _, q⟩
 ·rfl
 ·obtain ⟨_, ⟨_, rfl⟩ | ⟨_, q⟩⟩ := jZ.1 q
  ·rfl
  ·obtain ⟨j, _, _, rfl⟩ := Xx.1 q
   rfl
omit h1 h2 in
theorem zb0 (m : z8) (g : Nat) : (GL m g).Pairwise fun t u => t.1 ≤ u.1 := by
 have gen : ∀ k, ((List.range k).flatMap fun s => if Rc m s then z0b m g s else []).Pairwise fun t u => t.1 ≤ u.1 := by
  intro k
  induction k with
  | zero => simp
  | succ k ih =>
   have key : ∀ s, ∀ x ∈ (if Rc m s then z0b m g s else []), x.1 = s := fun s x hx => by
    split at hx
    ·exact z8b hx
    ·simp at hx
   rw [List.range_succ, List.flatMap_append, List.flatMap_cons, List.flatMap_nil, List.append_nil, List.pairwise_append]
   refine ⟨ih, ?_, ?_⟩
   ·refine List.Pairwise.imp_of_mem (R := fun _ _ => True) (fun {a b} ha hb _ => ?_) (List.pairwise_of_forall fun _ _ => trivial)
    rw [key k a ha, key k b hb]
    exact Nat.le_refl _
   ·intro a ha b hb
    obtain ⟨s, hs, q⟩ := List.mem_flatMap.1 ha
    have := List.mem_range.1 hs
    rw [key s a q, key k b hb]
    omega
 exact gen _
omit h1 h2 in
theorem z16 (h : VM m) {x a b i k : Nat} : ∀ (u : List Nat) (t : Nat), t < m.Rows.length → Wd (kk m) u → z1C m x a b t (u ++ [i, k]) → (aft m (t : Int) u = (x : Int) ∧ a = i ∧ b = k) ∨ ∃ p v, u = p ++ v ∧ v ≠ [] ∧ aft m (t : Int) p = (x : Int)
 | [], t, ht, _, q => by
  obtain ⟨_, ⟨rfl, rfl, q, _⟩ | ⟨_, ⟨_, _, q⟩ | q⟩⟩ := q
  ·exact .inl ⟨rfl, rfl, q.symm⟩
  ·exact q.elim
  ·exact q.elim
 | j :: u, t, ht, hw, q => by
  have hj : j < kk m := hw j (by simp)
  obtain ⟨hn, ⟨rfl, _⟩ | q⟩ := q
  ·exact .inr ⟨[], j :: u, rfl, by simp, rfl⟩
  ·obtain ⟨q1, q2⟩ := Xp h ht hj hn
   rcases z16 h u _ q1 (fun z hz => hw z (by simp [hz])) q with r | ⟨p, v, r1, r2, r3⟩
   ·rw [q2] at r
    exact .inl (by rw [Zp]; exact r)
   ·rw [q2] at r3
    exact .inr ⟨j :: p, v, by rw [r1]; rfl, r2, by rw [Zp]; exact r3⟩
theorem z5i {t u : T3} (ht : t ∈ GL (y7 n) 2) (hu : u ∈ GL (y7 n) 2) (hne : t ≠ u) (hle : u.1 ≤ t.1) : ¬ z1D (y7 n) (toI 2 t) 0 (up (y7 n) 2 u) := by
 intro q
 have hv := X1 h1 h2
 have a1 := (k8 hv (by decide) ht).1
 have b1 := (k8 hv (by decide) hu).1
 rw [vV] at a1 b1
 obtain ⟨c1, c2, c3⟩ := XA h1 h2 a1
 obtain ⟨d1, d2, d3⟩ := XA h1 h2 b1
 have q : z1C (y7 n) t.1 t.2.1 t.2.2 0 (WS (y7 n) u.1 ++ [u.2.1, u.2.2]) := (Uh _ _ _ _ _).1 q
 rcases z16 hv _ 0 hv.len1 d1.wd q with ⟨r1, r2, r3⟩ | ⟨p, v, r1, r2, r3⟩
 ·have e1 : ((u.1 : Nat) : Int) = (t.1 : Int) := d1.aft.symm.trans r1
  refine hne ?_
  obtain ⟨t1, t2, t3⟩ := t
  obtain ⟨u1, u2, u3⟩ := u
  simp only at e1 r2 r3
  have e1 : u1 = t1 := by omega
  rw [e1, r2, r3]
 ·have hwp : Wd 16 p := fun j hj => d1.wd j (by rw [r1]; simp [hj])
  have hl : (WS (y7 n) u.1).length = p.length + v.length := by rw [r1, List.length_append]
  have hv1 : 1 ≤ v.length := by
   cases v with
   | nil => exact (r2 rfl).elim
   | cons _ _ => simp
  have hr := c1.least p hwp r3
  have : ¬ p.length < (WS (y7 n) t.1).length := fun q => by
   have := z0A (k := kk (y7 n)) hwp q
   omega
  omega
theorem QZ : exL (y7 n) 2 [] = (GL (y7 n) 2).map (up (y7 n) 2) := by
 have gen : ∀ (L D : List T3), D ++ L = GL (y7 n) 2 → L.foldl (exS (y7 n) 2) (D.map (up (y7 n) 2)) = (D ++ L).map (up (y7 n) 2) := by
  intro L
  induction L with
  | nil => intro D _; simp
  | cons t L ih =>
   intro D e
   have hnd := Jn (m := y7 n) 2
   have hor := zb0 (y7 n) 2
   rw [← e] at hnd hor
   have hno : ¬ kK (y7 n) (D.map (up (y7 n) 2)) (toI 2 t) := by
    rintro (⟨w, hw, q⟩ | q)
    ·obtain ⟨u, hu, rfl⟩ := List.mem_map.1 hw
     refine z5i h1 h2 (t := t) (u := u) (by rw [← e]; simp) (by rw [← e]; simp [hu]) ?_ ?_ q
     ·exact fun q => (List.nodup_append.1 hnd).2.2 u hu t (by simp) q.symm
     ·exact (List.pairwise_append.1 hor).2.2 u hu t (by simp)
    ·simp only [toI, show ¬ (2 = 0) by decide, show ¬ (2 = 1) by decide, if_false, yf.mk.injEq] at q
     omega
   have hs : exS (y7 n) 2 (D.map (up (y7 n) 2)) t = (D ++ [t]).map (up (y7 n) 2) := by
    unfold exS
    rw [if_neg hno]
    simp
   rw [List.foldl_cons, hs, ih (D ++ [t]) (by rw [← e]; simp)]
   simp
 exact gen _ [] rfl
theorem Kh (hg : g < 3)  (ht : t ∈ GL (y7 n) g) : (up (y7 n) g t).length ≤ 6 := by
 have hv := X1 h1 h2
 have a1 := (k8 hv hg ht).1
 rw [vV] at a1
 obtain ⟨_, c2, _⟩ := XA h1 h2 a1
 have hg' : g = 0 ∨ g = 1 ∨ g = 2 := by omega
 unfold up
 rcases hg' with rfl | rfl | rfl <;> simp <;> omega
theorem z5k {t u : T3} (ht : t ∈ GL (y7 n) 2) (hu : u ∈ GL (y7 n) 2) (e : up (y7 n) 2 t = up (y7 n) 2 u) : t = u := by
 have hv := X1 h1 h2
 have a1 := (k8 hv (by decide) ht).1
 have b1 := (k8 hv (by decide) hu).1
 rw [vV] at a1 b1
 obtain ⟨c1, _, _⟩ := XA h1 h2 a1
 obtain ⟨d1, _, _⟩ := XA h1 h2 b1
 have e : WS (y7 n) t.1 ++ [t.2.1, t.2.2] = WS (y7 n) u.1 ++ [u.2.1, u.2.2] := e
 obtain ⟨e1, e2⟩ := List.append_inj' e rfl
 have e3 : ((t.1 : Nat) : Int) = (u.1 : Int) := by rw [← c1.aft, ← d1.aft, e1]
 simp only [List.cons.injEq, and_true] at e2
 obtain ⟨t1, t2, t3⟩ := t
 obtain ⟨u1, u2, u3⟩ := u
 simp only at e2 e3
 have : t1 = u1 := by omega
 rw [this, e2.1, e2.2]
end
open Classical
section
variable {m : z8} (h : VM m)
include h
theorem z6c (hg : g < 3) {l : List (List Nat)} (hl : ∀ w ∈ l, Wd (kk m) w) (t : T3) : mkd g t (cv0 m l) ↔ kK m l (toI g t) := by
 obtain ⟨a1, a2, a3⟩ := z3q h (l := l) (x := ([0], [], [])) hl (by simp)
 have hg' : g = 0 ∨ g = 1 ∨ g = 2 := by omega
 unfold mkd toI
 rcases hg' with rfl | rfl | rfl
 ·simp only [if_true]
  show ((t.1 : Nat) : Int) ∈ (cvA m l _).1 ↔ _
  rw [a1]
  unfold kK
  simp only [Q7, List.mem_singleton, yf.mk.injEq, and_true]
  exact or_comm
 ·simp only [Nat.one_ne_zero, if_false, if_true]
  show (⟨t.1, t.2.1⟩ : yu Int) ∈ (cvA m l _).2.1 ↔ _
  rw [a2]
  unfold kK
  simp only [Ui, List.not_mem_nil, false_or, yf.mk.injEq]
  constructor
  ·exact .inl
  ·rintro (q | q)
   ·exact q
   ·omega
 ·simp only [show ¬ (2 = 0) by decide, show ¬ (2 = 1) by decide, if_false]
  show (⟨t.1, t.2.1, t.2.2⟩ : z7) ∈ (cvA m l _).2.2 ↔ _
  rw [a3]
  unfold kK
  simp only [Uh, List.not_mem_nil, false_or, yf.mk.injEq]
  constructor
  ·exact .inl
  ·rintro (q | q)
   ·exact q
   ·omega
theorem z9V : chE m.Inputs (lN []) = 0 := z1e.2 ⟨V8.2 ⟨⟨h.in1, h.in16⟩, by simp [lN], by simp [lN]⟩, .nil, by simp [XY, lN]⟩
theorem z8y : WL m [] := by have _ := h; exact ⟨by simp, by simp⟩
theorem z3k (hg : g < 3) : zX m [] (g : Int) = xp m (lN (exL m g [])) := by
 have h64 := h.len64
 have hgl := GLb h g
 show zX m (lN []) (g : Int) = _
 unfold zX
 rw [z3y h (z9V h), Option.bind_some, show ((0 : Int) != 0) = false from rfl, cond_false, show decide ((g : Int) < 0) = false by simp, cond_false, show decide ((g : Int) ≥ 3) = false by simp; omega, cond_false, Q6 h (z8y h), Option.bind_some, gdT (by simp [lN]), z4X (t := lN []) (by unfold wW; rfl), Option.bind_some]
 unfold wX
 rw [z1i h hg, Option.bind_some]
 have key : ∀ L : List T3, L = GL m g → loop (fun s => wb m (L.map (toC m g)) s.1 s.2.1 s.2.2.1 s.2.2.2.1 s.2.2.2.2) ((mk3 (cv0 m [])).states_, (mk3 (cv0 m [])).edges_, (mk3 (cv0 m [])).pairs_, lN [], (0 : Int)) = some (lN (L.foldl (exS m g) [])) := by
  intro L hLG
  have hL : ∀ t ∈ L, t ∈ GL m g := by rw [hLG]; exact fun _ q => q
  have hLn : L.length ≤ 16384 := by rw [hLG]; exact hgl
  refine Ret.eq (kV (fun s => ∃ i : Nat, i ≤ L.length ∧ s = ((mk3 (cv0 m ((L.take i).foldl (exS m g) []))).states_, (mk3 (cv0 m ((L.take i).foldl (exS m g) []))).edges_, (mk3 (cv0 m ((L.take i).foldl (exS m g) []))).pairs_, lN ((L.take i).foldl (exS m g) []), (i : Int)))
   (fun s => L.length - s.2.2.2.2.toNat) ⟨0, Nat.zero_le _, rfl⟩ (by show L.length - 0 < _; omega) ?_)
  rintro s ⟨i, hi, rfl⟩
  have hwl : ((L.take i).foldl (exS m g) []).length ≤ 16384 ∧ ∀ w ∈ (L.take i).foldl (exS m g) [], Wd (kk m) w := by
   obtain ⟨k, e, a, b⟩ := Ud m g (L.take i) []
   rw [e, List.nil_append]
   rw [List.length_take] at a
   refine ⟨by omega, fun w hw => ?_⟩
   obtain ⟨t, ht, rfl⟩ := b w hw
   exact (Qj h hg (hL t (List.mem_of_mem_take ht))).1
  unfold wb
  rw [List.length_map]
  simp only
  rw [kX]
  constructor
  ·intro c
   have hi' : i < L.length := by simpa using c
   have ht := List.getElem?_eq_getElem hi'
   have hwk := Qj h hg (hL _ (List.getElem_mem hi'))
   have hx : idx (L.map (toC m g)) (i : Int) = some (toC m g L[i]) := by rw [vz, List.getElem?_map, ht]; rfl
   have htk : (L.take (i + 1)).foldl (exS m g) [] = exS m g ((L.take i).foldl (exS m g) []) L[i] := by
    rw [List.take_add_one, ht, List.foldl_append]
    rfl
   generalize hout : (L.take i).foldl (exS m g) [] = out at *
   rw [hx, Option.bind_some, show (zg.mk (mk3 (cv0 m out)).states_ (mk3 (cv0 m out)).edges_ (mk3 (cv0 m out)).pairs_) = mk3 (cv0 m out) from rfl, z7X, Option.bind_some, kX]
   have hfin : ∀ s', s' = ((mk3 (cv0 m (exS m g out L[i]))).states_, (mk3 (cv0 m (exS m g out L[i]))).edges_, (mk3 (cv0 m (exS m g out L[i]))).pairs_, lN (exS m g out L[i]), w64 ((i : Int) + 1)) →
     LRP (fun s' => (∃ i : Nat, i ≤ L.length ∧ s' = ((mk3 (cv0 m ((L.take i).foldl (exS m g) []))).states_, (mk3 (cv0 m ((L.take i).foldl (exS m g) []))).edges_, (mk3 (cv0 m ((L.take i).foldl (exS m g) []))).pairs_, lN ((L.take i).foldl (exS m g) []), (i : Int))) ∧ L.length - s'.2.2.2.2.toNat < L.length - ((i : Int)).toNat) (fun b => b = lN (L.foldl (exS m g) [])) (.next s') := by
    rintro s' rfl
    rw [u4 (by omega)]
    refine ⟨⟨i + 1, hi', by rw [htk]⟩, ?_⟩
    simp only
    omega
   constructor
   ·intro c2
    have hm : ¬ kK m out (toI g L[i]) := fun q => by
     rw [decide_eq_true ((z6c h hg hwl.2 L[i]).2 q)] at c2
     simp at c2
    have hsn : exS m g out L[i] = out ++ [up m g L[i]] := by unfold exS; rw [if_neg hm]
    have hrun := z63 h hwk.1 (by omega) (cv0 m out)
    rw [z4b, show wN (up m g L[i]) = (up m g L[i]).map Int.ofNat from rfl, hrun, Option.bind_some, XC _ (by rw [List.length_map]; omega), Option.bind_some, Ul, Option.bind_some, gdT (by rw [k0]; have := hwl.1; simp; omega)]
    unfold xo
    rw [yU]
    refine hfin _ ?_
    rw [hsn, z3r]
    simp [lN, wN]
   ·intro c2
    have hm : kK m out (toI g L[i]) := by
     apply Classical.byContradiction
     intro q
     rw [decide_eq_false (fun k => q ((z6c h hg hwl.2 L[i]).1 k))] at c2
     simp at c2
    have hsn : exS m g out L[i] = out := by unfold exS; rw [if_pos hm]
    unfold xo
    rw [yU]
    refine hfin _ ?_
    rw [hsn]
  ·intro c
   have hi' : i = L.length := by simp at c; omega
   rw [yU]
   subst hi'
   rw [List.take_length]
   rfl
 rw [key _ rfl, Option.bind_some]
 rfl
theorem z5m (hg : g < 3) (hn : 4096 < (exL m g []).length) : zX m [] (g : Int) = some ([], 3) := by
 rw [z3k h hg]
 unfold xp
 rw [k0, show decide ((((exL m g []).length : Nat) : Int) > 4096) = true by simp; omega, cond_true]
theorem z3l (hg : g < 3) (hn : (exL m g []).length ≤ 4096) (hb : ∀ t ∈ GL m g, (up m g t).length ≤ 6) : ∃ K : List (List Nat), zX m [] (g : Int) = some (lN K, 0) ∧ srt (lN (exL m g [])) = lN K ∧ WL m K ∧ chE m.Inputs (lN K) = 0 ∧ ∀ t ∈ GL m g, kK m K (toI g t) := by
 have hkk := h.kk_eq
 obtain ⟨k, ek, lk, wk⟩ := Ud m g (GL m g) []
 have hw : ∀ u ∈ exL m g [], Wd (kk m) u ∧ u.length ≤ 6 := by
  intro u hu
  rw [show exL m g [] = k from ek] at hu
  obtain ⟨t, ht, rfl⟩ := wk u hu
  exact ⟨(Qj h hg ht).1, hb t ht⟩
 obtain ⟨K, eK, qK⟩ := z9u (m := m) (l := srt (lN (exL m g []))) (fun z hz => by
  obtain ⟨u, hu, rfl⟩ := List.mem_map.1 (Y4.1 hz)
  exact ⟨u, rfl, (hw u hu).1, by have := (hw u hu).2; omega⟩)
 have hKl : K.length ≤ 4096 := by
  have := z2b (lN (exL m g []))
  rw [eK, k0, k0] at this
  omega
 have hid : ∀ u : List Nat, (wN u).map Int.toNat = u := by
  intro u
  induction u with
  | nil => rfl
  | cons i u ih => show Int.toNat (Int.ofNat i) :: (wN u).map Int.toNat = _; rw [ih]; rfl
 have hinj : ∀ u v : List Nat, wN u = wN v → u = v := by
  intro u v e
  rw [← hid u, ← hid v, e]
 have hmem : ∀ w, w ∈ exL m g [] ↔ w ∈ K := by
  intro w
  constructor
  ·intro q
   have : wN w ∈ lN K := by rw [← eK]; exact Y4.2 (List.mem_map.2 ⟨w, q, rfl⟩)
   obtain ⟨v, hv, e⟩ := List.mem_map.1 this
   rw [← hinj v w e]; exact hv
  ·intro q
   have : wN w ∈ srt (lN (exL m g [])) := by rw [eK]; exact List.mem_map.2 ⟨w, q, rfl⟩
   obtain ⟨v, hv, e⟩ := List.mem_map.1 (Y4.1 this)
   rw [← hinj v w e]; exact hv
 have h6 : ∀ z ∈ lN K, z.length ≤ 6 := by
  intro z hz
  obtain ⟨u, hu, rfl⟩ := List.mem_map.1 hz
  rw [z5R]
  exact (hw u ((hmem u).2 hu)).2
 have hin : ∀ z ∈ lN K, ∀ c ∈ z, 0 ≤ c ∧ c < m.Inputs := by
  intro z hz c hc
  obtain ⟨u, hu, rfl⟩ := List.mem_map.1 hz
  obtain ⟨i, hi, rfl⟩ := List.mem_map.1 hc
  have := (qK u hu).1 i hi
  simp only [Int.ofNat_eq_natCast]
  omega
 have hsy := KH h6
 rw [k0] at hsy
 have hck : chE m.Inputs (lN K) = 0 := z1e.2 ⟨V8.2 ⟨⟨h.in1, h.in16⟩, by rw [k0]; exact hKl, fun z hz => ⟨by have := h6 z hz; omega, hin z hz⟩⟩, by rw [← eK]; exact z0s _, by omega⟩
 refine ⟨K, ?_, eK, ⟨hKl, qK⟩, hck, ?_⟩
 ·have hww : ∀ z ∈ lN (exL m g []), z.length ≤ 256 ∧ ∀ c ∈ z, 0 ≤ c ∧ c < m.Inputs := by
   intro z hz
   have hz' : z ∈ lN K := by rw [← eK]; exact Y4.2 hz
   exact ⟨by have := h6 z hz'; omega, hin z hz'⟩
  rw [z3k h hg]
  unfold xp
  rw [k0, show decide ((((exL m g []).length : Nat) : Int) > 4096) = false by simp; omega, cond_false]
  unfold Yj
  have h0 : loE m.Inputs (lN (exL m g [])) = 0 := V8.2 ⟨⟨h.in1, h.in16⟩, by rw [k0]; omega, hww⟩
  rw [z0P, h0, Option.bind_some, show ((0 : Int) != 0) = false from rfl, cond_false, z4v (by rw [k0]; omega) (fun w hw => by have := (hww w hw).1; omega)]
  have : ¬ (4096 < (srt (lN (exL m g []))).length ∨ 65536 < XY (srt (lN (exL m g [])))) := by
   rw [eK, k0]
   omega
  unfold soR
  rw [if_neg this, eK]
  rfl
 ·intro t ht
  rw [← kK.congr hmem]
  exact z6o h hg (GL m g) (fun _ q => q) [] t ht
omit h in
theorem Ko {s j k : Nat} : ∀ (w : List Nat) (t : Nat), z1C m s j k t w → z1Q m s j t w
 | [], _, q => q.elim
 | i :: w, t, ⟨hn, q⟩ => by
  rcases q with ⟨a, b, _⟩ | q
  ·exact ⟨hn, .inl ⟨a, b⟩⟩
  ·exact ⟨hn, .inr (Ko w _ q)⟩
end
section
variable {n : Nat} (h1 : 16 ≤ n) (h2 : n ≤ 64)
include h1 h2
theorem z7W (hc : ∀ t ∈ GL (y7 n) 2, kK (y7 n) K (toI 2 t)) : ∀ t ∈ GL (y7 n) 1, kK (y7 n) K (toI 1 t) := by
 intro t ht
 have hv := X1 h1 h2
 obtain ⟨a1, a2, a3, _⟩ := k8 hv (by decide) ht
 obtain ⟨b1, b2⟩ := a3 (by decide)
 rw [vV] at a1
 have ht2 : (t.1, t.2.1, 0) ∈ GL (y7 n) 2 := by
  rw [YL]
  refine ⟨t.1, by rw [vV]; exact a1, a2, uw.2 (.inr ⟨by decide, t.2.1, b1, jZ.2 ⟨b2, .inr ⟨by decide, Xx.2 ⟨0, by show 0 < 16; decide, ?_, rfl⟩⟩⟩⟩)⟩
  refine QY ?_ (by decide)
  rw [z01 a1 b1, Int.toNat_natCast]
  exact Nat.mod_lt _ (by omega)
 rcases hc _ ht2 with ⟨w, hw, q⟩ | q
 ·exact .inl ⟨w, hw, (Ui _ _ _ _).2 (Ko w 0 ((Uh _ _ _ _ _).1 q))⟩
 ·simp only [toI, show ¬ (2 = 0) by decide, show ¬ (2 = 1) by decide, if_false, yf.mk.injEq] at q
  omega
theorem z5j (e : srt (lN (exL (y7 n) 2 [])) = lN K) : K.length = n * 256 := by
 have hid : ∀ u : List Nat, (wN u).map Int.toNat = u := by
  intro u
  induction u with
  | nil => rfl
  | cons i u ih => show Int.toNat (Int.ofNat i) :: (wN u).map Int.toNat = _; rw [ih]; rfl
 have hl : (GL (y7 n) 2).length = (srt (lN (exL (y7 n) 2 []))).length := by
  refine z0L (fun t => wN (up (y7 n) 2 t)) (Jn 2) (z0s _).nodup ?_ ?_
  ·intro t ht u hu q
   refine z5k h1 h2 ht hu ?_
   rw [← hid (up (y7 n) 2 t), ← hid (up (y7 n) 2 u)]
   exact congrArg _ q
  ·intro z
   rw [Y4, QZ h1 h2]
   unfold lN
   simp only [List.map_map, List.mem_map, Function.comp]
 rw [e, k0, GLf h1 h2 2 (by decide)] at hl
 exact hl.symm
end
set_option maxRecDepth 100000
theorem K5 : Zd = some true := by kernel_rfl
open Classical
theorem z9w : strconv_Itoa 16 = some [49, 54] := by unfold strconv_Itoa; rw [gdT (by decide)]; simp [Go.Lib.itoa, Go.Lib.decDigits]
theorem z6g : strconv_Itoa 256 = some [50, 53, 54] := by unfold strconv_Itoa; rw [gdT (by decide)]; simp [Go.Lib.itoa, Go.Lib.decDigits]
theorem z36 : strconv_Itoa 4096 = some [52, 48, 57, 54] := by unfold strconv_Itoa; rw [gdT (by decide)]; simp [Go.Lib.itoa, Go.Lib.decDigits]
theorem z42 : strconv_Itoa 0 = some [48] := by unfold strconv_Itoa; rw [gdT (by decide)]; simp [Go.Lib.itoa, Go.Lib.decDigits]
theorem zbS : strconv_Itoa 10 = some [49, 48] := by unfold strconv_Itoa; rw [gdT (by decide)]; simp [Go.Lib.itoa, Go.Lib.decDigits]
theorem zbR : strconv_Itoa (-1) = some [45, 49] := by unfold strconv_Itoa; rw [gdT (by decide)]; simp [Go.Lib.itoa, Go.Lib.decDigits]
theorem KF {a b c d e f : Int} {a' b' c' d' e' f' : List UInt8} (ha : strconv_Itoa a = some a') (hb : strconv_Itoa b = some b') (hc : strconv_Itoa c = some c') (hd : strconv_Itoa d = some d') (he : strconv_Itoa e = some e') (hf : strconv_Itoa f = some f')
  (hl : a'.length + b'.length + c'.length + d'.length + e'.length + f'.length ≤ 1000) : xV ⟨⟨a, b⟩, ⟨c, d⟩, ⟨e, f⟩⟩ = some ([115, 116, 97, 116, 101, 115, 32] ++ a' ++ [47] ++ b' ++ ([44, 32, 101, 100, 103, 101, 115, 32] ++ c' ++ [47] ++ d') ++ ([44, 32, 112, 97, 105, 114, 115, 32] ++ e' ++ [47] ++ f')) := by
 unfold xV
 simp only [ha, hb, hc, hd, he, hf, Option.bind_some, List.length_append, List.length_cons, List.length_nil]
 rw [gdT (by omega), gdT (by omega), gdT (by omega), gdT (by omega), gdT (by omega), gdT (by omega), gdT (by omega), gdT (by omega), gdT (by omega), gdT (by omega), gdT (by omega), gdT (by omega)]
 unfold vJ
 rw [List.nil_append]
theorem z5a : wD = some true := by
 have v1 := X1 (n := 64) (by decide) (by decide)
 have v2 := X1 (n := 16) (by decide) (by decide)
 have a0 : (GL (y7 64) 0).length = 64 := GLf (n := 64) (by decide) (by decide) 0 (by decide)
 have a1 : (GL (y7 64) 1).length = 1024 := GLf (n := 64) (by decide) (by decide) 1 (by decide)
 have a2 : (GL (y7 64) 2).length = 16384 := GLf (n := 64) (by decide) (by decide) 2 (by decide)
 have b0 : (GL (y7 16) 0).length = 16 := GLf (n := 16) (by decide) (by decide) 0 (by decide)
 have b1 : (GL (y7 16) 1).length = 256 := GLf (n := 16) (by decide) (by decide) 1 (by decide)
 have b2 : (GL (y7 16) 2).length = 4096 := GLf (n := 16) (by decide) (by decide) 2 (by decide)
 have e64 : vH 64 16 = some (y7 64) := z3g (n := 64) (by decide) (by decide)
 have e16 : vH 16 16 = some (y7 16) := z3g (n := 16) (by decide) (by decide)
 have l1 : (exL (y7 64) 1 []).length ≤ 4096 := by
  obtain ⟨k, ek, lk, _⟩ := Ud (y7 64) 1 (GL (y7 64) 1) []
  rw [show exL (y7 64) 1 [] = [] ++ k from ek, List.nil_append]
  omega
 have l2 : 4096 < (exL (y7 64) 2 []).length := by rw [QZ (n := 64) (by decide) (by decide), List.length_map, a2]; decide
 have l3 : (exL (y7 16) 2 []).length ≤ 4096 := by rw [QZ (n := 16) (by decide) (by decide), List.length_map, b2]; exact Nat.le_refl _
 obtain ⟨K, x1, _, wK, cK, gK⟩ := z3l v1 (by decide : 1 < 3) l1 fun t ht => Kh (n := 64) (by decide) (by decide) (by decide) ht
 have x2 := z5m v1 (by decide : 2 < 3) l2
 obtain ⟨L, x3, s3, wL, cL, gL⟩ := z3l v2 (by decide : 2 < 3) l3 fun t ht => Kh (n := 16) (by decide) (by decide) (by decide) ht
 have hL : L.length = 4096 := z5j (n := 16) (by decide) (by decide) s3
 have p1 := z68 v1 wK cK
 have p2 := z68 v2 wL cL
 have c1 := (K1 v1 wK (by decide : 1 < 3) gK).2
 have c0 := (K1 v1 wK (by decide : 0 < 3) (WB v1 gK)).2
 have d2 := (K1 v2 wL (by decide : 2 < 3) gL).2
 have gL1 := z7W (n := 16) (by decide) (by decide) gL
 have d1 := (K1 v2 wL (by decide : 1 < 3) gL1).2
 have d0 := (K1 v2 wL (by decide : 0 < 3) (WB v2 gL1)).2
 have q1 : YA (y7 16) L = ⟨⟨16, 16⟩, ⟨256, 256⟩, ⟨4096, 4096⟩⟩ := by
  unfold YA
  rw [d0, d1, d2, b0, b1, b2]
  rfl
 have q0 : (YA (y7 64) K).States = ⟨64, 64⟩ ∧ (YA (y7 64) K).Edges = ⟨1024, 1024⟩ ∧ (YA (y7 64) K).Pairs.e1 = 16384 := by
  unfold YA
  rw [c0, c1, a0, a1, a2]
  exact ⟨rfl, rfl, rfl⟩
 have t1 := KF z9w z9w z6g z6g z36 z36 (by decide)
 have t2 := KF z42 z42 z42 z42 z42 z42 (by decide)
 have t3 := KF z42 z42 zbR zbS z42 z42 (by decide)
 have x1 : zX (y7 64) [] 1 = some (lN K, 0) := x1
 have x2 : zX (y7 64) [] 2 = some ([], 3) := x2
 have x3 : zX (y7 16) [] 2 = some (lN L, 0) := x3
 unfold wD
 rw [e64, Option.bind_some, x1, Option.bind_some, x2, Option.bind_some, p1, Option.bind_some]
 simp only [q0.1, q0.2.1, q0.2.2]
 rw [e16, Option.bind_some, x3, Option.bind_some, Option.bind_some, p2, Option.bind_some, q1, t1, Option.bind_some, t2, Option.bind_some, t3, Option.bind_some, K5, k0, hL]
 rfl
def zbg (w : World) : zj := fun b o => y6 w.heap b o
variable {v : Value}
theorem z84 {w : World} {a : Addr}  (h : w.cell? a = some v) : a.spot = none ∧ y6 w.heap a.block a.off = some v := by
 unfold World.cell? at h
 unfold y6
 split at h
 ·rename_i c ty fr he
  rw [he]
  split at h
  ·cases h
  ·rename_i hs
   exact ⟨by simpa using hs, h⟩
 ·cases h
open Go.RowKit Go.ChangeShapes
theorem JP {S : zj} (k : IntKind) : ∀ l : List Int, ya S (l.map fun n => A.atom (.int k n)) (l.map fun n => Value.int k n)
 | [] => by simp [ya]
 | n :: l => by
  simp only [List.map_cons, ya, Rep]
  exact ⟨[.int k n], _, rfl, ⟨rfl, rfl⟩, JP k l⟩
variable {r : List (String × DataW Unit)}{P : Program}{W : World}
theorem z0l {n : String} {l : List Int}  {g : Nat} {t e : TypeId} {k : IntKind} {N : Nat} (h : laidMet P ((n, .agg (l.map fun x => .lit (.int k x))) :: r) W)
  (hg : P.globalNamed n = some g) (ht : (P.globals[g]?).map (·.type) = some t) (hu : P.underlying t = some (.array N e)) (he : P.underlying e = some (.int k)) (hc : P.cellsOf e = 1) :
  ∀ (j : Nat) (x : Int), l[j]? = some x → zbg W g j = some (.int k x) := by
 obtain ⟨ps, ⟨g0, t0, cs0, f0, p0, q0, hg0, ht0, hv0, hd0, _, _⟩, _, _⟩ := h
 obtain rfl := Option.some.inj (hg.symm.trans hg0)
 obtain rfl := Option.some.inj (ht.symm.trans ht0)
 obtain ⟨xs, m, _, hxs, hlen, hxl, hall⟩ := DataW.trod_array hu hd0
 have hx1 : l.map (fun x => (DataW.lit (.int k x) : DataW Unit)) = xs.map (·.1) := by
  have := (Prod.mk.inj hxs).1
  injection this
 intro j x hj
 have hjl : j < l.length := (List.getElem?_eq_some_iff.1 hj).1
 have hll : l.length = xs.length := by simpa using congrArg List.length hx1
 have hjx : j < xs.length := by omega
 have hy : xs[j]? = some xs[j] := List.getElem?_eq_getElem hjx
 have h1 := hall j (by omega)
 rw [hy, hc, Nat.mul_one] at h1
 obtain ⟨v, e1, e2, _⟩ := DataW.trod_int he h1
 have e3 : (xs.map (·.1))[j]? = some (.lit (.int k x)) := by rw [← hx1, List.getElem?_map, hj]; rfl
 rw [List.getElem?_map, hy, e2] at e3
 have e4 : v = x := by
  simp only [Option.map_some, Option.some.injEq] at e3
  injection e3 with e3
  injection e3
 subst e4
 have h2 : cs0.toList[j]? = some (.int k v) := by
  have := congrArg (fun q => q[0]?) e1
  simpa [List.getElem?_take, List.getElem?_drop] using this
 have h3 := World.var?_cell hg hv0 j
 rw [show cs0[j]? = some (.int k v) by simpa using h2] at h3
 exact (z84 h3).2
theorem z4o {n : String} {l : List Int}  {g : Nat} {t e : TypeId} {k : IntKind} {N : Nat} (h : laidMet P ((n, .agg (l.map fun x => .lit (.int k x))) :: r) W)
  (hg : P.globalNamed n = some g) (ht : (P.globals[g]?).map (·.type) = some t) (hu : P.underlying t = some (.array N e)) (hc : P.cellsOf t = l.length) :
  ∃ c ty fr, W.heap[g]? = some (.cells c ty fr) ∧ c.size = l.length := by
 obtain ⟨ps, ⟨g0, t0, cs0, f0, p0, q0, hg0, ht0, hv0, hd0, _, _⟩, _, _⟩ := h
 obtain rfl := Option.some.inj (hg.symm.trans hg0)
 obtain rfl := Option.some.inj (ht.symm.trans ht0)
 obtain ⟨xs, m, _, hxs, hlen, hxl, hall⟩ := DataW.trod_array hu hd0
 unfold World.var? at hv0
 rw [hg, Option.bind_some] at hv0
 split at hv0
 ·rename_i cs ty fr hq
  cases hv0
  exact ⟨_, _, _, hq, by rw [← Array.length_toList, hlen, hc]⟩
 ·cases hv0
section
open Go Go.ChangeShapes Go.WideShapes Go.ChangeAt Go.RowKit
theorem z2H {P : Program} {H : Type} {enc : TypeId × Value → H} {f : Func} {s : ChangeSpec} {apart fresh handsOn again : Bool} {W W' : World} {args : Array Value} {v : Value} {ds : List (DataW H)} {pa : List MemPlace}
  (hvar : s.vars = []) (hvars2 : (s.fn H (ds ++ [])).vars = []) (hW : DataW.Whole enc P f.params.toList s.vars apart W args.toList ds [] (pa ++ [])) (hb : Below W.heap.size W W')
  (hres : ∀ (b : Nat) (sp : Nat → Bool) (hd : Bool), DataW.TrodAll enc P W' b sp hd f.resultTypes.toList (v.resultList f.resultTypes.size) (s.fn H (ds ++ [])).results [])
  (hargs : ∀ sp : Nat → Bool, (∀ p ∈ pa ++ [], sp p.block = true) → DataW.TrodAll enc P W' 0 sp true f.params.toList args.toList (s.fn H (ds ++ [])).args pa)
  (hok : ∀ (j : Nat) (t : TypeId) (r : Value), f.resultTypes[j]? = some t → (v.resultList f.resultTypes.size)[j]? = some r → Value.okWide P W' .any 0 t r) :
  s.post enc P f apart fresh handsOn again W args v W' := by
 have hlt : ∀ p ∈ pa ++ [], p.block < W.heap.size := fun p hp => by simpa using hW.lt p hp
 have hvr : ∀ sp : Nat → Bool, DataW.TrodVars enc P W' sp s.vars (s.fn H (ds ++ [])).vars [] := fun sp => by rw [hvar, hvars2]; rfl
 refine ⟨ds, [], pa ++ [], [], pa, [], hW, hres _ _ _, hargs _ (fun p hp => by simpa using hlt p hp), hvr _, World.keptBut_mono (fun _ q => q.elim) (hb.frame fun _ => False), fun _ => ?_⟩
 obtain ⟨_, _, _, _, _, hz, hn⟩ := hW
 refine ⟨hok, _, _, ([] ++ pa) ++ [], ⟨[] ++ pa, [], trodAll_append (hargs _ (fun _ _ => rfl)) (hres _ _ _), hvr _, rfl, ?_, ?_⟩, ?_⟩
 ·intro b off hp
  have hp' : MemPlace.cell b off ∈ pa ++ [] := by simpa using hp
  rw [hb.frozen (p := ⟨b, off, none⟩) (hlt _ hp')]
  exact hz b off hp'
 ·intro ha
  simpa using hn ha
 ·intro p hp _
  simpa using hp
end
theorem z4u {α ρ : Type} {enc : α → List A} {encR : ρ → A} {F : α → Option ρ} {gives : List Bool} {inj : ∀ x y, enc x = enc y → x = y} (h : (spF k enc encR F gives inj).Ok P) {x : α} {r : ρ} (hr : F x = some r) : kJ P k (enc x) (encR r) := by
 have := h x ⟨r, hr⟩
 simpa only [spF, hr] using this
section
variable {P : Program} {w : World} {r : Reach} {base t : Nat} {v : Value}
theorem z5f {S : zj} {h : Array Obj}  {F : List Nat} (q : Has S h (.atom (.bool true)) v F) : v = .bool true := by
 rcases q with ⟨q, _⟩ | ⟨cs, q, _, rfl⟩
 ·rw [(zp.1 q).1]
 ·simp only [zG, Rep] at q
  obtain ⟨⟨rfl, _⟩, _⟩ := q
  rfl
end
open Go.Proofs
end Go.Own
namespace Go.Proofs.YtkelmheleahmpaaDoor.coveragesKnown
open Go Go.ChangeShapes Go.WideShapes Go.ChangeAt Go.RowKit
theorem own : ownKnob Tryd.prog.godebug = none := by kernel_rfl
variable {W : World}
section
variable {H : Type} {enc : TypeId × Value → H} {W : World}
theorem z5h (hL : laidMetH Tryd.prog Rows.coveragesKnownRow.laid W) : Go.Own.Gok (Go.Own.zbg W) := by
 rw [MakeChecks.laidMetH_plain _ _ _ (by kernel_rfl)] at hL
 obtain ⟨x0, x1, hx⟩ : ∃ x0 x1, Rows.coveragesKnownRow.laid = x0 :: x1 :: [("internal/strconv.uint64pow10", .agg (Go.Own.zb9.map fun n => .lit (.int .u64 n)))] := ⟨_, _, rfl⟩
 rw [hx] at hL
 have hl := Go.Own.z0l (hL.tail.tail) (g := 0) (by kernel_rfl) (t := 162) (by kernel_rfl) Tryd.underlying162 Tryd.underlying116 (by kernel_rfl)
 intro g x e
 unfold Go.Own.z1P at e
 split at e
 ·rename_i h0
  subst h0
  cases e
  refine ⟨_, (by simp only [Go.Own.Rep]; exact Go.Own.JP _ _), fun j v hj => ?_⟩
  rw [List.getElem?_map] at hj
  obtain ⟨y, hy, rfl⟩ := Option.map_eq_some_iff.1 hj
  rw [Nat.zero_add]
  exact hl j y hy
 ·cases e
theorem z5C (hL : laidMetH Tryd.prog Rows.coveragesKnownRow.laid W) : Go.Own.Gbk (Go.Own.zbg W) W := by
 rw [MakeChecks.laidMetH_plain _ _ _ (by kernel_rfl)] at hL
 obtain ⟨x0, x1, hx⟩ : ∃ x0 x1, Rows.coveragesKnownRow.laid = x0 :: x1 :: [("internal/strconv.uint64pow10", .agg (Go.Own.zb9.map fun n => .lit (.int .u64 n)))] := ⟨_, _, rfl⟩
 rw [hx] at hL
 have hl := Go.Own.z0l (hL.tail.tail) (g := 0) (by kernel_rfl) (t := 162) (by kernel_rfl) Tryd.underlying162 Tryd.underlying116 (by kernel_rfl)
 obtain ⟨c, ty, fr, h1, h2⟩ := Go.Own.z4o (hL.tail.tail) (g := 0) (by kernel_rfl) (t := 162) (by kernel_rfl) Tryd.underlying162 (by kernel_rfl)
 intro g x e
 unfold Go.Own.z1P at e
 split at e
 ·rename_i h0
  subst h0
  cases e
  exact ⟨⟨c, ty, fr, h1, h2⟩, _, hl 0 _ rfl⟩
 ·cases e
set_option maxRecDepth 100000 in
theorem zdV {base : Nat} (hL : laidMetH Tryd.prog Rows.coveragesKnownRow.laid W) :
  Calls Tryd.prog 4 #[] W fun e w' => e = .returned (.bool true) ∧ Go.Own.jO (fun k => W.heap.size ≤ k) W w' := by
 have q := (Go.Own.z4u (Go.Own.z1B Go.Own.zam List.mem_cons_self : Go.Own.wR.Ok Tryd.prog) (x := ()) (r := true) (Go.Own.z5a)).2 (Go.Own.zbg W) W [] [] ⟨fun _ _ _ h => h, z5h hL, z5C hL⟩ ?_ (by simp)
 ·refine Calls.mono q ?_
  rintro e w' ⟨v, S', F', rfl, hk, _, _, _, hr, _, _⟩
  refine ⟨?_, hk.mono (by rintro k (h | h) <;> simp_all)⟩
  rw [Go.Own.z5f hr]
 ·refine Go.Own.jM ?_
  exact trivial
end
set_option maxRecDepth 100000 in
theorem z5o (os : Os) (args : Array Value) : laidMetH Tryd.prog Rows.coveragesKnownRow.laid ((World.doorLaid Tryd.prog 400 os).forCall (fun _ _ => 0) ⟨#[], args, []⟩).memory :=
 laidMetH_of_parts3 (fuel := 8) (laidMet_of_run' 8 (by kernel_rfl) (by kernel_rfl)) (by kernel_rfl) (by kernel_rfl)
set_option maxRecDepth 100000 in
theorem z9r (os : Os) (started : os.Started) (H : Type) (enc : TypeId × Value → H) :
  ReturnsInHanded {} Tryd.checked os 4 .any (fun w args => (Rows.coveragesKnownSpec.pre enc Tryd.prog Tryd.f4 Rows.coveragesKnownRow.domain false w args ∧ laidMetH Tryd.prog Rows.coveragesKnownRow.laid w) ∧ sizedMet enc Tryd.prog Tryd.f4 (OpenSpec.ofChange Rows.coveragesKnownSpec) false w args) (Rows.coveragesKnownSpec.post enc Tryd.prog Tryd.f4 false true false false) := by
 refine returnsInHanded_of_change_and (C := Tryd.checked) (X := fun w _ => laidMetH Tryd.prog Rows.coveragesKnownRow.laid w) (fun _ _ _ hh h => h.of_heap hh) own started (by kernel_rfl) Tryd.func4
  (ChangeSpec.witness_shaped (enc := enc) (C := Tryd.checked) (os := os) (X := fun w _ => laidMetH Tryd.prog Rows.coveragesKnownRow.laid w) false (World.doorLaid Tryd.prog 400 os) #[] 8 rfl (World.shaped_of_RefB (by kernel_rfl) (by kernel_rfl)) (by kernel_rfl) (by kernel_rfl) (by kernel_rfl) (z5o os _)) ?_
 intro W base args ds gs before hval0 hW hcnd _ hL _
 have hval : ∀ (j : Nat) t v, Tryd.f4.params[j]? = some t → args[j]? = some v → Value.okWide Tryd.prog W .any base t v := hval0
 have hW' := hW
 obtain ⟨p, q, hA0, hV, rfl, hfz, hnd⟩ := hW
 have hA : DataW.TrodAll enc Tryd.prog W 0 (fun _ => true) true Tryd.f4.params.toList args.toList ds p := hA0
 rw [Tryd.params4] at hA hval
 obtain ⟨rfl, rfl, rfl⟩ := trodAll_none hA
 obtain ⟨rfl, rfl⟩ := trodVars_none hV
 clear hA0 hval0
 refine (zdV hL (base := base)).mono fun e W' ⟨he, hk⟩ => ?_
 subst he
 have hb : Below W.heap.size W W' := ⟨hk.os, hk.tape, hk.output, hk.size, fun k q => hk.block k (by omega)⟩
 have hlt : ∀ x ∈ ([] : List MemPlace), x.block < W.heap.size := fun x hx => by cases hx
 refine ⟨_, rfl, Go.Own.z2H rfl rfl hW' hb (fun _ _ _ => trodAll_cons_mk (shut_bool Tryd.underlying4 _) trodAll_mk0) (fun sp hsp => ?_) (ok_one (by kernel_rfl) rfl (okWide_bool_mk Tryd.underlying4 _))⟩
 rw [Tryd.params4]
 exact trodAll_mk0
theorem kq : Rows.coveragesKnownRow.holds Tryd.pinned (OpenSpec.ofChange Rows.coveragesKnownSpec) :=
 OpenClaim.holds_of_wide 4 Tryd.f4 rfl rfl rfl rfl rfl rfl rfl ⟨rfl, rfl, rfl, rfl, rfl⟩ rfl rfl rfl rfl rfl (by kernel_rfl) Tryd.func4 (by kernel_rfl)
  (of_decide_eq_true (by kernel_rfl)) (by unfold Func.isWrapper; first | (rw [if_pos (by decide +kernel)]; kernel_rfl) | (rw [if_neg (by decide +kernel)]; exact ⟨rfl, rfl⟩))
  (fun os started H enc _ => z9r os started H enc)
theorem proved : Rows.CoveragesKnownCardSaid :=
 Claim7.holds_tied_plain_at .later [] [.data, .data, .data] true (true, "fd240e39abc7d9650345d5363485ca95c3f953fda4858117605acc718f919ae9") false
  kq (fun _ h => by cases h) (by kernel_rfl) (fun _ h => by cases h) coveragesKnown_row_tie rfl ⟨rfl, rfl⟩ (by kernel_rfl) rfl
  (fun f fn hf hfn => by
   obtain rfl : f = 4 := Option.some.inj ((show Tryd.prog.funcNamed "gauntlet/gauntletlaw40.CoveragesKnown" = some 4 by kernel_rfl).symm.trans hf) |>.symm
   obtain rfl : fn = Tryd.f4 := (Option.some.inj (Tryd.func4.symm.trans hfn)).symm
   exact ⟨by kernel_rfl, fun j t ht => by
    rw [Tryd.params4] at ht
    have hm : t ∈ [] := by simpa using Array.mem_of_getElem? ht
    have hall : ([].all fun u => !Tryd.prog.wantsStandIn u) = true := by kernel_rfl
    exact (show Tryd.prog.wantsStandIn t = false by simpa using List.all_eq_true.1 hall t hm)⟩)
  (by kernel_rfl)
#print axioms proved
end Go.Proofs.YtkelmheleahmpaaDoor.coveragesKnown
end
