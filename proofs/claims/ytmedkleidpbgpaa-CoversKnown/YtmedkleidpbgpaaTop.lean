/- -/
import Derived.Test.YtmedkleidpbgpaaPartC
import Derived.Test.YtmedkleidpbgpaaPartE
import Derived.Test.YtmedkleidpbgpaaPartB
import Derived.OpenShut
import Derived.ChangeShapes
import Derived.WalkKit
import Derived.ProofKit
import Derived.Carry
import Derived.Test.YtmedkleidpbgpaaPartF
import Derived.Test.YtmedkleidpbgpaaRows
import Derived.Test.YtmedkleidpbgpaaChecked
set_option linter.unusedVariables false
set_option linter.unusedSimpArgs false
namespace Go.Own
theorem oB {α : Type _} {β : Type _} (a : α) (f : α → Option β) : Option.bind (some a) f = f a := rfl
theorem wK {x : Int} (h1 : -9223372036854775808 ≤ x) (h2 : x ≤ 9223372036854775807) : w64 x = x := by
 simp only [w64, IntKind.wrap, IntKind.bits, IntKind.signed]
 simp
 omega
variable {k : Nat}
section
variable {α β σ τ ρ : Type}
def Ret (x : Option α) (Q : α → Prop) : Prop := ∃ a, x = some a ∧ Q a
theorem Ret.mono {x : Option α} {Q R : α → Prop} (h : Ret x Q) (q : ∀ a, Q a → R a) : Ret x R := by
 have ⟨a, e, h⟩ := h
 exact ⟨a, e, q a h⟩
theorem Ret.eq {x : Option α} {a : α} (h : Ret x fun b => b = a) : x = some a := by
 obtain ⟨b, e, rfl⟩ := h
 exact e
theorem zL {a : α} {Q : α → Prop} : Ret (some a) Q ↔ Q a := ⟨fun ⟨b, e, q⟩ => by cases e; exact q, fun q => ⟨a, rfl, q⟩⟩
theorem jm {x : Option α} {f : α → Option β} {Q : β → Prop} : Ret (Option.bind x f) Q ↔ Ret x fun a => Ret (f a) Q := by
 cases x with
 | none => exact ⟨fun ⟨b, e, _⟩ => (by cases e), fun ⟨b, e, _⟩ => (by cases e)⟩
 | some a => exact ⟨fun h => ⟨a, rfl, h⟩, fun ⟨b, e, h⟩ => by cases e; exact h⟩
theorem uv {c : Bool} {x y : Option α} {Q : α → Prop} : Ret (bif c then x else y) Q ↔ (c = true → Ret x Q) ∧ (c = false → Ret y Q) := by
 cases c <;> simp
theorem UB (l : List α) (i : Nat) : idx l (i : Int) = l[i]? := rfl
theorem gdT {p : Prop} [Decidable p] {x : Option α} (h : p) : gd p x = x := by unfold gd; rw [if_pos h]
theorem bdT {x : Option α} {u : α} {f : α → Option ρ} (h : x = some u) : Option.bind x f = f u := by rw [h]; rfl
theorem jx (step : σ → Option (LR σ τ)) (n : Nat) (s : σ) : YP step (n + 1) s = (match step s with | none => none | some (.next s') => YP step n s' | some (.done t) => some t) := rfl
def LRP (N : σ → Prop) (D : τ → Prop) : LR σ τ → Prop
 | .next s => N s
 | .done t => D t
theorem jl {step : σ → Option (LR σ τ)} (I : σ → Prop) (m : σ → Nat) {R : τ → Prop} {s : σ} (hs : I s) (hm : m s < 18446744073709551616)
  (h : ∀ s, I s → Ret (step s) (LRP (fun s' => I s' ∧ m s' < m s) R)) : Ret (loop step s) R := by
 have gen : ∀ (n : Nat) (s : σ), I s → m s < n → Ret (YP step n s) R := by
  intro n
  induction n with
  | zero => intro s _ h; omega
  | succ n ih =>
   intro s hs hm
   have ⟨a, e, q⟩ := h s hs
   rw [jx, e]
   cases a with
   | next s' => exact ih s' q.1 (by have := q.2; omega)
   | done t => exact ⟨t, rfl, q⟩
 exact gen JE s hs hm
theorem YB {step : σ → Option (LR σ τ)} (st : Nat → σ) (n : Nat) {t : τ} (hn : n < 9223372036854775808) (h : ∀ i, i < n → step (st i) = some (.next (st (i + 1)))) (hd : step (st n) = some (.done t)) : loop step (st 0) = some t := by
 have gen : ∀ (k : Nat) (i : Nat), i ≤ n → n - i < k → YP step k (st i) = some t := by
  intro k
  induction k with
  | zero => intro i _ h; omega
  | succ k ih =>
   intro i hi hk
   rw [jx]
   rcases Nat.lt_or_ge i n with q | q
   ·rw [h i q]
    exact ih (i + 1) q (by omega)
   ·have : i = n := by omega
    subst this
    rw [hd]
 exact gen JE 0 (Nat.zero_le _) (by show n - 0 < 18446744073709551616; omega)
def yu (f : Nat → α → Option ρ) : List α → Nat → Option ρ
 | [], _ => none
 | x :: l, i => match f i x with | some r => some r | none => yu f l (i + 1)
theorem Xj {f : Nat → α → Option ρ} : ∀ {l : List α} {k : Nat}, (∀ i x, l[i]? = some x → f (k + i) x = none) → yu f l k = none
 | [], _, _ => rfl
 | x :: l, k, h => by
  have h0 := h 0 x rfl
  simp [Nat.add_zero] at h0
  simp [yu, h0]
  exact Xj fun i y hy => by have := h (i + 1) y (by simpa using hy); rwa [show k + 1 + i = k + (i + 1) by omega]
theorem jI {f : Nat → α → Option ρ} {r : ρ} : ∀ {l : List α} {k : Nat}, yu f l k = some r → ∃ i x, l[i]? = some x ∧ f (k + i) x = some r
 | [], _, h => by cases h
 | x :: l, k, h => by
  simp [yu] at h
  cases hf : f k x with
  | some r' => rw [hf] at h; exact ⟨0, x, rfl, by rw [Nat.add_zero, hf]; exact h⟩
  | none =>
   rw [hf] at h
   have ⟨i, y, h1, h2⟩ := jI h
   exact ⟨i + 1, y, by simpa using h1, by rw [← h2]; congr 1; omega⟩
theorem Zx {f : Nat → α → Option ρ} {l : List α}  (h : yu f l k = none) : ∀ i x, l[i]? = some x → f (k + i) x = none := by
 induction l generalizing k with
 | nil => intro i x h; simp at h
 | cons y l ih =>
  intro i x hx
  simp [yu] at h
  cases hf : f k y with
  | some r' => rw [hf] at h; cases h
  | none =>
   rw [hf] at h
   cases i with
   | zero => simp at hx; subst hx; simpa using hf
   | succ i => have := ih h i x (by simpa using hx); rwa [show k + (i + 1) = k + 1 + i by omega]
def oS : Option ρ → Unit ⊕ ρ
 | some r => .inr r
 | none => .inl ()
def nS (i : Nat) : Option ρ → LR Int (Unit ⊕ ρ)
 | some r => .done (.inr r)
 | none => .next (w64 ((i : Int) + 1))
theorem vN (l : List α) (hl : l.length < 4611686018427387904) {step : Int → Option (LR Int (Unit ⊕ ρ))} (f : Nat → α → Option ρ)
  (h : ∀ (i : Nat) (x : α), l[i]? = some x → step (i : Int) = some (nS i (f i x))) (h2 : step (l.length : Int) = some (.done (.inl ()))) :
  loop step 0 = some (oS (yu f l 0)) := by
 have gen : ∀ (n : Nat) (k : Nat), k ≤ l.length → l.length - k < n → YP step n (k : Int) = some (oS (yu f (l.drop k) k)) := by
  intro n
  induction n with
  | zero => intro k _ h; omega
  | succ n ih =>
   intro k hk hn
   rw [jx]
   rcases Nat.lt_or_ge k l.length with hlt | hge
   ·have hx : l[k]? = some l[k] := List.getElem?_eq_getElem hlt
    rw [h k _ hx, List.drop_eq_getElem_cons hlt]
    simp [yu]
    cases hf : f k l[k] with
    | some r => rfl
    | none =>
     simp [nS]
     rw [wK (by omega) (by omega)]
     exact ih (k + 1) hlt (by omega)
   ·have : k = l.length := by omega
    subst this
    rw [h2, List.drop_length]
    rfl
 exact gen JE 0 (Nat.zero_le _) (by show l.length - 0 < 18446744073709551616; omega)
end
section
variable {S : Type}
def rv (k : Nat) : List Nat → Nat
 | [] => 0
 | i :: u => rv k u * k + i + 1
def z4G (k : Nat) (bad : S → Nat → Bool) (nx : S → Nat → Option S) (p0 : S) : List Nat → S → Prop
 | [], q => q = p0
 | i :: u, q => ∃ p, z4G k bad nx p0 u p ∧ i < k ∧ bad p i = false ∧ nx p i = some q
structure Bfs (k : Nat) (bad : S → Nat → Bool) (nx : S → Nat → Option S) (p0 : S) (L : List (S × List Nat)) (at_ i : Nat) : Prop where
 first : L[0]? = some (p0, [])
 mono : ∀ (j j' : Nat) (a b : S × List Nat), j < j' → L[j]? = some a → L[j']? = some b → rv k a.2 < rv k b.2
 path : ∀ a ∈ L, z4G k bad nx p0 a.2 a.1
 ahead : ∀ a c, L[at_]? = some c → a ∈ L → rv k a.2 < rv k c.2 * k + i + 1
 pos : i ≤ k
 lies : at_ ≤ L.length
 fin : at_ = L.length → i = 0
 short : ∀ (j : Nat) (a : S × List Nat), L[j]? = some a → a.2.length ≤ j
 seen : ∀ (j x : Nat) (a : S × List Nat), L[j]? = some a → x < k → (j < at_ ∨ j = at_ ∧ x < i) → bad a.1 x = false ∧ ∀ q, nx a.1 x = some q → ∃ b ∈ L, b.1 = q ∧ rv k b.2 ≤ rv k a.2 * k + x + 1
variable {k : Nat} {bad : S → Nat → Bool} {nx : S → Nat → Option S} {p0 : S}
theorem Bfs.start : Bfs k bad nx p0 [(p0, [])] 0 0 := {
 first := rfl
 mono := by
  intro j j' a b h h1 h2
  have := (List.getElem?_eq_some_iff.1 h2).1
  simp at this
  omega
 path := by intro a ha; simp at ha; subst ha; rfl
 ahead := by intro a c _ ha; simp at ha; subst ha; simp [rv]
 pos := Nat.zero_le _
 lies := by simp
 fin := by intro; rfl
 short := by
  intro j a h
  have := (List.getElem?_eq_some_iff.1 h).1
  simp at this
  subst this
  simp at h
  subst h
  simp
 seen := by rintro j x a h _ (q | ⟨_, q⟩) <;> omega }
theorem Bfs.old {L : List (S × List Nat)} {a i : Nat} (h : Bfs k bad nx p0 L a i) {c : S × List Nat} (hc : L[a]? = some c) (hi : i < k) (hb : bad c.1 i = false)
  (hn : ∀ q, nx c.1 i = some q → ∃ b ∈ L, b.1 = q) : Bfs k bad nx p0 L a (i + 1) := {
 first := h.first
 mono := h.mono
 path := h.path
 ahead := fun x y hy hx => by have := h.ahead x y hy hx; omega
 pos := hi
 lies := h.lies
 fin := fun e => by have := (List.getElem?_eq_some_iff.1 hc).1; omega
 short := h.short
 seen := by
  intro j x y hy hx q
  by_cases e : j = a ∧ x = i
  ·obtain ⟨rfl, rfl⟩ := e
   rw [hc] at hy
   cases hy
   refine ⟨hb, fun q hq => ?_⟩
   have ⟨b, h1, h2⟩ := hn q hq
   exact ⟨b, h1, h2, by have := h.ahead b c hc h1; omega⟩
  ·exact h.seen j x y hy hx (by omega) }
theorem Bfs.new {L : List (S × List Nat)} {a i : Nat} (h : Bfs k bad nx p0 L a i) {c : S × List Nat} (hc : L[a]? = some c) (hi : i < k) (hb : bad c.1 i = false) {q : S}
  (hn : nx c.1 i = some q) : Bfs k bad nx p0 (L ++ [(q, i :: c.2)]) a (i + 1) := by
 have hlt := (List.getElem?_eq_some_iff.1 hc).1
 refine ⟨?_, ?_, ?_, ?_, hi, by simp; omega, fun e => by simp at e; omega, ?_, ?_⟩
 ·rw [List.getElem?_append_left (by omega)]; exact h.first
 ·intro j j' x y hj h1 h2
  have hl := (List.getElem?_eq_some_iff.1 h2).1
  simp at hl
  rw [List.getElem?_append_left (by omega)] at h1
  rcases Nat.lt_or_ge j' L.length with g | g
  ·rw [List.getElem?_append_left g] at h2
   exact h.mono j j' x y hj h1 h2
  ·have : j' = L.length := by omega
   subst this
   simp at h2
   subst h2
   exact h.ahead x c hc (List.mem_of_getElem? h1)
 ·intro x hx
  rcases List.mem_append.1 hx with g | g
  ·exact h.path x g
  ·simp at g
   subst g
   exact ⟨c.1, h.path c (List.mem_of_getElem? hc), hi, hb, hn⟩
 ·intro x y hy hx
  rw [List.getElem?_append_left hlt] at hy
  rcases List.mem_append.1 hx with g | g
  ·have := h.ahead x y hy g; omega
  ·simp at g
   subst g
   rw [hc] at hy
   cases hy
   simp [rv]
 ·intro j y hy
  rcases Nat.lt_or_ge j L.length with g | g
  ·rw [List.getElem?_append_left g] at hy
   exact h.short j y hy
  ·have hl := (List.getElem?_eq_some_iff.1 hy).1
   simp at hl
   have : j = L.length := by omega
   subst this
   simp at hy
   subst hy
   have := h.short a c hc
   simp
   omega
 ·intro j x y hy hx g
  rw [List.getElem?_append_left (by omega)] at hy
  by_cases e : j = a ∧ x = i
  ·obtain ⟨rfl, rfl⟩ := e
   rw [hc] at hy
   cases hy
   refine ⟨hb, fun q' hq => ?_⟩
   rw [hn] at hq
   cases hq
   exact ⟨(q, x :: c.2), by simp, rfl, Nat.le_refl _⟩
  ·have ⟨h1, h2⟩ := h.seen j x y hy hx (by omega)
   refine ⟨h1, fun q' hq => ?_⟩
   have ⟨b, g1, g2⟩ := h2 q' hq
   exact ⟨b, List.mem_append_left _ g1, g2⟩
theorem Bfs.step {L : List (S × List Nat)} {a : Nat} (h : Bfs k bad nx p0 L a k) (ha : a < L.length) : Bfs k bad nx p0 L (a + 1) 0 := {
 first := h.first
 mono := h.mono
 path := h.path
 ahead := by
  intro x c hc hx
  have h1 := h.ahead x _ (List.getElem?_eq_getElem ha) hx
  have h2 := h.mono a (a + 1) _ _ (by omega) (List.getElem?_eq_getElem ha) hc
  have h3 : (rv k L[a].2 + 1) * k ≤ rv k c.2 * k := Nat.mul_le_mul_right _ h2
  rw [Nat.succ_mul] at h3
  omega
 pos := Nat.zero_le _
 lies := ha
 fin := fun _ => rfl
 short := h.short
 seen := fun j x b hb hx g => h.seen j x b hb hx (by rcases g with g | ⟨_, g⟩ <;> omega) }
theorem Bfs.reach {L : List (S × List Nat)} {a i : Nat} (h : Bfs k bad nx p0 L a i) : ∀ (u : List Nat) (q : S), z4G k bad nx p0 u q → (∀ c, L[a]? = some c → rv k u < rv k c.2 * k + i + 1) → ∃ (j : Nat) (b : S × List Nat), L[j]? = some b ∧ b.1 = q ∧ rv k b.2 ≤ rv k u
 | [], q, hp, _ => ⟨0, _, h.first, hp.symm, Nat.zero_le _⟩
 | x :: u, q, ⟨p, hp, hx, hb, hn⟩, hlt => by
  have hk : rv k u ≤ rv k u * k := Nat.le_mul_of_pos_right _ (by omega)
  obtain ⟨j, b, hj, rfl, hr⟩ := h.reach u p hp fun c hc => by have := hlt c hc; simp [rv] at this; omega
  have hmul : rv k b.2 * k ≤ rv k u * k := Nat.mul_le_mul_right _ hr
  have hjl := (List.getElem?_eq_some_iff.1 hj).1
  have hpos : j < a ∨ j = a ∧ x < i := by
   rcases Nat.lt_trichotomy j a with g | g | g
   ·exact .inl g
   ·subst g
    refine .inr ⟨rfl, ?_⟩
    have := hlt b hj
    simp [rv] at this
    omega
   ·exfalso
    have hal : a < L.length := by omega
    have h1 := hlt _ (List.getElem?_eq_getElem hal)
    have h2 := h.mono a j _ _ g (List.getElem?_eq_getElem hal) hj
    have h3 : (rv k L[a].2 + 1) * k ≤ rv k b.2 * k := Nat.mul_le_mul_right _ h2
    rw [Nat.succ_mul] at h3
    have := h.pos
    simp [rv] at h1
    omega
  have ⟨_, h2⟩ := h.seen j x b hj hx hpos
  have ⟨c, g1, g2, g3⟩ := h2 q hn
  have ⟨j', g4⟩ := List.getElem?_of_mem g1
  exact ⟨j', c, g4, g2, by simp [rv]; omega⟩
end
def z0P (m : z6) (x : z8) : Bool := (x.To == -1 && x.Out == -1) || (decide (0 ≤ x.To) && decide (x.To < (m.Rows.length : Int)) && decide (0 ≤ x.Out) && decide (x.Out < m.Outputs))
def z2o (m : z6) (r : List z8) : Bool := decide ((r.length : Int) = m.Inputs) && r.all (z0P m)
def chk (m : z6) : Int :=
 if m.Inputs > 16 ∨ m.Outputs > 16 ∨ (m.Rows.length : Int) > 64 then 3 else if m.Inputs < 1 ∨ m.Outputs < 1 ∨ m.Rows.length = 0 then 1 else if m.Rows.all (z2o m) = true then 0 else 1
theorem z8f (m : z6) (x : z8) : uA m x = some (z0P m x) := by
 unfold uA jo
 simp [oB, Bool.and_true]
 rcases Bool.eq_false_or_eq_true (x.To == (-1) && x.Out == (-1)) with h | h
 ·simp [z0P, h]
 ·rw [h]
  simp [z0P, h, Bool.false_or, cond_false]
  by_cases h1 : (0 : Int) ≤ x.To
  ·by_cases h2 : x.To < (m.Rows.length : Int)
   ·by_cases h3 : (0 : Int) ≤ x.Out
    ·simp [Bool.cond_eq_ite, h1, h2, h3]
    ·simp [Bool.cond_eq_ite, h1, h2, h3]
   ·simp [Bool.cond_eq_ite, h1, h2]
  ·simp [h1]
theorem z0Z (m : z6) (r : List z8) (hl : r.length < 4611686018427387904) : zJ r m = some (!r.all (z0P m)) := by
 have hloop : loop (fun s => zB r m s) 0 = some (oS (yu (fun i x => if z0P m x = true then none else some (i : Int)) r 0)) := by
  refine vN r hl _ ?_ ?_
  ·intro i x hx
   have hi := (List.getElem?_eq_some_iff.1 hx).1
   unfold zB
   have hd : decide ((i : Int) < ((r.length : Nat) : Int)) = true := by simpa using hi
   rw [hd, cond_true, UB, bdT hx]
   unfold u9
   simp [z8f, oB]
   cases z0P m x <;> rfl
  ·unfold zB
   simp
 unfold zJ y7
 rw [hloop]
 simp [oB]
 cases hf : yu (fun i x => if z0P m x = true then none else some (i : Int)) r 0 with
 | some q =>
  have ⟨i, x, h1, h2⟩ := jI hf
  have hx : z0P m x ≠ true := by
   intro h; rw [if_pos h] at h2; cases h2
  rw [if_neg hx] at h2
  simp [Option.some.injEq] at h2
  have : r.all (z0P m) = false := by
   rw [List.all_eq_false]
   exact ⟨x, List.mem_of_getElem? h1, hx⟩
  rw [this]
  have : (q : Int) ≥ 0 := by rw [← h2]; omega
  show some (decide (q ≥ 0)) = _
  simp [this]
 | none =>
  have : r.all (z0P m) = true := by
   rw [List.all_eq_true]
   intro x hx
   have ⟨i, hi⟩ := List.getElem?_of_mem hx
   have := Zx hf i x hi
   by_cases h : z0P m x = true
   ·exact h
   ·rw [if_neg h] at this; cases this
  rw [this]
  rfl
variable {m : z6}
theorem z2D (h0 : (m.Rows.length : Int) ≤ 64) (h1 : m.Inputs ≤ 16) : loop (fun s => xQ m s) 0 = some (oS (yu (fun _ r => if z2o m r = true then none else some (1 : Int)) m.Rows 0)) := by
 refine vN m.Rows (by omega) _ ?_ ?_
 ·intro i r hr
  have hi := (List.getElem?_eq_some_iff.1 hr).1
  unfold xQ
  have hd : decide ((i : Int) < ((m.Rows.length : Nat) : Int)) = true := by simpa using hi
  rw [hd, cond_true, UB, bdT hr]
  by_cases hlen : (r.length : Int) = m.Inputs
  ·have hne : (((r.length : Nat) : Int) != m.Inputs) = false := by simpa using hlen
   rw [hne, cond_false, bdT (z0Z m r (by omega))]
   have : z2o m r = r.all (z0P m) := by simp [z2o, hlen]
   rw [this]
   cases r.all (z0P m) <;> rfl
  ·have hne : (((r.length : Nat) : Int) != m.Inputs) = true := by simpa using hlen
   rw [hne, cond_true]
   have : z2o m r = false := by simp [z2o, hlen]
   rw [this]; rfl
 ·unfold xQ
  simp
theorem z2n (m : z6) : yu (fun _ r => if z2o m r = true then none else some (1 : Int)) m.Rows 0 = if m.Rows.all (z2o m) = true then none else some 1 := by
 by_cases h : m.Rows.all (z2o m) = true
 ·rw [if_pos h]
  refine Xj fun i r hr => ?_
  rw [if_pos (List.all_eq_true.1 h r (List.mem_of_getElem? hr))]
 ·rw [if_neg h]
  cases hf : yu (fun _ r => if z2o m r = true then none else some (1 : Int)) m.Rows 0 with
  | some q =>
   have ⟨i, x, h1, h2⟩ := jI hf
   split at h2
   ·cases h2
   ·exact h2.symm ▸ rfl
  | none =>
   exfalso
   apply h
   rw [List.all_eq_true]
   intro x hx
   have ⟨i, hi⟩ := List.getElem?_of_mem hx
   have := Zx hf i x hi
   by_cases h : z2o m x = true
   ·exact h
   ·rw [if_neg h] at this; cases this
theorem JM (m : z6) : ww m = some (chk m) := by
 unfold ww chk
 by_cases h1 : m.Inputs > 16
 ·simp [h1]
 by_cases h2 : m.Outputs > 16
 ·simp [Bool.cond_eq_ite, h1, h2]
 by_cases h3 : (m.Rows.length : Int) > 64
 ·simp [Bool.cond_eq_ite, h1, h2, h3]
 rw [if_neg (by simp [h1, h2, h3])]
 by_cases h4 : m.Inputs < 1
 ·simp [Bool.cond_eq_ite, h1, h2, h3, h4]
 by_cases h5 : m.Outputs < 1
 ·simp [Bool.cond_eq_ite, h1, h2, h3, h4, h5]
 by_cases h6 : m.Rows.length = 0
 ·simp [Bool.cond_eq_ite, h1, h2, h4, h5, h6]
 rw [if_neg (by simp [h4, h5, h6])]
 have h6' : decide (((m.Rows.length : Nat) : Int) < 1) = false := by simp; omega
 have e1 : decide (m.Inputs > 16) = false := by simpa using h1
 have e2 : decide (m.Outputs > 16) = false := by simpa using h2
 have e3 : decide (((m.Rows.length : Nat) : Int) > 64) = false := by simpa using h3
 have e4 : decide (m.Inputs < 1) = false := by simpa using h4
 have e5 : decide (m.Outputs < 1) = false := by simpa using h5
 simp only [e1, e2, e3, e4, e5, h6', cond_false]
 rw [bdT (z2D (by omega) (by omega)), z2n]
 by_cases h : m.Rows.all (z2o m) = true
 ·rw [if_pos h, if_pos h]; rfl
 ·rw [if_neg h, if_neg h]; rfl
structure VM (m : z6) : Prop where
 in1 : 1 ≤ m.Inputs
 in16 : m.Inputs ≤ 16
 out1 : 1 ≤ m.Outputs
 out16 : m.Outputs ≤ 16
 len1 : 1 ≤ m.Rows.length
 len64 : m.Rows.length ≤ 64
 row : ∀ r ∈ m.Rows, (r.length : Int) = m.Inputs
 edge : ∀ r ∈ m.Rows, ∀ x ∈ r, (x.To = -1 ∧ x.Out = -1) ∨ (0 ≤ x.To ∧ x.To < (m.Rows.length : Int) ∧ 0 ≤ x.Out ∧ x.Out < m.Outputs)
theorem z2a (h : VM m) : chk m = 0 := by
 unfold chk
 have := h.in1; have := h.in16; have := h.out1; have := h.out16; have := h.len1; have := h.len64
 rw [if_neg (by omega), if_neg (by omega), if_pos]
 rw [List.all_eq_true]
 intro r hr
 simp [z2o, Bool.and_eq_true, decide_eq_true_eq, List.all_eq_true]
 refine ⟨h.row r hr, fun x hx => ?_⟩
 simp [z0P, Bool.or_eq_true, Bool.and_eq_true, beq_iff_eq, decide_eq_true_eq]
 rcases h.edge r hr x hx with ⟨a, b⟩ | ⟨a, b, c, d⟩
 ·exact .inl ⟨a, b⟩
 ·exact .inr ⟨⟨⟨a, b⟩, c⟩, d⟩
def kk (m : z6) : Nat := m.Inputs.toNat
def E (m : z6) (s i : Nat) : z8 := ((m.Rows[s]?.getD [])[i]?).getD ⟨-1, -1⟩
variable {s i : Nat}
section
variable {m : z6} (h : VM m)
include h
theorem VM.kk_eq : ((kk m : Nat) : Int) = m.Inputs := by have := h.in1; unfold kk; omega
theorem VM.kk_le : kk m ≤ 16 := by have := h.in16; unfold kk; omega
theorem VM.rowAt {s : Nat} (hs : s < m.Rows.length) : ∃ r, m.Rows[s]? = some r ∧ r.length = kk m ∧ ∀ i, i < kk m → r[i]? = some (E m s i) := by
 have hr := List.getElem?_eq_getElem hs
 have hl := h.row _ (List.getElem_mem hs)
 have hl' : m.Rows[s].length = kk m := by unfold kk; omega
 refine ⟨_, hr, hl', fun i hi => ?_⟩
 have hi' : i < m.Rows[s].length := by omega
 unfold E
 rw [hr]
 simp [Option.getD_some]
 rw [List.getElem?_eq_getElem hi']
 rfl
theorem VM.edgeAt (hs : s < m.Rows.length) (hi : i < kk m) : ((E m s i).To = -1 ∧ (E m s i).Out = -1) ∨ (0 ≤ (E m s i).To ∧ (E m s i).To < (m.Rows.length : Int) ∧ 0 ≤ (E m s i).Out ∧ (E m s i).Out < m.Outputs) := by
 have ⟨r, h1, _, h2⟩ := h.rowAt hs
 exact h.edge r (List.mem_of_getElem? h1) _ (List.mem_of_getElem? (h2 i hi))
end
structure WM (m : z6) : Prop where
 in1 : 1 ≤ m.Inputs
 in16 : m.Inputs ≤ 16
 len1 : 1 ≤ m.Rows.length
 len : m.Rows.length ≤ 128
 row : ∀ r ∈ m.Rows, (r.length : Int) = m.Inputs
 edge : ∀ r ∈ m.Rows, ∀ x ∈ r, (x.To = -1 ∧ x.Out = -1) ∨ (0 ≤ x.To ∧ x.To < (m.Rows.length : Int) ∧ 0 ≤ x.Out)
def nxE (m : z6) (s : Int) (i : Nat) : z8 := if s < 0 then ⟨-1, -1⟩ else E m s.toNat i
def rsp (m : z6) : Int → List Nat → List Int
 | _, [] => []
 | s, i :: w => (nxE m s i).Out :: rsp m (nxE m s i).To w
def aft (m : z6) : Int → List Nat → Int
 | s, [] => s
 | s, i :: w => aft m (nxE m s i).To w
theorem Yv (m : z6) : ∀ (w : List Nat) (s : Int) (i : Nat), rsp m s (w ++ [i]) = rsp m s w ++ [(nxE m (aft m s w) i).Out] ∧ aft m s (w ++ [i]) = (nxE m (aft m s w) i).To
 | [], s, i => ⟨rfl, rfl⟩
 | j :: w, s, i => by
  have := Yv m w (nxE m s j).To i
  simp only [List.cons_append, rsp, aft, this.1, this.2, and_self]
def z6q (m : z6) (s : Int) : Prop := -1 ≤ s ∧ s < (m.Rows.length : Int)
theorem zb6 (h : VM m) {s : Int} (hs : z6q m s) {i : Nat} (hi : i < kk m) : z6q m (nxE m s i).To := by
 unfold nxE
 have := h.len1
 by_cases h0 : s < 0
 ·rw [if_pos h0]
  unfold z6q
  simp only
  omega
 ·rw [if_neg h0]
  have hl : s.toNat < m.Rows.length := by have := hs.2; omega
  have := h.edgeAt hl hi
  unfold z6q
  omega
theorem Zu (m : z6) (s i : Nat) : nxE m (s : Int) i = E m s i := by
 unfold nxE
 rw [if_neg (by omega), Int.toNat_natCast]
def Je (k : Nat) : List Nat → Nat
 | [] => 0
 | d :: r => d + k * Je k r
theorem z2Q {k : Nat} : ∀ {r : List Nat}, (∀ d ∈ r, d < k) → Je k r < k ^ r.length
 | [], _ => by simp [Je]
 | d :: r, h => by
  have ih := z2Q (k := k) (r := r) fun x hx => h x (by simp [hx])
  have hd := h d (by simp)
  simp [Je, List.length_cons, Nat.pow_succ]
  have : k * (Je k r + 1) ≤ k * k ^ r.length := Nat.mul_le_mul_left k ih
  rw [Nat.mul_add, Nat.mul_one] at this
  rw [Nat.mul_comm (k ^ r.length) k]
  omega
theorem z17 : ∀ {r s : List Nat}, r.length = s.length → (∀ d ∈ r, d < k) → (∀ d ∈ s, d < k) → Je k r = Je k s → r = s
 | [], [], _, _, _, _ => rfl
 | [], _ :: _, h, _, _, _ => by simp at h
 | _ :: _, [], h, _, _, _ => by simp at h
 | d :: r, e :: s, h, h1, h2, hv => by
  have hd := h1 d (by simp)
  have he := h2 e (by simp)
  simp [Je] at hv
  have a1 : (d + k * Je k r) % k = d := by rw [Nat.add_mul_mod_self_left, Nat.mod_eq_of_lt hd]
  have a2 : (e + k * Je k s) % k = e := by rw [Nat.add_mul_mod_self_left, Nat.mod_eq_of_lt he]
  have hde : d = e := by rw [← a1, ← a2, hv]
  subst hde
  have hk : 0 < k := by omega
  have : k * Je k r = k * Je k s := by omega
  have := Nat.eq_of_mul_eq_mul_left hk this
  rw [z17 (by simpa using h) (fun x hx => h1 x (by simp [hx])) (fun x hx => h2 x (by simp [hx])) this]
def GG (k : Nat) : Nat → Nat
 | 0 => 0
 | n + 1 => GG k n + k ^ n
theorem z8I {k n m : Nat} (h : n ≤ m) : GG k n ≤ GG k m := by
 induction h with
 | refl => exact Nat.le_refl _
 | step _ ih => exact Nat.le_trans ih (Nat.le_add_right _ _)
def rk (k : Nat) (w : List Nat) : Nat := GG k w.length + Je k w.reverse
def Wd (k : Nat) (w : List Nat) : Prop := ∀ i ∈ w, i < k
variable {w : List Nat}
theorem Wd.rev (h : Wd k w) : ∀ d ∈ w.reverse, d < k := fun d hd => h d (by simpa using hd)
theorem zb3 (h : Wd k w) : rk k w < GG k (w.length + 1) := by
 have := z2Q h.rev
 rw [List.length_reverse] at this
 show GG k w.length + Je k w.reverse < GG k w.length + k ^ w.length
 omega
theorem z3g {k : Nat} {w u : List Nat} (hw : Wd k w) (h : w.length < u.length) : rk k w < rk k u := by
 have h1 := zb3 hw
 have h2 := z8I (k := k) (show w.length + 1 ≤ u.length from h)
 unfold rk at *
 omega
theorem z9w {w u : List Nat} (hw : Wd k w) (hu : Wd k u) (h : rk k w = rk k u) : w = u := by
 have hl : w.length = u.length := by
  rcases Nat.lt_trichotomy w.length u.length with q | q | q
  ·have := z3g hw q; omega
  ·exact q
  ·have := z3g hu q; omega
 have hv : Je k w.reverse = Je k u.reverse := by unfold rk at h; rw [hl] at h; omega
 have := z17 (by simpa using hl) hw.rev hu.rev hv
 simpa using congrArg List.reverse this
section
variable {m : z6}
theorem QS (h : VM m) : ∀ (w : List Nat) (s : Int), z6q m s → Wd (kk m) w → z6q m (aft m s w)
 | [], s, hs, _ => hs
 | i :: w, s, hs, hw => QS h w _ (zb6 h hs (hw i (by simp))) fun j hj => hw j (by simp [hj])
end
theorem z15 (m : z6) : ∀ (u w : List Nat) (s : Int), aft m s (u ++ w) = aft m (aft m s u) w
 | [], _, _ => rfl
 | i :: u, w, s => by simp [List.cons_append, aft, z15 m u w]
theorem K0 (m : z6) : ∀ (w : List Nat) (s : Int), s < 0 → aft m s w < 0
 | [], s, h => h
 | i :: w, s, h => by
  simp [aft, nxE, if_pos h]
  exact K0 m w (-1) (by omega)
structure Acc (m : z6) (t : Nat) (v : List Nat) : Prop where
 wd : Wd (kk m) v
 len : v.length < m.Rows.length
 aft : aft m 0 v = (t : Int)
 least : ∀ u, Wd (kk m) u → Go.Own.aft m 0 u = (t : Int) → rk (kk m) v ≤ rk (kk m) u
section
variable {m : z6} (h : VM m) (hG : GG (kk m) m.Rows.length ≤ 1000000000)
include h hG
def z16 (m : z6) (r : List (List Int) × List Bool) : Prop :=
 r.1.length = m.Rows.length ∧ r.2.length = m.Rows.length ∧ ∀ t, t < m.Rows.length →
  (r.2[t]? = some true ∧ ∃ v : List Nat, r.1[t]? = some (v.map Int.ofNat) ∧ Acc m t v) ∨ (r.2[t]? = some false ∧ ∀ u, Wd (kk m) u → aft m 0 u ≠ (t : Int))
end
theorem z6p {s : Nat} {v w : List Nat} (hv : Acc m s v) (hw : Acc m s w) : v = w :=
 z9w hv.wd hw.wd (Nat.le_antisymm (hv.least w hw.wd hw.aft) (hw.least v hv.wd hv.aft))
def Rch (m : z6) (t : Nat) : Prop := ∃ u, Wd (kk m) u ∧ aft m 0 u = (t : Int)
theorem Xz {out : List Bool} {j t : Nat} (hj : j < out.length) : (out.set j true)[t]? = some true ↔ t = j ∨ out[t]? = some true := by
 by_cases e : t = j
 ·subst e; simp [hj]
 ·rw [List.getElem?_set_ne (Ne.symm e)]
  exact ⟨.inr, fun q => q.resolve_left e⟩
section
variable {m : z6} (h : VM m)
include h
omit h in theorem rch_step {s i : Nat} (hs : Rch m s) (hi : i < kk m) (h0 : 0 ≤ (E m s i).To) : Rch m (E m s i).To.toNat := by
 obtain ⟨u, hu, e⟩ := hs
 refine ⟨u ++ [i], fun j hj => ?_, ?_⟩
 ·rcases List.mem_append.1 hj with q | q
  ·exact hu j q
  ·have : j = i := by simpa using q
   omega
 ·have := (Yv m u 0 i).2
  rw [e, Zu] at this
  rw [this]
  omega
end
def xX : List Int → List Int → Int
 | [], [] => 0
 | [], _ :: _ => -1
 | _ :: _, [] => 1
 | x :: a, y :: b => if x < y then -1 else if y < x then 1 else xX a b
def jM (a b : List Int) : Int := if a.length < b.length then -1 else if b.length < a.length then 1 else xX a b
theorem z3K : ∀ {a b : List Int}, xX a b = 0 → a = b
 | [], [], _ => rfl
 | [], _ :: _, h => by simp [xX] at h
 | _ :: _, [], h => by simp [xX] at h
 | x :: a, y :: b, h => by
  simp [xX] at h
  split at h
  ·simp at h
  ·split at h
   ·simp at h
   ·rw [show x = y by omega, z3K h]
theorem KO : ∀ a : List Int, xX a a = 0
 | [] => rfl
 | x :: a => by simp [xX, KO a]
theorem z1H : ∀ a b : List Int, xX b a = - xX a b
 | [], [] => rfl
 | [], _ :: _ => rfl
 | _ :: _, [] => rfl
 | x :: a, y :: b => by
  simp [xX]
  split
  ·rw [if_neg (by omega)]
  ·split
   ·rfl
   ·exact z1H a b
theorem QD : ∀ {a b c : List Int}, xX a b < 0 → xX b c < 0 → xX a c < 0
 | [], [], _, h, _ => by simp [xX] at h
 | [], _ :: _, [], _, h => by simp [xX] at h
 | [], _ :: _, _ :: _, _, _ => by simp [xX]
 | _ :: _, [], _, h, _ => by simp [xX] at h
 | _ :: _, _ :: _, [], _, h => by simp [xX] at h
 | x :: a, y :: b, z :: c, h1, h2 => by
  simp [xX] at h1 h2 ⊢
  by_cases e1 : x < y
  ·by_cases e2 : y < z
   ·rw [if_pos (by omega)]; omega
   ·rw [if_neg e2] at h2
    by_cases e3 : z < y
    ·rw [if_pos e3] at h2; omega
    ·rw [if_pos (by omega)]; omega
  ·rw [if_neg e1] at h1
   by_cases e3 : y < x
   ·rw [if_pos e3] at h1; omega
   ·rw [if_neg e3] at h1
    have : x = y := by omega
    subst this
    by_cases e2 : x < z
    ·rw [if_pos e2]; omega
    ·rw [if_neg e2] at h2 ⊢
     by_cases e4 : z < x
     ·rw [if_pos e4] at h2; omega
     ·rw [if_neg e4] at h2 ⊢
      exact QD h1 h2
variable {a b : List Int}
theorem z12 (h : jM a b = 0) : a = b := by
 unfold jM at h
 split at h
 ·simp at h
 ·split at h
  ·simp at h
  ·exact z3K h
theorem UJ (a : List Int) : jM a a = 0 := by simp [jM, KO]
theorem z28 : jM a b = 0 ↔ a = b := ⟨z12, fun h => h ▸ UJ a⟩
theorem z27 (a b : List Int) : jM b a = - jM a b := by
 unfold jM
 by_cases h1 : a.length < b.length
 ·rw [if_pos h1, if_neg (by omega), if_pos h1]; rfl
 ·by_cases h2 : b.length < a.length
  ·rw [if_pos h2, if_neg h1, if_pos h2]
  ·rw [if_neg h1, if_neg h2, if_neg h2, if_neg h1, z1H]
theorem kR {a b c : List Int} (h1 : jM a b < 0) (h2 : jM b c < 0) : jM a c < 0 := by
 unfold jM at *
 by_cases e1 : a.length < b.length
 ·by_cases e2 : b.length < c.length
  ·rw [if_pos (by omega)]; omega
  ·rw [if_neg e2] at h2
   by_cases e3 : c.length < b.length
   ·rw [if_pos e3] at h2; omega
   ·rw [if_pos (by omega)]; omega
 ·rw [if_neg e1] at h1
  by_cases e3 : b.length < a.length
  ·rw [if_pos e3] at h1; omega
  ·rw [if_neg e3] at h1
   have e : a.length = b.length := by omega
   rw [e]
   by_cases e2 : b.length < c.length
   ·rw [if_pos e2]; omega
   ·rw [if_neg e2] at h2 ⊢
    by_cases e4 : c.length < b.length
    ·rw [if_pos e4] at h2; omega
    ·rw [if_neg e4] at h2 ⊢
     exact QD h1 h2
theorem VF (a : List Int) : ¬ jM a a < 0 := by rw [UJ]; omega
theorem z4l (h : jM a b < 0) : ¬ jM b a < 0 := by rw [z27 a b]; omega
theorem z11 : ¬ jM a b < 0 ↔ jM b a < 0 ∨ a = b := by
 rw [← z28, z27 a b]; omega
def SW (l : List (List Int)) : Prop := l.Pairwise fun a b => jM a b < 0
theorem SW.nil : SW [] := List.Pairwise.nil
variable {l : List (List Int)}{x : List Int}
theorem SW.tail (h : SW (x :: l)) : SW l := (List.pairwise_cons.1 h).2
theorem SW.head (h : SW (x :: l)) : ∀ y ∈ l, jM x y < 0 := (List.pairwise_cons.1 h).1
theorem SW.unique : ∀ {l m : List (List Int)}, SW l → SW m → (∀ x, x ∈ l ↔ x ∈ m) → l = m
 | [], [], _, _, _ => rfl
 | [], y :: m, _, _, h => by have := (h y).2 (by simp); simp at this
 | x :: l, [], _, _, h => by have := (h x).1 (by simp); simp at this
 | x :: l, y :: m, h1, h2, h => by
  have hxy : x = y := by
   rcases List.mem_cons.1 ((h x).1 (by simp)) with e | e
   ·exact e
   ·rcases List.mem_cons.1 ((h y).2 (by simp)) with e' | e'
    ·exact e'.symm
    ·exact absurd (h2.head x e) (z4l (h1.head y e'))
  subst hxy
  rw [SW.unique h1.tail h2.tail fun z => ?_]
  constructor
  ·intro hz
   rcases List.mem_cons.1 ((h z).1 (by simp [hz])) with e | e
   ·subst e; exact absurd (h1.head _ hz) (VF _)
   ·exact e
  ·intro hz
   rcases List.mem_cons.1 ((h z).2 (by simp [hz])) with e | e
   ·subst e; exact absurd (h2.head _ hz) (VF _)
   ·exact e
theorem SW.nodup (h : SW l) : l.Nodup := List.Pairwise.imp (fun {a b} q e => by subst e; exact VF _ q) h
def z0l (w : List Int) : List (List Int) → List (List Int)
 | [] => [w]
 | x :: l => if jM x w < 0 then x :: z0l w l else if jM x w = 0 then x :: l else w :: x :: l
theorem JC {w x : List Int} : ∀ {l : List (List Int)}, x ∈ z0l w l ↔ x = w ∨ x ∈ l
 | [] => by simp [z0l]
 | y :: l => by
  simp [z0l]
  split
  ·simp [List.mem_cons, JC]
   constructor
   ·rintro (h | h | h) <;> simp [h]
   ·rintro (h | h | h) <;> simp [h]
  ·split
   ·rename_i h1 h2
    have := z12 h2
    subst this
    simp
   ·simp
theorem SW.put {w : List Int} : ∀ {l : List (List Int)}, SW l → SW (z0l w l)
 | [], _ => by simp [z0l, SW]
 | y :: l, h => by
  simp [z0l]
  split
  ·rename_i h1
   refine List.pairwise_cons.2 ⟨fun z hz => ?_, SW.put h.tail⟩
   rcases JC.1 hz with rfl | hz
   ·exact h1
   ·exact h.head z hz
  ·split
   ·exact h
   ·rename_i h1 h2
    have hw : jM w y < 0 := by
     rcases z11.1 h1 with q | q
     ·exact q
     ·exact absurd (z28.2 q) h2
    refine List.pairwise_cons.2 ⟨fun z hz => ?_, h⟩
    rcases List.mem_cons.1 hz with rfl | hz
    ·exact hw
    ·exact kR hw (h.head z hz)
theorem z1v (w : List Int) : ∀ l, (z0l w l).length ≤ l.length + 1
 | [] => by simp [z0l]
 | y :: l => by
  simp [z0l]
  split
  ·have := z1v w l; simp; omega
  ·split <;> simp
def srt (l : List (List Int)) : List (List Int) := l.foldl (fun m w => z0l w m) []
theorem z0x : ∀ (l m : List (List Int)), SW m → SW (l.foldl (fun m w => z0l w m) m) ∧ ∀ x, x ∈ l.foldl (fun m w => z0l w m) m ↔ x ∈ m ∨ x ∈ l
 | [], m, h => ⟨h, by simp⟩
 | w :: l, m, h => by
  have ⟨h1, h2⟩ := z0x l (z0l w m) h.put
  refine ⟨h1, fun x => ?_⟩
  rw [List.foldl_cons, h2, JC]
  simp [List.mem_cons]
  constructor
  ·rintro ((h | h) | h) <;> simp [h]
  ·rintro (h | h | h) <;> simp [h]
theorem z1g (l : List (List Int)) : SW (srt l) := (z0x l [] .nil).1
theorem Xe : x ∈ srt l ↔ x ∈ l := by rw [srt, (z0x l [] .nil).2]; simp
theorem z1h {l m : List (List Int)} (h : SW m) (hm : ∀ x, x ∈ m ↔ x ∈ l) : m = srt l := h.unique (z1g l) fun x => by rw [hm, Xe]
theorem XB (h : SW l) : srt l = l := (z1h h fun _ => .rfl).symm
theorem Kk {l m : List (List Int)} (h : ∀ x, x ∈ l ↔ x ∈ m) : srt l = srt m := z1h (z1g l) fun x => by rw [Xe, h]
theorem z2Y (l : List (List Int)) : (srt l).length ≤ l.length := by
 have : ∀ (l m : List (List Int)), (l.foldl (fun m w => z0l w m) m).length ≤ m.length + l.length := by
  intro l
  induction l with
  | nil => intro m; simp
  | cons w l ih => intro m; have := ih (z0l w m); have := z1v w m; simp [List.foldl_cons, List.length_cons]; omega
 have q := this l []
 simp [List.length_nil, Nat.zero_add] at q
 exact q
variable {α : Type}
theorem zy {l : List α} {i : Nat} {x : α} (h : l[i]? = some x) : idx l (i : Int) = some x := h
theorem z6R (b : List Int) (g : Nat → Int → Option Int) (hg : ∀ i x y, b[i]? = some y → g i x = if x < y then some (-1) else if y < x then some 1 else none) :
  ∀ (a : List Int) (k : Nat), k + a.length = b.length → (yu g a k).getD 0 = xX a (b.drop k)
 | [], k, h => by
  have : b.drop k = [] := List.drop_eq_nil_of_le (by simp at h; omega)
  rw [this]; rfl
 | x :: a, k, h => by
  simp [List.length_cons] at h
  have hk : k < b.length := by omega
  rw [List.drop_eq_getElem_cons hk]
  simp [yu, xX, hg k x b[k] (List.getElem?_eq_getElem hk)]
  by_cases h1 : x < b[k]
  ·simp [h1]
  ·by_cases h2 : b[k] < x
   ·simp [h1, h2]
   ·simp [h1, h2]
    exact z6R b g hg a (k + 1) (by omega)
def cI (x y : Int) : Int := if x < y then -1 else if y < x then 1 else 0
theorem z4k (x y : Int) : wS x y = some (cI x y) := by
 unfold wS uB cI
 simp [bne_self_eq_false, oB, cond_false]
 by_cases h1 : x < y
 ·simp [h1]
 ·by_cases h2 : y < x
  ·simp [h1, h2]
  ·simp [h1, h2]
theorem z7M (a b : List Int) (h : a.length < 4611686018427387904) : ∃ c, xc a b = some c ∧ (a.length = b.length → c = xX a b) := by
 unfold xc
 have hloop := vN a h (step := fun s => y9 a b s) (fun i x => match b[i]? with | some y => if x < y then some (-1 : Int) else if y < x then some 1 else none | none => some 1) (by
  intro i x hx
  have hi : i < a.length := (List.getElem?_eq_some_iff.1 hx).1
  unfold y9
  have hc : decide ((i : Int) < (a.length : Int)) = true := by simpa using hi
  simp only [hc, cond_true, zy hx, oB]
  by_cases hb : i < b.length
  ·have hy : b[i]? = some b[i] := List.getElem?_eq_getElem hb
   have hd : decide ((i : Int) ≥ (b.length : Int)) = false := by simp; omega
   simp only [hd, cond_false, zy hy, hy, oB, z4k]
   unfold cI
   by_cases h1 : x < b[i]
   ·simp [h1, nS]
   ·by_cases h2 : b[i] < x
    ·simp [h1, h2, nS]
    ·simp [h1, h2, nS]
  ·have hy : b[i]? = none := List.getElem?_eq_none (by omega)
   have hd : decide ((i : Int) ≥ (b.length : Int)) = true := by simp; omega
   simp only [hd, cond_true, hy, nS]) (by unfold y9; simp)
 rw [bdT hloop]
 have q := fun hl => z6R b (fun i x => match b[i]? with | some y => if x < y then some (-1 : Int) else if y < x then some 1 else none | none => some 1) (fun i x y hy => by simp only [hy]) a 0 hl
 cases hf : yu (fun i x => match b[i]? with | some y => if x < y then some (-1 : Int) else if y < x then some 1 else none | none => some 1) a 0 with
 | some r =>
  refine ⟨r, rfl, fun hl => ?_⟩
  have := q (by omega)
  rw [hf] at this
  simpa using this
 | none =>
  unfold xj
  by_cases hl : a.length < b.length
  ·refine ⟨-1, by simp [oS, hl], fun hl2 => by omega⟩
  ·refine ⟨0, by simp [oS, hl], fun hl2 => ?_⟩
   have := q (by omega)
   rw [hf] at this
   simpa using this
theorem zcB (x y : Int) : kQ [x, y] = some (if x = 0 then y else x) := by
 unfold kQ
 rw [bdT (vN [x, y] (by simp) (step := fun s => vV [x, y] s) (fun i v => if v ≠ 0 then some v else none) ?_ ?_)]
 ·by_cases h1 : x = 0
  ·by_cases h2 : y = 0
   ·simp [yu, h1, h2, oS, jp]
   ·simp [yu, h1, h2, oS]
  ·simp [yu, h1, oS]
 ·intro i v hv
  have hi : i < [x, y].length := (List.getElem?_eq_some_iff.1 hv).1
  unfold vV
  have hc : decide ((i : Int) < (([x, y] : List Int).length : Int)) = true := by simp only [decide_eq_true_eq]; omega
  simp only [hc, cond_true, zy hv, oB]
  by_cases h : v = 0
  ·simp [h, nS]
  ·have hb : (v != 0) = true := by simpa using h
   simp [h, hb, nS]
 ·unfold vV; simp
theorem WL (a b : List Int) (h : a.length < 4611686018427387904) : yz a b = some (jM a b) := by
 unfold yz
 have ⟨c, hc, hl⟩ := z7M a b h
 rw [z4k, hc]
 simp [oB, zcB]
 unfold cI jM
 by_cases h1 : a.length < b.length
 ·simp [h1]
 ·by_cases h2 : b.length < a.length
  ·simp [h1, h2]
  ·simp [h1, h2, hl (by omega)]
def wE (n : Int) (w : List Int) : Int := if 256 < w.length then 3 else if w.any (fun c => decide (c < 0) || decide (n ≤ c)) then 1 else 0
variable {n : Int}
theorem z2O {w : List Int} : wE n w = 0 ↔ w.length ≤ 256 ∧ ∀ c ∈ w, 0 ≤ c ∧ c < n := by
 unfold wE
 by_cases h : 256 < w.length
 ·rw [if_pos h]
  exact ⟨fun q => by simp at q, fun q => by omega⟩
 ·rw [if_neg h]
  by_cases h2 : w.any (fun c => decide (c < 0) || decide (n ≤ c)) = true
  ·rw [if_pos h2]
   simp [List.any_eq_true, Bool.or_eq_true, decide_eq_true_eq] at h2
   have ⟨c, h3, h4⟩ := h2
   refine ⟨fun q => by simp at q, fun q => ?_⟩
   have := q.2 c h3
   omega
  ·rw [if_neg h2]
   simp [List.any_eq_true, Bool.or_eq_true, decide_eq_true_eq, not_exists, not_and, not_or] at h2
   refine ⟨fun _ => ⟨by omega, fun c hc => ?_⟩, fun _ => rfl⟩
   have := h2 c hc
   omega
variable {ρ : Type}
theorem z6S (p : Int → Bool) (g : Nat → Int → Option ρ) (hg : ∀ i x, (g i x).isSome = p x) : ∀ (w : List Int) (k : Nat), (yu g w k).isSome = w.any p
 | [], k => rfl
 | x :: w, k => by
  simp [yu, List.any_cons]
  have := hg k x
  cases hx : g k x with
  | some r => rw [hx] at this; simp at this; simp [← this]
  | none => rw [hx] at this; simp at this; rw [this, Bool.false_or]; exact z6S p g hg w (k + 1)
theorem z2P (n : Int) (w : List Int) : uT w n = some (if 16 < n then 3 else if 256 < w.length then 3 else if n < 1 then 1 else wE n w) := by
 unfold uT
 by_cases h0 : 16 < n
 ·simp [h0]
 by_cases h : 256 < w.length
 ·have h' : (256 : Int) < (w.length : Int) := by omega
  simp [h0, h, h']
 by_cases h1 : n < 1
 ·have h' : ¬ (256 : Int) < (w.length : Int) := by omega
  simp [h0, h, h', h1]
 ·have hd : decide (((w.length : Nat) : Int) > 256) = false := by simp; omega
  have hd0 : decide (n > 16) = false := by simp; omega
  have hd1 : decide (n < 1) = false := by simp; omega
  simp only [hd, hd0, hd1, cond_false, if_neg h, if_neg h0, if_neg h1]
  unfold yP xy wE
  have hl := vN w (by omega) (step := fun s => zX w n s) (fun i c => if c < 0 ∨ n ≤ c then some (i : Int) else none) (by
   intro i c hc
   have hi : i < w.length := (List.getElem?_eq_some_iff.1 hc).1
   unfold zX jh
   have hq : decide ((i : Int) < (w.length : Int)) = true := by simpa using hi
   simp only [hq, cond_true, zy hc, oB]
   by_cases h1 : c < 0
   ·simp [h1, nS]
   ·by_cases h2 : n ≤ c
    ·simp [h1, h2, nS]
    ·simp [h1, h2, nS]) (by unfold zX; simp)
  rw [bdT hl, if_neg h]
  have q := z6S (fun c => decide (c < 0) || decide (n ≤ c)) (fun i c => if c < 0 ∨ n ≤ c then some (i : Int) else none) (fun i c => by by_cases h : c < 0 ∨ n ≤ c <;> simp [h] <;> simpa using h) w 0
  cases hf : yu (fun i c => if c < 0 ∨ n ≤ c then some (i : Int) else none) w 0 with
  | none => rw [hf] at q; rw [← q]; rfl
  | some r =>
   rw [hf] at q
   have ⟨i, x, h1, h2⟩ := jI hf
   rw [← q]
   split at h2
   ·cases h2
    simp [oS]
   ·cases h2
def eS (e : Int) : Option Int := if e = 0 then none else some e
def loE (n : Int) (l : List (List Int)) : Int := if 16 < n then 3 else if 4096 < l.length then 3 else if n < 1 then 1 else (yu (fun _ w => eS (wE n w)) l 0).getD 0
theorem z1V : ∀ {l : List (List Int)} {k : Nat}, (yu (fun _ w => eS (wE n w)) l k).getD 0 = 0 ↔ ∀ w ∈ l, wE n w = 0
 | [], _ => by simp [yu]
 | w :: l, k => by
  by_cases h : wE n w = 0
  ·have : eS (wE n w) = none := by simp [eS, h]
   simp [yu, this]
   rw [z1V]
   simp [h]
  ·have : eS (wE n w) = some (wE n w) := by simp [eS, h]
   simp [yu, this, h]
theorem XL : loE n l = 0 ↔ (1 ≤ n ∧ n ≤ 16) ∧ l.length ≤ 4096 ∧ ∀ w ∈ l, w.length ≤ 256 ∧ ∀ c ∈ w, 0 ≤ c ∧ c < n := by
 unfold loE
 by_cases h0 : 16 < n
 ·rw [if_pos h0]; exact ⟨fun q => by simp at q, fun q => by omega⟩
 by_cases h1 : 4096 < l.length
 ·rw [if_neg h0, if_pos h1]; exact ⟨fun q => by simp at q, fun q => by omega⟩
 by_cases h2 : n < 1
 ·rw [if_neg h0, if_neg h1, if_pos h2]; exact ⟨fun q => by simp at q, fun q => by omega⟩
 rw [if_neg h0, if_neg h1, if_neg h2, z1V]
 constructor
 ·intro q; exact ⟨by omega, by omega, fun w hw => z2O.1 (q w hw)⟩
 ·intro q w hw; exact z2O.2 (q.2.2 w hw)
theorem z1F (l : List (List Int)) (n : Int) : uX l n = some (loE n l) := by
 unfold uX loE
 by_cases h0 : 16 < n
 ·simp [h0]
 by_cases h1 : 4096 < l.length
 ·have h' : (4096 : Int) < (l.length : Int) := by omega
  simp [h0, h1, h']
 by_cases h2 : n < 1
 ·have h' : ¬ (4096 : Int) < (l.length : Int) := by omega
  simp [h0, h1, h2, h']
 have d0 : decide (n > 16) = false := by simp; omega
 have d1 : decide (((l.length : Nat) : Int) > 4096) = false := by simp; omega
 have d2 : decide (n < 1) = false := by simp; omega
 simp only [d0, d1, d2, cond_false, if_neg h0, if_neg h1, if_neg h2]
 rw [bdT (vN l (by omega) (step := fun s => vm l n s) (fun _ w => eS (wE n w)) ?_ ?_)]
 ·cases yu (fun _ w => eS (wE n w)) l 0 <;> rfl
 ·intro i w hw
  have hi : i < l.length := (List.getElem?_eq_some_iff.1 hw).1
  have hq : decide ((i : Int) < (l.length : Int)) = true := by simpa using hi
  have he : uT w n = some (wE n w) := by
   rw [z2P, if_neg h0, if_neg h2]
   by_cases h : 256 < w.length
   ·rw [if_pos h]; unfold wE; rw [if_pos h]
   ·rw [if_neg h]
  unfold vm
  simp only [hq, cond_true, zy hw, oB, he]
  by_cases hz : wE n w = 0
  ·simp [hz, eS, nS]
  ·have hb : (wE n w != 0) = true := by simpa using hz
   simp [hz, hb, eS, nS]
 ·unfold vm; simp
theorem z5E (l : List (List Int)) (hl : l.length < 4611686018427387904) {step : Int × Int → Option (LR (Int × Int) Int)}
  (h : ∀ (n : Int) (i : Nat) (x : List Int), l[i]? = some x → step (n, (i : Int)) = some (.next (w64 (n + ((x.length : Nat) : Int)), w64 ((i : Int) + 1)))) (h2 : ∀ n, step (n, (l.length : Int)) = some (.done n)) :
  loop step (0, 0) = some (l.foldl (fun n x => w64 (n + ((x.length : Nat) : Int))) 0) := by
 have gen : ∀ (m k : Nat) (n : Int), k ≤ l.length → l.length - k < m → YP step m (n, (k : Int)) = some ((l.drop k).foldl (fun n x => w64 (n + ((x.length : Nat) : Int))) n) := by
  intro m
  induction m with
  | zero => intro k n _ h; omega
  | succ m ih =>
   intro k n hk hn
   rw [jx]
   rcases Nat.lt_or_ge k l.length with hlt | hge
   ·have hx : l[k]? = some l[k] := List.getElem?_eq_getElem hlt
    rw [h n k _ hx, List.drop_eq_getElem_cons hlt]
    simp only [List.foldl_cons]
    rw [wK (x := (k : Int) + 1) (by omega) (by omega)]
    exact ih (k + 1) _ hlt (by omega)
   ·have : k = l.length := by omega
    subst this
    rw [h2, List.drop_length]
    rfl
 exact gen JE 0 0 (Nat.zero_le _) (by show l.length - 0 < 18446744073709551616; omega)
def stW (l : List (List Int)) : Int := l.foldl (fun n x => w64 (n + ((x.length : Nat) : Int))) 0
theorem z1b (l : List (List Int)) (hl : l.length < 4611686018427387904) : uW l = some (stW l) := by
 unfold uW
 rw [bdT (z5E l hl (step := fun s => vh l s.1 s.2) ?_ ?_)]
 ·rfl
 ·intro n i x hx
  have hi : i < l.length := (List.getElem?_eq_some_iff.1 hx).1
  have hq : decide ((i : Int) < (l.length : Int)) = true := by simpa using hi
  unfold vh
  simp only [hq, cond_true, zy hx, oB]
 ·intro n; unfold vh; simp
def ub (l : List (List Int)) : Nat := (l.map List.length).sum
theorem z6w (h : ub l < 4611686018427387904) : stW l = (ub l : Int) := by
 have gen : ∀ (l : List (List Int)) (n : Nat), n + ub l < 4611686018427387904 → l.foldl (fun n x => w64 (n + ((x.length : Nat) : Int))) (n : Int) = ((n + ub l : Nat) : Int) := by
  intro l
  induction l with
  | nil => intro n _; simp [ub]
  | cons x l ih =>
   intro n hn
   have hs : ub (x :: l) = x.length + ub l := by simp [ub]
   rw [hs] at hn ⊢
   rw [List.foldl_cons, wK (by omega) (by omega), ← Int.natCast_add, ih (n + x.length) (by omega)]
   congr 1; omega
 have := gen l 0 (by omega)
 simpa [stW] using this
theorem z0v {m : Nat} (h : ∀ w ∈ l, w.length ≤ m) : ub l ≤ l.length * m := by
 induction l with
 | nil => simp [ub]
 | cons x l ih =>
  have hs : ub (x :: l) = x.length + ub l := by simp [ub]
  have h1 := h x (by simp)
  have h2 := ih fun w hw => h w (by simp [hw])
  rw [hs, List.length_cons, Nat.add_mul]
  omega
theorem z19 : ∀ {l : List (List Int)}, SW l ↔ ∀ i x y, l[i]? = some x → l[i + 1]? = some y → jM x y < 0
 | [] => by simp [SW]
 | [x] => ⟨fun _ i a b _ h2 => by simp at h2, fun _ => by simp [SW]⟩
 | x :: y :: l => by
  constructor
  ·intro h i a b h1 h2
   cases i with
   | zero =>
    simp at h1 h2
    subst h1; subst h2
    exact h.head y (by simp)
   | succ i => exact z19.1 h.tail i a b (by simpa using h1) (by simpa using h2)
  ·intro h
   have ht : SW (y :: l) := z19.2 fun i a b h1 h2 => h (i + 1) a b (by simpa using h1) (by simpa using h2)
   have h0 := h 0 x y rfl rfl
   refine List.pairwise_cons.2 ⟨fun z hz => ?_, ht⟩
   rcases List.mem_cons.1 hz with rfl | hz
   ·exact h0
   ·exact kR h0 (ht.head z hz)
theorem z2u {α ρ : Type} (l : List α) (hl : l.length < 4611686018427387904) {step : Int → Option (LR Int (Unit ⊕ ρ))} (f : Nat → α → Option ρ)
  (h : ∀ (i : Nat) (x : α), 1 ≤ i → l[i]? = some x → step (i : Int) = some (nS i (f i x))) (h2 : ∀ k : Nat, l.length ≤ k → step (k : Int) = some (.done (.inl ()))) :
  loop step 1 = some (oS (yu f (l.drop 1) 1)) := by
 have gen : ∀ (n : Nat) (k : Nat), 1 ≤ k → l.length - k < n → YP step n (k : Int) = some (oS (yu f (l.drop k) k)) := by
  intro n
  induction n with
  | zero => intro k _ h; omega
  | succ n ih =>
   intro k hk hn
   rw [jx]
   rcases Nat.lt_or_ge k l.length with hlt | hge
   ·have hx : l[k]? = some l[k] := List.getElem?_eq_getElem hlt
    rw [h k _ hk hx, List.drop_eq_getElem_cons hlt]
    simp [yu]
    cases hf : f k l[k] with
    | some r => rfl
    | none =>
     simp [nS]
     rw [wK (by omega) (by omega)]
     exact ih (k + 1) (by omega) (by omega)
   ·rw [h2 k hge, List.drop_eq_nil_of_le hge]
    rfl
 exact gen JE 1 (Nat.le_refl _) (by show l.length - 1 < 18446744073709551616; omega)
instance (l : List (List Int)) : Decidable (SW l) := by unfold SW; infer_instance
theorem z5T (l : List (List Int)) (r : ρ) : yu (fun i x => match l[i - 1]? with | some y => if 0 ≤ jM y x then some r else none | none => none) (l.drop 1) 1 = if SW l then none else some r := by
 by_cases hs : SW l
 ·rw [if_pos hs]
  refine Xj fun i x hx => ?_
  rw [List.getElem?_drop] at hx
  have hi : 1 + i < l.length := (List.getElem?_eq_some_iff.1 hx).1
  have hy : l[1 + i - 1]? = some l[i] := by rw [show 1 + i - 1 = i by omega]; exact List.getElem?_eq_getElem (by omega)
  rw [hy]
  have := z19.1 hs i l[i] x (List.getElem?_eq_getElem (by omega)) (by rw [Nat.add_comm]; exact hx)
  simp only
  rw [if_neg (by omega)]
 ·rw [if_neg hs]
  cases hf : yu (fun i x => match l[i - 1]? with | some y => if 0 ≤ jM y x then some r else none | none => none) (l.drop 1) 1 with
  | some r' =>
   have ⟨i, x, h1, h2⟩ := jI hf
   split at h2
   ·split at h2
    ·exact h2.symm
    ·cases h2
   ·cases h2
  | none =>
   exfalso
   refine hs (z19.2 fun i x y hx hy => ?_)
   have := Zx hf i y (by rw [List.getElem?_drop, Nat.add_comm]; exact hy)
   rw [show 1 + i - 1 = i by omega, hx] at this
   simp only at this
   split at this
   ·cases this
   ·omega
theorem z6o (l : List (List Int)) (h : l.length ≤ 4096) (hw : ∀ w ∈ l, w.length < 4611686018427387904) : jA l = some (decide (SW l)) := by
 unfold jA
 rw [bdT (z2u l (by omega) (step := fun s => vn l s) (fun i x => match l[i - 1]? with | some y => if 0 ≤ jM y x then some false else none | none => none) ?_ ?_), z5T]
 ·by_cases hs : SW l
  ·simp [hs, oS, qB]
  ·simp [hs, oS]
 ·intro i x hi hx
  have hil : i < l.length := (List.getElem?_eq_some_iff.1 hx).1
  have hy : l[i - 1]? = some l[i - 1] := List.getElem?_eq_getElem (by omega)
  have hq : decide ((i : Int) < (l.length : Int)) = true := by simpa using hil
  unfold vn
  rw [wK (x := (i : Int) - 1) (by omega) (by omega), show ((i : Int) - 1) = ((i - 1 : Nat) : Int) by omega]
  have hE := WL l[i - 1] x (hw _ (List.getElem_mem (by omega)))
  simp only [hq, cond_true, zy hx, zy hy, oB, hy, hE]
  by_cases hc : 0 ≤ jM l[i - 1] x
  ·simp [hc, nS]
  ·simp [hc, nS]
 ·intro k hk; unfold vn; have : decide ((k : Int) < (l.length : Int)) = false := by simp; omega
  simp only [this, cond_false]
def chE (n : Int) (l : List (List Int)) : Int := if loE n l ≠ 0 then loE n l else if SW l then (if 65536 < ub l then 3 else 0) else 1
theorem JN : chE n l = 0 ↔ loE n l = 0 ∧ SW l ∧ ub l ≤ 65536 := by
 unfold chE
 by_cases h : loE n l = 0
 ·rw [if_neg (by simp [h])]
  by_cases h2 : SW l
  ·rw [if_pos h2]
   by_cases h3 : 65536 < ub l
   ·rw [if_pos h3]; exact ⟨fun q => by simp at q, fun q => by omega⟩
   ·rw [if_neg h3]; exact ⟨fun _ => ⟨h, h2, by omega⟩, fun _ => rfl⟩
  ·rw [if_neg h2]; exact ⟨fun q => by simp at q, fun q => absurd q.2.1 h2⟩
 ·rw [if_pos h]; exact ⟨fun q => absurd q h, fun q => absurd q.1 h⟩
theorem KL (h : loE n l = 0) : l.length ≤ 4096 ∧ (∀ w ∈ l, w.length ≤ 256) ∧ ub l ≤ 1048576 := by
 have ⟨_, h1, h2⟩ := XL.1 h
 refine ⟨h1, fun w hw => (h2 w hw).1, ?_⟩
 have := z0v (m := 256) fun w hw => (h2 w hw).1
 omega
theorem Kf (l : List (List Int)) (n : Int) : uZ l n = some (chE n l) := by
 unfold uZ chE
 rw [z1F]
 simp [oB]
 by_cases h : loE n l = 0
 ·have ⟨h1, h2, h3⟩ := KL h
  rw [z6o l h1 fun w hw => by have := h2 w hw; omega, z1b l (by omega), z6w (by omega)]
  simp [h, bne_self_eq_false, cond_false, oB]
  by_cases hs : SW l
  ·by_cases hq : 65536 < ub l
   ·have : (65536 : Int) < (ub l : Int) := by omega
    simp [hs, hq, this]
   ·have : ¬ (65536 : Int) < (ub l : Int) := by omega
    simp [hs, hq, this]
  ·simp [hs]
 ·have hb : (loE n l != 0) = true := by simpa using h
  simp [h, hb]
theorem JL (w : List Int) : yG w = some w := by
 unfold yG
 rw [gdT (by omega)]
 simp
theorem z29 (w : List Int) (h : w.length ≤ 4294967296) : yk w = some w := by
 unfold yk
 rw [gdT (by simpa using h)]
theorem z1o (a b : List Int) (h : a.length < 4611686018427387904) : vj a b = some (decide (a = b)) := by
 unfold vj
 rw [WL a b h]
 simp [oB]
 by_cases e : a = b
 ·subst e; simp [UJ]
 ·have : jM a b ≠ 0 := fun q => e (z12 q)
  simp [e, this]
def QW (l : List (List Int)) : Prop := l.Pairwise fun a b => ¬ jM b a < 0
theorem kh {l : List α} {n : Nat} {x : α} : x ∈ l.take n ↔ ∃ i, i < n ∧ l[i]? = some x := by
 rw [List.mem_iff_getElem?]
 constructor
 ·rintro ⟨i, h⟩
  rw [List.getElem?_take] at h
  split at h
  ·exact ⟨i, by omega, h⟩
  ·cases h
 ·rintro ⟨i, h1, h2⟩
  exact ⟨i, by rw [List.getElem?_take, if_pos h1]; exact h2⟩
theorem z2U (h : SW l) (hx : ∀ y ∈ l, jM y x < 0) : SW (l ++ [x]) := by
 unfold SW
 rw [List.pairwise_append]
 exact ⟨h, by simp, fun a ha b hb => by simp at hb; subst hb; exact hx a ha⟩
section
variable {s : List (List Int)} (hq : QW s) (hl : s.length ≤ 4294967296) (hw : ∀ w ∈ s, w.length < 4611686018427387904)
include hq hl hw
omit hl hw in
theorem z5v {i j : Nat} {x y : List Int} (hi : s[i]? = some x) (hj : s[j]? = some y) (h : i ≤ j) : jM x y < 0 ∨ x = y := by
 rcases Nat.lt_or_ge i j with h | h
 ·have := (List.pairwise_iff_getElem.1 hq) i j (List.getElem?_eq_some_iff.1 hi).1 (List.getElem?_eq_some_iff.1 hj).1 h
  rw [(List.getElem?_eq_some_iff.1 hi).2, (List.getElem?_eq_some_iff.1 hj).2] at this
  rcases z11.1 this with q | q
  ·exact .inl q
  ·exact .inr q.symm
 ·have : i = j := by omega
  subst this
  rw [hi] at hj
  exact .inr (by simpa using hj)
theorem z0d (h1 : 1 ≤ k) (hk : k < s.length) (hd : s[k - 1]? = s[k]?) (hs : SW (s.take k)) :
  Ret (Option.bind (loop (fun q => zO (k : Int) q.1 q.2.1 q.2.2) (s, (k : Int), 1)) fun t => zQ t.1 t.2) fun r => r = .done (.inr (srt s)) := by
 rw [jm]
 refine Ret.mono (jl (fun q => ∃ kk k2 : Nat, q.2.1 = (kk : Int) ∧ q.2.2 = (k2 : Int) ∧ 1 ≤ k2 ∧ k + k2 ≤ s.length ∧ kk < k + k2 ∧ q.1.length = s.length ∧ (∀ i, kk ≤ i → q.1[i]? = s[i]?) ∧ SW (q.1.take kk) ∧ ∀ x, x ∈ q.1.take kk ↔ x ∈ s.take (k + k2)) (fun q => s.length - q.2.2.toNat) (R := fun t => ∃ kk : Nat, t.2 = (kk : Int) ∧ kk ≤ s.length ∧ t.1.length = s.length ∧ t.1.take kk = srt s) ?_ ?_ ?_) ?_
 ·refine ⟨k, 1, rfl, rfl, Nat.le_refl _, hk, by omega, rfl, fun _ _ => rfl, hs, fun x => ?_⟩
  rw [kh, kh]
  constructor
  ·rintro ⟨i, h2, h3⟩; exact ⟨i, by omega, h3⟩
  ·rintro ⟨i, h2, h3⟩
   rcases Nat.lt_or_ge i k with h | h
   ·exact ⟨i, h, h3⟩
   ·have : i = k := by omega
    subst this
    exact ⟨i - 1, by omega, by rw [hd]; exact h3⟩
 ·show s.length - _ < _
  omega
 ·rintro ⟨S, a, b⟩ ⟨kk, k2, rfl, rfl, g1, g2, g3, g4, g5, g6, g7⟩
  simp only at g4 g5 g6 g7
  show Ret (zO (k : Int) S (kk : Int) (k2 : Int)) _
  unfold zO
  rw [uv]
  refine ⟨fun hc => ?_, fun hc => ?_⟩
  ·have hlt : k2 < s.length - k := by rw [g4] at hc; simpa using hc
   have e1 : s[k + k2]? = some s[k + k2] := List.getElem?_eq_getElem (by omega)
   have e2 : s[k + k2 - 1]? = some s[k + k2 - 1] := List.getElem?_eq_getElem (by omega)
   have f1 : idx S ((k : Int) + (k2 : Int)) = some s[k + k2] := by
    rw [← Int.natCast_add, UB, g5 _ (by omega), e1]
   have f2 : idx S ((k : Int) + w64 ((k2 : Int) - 1)) = some s[k + k2 - 1] := by
    rw [wK (by omega) (by omega), show (k : Int) + ((k2 : Int) - 1) = ((k + k2 - 1 : Nat) : Int) by omega, UB, g5 _ (by omega), e2]
   rw [gdT (by omega), f1]
   simp only [oB]
   rw [gdT (by rw [wK (by omega) (by omega)]; omega), f2]
   simp only [oB]
   rw [z1o _ _ (hw _ (List.getElem_mem (by omega)))]
   simp only [oB]
   have hk2 : w64 ((k2 : Int) + 1) = ((k2 + 1 : Nat) : Int) := by rw [wK (by omega) (by omega)]; omega
   by_cases he : s[k + k2] = s[k + k2 - 1]
   ·simp only [he, decide_true, Bool.not_true, cond_false]
    unfold zP
    rw [hk2, zL]
    refine ⟨⟨kk, k2 + 1, rfl, rfl, by omega, by omega, by omega, g4, g5, g6, fun x => ?_⟩, by simp only [Int.toNat_natCast]; omega⟩
    rw [g7, kh, kh]
    constructor
    ·rintro ⟨i, h2, h3⟩; exact ⟨i, by omega, h3⟩
    ·rintro ⟨i, h2, h3⟩
     rcases Nat.lt_or_ge i (k + k2) with h | h
     ·exact ⟨i, h, h3⟩
     ·have : i = k + k2 := by omega
      subst this
      exact ⟨k + k2 - 1, by omega, by rw [e2, ← he, ← e1]; exact h3⟩
   ·simp only [he, decide_false, Bool.not_false, cond_true]
    rw [gdT (by omega)]
    have e3 : idx S (kk : Int) = some s[kk] := by rw [UB, g5 _ (Nat.le_refl _), List.getElem?_eq_getElem (by omega)]
    rw [e3]
    simp only [oB]
    unfold zP
    rw [hk2, wK (x := (kk : Int) + 1) (by omega) (by omega), zL]
    have hset : (S.set ((kk : Int).toNat) s[k + k2]).take (kk + 1) = S.take kk ++ [s[k + k2]] := by
     rw [Int.toNat_natCast, List.take_add_one, List.take_set_of_le (Nat.le_refl _), List.getElem?_set_self (by omega)]
     rfl
    refine ⟨⟨kk + 1, k2 + 1, rfl, rfl, by omega, by omega, by omega, by simp [g4], fun i hi => ?_, ?_, fun x => ?_⟩, by simp only [Int.toNat_natCast]; omega⟩
    ·simp only
     rw [List.getElem?_set_ne (by omega), g5 _ (by omega)]
    ·simp only
     rw [hset]
     refine z2U g6 fun y hy => ?_
     have ⟨i, h2, h3⟩ := kh.1 ((g7 y).1 hy)
     have hlast : jM s[k + k2 - 1] s[k + k2] < 0 := by
      rcases z5v hq e2 e1 (by omega) with q | q
      ·exact q
      ·exact absurd q.symm he
     rcases z5v hq h3 e2 (by omega) with q | q
     ·exact kR q hlast
     ·rw [q]; exact hlast
    ·simp only
     rw [hset, List.mem_append, g7, kh, kh]
     constructor
     ·rintro (⟨i, h2, h3⟩ | h)
      ·exact ⟨i, by omega, h3⟩
      ·simp at h; subst h; exact ⟨k + k2, by omega, e1⟩
     ·rintro ⟨i, h2, h3⟩
      rcases Nat.lt_or_ge i (k + k2) with h | h
      ·exact .inl ⟨i, h, h3⟩
      ·have : i = k + k2 := by omega
       subst this
       rw [e1] at h3
       exact .inr (by simpa using h3.symm)
  ·have hge : s.length - k ≤ k2 := by rw [g4] at hc; simpa using hc
   have hkk : k + k2 = s.length := by omega
   rw [zL]
   refine ⟨kk, rfl, by omega, g4, z1h g6 fun x => ?_⟩
   rw [g7, hkk, List.take_length]
 ·rintro ⟨S, a⟩ ⟨kk, rfl, h1, h2, h3⟩
  simp only at h2 h3
  show Ret (zQ S (kk : Int)) _
  unfold zQ
  have hlen : (S.take (kk : Int).toNat ++ List.replicate (S.length - (kk : Int).toNat) ([] : List Int)).length = S.length := by simp [List.length_take]; omega
  rw [gdT (by omega), gdT (by omega), gdT (by rw [hlen]; omega), zL]
  simp only [Int.toNat_natCast]
  rw [List.take_left' (by rw [List.length_take]; omega), h3]
theorem z2C : ye s () = some (srt s) := by
 unfold ye
 by_cases h2 : s.length < 2
 ·have hd : decide (((s.length : Nat) : Int) < 2) = true := by simp; omega
  simp [hd, cond_true]
  rw [XB]
  match s, h2 with
  | [], _ => exact SW.nil
  | [x], _ => simp [SW]
 ·have hd : decide (((s.length : Nat) : Int) < 2) = false := by simp; omega
  simp [hd, cond_false]
  apply Ret.eq
  rw [jm]
  refine Ret.mono (jl (fun q : Int => ∃ j : Nat, q = (j : Int) ∧ 1 ≤ j ∧ j ≤ s.length ∧ SW (s.take j)) (fun q => s.length - q.toNat) (R := fun t : Unit ⊕ List (List Int) => match t with | .inl _ => srt s = s | .inr p => p = srt s) ?_ ?_ ?_) ?_
  ·refine ⟨1, rfl, Nat.le_refl _, by omega, ?_⟩
   match s, h2 with
   | [], h2 => simp at h2
   | x :: l, _ => simp [SW]
  ·show s.length - _ < _
   omega
  ·rintro _ ⟨j, rfl, g1, g2, g3⟩
   show Ret (y6 s (j : Int)) _
   unfold y6
   rw [uv]
   refine ⟨fun hc => ?_, fun hc => ?_⟩
   ·have hj : j < s.length := by simpa using hc
    have e1 : s[j]? = some s[j] := List.getElem?_eq_getElem hj
    have e2 : s[j - 1]? = some s[j - 1] := List.getElem?_eq_getElem (by omega)
    rw [wK (x := (j : Int) - 1) (by omega) (by omega), show (j : Int) - 1 = ((j - 1 : Nat) : Int) by omega, zy e1, zy e2]
    simp [oB]
    rw [z1o _ _ (hw _ (List.getElem_mem hj))]
    simp [oB]
    by_cases he : s[j] = s[j - 1]
    ·simp [he, decide_true, cond_true]
     rw [gdT (by omega)]
     refine (z0d hq hl hw g1 hj (by rw [e1, e2, he]) g3).mono ?_
     rintro _ rfl
     rfl
    ·simp [he, decide_false, cond_false]
     unfold yq
     rw [wK (by omega) (by omega), zL]
     refine ⟨⟨j + 1, rfl, by omega, hj, ?_⟩, by simp; omega⟩
     have : s.take (j + 1) = s.take j ++ [s[j]] := by rw [List.take_add_one, e1]; rfl
     rw [this]
     refine z2U g3 fun y hy => ?_
     have ⟨i, h3, h4⟩ := kh.1 hy
     have hlast : jM s[j - 1] s[j] < 0 := by
      rcases z5v hq e2 e1 (by omega) with q | q
      ·exact q
      ·exact absurd q.symm he
     rcases z5v hq h4 e2 (by omega) with q | q
     ·exact kR q hlast
     ·rw [q]; exact hlast
   ·have hj : j = s.length := by
     have : ¬ j < s.length := by simpa using hc
     omega
    rw [zL]
    show srt s = s
    rw [hj, List.take_length] at g3
    exact XB g3
  ·rintro (u | p) h
   ·show Ret (some s) _
    rw [zL]
    exact h.symm
   ·show Ret (some p) _
    rw [zL]
    exact h
end
theorem Kl (l : List (List Int)) : SOk jM l :=
 ⟨fun x _ => VF x, fun x _ y _ z _ h1 h2 => kR h1 h2, fun x _ y _ h1 h2 => by
  rcases z11.1 h1 with q | q
  ·exact absurd q h2
  ·exact q⟩
theorem z5c {l m : List (List Int)} (h : l.Perm m) : srt l = srt m := Kk fun x => h.mem_iff
theorem Uw {c d : List Int → List Int → Int} : ∀ {l : List (List Int)}, (∀ x ∈ l, ∀ y ∈ l, c x y = d x y) → Xh c l = Xh d l
 | [], _ => rfl
 | x :: l, h => by
  have ih := Uw (c := c) (d := d) (l := l) fun a ha b hb => h a (by simp [ha]) b (by simp [hb])
  show z2I c x (Xh c l) = z2I d x (Xh d l)
  rw [ih]
  have gen : ∀ m : List (List Int), (∀ y ∈ m, y ∈ l) → z2I c x m = z2I d x m := by
   intro m
   induction m with
   | nil => intro _; rfl
   | cons y m ih2 =>
    intro hm
    simp [z2I]
    rw [h y (by simp [hm y (by simp)]) x (by simp), ih2 fun z hz => hm z (by simp [hz])]
  exact gen _ fun y hy => (qh d l).mem_iff.1 hy
def soR (l : List (List Int)) : List (List Int) × Int := if 4096 < (srt l).length ∨ 65536 < ub (srt l) then ([], 3) else (srt l, 0)
theorem Jj (hl : l.length ≤ 100000) (hw : ∀ w ∈ l, w.length ≤ 4294967296) : yW l = some (soR l) := by
  unfold yW wi
  rw [gdT (by simp; omega)]
  simp only [oB]
  have hc : ∀ x ∈ l, ∀ y, yz x y = some (jM x y) := fun x hx y => WL x y (by have := hw x hx; omega)
  have hso : z30 (fun x y => yz x y) l = some (Xh jM l) := by
    unfold z30
    rw [gdT ⟨by omega, fun x hx y hy => by simp only [hc x hx y]; rfl⟩]
    have hcc : ∀ x ∈ l, ∀ y ∈ l, (yz x y).getD 0 = jM x y := fun x hx y _ => by rw [hc x hx y]; rfl
    rw [gdT, Uw (c := fun x y => (yz x y).getD 0) (d := jM) hcc]
    have q := Kl l
    refine ⟨fun x hx => by show ¬ (yz x x).getD 0 < 0; rw [hcc x hx x hx]; exact q.1 x hx, fun x hx y hy z hz h1 h2 => ?_, fun x hx y hy h1 h2 => ?_⟩
    · simp only [hcc x hx y hy, hcc y hy z hz, hcc x hx z hz] at h1 h2 ⊢
      exact q.2.1 x hx y hy z hz h1 h2
    · simp only [hcc x hx y hy, hcc y hy x hx] at h1 h2
      exact q.2.2 x hx y hy h1 h2
  rw [hso]
  simp only [oB]
  have hp := qh jM l
  have hq : QW (Xh jM l) := Ym (Kl l) (fun y hy => hy)
  rw [z2C hq (by rw [hp.length_eq]; omega) (fun w h => by have := hw w (hp.mem_iff.1 h); omega)]
  simp only [oB]
  unfold yR
  simp only [oB]
  rw [z5c hp]
  have hlen : (srt l).length ≤ 100000 := Nat.le_trans (z2Y l) hl
  have hws : ∀ w ∈ srt l, w.length ≤ 4294967296 := fun w h => hw w (Xe.1 h)
  unfold soR
  generalize srt l = r at hlen hws
  have hsy : ub r ≤ 100000 * 4294967296 := Nat.le_trans (z0v hws) (Nat.mul_le_mul_right _ hlen)
  by_cases h1 : 4096 < r.length
  · have : (4096 : Int) < (r.length : Int) := by omega
    simp [h1, this]
  · have d1 : decide (((r.length : Nat) : Int) > 4096) = false := by simp; omega
    simp only [d1, cond_false]
    rw [z1b r (by omega), z6w (by omega)]
    simp only [oB]
    by_cases h2 : 65536 < ub r
    · have : (65536 : Int) < (ub r : Int) := by omega
      simp [h2, this]
    · have d2 : decide (((ub r : Nat) : Int) > 65536) = false := by simp; omega
      simp only [d2, cond_false]
      rw [if_neg (by omega)]
      have hloop := YB (step := fun s => xl r s.1 s.2) (fun i => ((r.take i).map (fun q => (q, true)) ++ (r.drop i).map (fun q => (q, false)), (i : Int))) r.length (t := r.map fun q => (q, true)) (by omega) (by
        intro i hi
        have hA : ((r.take i).map (fun q => (q, true))).length = i := by rw [List.length_map, List.length_take]; omega
        have hd : r.drop i = r[i] :: r.drop (i + 1) := List.drop_eq_getElem_cons hi
        have hx : ((r.take i).map (fun q => (q, true)) ++ (r.drop i).map (fun q => (q, false)))[i]? = some (r[i], false) := by
          rw [List.getElem?_append_right (by omega), hA, hd]; simp
        show xl r _ (i : Int) = _
        unfold xl
        have hq : decide ((i : Int) < ((r.length - (0 : Int).toNat : Nat) : Int)) = true := by simpa using hi
        simp only [hq, cond_true]
        rw [gdT (by omega), Int.zero_add, zy hx]
        simp only [oB]
        rw [z29 _ (hws _ (List.getElem_mem hi))]
        simp only [oB]
        first
          | (unfold yQ
             simp only [oB, Int.toNat_natCast]
             rw [gdT trivial, gdT trivial, wK (by omega) (by omega)])
          | (simp only [oB, JL, Int.toNat_natCast]
             rw [wK (by omega) (by omega)])
        congr 3
        rw [List.set_append_right _ _ (by omega), hA, hd, List.take_add_one, List.getElem?_eq_getElem hi]
        simp only [Nat.sub_self, List.map_cons, List.set_cons_zero, List.map_append, Option.toList_some, List.map_nil, List.append_assoc, List.cons_append, List.nil_append]) (by
        show xl r _ (r.length : Int) = _
        unfold xl
        simp)
      have h0 : ((r.take 0).map (fun q => (q, true)) ++ (r.drop 0).map (fun q => (q, false)), ((0 : Nat) : Int)) = (r.map (fun q => (q, false)), (0 : Int)) := by simp
      rw [h0] at hloop
      rw [hloop]
      simp only [oB]
      unfold up
      rw [gdT (by intro q hq; obtain ⟨_, _, rfl⟩ := List.mem_map.1 hq; rfl)]
      simp [List.map_map, Function.comp_def]
def XP (a : Nat) (w : List Int) : List (List Int) := (List.range a).map fun s : Nat => w ++ [(s : Int)]
def exW (a : Nat) : Nat → List (List Int)
 | 0 => [[]]
 | k + 1 => (exW a k).flatMap (XP a)
theorem JI (a : Nat) (w : List Int) : (XP a w).length = a := by simp [XP]
theorem z1W (a : Nat) (l : List (List Int)) : (l.flatMap (XP a)).length = l.length * a := by
 induction l with
 | nil => simp
 | cons w l ih => rw [List.flatMap_cons, List.length_append, ih, JI, List.length_cons, Nat.succ_mul]; omega
theorem Xk (a : Nat) : ∀ k, (exW a k).length = a ^ k
 | 0 => rfl
 | k + 1 => by rw [exW, z1W, Xk, Nat.pow_succ]
theorem ki (a : Nat) : ∀ k, ∀ w ∈ exW a k, w.length = k
 | 0, w, h => by simp [exW] at h; subst h; rfl
 | k + 1, w, h => by
  rw [exW, List.mem_flatMap] at h
  obtain ⟨v, h1, h2⟩ := h
  simp only [XP, List.mem_map] at h2
  obtain ⟨s, _, rfl⟩ := h2
  simp [ki a k v h1]
theorem za3 {a : Nat} (ha : a ≤ 16) {w : List Int} (hw : w.length ≤ 1000) {nx : List (List Int)} (hn : nx.length ≤ 10000000) :
  loop (fun s => we (a : Int) w s.1 s.2) (nx, 0) = some (nx ++ XP a w) := by
 have h := YB (step := fun s => we (a : Int) w s.1 s.2) (fun i => (nx ++ (List.range i).map (fun s : Nat => w ++ [(s : Int)]), (i : Int))) a (t := nx ++ XP a w) (by omega) (by
  intro i hi
  show we (a : Int) w _ (i : Int) = _
  unfold we
  have hq : decide ((i : Int) < (a : Int)) = true := by simpa using hi
  simp only [hq, cond_true, JL, oB]
  rw [gdT (by simp; omega), gdT (by simp; omega), wK (by omega) (by omega), List.range_succ, List.map_append, List.append_assoc]
  rfl) (by
  show we (a : Int) w _ (a : Int) = _
  unfold we
  simp [XP])
 have h0 : ((nx ++ (List.range 0).map (fun s : Nat => w ++ [(s : Int)])), ((0 : Nat) : Int)) = (nx, (0 : Int)) := by simp
 rw [h0] at h
 exact h
theorem z9N {a : Nat} (ha : a ≤ 16)  (hw : ∀ w ∈ l, w.length ≤ 1000) (hl : l.length ≤ 100000) :
  loop (fun s => wf (a : Int) l s.1 s.2) (([] : List (List Int)), 0) = some (l.flatMap (XP a)) := by
 have h := YB (step := fun s => wf (a : Int) l s.1 s.2) (fun i => ((l.take i).flatMap (XP a), (i : Int))) l.length (t := l.flatMap (XP a)) (by omega) (by
  intro i hi
  show wf (a : Int) l _ (i : Int) = _
  unfold wf
  have hq : decide ((i : Int) < (l.length : Int)) = true := by simpa using hi
  have hx : l[i]? = some l[i] := List.getElem?_eq_getElem hi
  have hlen : ((l.take i).flatMap (XP a)).length ≤ 10000000 := by
   rw [z1W, List.length_take]
   have : min i l.length * a ≤ 100000 * 16 := Nat.mul_le_mul (by omega) ha
   omega
  simp only [hq, cond_true, zy hx, oB]
  rw [bdT (za3 ha (hw _ (List.getElem_mem hi)) hlen)]
  unfold kc
  rw [wK (by omega) (by omega), List.take_add_one, hx, List.flatMap_append]
  simp) (by
  show wf (a : Int) l _ (l.length : Int) = _
  unfold wf
  simp)
 simpa using h
def uR (a f : Nat) : Nat → List (List Int)
 | 0 => []
 | k + 1 => if f ≤ k then uR a f k ++ exW a k else uR a f k
def syW (a f : Nat) : Nat → Nat
 | 0 => 0
 | k + 1 => if f ≤ k then syW a f k + k * a ^ k else syW a f k
def jR (a f t k : Nat) : Prop := 4096 < (uR a f (k + 1)).length ∨ 65536 < syW a f (k + 1) ∨ k < t ∧ 4096 < a ^ k * a
instance (a f t k : Nat) : Decidable (jR a f t k) := by unfold jR; infer_instance
theorem z4B {a f t k : Nat} (ha : 1 ≤ a ∧ a ≤ 16) (hf : f ≤ 256) (ht : t ≤ 256) (hk : k ≤ t) (ho : (uR a f k).length ≤ 4096) (hs : syW a f k ≤ 65536) (hl : a ^ k ≤ 4096) :
  wY (a : Int) (f : Int) (t : Int) (uR a f k) (exW a k) (syW a f k : Int) (k : Int) = if jR a f t k then some (.done ([], 3)) else if k = t then Option.bind (yW (uR a f (k + 1))) (fun r => some (.done (r.1, r.2))) else some (.next (uR a f (k + 1), exW a (k + 1), (syW a f (k + 1) : Int), ((k + 1 : Nat) : Int))) := by
 have hmul : k * a ^ k ≤ 256 * 4096 := Nat.mul_le_mul (by omega) hl
 have hma : a ^ k * a ≤ 4096 * 16 := Nat.mul_le_mul hl ha.2
 have e : wY (a : Int) (f : Int) (t : Int) (uR a f k) (exW a k) (syW a f k : Int) (k : Int) = ui (a : Int) (t : Int) (exW a k) (k : Int) (uR a f (k + 1)) (syW a f (k + 1) : Int) := by
  unfold wY
  by_cases h : f ≤ k
  ·have hd : decide ((k : Int) ≥ (f : Int)) = true := by simpa using h
   simp only [hd, cond_true]
   have hm : w64 ((k : Int) * ((exW a k).length : Int)) = ((k * a ^ k : Nat) : Int) := by
    rw [Xk, ← Int.natCast_mul, wK (by omega) (by omega)]
   rw [gdT (by rw [Xk]; omega), hm, wK (by omega) (by omega)]
   simp only [uR, syW, if_pos h]
   congr 1
  ·have hd : decide ((k : Int) ≥ (f : Int)) = false := by simp; omega
   simp only [hd, cond_false, uR, syW, if_neg h]
 rw [e]
 unfold ui
 by_cases h1 : 4096 < (uR a f (k + 1)).length
 ·have : decide (((uR a f (k + 1)).length : Int) > 4096) = true := by simp only [decide_eq_true_eq]; omega
  simp only [this, cond_true]
  rw [if_pos (show jR a f t k from .inl h1)]
 have d1 : decide (((uR a f (k + 1)).length : Int) > 4096) = false := by simp; omega
 simp only [d1, cond_false]
 by_cases h2 : 65536 < syW a f (k + 1)
 ·have : decide ((syW a f (k + 1) : Int) > 65536) = true := by simp only [decide_eq_true_eq]; omega
  simp only [this, cond_true]
  rw [if_pos (show jR a f t k from .inr (.inl h2))]
 have d2 : decide ((syW a f (k + 1) : Int) > 65536) = false := by simp; omega
 simp only [d2, cond_false]
 have hm : w64 (((exW a k).length : Int) * (a : Int)) = ((a ^ k * a : Nat) : Int) := by
  rw [Xk, ← Int.natCast_mul, wK (by omega) (by omega)]
 rw [hm]
 have J4 : ∀ (hns : ¬ (k < t ∧ 4096 < a ^ k * a)) (b : Bool), uh (a : Int) (t : Int) (exW a k) (k : Int) (uR a f (k + 1)) (syW a f (k + 1) : Int) b = if k = t then Option.bind (yW (uR a f (k + 1))) (fun r => some (.done (r.1, r.2))) else some (.next (uR a f (k + 1), exW a (k + 1), (syW a f (k + 1) : Int), ((k + 1 : Nat) : Int))) := by
  intro hns b
  unfold uh
  by_cases hkt : k = t
  ·subst hkt
   simp
  ·have hd : ((k : Int) == (t : Int)) = false := by simp; omega
   simp only [hd, cond_false, if_neg hkt]
   rw [bdT (z9N ha.2 (fun w hw => by rw [ki a k w hw]; omega) (by rw [Xk]; omega))]
   unfold ke kg
   rw [wK (by omega) (by omega)]
   rfl
 by_cases hkt : k < t
 ·have hd : decide ((k : Int) < (t : Int)) = true := by simpa using hkt
  simp only [hd, cond_true]
  by_cases h3 : 4096 < a ^ k * a
  ·have : decide (((a ^ k * a : Nat) : Int) > 4096) = true := by simp only [decide_eq_true_eq]; omega
   simp only [this, cond_true]
   rw [if_pos (show jR a f t k from .inr (.inr ⟨hkt, h3⟩))]
  ·have : decide (((a ^ k * a : Nat) : Int) > 4096) = false := by simp only [decide_eq_false_iff_not]; omega
   simp only [this, cond_false]
   rw [J4 (by omega), if_neg (show ¬ jR a f t k by unfold jR; omega)]
 ·have hd : decide ((k : Int) < (t : Int)) = false := by simp; omega
  simp only [hd, cond_false]
  rw [J4 (by omega), if_neg (show ¬ jR a f t k by unfold jR; omega)]
theorem JA {a f t k : Nat} (ha : 1 ≤ a) (hs : ¬ jR a f t k) (hk : k < t) : (uR a f (k + 1)).length ≤ 4096 ∧ syW a f (k + 1) ≤ 65536 ∧ a ^ (k + 1) ≤ 4096 := by
 unfold jR at hs
 rw [Nat.pow_succ]
 omega
variable {r : Option (List (List Int) × Int)}
theorem z4C {a f t : Nat} (ha : 1 ≤ a ∧ a ≤ 16) (hf : f ≤ 256) (ht : t ≤ 256) {r : Option (List (List Int) × Int)}
  (hr : (∃ j, j ≤ t ∧ jR a f t j) → r = some ([], 3)) (hr2 : (∀ j, j ≤ t → ¬ jR a f t j) → r = Option.bind (yW (uR a f (t + 1))) fun r => some (r.1, r.2)) :
  ∀ (m k : Nat), k ≤ t → t - k < m → (∀ j, j < k → ¬ jR a f t j) → (uR a f k).length ≤ 4096 → syW a f k ≤ 65536 → a ^ k ≤ 4096 → YP (fun s => wY (a : Int) (f : Int) (t : Int) s.1 s.2.1 s.2.2.1 s.2.2.2) m (uR a f k, exW a k, (syW a f k : Int), (k : Int)) = r
 | 0, k, _, h, _, _, _, _ => by omega
 | m + 1, k, hk, hm, hns, h1, h2, h3 => by
  rw [jx]
  dsimp only
  rw [z4B ha hf ht hk h1 h2 h3]
  by_cases hst : jR a f t k
  ·rw [if_pos hst, hr ⟨k, hk, hst⟩]
  ·rw [if_neg hst]
   by_cases hkt : k = t
   ·subst hkt
    rw [if_pos rfl, hr2 fun j hj => by
     rcases Nat.lt_or_ge j k with q | q
     ·exact hns j q
     ·rw [show j = k by omega]; exact hst]
    cases yW (uR a f (k + 1)) <;> rfl
   ·rw [if_neg hkt]
    obtain ⟨q1, q2, q3⟩ := JA ha.1 hst (by omega)
    exact z4C ha hf ht hr hr2 m (k + 1) (by omega) (by omega) (fun j hj => by
     rcases Nat.lt_or_ge j k with q | q
     ·exact hns j q
     ·rw [show j = k by omega]; exact hst) q1 q2 q3
theorem z8E {a : Int} {f t : Int} (h : 16 < a ∨ a < 1 ∨ t < 0 ∨ 256 < t) : uq a f t = some ([], if 16 < a then 3 else if a < 1 ∨ t < 0 then 1 else 3) := by
 unfold uq
 by_cases h1 : 16 < a
 ·simp [h1]
 by_cases h2 : a < 1
 ·simp [h1, h2]
 by_cases h3 : t < 0
 ·simp [h1, h2, h3]
 have h4 : 256 < t := by omega
 simp [h1, h2, h3, h4]
theorem zah {a f t : Nat} (ha : 1 ≤ a ∧ a ≤ 16) (hf : f ≤ 256) (ht : t ≤ 256) {r : Option (List (List Int) × Int)}
  (hr : (∃ j, j ≤ t ∧ jR a f t j) → r = some ([], 3)) (hr2 : (∀ j, j ≤ t → ¬ jR a f t j) → r = Option.bind (yW (uR a f (t + 1))) fun r => some (r.1, r.2)) :
  uq (a : Int) (f : Int) (t : Int) = r := by
 unfold uq
 have d1 : decide ((a : Int) > 16) = false := by simp; omega
 have d2 : decide ((a : Int) < 1) = false := by simp; omega
 have d3 : decide ((t : Int) < 0) = false := by simp
 have d4 : decide ((t : Int) > 256) = false := by simp; omega
 simp only [d1, d2, d3, d4, cond_false]
 have h := z4C ha hf ht hr hr2 JE 0 (Nat.zero_le _) (by show t - 0 < 18446744073709551616; omega) (fun j hj => by omega) (by simp [uR]) (by simp [syW]) (by simp)
 have h' : loop (fun s => wY (a : Int) (f : Int) (t : Int) s.1 s.2.1 s.2.2.1 s.2.2.2) (([] : List (List Int)), ([[]] : List (List Int)), 0, 0) = r := h
 rw [h']
 cases r <;> rfl
theorem Kh {m : Nat} {L : Nat} (hl : l.length ≤ L) (h : ∀ w ∈ l, w.length ≤ m) : ub l ≤ L * m := Nat.le_trans (z0v h) (Nat.mul_le_mul_right _ hl)
theorem YF (h : chE n l = 0) : l.length ≤ 4096 ∧ (∀ w ∈ l, w.length ≤ 256) ∧ ub l ≤ 65536 ∧ SW l ∧ (1 ≤ n ∧ n ≤ 16) ∧ ∀ w ∈ l, ∀ c ∈ w, 0 ≤ c ∧ c < n := by
 obtain ⟨h1, h2, h3⟩ := JN.1 h
 obtain ⟨q1, q2, _⟩ := KL h1
 obtain ⟨r1, _, r3⟩ := XL.1 h1
 exact ⟨q1, q2, h3, h2, r1, fun w hw => (r3 w hw).2⟩
theorem X8 (l m : List (List Int)) : ub (l ++ m) = ub l + ub m := by simp [ub]
def Wq (n : Int) (L k : Nat) (l : List (List Int)) : Prop := SW l ∧ l.length ≤ L ∧ ∀ w ∈ l, w.length ≤ k ∧ ∀ c ∈ w, 0 ≤ c ∧ c < n
theorem Wq.ch {L k : Nat}  (h : Wq n L k l) (hn : 1 ≤ n ∧ n ≤ 16) (hL : L ≤ 4096) (hk : k ≤ 256) (hLk : L * k ≤ 65536) : chE n l = 0 := by
 obtain ⟨h1, h2, h3⟩ := h
 refine JN.2 ⟨XL.2 ⟨hn, by omega, fun w hw => ⟨by have := (h3 w hw).1; omega, (h3 w hw).2⟩⟩, h1, ?_⟩
 exact Nat.le_trans (Kh h2 fun w hw => (h3 w hw).1) hLk
variable {σ : Type}
theorem yS (f : Nat → σ → σ) (s : σ) (n : Nat) : (List.range (n + 1)).foldl (fun s i => f i s) s = f n ((List.range n).foldl (fun s i => f i s) s) := by
 rw [List.range_succ, List.foldl_append]; rfl
theorem vo {f : Nat → σ → σ} {I : Nat → σ → Prop} {s : σ} (h0 : I 0 s) : ∀ (n : Nat), (∀ i s, i < n → I i s → I (i + 1) (f i s)) → I n ((List.range n).foldl (fun s i => f i s) s)
 | 0, _ => h0
 | n + 1, h => by
  rw [yS]
  exact h n _ (Nat.lt_succ_self n) (vo h0 n fun i s hi => h i s (by omega))
theorem Yh {σ α : Type} (g : α → σ → σ) (d : α) (l : List α) (s : σ) : (List.range l.length).foldl (fun s i => g ((l[i]?).getD d) s) s = l.foldl (fun s x => g x s) s := by
 have e : l = (List.range l.length).map fun i => (l[i]?).getD d := by
  apply List.ext_getElem (by simp)
  intro i h1 h2
  simp [List.getElem?_eq_getElem h1]
 have q : ((List.range l.length).map fun i => (l[i]?).getD d).foldl (fun s x => g x s) s = (List.range l.length).foldl (fun s i => g ((l[i]?).getD d) s) s := by rw [List.foldl_map]
 rw [← q, ← e]
theorem Us {σ S τ : Type} {step : S → Option (LR S τ)} (st : σ → Nat → S) (f : Nat → σ → σ) (I : Nat → σ → Prop) (n : Nat) (hn : n < 9223372036854775808) {s0 : σ} {t : τ} (h0 : I 0 s0)
  (h : ∀ i s, i < n → I i s → step (st s i) = some (.next (st (f i s) (i + 1))) ∧ I (i + 1) (f i s))
  (hd : I n ((List.range n).foldl (fun s i => f i s) s0) → step (st ((List.range n).foldl (fun s i => f i s) s0) n) = some (.done t)) : loop step (st s0 0) = some t := by
 have inv : ∀ m, m ≤ n → I m ((List.range m).foldl (fun s i => f i s) s0) := fun m hm => vo h0 m fun i s hi hI => (h i s (by omega) hI).2
 refine YB (fun m => st ((List.range m).foldl (fun s i => f i s) s0) m) n hn (fun i hi => ?_) (hd (inv n (Nat.le_refl _)))
 show step (st ((List.range i).foldl (fun s i => f i s) s0) i) = _
 rw [(h i _ hi (inv i (by omega))).1, yS]
theorem ka {i : Nat} (h : i < 9223372036854775807) : w64 ((i : Int) + 1) = ((i + 1 : Nat) : Int) := by rw [wK (by omega) (by omega)]; rfl
def un (x : List Bool) : Nat := x.countP fun b => !b
theorem z8Z {x : List Bool} {s : Nat} (h : x[s]? = some false) : un (x.set s true) < un x := by
 induction x generalizing s with
 | nil => simp at h
 | cons b x ih =>
  cases s with
  | zero => simp at h; subst h; simp [un]
  | succ s =>
   have := ih (s := s) (by simpa using h)
   unfold un at *
   rw [List.set_cons_succ, List.countP_cons, List.countP_cons]
   omega
theorem z90 : ∀ {x y : List Bool}, y.length = x.length → (∀ t : Nat, x[t]? = some true → y[t]? = some true) → un y ≤ un x
 | [], [], _, _ => Nat.le_refl _
 | a :: x, b :: y, hl, h => by
  have ih := z90 (x := x) (y := y) (by simpa using hl) fun t ht => by simpa using h (t + 1) (by simpa using ht)
  have h0 := h 0
  unfold un at *
  rw [List.countP_cons, List.countP_cons]
  cases a <;> cases b <;> simp at h0 ⊢ <;> omega
 | [], _ :: _, hl, _ => by simp at hl
 | _ :: _, [], hl, _ => by simp at hl
structure Dfs (m : z6) (P : Nat → Prop) (x y : List Bool) : Prop where
 len : y.length = x.length
 mono : ∀ t : Nat, x[t]? = some true → y[t]? = some true
 new : ∀ t : Nat, y[t]? = some true → x[t]? = some true ∨ P t ∧ ∀ i, i < kk m → 0 ≤ (E m t i).To → y[(E m t i).To.toNat]? = some true
variable {P : Nat → Prop}
theorem Dfs.refl (x : List Bool) : Dfs m P x x := ⟨rfl, fun _ h => h, fun _ h => .inl h⟩
theorem Dfs.trans {x y z : List Bool} (h : Dfs m P x y) (k : Dfs m P y z) : Dfs m P x z := {
 len := k.len.trans h.len
 mono := fun t q => k.mono t (h.mono t q)
 new := fun t q => by
  rcases k.new t q with g | g
  ·rcases h.new t g with r | ⟨r1, r2⟩
   ·exact .inl r
   ·exact .inr ⟨r1, fun i hi h0 => k.mono _ (r2 i hi h0)⟩
  ·exact .inr g }
section
variable {m : z6} (h : VM m)
include h
theorem z4c (hP : ∀ t i, P t → t < m.Rows.length → i < kk m → 0 ≤ (E m t i).To → P (E m t i).To.toNat) : ∀ (fu : Nat) (x : List Bool), x.length = m.Rows.length → un x < fu → ∀ s : Int, z6q m s → (0 ≤ s → P s.toNat) →
  ∃ y, zV fu s x m = some (y, m) ∧ Dfs m P x y ∧ (0 ≤ s → y[s.toNat]? = some true)
 | 0, x, _, hu, _, _, _ => by omega
 | fu + 1, x, hx, hu, s, hs, hPs => by
  have hk := h.kk_le
  show ∃ y, xe (zV fu) s x m = some (y, m) ∧ _
  unfold xe
  by_cases h1 : s = -1
  ·have : (s == -1) = true := by simpa using h1
   rw [this, cond_true]
   exact ⟨x, rfl, Dfs.refl x, fun q => by omega⟩
  ·have e1 : (s == -1) = false := by simpa using h1
   obtain ⟨n, rfl⟩ : ∃ n : Nat, s = n := ⟨s.toNat, by have := hs.1; omega⟩
   have hn : n < m.Rows.length := by have := hs.2; omega
   have hxn : x[n]? = some x[n] := List.getElem?_eq_getElem (by omega)
   rw [e1, cond_false, zy hxn, oB]
   by_cases hb : x[n] = true
   ·rw [hb, cond_true]
    exact ⟨x, rfl, Dfs.refl x, fun _ => by simp only [Int.toNat_natCast]; rw [hxn, hb]⟩
   ·have hb : x[n] = false := by simpa using hb
    have ⟨r, hr, hrl, hre⟩ := h.rowAt hn
    rw [hb, cond_false, oB, zy hr, oB]
    simp only [Int.toNat_natCast]
    rw [hb] at hxn
    have hu1 := z8Z hxn
    have hxl : (x.set n true).length = m.Rows.length := by simpa using hx
    have run : Ret (loop (fun s => yg (zV fu) r s.1 s.2.1 s.2.2.1 s.2.2.2.1 s.2.2.2.2) (x.set n true, m.Inputs, m.Outputs, m.Rows, 0)) fun q => q.2 = m ∧ Dfs m P (x.set n true) q.1 ∧ ∀ j, j < kk m → 0 ≤ (E m n j).To → q.1[(E m n j).To.toNat]? = some true := by
     refine jl (fun q => ∃ i : Nat, q.2 = (m.Inputs, m.Outputs, m.Rows, (i : Int)) ∧ i ≤ kk m ∧ Dfs m P (x.set n true) q.1 ∧ ∀ j, j < i → 0 ≤ (E m n j).To → q.1[(E m n j).To.toNat]? = some true) (fun q => 100 - q.2.2.2.2.toNat) ⟨0, rfl, Nat.zero_le _, Dfs.refl _, fun j hj => by omega⟩ (by show 100 - _ < _; omega) ?_
     rintro ⟨q, _⟩ ⟨i, rfl, hi, hd, hall⟩
     simp only at hd hall
     show Ret (yg (zV fu) r q m.Inputs m.Outputs m.Rows (i : Int)) _
     unfold yg
     rw [uv]
     refine ⟨fun hc => ?_, fun hc => ?_⟩
     ·have hlt : i < kk m := by simp at hc; omega
      rw [zy (hre i hlt), oB]
      have hst : z6q m (E m n i).To := by
       rcases h.edgeAt hn hlt with ⟨g, _⟩ | ⟨g1, g2, _⟩
       ·exact ⟨by omega, by have := h.len1; omega⟩
       ·exact ⟨by omega, g2⟩
      have hPn : P n := by simpa using hPs (by omega)
      have ⟨y, y1, y2, y3⟩ := z4c hP fu q (by rw [hd.len]; exact hxl) (by have := z90 hd.len hd.mono; omega) (E m n i).To hst (fun h0 => hP n i hPn hn hlt h0)
      have y1' : zV fu (E m n i).To q (z6.mk m.Inputs m.Outputs m.Rows) = some (y, m) := y1
      rw [y1', oB, zL, ka (by omega)]
      refine ⟨⟨i + 1, rfl, hlt, hd.trans y2, fun j hj h0 => ?_⟩, by simp only; omega⟩
      by_cases e : j = i
      ·subst e; exact y3 h0
      ·exact y2.mono _ (hall j (by omega) h0)
     ·have : i = kk m := by simp at hc; omega
      subst this
      rw [zL]
      exact ⟨rfl, hd, hall⟩
    have ⟨⟨y, m'⟩, e, hm, hd, hall⟩ := run
    simp only at hm hd hall
    subst hm
    rw [e]
    refine ⟨y, rfl, ?_, fun _ => hd.mono _ ((Xz (by omega)).2 (.inl rfl))⟩
    refine ⟨by rw [hd.len]; simp, fun t ht => hd.mono t ((Xz (by omega)).2 (.inr ht)), fun t ht => ?_⟩
    rcases hd.new t ht with g | g
    ·rcases (Xz (by omega)).1 g with rfl | g
     ·exact .inr ⟨by simpa using hPs (by omega), hall⟩
     ·exact .inl g
    ·exact .inr g
omit h in
theorem Qh (l : List Bool) (hl : l.length < 4611686018427387904) : yx l false = some (!(l.all id)) := by
 unfold yx w8
 have hfs : ∀ (l : List Bool) (k : Nat), (yu (fun i x => if x = true then none else some ((i : Nat) : Int)) l k = none ∧ l.all id = true) ∨ ∃ i : Nat, yu (fun i x => if x = true then none else some ((i : Nat) : Int)) l k = some (i : Int) ∧ l.all id = false := by
  intro l
  induction l with
  | nil => intro k; exact .inl ⟨rfl, rfl⟩
  | cons x l ih =>
   intro k
   simp only [yu, List.all_cons]
   cases x with
   | true => simpa using ih (k + 1)
   | false => exact .inr ⟨k, by simp, by simp⟩
 rw [bdT (vN l hl (step := fun s => y8 l false s) (fun i x => if x = true then none else some ((i : Nat) : Int)) ?_ ?_)]
 ·rcases hfs l 0 with ⟨h1, h2⟩ | ⟨i, h1, h2⟩
  ·rw [h1, h2]; rfl
  ·rw [h1, h2]; simp [oS]
 ·intro i x hx
  have hi := (List.getElem?_eq_some_iff.1 hx).1
  unfold y8
  rw [decide_eq_true (by omega), cond_true, zy hx, oB]
  cases x <;> rfl
 ·unfold y8
  rw [decide_eq_false (by omega), cond_false]
theorem JJ : Ret (wk m) fun r => r.2 = 0 ∧ (r.1 = true ↔ ∀ t, t < m.Rows.length → Rch m t) := by
 have l1 := h.len1
 have l64 := h.len64
 unfold wk
 rw [JM, z2a h, oB, bne_self_eq_false, cond_false, gdT (by omega)]
 have e0 : ((m.Rows.length : Nat) : Int).toNat = m.Rows.length := by simp
 rw [e0]
 have hun : un (List.replicate m.Rows.length false) < JE := by
  have : un (List.replicate m.Rows.length false) ≤ (List.replicate m.Rows.length false).length := List.countP_le_length
  rw [List.length_replicate] at this
  show _ < 18446744073709551616
  omega
 have hP : ∀ t i, Rch m t → t < m.Rows.length → i < kk m → 0 ≤ (E m t i).To → Rch m (E m t i).To.toNat := fun t i ht _ hi h0 => rch_step ht hi h0
 have ⟨y, y1, y2, y3⟩ := z4c h hP JE (List.replicate m.Rows.length false) (by simp) hun 0 ⟨by omega, by omega⟩ (fun _ => ⟨[], by simp [Wd], rfl⟩)
 have hyl : y.length = m.Rows.length := by rw [y2.len]; simp
 have no : ∀ t : Nat, (List.replicate m.Rows.length false)[t]? ≠ some true := fun t q => by
  rw [List.getElem?_replicate] at q
  split at q <;> cases q
 rw [y1, oB, Qh y (by omega), oB, zL]
 refine ⟨rfl, ?_⟩
 rw [Bool.not_not, List.all_eq_true]
 have clo : ∀ (u : List Nat) (t : Nat), Wd (kk m) u → aft m 0 u = (t : Int) → y[t]? = some true := by
  intro u
  generalize hlen : u.length = n
  induction n generalizing u with
  | zero =>
   intro t _ e
   rw [List.length_eq_zero_iff.1 hlen] at e
   have : t = 0 := by have : (0 : Int) = t := e; omega
   subst this
   exact y3 (by omega)
  | succ n ih =>
   intro t hu e
   have hne : u ≠ [] := by intro q; rw [q] at hlen; simp at hlen
   have hsplit := List.dropLast_concat_getLast hne
   have hu' : Wd (kk m) u.dropLast := fun i hi => hu i (List.dropLast_subset _ hi)
   have hi : u.getLast hne < kk m := hu _ (List.getLast_mem hne)
   have h2 := (Yv m u.dropLast 0 (u.getLast hne)).2
   rw [hsplit, e] at h2
   have hin := QS h u.dropLast 0 ⟨by omega, by omega⟩ hu'
   by_cases hneg : aft m 0 u.dropLast < 0
   ·exfalso
    unfold nxE at h2
    rw [if_pos hneg] at h2
    simp at h2
   ·obtain ⟨s, hs⟩ : ∃ s : Nat, aft m 0 u.dropLast = s := ⟨(aft m 0 u.dropLast).toNat, by omega⟩
    have hy := ih u.dropLast (by simp [hlen]) s hu' hs
    rw [hs, Zu] at h2
    rcases y2.new s hy with g | ⟨_, g⟩
    ·exact absurd g (no s)
    ·have := g _ hi (by omega)
     rw [← h2] at this
     simpa using this
 constructor
 ·intro q t ht
  have hx : y[t]? = some y[t] := List.getElem?_eq_getElem (by omega)
  have := q _ (List.mem_of_getElem? hx)
  rw [show y[t] = true from this] at hx
  rcases y2.new t hx with g | ⟨g, _⟩
  ·exact absurd g (no t)
  ·exact g
 ·intro q b hb
  have ⟨t, ht⟩ := List.mem_iff_getElem?.1 hb
  have htl := (List.getElem?_eq_some_iff.1 ht).1
  have ⟨u, hu, e⟩ := q t (by omega)
  have := clo u t hu e
  rw [ht] at this
  cases this
  rfl
end
theorem z4H (k : Nat) : ∀ n, GG k (n + 1) = k * GG k n + 1
 | 0 => by simp [GG]
 | n + 1 => by
  have ih := z4H k n
  show GG k (n + 1) + k ^ (n + 1) = k * (GG k n + k ^ n) + 1
  rw [ih, Nat.mul_add, Nat.pow_succ, Nat.mul_comm (k ^ n) k]
  omega
theorem z7O (k : Nat) : ∀ u : List Nat, rv k u = rk k u.reverse
 | [] => by simp [rv, rk, GG, Je]
 | i :: u => by
  have ih := z7O k u
  unfold rk at ih ⊢
  rw [List.reverse_reverse, List.length_reverse] at ih ⊢
  simp [rv, List.length_cons, Je, ih, z4H, Nat.add_mul]
  rw [Nat.mul_comm (GG k u.length) k, Nat.mul_comm (Je k u) k]
  omega
def nx1 (m : z6) (s i : Nat) : Option Nat := if 0 ≤ (E m s i).To then some (E m s i).To.toNat else none
abbrev nob : Nat → Nat → Bool := fun _ _ => false
theorem z1B : ∀ (N : Nat) (l : List Nat), l.Nodup → (∀ t ∈ l, t < N) → l.length ≤ N
 | 0, l, _, h => by
  cases l with
  | nil => exact Nat.le_refl _
  | cons x l => have := h x (by simp); omega
 | N + 1, l, hn, h => by
  have ih := z1B N (l.erase N) (hn.erase N) fun t ht => by
   have h1 := h t (List.mem_of_mem_erase ht)
   have h2 : t ≠ N := fun e => by subst e; exact absurd ht (hn.not_mem_erase)
   omega
  by_cases hm : N ∈ l
  ·rw [List.length_erase_of_mem hm] at ih; omega
  ·rw [List.erase_of_not_mem hm] at ih; omega
variable {L : List (Nat × List Nat)}{is : List Bool}
section
variable {m : z6} (h : VM m)
include h
theorem Yz : ∀ (u : List Nat) (q : Nat), z4G (kk m) nob (nx1 m) 0 u q → Wd (kk m) u.reverse ∧ aft m 0 u.reverse = (q : Int) ∧ q < m.Rows.length
 | [], q, e => by
  have e : q = 0 := e
  subst e
  exact ⟨by simp [Wd], rfl, h.len1⟩
 | i :: u, q, ⟨p, hp, hi, _, hn⟩ => by
  have ⟨g1, g2, g3⟩ := Yz u p hp
  unfold nx1 at hn
  split at hn
  ·rename_i h0
   cases hn
   have q2 := (Yv m u.reverse 0 i).2
   rw [g2, Zu] at q2
   rw [List.reverse_cons]
   refine ⟨fun j hj => ?_, by rw [q2]; omega, ?_⟩
   ·rcases List.mem_append.1 hj with g | g
    ·exact g1 j g
    ·rw [List.mem_singleton.1 g]; exact hi
   ·rcases h.edgeAt g3 hi with ⟨g, _⟩ | ⟨_, g, _⟩ <;> omega
  ·cases hn
theorem JZ : ∀ (u : List Nat) (q : Nat), Wd (kk m) u.reverse → aft m 0 u.reverse = (q : Int) → z4G (kk m) nob (nx1 m) 0 u q
 | [], q, _, e => by have : (0 : Int) = q := e; show q = 0; omega
 | i :: u, q, hu, e => by
  rw [List.reverse_cons] at hu e
  have hu' : Wd (kk m) u.reverse := fun j hj => hu j (by simp [List.mem_reverse.1 hj])
  have hi : i < kk m := hu i (by simp)
  have q2 := (Yv m u.reverse 0 i).2
  rw [e] at q2
  have hin := QS h u.reverse 0 ⟨by omega, by have := h.len1; omega⟩ hu'
  by_cases hneg : aft m 0 u.reverse < 0
  ·exfalso
   unfold nxE at q2
   rw [if_pos hneg] at q2
   simp at q2
  ·obtain ⟨s, hs⟩ : ∃ s : Nat, aft m 0 u.reverse = s := ⟨(aft m 0 u.reverse).toNat, by omega⟩
   rw [hs, Zu] at q2
   refine ⟨s, JZ u s hu' hs, hi, rfl, ?_⟩
   unfold nx1
   rw [if_pos (by omega), ← q2]
   simp
def zao (L : List (Nat × List Nat)) (a : Nat) (x : zg) (c : Nat × List Nat) : Prop :=
 x.state_ = (c.1 : Int) ∧ ((c.2 = [] ∧ x.from_ = -1) ∨ ∃ (i : Nat) (u : List Nat) (p j : Nat), c.2 = i :: u ∧ x.input_ = (i : Int) ∧ x.from_ = (p : Int) ∧ j < a ∧ L[j]? = some (p, u))
structure Que (m : z6) (L : List (Nat × List Nat)) (a : Nat) (seen : List Bool) (Q : List zg) : Prop where
 len : seen.length = m.Rows.length
 seen : ∀ t : Nat, seen[t]? = some true ↔ ∃ u, (t, u) ∈ L
 nodup : (L.map (·.1)).Nodup
 qlen : Q.length + a = L.length
 arr : ∀ (j : Nat) (x : zg), Q[j]? = some x → ∃ c, L[a + j]? = some c ∧ zao L (a + j) x c
theorem z0D {a : Nat} {i : Nat} (hb : Bfs (kk m) nob (nx1 m) 0 L a i) (hn : (L.map (·.1)).Nodup) : L.length ≤ m.Rows.length := by
 have := z1B m.Rows.length (L.map (·.1)) hn fun t ht => by
  obtain ⟨c, hc, rfl⟩ := List.mem_map.1 ht
  exact (Yz h c.2 c.1 (hb.path c hc)).2.2
 simpa using this
theorem z7Q {a : Nat} {c : Nat × List Nat} {seen : List Bool} {Q : List zg} {σ : Type} (yr : σ × Bool) (x : zg) (hc : L[a]? = some c) (hx : x.state_ = (c.1 : Int))
  (hb : Bfs (kk m) nob (nx1 m) 0 L a 0) (hq : Que m L (a + 1) seen Q) {r : List z8} (hr : r.length = kk m) (hre : ∀ i, i < kk m → r[i]? = some (E m c.1 i)) :
  Ret (loop (fun s => xg x yr r s.1 s.2.1 s.2.2) (seen, Q, 0)) fun t => t.1 = yr.1 ∧ ∃ L', L.length ≤ L'.length ∧ L'.take L.length = L ∧ Bfs (kk m) nob (nx1 m) 0 L' a (kk m) ∧ Que m L' (a + 1) t.2.1 t.2.2 := by
 have hk := h.kk_le
 have hal := (List.getElem?_eq_some_iff.1 hc).1
 have hcN := (Yz h c.2 c.1 (hb.path c (List.mem_of_getElem? hc))).2.2
 refine jl (fun s => ∃ (i : Nat) (L' : List (Nat × List Nat)), s.2.2 = (i : Int) ∧ i ≤ kk m ∧ L.length ≤ L'.length ∧ L'.take L.length = L ∧ Bfs (kk m) nob (nx1 m) 0 L' a i ∧ Que m L' (a + 1) s.1 s.2.1) (fun s => 100 - s.2.2.toNat) ⟨0, L, rfl, Nat.zero_le _, Nat.le_refl _, List.take_length, hb, hq⟩ (by show 100 - _ < _; omega) ?_
 rintro ⟨seen', Q', _⟩ ⟨i, L', rfl, hi, hll, htk, hb', hq'⟩
 simp only at hq'
 show Ret (xg x yr r seen' Q' (i : Int)) _
 unfold xg
 rw [uv]
 refine ⟨fun h1 => ?_, fun h1 => ?_⟩
 ·have hlt : i < kk m := by simp at h1; omega
  have hc' : L'[a]? = some c := by
   have : (L'.take L.length)[a]? = some c := by rw [htk]; exact hc
   rwa [List.getElem?_take, if_pos hal] at this
  rw [zy (hre i hlt), oB]
  have old : (∀ q, nx1 m c.1 i = some q → ∃ b ∈ L', b.1 = q) → Ret (yd (σ := σ) (i : Int) seen' Q') (LRP (fun s' => (∃ (i : Nat) (L' : List (Nat × List Nat)), s'.2.2 = (i : Int) ∧ i ≤ kk m ∧ L.length ≤ L'.length ∧ L'.take L.length = L ∧ Bfs (kk m) nob (nx1 m) 0 L' a i ∧ Que m L' (a + 1) s'.1 s'.2.1) ∧ 100 - s'.2.2.toNat < 100 - ((i : Int)).toNat) (fun t => t.1 = yr.1 ∧ ∃ L', L.length ≤ L'.length ∧ L'.take L.length = L ∧ Bfs (kk m) nob (nx1 m) 0 L' a (kk m) ∧ Que m L' (a + 1) t.2.1 t.2.2)) := by
   intro hn
   unfold yd
   rw [zL, ka (by omega)]
   exact ⟨⟨i + 1, L', rfl, hlt, hll, htk, hb'.old hc' hlt rfl hn, hq'⟩, by simp only; omega⟩
  rcases h.edgeAt hcN hlt with ⟨g1, _⟩ | ⟨g1, g2, _⟩
  ·have : ((E m c.1 i).To != -1) = false := by rw [g1]; rfl
   rw [this, cond_false]
   exact old fun q hq => by unfold nx1 at hq; rw [if_neg (by omega)] at hq; cases hq
  ·have e1 : ((E m c.1 i).To != -1) = true := by simp; omega
   obtain ⟨q, hq0⟩ : ∃ q : Nat, (E m c.1 i).To = q := ⟨(E m c.1 i).To.toNat, by omega⟩
   have hqN : q < m.Rows.length := by omega
   have hnx : nx1 m c.1 i = some q := by unfold nx1; rw [if_pos g1, hq0]; simp
   have hsq : seen'[q]? = some seen'[q]! := by
    have : q < seen'.length := by rw [hq'.len]; exact hqN
    rw [List.getElem?_eq_getElem this]; simp [this]
   rw [e1, cond_true, hq0, zy hsq, oB]
   by_cases hs : seen'[q]! = true
   ·rw [hs]
    simp only [Bool.not_true, cond_false]
    refine old fun q' hq2 => ?_
    rw [hnx] at hq2
    cases hq2
    rw [hs] at hsq
    have ⟨u, hu⟩ := (hq'.seen q).1 hsq
    exact ⟨_, hu, rfl⟩
   ·have hs : seen'[q]! = false := by simpa using hs
    have hnot : ∀ u, (q, u) ∉ L' := fun u hu => by
     have := (hq'.seen q).2 ⟨u, hu⟩
     rw [hsq, hs] at this
     cases this
    have hL' := z0D h hb' hq'.nodup
    have hN := h.len64
    have hql := hq'.qlen
    rw [hs]
    simp only [Bool.not_false, cond_true]
    rw [oB, gdT (by simp; omega)]
    unfold yd
    rw [zL, ka (by omega)]
    refine ⟨⟨i + 1, L' ++ [(q, i :: c.2)], rfl, hlt, by simp; omega, by rw [List.take_append_of_le_length hll, htk], hb'.new hc' hlt rfl hnx, ?_⟩, by simp only; omega⟩
    refine ⟨by simp [hq'.len], fun t => ?_, ?_, by simp; omega, fun j y hy => ?_⟩
    ·simp only [Int.toNat_natCast]
     rw [Xz (by rw [hq'.len]; exact hqN), hq'.seen]
     constructor
     ·rintro (rfl | ⟨u, hu⟩)
      ·exact ⟨_, List.mem_append_right _ (List.mem_singleton.2 rfl)⟩
      ·exact ⟨u, List.mem_append_left _ hu⟩
     ·rintro ⟨u, hu⟩
      rcases List.mem_append.1 hu with g | g
      ·exact .inr ⟨u, g⟩
      ·have := List.mem_singleton.1 g
       cases this
       exact .inl rfl
    ·rw [List.map_append, List.nodup_append]
     refine ⟨hq'.nodup, by simp, fun t ht s hs' e => ?_⟩
     obtain ⟨b, hb1, rfl⟩ := List.mem_map.1 ht
     have hs2 : s = q := by simpa using hs'
     exact hnot b.2 (by rw [← hs2, ← e]; exact hb1)
    ·rcases Nat.lt_or_ge j Q'.length with g | g
     ·rw [List.getElem?_append_left g] at hy
      have ⟨d, d1, d2, d3⟩ := hq'.arr j y hy
      have dl := (List.getElem?_eq_some_iff.1 d1).1
      refine ⟨d, by rw [List.getElem?_append_left dl]; exact d1, d2, ?_⟩
      rcases d3 with d3 | ⟨i', u', p, j', e1, e2, e3, e4, e5⟩
      ·exact .inl d3
      ·exact .inr ⟨i', u', p, j', e1, e2, e3, e4, by rw [List.getElem?_append_left (List.getElem?_eq_some_iff.1 e5).1]; exact e5⟩
     ·have hjl := (List.getElem?_eq_some_iff.1 hy).1
      simp at hjl
      have hj : j = Q'.length := by omega
      subst hj
      simp at hy
      subst hy
      refine ⟨(q, i :: c.2), by rw [List.getElem?_append_right (by omega), show a + 1 + Q'.length - L'.length = 0 by omega]; rfl, rfl, .inr ⟨i, c.2, c.1, a, rfl, rfl, hx, by omega, ?_⟩⟩
      rw [List.getElem?_append_left (by omega), hc']
 ·have : i = kk m := by simp at h1; omega
  subst this
  rw [zL]
  exact ⟨rfl, L', hll, htk, hb', hq'⟩
structure zak (m : z6) (L : List (Nat × List Nat)) (a : Nat) (l : List (List Int)) (is : List Bool) : Prop where
 l1 : l.length = m.Rows.length
 l2 : is.length = m.Rows.length
 got : ∀ (j : Nat) (c : Nat × List Nat), j < a → L[j]? = some c → is[c.1]? = some true ∧ l[c.1]? = some (c.2.reverse.map Int.ofNat)
 rest : ∀ t : Nat, t < m.Rows.length → (∀ (j : Nat) (c : Nat × List Nat), j < a → L[j]? = some c → c.1 ≠ t) → is[t]? = some false ∧ l[t]? = some []
omit h in
theorem za8 (w : List Int) (hw : w.length ≤ 4294967296) : yk w = some w := z29 w hw
theorem z5y {a : Nat}   (hp : zak m L a l is) {c : Nat × List Nat} (hc : L[a]? = some c) {x : zg} (hx : zao L a x c) (hn : (L.map (·.1)).Nodup) (hb : Bfs (kk m) nob (nx1 m) 0 L a 0) :
  ∃ l' is', xi l is x = some (.next (l', is')) ∧ zak m L (a + 1) l' is' := by
 have hal := (List.getElem?_eq_some_iff.1 hc).1
 have hcN := (Yz h c.2 c.1 (hb.path c (List.mem_of_getElem? hc))).2.2
 have ⟨q1, q2⟩ := hx
 have hne : ∀ (j : Nat) (d : Nat × List Nat), j < a → L[j]? = some d → d.1 ≠ c.1 := fun j d hj hd e => by
  have h1 : (L.map (·.1))[j]? = some d.1 := by rw [List.getElem?_map, hd]; rfl
  have h2 : (L.map (·.1))[a]? = some c.1 := by rw [List.getElem?_map, hc]; rfl
  rw [← e] at h2
  have := ((List.getElem?_inj (List.getElem?_eq_some_iff.1 h1).1 hn).1 (h1.trans h2.symm))
  omega
 have ⟨r1, r2⟩ := hp.rest c.1 hcN hne
 have main : ∀ w : List Int, w = c.2.reverse.map Int.ofNat → zak m L (a + 1) (l.set c.1 w) (is.set c.1 true) := by
  intro w hw
  refine ⟨by simp [hp.l1], by simp [hp.l2], fun j d hj hd => ?_, fun t ht hall => ?_⟩
  ·by_cases e : j = a
   ·subst e
    rw [hc] at hd
    cases hd
    rw [List.getElem?_set_self (by rw [hp.l2]; exact hcN), List.getElem?_set_self (by rw [hp.l1]; exact hcN), hw]
    exact ⟨rfl, rfl⟩
   ·have hne' := hne j d (by omega) hd
    rw [List.getElem?_set_ne (Ne.symm hne'), List.getElem?_set_ne (Ne.symm hne')]
    exact hp.got j d (by omega) hd
  ·have hne' : c.1 ≠ t := hall a c (by omega) hc
   rw [List.getElem?_set_ne hne', List.getElem?_set_ne hne']
   exact hp.rest t ht fun j d hj hd => hall j d (by omega) hd
 unfold xi
 rw [q1, zy r1, oB]
 simp [Int.toNat_natCast]
 rcases q2 with ⟨q2, q3⟩ | ⟨i, u, p, j, q2, q3, q4, q5, q6⟩
 ·have : (x.from_ != -1) = false := by rw [q3]; rfl
  rw [this, cond_false]
  refine ⟨l, is.set c.1 true, rfl, ?_⟩
  have := main [] (by rw [q2]; rfl)
  have e : l.set c.1 [] = l := by
   apply List.ext_getElem?
   intro t
   by_cases e : t = c.1
   ·subst e; rw [List.getElem?_set_self (by rw [hp.l1]; exact hcN), r2]
   ·rw [List.getElem?_set_ne (Ne.symm e)]
  rwa [e] at this
 ·have : (x.from_ != -1) = true := by rw [q4]; simp <;> omega
  have ⟨g1, g2⟩ := hp.got j (p, u) q5 q6
  have hul : u.length ≤ j := hb.short j (p, u) q6
  have hjL := (List.getElem?_eq_some_iff.1 q6).1
  have hLN := z0D h hb hn
  have hN := h.len64
  rw [this, cond_true, q4, zy g2, oB, za8 _ (by simp; omega), oB, gdT (by simp; omega), JL, oB, zy r2, oB]
  refine ⟨_, _, rfl, main _ ?_⟩
  rw [q2, q3]
  simp
theorem QX : Ret (jy m 0) (z16 m) := by
 have l1 := h.len1
 have hN := h.len64
 have e0 : ((m.Rows.length : Nat) : Int).toNat = m.Rows.length := by simp
 unfold jy qA
 rw [gdT (by omega), gdT (by omega), oB, e0, jm]
 refine Ret.mono (Q := fun t => ∃ l is, t = .next (l, is) ∧ z16 m (l, is)) ?_ ?_
 ·dsimp only
  unfold v8
  have hrep : (List.replicate m.Rows.length false)[(0 : Nat)]? = some false := by rw [List.getElem?_replicate, if_pos (by omega)]
  rw [gdT (by omega), e0, jm, show idx (List.replicate m.Rows.length false) 0 = some false from hrep, zL, jm]
  refine Ret.mono (Q := fun t => ∃ l is, t = .next (l, is) ∧ z16 m (l, is)) ?_ fun t ht => zL.2 ht
  have hst0 : Que m [(0, [])] 0 ((List.replicate m.Rows.length false).set (0 : Int).toNat true) [zg.mk 0 (-1) (-1)] := by
   refine ⟨by simp, fun t => ?_, by simp, by simp, fun j x hx => ?_⟩
   ·show ((List.replicate m.Rows.length false).set 0 true)[t]? = some true ↔ _
    rw [Xz (by simp; omega)]
    constructor
    ·rintro (rfl | q)
     ·exact ⟨[], by simp⟩
     ·rw [List.getElem?_replicate] at q; split at q <;> cases q
    ·rintro ⟨u, hu⟩
     simp at hu
     exact .inl hu.1
   ·have hj := (List.getElem?_eq_some_iff.1 hx).1
    simp at hj
    subst hj
    simp at hx
    subst hx
    exact ⟨(0, []), rfl, rfl, .inl ⟨rfl, rfl⟩⟩
  have hp0 : zak m [(0, [])] 0 (List.replicate m.Rows.length ([] : List Int)) (List.replicate m.Rows.length false) := by
   refine ⟨by simp, by simp, fun j c hj => by omega, fun t ht _ => ?_⟩
   rw [List.getElem?_replicate, List.getElem?_replicate, if_pos ht, if_pos ht]
   exact ⟨rfl, rfl⟩
  refine jl (fun s => ∃ (a : Nat) (L : List (Nat × List Nat)) (l : List (List Int)) (is : List Bool), s.1 = .next (l, is) ∧ a ≤ L.length ∧ Bfs (kk m) nob (nx1 m) 0 L a 0 ∧ Que m L a s.2.1 s.2.2 ∧ zak m L a l is) (fun s => match s.1 with | .next (l, is) => 200 - (is.countP id) | .done _ => 0) ⟨0, _, _, _, rfl, by simp, Bfs.start, hst0, hp0⟩ (by show 200 - _ < _; omega) ?_
  rintro ⟨sg, seen, Q⟩ ⟨a, L, l, is, hsg, haL, hb, hq, hp⟩
  simp only at hsg hq
  subst hsg
  have hLN := z0D h hb hq.nodup
  have hql := hq.qlen
  show Ret (xS m (yOf (fun s x => xi s.1 s.2 x)) (.next (l, is)) seen Q) _
  unfold xS
  rw [uv]
  refine ⟨fun h1 => ?_, fun h1 => ?_⟩
  ·have hQ : 0 < Q.length := by simp at h1; omega
   have hx0 : Q[0]? = some Q[0] := List.getElem?_eq_getElem hQ
   have ⟨c, c1, c2⟩ := hq.arr 0 _ hx0
   rw [Nat.add_zero] at c1 c2
   have hal := (List.getElem?_eq_some_iff.1 c1).1
   have hcN := (Yz h c.2 c.1 (hb.path c (List.mem_of_getElem? c1))).2.2
   have ⟨l', is', y1, y2⟩ := z5y h hp c1 c2 hq.nodup hb
   have yv : yOf (fun (s : List (List Int) × List Bool) x => xi s.1 s.2 x) (.next (l, is)) Q[0] = some (.next (l', is'), true) := by
    unfold yOf
    simp only
    rw [y1]
   have ⟨r, hr, hrl, hre⟩ := h.rowAt hcN
   have hs0 := c2.1
   rw [show idx Q 0 = some Q[0] from hx0, oB, gdT (by omega), yv, oB]
   simp only [Bool.not_true, cond_false]
   rw [hs0, zy hr, oB, jm]
   have hq' : Que m L (a + 1) seen (Q.drop 1) := by
    refine ⟨hq.len, hq.seen, hq.nodup, by rw [List.length_drop]; omega, fun j x hx => ?_⟩
    rw [List.getElem?_drop] at hx
    have := hq.arr (1 + j) x hx
    rwa [show a + (1 + j) = a + 1 + j by omega] at this
   refine (z7Q h (σ := LR (List (List Int) × List Bool) Empty) (LR.next (l', is'), true) Q[0] c1 hs0 hb hq' hrl hre).mono ?_
   rintro ⟨sg', seen', Q'⟩ ⟨e1, L', g1, g2, g3, g4⟩
   simp only at e1 g4
   rw [zL]
   have same : ∀ j, j < L.length → L'[j]? = L[j]? := fun j hj => by
    have : (L'.take L.length)[j]? = L[j]? := by rw [g2]
    rwa [List.getElem?_take, if_pos hj] at this
   have hal' : a < L'.length := by omega
   refine ⟨⟨a + 1, L', l', is', e1, hal', g3.step hal', g4, ?_⟩, ?_⟩
   ·refine ⟨y2.l1, y2.l2, fun j d hj hd => y2.got j d hj (by rw [← same j (by omega)]; exact hd), fun t ht hall => y2.rest t ht fun j d hj hd => hall j d hj (by rw [same j (by omega)]; exact hd)⟩
   ·subst e1
    have hfalse : is[c.1]? = some false := (hp.rest c.1 hcN fun j d hj hd e => by
     have h1 : (L.map (·.1))[j]? = some d.1 := by rw [List.getElem?_map, hd]; rfl
     have h2 : (L.map (·.1))[a]? = some c.1 := by rw [List.getElem?_map, c1]; rfl
     rw [← e] at h2
     have := ((List.getElem?_inj (List.getElem?_eq_some_iff.1 h1).1 hq.nodup).1 (h1.trans h2.symm))
     omega).1
    have hset : is' = is.set c.1 true := by
     unfold xi at y1
     rw [hs0, zy hfalse, oB] at y1
     simp only [Int.toNat_natCast] at y1
     rcases y4 y1 with ⟨_, y1⟩ | ⟨_, y1⟩
     ·have ⟨_, _, y1⟩ := zh y1
      have ⟨_, _, y1⟩ := zh y1
      have ⟨_, y1⟩ := gdE y1
      have ⟨_, _, y1⟩ := zh y1
      have ⟨_, _, y1⟩ := zh y1
      cases y1; rfl
     ·cases y1; rfl
    subst hset
    have hcl : c.1 < is.length := by rw [hp.l2]; exact hcN
    have cnt : (is.set c.1 true).countP id = is.countP id + 1 := by
     rw [List.countP_set hcl]
     have : is[c.1] = false := by rw [List.getElem?_eq_getElem hcl] at hfalse; exact Option.some.inj hfalse
     simp [this]
    have cle : (is.set c.1 true).countP id ≤ (is.set c.1 true).length := List.countP_le_length
    rw [List.length_set, hp.l2] at cle
    show 200 - (is.set c.1 true).countP id < 200 - is.countP id
    omega
  ·have hQ : Q.length = 0 := by simp at h1; simp [h1]
   have ha : a = L.length := by omega
   rw [zL]
   refine ⟨l, is, rfl, hp.l1, hp.l2, fun t ht => ?_⟩
   have atEnd : ∀ c, L[a]? = some c → False := fun c hc => by have := (List.getElem?_eq_some_iff.1 hc).1; omega
   by_cases hex : ∃ u, (t, u) ∈ L
   ·have ⟨u, hu⟩ := hex
    have ⟨j, hj⟩ := List.getElem?_of_mem hu
    have hjl := (List.getElem?_eq_some_iff.1 hj).1
    have ⟨g1, g2⟩ := hp.got j (t, u) (by omega) hj
    have ⟨p1, p2, p3⟩ := Yz h u t (hb.path _ hu)
    refine .inl ⟨g1, u.reverse, g2, p1, ?_, p2, fun v hv e => ?_⟩
    ·rw [List.length_reverse]
     have : u.length ≤ j := hb.short j (t, u) hj
     omega
    ·have ⟨j2, b, b1, b2, b3⟩ := hb.reach v.reverse t (JZ h v.reverse t (by rw [List.reverse_reverse]; exact hv) (by rw [List.reverse_reverse]; exact e)) fun c hc => (atEnd c hc).elim
     have hb2 : b.2 = u := by
      have h1 : (L.map (·.1))[j]? = some t := by rw [List.getElem?_map, hj]; rfl
      have h2 : (L.map (·.1))[j2]? = some t := by rw [List.getElem?_map, b1]; exact congrArg some b2
      have := ((List.getElem?_inj (List.getElem?_eq_some_iff.1 h1).1 hq.nodup).1 (h1.trans h2.symm))
      subst this
      rw [hj] at b1
      cases b1; rfl
     rw [hb2, z7O, z7O, List.reverse_reverse] at b3
     exact b3
   ·refine .inr ⟨(hp.rest t ht fun j c hj hc e => hex ⟨c.2, by rw [← e]; exact List.mem_of_getElem? hc⟩).1, fun v hv e => ?_⟩
    have ⟨j2, b, b1, b2, _⟩ := hb.reach v.reverse t (JZ h v.reverse t (by rw [List.reverse_reverse]; exact hv) (by rw [List.reverse_reverse]; exact e)) fun c hc => (atEnd c hc).elim
    exact hex ⟨b.2, by rw [← b2]; exact List.mem_of_getElem? b1⟩
 ·rintro t ⟨l, is, rfl, ha⟩
  simp only
  unfold qz
  exact zL.2 ha
theorem z0p : Ret (qJ m) fun r => r.2.2 = 0 ∧ z16 m (r.1, r.2.1) := by
 unfold qJ
 rw [JM, z2a h, oB, bne_self_eq_false, cond_false, jm]
 exact (QX h).mono fun r hr => zL.2 ⟨rfl, hr⟩
end
structure COk (m : z6) (c : z7) : Prop where
 st : c.States.length = m.Rows.length
 ed : c.Edges.length = m.Rows.length
 row : ∀ (s : Nat) (e : List Bool), c.Edges[s]? = some e → e.length = kk m
def setS (c : z7) (s : Nat) : z7 := ⟨c.States.set s true, c.Edges⟩
def setE (c : z7) (s i : Nat) : z7 := ⟨c.States, c.Edges.set s (((c.Edges[s]?).getD []).set i true)⟩
section
variable {m : z6} {c : z7}
theorem COk.setS (h : COk m c) (s : Nat) : COk m (setS c s) := ⟨by simp [Own.setS, h.st], h.ed, h.row⟩
theorem COk.rowAt (h : COk m c) {s : Nat} (hs : s < m.Rows.length) : ∃ e, c.Edges[s]? = some e ∧ e.length = kk m := by
 have hs' : s < c.Edges.length := by rw [h.ed]; exact hs
 exact ⟨_, List.getElem?_eq_getElem hs', h.row s _ (List.getElem?_eq_getElem hs')⟩
theorem COk.setE (h : COk m c)  (hs : s < m.Rows.length) : COk m (setE c s i) := by
 refine ⟨h.st, by simp [Own.setE, h.ed], fun t e he => ?_⟩
 obtain ⟨r, h1, h2⟩ := h.rowAt hs
 simp only [Own.setE, h1, Option.getD_some] at he
 rw [List.getElem?_set] at he
 split at he
 ·split at he
  ·cases he; simpa using h2
  ·cases he
 ·exact h.row t e he
theorem COk.stAt (h : COk m c) {s : Nat} (hs : s < m.Rows.length) : ∃ b, c.States[s]? = some b := ⟨_, List.getElem?_eq_getElem (by rw [h.st]; exact hs)⟩
end
def Qe (m : z6) (w : List Nat) (s : Int) (k : Nat) (c : z7) : z7 :=
 match w[k]? with
 | some i => if (E m s.toNat i).To ≠ -1 then setE (setS c s.toNat) s.toNat i else setS c s.toNat
 | none => setS c s.toNat
def kx (m : z6) (w : List Nat) (k : Nat) (c : z7) : z7 :=
 if aft m 0 (w.take k) = -1 then c else Qe m w (aft m 0 (w.take k)) k c
def z2K (m : z6) (w : List Nat) (c : z7) : z7 := (List.range (w.length + 1)).foldl (fun c k => kx m w k c) c
def z4g (m : z6) (l : List (List Nat)) (c : z7) : z7 := l.foldl (fun c w => z2K m w c) c
def W7 (m : z6) : z7 := ⟨List.replicate m.Rows.length false, List.replicate m.Rows.length (List.replicate (kk m) false)⟩
variable {c : z7}
section
variable {m : z6} (h : VM m)
include h
omit h in
theorem Wv : COk m (W7 m) := ⟨by simp [W7], by simp [W7], fun s e he => by
 simp only [W7, List.getElem?_replicate] at he
 split at he
 ·cases he; simp
 ·cases he⟩
theorem XU (hw : Wd (kk m) w) (k : Nat) : z6q m (aft m 0 (w.take k)) := QS h _ _ ⟨by omega, by have := h.len1; omega⟩ fun i hi => hw i (List.mem_of_mem_take hi)
omit h in
theorem z5C (hw : Wd (kk m) w) {s : Int} (h0 : 0 ≤ s) (h1 : s < m.Rows.length)   (hc : COk m c) : COk m (Qe m w s k c) := by
 unfold Qe
 split
 ·split
  ·exact (hc.setS _).setE (by omega)
  ·exact hc.setS _
 ·exact hc.setS _
theorem JD (hw : Wd (kk m) w) (k : Nat)  (hc : COk m c) : COk m (kx m w k c) := by
 unfold kx
 split
 ·exact hc
 ·have := XU h hw k
  exact z5C hw (by have := this.1; omega) this.2 hc
theorem z0Y (hw : Wd (kk m) w)  (hc : COk m c) : COk m (z2K m w c) := by
 unfold z2K
 exact vo (I := fun _ c => COk m c) hc _ fun i s _ hs => JD h hw i hs
theorem z4e : ∀ {l : List (List Nat)} {c : z7}, (∀ w ∈ l, Wd (kk m) w) → COk m c → COk m (z4g m l c)
 | [], _, _, hc => hc
 | w :: l, c, hw, hc => z4e (l := l) (fun v hv => hw v (by simp [hv])) (z0Y h (hw w (by simp)) hc)
omit h in
theorem z2f {i : Nat} (hi : w[k]? = some i) : aft m 0 (w.take (k + 1)) = (nxE m (aft m 0 (w.take k)) i).To := by
 have e : w.take (k + 1) = w.take k ++ [i] := by
  rw [List.take_add_one, hi]; rfl
 rw [e, (Yv m (w.take k) 0 i).2]
theorem QL (hw : Wd (kk m) w) {s : Int} (h0 : 0 ≤ s) (h1 : s < m.Rows.length)   (hc : COk m c) : xF (w.map Int.ofNat) m s (k : Int) c = some (Qe m w s k c) := by
 obtain ⟨n, rfl⟩ : ∃ n : Nat, s = n := ⟨s.toNat, by omega⟩
 have hn : n < m.Rows.length := by omega
 obtain ⟨b, hb⟩ := hc.stAt hn
 unfold xF Qe
 rw [zy hb, oB, List.length_map]
 cases hi : w[k]? with
 | none =>
  have hk : ¬ (k : Int) < (w.length : Int) := by have := List.getElem?_eq_none_iff.1 hi; omega
  rw [decide_eq_false hk]
  rfl
 | some i =>
  have hk : (k : Int) < (w.length : Int) := by have := (List.getElem?_eq_some_iff.1 hi).1; omega
  have hik : i < kk m := hw i (List.mem_of_getElem? hi)
  have hm : (w.map Int.ofNat)[k]? = some (i : Int) := by rw [List.getElem?_map, hi]; rfl
  obtain ⟨r, hr, hrl, hre⟩ := h.rowAt hn
  obtain ⟨e, he, hel⟩ := hc.rowAt hn
  rw [decide_eq_true hk, cond_true, zy hr, oB, zy hm, oB, zy (hre i hik), oB]
  simp only [Int.toNat_natCast]
  by_cases ht : (E m n i).To = -1
  ·rw [if_neg (by simpa using ht), ht]
   rfl
  ·have hb2 : ((E m n i).To != -1) = true := by simpa using ht
   have hie : e[i]? = some e[i] := List.getElem?_eq_getElem (by omega)
   rw [if_pos ht, hb2, cond_true, zy he, oB, oB, zy hie, oB]
   simp [setE, setS, he]
theorem z4T (hw : Wd (kk m) w) (hl : w.length ≤ 100000)  (hc : COk m c) : wy m (w.map Int.ofNat) (fun s x => xF (w.map Int.ofNat) m x.1 x.2 s) c = some (z2K m w c) := by
 unfold wy
 have a0 : aft m 0 (w.take 0) = 0 := rfl
 have hm0 : kx m w 0 c = Qe m w 0 0 c := by unfold kx; rw [a0]; rfl
 have c0 := QL h hw (s := 0) (k := 0) (by omega) (by have := h.len1; omega) hc
 refine Eq.trans (bdT c0) ?_
 have run : Ret (loop (fun s => wx (fun s x => xF (w.map Int.ofNat) m x.1 x.2 s) m (w.map Int.ofNat) s.1 s.2.1 s.2.2) (Qe m w 0 0 c, 0, 0)) fun r => r = z2K m w c := by
  refine jl (fun q => ∃ k : Nat, q.2.2 = (k : Int) ∧ k ≤ w.length ∧ q.2.1 = aft m 0 (w.take k) ∧ q.2.1 ≠ -1 ∧ q.1 = (List.range (k + 1)).foldl (fun c k => kx m w k c) c) (fun q => 200000 - q.2.2.toNat) ⟨0, rfl, Nat.zero_le _, rfl, by simp, by show _ = kx m w 0 c; rw [hm0]⟩ (by show 200000 - _ < _; omega) ?_
  rintro ⟨q, s, _⟩ ⟨k, rfl, hk, hs, hne, hq⟩
  simp only at hs hne hq
  unfold wx
  simp only [List.length_map]
  have hin := XU h hw k
  rw [← hs] at hin
  have hqok : COk m q := by rw [hq]; exact vo (I := fun _ c => COk m c) hc _ fun i s _ hs => JD h hw i hs
  obtain ⟨n, rfl⟩ : ∃ n : Nat, s = n := ⟨s.toNat, by have := hin.1; omega⟩
  have hn : n < m.Rows.length := by have := hin.2; omega
  rw [uv]
  refine ⟨fun hc1 => ?_, fun hc1 => ?_⟩
  ·have hlt : k < w.length := by simpa using hc1
   have hi : w[k]? = some w[k] := List.getElem?_eq_getElem hlt
   have hik : w[k] < kk m := hw _ (List.getElem_mem hlt)
   have hm : (w.map Int.ofNat)[k]? = some (w[k] : Int) := by rw [List.getElem?_map, hi]; rfl
   obtain ⟨r, hr, hrl, hre⟩ := h.rowAt hn
   have hto : aft m 0 (w.take (k + 1)) = (E m n w[k]).To := by rw [z2f hi, ← hs, Zu]
   rw [zy hm, oB, zy hr, oB, zy (hre _ hik), oB, uv]
   have hw1 : w64 ((k : Int) + 1) = ((k + 1 : Nat) : Int) := ka (by omega)
   refine ⟨fun hc2 => ?_, fun hc2 => ?_⟩
   ·have hto1 : (E m n w[k]).To = -1 := by simpa using hc2
    rw [zL]
    show q = _
    rw [hq]
    unfold z2K
    have : ∀ d, (List.range (k + 1 + d)).foldl (fun c k => kx m w k c) c = (List.range (k + 1)).foldl (fun c k => kx m w k c) c := by
     intro d
     induction d with
     | zero => rfl
     | succ d ih =>
      rw [show k + 1 + (d + 1) = (k + 1 + d) + 1 by omega, yS (fun k c => kx m w k c), ih]
      unfold kx
      rw [if_pos]
      have h1 : w.take (k + 1 + d) = w.take (k + 1) ++ (w.drop (k + 1)).take d := by rw [List.take_add]
      rw [h1, z15, hto, hto1]
      have h2 := K0 m ((w.drop (k + 1)).take d) (-1) (by omega)
      have h3 := (QS h ((w.drop (k + 1)).take d) (-1) ⟨by omega, by have := h.len1; omega⟩ fun i hi => hw i (List.mem_of_mem_drop (List.mem_of_mem_take hi))).1
      omega
    have e := this (w.length - k)
    rw [show k + 1 + (w.length - k) = w.length + 1 by omega] at e
    exact e.symm
   ·have hto1 : (E m n w[k]).To ≠ -1 := by simpa using hc2
    rcases h.edgeAt hn hik with ⟨g, _⟩ | ⟨g1, g2, _⟩
    ·exact absurd g hto1
    ·rw [hw1, QL h hw g1 g2 hqok, oB, zL]
     refine ⟨⟨k + 1, rfl, hlt, hto.symm, hto1, ?_⟩, by simp only; omega⟩
     rw [yS (fun k c => kx m w k c), ← hq]
     unfold kx
     rw [hto, if_neg hto1]
  ·have hge : k = w.length := by simp at hc1; omega
   subst hge
   rw [zL]
   exact hq
 exact bdT run.eq
theorem z20 : ul m = some (W7 m) := by
 have hlen := h.len64
 have hk := h.kk_eq
 have hk16 := h.kk_le
 unfold ul
 have e3 : ((m.Rows.length : Nat) : Int).toNat = m.Rows.length := by simp
 rw [gdT (by omega), gdT (by omega), e3]
 have e1 : loop (fun s => xY m s.1 s.2) (List.replicate m.Rows.length ([] : List Bool), 0) = some (List.replicate m.Rows.length (List.replicate (kk m) false)) := by
  refine Us (step := fun s => xY m s.1 s.2) (σ := List (List Bool)) (fun c k => (c, (k : Int))) (fun k c => c.set k (List.replicate (kk m) false)) (fun k c => k ≤ m.Rows.length ∧ c = List.replicate k (List.replicate (kk m) false) ++ List.replicate (m.Rows.length - k) []) m.Rows.length (by omega) ⟨Nat.zero_le _, by simp⟩ ?_ ?_
  ·rintro k _ hk1 ⟨_, rfl⟩
   have hd : m.Rows.length - k = (m.Rows.length - (k + 1)) + 1 := by omega
   refine ⟨?_, hk1, ?_⟩
   ·simp only
    unfold xY
    have hx : (List.replicate k (List.replicate (kk m) false) ++ List.replicate (m.Rows.length - k) [])[k]? = some [] := by
     rw [List.getElem?_append_right (by simp), hd]; simp
    rw [decide_eq_true (by omega), cond_true, gdT (by omega), zy hx, oB, ka (by omega), ← hk]
    simp
   ·rw [List.set_append_right _ _ (by simp), hd, List.replicate_succ, List.length_replicate, Nat.sub_self, List.set_cons_zero, List.replicate_succ', List.append_assoc]
    rfl
  ·rintro ⟨_, hq⟩
   rw [hq]
   simp only
   unfold xY
   rw [decide_eq_false (by omega), cond_false]
   simp
 rw [e1]
 rfl
theorem z84 {l : List (List Nat)} (hw : ∀ w ∈ l, Wd (kk m) w) (hl : l.length ≤ 100000) (hl2 : ∀ w ∈ l, w.length ≤ 100000) (hr : xu m (l.map (List.map Int.ofNat)) = some 0) : wz m (l.map (List.map Int.ofNat)) = some (z4g m l (W7 m), 0) := by
 unfold wz
 rw [hr, oB]
 have b0 : ((0 : Int) != 0) = false := rfl
 rw [b0, cond_false, z20 h, oB]
 have e2 : loop (fun s => xR m (l.map (List.map Int.ofNat)) s.1 s.2.1 s.2.2) ((W7 m).States, (W7 m).Edges, 0) = some ((z4g m l (W7 m)).States, (z4g m l (W7 m)).Edges) := by
  have hfl := Yh (fun w c => z2K m w c) ([] : List Nat) l (W7 m)
  refine Us (σ := z7) (fun c k => (c.States, c.Edges, (k : Int))) (fun i c => z2K m ((l[i]?).getD []) c) (fun _ c => COk m c) l.length (by omega) Wv (fun i c hi hc => ?_) (fun _ => ?_)
  ·have hx : l[i]? = some l[i] := List.getElem?_eq_getElem hi
   have hm : (l.map (List.map Int.ofNat))[i]? = some (l[i].map Int.ofNat) := by rw [List.getElem?_map, hx]; rfl
   simp only [hx, Option.getD_some]
   refine ⟨?_, z0Y h (hw _ (List.getElem_mem hi)) hc⟩
   unfold xR
   rw [List.length_map, decide_eq_true (by omega), cond_true, zy hm, oB]
   refine Eq.trans (bdT (z4T h (hw _ (List.getElem_mem hi)) (hl2 _ (List.getElem_mem hi)) (c := c) hc)) ?_
   rw [ka (by omega)]
  ·rw [hfl]
   simp only
   unfold xR
   rw [List.length_map, decide_eq_false (by omega), cond_false]
   rfl
 refine Eq.trans (bdT e2) ?_
 rfl
end
theorem z1U (p : α → Bool) : ∀ (l : List α) (k : Nat), (yu (fun i x => if p x = true then none else some ((i : Nat) : Int)) l k = none ∧ l.all p = true) ∨ ∃ i : Nat, yu (fun i x => if p x = true then none else some ((i : Nat) : Int)) l k = some (i : Int) ∧ l.all p = false
 | [], _ => .inl ⟨rfl, rfl⟩
 | x :: l, k => by
  simp only [yu, List.all_cons]
  cases hp : p x with
  | true => simpa using z1U p l (k + 1)
  | false => exact .inr ⟨k, by simp, by simp⟩
theorem z5Y (l : List Bool) (hl : l.length < 4611686018427387904) : wR l () = some (l.all id) := by
 unfold wR yD x6
 rw [bdT (vN l hl (step := fun s => zS l s) (fun i x => if x = true then none else some ((i : Nat) : Int)) ?_ ?_)]
 ·rcases z1U (fun x : Bool => x) l 0 with ⟨h1, h2⟩ | ⟨i, h1, h2⟩
  ·rw [h1, show l.all id = true from h2]; rfl
  ·rw [h1, show l.all id = false from h2]; simp [oS]
 ·intro i x hx
  have hi := (List.getElem?_eq_some_iff.1 hx).1
  unfold zS v6 wm
  rw [decide_eq_true (by omega), cond_true, zy hx]
  simp only [oB]
  cases x <;> rfl
 ·unfold zS
  rw [decide_eq_false (by omega), cond_false]
theorem z44 (l : List Bool) (hl : l.length < 4611686018427387904) : xJ l () = some (l.all id) := by
 unfold xJ yc yC
 rw [bdT (vN l hl (step := fun s => zK l s) (fun i x => if x = true then none else some ((i : Nat) : Int)) ?_ ?_)]
 ·rcases z1U (fun x : Bool => x) l 0 with ⟨h1, h2⟩ | ⟨i, h1, h2⟩
  ·rw [h1, show l.all id = true from h2]; rfl
  ·rw [h1, show l.all id = false from h2]; simp [oS]
 ·intro i x hx
  have hi := (List.getElem?_eq_some_iff.1 hx).1
  unfold zK w9 yI
  rw [decide_eq_true (by omega), cond_true, zy hx]
  simp only [oB]
  cases x <;> rfl
 ·unfold zK
  rw [decide_eq_false (by omega), cond_false]
theorem z43 (l : List (List Bool)) (hl : l.length < 4611686018427387904) (hw : ∀ r ∈ l, r.length < 4611686018427387904) : wl l () = some (l.all fun r => r.all id) := by
 unfold wl yp yN
 rw [bdT (vN l hl (step := fun s => zN l s) (fun i x => if (x.all id) = true then none else some ((i : Nat) : Int)) ?_ ?_)]
 ·rcases z1U (fun x : List Bool => x.all id) l 0 with ⟨h1, h2⟩ | ⟨i, h1, h2⟩
  ·rw [h1, h2]; rfl
  ·rw [h1, h2]; simp [oS]
 ·intro i x hx
  have hi := (List.getElem?_eq_some_iff.1 hx).1
  unfold zN wI x9
  rw [decide_eq_true (by omega), cond_true, zy hx]
  simp only [oB]
  rw [z44 x (hw x (List.mem_of_getElem? hx))]
  simp only [oB]
  cases x.all id <;> rfl
 ·unfold zN
  rw [decide_eq_false (by omega), cond_false]
def W5 (c : z7) (s : Nat) : Prop := c.States[s]? = some true
def UC (c : z7) (s i : Nat) : Prop := ∃ e, c.Edges[s]? = some e ∧ e[i]? = some true
def Yl (m : z6) (w : List Nat) (k : Nat) (c : z7) : z7 :=
 if aft m 0 (w.take k) = -1 then c else if k = w.length then setS c (aft m 0 (w.take k)).toNat else if k + 1 = w.length then setE c (aft m 0 (w.take k)).toNat ((w[k]?).getD 0) else c
def z4a (m : z6) (w : List Nat) (c : z7) : z7 := (List.range (w.length + 1)).foldl (fun c k => Yl m w k c) c
def z1Z (m : z6) (l : List (List Nat)) (c : z7) : z7 := l.foldl (fun c w => z4a m w c) c
section
variable {m : z6} {c : z7}
theorem KZ (h : COk m c) {t s : Nat} (ht : t < m.Rows.length) : W5 (setS c t) s ↔ s = t ∨ W5 c s := by
 unfold W5 setS
 exact Xz (by rw [h.st]; exact ht)
theorem z00 {t s j : Nat} : W5 (setE c t j) s ↔ W5 c s := Iff.rfl
theorem XN {t s i : Nat} : UC (setS c t) s i ↔ UC c s i := Iff.rfl
theorem z03 (h : COk m c) {t s j i : Nat} (ht : t < m.Rows.length) (hj : j < kk m) : UC (setE c t j) s i ↔ (s = t ∧ i = j) ∨ UC c s i := by
 obtain ⟨e, he, hel⟩ := h.rowAt ht
 have htl := (List.getElem?_eq_some_iff.1 he).1
 unfold UC setE
 simp only [he, Option.getD_some]
 by_cases hs : s = t
 ·subst hs
  rw [List.getElem?_set_self htl]
  constructor
  ·rintro ⟨e2, h1, h2⟩
   cases h1
   rcases (Xz (out := e) (by omega)).1 h2 with q | q
   ·exact .inl ⟨rfl, q⟩
   ·exact .inr ⟨e, he, q⟩
  ·rintro (⟨_, rfl⟩ | ⟨e2, h1, h2⟩)
   ·exact ⟨_, rfl, (Xz (by omega)).2 (.inl rfl)⟩
   ·rw [he] at h1; cases h1
    exact ⟨_, rfl, (Xz (by omega)).2 (.inr h2)⟩
 ·rw [List.getElem?_set_ne (fun q => hs q.symm)]
  constructor
  ·rintro ⟨e2, h1, h2⟩; exact .inr ⟨e2, h1, h2⟩
  ·rintro (⟨q, _⟩ | q)
   ·exact absurd q hs
   ·exact q
end
section
variable {m : z6} (h : VM m)
include h
theorem VA (hw : Wd (kk m) w) (k : Nat)  (hc : COk m c) : COk m (Yl m w k c) := by
 have hin := XU h hw k
 unfold Yl
 split
 ·exact hc
 split
 ·exact hc.setS _
 split
 ·exact hc.setE (by have := hin.1; have := hin.2; omega)
 ·exact hc
theorem z49 (hw : Wd (kk m) w)  (hc : COk m c) : COk m (z4a m w c) := vo (I := fun _ c => COk m c) hc _ fun i s _ hs => VA h hw i hs
theorem za5 (hw : Wd (kk m) w)  (hc : COk m c) {s : Nat} : W5 (z4a m w c) s ↔ aft m 0 w = s ∨ W5 c s := by
 have gen : ∀ n, COk m ((List.range n).foldl (fun c k => Yl m w k c) c) ∧ (W5 ((List.range n).foldl (fun c k => Yl m w k c) c) s ↔ (w.length < n ∧ aft m 0 w = s) ∨ W5 c s) := by
  intro n
  induction n with
  | zero => exact ⟨hc, by simp⟩
  | succ n ih =>
   obtain ⟨i1, i2⟩ := ih
   rw [yS (fun k c => Yl m w k c)]
   refine ⟨VA h hw n i1, ?_⟩
   have hin := XU h hw n
   generalize (List.range n).foldl (fun c k => Yl m w k c) c = d at i1 i2 ⊢
   unfold Yl
   split
   ·rename_i q
    rw [i2]
    by_cases hn : n = w.length
    ·have e : aft m 0 w = -1 := by rw [← q, hn, List.take_length]
     rw [e]
     constructor
     ·rintro (⟨a, b⟩ | b)
      ·omega
      ·exact .inr b
     ·rintro (⟨a, b⟩ | b)
      ·omega
      ·exact .inr b
    ·constructor
     ·rintro (⟨a, b⟩ | b)
      ·exact .inl ⟨by omega, b⟩
      ·exact .inr b
     ·rintro (⟨a, b⟩ | b)
      ·exact .inl ⟨by omega, b⟩
      ·exact .inr b
   ·rename_i q
    split
    ·rename_i hn
     subst hn
     rw [List.take_length] at q hin ⊢
     rw [KZ i1 (by have := hin.1; have := hin.2; omega), i2]
     constructor
     ·rintro (rfl | ⟨a, b⟩ | b)
      ·exact .inl ⟨by omega, by have := hin.1; omega⟩
      ·omega
      ·exact .inr b
     ·rintro (⟨a, b⟩ | b)
      ·exact .inl (by omega)
      ·exact .inr (.inr b)
    ·rename_i hn
     have e2 : ∀ c', W5 c' s ↔ W5 c' s := fun _ => Iff.rfl
     split
     ·rw [z00, i2]
      constructor
      ·rintro (⟨a, b⟩ | b)
       ·exact .inl ⟨by omega, b⟩
       ·exact .inr b
      ·rintro (⟨a, b⟩ | b)
       ·exact .inl ⟨by omega, b⟩
       ·exact .inr b
     ·rw [i2]
      constructor
      ·rintro (⟨a, b⟩ | b)
       ·exact .inl ⟨by omega, b⟩
       ·exact .inr b
      ·rintro (⟨a, b⟩ | b)
       ·exact .inl ⟨by omega, b⟩
       ·exact .inr b
 unfold z4a
 rw [(gen (w.length + 1)).2]
 constructor
 ·rintro (⟨_, b⟩ | b)
  ·exact .inl b
  ·exact .inr b
 ·rintro (b | b)
  ·exact .inl ⟨by omega, b⟩
  ·exact .inr b
def K2 (m : z6) (w : List Nat) (s i : Nat) : Prop := w[w.length - 1]? = some i ∧ aft m 0 (w.take (w.length - 1)) = s
theorem za6 (hw : Wd (kk m) w)  (hc : COk m c)  : UC (z4a m w c) s i ↔ K2 m w s i ∨ UC c s i := by
 have gen : ∀ n, COk m ((List.range n).foldl (fun c k => Yl m w k c) c) ∧ (UC ((List.range n).foldl (fun c k => Yl m w k c) c) s i ↔ (w.length ≤ n ∧ K2 m w s i) ∨ UC c s i) := by
  intro n
  induction n with
  | zero =>
   refine ⟨hc, ?_⟩
   constructor
   ·exact .inr
   ·rintro (⟨a, b⟩ | b)
    ·have := (List.getElem?_eq_some_iff.1 b.1).1; omega
    ·exact b
  | succ n ih =>
   obtain ⟨i1, i2⟩ := ih
   rw [yS (fun k c => Yl m w k c)]
   refine ⟨VA h hw n i1, ?_⟩
   have hin := XU h hw n
   have same : n + 1 ≠ w.length → ((w.length ≤ n + 1 ∧ K2 m w s i) ↔ (w.length ≤ n ∧ K2 m w s i)) := by
    intro q
    constructor
    ·rintro ⟨a, b⟩; exact ⟨by omega, b⟩
    ·rintro ⟨a, b⟩; exact ⟨by omega, b⟩
   generalize (List.range n).foldl (fun c k => Yl m w k c) c = d at i1 i2 ⊢
   unfold Yl
   by_cases hn1 : n + 1 = w.length
   ·have hn0 : ¬ n = w.length := by omega
    have hlast : w.length - 1 = n := by omega
    have hx : w[n]? = some w[n] := List.getElem?_eq_getElem (by omega)
    split
    ·rename_i q
     rw [i2]
     unfold K2
     rw [hlast, q]
     constructor
     ·rintro (⟨a, b⟩ | b)
      ·omega
      ·exact .inr b
     ·rintro (⟨a, b, d⟩ | b)
      ·omega
      ·exact .inr b
    ·rename_i q
     rw [hx, Option.getD_some, z03 i1 (by have := hin.1; have := hin.2; omega) (hw _ (List.getElem_mem (by omega))), i2]
     unfold K2
     rw [hlast, hx]
     constructor
     ·rintro (⟨rfl, rfl⟩ | ⟨a, b⟩ | b)
      ·exact .inl ⟨by omega, rfl, by have := hin.1; omega⟩
      ·omega
      ·exact .inr b
     ·rintro (⟨a, b, d⟩ | b)
      ·exact .inl ⟨by omega, by simpa using b.symm⟩
      ·exact .inr (.inr b)
   ·rw [same hn1]
    split
    ·exact i2
    split
    ·rw [XN]; exact i2
    ·exact i2
 unfold z4a
 rw [(gen (w.length + 1)).2]
 constructor
 ·rintro (⟨_, b⟩ | b)
  ·exact .inl b
  ·exact .inr b
 ·rintro (b | b)
  ·exact .inl ⟨by omega, b⟩
  ·exact .inr b
theorem z0T : ∀ {l : List (List Nat)} {c : z7}, (∀ w ∈ l, Wd (kk m) w) → COk m c → COk m (z1Z m l c) ∧ (∀ s, W5 (z1Z m l c) s ↔ (∃ w ∈ l, aft m 0 w = s) ∨ W5 c s) ∧ ∀ s i, UC (z1Z m l c) s i ↔ (∃ w ∈ l, K2 m w s i) ∨ UC c s i
 | [], c, _, hc => ⟨hc, by simp [z1Z], by simp [z1Z]⟩
 | w :: l, c, hw, hc => by
  have h1 := z49 h (hw w (by simp)) hc
  obtain ⟨g1, g2, g3⟩ := z0T (l := l) (c := z4a m w c) (fun v hv => hw v (by simp [hv])) h1
  refine ⟨g1, fun s => ?_, fun s i => ?_⟩
  ·show W5 (z1Z m l (z4a m w c)) s ↔ _
   rw [g2, za5 h (hw w (by simp)) hc]
   simp only [List.mem_cons, exists_eq_or_imp]
   constructor
   ·rintro (q | q | q)
    ·exact .inl (.inr q)
    ·exact .inl (.inl q)
    ·exact .inr q
   ·rintro ((q | q) | q)
    ·exact .inr (.inl q)
    ·exact .inl q
    ·exact .inr (.inr q)
  ·show UC (z1Z m l (z4a m w c)) s i ↔ _
   rw [g3, za6 h (hw w (by simp)) hc]
   simp only [List.mem_cons, exists_eq_or_imp]
   constructor
   ·rintro (q | q | q)
    ·exact .inl (.inr q)
    ·exact .inl (.inl q)
    ·exact .inr q
   ·rintro ((q | q) | q)
    ·exact .inr (.inl q)
    ·exact .inl q
    ·exact .inr (.inr q)
theorem z0U (hw : Wd (kk m) w) (hl : w.length ≤ 100000)  (hk : k ≤ w.length)  (hc : COk m c) (hne : aft m 0 (w.take k) ≠ -1) : vU (w.map Int.ofNat) (aft m 0 (w.take k)) (k : Int) c = some (Yl m w k c) := by
 have hin := XU h hw k
 unfold Yl
 rw [if_neg hne]
 obtain ⟨n, hn⟩ : ∃ n : Nat, aft m 0 (w.take k) = n := ⟨(aft m 0 (w.take k)).toNat, by have := hin.1; omega⟩
 rw [hn] at hin ⊢
 have hn1 : n < m.Rows.length := by have := hin.2; omega
 obtain ⟨b, hb⟩ := hc.stAt hn1
 obtain ⟨e, he, hel⟩ := hc.rowAt hn1
 unfold vU
 rw [List.length_map]
 simp only [Int.toNat_natCast]
 by_cases h1 : k = w.length
 ·have : ((k : Int) == (w.length : Int)) = true := by simp [h1]
  rw [this, cond_true, if_pos h1, zy hb, oB]
  rfl
 ·have q1 : ((k : Int) == (w.length : Int)) = false := by simp; omega
  rw [q1, cond_false, if_neg h1]
  have hw1 : w64 ((w.length : Int) - 1) = (w.length : Int) - 1 := wK (by omega) (by omega)
  rw [hw1]
  by_cases h2 : k + 1 = w.length
  ·have q2 : ((k : Int) == (w.length : Int) - 1) = true := by simp; omega
   have hx : w[k]? = some w[k] := List.getElem?_eq_getElem (by omega)
   have hm : (w.map Int.ofNat)[k]? = some (w[k] : Int) := by rw [List.getElem?_map, hx]; rfl
   have hik : w[k] < kk m := hw _ (List.getElem_mem (by omega))
   have hie : e[w[k]]? = some e[w[k]] := List.getElem?_eq_getElem (by omega)
   rw [q2, cond_true, if_pos h2, zy he, oB, zy hm, oB, zy hie, oB, hx, Option.getD_some]
   simp [setE, he]
  ·have q2 : ((k : Int) == (w.length : Int) - 1) = false := by simp; omega
   rw [q2, cond_false, if_neg h2]
theorem z4S (hw : Wd (kk m) w) (hl : w.length ≤ 100000) {yy : z7 → Int × Int → Option z7} {g : Nat → z7 → z7} (hg : ∀ k c, aft m 0 (w.take k) = -1 → g k c = c) (hok : ∀ k c, COk m c → COk m (g k c))
  (hy : ∀ k c, k ≤ w.length → COk m c → aft m 0 (w.take k) ≠ -1 → yy c (aft m 0 (w.take k), (k : Int)) = some (g k c)) {c : z7} (hc : COk m c) :
  wy m (w.map Int.ofNat) yy c = some ((List.range (w.length + 1)).foldl (fun c k => g k c) c) := by
 unfold wy
 have c0 := hy 0 c (Nat.zero_le _) hc (by show (0 : Int) ≠ -1; omega)
 refine Eq.trans (bdT c0) ?_
 have run : Ret (loop (fun s => wx yy m (w.map Int.ofNat) s.1 s.2.1 s.2.2) (g 0 c, 0, 0)) fun r => r = (List.range (w.length + 1)).foldl (fun c k => g k c) c := by
  refine jl (fun q => ∃ k : Nat, q.2.2 = (k : Int) ∧ k ≤ w.length ∧ q.2.1 = aft m 0 (w.take k) ∧ q.2.1 ≠ -1 ∧ q.1 = (List.range (k + 1)).foldl (fun c k => g k c) c) (fun q => 200000 - q.2.2.toNat) ⟨0, rfl, Nat.zero_le _, rfl, by simp, rfl⟩ (by show 200000 - _ < _; omega) ?_
  rintro ⟨q, s, _⟩ ⟨k, rfl, hk, hs, hne, hq⟩
  simp only at hs hne hq
  unfold wx
  simp only [List.length_map]
  have hin := XU h hw k
  rw [← hs] at hin
  have hqok : COk m q := by rw [hq]; exact vo (I := fun _ c => COk m c) hc _ fun i s _ hs => hok i s hs
  obtain ⟨n, rfl⟩ : ∃ n : Nat, s = n := ⟨s.toNat, by have := hin.1; omega⟩
  have hn : n < m.Rows.length := by have := hin.2; omega
  rw [uv]
  refine ⟨fun hc1 => ?_, fun hc1 => ?_⟩
  ·have hlt : k < w.length := by simpa using hc1
   have hi : w[k]? = some w[k] := List.getElem?_eq_getElem hlt
   have hik : w[k] < kk m := hw _ (List.getElem_mem hlt)
   have hm : (w.map Int.ofNat)[k]? = some (w[k] : Int) := by rw [List.getElem?_map, hi]; rfl
   obtain ⟨r, hr, hrl, hre⟩ := h.rowAt hn
   have hto : aft m 0 (w.take (k + 1)) = (E m n w[k]).To := by rw [z2f hi, ← hs, Zu]
   rw [zy hm, oB, zy hr, oB, zy (hre _ hik), oB, uv]
   have hw1 : w64 ((k : Int) + 1) = ((k + 1 : Nat) : Int) := ka (by omega)
   refine ⟨fun hc2 => ?_, fun hc2 => ?_⟩
   ·have hto1 : (E m n w[k]).To = -1 := by simpa using hc2
    rw [zL]
    show q = _
    rw [hq]
    have : ∀ d, (List.range (k + 1 + d)).foldl (fun c k => g k c) c = (List.range (k + 1)).foldl (fun c k => g k c) c := by
     intro d
     induction d with
     | zero => rfl
     | succ d ih =>
      rw [show k + 1 + (d + 1) = (k + 1 + d) + 1 by omega, yS g, ih]
      refine hg _ _ ?_
      have h1 : w.take (k + 1 + d) = w.take (k + 1) ++ (w.drop (k + 1)).take d := by rw [List.take_add]
      rw [h1, z15, hto, hto1]
      have h2 := K0 m ((w.drop (k + 1)).take d) (-1) (by omega)
      have h3 := (QS h ((w.drop (k + 1)).take d) (-1) ⟨by omega, by have := h.len1; omega⟩ fun i hi => hw i (List.mem_of_mem_drop (List.mem_of_mem_take hi))).1
      omega
    have e := this (w.length - k)
    rw [show k + 1 + (w.length - k) = w.length + 1 by omega] at e
    exact e.symm
   ·have hto1 : (E m n w[k]).To ≠ -1 := by simpa using hc2
    rcases h.edgeAt hn hik with ⟨gg, _⟩ | ⟨g1, g2, _⟩
    ·exact absurd gg hto1
    ·have q2 := hy (k + 1) q hlt hqok (by rw [hto]; exact hto1)
     rw [hto] at q2
     rw [hw1, q2, oB, zL]
     refine ⟨⟨k + 1, rfl, hlt, hto.symm, hto1, ?_⟩, by simp only; omega⟩
     rw [yS g, ← hq]
  ·have hge : k = w.length := by simp at hc1; omega
   subst hge
   rw [zL]
   exact hq
 exact bdT run.eq
theorem z48 {l : List (List Nat)} (hw : ∀ w ∈ l, Wd (kk m) w) (hl : l.length ≤ 100000) (hl2 : ∀ w ∈ l, w.length ≤ 100000) : qm m (l.map (List.map Int.ofNat)) = some (z1Z m l (W7 m)) := by
 unfold qm
 rw [z20 h, oB]
 have e2 : loop (fun s => vq m (l.map (List.map Int.ofNat)) s.1 s.2.1 s.2.2) ((W7 m).States, (W7 m).Edges, 0) = some ((z1Z m l (W7 m)).States, (z1Z m l (W7 m)).Edges) := by
  have hfl := Yh (fun w c => z4a m w c) ([] : List Nat) l (W7 m)
  refine Us (σ := z7) (fun c k => (c.States, c.Edges, (k : Int))) (fun i c => z4a m ((l[i]?).getD []) c) (fun _ c => COk m c) l.length (by omega) Wv (fun i c hi hc => ?_) (fun _ => ?_)
  ·have hx : l[i]? = some l[i] := List.getElem?_eq_getElem hi
   have hm : (l.map (List.map Int.ofNat))[i]? = some (l[i].map Int.ofNat) := by rw [List.getElem?_map, hx]; rfl
   have hW := hw _ (List.getElem_mem hi)
   have hL := hl2 _ (List.getElem_mem hi)
   simp only [hx, Option.getD_some]
   refine ⟨?_, z49 h hW hc⟩
   unfold vq
   rw [List.length_map, decide_eq_true (by omega), cond_true, zy hm, oB]
   refine Eq.trans (bdT (z4S h hW hL (yy := fun s x => vU (l[i].map Int.ofNat) x.1 x.2 s) (g := fun k c => Yl m l[i] k c) (fun k c q => by unfold Yl; rw [if_pos q]) (fun k c hc => VA h hW k hc) (fun k c hk hc hne => z0U h hW hL hk hc hne) (c := c) hc)) ?_
   rw [ka (by omega)]
   rfl
  ·rw [hfl]
   simp only
   unfold vq
   rw [List.length_map, decide_eq_false (by omega), cond_false]
   rfl
 refine Eq.trans (bdT e2) ?_
 rfl
end
def z8b (m : z6) (w : List Nat) (s i : Nat) : Bool := decide (w[w.length - 1]? = some i) && decide (aft m 0 (w.take (w.length - 1)) = (s : Int))
def scB (m : z6) (l : List (List Nat)) : Bool := (List.range m.Rows.length).all fun s => l.any fun w => aft m 0 w == (s : Int)
def tcB (m : z6) (l : List (List Nat)) : Bool := (List.range m.Rows.length).all fun s => (List.range (kk m)).all fun i => l.any fun w => z8b m w s i
theorem KS : z8b m w s i = true ↔ K2 m w s i := by
 unfold z8b K2
 rw [Bool.and_eq_true, decide_eq_true_iff, decide_eq_true_iff]
section
variable {m : z6} (h : VM m) {l : List (List Nat)} (hw : ∀ w ∈ l, Wd (kk m) w) (hl : l.length ≤ 100000) (hl2 : ∀ w ∈ l, w.length ≤ 100000)
include h hw hl hl2
omit h hw hl hl2 in
theorem XQ : ¬ W5 (W7 m) s ∧ ¬ UC (W7 m) s i := by
 unfold W5 UC W7
 simp only [List.getElem?_replicate]
 constructor
 ·intro q; split at q <;> cases q
 ·rintro ⟨e, q1, q2⟩
  split at q1
  ·cases q1
   rw [List.getElem?_replicate] at q2
   split at q2 <;> cases q2
  ·cases q1
theorem z3x (hr : xu m (l.map (List.map Int.ofNat)) = some 0) : yf m (l.map (List.map Int.ofNat)) = some (scB m l, 0) := by
 obtain ⟨g1, g2, _⟩ := z0T h (c := W7 m) hw Wv
 unfold yf
 have b0 : ((0 : Int) != 0) = false := rfl
 rw [hr, oB, b0, cond_false, z48 h hw hl hl2, oB, z5Y _ (by rw [g1.st]; have := h.len64; omega), oB]
 congr 2
 rw [Bool.eq_iff_iff]
 unfold scB
 simp only [List.all_eq_true, List.any_eq_true, List.mem_range, beq_iff_eq, id]
 constructor
 ·intro q s hs
  have hlt : s < (z1Z m l (W7 m)).States.length := by rw [g1.st]; exact hs
  have hx : (z1Z m l (W7 m)).States[s]? = some (z1Z m l (W7 m)).States[s] := List.getElem?_eq_getElem hlt
  have := q _ (List.mem_of_getElem? hx)
  rw [this] at hx
  rcases (g2 s).1 hx with q | q
  ·exact q
  ·exact absurd q (XQ (i := 0)).1
 ·intro q b hb
  obtain ⟨s, hs⟩ := List.mem_iff_getElem?.1 hb
  have hs' : s < m.Rows.length := by have := (List.getElem?_eq_some_iff.1 hs).1; rw [g1.st] at this; exact this
  have := (g2 s).2 (.inl (q s hs'))
  unfold W5 at this
  rw [hs] at this
  cases this; rfl
theorem z3w (hr : xu m (l.map (List.map Int.ofNat)) = some 0) : zR m (l.map (List.map Int.ofNat)) = some (tcB m l, 0) := by
 obtain ⟨g1, _, g3⟩ := z0T h (c := W7 m) hw Wv
 have hrow : ∀ e ∈ (z1Z m l (W7 m)).Edges, e.length = kk m := fun e he => by
  obtain ⟨s, hs⟩ := List.mem_iff_getElem?.1 he
  exact g1.row s e hs
 unfold zR
 have b0 : ((0 : Int) != 0) = false := rfl
 have hk := h.kk_le
 rw [hr, oB, b0, cond_false, z48 h hw hl hl2, oB, z43 _ (by rw [g1.ed]; have := h.len64; omega) (fun e he => by rw [hrow e he]; omega), oB]
 congr 2
 rw [Bool.eq_iff_iff]
 unfold tcB
 simp only [List.all_eq_true, List.any_eq_true, List.mem_range, id, KS]
 constructor
 ·intro q s hs i hi
  obtain ⟨e, he, hel⟩ := g1.rowAt hs
  have hx : e[i]? = some e[i] := List.getElem?_eq_getElem (by omega)
  have := q e (List.mem_of_getElem? he) _ (List.mem_of_getElem? hx)
  rw [this] at hx
  rcases (g3 s i).1 ⟨e, he, hx⟩ with q | q
  ·exact q
  ·exact absurd q XQ.2
 ·intro q e he b hb
  obtain ⟨s, hs⟩ := List.mem_iff_getElem?.1 he
  have hs' : s < m.Rows.length := by have := (List.getElem?_eq_some_iff.1 hs).1; rw [g1.ed] at this; exact this
  obtain ⟨i, hi⟩ := List.mem_iff_getElem?.1 hb
  have hi' : i < kk m := by have := (List.getElem?_eq_some_iff.1 hi).1; rw [hrow e he] at this; exact this
  obtain ⟨e2, k1, k2⟩ := (g3 s i).2 (.inl (q s hs' i hi'))
  rw [hs] at k1
  cases k1
  rw [hi] at k2
  cases k2; rfl
end
theorem z0G {l : List Int} (h : ∀ c ∈ l, 0 ≤ c) : (l.map Int.toNat).map Int.ofNat = l := by
 rw [List.map_map]
 conv => rhs; rw [← List.map_id l]
 exact List.map_congr_left fun c hc => by have := h c hc; show ((c.toNat : Nat) : Int) = c; omega
def z4M (l : List (List Int)) : List (List Nat) := l.map (List.map Int.toNat)
theorem z0J {L k : Nat}  (h : Wq n L k l) : (z4M l).map (List.map Int.ofNat) = l := by
 unfold z4M
 rw [List.map_map]
 conv => rhs; rw [← List.map_id l]
 exact List.map_congr_left fun w hw => z0G fun c hc => ((h.2.2 w hw).2 c hc).1
theorem z0I (v : VM m) {L k : Nat}  (h : Wq m.Inputs L k l) : (∀ w ∈ z4M l, Wd (kk m) w) ∧ (z4M l).length = l.length ∧ ∀ w ∈ z4M l, w.length ≤ k := by
 refine ⟨fun w hw i hi => ?_, by simp [z4M], fun w hw => ?_⟩
 ·obtain ⟨u, hu, rfl⟩ := List.mem_map.1 hw
  obtain ⟨c, hc, rfl⟩ := List.mem_map.1 hi
  have := (h.2.2 u hu).2 c hc
  have := v.kk_eq
  omega
 ·obtain ⟨u, hu, rfl⟩ := List.mem_map.1 hw
  rw [List.length_map]
  exact (h.2.2 u hu).1
theorem z1u (m : z6) (l : List (List Int)) : xu m l = some (if chk m ≠ 0 then chk m else chE m.Inputs l) := by
 unfold xu
 rw [JM, oB]
 by_cases h : chk m = 0
 ·rw [h, bne_self_eq_false, cond_false, Kf, oB, if_neg (by omega)]
 ·have : (chk m != 0) = true := by simpa using h
  rw [this, cond_true, if_pos h]
def boE (n : Int) (a b : List (List Int)) : Int := if chE n a ≠ 0 then chE n a else chE n b
theorem z6e {a b : List (List Int)} : boE n a b = 0 ↔ chE n a = 0 ∧ chE n b = 0 := by
 unfold boE
 by_cases h : chE n a = 0
 ·rw [if_neg (by simp [h])]; simp [h]
 ·rw [if_pos h]; simp [h]
theorem zac (n : Int) (a b : List (List Int)) : kK n [a, b] = some (boE n a b) := by
 unfold kK
 rw [bdT (vN [a, b] (by simp) (step := fun s => vO n [a, b] s) (fun i v => eS (chE n v)) ?_ ?_)]
 ·unfold boE eS
  by_cases h1 : chE n a = 0
  ·by_cases h2 : chE n b = 0
   ·simp [yu, h1, h2, oS, jk]
   ·simp [yu, h1, h2, oS]
  ·simp [yu, h1, oS]
 ·intro i v hv
  have hi : i < [a, b].length := (List.getElem?_eq_some_iff.1 hv).1
  unfold vO
  have hc : decide ((i : Int) < (([a, b] : List (List (List Int))).length : Int)) = true := by simp only [decide_eq_true_eq]; omega
  simp only [hc, cond_true, zy hv, oB, Kf]
  by_cases h : chE n v = 0
  ·simp [h, nS, eS]
  ·have hb : (chE n v != 0) = true := by simpa using h
   simp [h, hb, nS, eS]
 ·unfold vO; simp
def qL (a b : List (List Int)) : List (List Int) := a.flatMap fun u => b.map fun v => u ++ v
theorem uz {a b : List (List Int)}  : x ∈ qL a b ↔ ∃ u ∈ a, ∃ v ∈ b, u ++ v = x := by simp [qL]
theorem z2t {a b : List (List Int)} {i : Nat} (hi : i < a.length) : qL (a.take (i + 1)) b = qL (a.take i) b ++ b.map fun v => a[i] ++ v := by
 unfold qL
 rw [List.take_add_one, List.getElem?_eq_getElem hi, List.flatMap_append]
 simp
theorem z3I (l : List (List UInt8 × Bool)) (x y : List UInt8) (v : Bool) : QA (z1D l x v) y = if x = y then some v else QA l y := by
 induction l with
 | nil =>
  by_cases h : x = y
  ·simp [z1D, QA, h]
  ·simp [z1D, QA, h]
 | cons p l ih =>
  by_cases h : p.1 = x
  ·by_cases h2 : x = y
   ·simp [z1D, QA, h, h2]
   ·simp [z1D, QA, h, h2]
  ·by_cases h2 : p.1 = y
   ·have : ¬ x = y := fun e => h (h2.trans e.symm)
    have t2 : ¬ y = x := fun e => this e.symm
    simp [z1D, QA, h2, this, t2]
   ·have hb : (p.1 == x) = false := beq_eq_false_iff_ne.2 h
    simp [z1D, QA, hb, h2, ih]
def z3P (w : List Int) : List UInt8 := u8s (w.map fun c => IntKind.u8.wrap c)
theorem z9V {w : List Int} (h : w.length ≤ 1000) : Yb w = some (z3P w) := by
 unfold Yb
 rw [gdT (by omega)]
 have hl := YB (step := fun s => wX w s.1 s.2) (fun i => ((w.take i).map (fun c => IntKind.u8.wrap c) ++ List.replicate (w.length - i) (0 : Int), (i : Int))) w.length (t := w.map fun c => IntKind.u8.wrap c) (by omega) (by
  intro i hi
  show wX w _ (i : Int) = _
  unfold wX
  have hq : decide ((i : Int) < (w.length : Int)) = true := by simpa using hi
  have hx : w[i]? = some w[i] := List.getElem?_eq_getElem hi
  have hA : ((w.take i).map (fun c => IntKind.u8.wrap c)).length = i := by rw [List.length_map, List.length_take]; omega
  have hr : List.replicate (w.length - i) (0 : Int) = 0 :: List.replicate (w.length - (i + 1)) 0 := by
   rw [show w.length - i = (w.length - (i + 1)) + 1 by omega]; rfl
  have hy : ((w.take i).map (fun c => IntKind.u8.wrap c) ++ List.replicate (w.length - i) (0 : Int))[i]? = some 0 := by
   rw [List.getElem?_append_right (by omega), hA, hr]; simp
  simp only [hq, cond_true, zy hx, zy hy, oB, Int.toNat_natCast]
  rw [wK (by omega) (by omega), List.set_append_right _ _ (by omega), hA, Nat.sub_self, hr, List.set_cons_zero, List.take_add_one, hx, List.map_append, List.append_assoc]
  rfl) (by
  show wX w _ (w.length : Int) = _
  unfold wX
  simp)
 have h0 : ((w.take 0).map (fun c => IntKind.u8.wrap c) ++ List.replicate (w.length - 0) (0 : Int), ((0 : Nat) : Int)) = (List.replicate ((w.length : Nat) : Int).toNat (0 : Int), (0 : Int)) := by simp
 rw [h0] at hl
 rw [bdT hl]
 rfl
theorem z1L : ∀ {v w : List Int}, (∀ c ∈ v, 0 ≤ c ∧ c < 16) → (∀ c ∈ w, 0 ≤ c ∧ c < 16) → z3P v = z3P w → v = w
 | [], [], _, _, _ => rfl
 | [], _ :: _, _, _, h => by simp [z3P, u8s] at h
 | _ :: _, [], _, _, h => by simp [z3P, u8s] at h
 | x :: v, y :: w, hv, hw, h => by
  simp only [z3P, u8s, List.map_cons, List.cons.injEq] at h
  have hx := hv x (by simp)
  have hy := hw y (by simp)
  have wr : ∀ z : Int, 0 ≤ z ∧ z < 16 → IntKind.u8.wrap z = z := by
   intro z hz
   simp only [IntKind.wrap, IntKind.bits, IntKind.signed]
   simp
   omega
  have e := h.1
  rw [wr x hx, wr y hy] at e
  have e2 := congrArg UInt8.toNat e
  rw [UInt8.toNat_ofNat', UInt8.toNat_ofNat', Nat.mod_eq_of_lt (by omega), Nat.mod_eq_of_lt (by omega)] at e2
  rw [show x = y by omega, z1L (fun c hc => hv c (by simp [hc])) (fun c hc => hw c (by simp [hc])) h.2]
theorem Kg {l m : List (List Int)} (h : l.Perm m) : ub l = ub m := (h.map _).sum_nat
theorem z1a : ∀ {o L : List (List Int)}, o.Nodup → (∀ x ∈ o, x ∈ L) → ∃ r, L.Perm (o ++ r)
 | [], L, _, _ => ⟨L, .refl _⟩
 | x :: o, L, h, hs => by
  have hx := hs x (by simp)
  have ⟨r, hr⟩ := z1a (o := o) (L := L.erase x) (List.nodup_cons.1 h).2 fun y hy => (List.mem_erase_of_ne (fun e => (List.nodup_cons.1 h).1 (by rw [← e]; exact hy))).2 (hs y (by simp [hy]))
  exact ⟨r, (List.perm_cons_erase hx).trans (hr.cons x)⟩
theorem z9j {o L : List (List Int)} (h : o.Nodup) (hs : ∀ x ∈ o, x ∈ L) : o.length ≤ L.length ∧ ub o ≤ ub L := by
 have ⟨r, hr⟩ := z1a h hs
 have h1 := hr.length_eq
 have h2 := Kg hr
 rw [List.length_append] at h1
 rw [X8] at h2
 omega
def zaD (a b : List (List Int)) : Prop := (∃ w ∈ qL a b, 256 < w.length) ∨ 4096 < (srt (qL a b)).length ∨ 65536 < ub (srt (qL a b))
def CI (P : List (List Int)) (seen : List (List UInt8 × Bool)) (n : Int) (out : List (List Int)) : Prop :=
 out.Nodup ∧ (∀ x, x ∈ out ↔ x ∈ P) ∧ (∀ x ∈ out, x.length ≤ 256) ∧ out.length ≤ 4096 ∧ ub out ≤ 65536 ∧ n = (ub out : Int) ∧ ∀ k, ((QA seen k).getD false = true ↔ ∃ x ∈ out, z3P x = k)
section
variable {n : Int} {a b : List (List Int)} (ha : chE n a = 0) (hb : chE n b = 0)
include ha hb
theorem z1w {w : List Int} (hw : w ∈ qL a b) : ∀ c ∈ w, 0 ≤ c ∧ c < 16 := by
 have ⟨_, _, _, _, a5, a6⟩ := YF ha
 have ⟨_, _, _, _, _, b6⟩ := YF hb
 obtain ⟨u, h1, v, h2, rfl⟩ := uz.1 hw
 intro c hc
 rcases List.mem_append.1 hc with q | q
 ·have := a6 u h1 c q; omega
 ·have := b6 v h2 c q; omega
theorem z8q {i : Nat} (hi : i < a.length) {seen : List (List UInt8 × Bool)} {m : Int} {out : List (List Int)} (h : CI (qL (a.take i) b) seen m out) :
  Ret (loop (fun s => wL b a[i] s.1 s.2.1 s.2.2.1 s.2.2.2) (seen, m, out, 0)) fun t => match t with | .inl p => CI (qL (a.take (i + 1)) b) p.1 p.2.1 p.2.2 | .inr p => p = ([], 3) ∧ zaD a b := by
 have ⟨a1, a2, _⟩ := YF ha
 have ⟨b1, b2, _⟩ := YF hb
 refine jl (fun q => ∃ j : Nat, q.2.2.2 = (j : Int) ∧ j ≤ b.length ∧ CI (qL (a.take i) b ++ (b.take j).map fun v => a[i] ++ v) q.1 q.2.1 q.2.2.1) (fun q => b.length - q.2.2.2.toNat) ⟨0, rfl, Nat.zero_le _, by simpa using h⟩ (by show b.length - _ < _; omega) ?_
 rintro ⟨seen, m, out, _⟩ ⟨j, rfl, g1, g2⟩
 show Ret (wL b a[i] seen m out (j : Int)) _
 unfold wL
 rw [uv]
 refine ⟨fun hc => ?_, fun hc => ?_⟩
 ·have hj : j < b.length := by simpa using hc
  have hy : b[j]? = some b[j] := List.getElem?_eq_getElem hj
  have wa := a2 _ (List.getElem_mem hi)
  have wb := b2 _ (List.getElem_mem hj)
  have hj2 : w64 ((j : Int) + 1) = ((j + 1 : Nat) : Int) := by rw [wK (by omega) (by omega)]; omega
  have hmem : a[i] ++ b[j] ∈ qL a b := uz.2 ⟨_, List.getElem_mem hi, _, List.getElem_mem hj, rfl⟩
  rw [zy hy]
  simp only [oB, JL]
  rw [gdT (by omega), uv]
  refine ⟨fun hc2 => ?_, fun hc2 => ?_⟩
  ·have hl : 256 < (a[i] ++ b[j]).length := by simp only [decide_eq_true_eq] at hc2; omega
   rw [zL]
   exact ⟨rfl, .inl ⟨_, hmem, hl⟩⟩
  ·have hl : (a[i] ++ b[j]).length ≤ 256 := by simp only [decide_eq_false_iff_not] at hc2; omega
   rw [z9V (by omega)]
   simp only [oB]
   simp only at g2
   have ⟨c1, c2, c3, c4, c5, c6, c7⟩ := g2
   have hP : ∀ x, x ∈ qL (a.take i) b ++ (b.take (j + 1)).map (fun v => a[i] ++ v) ↔ x ∈ out ∨ x = a[i] ++ b[j] := by
    intro x
    rw [c2, List.take_add_one, hy, List.map_append, ← List.append_assoc, List.mem_append]
    simp
   have hsub : ∀ x ∈ out, x ∈ qL a b := by
    intro x hx
    rcases List.mem_append.1 ((c2 x).1 hx) with q | q
    ·obtain ⟨u, q1, v, q2, rfl⟩ := uz.1 q
     exact uz.2 ⟨u, List.mem_of_mem_take q1, v, q2, rfl⟩
    ·obtain ⟨v, q2, rfl⟩ := List.mem_map.1 q
     exact uz.2 ⟨_, List.getElem_mem hi, v, List.mem_of_mem_take q2, rfl⟩
   have hkey : (QA seen (z3P (a[i] ++ b[j]))).getD false = true ↔ a[i] ++ b[j] ∈ out := by
    rw [c7]
    constructor
    ·rintro ⟨x, q1, q2⟩
     rw [z1L (z1w ha hb (hsub x q1)) (z1w ha hb hmem) q2] at q1
     exact q1
    ·intro q; exact ⟨_, q, rfl⟩
   by_cases hin : a[i] ++ b[j] ∈ out
   ·rw [hkey.2 hin]
    simp only [Bool.not_true, cond_false]
    unfold wM
    have d1 : decide (((out.length : Nat) : Int) > 4096) = false := by simp; omega
    have d2 : decide (m > 65536) = false := by rw [c6]; simp; omega
    simp only [d1, d2, cond_false]
    rw [hj2, zL]
    refine ⟨⟨j + 1, rfl, hj, c1, fun x => ?_, c3, c4, c5, c6, c7⟩, by simp only [Int.toNat_natCast]; omega⟩
    rw [hP]
    constructor
    ·intro q; exact .inl q
    ·rintro (q | rfl)
     ·exact q
     ·exact hin
   ·have hf : (QA seen (z3P (a[i] ++ b[j]))).getD false = false := by
     cases hq : (QA seen (z3P (a[i] ++ b[j]))).getD false
     ·rfl
     ·exact absurd (hkey.1 hq) hin
    rw [hf]
    simp only [Bool.not_false, cond_true]
    rw [gdT (by simp only [List.length_singleton]; omega)]
    have hnd : (out ++ [a[i] ++ b[j]]).Nodup := by
     rw [List.nodup_append]
     exact ⟨c1, by simp, fun x hx y hy => by simp at hy; subst hy; exact fun e => hin (e ▸ hx)⟩
    have hss : ∀ x ∈ out ++ [a[i] ++ b[j]], x ∈ srt (qL a b) := fun x hx => Xe.2 (by
     rcases List.mem_append.1 hx with q | q
     ·exact hsub x q
     ·simp at q; subst q; exact hmem)
    have ⟨s1, s2⟩ := z9j hnd hss
    have hsy : ub (out ++ [a[i] ++ b[j]]) = ub out + (a[i] ++ b[j]).length := by rw [X8]; simp [ub]
    have hm : w64 (m + (((a[i] ++ b[j]).length : Nat) : Int)) = ((ub (out ++ [a[i] ++ b[j]]) : Nat) : Int) := by
     rw [c6, hsy, wK (by omega) (by omega)]; omega
    rw [hm]
    unfold wM
    rw [uv]
    refine ⟨fun hc3 => ?_, fun hc3 => ?_⟩
    ·rw [zL]
     refine ⟨rfl, .inr (.inl ?_)⟩
     simp only [decide_eq_true_eq] at hc3
     omega
    ·rw [uv]
     refine ⟨fun hc4 => ?_, fun hc4 => ?_⟩
     ·rw [zL]
      refine ⟨rfl, .inr (.inr ?_)⟩
      simp only [decide_eq_true_eq] at hc4
      omega
     ·rw [hj2, zL]
      simp only [decide_eq_false_iff_not] at hc3 hc4
      refine ⟨⟨j + 1, rfl, hj, hnd, fun x => ?_, fun x hx => ?_, by simp only; omega, by simp only; omega, rfl, fun k => ?_⟩, by simp only [Int.toNat_natCast]; omega⟩
      ·rw [hP]; simp
      ·rcases List.mem_append.1 hx with q | q
       ·exact c3 x q
       ·simp at q; subst q; exact hl
      ·rw [z3I]
       by_cases hk : z3P (a[i] ++ b[j]) = k
       ·rw [if_pos hk]
        simp only [Option.getD_some, true_iff]
        exact ⟨_, by simp, hk⟩
       ·rw [if_neg hk, c7]
        constructor
        ·rintro ⟨x, q1, q2⟩; exact ⟨x, by simp [q1], q2⟩
        ·rintro ⟨x, q1, q2⟩
         rcases List.mem_append.1 q1 with q | q
         ·exact ⟨x, q, q2⟩
         ·simp at q; subst q; exact absurd q2 hk
 ·have hj : j = b.length := by
   have : ¬ j < b.length := by simpa using hc
   omega
  rw [zL]
  show CI (qL (a.take (i + 1)) b) seen m out
  rw [z2t hi]
  simp only [hj, List.take_length] at g2
  exact g2
theorem VW : Ret (uj a b n) fun r => zaD a b ∧ r = ([], 3) ∨ ¬ zaD a b ∧ r = (srt (qL a b), 0) := by
 have ⟨a1, a2, _⟩ := YF ha
 have ⟨b1, b2, _⟩ := YF hb
 unfold uj
 rw [zac, z6e.2 ⟨ha, hb⟩]
 simp [oB, bne_self_eq_false, cond_false]
 rw [jm]
 refine Ret.mono (jl (fun q => ∃ i : Nat, q.2.2.2 = (i : Int) ∧ i ≤ a.length ∧ CI (qL (a.take i) b) q.1 q.2.1 q.2.2.1) (fun q => a.length - q.2.2.2.toNat) (R := fun t : List (List Int) ⊕ (List (List Int) × Int) => match t with | .inl out => ∃ seen m, CI (qL a b) seen m out | .inr p => p = ([], 3) ∧ zaD a b) ?_ ?_ ?_) ?_
 ·refine ⟨0, rfl, Nat.zero_le _, List.nodup_nil, fun x => by simp [qL], by simp, by simp, by simp [ub], by simp [ub], fun k => ?_⟩
  simp [QA]
 ·show a.length - _ < _
  omega
 ·rintro ⟨seen, m, out, _⟩ ⟨i, rfl, g1, g2⟩
  show Ret (vF a b seen m out (i : Int)) _
  unfold vF
  rw [uv]
  refine ⟨fun hc => ?_, fun hc => ?_⟩
  ·have hi : i < a.length := by simpa using hc
   have hx : a[i]? = some a[i] := List.getElem?_eq_getElem hi
   rw [zy hx]
   simp [oB]
   rw [jm]
   refine (z8q ha hb hi g2).mono ?_
   rintro (p | p) hp
   ·show Ret (vG (i : Int) p.1 p.2.1 p.2.2) _
    unfold vG
    rw [wK (by omega) (by omega), zL]
    exact ⟨⟨i + 1, rfl, hi, hp⟩, by simp only; omega⟩
   ·show Ret (some (LR.done (Sum.inr p))) _
    rw [zL]
    exact hp
  ·have hi : i = a.length := by
    have : ¬ i < a.length := by simpa using hc
    omega
   rw [zL]
   refine ⟨seen, m, ?_⟩
   simp [hi, List.take_length] at g2
   exact g2
 ·rintro (out | p) hp
  ·have ⟨seen, m, c1, c2, c3, c4, c5, _⟩ := hp
   show Ret (vH out) _
   unfold vH
   rw [Jj (by omega) (fun w hw => by have := c3 w hw; omega)]
   simp [oB]
   have hs : srt out = srt (qL a b) := Kk c2
   have hp2 : out.Perm (srt (qL a b)) := (List.perm_ext_iff_of_nodup c1 (z1g _).nodup).2 fun x => by rw [c2, Xe]
   have h1 := hp2.length_eq
   have h2 := Kg hp2
   unfold soR
   rw [hs, if_neg (by omega), zL]
   refine .inr ⟨?_, rfl⟩
   rintro (⟨w, q1, q2⟩ | q | q)
   ·have := c3 w ((c2 w).2 q1); omega
   ·omega
   ·omega
  ·show Ret (some p) _
   rw [zL]
   exact .inl ⟨hp.2, hp.1⟩
end
theorem z1I : ∀ {u v : List Int} (x y : List Int), u.length = v.length → xX u v < 0 → xX (u ++ x) (v ++ y) < 0
 | [], [], _, _, _, h => by simp [xX] at h
 | [], _ :: _, _, _, h, _ => by simp at h
 | _ :: _, [], _, _, h, _ => by simp at h
 | a :: u, b :: v, x, y, hl, h => by
  simp [List.cons_append, xX] at h ⊢
  by_cases h1 : a < b
  ·simp [h1]
  ·by_cases h2 : b < a
   ·simp [h1, h2] at h
   ·simp [h1, h2] at h ⊢
    exact z1I x y (by simpa using hl) h
theorem KN : ∀ (u : List Int) {s t : Int}, s < t → xX (u ++ [s]) (u ++ [t]) < 0
 | [], s, t, h => by simp [xX, h]
 | a :: u, s, t, h => by
  simp [List.cons_append, xX, Int.lt_irrefl]
  exact KN u h
theorem JK (h : a.length = b.length) : jM a b = xX a b := by unfold jM; rw [if_neg (by omega), if_neg (by omega)]
theorem z0S (a : Nat) (w : List Int) : SW (XP a w) := by
 unfold XP SW
 rw [List.pairwise_map]
 refine List.Pairwise.imp (fun {s t} h => ?_) List.pairwise_lt_range
 rw [JK (by simp)]
 exact KN w (by omega)
theorem z0O (a k : Nat) : ∀ {l : List (List Int)}, SW l → (∀ w ∈ l, w.length = k) → SW (l.flatMap (XP a))
 | [], _, _ => by simp [SW]
 | w :: l, h, hk => by
  rw [List.flatMap_cons]
  unfold SW
  rw [List.pairwise_append]
  refine ⟨z0S a w, z0O a k h.tail fun x hx => hk x (by simp [hx]), fun x hx y hy => ?_⟩
  simp [XP, List.mem_map] at hx
  obtain ⟨s, _, rfl⟩ := hx
  rw [List.mem_flatMap] at hy
  have ⟨v, hv, hy⟩ := hy
  simp [XP, List.mem_map] at hy
  obtain ⟨t, _, rfl⟩ := hy
  have e1 := hk w (by simp)
  have e2 := hk v (by simp [hv])
  rw [JK (by simp [e1, e2])]
  have := h.head v hv
  rw [JK (by omega)] at this
  exact z1I _ _ (by omega) this
theorem z6T (a : Nat) : ∀ k, SW (exW a k)
 | 0 => by simp [exW, SW]
 | k + 1 => z0O a k (z6T a k) (ki a k)
theorem Jw (a f : Nat) : ∀ k, ∀ w ∈ uR a f k, w.length < k
 | 0, w, h => by simp [uR] at h
 | k + 1, w, h => by
  unfold uR at h
  split at h
  ·rcases List.mem_append.1 h with h | h
   ·have := Jw a f k w h; omega
   ·have := ki a k w h; omega
  ·have := Jw a f k w h; omega
theorem Jv (a f : Nat) : ∀ k, SW (uR a f k)
 | 0 => by simp [uR, SW]
 | k + 1 => by
  unfold uR
  split
  ·unfold SW
   rw [List.pairwise_append]
   refine ⟨Jv a f k, z6T a k, fun x hx y hy => ?_⟩
   have h1 := Jw a f k x hx
   have h2 := ki a k y hy
   unfold jM
   rw [if_pos (by omega)]
   omega
  ·exact Jv a f k
def lnW (a f : Nat) : Nat → Nat
 | 0 => 0
 | k + 1 => if f ≤ k then lnW a f k + a ^ k else lnW a f k
theorem Vz (a f : Nat) : ∀ k, (uR a f k).length = lnW a f k
 | 0 => rfl
 | k + 1 => by
  unfold uR lnW
  split
  ·rw [List.length_append, Vz a f k, Xk]
  ·exact Vz a f k
theorem z2j (h : ∀ w ∈ l, w.length = k) : ub l = k * l.length := by
 induction l with
 | nil => simp [ub]
 | cons x l ih =>
  have hs : ub (x :: l) = x.length + ub l := by simp [ub]
  rw [hs, ih fun w hw => h w (by simp [hw]), h x (by simp), List.length_cons, Nat.mul_succ]; omega
theorem z59 (l m : List (List Int)) : ub (l ++ m) = ub l + ub m := by simp [ub]
theorem z0E (a f : Nat) : ∀ k, ub (uR a f k) = syW a f k
 | 0 => rfl
 | k + 1 => by
  unfold uR syW
  split
  ·rw [z59, z0E a f k, z2j (ki a k), Xk]
  ·exact z0E a f k
def z7A (a f t k : Nat) : Bool := decide (4096 < lnW a f (k + 1)) || decide (65536 < syW a f (k + 1)) || (decide (k < t) && decide (4096 < a ^ k * a))
theorem z2X (a f t k : Nat) : z7A a f t k = true ↔ jR a f t k := by
 unfold z7A jR
 simp only [Bool.or_eq_true, Bool.and_eq_true, decide_eq_true_eq, Vz, or_assoc]
def zag (a f t : Nat) : Bool := (List.range (t + 1)).any (z7A a f t)
theorem z2c (a f t : Nat) : zag a f t = true ↔ ∃ j, j ≤ t ∧ jR a f t j := by
 unfold zag
 simp only [List.any_eq_true, List.mem_range, z2X]
 constructor
 ·rintro ⟨j, h1, h2⟩; exact ⟨j, by omega, h2⟩
 ·rintro ⟨j, h1, h2⟩; exact ⟨j, by omega, h2⟩
theorem z8D {a f t : Nat} (ha : 1 ≤ a ∧ a ≤ 16) (hf : f ≤ 256) (ht : t ≤ 256) : uq (a : Int) (f : Int) (t : Int) = some (if zag a f t then ([], 3) else (uR a f (t + 1), 0)) := by
 refine zah ha hf ht (fun h => by rw [if_pos ((z2c a f t).2 h)]) fun h => ?_
 have hn : ¬ zag a f t = true := fun q => by
  obtain ⟨j, h1, h2⟩ := (z2c a f t).1 q
  exact h j h1 h2
 rw [if_neg hn]
 have hs := h t (Nat.le_refl _)
 unfold jR at hs
 have hlen : (uR a f (t + 1)).length ≤ 4096 := by omega
 have hsy : ub (uR a f (t + 1)) ≤ 65536 := by rw [z0E]; omega
 rw [Jj (by omega) (fun w hw => by have := Jw a f (t + 1) w hw; omega)]
 unfold soR
 rw [XB (Jv a f (t + 1)), if_neg (by omega)]
 rfl
theorem z42 (a : Nat) : ∀ k, ∀ w ∈ exW a k, ∀ c ∈ w, 0 ≤ c ∧ c < (a : Int)
 | 0, w, hw, c, hc => by
  have : w = [] := by simpa [exW] using hw
  subst this; simp at hc
 | k + 1, w, hw, c, hc => by
  simp only [exW, List.mem_flatMap] at hw
  obtain ⟨u, hu, hw⟩ := hw
  simp only [XP, List.mem_map, List.mem_range] at hw
  obtain ⟨s, hs, rfl⟩ := hw
  rcases List.mem_append.1 hc with q | q
  ·exact z42 a k u hu c q
  ·rw [List.mem_singleton.1 q]; omega
theorem Ju (a f : Nat) : ∀ k, ∀ w ∈ uR a f k, ∀ c ∈ w, 0 ≤ c ∧ c < (a : Int)
 | 0, w, hw, c, hc => by simp [uR] at hw
 | k + 1, w, hw, c, hc => by
  simp only [uR] at hw
  split at hw
  ·rcases List.mem_append.1 hw with q | q
   ·exact Ju a f k w q c hc
   ·exact z42 a k w q c hc
  ·exact Ju a f k w hw c hc
theorem Uo (a f : Nat) : ∀ k, ∀ w ∈ uR a f (k + 1), w.length ≤ k
 | 0, w, hw => by
  simp only [uR] at hw
  split at hw
  ·have : w ∈ exW a 0 := by simpa using hw
   rw [ki a 0 w this]
   exact Nat.le_refl _
  ·simp at hw
 | k + 1, w, hw => by
  rw [uR] at hw
  split at hw
  ·rcases List.mem_append.1 hw with q | q
   ·exact Nat.le_succ_of_le (Uo a f k w q)
   ·rw [ki a (k + 1) w q]
    exact Nat.le_refl _
  ·exact Nat.le_succ_of_le (Uo a f k w hw)
section
variable {m : z6} (h : VM m)
include h
theorem zai {L : Nat} (hN : m.Rows.length ≤ L)   (ha : z16 m (l, is)) (hall : ∀ t, t < m.Rows.length → Rch m t) : Wq m.Inputs L (L - 1) (srt l) ∧ ∀ w ∈ l, w.length ≤ L - 1 ∧ ∀ c ∈ w, 0 ≤ c ∧ c < m.Inputs := by
 have hw : ∀ w ∈ l, w.length ≤ L - 1 ∧ ∀ c ∈ w, 0 ≤ c ∧ c < m.Inputs := by
  intro w hw
  obtain ⟨t, ht⟩ := List.mem_iff_getElem?.1 hw
  have htl : t < m.Rows.length := by have := (List.getElem?_eq_some_iff.1 ht).1; rw [ha.1] at this; exact this
  rcases ha.2.2 t htl with ⟨_, v, v1, v2⟩ | ⟨_, v⟩
  ·have v1 : l[t]? = some (v.map Int.ofNat) := v1
   rw [ht] at v1
   cases v1
   refine ⟨by rw [List.length_map]; have := v2.len; omega, fun c hc => ?_⟩
   obtain ⟨i, hi, rfl⟩ := List.mem_map.1 hc
   have := v2.wd i hi
   have := h.kk_eq
   exact ⟨Int.natCast_nonneg _, by show (i : Int) < _; omega⟩
  ·obtain ⟨u, u1, u2⟩ := hall t htl
   exact absurd u2 (v u u1)
 exact ⟨⟨z1g l, Nat.le_trans (z2Y l) (by have : l.length = m.Rows.length := ha.1; omega), fun w hm => hw w (Xe.1 hm)⟩, hw⟩
theorem Qm : Ret (xk m) fun r => (∀ t, t < m.Rows.length → Rch m t) ∧ (∃ l is, z16 m (l, is) ∧ r = (srt l, 0)) ∨ (¬ ∀ t, t < m.Rows.length → Rch m t) ∧ r = ([], 11) := by
 obtain ⟨⟨b, e⟩, hc, he, hb⟩ := JJ h
 simp only at he hb
 subst he
 unfold xk
 rw [hc, oB]
 simp only [bne_self_eq_false, cond_false]
 by_cases hr : b = true
 ·subst hr
  have hall := hb.1 rfl
  simp only [Bool.not_true, cond_false]
  obtain ⟨⟨l, is, e⟩, ha, he, hacc⟩ := z0p h
  simp only at he hacc
  subst he
  obtain ⟨hwq, hws⟩ := zai h h.len64 hacc hall
  rw [ha, oB]
  simp only [bne_self_eq_false, cond_false]
  have hl64 : l.length ≤ 64 := by have : l.length = m.Rows.length := hacc.1; have := h.len64; omega
  have hlo : loE m.Inputs l = 0 := XL.2 ⟨⟨h.in1, h.in16⟩, by omega, fun w hw => ⟨by have := (hws w hw).1; omega, (hws w hw).2⟩⟩
  have hsy : ub (srt l) ≤ 65536 := Nat.le_trans (Kh hwq.2.1 fun w hw => (hwq.2.2 w hw).1) (by omega)
  have hso : soR l = (srt l, 0) := by
   unfold soR
   rw [if_neg (by have := hwq.2.1; omega)]
  unfold Yu
  rw [z1F, hlo, oB, bne_self_eq_false, cond_false, Jj (by omega) (fun w hw => by have := (hws w hw).1; omega), hso, oB, oB, zL]
  exact .inl ⟨hall, l, is, hacc, rfl⟩
 ·have hr : b = false := by simpa using hr
  subst hr
  simp only [Bool.not_false, cond_true]
  rw [zL]
  exact .inr ⟨fun q => (by have := hb.2 q; cases this), rfl⟩
end
section
variable {m : z6} (h : VM m)
include h
theorem z9Q (hw : Wd (kk m) w)   (hc : COk m c) {s : Nat} : W5 (kx m w k c) s ↔ aft m 0 (w.take k) = s ∨ W5 c s := by
 have hin := XU h hw k
 unfold kx
 split
 ·rename_i q
  rw [q]
  exact ⟨.inr, fun g => g.resolve_left (by omega)⟩
 ·rename_i q
  have hlt : (aft m 0 (w.take k)).toNat < m.Rows.length := by have := hin.1; have := hin.2; omega
  have e : W5 (Qe m w (aft m 0 (w.take k)) k c) s ↔ W5 (setS c (aft m 0 (w.take k)).toNat) s := by
   unfold Qe
   split
   ·split
    ·exact z00
    ·exact Iff.rfl
   ·exact Iff.rfl
  rw [e, KZ hc hlt]
  have := hin.1
  constructor
  ·rintro (a | a)
   ·exact .inl (by omega)
   ·exact .inr a
  ·rintro (a | a)
   ·exact .inl (by omega)
   ·exact .inr a
theorem z9R (hw : Wd (kk m) w)   (hc : COk m c)  : UC (kx m w k c) s i ↔ (w[k]? = some i ∧ aft m 0 (w.take k) = s ∧ (E m s i).To ≠ -1) ∨ UC c s i := by
 have hin := XU h hw k
 unfold kx
 split
 ·rename_i q
  rw [q]
  exact ⟨.inr, fun g => g.resolve_left (by omega)⟩
 ·rename_i q
  have h0 := hin.1
  obtain ⟨t, ht⟩ : ∃ t : Nat, aft m 0 (w.take k) = t := ⟨(aft m 0 (w.take k)).toNat, by omega⟩
  have hlt : t < m.Rows.length := by have := hin.2; omega
  rw [ht]
  unfold Qe
  rw [Int.toNat_natCast]
  cases hx : w[k]? with
  | none =>
   simp only
   rw [XN]
   exact ⟨.inr, fun g => g.resolve_left (by simp)⟩
  | some j =>
   have hj : j < kk m := hw j (List.mem_of_getElem? hx)
   simp only
   split
   ·rename_i g
    rw [z03 (hc.setS t) hlt hj, XN]
    constructor
    ·rintro (⟨rfl, rfl⟩ | a)
     ·exact .inl ⟨rfl, rfl, g⟩
     ·exact .inr a
    ·rintro (⟨a, b, _⟩ | a)
     ·exact .inl ⟨by omega, by cases a; rfl⟩
     ·exact .inr a
   ·rename_i g
    rw [XN]
    constructor
    ·exact .inr
    ·rintro (⟨a, b, d⟩ | a)
     ·cases a
      have : t = s := by omega
      subst this
      exact absurd d g
     ·exact a
theorem z8o (hw : Wd (kk m) w)  (hc : COk m c) : ∀ n, COk m ((List.range n).foldl (fun c k => kx m w k c) c) ∧ (∀ s : Nat, W5 ((List.range n).foldl (fun c k => kx m w k c) c) s ↔ (∃ k, k < n ∧ aft m 0 (w.take k) = (s : Int)) ∨ W5 c s) ∧
  ∀ s i : Nat, UC ((List.range n).foldl (fun c k => kx m w k c) c) s i ↔ (∃ k, k < n ∧ w[k]? = some i ∧ aft m 0 (w.take k) = (s : Int) ∧ (E m s i).To ≠ -1) ∨ UC c s i := by
 intro n
 induction n with
 | zero => exact ⟨hc, fun s => ⟨.inr, fun g => g.resolve_left (by rintro ⟨k, q, _⟩; omega)⟩, fun s i => ⟨.inr, fun g => g.resolve_left (by rintro ⟨k, q, _⟩; omega)⟩⟩
 | succ n ih =>
  obtain ⟨i1, i2, i3⟩ := ih
  rw [yS (fun k c => kx m w k c)]
  refine ⟨JD h hw n i1, fun s => ?_, fun s i => ?_⟩
  ·rw [z9Q h hw i1, i2]
   constructor
   ·rintro (a | ⟨k, a, b⟩ | a)
    ·exact .inl ⟨n, by omega, a⟩
    ·exact .inl ⟨k, by omega, b⟩
    ·exact .inr a
   ·rintro (⟨k, a, b⟩ | a)
    ·by_cases e : k = n
     ·subst e; exact .inl b
     ·exact .inr (.inl ⟨k, by omega, b⟩)
    ·exact .inr (.inr a)
  ·rw [z9R h hw i1, i3]
   constructor
   ·rintro (a | ⟨k, a, b⟩ | a)
    ·exact .inl ⟨n, by omega, a⟩
    ·exact .inl ⟨k, by omega, b⟩
    ·exact .inr a
   ·rintro (⟨k, a, b⟩ | a)
    ·by_cases e : k = n
     ·subst e; exact .inl b
     ·exact .inr (.inl ⟨k, by omega, b⟩)
    ·exact .inr (.inr a)
def zbn (m : z6) (l : List (List Nat)) (s : Nat) : Prop := ∃ w ∈ l, ∃ k, k ≤ w.length ∧ aft m 0 (w.take k) = (s : Int)
def zbo (m : z6) (l : List (List Nat)) (s i : Nat) : Prop := ∃ w ∈ l, ∃ k, w[k]? = some i ∧ aft m 0 (w.take k) = (s : Int) ∧ (E m s i).To ≠ -1
theorem z4f : ∀ {l : List (List Nat)} {c : z7}, (∀ w ∈ l, Wd (kk m) w) → COk m c → (∀ s, W5 (z4g m l c) s ↔ zbn m l s ∨ W5 c s) ∧ ∀ s i, UC (z4g m l c) s i ↔ zbo m l s i ∨ UC c s i
 | [], c, _, _ => ⟨fun s => by simp [z4g, zbn], fun s i => by simp [z4g, zbo]⟩
 | w :: l, c, hw, hc => by
  have hww := hw w (by simp)
  obtain ⟨g1, g2⟩ := z4f (l := l) (fun v hv => hw v (by simp [hv])) (z0Y h hww hc)
  obtain ⟨_, f2, f3⟩ := z8o h hww hc (w.length + 1)
  refine ⟨fun s => ?_, fun s i => ?_⟩
  ·show W5 (z4g m l (z2K m w c)) s ↔ _
   rw [g1]
   unfold z2K
   rw [f2]
   unfold zbn
   simp only [List.mem_cons, exists_eq_or_imp]
   constructor
   ·rintro (a | ⟨k, a, b⟩ | a)
    ·exact .inl (.inr a)
    ·exact .inl (.inl ⟨k, by omega, b⟩)
    ·exact .inr a
   ·rintro ((⟨k, a, b⟩ | a) | a)
    ·exact .inr (.inl ⟨k, by omega, b⟩)
    ·exact .inl a
    ·exact .inr (.inr a)
  ·show UC (z4g m l (z2K m w c)) s i ↔ _
   rw [g2]
   unfold z2K
   rw [f3]
   unfold zbo
   simp only [List.mem_cons, exists_eq_or_imp]
   constructor
   ·rintro (a | ⟨k, a, b⟩ | a)
    ·exact .inl (.inr a)
    ·exact .inl (.inl ⟨k, b⟩)
    ·exact .inr a
   ·rintro ((⟨k, a, b⟩ | a) | a)
    ·exact .inr (.inl ⟨k, by have := (List.getElem?_eq_some_iff.1 a).1; omega, a, b⟩)
    ·exact .inl a
    ·exact .inr (.inr a)
end
def eR (b : Bool) (s i : Nat) : z8 := if i = 3 then (if b = true ∧ s = 10 then ⟨-1, -1⟩ else ⟨((s + 1) % 64 : Nat), 0⟩) else ⟨(s : Int), 0⟩
def xx (b : Bool) : z6 := ⟨16, 1, (List.range 64).map fun s => (List.range 16).map fun i => eR b s i⟩
theorem uu (b : Bool) : (xx b).Rows.length = 64 := by simp [xx]
theorem z3i (b : Bool) : kk (xx b) = 16 := rfl
theorem Kx (b : Bool)  (hs : s < 64) (hi : i < 16) : E (xx b) s i = eR b s i := by
 unfold E xx
 simp [hs, hi]
theorem qd (b : Bool) : VM (xx b) := by
 refine ⟨by show (1 : Int) ≤ 16; decide, by show (16 : Int) ≤ 16; decide, by show (1 : Int) ≤ 1; decide, by show (1 : Int) ≤ 16; decide, by rw [uu]; omega, by rw [uu]; omega, fun r hr => ?_, fun r hr x hx => ?_⟩
 ·obtain ⟨s, _, rfl⟩ := List.mem_map.1 hr
  simp [xx]
 ·obtain ⟨s, hs, rfl⟩ := List.mem_map.1 hr
  obtain ⟨i, hi, rfl⟩ := List.mem_map.1 hx
  have hs := List.mem_range.1 hs
  rw [uu]
  show _ ∨ (0 ≤ (eR b s i).To ∧ (eR b s i).To < _ ∧ 0 ≤ (eR b s i).Out ∧ (eR b s i).Out < 1)
  unfold eR
  split
  ·split
   ·exact .inl ⟨rfl, rfl⟩
   ·refine .inr ⟨?_, ?_, ?_, ?_⟩ <;> simp only <;> omega
  ·refine .inr ⟨?_, ?_, ?_, ?_⟩ <;> simp only <;> omega
def c3 (u : List Nat) : Nat := u.countP (· == 3)
theorem Vx : ∀ (u : List Nat) (s : Nat), s < 64 → Wd 16 u → aft (xx false) (s : Int) u = (((s + c3 u) % 64 : Nat) : Int)
 | [], s, hs, _ => by simp [aft, c3, Nat.mod_eq_of_lt hs]
 | i :: u, s, hs, hw => by
  have hi : i < 16 := hw i (by simp)
  have hw' : Wd 16 u := fun j hj => hw j (by simp [hj])
  simp only [aft, Zu]
  rw [Kx false hs hi]
  unfold eR
  by_cases e : i = 3
  ·subst e
   have h2 : ¬ (false = true ∧ s = 10) := by simp
   rw [if_pos rfl, if_neg h2]
   simp only
   rw [Vx u ((s + 1) % 64) (Nat.mod_lt _ (by omega)) hw']
   have : c3 (3 :: u) = c3 u + 1 := by simp [c3]
   rw [this]
   congr 1
   omega
  ·rw [if_neg e]
   simp only
   rw [Vx u s hs hw']
   have : c3 (i :: u) = c3 u := by simp [c3, e]
   rw [this]
theorem zaa (t : Nat) : c3 (List.replicate t 3) = t := by
 unfold c3
 rw [List.countP_eq_length.2 (fun x hx => by rw [(List.mem_replicate.1 hx).2]; rfl), List.length_replicate]
variable {u : List Nat}
theorem z8t (h : c3 u = u.length) : u = List.replicate u.length 3 := by
 unfold c3 at h
 rw [List.countP_eq_length] at h
 exact List.eq_replicate_of_mem fun x hx => by simpa using h x hx
theorem z2N (t : Nat) : Wd 16 (List.replicate t 3) := fun i hi => by rw [(List.mem_replicate.1 hi).2]; omega
theorem Yw {t : Nat} (ht : t < 64) : Acc (xx false) t (List.replicate t 3) := by
 refine ⟨z2N t, by rw [uu, List.length_replicate]; exact ht, ?_, fun u hu e => ?_⟩
 ·have := Vx (List.replicate t 3) 0 (by omega) (z2N t)
  rw [zaa, Nat.zero_add, Nat.mod_eq_of_lt ht] at this
  exact this
 ·have h1 := Vx u 0 (by omega) hu
  rw [Nat.zero_add] at h1
  have h2 : c3 u % 64 = t := by
   have : aft (xx false) 0 u = (t : Int) := e
   have h1 : aft (xx false) 0 u = ((c3 u % 64 : Nat) : Int) := h1
   omega
  have h3 : c3 u ≤ u.length := List.countP_le_length
  by_cases q : t < u.length
  ·exact Nat.le_of_lt (z3g (z2N t) (by rw [List.length_replicate]; exact q))
  ·have h4 : c3 u = u.length := by omega
   have h5 := z8t h4
   have h6 : u.length = t := by omega
   rw [h6] at h5
   rw [h5]
   exact Nat.le_refl _
theorem z5q : ∀ t, t < (xx false).Rows.length → Rch (xx false) t := fun t ht => by
 rw [uu] at ht
 exact ⟨_, (Yw ht).wd, (Yw ht).aft⟩
def QQ : List (List Int) := (List.range 64).map fun t => (List.replicate t 3).map Int.ofNat
theorem z9x (h : z16 (xx false) (l, is)) : l = QQ := by
 have hl : l.length = 64 := by have : l.length = (xx false).Rows.length := h.1; rw [uu] at this; exact this
 apply List.ext_getElem?
 intro t
 by_cases ht : t < 64
 ·have e2 : QQ[t]? = some ((List.replicate t 3).map Int.ofNat) := by simp [QQ, ht]
  rw [e2]
  rcases h.2.2 t (by rw [uu]; exact ht) with ⟨_, v, v1, v2⟩ | ⟨_, v⟩
  ·have v1 : l[t]? = some (v.map Int.ofNat) := v1
   rw [v1, z6p v2 (Yw ht)]
  ·exact absurd (Yw ht).aft (v _ (Yw ht).wd)
 ·rw [List.getElem?_eq_none (by omega), List.getElem?_eq_none (by simp [QQ]; omega)]
theorem YE (h : a.length < b.length) : jM a b < 0 := by
 unfold jM
 rw [if_pos (by omega)]
 omega
theorem z7Z : SW QQ := by
 unfold QQ SW
 rw [List.pairwise_map]
 exact List.Pairwise.imp (fun {s t} h => YE (by simpa using h)) List.pairwise_lt_range
theorem Xc : xk (xx false) = some (QQ, 0) := by
 obtain ⟨r, e, q⟩ := Qm (qd false)
 rcases q with ⟨_, l, is, hacc, rfl⟩ | ⟨q, _⟩
 ·rw [e, z9x hacc, XB z7Z]
 ·exact absurd z5q q
theorem z2r : Wq 16 64 63 QQ := by
 refine ⟨z7Z, by simp [QQ], fun w hw => ?_⟩
 obtain ⟨t, ht, rfl⟩ := List.mem_map.1 hw
 have ht := List.mem_range.1 ht
 refine ⟨by simp; omega, fun c hc => ?_⟩
 obtain ⟨x, hx, rfl⟩ := List.mem_map.1 hc
 rw [(List.mem_replicate.1 hx).2]
 decide
def PP : List (List Int) := [] :: (List.range 64).flatMap fun t => XP 16 ((List.replicate t 3).map Int.ofNat)
theorem z82 : SW PP := by
 unfold PP SW
 rw [List.pairwise_cons]
 refine ⟨fun x hx => ?_, ?_⟩
 ·obtain ⟨t, _, hx⟩ := List.mem_flatMap.1 hx
  obtain ⟨s, _, rfl⟩ := List.mem_map.1 hx
  exact YE (by simp)
 ·rw [List.pairwise_flatMap]
  refine ⟨fun t _ => z0S 16 _, List.Pairwise.imp (fun {s t} h x hx y hy => ?_) List.pairwise_lt_range⟩
  obtain ⟨a, _, rfl⟩ := List.mem_map.1 hx
  obtain ⟨b, _, rfl⟩ := List.mem_map.1 hy
  exact YE (by simpa using h)
theorem z1E {a : Nat}  : x ∈ uR a 0 (1 + 1) ↔ x = [] ∨ ∃ i, i < a ∧ x = [(i : Int)] := by
 unfold uR uR uR
 rw [if_pos (by omega), if_pos (by omega)]
 unfold exW exW XP
 simp only [List.nil_append, List.flatMap_cons, List.flatMap_nil, List.append_nil, List.mem_append, List.mem_map, List.mem_range, List.mem_cons, List.not_mem_nil, or_false]
 constructor
 ·rintro (q | ⟨i, hi, rfl⟩)
  ·exact .inl q
  ·exact .inr ⟨i, hi, rfl⟩
 ·rintro (q | ⟨i, hi, rfl⟩)
  ·exact .inl q
  ·exact .inr ⟨i, hi, rfl⟩
theorem z6H (x : List Int) : x ∈ PP ↔ x ∈ qL QQ (uR 16 0 (1 + 1)) := by
 unfold PP
 rw [List.mem_cons, List.mem_flatMap, uz]
 constructor
 ·rintro (rfl | ⟨t, ht, hx⟩)
  ·exact ⟨[], List.mem_map.2 ⟨0, List.mem_range.2 (by omega), rfl⟩, [], z1E.2 (.inl rfl), rfl⟩
  ·obtain ⟨i, hi, rfl⟩ := List.mem_map.1 hx
   exact ⟨_, List.mem_map.2 ⟨t, ht, rfl⟩, [(i : Int)], z1E.2 (.inr ⟨i, List.mem_range.1 hi, rfl⟩), rfl⟩
 ·rintro ⟨u, hu, v, hv, rfl⟩
  obtain ⟨t, ht, rfl⟩ := List.mem_map.1 hu
  have ht' := List.mem_range.1 ht
  rcases z1E.1 hv with rfl | ⟨i, hi, rfl⟩
  ·cases t with
   | zero => exact .inl rfl
   | succ t =>
    refine .inr ⟨t, List.mem_range.2 (by omega), List.mem_map.2 ⟨3, List.mem_range.2 (by omega), ?_⟩⟩
    rw [List.append_nil, List.replicate_succ', List.map_append]
    rfl
  ·exact .inr ⟨t, ht, List.mem_map.2 ⟨i, List.mem_range.2 hi, rfl⟩⟩
theorem z3r : srt (qL QQ (uR 16 0 (1 + 1))) = PP := (z1h z82 z6H).symm
theorem Qw : PP.length = 1025 := by
 unfold PP
 rw [List.length_cons, List.length_flatMap]
 simp only [JI, List.map_const', List.sum_replicate_nat, List.length_range]
theorem z3q : ub PP = 33280 := by
 have gen : ∀ n, ub ((List.range n).flatMap fun t => XP 16 ((List.replicate t 3).map Int.ofNat)) * 1 = 8 * (n * (n + 1)) := by
  intro n
  induction n with
  | zero => rfl
  | succ n ih =>
   rw [List.range_succ, List.flatMap_append, X8]
   have e : ub (([n]).flatMap fun t => XP 16 ((List.replicate t 3).map Int.ofNat)) = 16 * (n + 1) := by
    simp only [List.flatMap_cons, List.flatMap_nil, List.append_nil, ub, XP, List.map_map]
    have q : (List.range 16).map (List.length ∘ fun s : Nat => (List.replicate n 3).map Int.ofNat ++ [(s : Int)]) = (List.range 16).map fun _ => n + 1 := List.map_congr_left fun s _ => by simp
    rw [q, List.map_const', List.sum_replicate_nat, List.length_range]
   have e2 : (n + 1) * (n + 1 + 1) = n * (n + 1) + 2 * (n + 1) := by
    rw [Nat.add_mul, Nat.mul_add]; omega
   rw [e, e2]
   omega
 have h := gen 64
 unfold PP
 have : ub ([] :: (List.range 64).flatMap fun t => XP 16 ((List.replicate t 3).map Int.ofNat)) = ub ((List.range 64).flatMap fun t => XP 16 ((List.replicate t 3).map Int.ofNat)) := by simp [ub]
 omega
theorem KM : Zv = some true := by kernel_rfl
theorem z3L [DecidableEq α] : ∀ {l m : List α}, l.Nodup → (∀ x ∈ l, x ∈ m) → l.length ≤ m.length
 | [], _, _, _ => Nat.zero_le _
 | x :: l, m, hn, hs => by
  have h1 : x ∈ m := hs x (by simp)
  have ⟨h2, h3⟩ := List.nodup_cons.1 hn
  have := z3L (l := l) (m := m.erase x) h3 fun y hy => (List.mem_erase_of_ne (fun e => h2 (by rw [← e]; exact hy))).2 (hs y (by simp [hy]))
  rw [List.length_erase_of_mem h1] at this
  have := List.length_pos_of_mem h1
  rw [List.length_cons]
  omega
theorem zcm (hk : k = 1 ∨ k = 2) : uY 16 (k : Int) = some (uR 16 0 (k + 1), 0) := by
 unfold uY
 have := z8D (a := 16) (f := 0) (t := k) ⟨by omega, by omega⟩ (by omega) (by omega)
 rw [show zag 16 0 k = false by rcases hk with rfl | rfl <;> kernel_rfl] at this
 rw [bdT (show uq 16 0 (k : Int) = _ from this)]
 rfl
theorem z2S (hk : k = 1 ∨ k = 2) : Wq 16 273 2 (uR 16 0 (k + 1)) :=
 ⟨Jv 16 0 _, by rw [Vz]; rcases hk with rfl | rfl <;> decide, fun w hw => ⟨by have := Uo 16 0 k w hw; omega, Ju 16 0 _ w hw⟩⟩
theorem z9C : chE 16 QQ = 0 := z2r.ch ⟨by omega, by omega⟩ (by omega) (by omega) (by omega)
theorem zbu (hk : k = 1 ∨ k = 2) : chE 16 (uR 16 0 (k + 1)) = 0 := (z2S hk).ch ⟨by omega, by omega⟩ (by omega) (by omega) (by omega)
theorem z9i (hk : k = 1 ∨ k = 2) {r : List (List Int) × Int} (e : uj QQ (uR 16 0 (k + 1)) 16 = some r) : zZ (xx false) (k : Int) = some (r.1, r.2) := by
 unfold zZ
 rw [bdT Xc, show ((0 : Int) != 0) = false from rfl, cond_false, decide_eq_false (by omega), cond_false, show (xx false).Inputs = 16 from rfl, bdT (zcm hk), show ((0 : Int) != 0) = false from rfl, cond_false, bdT e]
theorem z2p : xA (xx false) = some (PP, 0) := by
 obtain ⟨r, e, q⟩ := VW z9C (zbu (.inl rfl))
 rcases q with ⟨q, _⟩ | ⟨_, rfl⟩
 ·exfalso
  rcases q with ⟨w, hw, hl⟩ | q | q
  ·obtain ⟨u, hu, v, hv, rfl⟩ := uz.1 hw
   have h1 := (z2r.2.2 u hu).1
   have h2 := ((z2S (.inl rfl)).2.2 v hv).1
   rw [List.length_append] at hl
   omega
  ·rw [z3r, Qw] at q; omega
  ·rw [z3r, z3q] at q; omega
 unfold xA
 rw [bdT (show zZ (xx false) 1 = _ from z9i (.inl rfl) e), z3r]
def P3 : List (List Int) := (List.range 64).flatMap fun t => (XP 16 ((List.replicate t 3).map Int.ofNat)).flatMap (XP 16)
theorem z9I : P3.length = 16384 := by
 unfold P3
 rw [List.length_flatMap]
 have : ((List.range 64).map fun t => ((XP 16 ((List.replicate t 3).map Int.ofNat)).flatMap (XP 16)).length) = (List.range 64).map fun _ => 256 := List.map_congr_left fun t _ => by
  rw [List.length_flatMap]
  simp only [JI, List.map_const', List.sum_replicate_nat]
 rw [this, List.map_const', List.sum_replicate_nat, List.length_range]
theorem zb5 : SW P3 := by
 unfold P3 SW
 rw [List.pairwise_flatMap]
 refine ⟨fun t _ => z0O 16 (t + 1) (z0S 16 _) fun w hw => ?_, List.Pairwise.imp (fun {s t} h x hx y hy => ?_) List.pairwise_lt_range⟩
 ·obtain ⟨a, _, rfl⟩ := List.mem_map.1 hw
  simp
 ·obtain ⟨u, hu, hx⟩ := List.mem_flatMap.1 hx
  obtain ⟨v, hv, hy⟩ := List.mem_flatMap.1 hy
  obtain ⟨a, _, rfl⟩ := List.mem_map.1 hu
  obtain ⟨b, _, rfl⟩ := List.mem_map.1 hv
  obtain ⟨c, _, rfl⟩ := List.mem_map.1 hx
  obtain ⟨d, _, rfl⟩ := List.mem_map.1 hy
  exact YE (by simpa using h)
theorem z9L {i j : Nat} (hi : i < 16) (hj : j < 16) : [(i : Int), (j : Int)] ∈ uR 16 0 (2 + 1) := by
 unfold uR
 rw [if_pos (by omega)]
 refine List.mem_append.2 (.inr ?_)
 unfold exW exW exW
 simp only [List.flatMap_cons, List.flatMap_nil, List.append_nil]
 refine List.mem_flatMap.2 ⟨[(i : Int)], List.mem_map.2 ⟨i, List.mem_range.2 hi, rfl⟩, List.mem_map.2 ⟨j, List.mem_range.2 hj, rfl⟩⟩
theorem z5p : ∃ l, zZ (xx false) 2 = some (l, 3) := by
 obtain ⟨r, e, q⟩ := VW z9C (zbu (.inr rfl))
 rcases q with ⟨_, rfl⟩ | ⟨q, _⟩
 ·exact ⟨_, z9i (.inr rfl) e⟩
 ·exfalso
  refine q (.inr (.inl ?_))
  have := z3L (m := srt (qL QQ (uR 16 0 (2 + 1)))) zb5.nodup fun x hx => by
   obtain ⟨t, ht, hx⟩ := List.mem_flatMap.1 hx
   obtain ⟨u, hu, hx⟩ := List.mem_flatMap.1 hx
   obtain ⟨i, hi, rfl⟩ := List.mem_map.1 hu
   obtain ⟨j, hj, rfl⟩ := List.mem_map.1 hx
   rw [Xe, uz]
   exact ⟨_, List.mem_map.2 ⟨t, ht, rfl⟩, _, z9L (List.mem_range.1 hi) (List.mem_range.1 hj), by simp⟩
  rw [z9I] at this
  omega
theorem z2q : ∃ l, zZ (xx false) 257 = some (l, 3) := by
 have e : uY 16 257 = some ([], 3) := by
  unfold uY
  rw [bdT (z8E (a := 16) (f := 0) (t := 257) (.inr (.inr (.inr (by omega)))))]
  rfl
 unfold zZ
 rw [bdT Xc, show ((0 : Int) != 0) = false from rfl, cond_false, decide_eq_false (by omega), cond_false, show (xx false).Inputs = 16 from rfl, bdT e]
 exact ⟨_, rfl⟩
theorem z81 : ∀ w ∈ PP, w.length ≤ 64 ∧ ∀ c ∈ w, 0 ≤ c ∧ c < 16 := fun w hw => by
 obtain ⟨u, hu, v, hv, rfl⟩ := uz.1 ((z6H w).1 hw)
 have h1 := z2r.2.2 u hu
 rcases z1E.1 hv with rfl | ⟨i, hi, rfl⟩
 ·rw [List.append_nil]
  exact ⟨by omega, h1.2⟩
 ·refine ⟨by rw [List.length_append]; show _ + 1 ≤ 64; omega, fun c hc => ?_⟩
  rcases List.mem_append.1 hc with q | q
  ·exact h1.2 c q
  ·rw [List.mem_singleton.1 q]
   omega
theorem z5z (b : Bool) : Wq (xx b).Inputs 1025 64 PP := ⟨z82, by rw [Qw]; exact Nat.le_refl _, z81⟩
theorem z5w : Wq (xx false).Inputs 64 63 (QQ.drop 1) := ⟨List.Pairwise.sublist (List.drop_sublist 1 QQ) z7Z, by rw [List.length_drop]; have := z2r.2.1; omega, fun w hw => z2r.2.2 w (List.mem_of_mem_drop hw)⟩
theorem z1x (b : Bool) : xu (xx b) PP = some 0 := by
 rw [z1u, z2a (qd b), if_neg (by omega)]
 have : chE (xx b).Inputs PP = 0 := JN.2 ⟨XL.2 ⟨⟨(qd b).in1, (qd b).in16⟩, by rw [Qw]; omega, fun w hw => ⟨by have := (z81 w hw).1; omega, (z81 w hw).2⟩⟩, z82, by rw [z3q]; omega⟩
 rw [this]
theorem z3s {t i : Nat} (ht : t < 64) (hi : i < 16) : List.replicate t 3 ++ [i] ∈ z4M PP := by
 refine List.mem_map.2 ⟨(List.replicate t 3 ++ [i]).map Int.ofNat, ?_, ?_⟩
 ·refine List.mem_cons.2 (.inr (List.mem_flatMap.2 ⟨t, List.mem_range.2 ht, List.mem_map.2 ⟨i, List.mem_range.2 hi, ?_⟩⟩))
  rw [List.map_append]
  rfl
 ·rw [List.map_map]
  conv => rhs; rw [← List.map_id (List.replicate t 3 ++ [i])]
  exact List.map_congr_left fun c _ => rfl
theorem z4D {t : Nat} (ht : t < 64) : aft (xx false) 0 (List.replicate t 3) = (t : Int) := (Yw ht).aft
theorem z7R : zR (xx false) PP = some (true, 0) := by
 have hnat := z0J (z5z false)
 obtain ⟨q1, q2, q3⟩ := z0I (qd false) (z5z false)
 have e := z3w (qd false) q1 (by rw [q2, Qw]; omega) (fun w hw => by have := q3 w hw; omega) (by rw [hnat]; exact z1x false)
 rw [hnat] at e
 rw [e]
 have : tcB (xx false) (z4M PP) = true := by
  unfold tcB
  simp only [List.all_eq_true, List.any_eq_true, List.mem_range, KS]
  intro s hs i hi
  rw [uu] at hs
  rw [z3i] at hi
  exact ⟨_, z3s hs hi, by simp, by simpa using z4D hs⟩
 rw [this]
theorem z7S : yf (xx false) (QQ.drop 1) = some (false, 0) := by
 have hnat := z0J z5w
 obtain ⟨q1, q2, q3⟩ := z0I (qd false) z5w
 have e := z3x (qd false) q1 (by rw [q2]; have := z5w.2.1; omega) (fun w hw => by have := q3 w hw; omega) (by
  rw [hnat, z1u, z2a (qd false), if_neg (by omega), z5w.ch ⟨(qd false).in1, (qd false).in16⟩ (by omega) (by omega) (by omega)])
 rw [hnat] at e
 rw [e]
 have : scB (xx false) (z4M (QQ.drop 1)) = false := by
  rw [Bool.eq_false_iff]
  intro h
  unfold scB at h
  simp only [List.all_eq_true, List.any_eq_true, List.mem_range, beq_iff_eq] at h
  obtain ⟨w, hw, h⟩ := h 0 (by rw [uu]; omega)
  obtain ⟨v, hv, rfl⟩ := List.mem_map.1 hw
  obtain ⟨j, hj⟩ := List.mem_iff_getElem?.1 hv
  rw [List.getElem?_drop] at hj
  have hlt : 1 + j < 64 := by
   have := (List.getElem?_eq_some_iff.1 hj).1
   have := z2r.2.1
   omega
  have e2 : QQ[1 + j]? = some ((List.replicate (1 + j) 3).map Int.ofNat) := by simp [QQ, hlt]
  rw [hj] at e2
  cases e2
  rw [List.map_map, show ((List.replicate (1 + j) 3).map (Int.toNat ∘ Int.ofNat)) = List.replicate (1 + j) 3 by simp, z4D hlt] at h
  omega
 rw [this]
theorem z0W : ∀ (u : List Nat) (s : Nat), s ≤ 10 → Wd 16 u → aft (xx true) (s : Int) u < 0 ∨ ∃ k : Nat, k ≤ 10 ∧ aft (xx true) (s : Int) u = (k : Int)
 | [], s, hs, _ => .inr ⟨s, hs, rfl⟩
 | i :: u, s, hs, hw => by
  have hi : i < 16 := hw i (by simp)
  have hw' : Wd 16 u := fun j hj => hw j (by simp [hj])
  simp only [aft, Zu]
  rw [Kx true (by omega) hi]
  unfold eR
  by_cases e : i = 3
  ·rw [if_pos e]
   by_cases e10 : s = 10
   ·rw [if_pos ⟨rfl, e10⟩]
    exact .inl (K0 _ u _ (by show (-1 : Int) < 0; omega))
   ·rw [if_neg (fun q => e10 q.2)]
    simp only
    rw [show (s + 1) % 64 = s + 1 by omega]
    exact z0W u (s + 1) (by omega) hw'
  ·rw [if_neg e]
   simp only
   exact z0W u s hs hw'
theorem z0V : ∀ t s : Nat, s + t ≤ 10 → aft (xx true) (s : Int) (List.replicate t 3) = ((s + t : Nat) : Int)
 | 0, s, _ => rfl
 | t + 1, s, h => by
  simp only [List.replicate_succ, aft, Zu]
  rw [Kx true (by omega) (by omega)]
  unfold eR
  rw [if_pos rfl, if_neg (fun q => by omega)]
  simp only
  rw [show (s + 1) % 64 = s + 1 by omega, z0V t (s + 1) (by omega)]
  congr 1
  omega
theorem z6W (hu : Wd 16 u) : aft (xx true) 0 u ≠ 11 := fun q => by
 rcases z0W u 0 (by omega) hu with h | ⟨k, hk, h⟩
 ·rw [show ((0 : Nat) : Int) = 0 from rfl] at h; omega
 ·rw [show ((0 : Nat) : Int) = 0 from rfl] at h; omega
theorem z2A : ∃ l, xk (xx true) = some (l, 11) := by
 obtain ⟨r, e, q⟩ := Qm (qd true)
 rcases q with ⟨q, _⟩ | ⟨_, rfl⟩
 ·obtain ⟨u, hu, h⟩ := q 11 (by rw [uu]; omega)
  exact absurd h (z6W hu)
 ·exact ⟨_, e⟩
theorem z8m : ∃ c, wz (xx true) PP = some (c, 0) ∧ c.States[10]? = some true ∧ c.States[11]? = some false ∧ ∃ x, c.Edges[10]? = some x ∧ x[3]? = some false ∧ x[4]? = some true := by
 have v := qd true
 have hnat := z0J (z5z true)
 obtain ⟨q1, q2, q3⟩ := z0I v (z5z true)
 have e := z84 v q1 (by rw [q2, Qw]; omega) (fun w hw => by have := q3 w hw; omega) (by rw [hnat]; exact z1x true)
 rw [hnat] at e
 have hc := z4e v q1 Wv
 obtain ⟨s1, s2⟩ := z4f v (c := W7 (xx true)) q1 Wv
 refine ⟨_, e, ?_⟩
 generalize z4g (xx true) (z4M PP) (W7 (xx true)) = c at hc s1 s2
 have hst := hc.st
 rw [uu] at hst
 have h4 : UC c 10 4 := (s2 10 4).2 (.inl ⟨_, z3s (t := 10) (i := 4) (by omega) (by omega), 10, by simp, by
  have := z0V 10 0 (by omega)
  simpa using this, by rw [Kx true (by omega) (by omega)]; decide⟩)
 have h10 : W5 c 10 := (s1 10).2 (.inl ⟨_, z3s (t := 10) (i := 4) (by omega) (by omega), 10, by simp, by
  have := z0V 10 0 (by omega)
  simpa using this⟩)
 have n11 : ¬ W5 c 11 := fun q => by
  rcases (s1 11).1 q with ⟨w, hw, k, hk, h⟩ | q
  ·exact z6W (fun i hi => q1 w hw i (List.mem_of_mem_take hi)) h
  ·exact (XQ (m := xx true) (s := 11) (i := 0)).1 q
 have n3 : ¬ UC c 10 3 := fun q => by
  rcases (s2 10 3).1 q with ⟨w, hw, k, _, _, h⟩ | q
  ·exact h (by rw [Kx true (by omega) (by omega)]; rfl)
  ·exact (XQ (m := xx true) (s := 10) (i := 3)).2 q
 obtain ⟨x, x1, x2⟩ := h4
 have hx := hc.row 10 x x1
 rw [z3i] at hx
 refine ⟨h10, ?_, x, x1, ?_, x2⟩
 ·have h : c.States[11]? = some c.States[11] := List.getElem?_eq_getElem (by omega)
  rw [h]
  cases hb : c.States[11] with
  | false => rfl
  | true => rw [hb] at h; exact absurd h n11
 ·have h : x[3]? = some x[3] := List.getElem?_eq_getElem (by omega)
  rw [h]
  cases hb : x[3] with
  | false => rfl
  | true => rw [hb] at h; exact absurd ⟨x, x1, h⟩ n3
theorem z5n (s : Int) : loop (fun q => wF s q.1 q.2) (List.replicate (16 : Int).toNat (z8.mk 0 0), 0) = some ((List.range 16).map fun _ => z8.mk s 0) := by kernel_rfl
theorem z7P (s : Nat) : ((List.range 16).map fun _ => z8.mk (s : Int) 0).set (3 : Int).toNat ⟨(((s + 1) % 64 : Nat) : Int), 0⟩ = (List.range 16).map fun i => eR false s i := by kernel_rfl
theorem z3h : loop (fun s => zW s.1 s.2) ([], 0) = some (xx false).Rows := by
 have := YB (step := fun s => zW s.1 s.2) (fun n => ((List.range n).map fun s => (List.range 16).map fun i => eR false s i, (n : Int))) 64 (t := (xx false).Rows) (by omega) (fun n hn => ?_) ?_
 ·exact this
 ·show zW _ (n : Int) = _
  unfold zW
  rw [decide_eq_true (by omega), cond_true, gdT (by omega), bdT (z5n n)]
  unfold wG wH
  have h3 : idx ((List.range 16).map fun _ => z8.mk (n : Int) 0) 3 = some ⟨n, 0⟩ := rfl
  have hm : Int.tmod (w64 ((n : Int) + 1)) 64 = (((n + 1) % 64 : Nat) : Int) := by
   rw [wK (by omega) (by omega), Int.tmod_eq_emod_of_nonneg (by omega)]
   omega
  rw [gdT (by omega), bdT h3, hm, z7P, gdT (by simp; omega), wK (by omega) (by omega)]
  simp only [List.range_succ (n := n), List.map_append]
  rfl
 ·show zW _ ((64 : Nat) : Int) = _
  unfold zW
  rw [decide_eq_false (by omega), cond_false]
  rfl
theorem z60 : (xx false).Rows.set (10 : Int).toNat (((List.range 16).map fun i => eR false 10 i).set (3 : Int).toNat ⟨-1, -1⟩) = (xx true).Rows := by kernel_rfl
theorem z5M : vT = some true := by
 have j : ∀ m, m = xx false → xI m.Rows = some true := fun m hm => by
  obtain ⟨l2, h2⟩ := z5p
  obtain ⟨l3, h3⟩ := z2q
  obtain ⟨l4, h4⟩ := z2A
  obtain ⟨c, c1, c2, c3, x, c4, c5, c6⟩ := z8m
  have hq : QQ.length = 64 := by simp [QQ]
  have hp := Qw
  have e0 : z6.mk 16 1 m.Rows = xx false := by rw [hm]; rfl
  have r10 : idx m.Rows 10 = some ((List.range 16).map fun i => eR false 10 i) := by rw [hm]; rfl
  have r3 : idx ((List.range 16).map fun i => eR false 10 i) 3 = some ⟨11, 0⟩ := rfl
  have ec : z6.mk 16 1 (m.Rows.set (10 : Int).toNat (((List.range 16).map fun i => eR false 10 i).set (3 : Int).toNat ⟨-1, -1⟩)) = xx true := by
   rw [hm, z60]; rfl
  have t1 := Xc
  have t2 := z2p
  have t3 := z7R
  have t4 := z7S
  clear hm
  generalize xx false = M at *
  generalize xx true = N at *
  generalize QQ = q at *
  generalize PP = p at *
  unfold xI
  rw [e0, bdT t1, bdT t2, bdT h2, bdT h3, bdT t3]
  simp only
  rw [hq, show (((64 : Nat) : Int) != 64) = false from rfl, cond_false, gdT (by omega), show (1 : Int).toNat = 1 from rfl, bdT t4, hp]
  simp only [show ((0 : Int) != 0) = false from rfl, show ((3 : Int) != 3) = false from rfl, show (((1025 : Nat) : Int) != 1025) = false from rfl, Bool.not_true, cond_false]
  rw [bdT r10, bdT r3, ec, bdT h4, bdT c1]
  simp only [show ((11 : Int) == 11) = true from rfl, show ((0 : Int) == 0) = true from rfl, cond_true]
  rw [show idx c.States 10 = some true from c2, oB, cond_true, show idx c.States 11 = some false from c3, oB, Bool.not_false, cond_true, show idx c.Edges 10 = some x from c4, oB, show idx x 3 = some false from c5, oB, Bool.not_false, cond_true, oB, show idx x 4 = some true from c6, oB, cond_true, KM]
  rfl
 unfold vT
 rw [bdT z3h]
 exact j _ rfl
def zcF (w : World) : zf := fun b o => zU w.heap b o
variable {v : Value}
section
open Go Go.ChangeShapes Go.WideShapes Go.ChangeAt Go.RowKit
theorem z3t {P : Program} {H : Type} {enc : TypeId × Value → H} {f : Func} {s : ChangeSpec} {apart fresh handsOn again : Bool} {W W' : World} {args : Array Value} {v : Value} {ds : List (DataW H)} {pa : List MemPlace}
  (hvar : s.vars = []) (hvars2 : (s.fn H (ds ++ [])).vars = []) (hW : DataW.Whole enc P f.params.toList s.vars apart W args.toList ds [] (pa ++ [])) (hb : Below W.heap.size W W')
  (hres : ∀ (b : Nat) (sp : Nat → Bool) (hd : Bool), DataW.TrodAll enc P W' b sp hd f.resultTypes.toList (v.resultList f.resultTypes.size) (s.fn H (ds ++ [])).results [])
  (hargs : ∀ sp : Nat → Bool, (∀ p ∈ pa ++ [], sp p.block = true) → DataW.TrodAll enc P W' 0 sp true f.params.toList args.toList (s.fn H (ds ++ [])).args pa)
  (hok : ∀ (j : Nat) (t : TypeId) (r : Value), f.resultTypes[j]? = some t → (v.resultList f.resultTypes.size)[j]? = some r → Value.okWide P W' .any 0 t r) :
  s.post enc P f apart fresh handsOn again W args v W' := by
 have hlt : ∀ p ∈ pa ++ [], p.block < W.heap.size := fun p hp => by simpa using hW.lt p hp
 have hvr : ∀ sp : Nat → Bool, DataW.TrodVars enc P W' sp s.vars (s.fn H (ds ++ [])).vars [] := fun sp => by rw [hvar, hvars2]; rfl
 refine ⟨ds, [], pa ++ [], [], pa, [], hW, hres _ _ _, hargs _ (fun p hp => by simpa using hlt p hp), hvr _, World.keptBut_mono (fun _ q => q.elim) (hb.frame fun _ => False), fun _ => ?_⟩
 have ⟨_, _, _, _, _, hz, hn⟩ := hW
 refine ⟨hok, _, _, ([] ++ pa) ++ [], ⟨[] ++ pa, [], trodAll_append (hargs _ (fun _ _ => rfl)) (hres _ _ _), hvr _, rfl, ?_, ?_⟩, ?_⟩
 ·intro b off hp
  have hp' : MemPlace.cell b off ∈ pa ++ [] := by simpa using hp
  rw [hb.frozen (p := ⟨b, off, none⟩) (hlt _ hp')]
  exact hz b off hp'
 ·intro ha
  simpa using hn ha
 ·intro p hp _
  simpa using hp
end
theorem z5d {P : Program}  {α ρ : Type} {enc : α → List A} {encR : ρ → A} {F : α → Option ρ} {gives : List Bool} {inj : ∀ x y, enc x = enc y → x = y} (h : (spF k enc encR F gives inj).Ok P) {x : α} {r : ρ} (hr : F x = some r) : ZU P k (enc x) (encR r) := by
 have := h x ⟨r, hr⟩
 simpa only [spF, hr] using this
section
variable {P : Program} {w : World} {r : Reach} {base t : Nat} {v : Value}
theorem z5R {S : zf} {h : Array Obj}  {F : List Nat} (q : Has S h (.atom (.bool true)) v F) : v = .bool true := by
 rcases q with ⟨q, _⟩ | ⟨cs, q, _, rfl⟩
 ·rw [(zo.1 q).1]
 ·simp [zw, Rep] at q
  obtain ⟨⟨rfl, _⟩, _⟩ := q
  rfl
end
open Go.Proofs
end Go.Own
namespace Go.Proofs.Ytmedkleidpbgpaa.coversKnown
open Go Go.ChangeShapes Go.WideShapes Go.ChangeAt Go.RowKit
theorem own : ownKnob Try.prog.godebug = none := by kernel_rfl
section
variable {H : Type} {enc : TypeId × Value → H} {W : World}
set_option maxRecDepth 100000 in
theorem zcl {base : Nat} :
  Calls Try.prog 4 #[] W fun e w' => e = .returned (.bool true) ∧ Go.Own.ZQ (fun k => W.heap.size ≤ k) W w' := by
 have q := (Go.Own.z5d (Go.Own.z2B Go.Own.zal List.mem_cons_self : Go.Own.vZ.Ok Try.prog) (x := ()) (r := true) (Go.Own.z5M)).2 (Go.Own.zcF W) W [] [] ⟨fun _ _ _ h => h, fun _ _ e => (by cases e), fun _ _ e => (by cases e)⟩ ?_ (by simp)
 ·refine Calls.mono q ?_
  rintro e w' ⟨v, S', F', rfl, hk, _, _, _, hr, _, _⟩
  refine ⟨?_, hk.mono (by rintro k (h | h) <;> simp_all)⟩
  rw [Go.Own.z5R hr]
 ·refine Go.Own.Yt ?_
  exact trivial
end
set_option maxRecDepth 100000 in
theorem z9S (os : Os) (started : os.Started) (H : Type) (enc : TypeId × Value → H) :
  ReturnsInHanded {} Try.checked os 4 .any (Rows.coversKnownSpec.pre6 enc Try.prog Try.f4 Rows.coversKnownRow.domain false) (Rows.coversKnownSpec.post enc Try.prog Try.f4 false true false false) := by
 refine returnsInHanded_of_change (C := Try.checked) own started (by kernel_rfl) Try.func4
  (ChangeSpec.witness6 (enc := enc) (C := Try.checked) false ⟨#[], #[], []⟩ 8 (by kernel_rfl) (by kernel_rfl) (by kernel_rfl) (by kernel_rfl)) ?_
 intro W base args ds gs before hval0 hW hcnd _
 have hval : ∀ (j : Nat) t v, Try.f4.params[j]? = some t → args[j]? = some v → Value.okWide Try.prog W .any base t v := hval0
 have hW' := hW
 obtain ⟨p, q, hA0, hV, rfl, hfz, hnd⟩ := hW
 have hA : DataW.TrodAll enc Try.prog W 0 (fun _ => true) true Try.f4.params.toList args.toList ds p := hA0
 rw [Try.params4] at hA hval
 obtain ⟨rfl, rfl, rfl⟩ := trodAll_none hA
 obtain ⟨rfl, rfl⟩ := trodVars_none hV
 clear hA0 hval0
 refine (zcl (base := base)).mono fun e W' ⟨he, hk⟩ => ?_
 subst he
 have hb : Below W.heap.size W W' := ⟨hk.os, hk.tape, hk.output, hk.size, fun k q => hk.block k (by omega)⟩
 have hlt : ∀ x ∈ ([] : List MemPlace), x.block < W.heap.size := fun x hx => by cases hx
 refine ⟨_, rfl, Go.Own.z3t rfl rfl hW' hb (fun _ _ _ => trodAll_cons_mk (shut_bool Try.underlying4 _) trodAll_mk0) (fun sp hsp => ?_) (ok_one (by kernel_rfl) rfl (okWide_bool_mk Try.underlying4 _))⟩
 rw [Try.params4]
 exact trodAll_mk0
theorem Zs : Rows.coversKnownRow.holds Try.pinned (OpenSpec.ofChange Rows.coversKnownSpec) :=
 OpenClaim.holds_of_wide 4 Try.f4 rfl rfl rfl rfl rfl rfl rfl ⟨rfl, rfl, rfl, rfl, rfl⟩ rfl rfl rfl rfl rfl (by kernel_rfl) Try.func4 (by kernel_rfl)
  (of_decide_eq_true (by kernel_rfl)) (by unfold Func.isWrapper; first | (rw [if_pos (by decide +kernel)]; kernel_rfl) | (rw [if_neg (by decide +kernel)]; exact ⟨rfl, rfl⟩))
  (fun os started H enc _ => z9S os started H enc)
theorem proved : Rows.CoversKnownSaid :=
 Zs
#print axioms proved
end Go.Proofs.Ytmedkleidpbgpaa.coversKnown
