/- -/
import Derived.Test.YtmedkleidpbgpaaPartC
import Derived.Test.YtmedkleidpbgpaaPartE
import Derived.Test.YtmedkleidpbgpaaPartB
import Derived.OpenShut
import Derived.ChangeShapes
import Derived.WalkKit
import Derived.ProofKit
import Derived.Carry
import Derived.Test.YtmedkleidpbgpaaPartF
import Derived.Test.YtmedkleidpbgpaaRows
import Derived.Test.YtmedkleidpbgpaaChecked
set_option linter.unusedVariables false
set_option linter.unusedSimpArgs false
namespace Go.Own
theorem oB {α : Type _} {β : Type _} (a : α) (f : α → Option β) : Option.bind (some a) f = f a := rfl
theorem yq {x : Int} (h1 : -9223372036854775808 ≤ x) (h2 : x ≤ 9223372036854775807) : w64 x = x := by
 simp only [w64, IntKind.wrap, IntKind.bits, IntKind.signed]
 simp
 omega
variable {k : Nat}
section
variable {α β σ τ ρ : Type}
def Ret (x : Option α) (Q : α → Prop) : Prop := ∃ a, x = some a ∧ Q a
theorem Ret.mono {x : Option α} {Q R : α → Prop} (h : Ret x Q) (q : ∀ a, Q a → R a) : Ret x R := by
 have ⟨a, e, h⟩ := h
 exact ⟨a, e, q a h⟩
theorem Ret.eq {x : Option α} {a : α} (h : Ret x fun b => b = a) : x = some a := by
 obtain ⟨b, e, rfl⟩ := h
 exact e
theorem zU {a : α} {Q : α → Prop} : Ret (some a) Q ↔ Q a := ⟨fun ⟨b, e, q⟩ => by cases e; exact q, fun q => ⟨a, rfl, q⟩⟩
theorem qj {x : Option α} {f : α → Option β} {Q : β → Prop} : Ret (Option.bind x f) Q ↔ Ret x fun a => Ret (f a) Q := by
 cases x with
 | none => exact ⟨fun ⟨b, e, _⟩ => (by cases e), fun ⟨b, e, _⟩ => (by cases e)⟩
 | some a => exact ⟨fun h => ⟨a, rfl, h⟩, fun ⟨b, e, h⟩ => by cases e; exact h⟩
theorem uY {c : Bool} {x y : Option α} {Q : α → Prop} : Ret (bif c then x else y) Q ↔ (c = true → Ret x Q) ∧ (c = false → Ret y Q) := by
 cases c <;> simp
theorem Up (l : List α) (i : Nat) : idx l (i : Int) = l[i]? := rfl
theorem gdT {p : Prop} [Decidable p] {x : Option α} (h : p) : gd p x = x := by unfold gd; rw [if_pos h]
theorem bdT {x : Option α} {u : α} {f : α → Option ρ} (h : x = some u) : Option.bind x f = f u := by rw [h]; rfl
theorem vR (step : σ → Option (LR σ τ)) (n : Nat) (s : σ) : ZY step (n + 1) s = (match step s with | none => none | some (.next s') => ZY step n s' | some (.done t) => some t) := rfl
def LRP (N : σ → Prop) (D : τ → Prop) : LR σ τ → Prop
 | .next s => N s
 | .done t => D t
theorem qW {step : σ → Option (LR σ τ)} (I : σ → Prop) (m : σ → Nat) {R : τ → Prop} {s : σ} (hs : I s) (hm : m s < 18446744073709551616)
  (h : ∀ s, I s → Ret (step s) (LRP (fun s' => I s' ∧ m s' < m s) R)) : Ret (loop step s) R := by
 have gen : ∀ (n : Nat) (s : σ), I s → m s < n → Ret (ZY step n s) R := by
  intro n
  induction n with
  | zero => intro s _ h; omega
  | succ n ih =>
   intro s hs hm
   have ⟨a, e, q⟩ := h s hs
   rw [vR, e]
   cases a with
   | next s' => exact ih s' q.1 (by have := q.2; omega)
   | done t => exact ⟨t, rfl, q⟩
 exact gen KU s hs hm
theorem vq {step : σ → Option (LR σ τ)} (st : Nat → σ) (n : Nat) {t : τ} (hn : n < 9223372036854775808) (h : ∀ i, i < n → step (st i) = some (.next (st (i + 1)))) (hd : step (st n) = some (.done t)) : loop step (st 0) = some t := by
 have gen : ∀ (k : Nat) (i : Nat), i ≤ n → n - i < k → ZY step k (st i) = some t := by
  intro k
  induction k with
  | zero => intro i _ h; omega
  | succ k ih =>
   intro i hi hk
   rw [vR]
   rcases Nat.lt_or_ge i n with q | q
   ·rw [h i q]
    exact ih (i + 1) q (by omega)
   ·have : i = n := by omega
    subst this
    rw [hd]
 exact gen KU 0 (Nat.zero_le _) (by show n - 0 < 18446744073709551616; omega)
def x6 (f : Nat → α → Option ρ) : List α → Nat → Option ρ
 | [], _ => none
 | x :: l, i => match f i x with | some r => some r | none => x6 f l (i + 1)
theorem X7 {f : Nat → α → Option ρ} : ∀ {l : List α} {k : Nat}, (∀ i x, l[i]? = some x → f (k + i) x = none) → x6 f l k = none
 | [], _, _ => rfl
 | x :: l, k, h => by
  have h0 := h 0 x rfl
  simp [Nat.add_zero] at h0
  simp [x6, h0]
  exact X7 fun i y hy => by have := h (i + 1) y (by simpa using hy); rwa [show k + 1 + i = k + (i + 1) by omega]
theorem jQ {f : Nat → α → Option ρ} {r : ρ} : ∀ {l : List α} {k : Nat}, x6 f l k = some r → ∃ i x, l[i]? = some x ∧ f (k + i) x = some r
 | [], _, h => by cases h
 | x :: l, k, h => by
  simp [x6] at h
  cases hf : f k x with
  | some r' => rw [hf] at h; exact ⟨0, x, rfl, by rw [Nat.add_zero, hf]; exact h⟩
  | none =>
   rw [hf] at h
   have ⟨i, y, h1, h2⟩ := jQ h
   exact ⟨i + 1, y, by simpa using h1, by rw [← h2]; congr 1; omega⟩
theorem XD {f : Nat → α → Option ρ} {l : List α}  (h : x6 f l k = none) : ∀ i x, l[i]? = some x → f (k + i) x = none := by
 induction l generalizing k with
 | nil => intro i x h; simp at h
 | cons y l ih =>
  intro i x hx
  simp [x6] at h
  cases hf : f k y with
  | some r' => rw [hf] at h; cases h
  | none =>
   rw [hf] at h
   cases i with
   | zero => simp at hx; subst hx; simpa using hf
   | succ i => have := ih h i x (by simpa using hx); rwa [show k + (i + 1) = k + 1 + i by omega]
def oS : Option ρ → Unit ⊕ ρ
 | some r => .inr r
 | none => .inl ()
def nS (i : Nat) : Option ρ → LR Int (Unit ⊕ ρ)
 | some r => .done (.inr r)
 | none => .next (w64 ((i : Int) + 1))
theorem uv (l : List α) (hl : l.length < 4611686018427387904) {step : Int → Option (LR Int (Unit ⊕ ρ))} (f : Nat → α → Option ρ)
  (h : ∀ (i : Nat) (x : α), l[i]? = some x → step (i : Int) = some (nS i (f i x))) (h2 : step (l.length : Int) = some (.done (.inl ()))) :
  loop step 0 = some (oS (x6 f l 0)) := by
 have gen : ∀ (n : Nat) (k : Nat), k ≤ l.length → l.length - k < n → ZY step n (k : Int) = some (oS (x6 f (l.drop k) k)) := by
  intro n
  induction n with
  | zero => intro k _ h; omega
  | succ n ih =>
   intro k hk hn
   rw [vR]
   rcases Nat.lt_or_ge k l.length with hlt | hge
   ·have hx : l[k]? = some l[k] := List.getElem?_eq_getElem hlt
    rw [h k _ hx, List.drop_eq_getElem_cons hlt]
    simp [x6]
    cases hf : f k l[k] with
    | some r => rfl
    | none =>
     simp [nS]
     rw [yq (by omega) (by omega)]
     exact ih (k + 1) hlt (by omega)
   ·have : k = l.length := by omega
    subst this
    rw [h2, List.drop_length]
    rfl
 exact gen KU 0 (Nat.zero_le _) (by show l.length - 0 < 18446744073709551616; omega)
end
def xK : List Int → List Int → Int
 | [], [] => 0
 | [], _ :: _ => -1
 | _ :: _, [] => 1
 | x :: a, y :: b => if x < y then -1 else if y < x then 1 else xK a b
def uP (a b : List Int) : Int := if a.length < b.length then -1 else if b.length < a.length then 1 else xK a b
theorem z3j : ∀ {a b : List Int}, xK a b = 0 → a = b
 | [], [], _ => rfl
 | [], _ :: _, h => by simp [xK] at h
 | _ :: _, [], h => by simp [xK] at h
 | x :: a, y :: b, h => by
  simp [xK] at h
  split at h
  ·simp at h
  ·split at h
   ·simp at h
   ·rw [show x = y by omega, z3j h]
theorem KI : ∀ a : List Int, xK a a = 0
 | [] => rfl
 | x :: a => by simp [xK, KI a]
theorem z1q : ∀ a b : List Int, xK b a = - xK a b
 | [], [] => rfl
 | [], _ :: _ => rfl
 | _ :: _, [] => rfl
 | x :: a, y :: b => by
  simp [xK]
  split
  ·rw [if_neg (by omega)]
  ·split
   ·rfl
   ·exact z1q a b
theorem Qu : ∀ {a b c : List Int}, xK a b < 0 → xK b c < 0 → xK a c < 0
 | [], [], _, h, _ => by simp [xK] at h
 | [], _ :: _, [], _, h => by simp [xK] at h
 | [], _ :: _, _ :: _, _, _ => by simp [xK]
 | _ :: _, [], _, h, _ => by simp [xK] at h
 | _ :: _, _ :: _, [], _, h => by simp [xK] at h
 | x :: a, y :: b, z :: c, h1, h2 => by
  simp [xK] at h1 h2 ⊢
  by_cases e1 : x < y
  ·by_cases e2 : y < z
   ·rw [if_pos (by omega)]; omega
   ·rw [if_neg e2] at h2
    by_cases e3 : z < y
    ·rw [if_pos e3] at h2; omega
    ·rw [if_pos (by omega)]; omega
  ·rw [if_neg e1] at h1
   by_cases e3 : y < x
   ·rw [if_pos e3] at h1; omega
   ·rw [if_neg e3] at h1
    have : x = y := by omega
    subst this
    by_cases e2 : x < z
    ·rw [if_pos e2]; omega
    ·rw [if_neg e2] at h2 ⊢
     by_cases e4 : z < x
     ·rw [if_pos e4] at h2; omega
     ·rw [if_neg e4] at h2 ⊢
      exact Qu h1 h2
theorem JD {a b : List Int} (h : uP a b = 0) : a = b := by
 unfold uP at h
 split at h
 ·simp at h
 ·split at h
  ·simp at h
  ·exact z3j h
theorem XE (a : List Int) : uP a a = 0 := by simp [uP, KI]
theorem z1I {a b : List Int} : uP a b = 0 ↔ a = b := ⟨JD, fun h => h ▸ XE a⟩
theorem z1H (a b : List Int) : uP b a = - uP a b := by
 unfold uP
 by_cases h1 : a.length < b.length
 ·rw [if_pos h1, if_neg (by omega), if_pos h1]; rfl
 ·by_cases h2 : b.length < a.length
  ·rw [if_pos h2, if_neg h1, if_pos h2]
  ·rw [if_neg h1, if_neg h2, if_neg h2, if_neg h1, z1q]
theorem Zb {a b c : List Int} (h1 : uP a b < 0) (h2 : uP b c < 0) : uP a c < 0 := by
 unfold uP at *
 by_cases e1 : a.length < b.length
 ·by_cases e2 : b.length < c.length
  ·rw [if_pos (by omega)]; omega
  ·rw [if_neg e2] at h2
   by_cases e3 : c.length < b.length
   ·rw [if_pos e3] at h2; omega
   ·rw [if_pos (by omega)]; omega
 ·rw [if_neg e1] at h1
  by_cases e3 : b.length < a.length
  ·rw [if_pos e3] at h1; omega
  ·rw [if_neg e3] at h1
   have e : a.length = b.length := by omega
   rw [e]
   by_cases e2 : b.length < c.length
   ·rw [if_pos e2]; omega
   ·rw [if_neg e2] at h2 ⊢
    by_cases e4 : c.length < b.length
    ·rw [if_pos e4] at h2; omega
    ·rw [if_neg e4] at h2 ⊢
     exact Qu h1 h2
theorem XF (a : List Int) : ¬ uP a a < 0 := by rw [XE]; omega
theorem z02 {a b : List Int} (h : uP a b < 0) : ¬ uP b a < 0 := by rw [z1H a b]; omega
theorem z0O {a b : List Int} : ¬ uP a b < 0 ↔ uP b a < 0 ∨ a = b := by
 rw [← z1I, z1H a b]; omega
def SW (l : List (List Int)) : Prop := l.Pairwise fun a b => uP a b < 0
theorem SW.nil : SW [] := List.Pairwise.nil
variable {l : List (List Int)}{x : List Int}
theorem SW.tail (h : SW (x :: l)) : SW l := (List.pairwise_cons.1 h).2
theorem SW.head (h : SW (x :: l)) : ∀ y ∈ l, uP x y < 0 := (List.pairwise_cons.1 h).1
theorem SW.unique : ∀ {l m : List (List Int)}, SW l → SW m → (∀ x, x ∈ l ↔ x ∈ m) → l = m
 | [], [], _, _, _ => rfl
 | [], y :: m, _, _, h => by have := (h y).2 (by simp); simp at this
 | x :: l, [], _, _, h => by have := (h x).1 (by simp); simp at this
 | x :: l, y :: m, h1, h2, h => by
  have hxy : x = y := by
   rcases List.mem_cons.1 ((h x).1 (by simp)) with e | e
   ·exact e
   ·rcases List.mem_cons.1 ((h y).2 (by simp)) with e' | e'
    ·exact e'.symm
    ·exact absurd (h2.head x e) (z02 (h1.head y e'))
  subst hxy
  rw [SW.unique h1.tail h2.tail fun z => ?_]
  constructor
  ·intro hz
   rcases List.mem_cons.1 ((h z).1 (by simp [hz])) with e | e
   ·subst e; exact absurd (h1.head _ hz) (XF _)
   ·exact e
  ·intro hz
   rcases List.mem_cons.1 ((h z).2 (by simp [hz])) with e | e
   ·subst e; exact absurd (h2.head _ hz) (XF _)
   ·exact e
theorem SW.sub {l m : List (List Int)} (h : SW l) (hs : List.Sublist m l) : SW m := List.Pairwise.sublist hs h
theorem SW.filter (h : SW l) (p : List Int → Bool) : SW (l.filter p) := h.sub List.filter_sublist
theorem SW.nodup (h : SW l) : l.Nodup := List.Pairwise.imp (fun {a b} q e => by subst e; exact XF _ q) h
def z09 (w : List Int) : List (List Int) → List (List Int)
 | [] => [w]
 | x :: l => if uP x w < 0 then x :: z09 w l else if uP x w = 0 then x :: l else w :: x :: l
theorem Jq {w x : List Int} : ∀ {l : List (List Int)}, x ∈ z09 w l ↔ x = w ∨ x ∈ l
 | [] => by simp [z09]
 | y :: l => by
  simp [z09]
  split
  ·simp [List.mem_cons, Jq]
   constructor
   ·rintro (h | h | h) <;> simp [h]
   ·rintro (h | h | h) <;> simp [h]
  ·split
   ·rename_i h1 h2
    have := JD h2
    subst this
    simp
   ·simp
variable {w : List Int}
theorem SW.put : ∀ {l : List (List Int)}, SW l → SW (z09 w l)
 | [], _ => by simp [z09, SW]
 | y :: l, h => by
  simp [z09]
  split
  ·rename_i h1
   refine List.pairwise_cons.2 ⟨fun z hz => ?_, SW.put h.tail⟩
   rcases Jq.1 hz with rfl | hz
   ·exact h1
   ·exact h.head z hz
  ·split
   ·exact h
   ·rename_i h1 h2
    have hw : uP w y < 0 := by
     rcases z0O.1 h1 with q | q
     ·exact q
     ·exact absurd (z1I.2 q) h2
    refine List.pairwise_cons.2 ⟨fun z hz => ?_, h⟩
    rcases List.mem_cons.1 hz with rfl | hz
    ·exact hw
    ·exact Zb hw (h.head z hz)
theorem z1g (w : List Int) : ∀ l, (z09 w l).length ≤ l.length + 1
 | [] => by simp [z09]
 | y :: l => by
  simp [z09]
  split
  ·have := z1g w l; simp; omega
  ·split <;> simp
def srt (l : List (List Int)) : List (List Int) := l.foldl (fun m w => z09 w m) []
theorem z0l : ∀ (l m : List (List Int)), SW m → SW (l.foldl (fun m w => z09 w m) m) ∧ ∀ x, x ∈ l.foldl (fun m w => z09 w m) m ↔ x ∈ m ∨ x ∈ l
 | [], m, h => ⟨h, by simp⟩
 | w :: l, m, h => by
  have ⟨h1, h2⟩ := z0l l (z09 w m) h.put
  refine ⟨h1, fun x => ?_⟩
  rw [List.foldl_cons, h2, Jq]
  simp [List.mem_cons]
  constructor
  ·rintro ((h | h) | h) <;> simp [h]
  ·rintro (h | h | h) <;> simp [h]
theorem km (l : List (List Int)) : SW (srt l) := (z0l l [] .nil).1
theorem yZ : x ∈ srt l ↔ x ∈ l := by rw [srt, (z0l l [] .nil).2]; simp
theorem z2F {l m : List (List Int)} (h : SW m) (hm : ∀ x, x ∈ m ↔ x ∈ l) : m = srt l := h.unique (km l) fun x => by rw [hm, yZ]
theorem Yc (h : SW l) : srt l = l := (z2F h fun _ => .rfl).symm
theorem VJ {l m : List (List Int)} (h : ∀ x, x ∈ l ↔ x ∈ m) : srt l = srt m := z2F (km l) fun x => by rw [yZ, h]
theorem Jb (l : List (List Int)) : (srt l).length ≤ l.length := by
 have : ∀ (l m : List (List Int)), (l.foldl (fun m w => z09 w m) m).length ≤ m.length + l.length := by
  intro l
  induction l with
  | nil => intro m; simp
  | cons w l ih => intro m; have := ih (z09 w m); have := z1g w m; simp [List.foldl_cons, List.length_cons]; omega
 have q := this l []
 simp [List.length_nil, Nat.zero_add] at q
 exact q
variable {i : Nat}{α : Type}
theorem zC {l : List α}  {x : α} (h : l[i]? = some x) : idx l (i : Int) = some x := h
theorem z3A (b : List Int) (g : Nat → Int → Option Int) (hg : ∀ i x y, b[i]? = some y → g i x = if x < y then some (-1) else if y < x then some 1 else none) :
  ∀ (a : List Int) (k : Nat), k + a.length = b.length → (x6 g a k).getD 0 = xK a (b.drop k)
 | [], k, h => by
  have : b.drop k = [] := List.drop_eq_nil_of_le (by simp at h; omega)
  rw [this]; rfl
 | x :: a, k, h => by
  simp [List.length_cons] at h
  have hk : k < b.length := by omega
  rw [List.drop_eq_getElem_cons hk]
  simp [x6, xK, hg k x b[k] (List.getElem?_eq_getElem hk)]
  by_cases h1 : x < b[k]
  ·simp [h1]
  ·by_cases h2 : b[k] < x
   ·simp [h1, h2]
   ·simp [h1, h2]
    exact z3A b g hg a (k + 1) (by omega)
theorem z3M (a b : List Int) (h : a.length = b.length → a.length < 4611686018427387904) : vO a b = some (uP a b) := by
 unfold vO
 by_cases hl : a.length = b.length
 ·have h' := h hl
  simp only [hl, bne_self_eq_false, cond_false]
  rw [bdT (uv a h' (fun i x => match b[i]? with | some y => if x < y then some (-1 : Int) else if y < x then some 1 else none | none => none) ?_ ?_)]
  ·have q := z3A b (fun i x => match b[i]? with | some y => if x < y then some (-1 : Int) else if y < x then some 1 else none | none => none) (fun i x y hy => by simp only [hy]) a 0 (by omega)
   rw [List.drop_zero] at q
   have hc : uP a b = xK a b := by unfold uP; rw [if_neg (by omega), if_neg (by omega)]
   rw [hc, ← q]
   cases x6 (fun i x => match b[i]? with | some y => if x < y then some (-1 : Int) else if y < x then some 1 else none | none => none) a 0 <;> rfl
  ·intro i x hx
   have hi : i < a.length := (List.getElem?_eq_some_iff.1 hx).1
   have hy : b[i]? = some b[i] := List.getElem?_eq_getElem (by omega)
   unfold wZ
   have hc : decide ((i : Int) < (a.length : Int)) = true := by simpa using hi
   simp only [hc, cond_true, zC hx, zC hy, hy, oB]
   by_cases h1 : x < b[i]
   ·simp [h1, nS]
   ·by_cases h2 : b[i] < x
    ·simp [h1, h2, nS]
    ·simp [h1, h2, nS]
  ·unfold wZ
   simp
 ·have h1 : (((a.length : Nat) : Int) != ((b.length : Nat) : Int)) = true := by simp; omega
  simp only [h1, cond_true]
  unfold uP
  by_cases h2 : a.length < b.length
  ·simp [h2]
  ·have h3 : b.length < a.length := by omega
   simp [h2, h3]
def cI (x y : Int) : Int := if x < y then -1 else if y < x then 1 else 0
theorem z3N (x y : Int) : wB x y = some (cI x y) := by
 unfold wB uz cI
 simp [bne_self_eq_false, oB, cond_false]
 by_cases h1 : x < y
 ·simp [h1]
 ·by_cases h2 : y < x
  ·simp [h1, h2]
  ·simp [h1, h2]
theorem z7b (a b : List Int) (h : a.length < 4611686018427387904) : ∃ c, yX a b = some c ∧ (a.length = b.length → c = xK a b) := by
 unfold yX
 have hloop := uv a h (step := fun s => yd a b s) (fun i x => match b[i]? with | some y => if x < y then some (-1 : Int) else if y < x then some 1 else none | none => some 1) (by
  intro i x hx
  have hi : i < a.length := (List.getElem?_eq_some_iff.1 hx).1
  unfold yd
  have hc : decide ((i : Int) < (a.length : Int)) = true := by simpa using hi
  simp only [hc, cond_true, zC hx, oB]
  by_cases hb : i < b.length
  ·have hy : b[i]? = some b[i] := List.getElem?_eq_getElem hb
   have hd : decide ((i : Int) ≥ (b.length : Int)) = false := by simp; omega
   simp only [hd, cond_false, zC hy, hy, oB, z3N]
   unfold cI
   by_cases h1 : x < b[i]
   ·simp [h1, nS]
   ·by_cases h2 : b[i] < x
    ·simp [h1, h2, nS]
    ·simp [h1, h2, nS]
  ·have hy : b[i]? = none := List.getElem?_eq_none (by omega)
   have hd : decide ((i : Int) ≥ (b.length : Int)) = true := by simp; omega
   simp only [hd, cond_true, hy, nS]) (by unfold yd; simp)
 rw [bdT hloop]
 have q := fun hl => z3A b (fun i x => match b[i]? with | some y => if x < y then some (-1 : Int) else if y < x then some 1 else none | none => some 1) (fun i x y hy => by simp only [hy]) a 0 hl
 cases hf : x6 (fun i x => match b[i]? with | some y => if x < y then some (-1 : Int) else if y < x then some 1 else none | none => some 1) a 0 with
 | some r =>
  refine ⟨r, rfl, fun hl => ?_⟩
  have := q (by omega)
  rw [hf] at this
  simpa using this
 | none =>
  unfold x9
  by_cases hl : a.length < b.length
  ·refine ⟨-1, by simp [oS, hl], fun hl2 => by omega⟩
  ·refine ⟨0, by simp [oS, hl], fun hl2 => ?_⟩
   have := q (by omega)
   rw [hf] at this
   simpa using this
theorem zb8 (x y : Int) : Za [x, y] = some (if x = 0 then y else x) := by
 unfold Za
 rw [bdT (uv [x, y] (by simp) (step := fun s => vT [x, y] s) (fun i v => if v ≠ 0 then some v else none) ?_ ?_)]
 ·by_cases h1 : x = 0
  ·by_cases h2 : y = 0
   ·simp [x6, h1, h2, oS, j0]
   ·simp [x6, h1, h2, oS]
  ·simp [x6, h1, oS]
 ·intro i v hv
  have hi : i < [x, y].length := (List.getElem?_eq_some_iff.1 hv).1
  unfold vT
  have hc : decide ((i : Int) < (([x, y] : List Int).length : Int)) = true := by simp only [decide_eq_true_eq]; omega
  simp only [hc, cond_true, zC hv, oB]
  by_cases h : v = 0
  ·simp [h, nS]
  ·have hb : (v != 0) = true := by simpa using h
   simp [h, hb, nS]
 ·unfold vT; simp
theorem WH (a b : List Int) (h : a.length < 4611686018427387904) : yo a b = some (uP a b) := by
 unfold yo
 have ⟨c, hc, hl⟩ := z7b a b h
 rw [z3N, hc]
 simp [oB, zb8]
 unfold cI uP
 by_cases h1 : a.length < b.length
 ·simp [h1]
 ·by_cases h2 : b.length < a.length
  ·simp [h1, h2]
  ·simp [h1, h2, hl (by omega)]
def wE (n : Int) (w : List Int) : Int := if 256 < w.length then 3 else if w.any (fun c => decide (c < 0) || decide (n ≤ c)) then 1 else 0
variable {n : Int}
theorem z2r : wE n w = 0 ↔ w.length ≤ 256 ∧ ∀ c ∈ w, 0 ≤ c ∧ c < n := by
 unfold wE
 by_cases h : 256 < w.length
 ·rw [if_pos h]
  exact ⟨fun q => by simp at q, fun q => by omega⟩
 ·rw [if_neg h]
  by_cases h2 : w.any (fun c => decide (c < 0) || decide (n ≤ c)) = true
  ·rw [if_pos h2]
   simp [List.any_eq_true, Bool.or_eq_true, decide_eq_true_eq] at h2
   have ⟨c, h3, h4⟩ := h2
   refine ⟨fun q => by simp at q, fun q => ?_⟩
   have := q.2 c h3
   omega
  ·rw [if_neg h2]
   simp [List.any_eq_true, Bool.or_eq_true, decide_eq_true_eq, not_exists, not_and, not_or] at h2
   refine ⟨fun _ => ⟨by omega, fun c hc => ?_⟩, fun _ => rfl⟩
   have := h2 c hc
   omega
variable {ρ : Type}
theorem z3B (p : Int → Bool) (g : Nat → Int → Option ρ) (hg : ∀ i x, (g i x).isSome = p x) : ∀ (w : List Int) (k : Nat), (x6 g w k).isSome = w.any p
 | [], k => rfl
 | x :: w, k => by
  simp [x6, List.any_cons]
  have := hg k x
  cases hx : g k x with
  | some r => rw [hx] at this; simp at this; simp [← this]
  | none => rw [hx] at this; simp at this; rw [this, Bool.false_or]; exact z3B p g hg w (k + 1)
theorem z2s (n : Int) (w : List Int) : uR w n = some (if 16 < n then 3 else if 256 < w.length then 3 else if n < 1 then 1 else wE n w) := by
 unfold uR
 by_cases h0 : 16 < n
 ·simp [h0]
 by_cases h : 256 < w.length
 ·have h' : (256 : Int) < (w.length : Int) := by omega
  simp [h0, h, h']
 by_cases h1 : n < 1
 ·have h' : ¬ (256 : Int) < (w.length : Int) := by omega
  simp [h0, h, h', h1]
 ·have hd : decide (((w.length : Nat) : Int) > 256) = false := by simp; omega
  have hd0 : decide (n > 16) = false := by simp; omega
  have hd1 : decide (n < 1) = false := by simp; omega
  simp only [hd, hd0, hd1, cond_false, if_neg h, if_neg h0, if_neg h1]
  unfold yN xy wE
  have hl := uv w (by omega) (step := fun s => y5 w n s) (fun i c => if c < 0 ∨ n ≤ c then some (i : Int) else none) (by
   intro i c hc
   have hi : i < w.length := (List.getElem?_eq_some_iff.1 hc).1
   unfold y5 qP
   have hq : decide ((i : Int) < (w.length : Int)) = true := by simpa using hi
   simp only [hq, cond_true, zC hc, oB]
   by_cases h1 : c < 0
   ·simp [h1, nS]
   ·by_cases h2 : n ≤ c
    ·simp [h1, h2, nS]
    ·simp [h1, h2, nS]) (by unfold y5; simp)
  rw [bdT hl, if_neg h]
  have q := z3B (fun c => decide (c < 0) || decide (n ≤ c)) (fun i c => if c < 0 ∨ n ≤ c then some (i : Int) else none) (fun i c => by by_cases h : c < 0 ∨ n ≤ c <;> simp [h] <;> simpa using h) w 0
  cases hf : x6 (fun i c => if c < 0 ∨ n ≤ c then some (i : Int) else none) w 0 with
  | none => rw [hf] at q; rw [← q]; rfl
  | some r =>
   rw [hf] at q
   have ⟨i, x, h1, h2⟩ := jQ hf
   rw [← q]
   split at h2
   ·cases h2
    simp [oS]
   ·cases h2
def eS (e : Int) : Option Int := if e = 0 then none else some e
def loE (n : Int) (l : List (List Int)) : Int := if 16 < n then 3 else if 4096 < l.length then 3 else if n < 1 then 1 else (x6 (fun _ w => eS (wE n w)) l 0).getD 0
theorem z1B : ∀ {l : List (List Int)} {k : Nat}, (x6 (fun _ w => eS (wE n w)) l k).getD 0 = 0 ↔ ∀ w ∈ l, wE n w = 0
 | [], _ => by simp [x6]
 | w :: l, k => by
  by_cases h : wE n w = 0
  ·have : eS (wE n w) = none := by simp [eS, h]
   simp [x6, this]
   rw [z1B]
   simp [h]
  ·have : eS (wE n w) = some (wE n w) := by simp [eS, h]
   simp [x6, this, h]
theorem Zz : loE n l = 0 ↔ (1 ≤ n ∧ n ≤ 16) ∧ l.length ≤ 4096 ∧ ∀ w ∈ l, w.length ≤ 256 ∧ ∀ c ∈ w, 0 ≤ c ∧ c < n := by
 unfold loE
 by_cases h0 : 16 < n
 ·rw [if_pos h0]; exact ⟨fun q => by simp at q, fun q => by omega⟩
 by_cases h1 : 4096 < l.length
 ·rw [if_neg h0, if_pos h1]; exact ⟨fun q => by simp at q, fun q => by omega⟩
 by_cases h2 : n < 1
 ·rw [if_neg h0, if_neg h1, if_pos h2]; exact ⟨fun q => by simp at q, fun q => by omega⟩
 rw [if_neg h0, if_neg h1, if_neg h2, z1B]
 constructor
 ·intro q; exact ⟨by omega, by omega, fun w hw => z2r.1 (q w hw)⟩
 ·intro q w hw; exact z2r.2 (q.2.2 w hw)
theorem z54 (l : List (List Int)) (n : Int) : uS l n = some (loE n l) := by
 unfold uS loE
 by_cases h0 : 16 < n
 ·simp [h0]
 by_cases h1 : 4096 < l.length
 ·have h' : (4096 : Int) < (l.length : Int) := by omega
  simp [h0, h1, h']
 by_cases h2 : n < 1
 ·have h' : ¬ (4096 : Int) < (l.length : Int) := by omega
  simp [h0, h1, h2, h']
 have d0 : decide (n > 16) = false := by simp; omega
 have d1 : decide (((l.length : Nat) : Int) > 4096) = false := by simp; omega
 have d2 : decide (n < 1) = false := by simp; omega
 simp only [d0, d1, d2, cond_false, if_neg h0, if_neg h1, if_neg h2]
 rw [bdT (uv l (by omega) (step := fun s => vb l n s) (fun _ w => eS (wE n w)) ?_ ?_)]
 ·cases x6 (fun _ w => eS (wE n w)) l 0 <;> rfl
 ·intro i w hw
  have hi : i < l.length := (List.getElem?_eq_some_iff.1 hw).1
  have hq : decide ((i : Int) < (l.length : Int)) = true := by simpa using hi
  have he : uR w n = some (wE n w) := by
   rw [z2s, if_neg h0, if_neg h2]
   by_cases h : 256 < w.length
   ·rw [if_pos h]; unfold wE; rw [if_pos h]
   ·rw [if_neg h]
  unfold vb
  simp only [hq, cond_true, zC hw, oB, he]
  by_cases hz : wE n w = 0
  ·simp [hz, eS, nS]
  ·have hb : (wE n w != 0) = true := by simpa using hz
   simp [hz, hb, eS, nS]
 ·unfold vb; simp
theorem z56 (l : List (List Int)) (hl : l.length < 4611686018427387904) {step : Int × Int → Option (LR (Int × Int) Int)}
  (h : ∀ (n : Int) (i : Nat) (x : List Int), l[i]? = some x → step (n, (i : Int)) = some (.next (w64 (n + ((x.length : Nat) : Int)), w64 ((i : Int) + 1)))) (h2 : ∀ n, step (n, (l.length : Int)) = some (.done n)) :
  loop step (0, 0) = some (l.foldl (fun n x => w64 (n + ((x.length : Nat) : Int))) 0) := by
 have gen : ∀ (m k : Nat) (n : Int), k ≤ l.length → l.length - k < m → ZY step m (n, (k : Int)) = some ((l.drop k).foldl (fun n x => w64 (n + ((x.length : Nat) : Int))) n) := by
  intro m
  induction m with
  | zero => intro k n _ h; omega
  | succ m ih =>
   intro k n hk hn
   rw [vR]
   rcases Nat.lt_or_ge k l.length with hlt | hge
   ·have hx : l[k]? = some l[k] := List.getElem?_eq_getElem hlt
    rw [h n k _ hx, List.drop_eq_getElem_cons hlt]
    simp only [List.foldl_cons]
    rw [yq (x := (k : Int) + 1) (by omega) (by omega)]
    exact ih (k + 1) _ hlt (by omega)
   ·have : k = l.length := by omega
    subst this
    rw [h2, List.drop_length]
    rfl
 exact gen KU 0 0 (Nat.zero_le _) (by show l.length - 0 < 18446744073709551616; omega)
def stW (l : List (List Int)) : Int := l.foldl (fun n x => w64 (n + ((x.length : Nat) : Int))) 0
theorem Vo (l : List (List Int)) (hl : l.length < 4611686018427387904) : vz l = some (stW l) := by
 unfold vz
 rw [bdT (z56 l hl (step := fun s => v8 l s.1 s.2) ?_ ?_)]
 ·rfl
 ·intro n i x hx
  have hi : i < l.length := (List.getElem?_eq_some_iff.1 hx).1
  have hq : decide ((i : Int) < (l.length : Int)) = true := by simpa using hi
  unfold v8
  simp only [hq, cond_true, zC hx, oB]
 ·intro n; unfold v8; simp
def wI (l : List (List Int)) : Nat := (l.map List.length).sum
theorem z13 (h : wI l < 4611686018427387904) : stW l = (wI l : Int) := by
 have gen : ∀ (l : List (List Int)) (n : Nat), n + wI l < 4611686018427387904 → l.foldl (fun n x => w64 (n + ((x.length : Nat) : Int))) (n : Int) = ((n + wI l : Nat) : Int) := by
  intro l
  induction l with
  | nil => intro n _; simp [wI]
  | cons x l ih =>
   intro n hn
   have hs : wI (x :: l) = x.length + wI l := by simp [wI]
   rw [hs] at hn ⊢
   rw [List.foldl_cons, yq (by omega) (by omega), ← Int.natCast_add, ih (n + x.length) (by omega)]
   congr 1; omega
 have := gen l 0 (by omega)
 simpa [stW] using this
theorem z2A {m : Nat} (h : ∀ w ∈ l, w.length ≤ m) : wI l ≤ l.length * m := by
 induction l with
 | nil => simp [wI]
 | cons x l ih =>
  have hs : wI (x :: l) = x.length + wI l := by simp [wI]
  have h1 := h x (by simp)
  have h2 := ih fun w hw => h w (by simp [hw])
  rw [hs, List.length_cons, Nat.add_mul]
  omega
theorem Kd : ∀ {l : List (List Int)}, SW l ↔ ∀ i x y, l[i]? = some x → l[i + 1]? = some y → uP x y < 0
 | [] => by simp [SW]
 | [x] => ⟨fun _ i a b _ h2 => by simp at h2, fun _ => by simp [SW]⟩
 | x :: y :: l => by
  constructor
  ·intro h i a b h1 h2
   cases i with
   | zero =>
    simp at h1 h2
    subst h1; subst h2
    exact h.head y (by simp)
   | succ i => exact Kd.1 h.tail i a b (by simpa using h1) (by simpa using h2)
  ·intro h
   have ht : SW (y :: l) := Kd.2 fun i a b h1 h2 => h (i + 1) a b (by simpa using h1) (by simpa using h2)
   have h0 := h 0 x y rfl rfl
   refine List.pairwise_cons.2 ⟨fun z hz => ?_, ht⟩
   rcases List.mem_cons.1 hz with rfl | hz
   ·exact h0
   ·exact Zb h0 (ht.head z hz)
theorem z23 {α ρ : Type} (l : List α) (hl : l.length < 4611686018427387904) {step : Int → Option (LR Int (Unit ⊕ ρ))} (f : Nat → α → Option ρ)
  (h : ∀ (i : Nat) (x : α), 1 ≤ i → l[i]? = some x → step (i : Int) = some (nS i (f i x))) (h2 : ∀ k : Nat, l.length ≤ k → step (k : Int) = some (.done (.inl ()))) :
  loop step 1 = some (oS (x6 f (l.drop 1) 1)) := by
 have gen : ∀ (n : Nat) (k : Nat), 1 ≤ k → l.length - k < n → ZY step n (k : Int) = some (oS (x6 f (l.drop k) k)) := by
  intro n
  induction n with
  | zero => intro k _ h; omega
  | succ n ih =>
   intro k hk hn
   rw [vR]
   rcases Nat.lt_or_ge k l.length with hlt | hge
   ·have hx : l[k]? = some l[k] := List.getElem?_eq_getElem hlt
    rw [h k _ hk hx, List.drop_eq_getElem_cons hlt]
    simp [x6]
    cases hf : f k l[k] with
    | some r => rfl
    | none =>
     simp [nS]
     rw [yq (by omega) (by omega)]
     exact ih (k + 1) (by omega) (by omega)
   ·rw [h2 k hge, List.drop_eq_nil_of_le hge]
    rfl
 exact gen KU 1 (Nat.le_refl _) (by show l.length - 1 < 18446744073709551616; omega)
instance (l : List (List Int)) : Decidable (SW l) := by unfold SW; infer_instance
theorem z5r (l : List (List Int)) (r : ρ) : x6 (fun i x => match l[i - 1]? with | some y => if 0 ≤ uP y x then some r else none | none => none) (l.drop 1) 1 = if SW l then none else some r := by
 by_cases hs : SW l
 ·rw [if_pos hs]
  refine X7 fun i x hx => ?_
  rw [List.getElem?_drop] at hx
  have hi : 1 + i < l.length := (List.getElem?_eq_some_iff.1 hx).1
  have hy : l[1 + i - 1]? = some l[i] := by rw [show 1 + i - 1 = i by omega]; exact List.getElem?_eq_getElem (by omega)
  rw [hy]
  have := Kd.1 hs i l[i] x (List.getElem?_eq_getElem (by omega)) (by rw [Nat.add_comm]; exact hx)
  simp only
  rw [if_neg (by omega)]
 ·rw [if_neg hs]
  cases hf : x6 (fun i x => match l[i - 1]? with | some y => if 0 ≤ uP y x then some r else none | none => none) (l.drop 1) 1 with
  | some r' =>
   have ⟨i, x, h1, h2⟩ := jQ hf
   split at h2
   ·split at h2
    ·exact h2.symm
    ·cases h2
   ·cases h2
  | none =>
   exfalso
   refine hs (Kd.2 fun i x y hx hy => ?_)
   have := XD hf i y (by rw [List.getElem?_drop, Nat.add_comm]; exact hy)
   rw [show 1 + i - 1 = i by omega, hx] at this
   simp only at this
   split at this
   ·cases this
   ·omega
theorem z5R (l : List (List Int)) (h : l.length ≤ 4096) (hw : ∀ w ∈ l, w.length < 4611686018427387904) : jF l = some (decide (SW l)) := by
 unfold jF
 rw [bdT (z23 l (by omega) (step := fun s => vd l s) (fun i x => match l[i - 1]? with | some y => if 0 ≤ uP y x then some false else none | none => none) ?_ ?_), z5r]
 ·by_cases hs : SW l
  ·simp [hs, oS, qb]
  ·simp [hs, oS]
 ·intro i x hi hx
  have hil : i < l.length := (List.getElem?_eq_some_iff.1 hx).1
  have hy : l[i - 1]? = some l[i - 1] := List.getElem?_eq_getElem (by omega)
  have hq : decide ((i : Int) < (l.length : Int)) = true := by simpa using hil
  unfold vd
  rw [yq (x := (i : Int) - 1) (by omega) (by omega), show ((i : Int) - 1) = ((i - 1 : Nat) : Int) by omega]
  have hE := WH l[i - 1] x (hw _ (List.getElem_mem (by omega)))
  simp only [hq, cond_true, zC hx, zC hy, oB, hy, hE]
  by_cases hc : 0 ≤ uP l[i - 1] x
  ·simp [hc, nS]
  ·simp [hc, nS]
 ·intro k hk; unfold vd; have : decide ((k : Int) < (l.length : Int)) = false := by simp; omega
  simp only [this, cond_false]
def chE (n : Int) (l : List (List Int)) : Int := if loE n l ≠ 0 then loE n l else if SW l then (if 65536 < wI l then 3 else 0) else 1
theorem j5 : chE n l = 0 ↔ loE n l = 0 ∧ SW l ∧ wI l ≤ 65536 := by
 unfold chE
 by_cases h : loE n l = 0
 ·rw [if_neg (by simp [h])]
  by_cases h2 : SW l
  ·rw [if_pos h2]
   by_cases h3 : 65536 < wI l
   ·rw [if_pos h3]; exact ⟨fun q => by simp at q, fun q => by omega⟩
   ·rw [if_neg h3]; exact ⟨fun _ => ⟨h, h2, by omega⟩, fun _ => rfl⟩
  ·rw [if_neg h2]; exact ⟨fun q => by simp at q, fun q => absurd q.2.1 h2⟩
 ·rw [if_pos h]; exact ⟨fun q => absurd q h, fun q => absurd q.1 h⟩
theorem KG (h : loE n l = 0) : l.length ≤ 4096 ∧ (∀ w ∈ l, w.length ≤ 256) ∧ wI l ≤ 1048576 := by
 have ⟨_, h1, h2⟩ := Zz.1 h
 refine ⟨h1, fun w hw => (h2 w hw).1, ?_⟩
 have := z2A (m := 256) fun w hw => (h2 w hw).1
 omega
theorem qt (l : List (List Int)) (n : Int) : y4 l n = some (chE n l) := by
 unfold y4 chE
 rw [z54]
 simp [oB]
 by_cases h : loE n l = 0
 ·have ⟨h1, h2, h3⟩ := KG h
  rw [z5R l h1 fun w hw => by have := h2 w hw; omega, Vo l (by omega), z13 (by omega)]
  simp [h, bne_self_eq_false, cond_false, oB]
  by_cases hs : SW l
  ·by_cases hq : 65536 < wI l
   ·have : (65536 : Int) < (wI l : Int) := by omega
    simp [hs, hq, this]
   ·have : ¬ (65536 : Int) < (wI l : Int) := by omega
    simp [hs, hq, this]
  ·simp [hs]
 ·have hb : (loE n l != 0) = true := by simpa using h
  simp [h, hb]
theorem Wi (w : List Int) : zN w = some w := by
 unfold zN
 rw [gdT (by omega)]
 simp
theorem z1J (l : List (List Int)) : zT l = some l := by
 unfold zT
 rw [gdT (by omega)]
 simp
theorem JE (w : List Int) (h : w.length ≤ 4294967296) : zZ w = some w := by
 unfold zZ
 rw [gdT (by simpa using h)]
theorem z1c (a b : List Int) (h : a.length < 4611686018427387904) : va a b = some (decide (a = b)) := by
 unfold va
 rw [WH a b h]
 simp [oB]
 by_cases e : a = b
 ·subst e; simp [XE]
 ·have : uP a b ≠ 0 := fun q => e (JD q)
  simp [e, this]
def QW (l : List (List Int)) : Prop := l.Pairwise fun a b => ¬ uP b a < 0
theorem ko {l : List α} {n : Nat} {x : α} : x ∈ l.take n ↔ ∃ i, i < n ∧ l[i]? = some x := by
 rw [List.mem_iff_getElem?]
 constructor
 ·rintro ⟨i, h⟩
  rw [List.getElem?_take] at h
  split at h
  ·exact ⟨i, by omega, h⟩
  ·cases h
 ·rintro ⟨i, h1, h2⟩
  exact ⟨i, by rw [List.getElem?_take, if_pos h1]; exact h2⟩
theorem z2B (h : SW l) (hx : ∀ y ∈ l, uP y x < 0) : SW (l ++ [x]) := by
 unfold SW
 rw [List.pairwise_append]
 exact ⟨h, by simp, fun a ha b hb => by simp at hb; subst hb; exact hx a ha⟩
section
variable {s : List (List Int)} (hq : QW s) (hl : s.length ≤ 4294967296) (hw : ∀ w ∈ s, w.length < 4611686018427387904)
include hq hl hw
omit hl hw in
theorem z4Y {i j : Nat} {x y : List Int} (hi : s[i]? = some x) (hj : s[j]? = some y) (h : i ≤ j) : uP x y < 0 ∨ x = y := by
 rcases Nat.lt_or_ge i j with h | h
 ·have := (List.pairwise_iff_getElem.1 hq) i j (List.getElem?_eq_some_iff.1 hi).1 (List.getElem?_eq_some_iff.1 hj).1 h
  rw [(List.getElem?_eq_some_iff.1 hi).2, (List.getElem?_eq_some_iff.1 hj).2] at this
  rcases z0O.1 this with q | q
  ·exact .inl q
  ·exact .inr q.symm
 ·have : i = j := by omega
  subst this
  rw [hi] at hj
  exact .inr (by simpa using hj)
theorem z01 (h1 : 1 ≤ k) (hk : k < s.length) (hd : s[k - 1]? = s[k]?) (hs : SW (s.take k)) :
  Ret (Option.bind (loop (fun q => zP (k : Int) q.1 q.2.1 q.2.2) (s, (k : Int), 1)) fun t => zR t.1 t.2) fun r => r = .done (.inr (srt s)) := by
 rw [qj]
 refine Ret.mono (qW (fun q => ∃ kk k2 : Nat, q.2.1 = (kk : Int) ∧ q.2.2 = (k2 : Int) ∧ 1 ≤ k2 ∧ k + k2 ≤ s.length ∧ kk < k + k2 ∧ q.1.length = s.length ∧ (∀ i, kk ≤ i → q.1[i]? = s[i]?) ∧ SW (q.1.take kk) ∧ ∀ x, x ∈ q.1.take kk ↔ x ∈ s.take (k + k2)) (fun q => s.length - q.2.2.toNat) (R := fun t => ∃ kk : Nat, t.2 = (kk : Int) ∧ kk ≤ s.length ∧ t.1.length = s.length ∧ t.1.take kk = srt s) ?_ ?_ ?_) ?_
 ·refine ⟨k, 1, rfl, rfl, Nat.le_refl _, hk, by omega, rfl, fun _ _ => rfl, hs, fun x => ?_⟩
  rw [ko, ko]
  constructor
  ·rintro ⟨i, h2, h3⟩; exact ⟨i, by omega, h3⟩
  ·rintro ⟨i, h2, h3⟩
   rcases Nat.lt_or_ge i k with h | h
   ·exact ⟨i, h, h3⟩
   ·have : i = k := by omega
    subst this
    exact ⟨i - 1, by omega, by rw [hd]; exact h3⟩
 ·show s.length - _ < _
  omega
 ·rintro ⟨S, a, b⟩ ⟨kk, k2, rfl, rfl, g1, g2, g3, g4, g5, g6, g7⟩
  simp only at g4 g5 g6 g7
  show Ret (zP (k : Int) S (kk : Int) (k2 : Int)) _
  unfold zP
  rw [uY]
  refine ⟨fun hc => ?_, fun hc => ?_⟩
  ·have hlt : k2 < s.length - k := by rw [g4] at hc; simpa using hc
   have e1 : s[k + k2]? = some s[k + k2] := List.getElem?_eq_getElem (by omega)
   have e2 : s[k + k2 - 1]? = some s[k + k2 - 1] := List.getElem?_eq_getElem (by omega)
   have f1 : idx S ((k : Int) + (k2 : Int)) = some s[k + k2] := by
    rw [← Int.natCast_add, Up, g5 _ (by omega), e1]
   have f2 : idx S ((k : Int) + w64 ((k2 : Int) - 1)) = some s[k + k2 - 1] := by
    rw [yq (by omega) (by omega), show (k : Int) + ((k2 : Int) - 1) = ((k + k2 - 1 : Nat) : Int) by omega, Up, g5 _ (by omega), e2]
   rw [gdT (by omega), f1]
   simp only [oB]
   rw [gdT (by rw [yq (by omega) (by omega)]; omega), f2]
   simp only [oB]
   rw [z1c _ _ (hw _ (List.getElem_mem (by omega)))]
   simp only [oB]
   have hk2 : w64 ((k2 : Int) + 1) = ((k2 + 1 : Nat) : Int) := by rw [yq (by omega) (by omega)]; omega
   by_cases he : s[k + k2] = s[k + k2 - 1]
   ·simp only [he, decide_true, Bool.not_true, cond_false]
    unfold zQ
    rw [hk2, zU]
    refine ⟨⟨kk, k2 + 1, rfl, rfl, by omega, by omega, by omega, g4, g5, g6, fun x => ?_⟩, by simp only [Int.toNat_natCast]; omega⟩
    rw [g7, ko, ko]
    constructor
    ·rintro ⟨i, h2, h3⟩; exact ⟨i, by omega, h3⟩
    ·rintro ⟨i, h2, h3⟩
     rcases Nat.lt_or_ge i (k + k2) with h | h
     ·exact ⟨i, h, h3⟩
     ·have : i = k + k2 := by omega
      subst this
      exact ⟨k + k2 - 1, by omega, by rw [e2, ← he, ← e1]; exact h3⟩
   ·simp only [he, decide_false, Bool.not_false, cond_true]
    rw [gdT (by omega)]
    have e3 : idx S (kk : Int) = some s[kk] := by rw [Up, g5 _ (Nat.le_refl _), List.getElem?_eq_getElem (by omega)]
    rw [e3]
    simp only [oB]
    unfold zQ
    rw [hk2, yq (x := (kk : Int) + 1) (by omega) (by omega), zU]
    have hset : (S.set ((kk : Int).toNat) s[k + k2]).take (kk + 1) = S.take kk ++ [s[k + k2]] := by
     rw [Int.toNat_natCast, List.take_add_one, List.take_set_of_le (Nat.le_refl _), List.getElem?_set_self (by omega)]
     rfl
    refine ⟨⟨kk + 1, k2 + 1, rfl, rfl, by omega, by omega, by omega, by simp [g4], fun i hi => ?_, ?_, fun x => ?_⟩, by simp only [Int.toNat_natCast]; omega⟩
    ·simp only
     rw [List.getElem?_set_ne (by omega), g5 _ (by omega)]
    ·simp only
     rw [hset]
     refine z2B g6 fun y hy => ?_
     have ⟨i, h2, h3⟩ := ko.1 ((g7 y).1 hy)
     have hlast : uP s[k + k2 - 1] s[k + k2] < 0 := by
      rcases z4Y hq e2 e1 (by omega) with q | q
      ·exact q
      ·exact absurd q.symm he
     rcases z4Y hq h3 e2 (by omega) with q | q
     ·exact Zb q hlast
     ·rw [q]; exact hlast
    ·simp only
     rw [hset, List.mem_append, g7, ko, ko]
     constructor
     ·rintro (⟨i, h2, h3⟩ | h)
      ·exact ⟨i, by omega, h3⟩
      ·simp at h; subst h; exact ⟨k + k2, by omega, e1⟩
     ·rintro ⟨i, h2, h3⟩
      rcases Nat.lt_or_ge i (k + k2) with h | h
      ·exact .inl ⟨i, h, h3⟩
      ·have : i = k + k2 := by omega
       subst this
       rw [e1] at h3
       exact .inr (by simpa using h3.symm)
  ·have hge : s.length - k ≤ k2 := by rw [g4] at hc; simpa using hc
   have hkk : k + k2 = s.length := by omega
   rw [zU]
   refine ⟨kk, rfl, by omega, g4, z2F g6 fun x => ?_⟩
   rw [g7, hkk, List.take_length]
 ·rintro ⟨S, a⟩ ⟨kk, rfl, h1, h2, h3⟩
  simp only at h2 h3
  show Ret (zR S (kk : Int)) _
  unfold zR
  have hlen : (S.take (kk : Int).toNat ++ List.replicate (S.length - (kk : Int).toNat) ([] : List Int)).length = S.length := by simp [List.length_take]; omega
  rw [gdT (by omega), gdT (by omega), gdT (by rw [hlen]; omega), zU]
  simp only [Int.toNat_natCast]
  rw [List.take_left' (by rw [List.length_take]; omega), h3]
theorem z2f : yf s () = some (srt s) := by
 unfold yf
 by_cases h2 : s.length < 2
 ·have hd : decide (((s.length : Nat) : Int) < 2) = true := by simp; omega
  simp [hd, cond_true]
  rw [Yc]
  match s, h2 with
  | [], _ => exact SW.nil
  | [x], _ => simp [SW]
 ·have hd : decide (((s.length : Nat) : Int) < 2) = false := by simp; omega
  simp [hd, cond_false]
  apply Ret.eq
  rw [qj]
  refine Ret.mono (qW (fun q : Int => ∃ j : Nat, q = (j : Int) ∧ 1 ≤ j ∧ j ≤ s.length ∧ SW (s.take j)) (fun q => s.length - q.toNat) (R := fun t : Unit ⊕ List (List Int) => match t with | .inl _ => srt s = s | .inr p => p = srt s) ?_ ?_ ?_) ?_
  ·refine ⟨1, rfl, Nat.le_refl _, by omega, ?_⟩
   match s, h2 with
   | [], h2 => simp at h2
   | x :: l, _ => simp [SW]
  ·show s.length - _ < _
   omega
  ·rintro _ ⟨j, rfl, g1, g2, g3⟩
   show Ret (y7 s (j : Int)) _
   unfold y7
   rw [uY]
   refine ⟨fun hc => ?_, fun hc => ?_⟩
   ·have hj : j < s.length := by simpa using hc
    have e1 : s[j]? = some s[j] := List.getElem?_eq_getElem hj
    have e2 : s[j - 1]? = some s[j - 1] := List.getElem?_eq_getElem (by omega)
    rw [yq (x := (j : Int) - 1) (by omega) (by omega), show (j : Int) - 1 = ((j - 1 : Nat) : Int) by omega, zC e1, zC e2]
    simp [oB]
    rw [z1c _ _ (hw _ (List.getElem_mem hj))]
    simp [oB]
    by_cases he : s[j] = s[j - 1]
    ·simp [he, decide_true, cond_true]
     rw [gdT (by omega)]
     refine (z01 hq hl hw g1 hj (by rw [e1, e2, he]) g3).mono ?_
     rintro _ rfl
     rfl
    ·simp [he, decide_false, cond_false]
     unfold yk
     rw [yq (by omega) (by omega), zU]
     refine ⟨⟨j + 1, rfl, by omega, hj, ?_⟩, by simp; omega⟩
     have : s.take (j + 1) = s.take j ++ [s[j]] := by rw [List.take_add_one, e1]; rfl
     rw [this]
     refine z2B g3 fun y hy => ?_
     have ⟨i, h3, h4⟩ := ko.1 hy
     have hlast : uP s[j - 1] s[j] < 0 := by
      rcases z4Y hq e2 e1 (by omega) with q | q
      ·exact q
      ·exact absurd q.symm he
     rcases z4Y hq h4 e2 (by omega) with q | q
     ·exact Zb q hlast
     ·rw [q]; exact hlast
   ·have hj : j = s.length := by
     have : ¬ j < s.length := by simpa using hc
     omega
    rw [zU]
    show srt s = s
    rw [hj, List.take_length] at g3
    exact Yc g3
  ·rintro (u | p) h
   ·show Ret (some s) _
    rw [zU]
    exact h.symm
   ·show Ret (some p) _
    rw [zU]
    exact h
end
theorem Kg (l : List (List Int)) : SOk uP l :=
 ⟨fun x _ => XF x, fun x _ y _ z _ h1 h2 => Zb h1 h2, fun x _ y _ h1 h2 => by
  rcases z0O.1 h1 with q | q
  ·exact absurd q h2
  ·exact q⟩
theorem z4D {l m : List (List Int)} (h : l.Perm m) : srt l = srt m := VJ fun x => h.mem_iff
theorem Uk {c d : List Int → List Int → Int} : ∀ {l : List (List Int)}, (∀ x ∈ l, ∀ y ∈ l, c x y = d x y) → X5 c l = X5 d l
 | [], _ => rfl
 | x :: l, h => by
  have ih := Uk (c := c) (d := d) (l := l) fun a ha b hb => h a (by simp [ha]) b (by simp [hb])
  show z2l c x (X5 c l) = z2l d x (X5 d l)
  rw [ih]
  have gen : ∀ m : List (List Int), (∀ y ∈ m, y ∈ l) → z2l c x m = z2l d x m := by
   intro m
   induction m with
   | nil => intro _; rfl
   | cons y m ih2 =>
    intro hm
    simp [z2l]
    rw [h y (by simp [hm y (by simp)]) x (by simp), ih2 fun z hz => hm z (by simp [hz])]
  exact gen _ fun y hy => (uZ d l).mem_iff.1 hy
def soR (l : List (List Int)) : List (List Int) × Int := if 4096 < (srt l).length ∨ 65536 < wI (srt l) then ([], 3) else (srt l, 0)
theorem Jc (hl : l.length ≤ 100000) (hw : ∀ w ∈ l, w.length ≤ 4294967296) : yx l = some (soR l) := by
 unfold yx yD
 rw [gdT (by simp; omega)]
 simp only [oB]
 have hc : ∀ x ∈ l, ∀ y, yo x y = some (uP x y) := fun x hx y => WH x y (by have := hw x hx; omega)
 have hso : z2H (fun x y => yo x y) l = some (X5 uP l) := by
  unfold z2H
  rw [gdT ⟨by omega, fun x hx y hy => by simp only [hc x hx y]; rfl⟩]
  have hcc : ∀ x ∈ l, ∀ y ∈ l, (yo x y).getD 0 = uP x y := fun x hx y _ => by rw [hc x hx y]; rfl
  rw [gdT, Uk (c := fun x y => (yo x y).getD 0) (d := uP) hcc]
  have q := Kg l
  refine ⟨fun x hx => by show ¬ (yo x x).getD 0 < 0; rw [hcc x hx x hx]; exact q.1 x hx, fun x hx y hy z hz h1 h2 => ?_, fun x hx y hy h1 h2 => ?_⟩
  ·simp only [hcc x hx y hy, hcc y hy z hz, hcc x hx z hz] at h1 h2 ⊢
   exact q.2.1 x hx y hy z hz h1 h2
  ·simp only [hcc x hx y hy, hcc y hy x hx] at h1 h2
   exact q.2.2 x hx y hy h1 h2
 rw [hso]
 simp only [oB]
 have hp := uZ uP l
 have hq : QW (X5 uP l) := Yk (Kg l) (fun y hy => hy)
 rw [z2f hq (by rw [hp.length_eq]; omega) (fun w h => by have := hw w (hp.mem_iff.1 h); omega)]
 simp only [oB]
 unfold yP
 simp only [oB]
 rw [z4D hp]
 have hlen : (srt l).length ≤ 100000 := Nat.le_trans (Jb l) hl
 have hws : ∀ w ∈ srt l, w.length ≤ 4294967296 := fun w h => hw w (yZ.1 h)
 unfold soR
 generalize srt l = r at hlen hws
 have hsy : wI r ≤ 100000 * 4294967296 := Nat.le_trans (z2A hws) (Nat.mul_le_mul_right _ hlen)
 by_cases h1 : 4096 < r.length
 ·have : (4096 : Int) < (r.length : Int) := by omega
  simp [h1, this]
 ·have d1 : decide (((r.length : Nat) : Int) > 4096) = false := by simp; omega
  simp only [d1, cond_false]
  rw [Vo r (by omega), z13 (by omega)]
  simp only [oB]
  by_cases h2 : 65536 < wI r
  ·have : (65536 : Int) < (wI r : Int) := by omega
   simp [h2, this]
  ·have d2 : decide (((wI r : Nat) : Int) > 65536) = false := by simp; omega
   simp only [d2, cond_false]
   rw [if_neg (by omega)]
   have hloop := vq (step := fun s => xg r s.1 s.2) (fun i => ((r.take i).map (fun q => (q, true)) ++ (r.drop i).map (fun q => (q, false)), (i : Int))) r.length (t := r.map fun q => (q, true)) (by omega) (by
    intro i hi
    have hA : ((r.take i).map (fun q => (q, true))).length = i := by rw [List.length_map, List.length_take]; omega
    have hd : r.drop i = r[i] :: r.drop (i + 1) := List.drop_eq_getElem_cons hi
    have hx : ((r.take i).map (fun q => (q, true)) ++ (r.drop i).map (fun q => (q, false)))[i]? = some (r[i], false) := by
     rw [List.getElem?_append_right (by omega), hA, hd]; simp
    show xg r _ (i : Int) = _
    unfold xg
    have hq : decide ((i : Int) < ((r.length - (0 : Int).toNat : Nat) : Int)) = true := by simpa using hi
    simp only [hq, cond_true]
    rw [gdT (by omega), Int.zero_add, zC hx]
    simp only [oB]
    rw [JE _ (hws _ (List.getElem_mem hi))]
    simp only [oB, Wi, Int.toNat_natCast]
    rw [yq (by omega) (by omega)]
    congr 3
    rw [List.set_append_right _ _ (by omega), hA, hd, List.take_add_one, List.getElem?_eq_getElem hi]
    simp only [Nat.sub_self, List.map_cons, List.set_cons_zero, List.map_append, Option.toList_some, List.map_nil, List.append_assoc, List.cons_append, List.nil_append]) (by
    show xg r _ (r.length : Int) = _
    unfold xg
    simp)
   have h0 : ((r.take 0).map (fun q => (q, true)) ++ (r.drop 0).map (fun q => (q, false)), ((0 : Nat) : Int)) = (r.map (fun q => (q, false)), (0 : Int)) := by simp
   rw [h0] at hloop
   rw [hloop]
   simp only [oB]
   unfold up
   rw [gdT (by intro q hq; obtain ⟨_, _, rfl⟩ := List.mem_map.1 hq; rfl)]
   simp [List.map_map, Function.comp_def]
def X8 (a : Nat) (w : List Int) : List (List Int) := (List.range a).map fun s : Nat => w ++ [(s : Int)]
def exW (a : Nat) : Nat → List (List Int)
 | 0 => [[]]
 | k + 1 => (exW a k).flatMap (X8 a)
theorem z5s (a : Nat) (w : List Int) : (X8 a w).length = a := by simp [X8]
theorem Jy (a : Nat) (l : List (List Int)) : (l.flatMap (X8 a)).length = l.length * a := by
 induction l with
 | nil => simp
 | cons w l ih => rw [List.flatMap_cons, List.length_append, ih, z5s, List.length_cons, Nat.succ_mul]; omega
theorem qL (a : Nat) : ∀ k, (exW a k).length = a ^ k
 | 0 => rfl
 | k + 1 => by rw [exW, Jy, qL, Nat.pow_succ]
theorem qq (a : Nat) : ∀ k, ∀ w ∈ exW a k, w.length = k
 | 0, w, h => by simp [exW] at h; subst h; rfl
 | k + 1, w, h => by
  rw [exW, List.mem_flatMap] at h
  obtain ⟨v, h1, h2⟩ := h
  simp only [X8, List.mem_map] at h2
  obtain ⟨s, _, rfl⟩ := h2
  simp [qq a k v h1]
variable {a : Nat}
theorem z90 (ha : a ≤ 16)  (hw : w.length ≤ 1000) {nx : List (List Int)} (hn : nx.length ≤ 10000000) :
  loop (fun s => w5 (a : Int) w s.1 s.2) (nx, 0) = some (nx ++ X8 a w) := by
 have h := vq (step := fun s => w5 (a : Int) w s.1 s.2) (fun i => (nx ++ (List.range i).map (fun s : Nat => w ++ [(s : Int)]), (i : Int))) a (t := nx ++ X8 a w) (by omega) (by
  intro i hi
  show w5 (a : Int) w _ (i : Int) = _
  unfold w5
  have hq : decide ((i : Int) < (a : Int)) = true := by simpa using hi
  simp only [hq, cond_true, Wi, oB]
  rw [gdT (by simp; omega), gdT (by simp; omega), yq (by omega) (by omega), List.range_succ, List.map_append, List.append_assoc]
  rfl) (by
  show w5 (a : Int) w _ (a : Int) = _
  unfold w5
  simp [X8])
 have h0 : ((nx ++ (List.range 0).map (fun s : Nat => w ++ [(s : Int)])), ((0 : Nat) : Int)) = (nx, (0 : Int)) := by simp
 rw [h0] at h
 exact h
theorem z8P (ha : a ≤ 16)  (hw : ∀ w ∈ l, w.length ≤ 1000) (hl : l.length ≤ 100000) :
  loop (fun s => w6 (a : Int) l s.1 s.2) (([] : List (List Int)), 0) = some (l.flatMap (X8 a)) := by
 have h := vq (step := fun s => w6 (a : Int) l s.1 s.2) (fun i => ((l.take i).flatMap (X8 a), (i : Int))) l.length (t := l.flatMap (X8 a)) (by omega) (by
  intro i hi
  show w6 (a : Int) l _ (i : Int) = _
  unfold w6
  have hq : decide ((i : Int) < (l.length : Int)) = true := by simpa using hi
  have hx : l[i]? = some l[i] := List.getElem?_eq_getElem hi
  have hlen : ((l.take i).flatMap (X8 a)).length ≤ 10000000 := by
   rw [Jy, List.length_take]
   have : min i l.length * a ≤ 100000 * 16 := Nat.mul_le_mul (by omega) ha
   omega
  simp only [hq, cond_true, zC hx, oB]
  rw [bdT (z90 ha (hw _ (List.getElem_mem hi)) hlen)]
  unfold kh
  rw [yq (by omega) (by omega), List.take_add_one, hx, List.flatMap_append]
  simp) (by
  show w6 (a : Int) l _ (l.length : Int) = _
  unfold w6
  simp)
 simpa using h
def vp (a f : Nat) : Nat → List (List Int)
 | 0 => []
 | k + 1 => if f ≤ k then vp a f k ++ exW a k else vp a f k
def syW (a f : Nat) : Nat → Nat
 | 0 => 0
 | k + 1 => if f ≤ k then syW a f k + k * a ^ k else syW a f k
def qu (a f t k : Nat) : Prop := 4096 < (vp a f (k + 1)).length ∨ 65536 < syW a f (k + 1) ∨ k < t ∧ 4096 < a ^ k * a
instance (a f t k : Nat) : Decidable (qu a f t k) := by unfold qu; infer_instance
theorem Ua (a f : Nat) : ∀ k, ∀ w ∈ vp a f k, w.length ≤ k
 | 0, w, h => by simp [vp] at h
 | k + 1, w, h => by
  unfold vp at h
  split at h
  ·rcases List.mem_append.1 h with h | h
   ·have := Ua a f k w h; omega
   ·have := qq a k w h; omega
  ·have := Ua a f k w h; omega
theorem z4b {a f t k : Nat} (ha : 1 ≤ a ∧ a ≤ 16) (hf : f ≤ 256) (ht : t ≤ 256) (hk : k ≤ t) (ho : (vp a f k).length ≤ 4096) (hs : syW a f k ≤ 65536) (hl : a ^ k ≤ 4096) :
  wG (a : Int) (f : Int) (t : Int) (vp a f k) (exW a k) (syW a f k : Int) (k : Int) = if qu a f t k then some (.done ([], 3)) else if k = t then Option.bind (yx (vp a f (k + 1))) (fun r => some (.done (r.1, r.2))) else some (.next (vp a f (k + 1), exW a (k + 1), (syW a f (k + 1) : Int), ((k + 1 : Nat) : Int))) := by
 have hmul : k * a ^ k ≤ 256 * 4096 := Nat.mul_le_mul (by omega) hl
 have hma : a ^ k * a ≤ 4096 * 16 := Nat.mul_le_mul hl ha.2
 have e : wG (a : Int) (f : Int) (t : Int) (vp a f k) (exW a k) (syW a f k : Int) (k : Int) = uk (a : Int) (t : Int) (exW a k) (k : Int) (vp a f (k + 1)) (syW a f (k + 1) : Int) := by
  unfold wG
  by_cases h : f ≤ k
  ·have hd : decide ((k : Int) ≥ (f : Int)) = true := by simpa using h
   simp only [hd, cond_true]
   have hm : w64 ((k : Int) * ((exW a k).length : Int)) = ((k * a ^ k : Nat) : Int) := by
    rw [qL, ← Int.natCast_mul, yq (by omega) (by omega)]
   rw [gdT (by rw [qL]; omega), hm, yq (by omega) (by omega)]
   simp only [vp, syW, if_pos h]
   congr 1
  ·have hd : decide ((k : Int) ≥ (f : Int)) = false := by simp; omega
   simp only [hd, cond_false, vp, syW, if_neg h]
 rw [e]
 unfold uk
 by_cases h1 : 4096 < (vp a f (k + 1)).length
 ·have : decide (((vp a f (k + 1)).length : Int) > 4096) = true := by simp only [decide_eq_true_eq]; omega
  simp only [this, cond_true]
  rw [if_pos (show qu a f t k from .inl h1)]
 have d1 : decide (((vp a f (k + 1)).length : Int) > 4096) = false := by simp; omega
 simp only [d1, cond_false]
 by_cases h2 : 65536 < syW a f (k + 1)
 ·have : decide ((syW a f (k + 1) : Int) > 65536) = true := by simp only [decide_eq_true_eq]; omega
  simp only [this, cond_true]
  rw [if_pos (show qu a f t k from .inr (.inl h2))]
 have d2 : decide ((syW a f (k + 1) : Int) > 65536) = false := by simp; omega
 simp only [d2, cond_false]
 have hm : w64 (((exW a k).length : Int) * (a : Int)) = ((a ^ k * a : Nat) : Int) := by
  rw [qL, ← Int.natCast_mul, yq (by omega) (by omega)]
 rw [hm]
 have J4 : ∀ (hns : ¬ (k < t ∧ 4096 < a ^ k * a)) (b : Bool), uj (a : Int) (t : Int) (exW a k) (k : Int) (vp a f (k + 1)) (syW a f (k + 1) : Int) b = if k = t then Option.bind (yx (vp a f (k + 1))) (fun r => some (.done (r.1, r.2))) else some (.next (vp a f (k + 1), exW a (k + 1), (syW a f (k + 1) : Int), ((k + 1 : Nat) : Int))) := by
  intro hns b
  unfold uj
  by_cases hkt : k = t
  ·subst hkt
   simp
  ·have hd : ((k : Int) == (t : Int)) = false := by simp; omega
   simp only [hd, cond_false, if_neg hkt]
   rw [bdT (z8P ha.2 (fun w hw => by rw [qq a k w hw]; omega) (by rw [qL]; omega))]
   unfold ki kj
   rw [yq (by omega) (by omega)]
   rfl
 by_cases hkt : k < t
 ·have hd : decide ((k : Int) < (t : Int)) = true := by simpa using hkt
  simp only [hd, cond_true]
  by_cases h3 : 4096 < a ^ k * a
  ·have : decide (((a ^ k * a : Nat) : Int) > 4096) = true := by simp only [decide_eq_true_eq]; omega
   simp only [this, cond_true]
   rw [if_pos (show qu a f t k from .inr (.inr ⟨hkt, h3⟩))]
  ·have : decide (((a ^ k * a : Nat) : Int) > 4096) = false := by simp only [decide_eq_false_iff_not]; omega
   simp only [this, cond_false]
   rw [J4 (by omega), if_neg (show ¬ qu a f t k by unfold qu; omega)]
 ·have hd : decide ((k : Int) < (t : Int)) = false := by simp; omega
  simp only [hd, cond_false]
  rw [J4 (by omega), if_neg (show ¬ qu a f t k by unfold qu; omega)]
theorem Jo {a f t k : Nat} (ha : 1 ≤ a) (hs : ¬ qu a f t k) (hk : k < t) : (vp a f (k + 1)).length ≤ 4096 ∧ syW a f (k + 1) ≤ 65536 ∧ a ^ (k + 1) ≤ 4096 := by
 unfold qu at hs
 rw [Nat.pow_succ]
 omega
theorem z4c {a f t : Nat} (ha : 1 ≤ a ∧ a ≤ 16) (hf : f ≤ 256) (ht : t ≤ 256) {r : Option (List (List Int) × Int)}
  (hr : (∃ j, j ≤ t ∧ qu a f t j) → r = some ([], 3)) (hr2 : (∀ j, j ≤ t → ¬ qu a f t j) → r = Option.bind (yx (vp a f (t + 1))) fun r => some (r.1, r.2)) :
  ∀ (m k : Nat), k ≤ t → t - k < m → (∀ j, j < k → ¬ qu a f t j) → (vp a f k).length ≤ 4096 → syW a f k ≤ 65536 → a ^ k ≤ 4096 → ZY (fun s => wG (a : Int) (f : Int) (t : Int) s.1 s.2.1 s.2.2.1 s.2.2.2) m (vp a f k, exW a k, (syW a f k : Int), (k : Int)) = r
 | 0, k, _, h, _, _, _, _ => by omega
 | m + 1, k, hk, hm, hns, h1, h2, h3 => by
  rw [vR]
  dsimp only
  rw [z4b ha hf ht hk h1 h2 h3]
  by_cases hst : qu a f t k
  ·rw [if_pos hst, hr ⟨k, hk, hst⟩]
  ·rw [if_neg hst]
   by_cases hkt : k = t
   ·subst hkt
    rw [if_pos rfl, hr2 fun j hj => by
     rcases Nat.lt_or_ge j k with q | q
     ·exact hns j q
     ·rw [show j = k by omega]; exact hst]
    cases yx (vp a f (k + 1)) <;> rfl
   ·rw [if_neg hkt]
    obtain ⟨q1, q2, q3⟩ := Jo ha.1 hst (by omega)
    exact z4c ha hf ht hr hr2 m (k + 1) (by omega) (by omega) (fun j hj => by
     rcases Nat.lt_or_ge j k with q | q
     ·exact hns j q
     ·rw [show j = k by omega]; exact hst) q1 q2 q3
theorem z0V {a : Int} {f t : Int} (h : 16 < a ∨ a < 1 ∨ t < 0 ∨ 256 < t) : wu a f t = some ([], if 16 < a then 3 else if a < 1 ∨ t < 0 then 1 else 3) := by
 unfold wu
 by_cases h1 : 16 < a
 ·simp [h1]
 by_cases h2 : a < 1
 ·simp [h1, h2]
 by_cases h3 : t < 0
 ·simp [h1, h2, h3]
 have h4 : 256 < t := by omega
 simp [h1, h2, h3, h4]
theorem z6p {a f t : Nat} (ha : 1 ≤ a ∧ a ≤ 16) (hf : f ≤ 256) (ht : t ≤ 256) {r : Option (List (List Int) × Int)}
  (hr : (∃ j, j ≤ t ∧ qu a f t j) → r = some ([], 3)) (hr2 : (∀ j, j ≤ t → ¬ qu a f t j) → r = Option.bind (yx (vp a f (t + 1))) fun r => some (r.1, r.2)) :
  wu (a : Int) (f : Int) (t : Int) = r := by
 unfold wu
 have d1 : decide ((a : Int) > 16) = false := by simp; omega
 have d2 : decide ((a : Int) < 1) = false := by simp; omega
 have d3 : decide ((t : Int) < 0) = false := by simp
 have d4 : decide ((t : Int) > 256) = false := by simp; omega
 simp only [d1, d2, d3, d4, cond_false]
 have h := z4c ha hf ht hr hr2 KU 0 (Nat.zero_le _) (by show t - 0 < 18446744073709551616; omega) (fun j hj => by omega) (by simp [vp]) (by simp [syW]) (by simp)
 have h' : loop (fun s => wG (a : Int) (f : Int) (t : Int) s.1 s.2.1 s.2.2.1 s.2.2.2) (([] : List (List Int)), ([[]] : List (List Int)), 0, 0) = r := h
 rw [h']
 cases r <;> rfl
theorem z8g : yl 2 12 = some ([], 3) := by
 unfold yl
 have len : ∀ k, (vp 2 0 k).length = 2 ^ k - 1 := by
  intro k
  induction k with
  | zero => rfl
  | succ k ih => simp only [vp, Nat.zero_le, if_true, List.length_append, ih, qL, Nat.pow_succ]; have : 1 ≤ 2 ^ k := Nat.one_le_two_pow; omega
 have h12 : qu 2 0 12 12 := by
  unfold qu
  rw [len]
  left; decide
 have := z6p (a := 2) (f := 0) (t := 12) (r := some ([], 3)) (by omega) (by omega) (by omega) (fun _ => rfl) (fun h => absurd h12 (h 12 (by omega)))
 have h2 : wu 2 0 12 = some ([], 3) := this
 rw [h2]
 rfl
theorem Yj : wQ = some true := by
 unfold wQ
 rw [z8g]
 kernel_rfl
theorem z4X (a b : List (List Int)) (hl : a.length < 4611686018427387904) (hw : ∀ x ∈ a, x.length < 4611686018427387904) : kU a b = some (decide (a = b)) := by
 unfold kU
 by_cases he : a.length = b.length
 ·have hb : (((a.length : Nat) : Int) != ((b.length : Nat) : Int)) = false := by simp; omega
  simp only [hb, cond_false]
  rw [bdT (uv a hl (step := fun s => vP a b s) (fun i x => if b[i]? = some x then none else some false) ?_ ?_)]
  ·cases hf : x6 (fun i x => if b[i]? = some x then none else some false) a 0 with
   | some r =>
    obtain ⟨i, x, h1, h2⟩ := jQ hf
    rw [Nat.zero_add] at h2
    split at h2
    ·cases h2
    ·rename_i h3
     have : a ≠ b := fun e => h3 (by rw [← e]; exact h1)
     cases h2
     simp [oS, this]
   | none =>
    have hab : a = b := by
     refine List.ext_getElem? fun i => ?_
     rcases Nat.lt_or_ge i a.length with q | q
     ·have hx : a[i]? = some a[i] := List.getElem?_eq_getElem q
      have := XD hf i _ hx
      rw [Nat.zero_add] at this
      split at this
      ·rename_i h3; rw [h3, hx]
      ·cases this
     ·rw [List.getElem?_eq_none q, List.getElem?_eq_none (by omega)]
    simp [oS, qX, hab]
  ·intro i x hx
   have hi : i < a.length := (List.getElem?_eq_some_iff.1 hx).1
   have hq : decide ((i : Int) < (a.length : Int)) = true := by simpa using hi
   have hy : b[i]? = some b[i] := List.getElem?_eq_getElem (by omega)
   have hxm : x ∈ a := (List.getElem?_eq_some_iff.1 hx).2 ▸ List.getElem_mem hi
   unfold vP
   simp only [hq, cond_true, zC hx, zC hy, oB, z3M x b[i] (fun _ => hw x hxm), hy]
   by_cases h : b[i] = x
   ·rw [if_pos (by rw [h]), h, XE]; rfl
   ·have : (uP x b[i] != 0) = true := by simp; exact fun q => h (JD q).symm
    rw [this, if_neg (by simpa using h)]
    rfl
  ·unfold vP; simp
 ·have hb : (((a.length : Nat) : Int) != ((b.length : Nat) : Int)) = true := by simp; omega
  have : a ≠ b := fun e => he (by rw [e])
  simp [hb, this]
theorem z65 (a b : List (List Int)) (hl : a.length < 4611686018427387904) (hw : ∀ x ∈ a, x.length < 4611686018427387904) : xW a b = some (decide (a = b)) := by
 unfold xW
 rw [z4X a b hl hw]
 simp only [oB]
 by_cases he : a = b
 ·simp only [he, decide_true, Bool.not_true, cond_false, bne_self_eq_false]
  subst he
  rw [bdT (uv a hl (step := fun s => vS a s) (fun i x => none) ?_ ?_)]
  ·rw [X7 fun _ _ _ => rfl]
   rfl
  ·intro i x hx
   have hi : i < a.length := (List.getElem?_eq_some_iff.1 hx).1
   have hq : decide ((i : Int) < (a.length : Int)) = true := by simpa using hi
   unfold vS
   simp only [hq, cond_true, zC hx, oB, bne_self_eq_false, cond_false]
   rfl
  ·unfold vS; simp
 ·simp [he]
theorem uA (h : chE n l = 0) : l.length ≤ 4096 ∧ (∀ w ∈ l, w.length ≤ 256) ∧ wI l ≤ 65536 ∧ SW l ∧ (1 ≤ n ∧ n ≤ 16) ∧ ∀ w ∈ l, ∀ c ∈ w, 0 ≤ c ∧ c < n := by
 obtain ⟨h1, h2, h3⟩ := j5.1 h
 obtain ⟨q1, q2, _⟩ := KG h1
 obtain ⟨r1, _, r3⟩ := Zz.1 h1
 exact ⟨q1, q2, h3, h2, r1, fun w hw => (r3 w hw).2⟩
theorem z4z {l m : List (List Int)} (h : List.Sublist l m) : wI l ≤ wI m := by
 induction h with
 | slnil => exact Nat.le_refl _
 | cons a _ ih => simp only [wI, List.map_cons, List.sum_cons] at *; omega
 | cons_cons a _ ih => simp only [wI, List.map_cons, List.sum_cons] at *; omega
theorem YS (l m : List (List Int)) : wI (l ++ m) = wI l + wI m := by simp [wI]
def boE (n : Int) (a b : List (List Int)) : Int := if chE n a ≠ 0 then chE n a else chE n b
theorem Vw {a b : List (List Int)} : boE n a b = 0 ↔ chE n a = 0 ∧ chE n b = 0 := by
 unfold boE
 by_cases h : chE n a = 0
 ·rw [if_neg (by simp [h])]; simp [h]
 ·rw [if_pos h]; simp [h]
theorem z6m (n : Int) (a b : List (List Int)) : jA n [a, b] = some (boE n a b) := by
 unfold jA
 rw [bdT (uv [a, b] (by simp) (step := fun s => vM n [a, b] s) (fun i v => eS (chE n v)) ?_ ?_)]
 ·unfold boE eS
  by_cases h1 : chE n a = 0
  ·by_cases h2 : chE n b = 0
   ·simp [x6, h1, h2, oS, qR]
   ·simp [x6, h1, h2, oS]
  ·simp [x6, h1, oS]
 ·intro i v hv
  have hi : i < [a, b].length := (List.getElem?_eq_some_iff.1 hv).1
  unfold vM
  have hc : decide ((i : Int) < (([a, b] : List (List (List Int))).length : Int)) = true := by simp only [decide_eq_true_eq]; omega
  simp only [hc, cond_true, zC hv, oB, qt]
  by_cases h : chE n v = 0
  ·simp [h, nS, eS]
  ·have hb : (chE n v != 0) = true := by simpa using h
   simp [h, hb, nS, eS]
 ·unfold vM; simp
theorem Ka (n : Int) (a b : List (List Int)) : wi a b n = some (if boE n a b ≠ 0 then ([], boE n a b) else soR (a ++ b)) := by
 unfold wi
 rw [z6m]
 simp [oB]
 by_cases h : boE n a b = 0
 ·have ⟨ha, hb⟩ := Vw.1 h
  have ⟨a1, a2, _⟩ := uA ha
  have ⟨b1, b2, _⟩ := uA hb
  simp [h, bne_self_eq_false, cond_false]
  unfold yD
  rw [gdT (by simp; omega)]
  simp [oB]
  rw [gdT (by omega), Jc (by rw [List.length_append]; omega) (fun w hw => by
   rcases List.mem_append.1 hw with q | q
   ·have := a2 w q; omega
   ·have := b2 w q; omega)]
  rfl
 ·have hb : (boE n a b != 0) = true := by simpa using h
  simp [h, hb]
def jK (a b : List (List Int)) : List (List Int) := a.flatMap fun u => b.map fun v => u ++ v
theorem kX {a b : List (List Int)}  : x ∈ jK a b ↔ ∃ u ∈ a, ∃ v ∈ b, u ++ v = x := by simp [jK]
theorem z1X {a b : List (List Int)}  (hi : i < a.length) : jK (a.take (i + 1)) b = jK (a.take i) b ++ b.map fun v => a[i] ++ v := by
 unfold jK
 rw [List.take_add_one, List.getElem?_eq_getElem hi, List.flatMap_append]
 simp
theorem z3d (l : List (List UInt8 × Bool)) (x y : List UInt8) (v : Bool) : Qq (z1o l x v) y = if x = y then some v else Qq l y := by
 induction l with
 | nil =>
  by_cases h : x = y
  ·simp [z1o, Qq, h]
  ·simp [z1o, Qq, h]
 | cons p l ih =>
  by_cases h : p.1 = x
  ·by_cases h2 : x = y
   ·simp [z1o, Qq, h, h2]
   ·simp [z1o, Qq, h, h2]
  ·by_cases h2 : p.1 = y
   ·have : ¬ x = y := fun e => h (h2.trans e.symm)
    have t2 : ¬ y = x := fun e => this e.symm
    simp [z1o, Qq, h2, this, t2]
   ·have hb : (p.1 == x) = false := beq_eq_false_iff_ne.2 h
    simp [z1o, Qq, hb, h2, ih]
def z3s (w : List Int) : List UInt8 := u8s (w.map fun c => IntKind.u8.wrap c)
theorem z8U (h : w.length ≤ 1000) : Ya w = some (z3s w) := by
 unfold Ya
 rw [gdT (by omega)]
 have hl := vq (step := fun s => wF w s.1 s.2) (fun i => ((w.take i).map (fun c => IntKind.u8.wrap c) ++ List.replicate (w.length - i) (0 : Int), (i : Int))) w.length (t := w.map fun c => IntKind.u8.wrap c) (by omega) (by
  intro i hi
  show wF w _ (i : Int) = _
  unfold wF
  have hq : decide ((i : Int) < (w.length : Int)) = true := by simpa using hi
  have hx : w[i]? = some w[i] := List.getElem?_eq_getElem hi
  have hA : ((w.take i).map (fun c => IntKind.u8.wrap c)).length = i := by rw [List.length_map, List.length_take]; omega
  have hr : List.replicate (w.length - i) (0 : Int) = 0 :: List.replicate (w.length - (i + 1)) 0 := by
   rw [show w.length - i = (w.length - (i + 1)) + 1 by omega]; rfl
  have hy : ((w.take i).map (fun c => IntKind.u8.wrap c) ++ List.replicate (w.length - i) (0 : Int))[i]? = some 0 := by
   rw [List.getElem?_append_right (by omega), hA, hr]; simp
  simp only [hq, cond_true, zC hx, zC hy, oB, Int.toNat_natCast]
  rw [yq (by omega) (by omega), List.set_append_right _ _ (by omega), hA, Nat.sub_self, hr, List.set_cons_zero, List.take_add_one, hx, List.map_append, List.append_assoc]
  rfl) (by
  show wF w _ (w.length : Int) = _
  unfold wF
  simp)
 have h0 : ((w.take 0).map (fun c => IntKind.u8.wrap c) ++ List.replicate (w.length - 0) (0 : Int), ((0 : Nat) : Int)) = (List.replicate ((w.length : Nat) : Int).toNat (0 : Int), (0 : Int)) := by simp
 rw [h0] at hl
 rw [bdT hl]
 rfl
theorem z1u : ∀ {v w : List Int}, (∀ c ∈ v, 0 ≤ c ∧ c < 16) → (∀ c ∈ w, 0 ≤ c ∧ c < 16) → z3s v = z3s w → v = w
 | [], [], _, _, _ => rfl
 | [], _ :: _, _, _, h => by simp [z3s, u8s] at h
 | _ :: _, [], _, _, h => by simp [z3s, u8s] at h
 | x :: v, y :: w, hv, hw, h => by
  simp only [z3s, u8s, List.map_cons, List.cons.injEq] at h
  have hx := hv x (by simp)
  have hy := hw y (by simp)
  have wr : ∀ z : Int, 0 ≤ z ∧ z < 16 → IntKind.u8.wrap z = z := by
   intro z hz
   simp only [IntKind.wrap, IntKind.bits, IntKind.signed]
   simp
   omega
  have e := h.1
  rw [wr x hx, wr y hy] at e
  have e2 := congrArg UInt8.toNat e
  rw [UInt8.toNat_ofNat', UInt8.toNat_ofNat', Nat.mod_eq_of_lt (by omega), Nat.mod_eq_of_lt (by omega)] at e2
  rw [show x = y by omega, z1u (fun c hc => hv c (by simp [hc])) (fun c hc => hw c (by simp [hc])) h.2]
theorem Kb {l m : List (List Int)} (h : l.Perm m) : wI l = wI m := (h.map _).sum_nat
theorem z0Y : ∀ {o L : List (List Int)}, o.Nodup → (∀ x ∈ o, x ∈ L) → ∃ r, L.Perm (o ++ r)
 | [], L, _, _ => ⟨L, .refl _⟩
 | x :: o, L, h, hs => by
  have hx := hs x (by simp)
  have ⟨r, hr⟩ := z0Y (o := o) (L := L.erase x) (List.nodup_cons.1 h).2 fun y hy => (List.mem_erase_of_ne (fun e => (List.nodup_cons.1 h).1 (by rw [← e]; exact hy))).2 (hs y (by simp [hy]))
  exact ⟨r, (List.perm_cons_erase hx).trans (hr.cons x)⟩
theorem WJ {o L : List (List Int)} (h : o.Nodup) (hs : ∀ x ∈ o, x ∈ L) : o.length ≤ L.length ∧ wI o ≤ wI L := by
 have ⟨r, hr⟩ := z0Y h hs
 have h1 := hr.length_eq
 have h2 := Kb hr
 rw [List.length_append] at h1
 rw [YS] at h2
 omega
def z98 (a b : List (List Int)) : Prop := (∃ w ∈ jK a b, 256 < w.length) ∨ 4096 < (srt (jK a b)).length ∨ 65536 < wI (srt (jK a b))
def CI (P : List (List Int)) (seen : List (List UInt8 × Bool)) (n : Int) (out : List (List Int)) : Prop :=
 out.Nodup ∧ (∀ x, x ∈ out ↔ x ∈ P) ∧ (∀ x ∈ out, x.length ≤ 256) ∧ out.length ≤ 4096 ∧ wI out ≤ 65536 ∧ n = (wI out : Int) ∧ ∀ k, ((Qq seen k).getD false = true ↔ ∃ x ∈ out, z3s x = k)
section
variable {n : Int} {a b : List (List Int)} (ha : chE n a = 0) (hb : chE n b = 0)
include ha hb
theorem z1h (hw : w ∈ jK a b) : ∀ c ∈ w, 0 ≤ c ∧ c < 16 := by
 have ⟨_, _, _, _, a5, a6⟩ := uA ha
 have ⟨_, _, _, _, _, b6⟩ := uA hb
 obtain ⟨u, h1, v, h2, rfl⟩ := kX.1 hw
 intro c hc
 rcases List.mem_append.1 hc with q | q
 ·have := a6 u h1 c q; omega
 ·have := b6 v h2 c q; omega
theorem z7H (hi : i < a.length) {seen : List (List UInt8 × Bool)} {m : Int} {out : List (List Int)} (h : CI (jK (a.take i) b) seen m out) :
  Ret (loop (fun s => wv b a[i] s.1 s.2.1 s.2.2.1 s.2.2.2) (seen, m, out, 0)) fun t => match t with | .inl p => CI (jK (a.take (i + 1)) b) p.1 p.2.1 p.2.2 | .inr p => p = ([], 3) ∧ z98 a b := by
 have ⟨a1, a2, _⟩ := uA ha
 have ⟨b1, b2, _⟩ := uA hb
 refine qW (fun q => ∃ j : Nat, q.2.2.2 = (j : Int) ∧ j ≤ b.length ∧ CI (jK (a.take i) b ++ (b.take j).map fun v => a[i] ++ v) q.1 q.2.1 q.2.2.1) (fun q => b.length - q.2.2.2.toNat) ⟨0, rfl, Nat.zero_le _, by simpa using h⟩ (by show b.length - _ < _; omega) ?_
 rintro ⟨seen, m, out, _⟩ ⟨j, rfl, g1, g2⟩
 show Ret (wv b a[i] seen m out (j : Int)) _
 unfold wv
 rw [uY]
 refine ⟨fun hc => ?_, fun hc => ?_⟩
 ·have hj : j < b.length := by simpa using hc
  have hy : b[j]? = some b[j] := List.getElem?_eq_getElem hj
  have wa := a2 _ (List.getElem_mem hi)
  have wb := b2 _ (List.getElem_mem hj)
  have hj2 : w64 ((j : Int) + 1) = ((j + 1 : Nat) : Int) := by rw [yq (by omega) (by omega)]; omega
  have hmem : a[i] ++ b[j] ∈ jK a b := kX.2 ⟨_, List.getElem_mem hi, _, List.getElem_mem hj, rfl⟩
  rw [zC hy]
  simp only [oB, Wi]
  rw [gdT (by omega), uY]
  refine ⟨fun hc2 => ?_, fun hc2 => ?_⟩
  ·have hl : 256 < (a[i] ++ b[j]).length := by simp only [decide_eq_true_eq] at hc2; omega
   rw [zU]
   exact ⟨rfl, .inl ⟨_, hmem, hl⟩⟩
  ·have hl : (a[i] ++ b[j]).length ≤ 256 := by simp only [decide_eq_false_iff_not] at hc2; omega
   rw [z8U (by omega)]
   simp only [oB]
   simp only at g2
   have ⟨c1, c2, c3, c4, c5, c6, c7⟩ := g2
   have hP : ∀ x, x ∈ jK (a.take i) b ++ (b.take (j + 1)).map (fun v => a[i] ++ v) ↔ x ∈ out ∨ x = a[i] ++ b[j] := by
    intro x
    rw [c2, List.take_add_one, hy, List.map_append, ← List.append_assoc, List.mem_append]
    simp
   have hsub : ∀ x ∈ out, x ∈ jK a b := by
    intro x hx
    rcases List.mem_append.1 ((c2 x).1 hx) with q | q
    ·obtain ⟨u, q1, v, q2, rfl⟩ := kX.1 q
     exact kX.2 ⟨u, List.mem_of_mem_take q1, v, q2, rfl⟩
    ·obtain ⟨v, q2, rfl⟩ := List.mem_map.1 q
     exact kX.2 ⟨_, List.getElem_mem hi, v, List.mem_of_mem_take q2, rfl⟩
   have hkey : (Qq seen (z3s (a[i] ++ b[j]))).getD false = true ↔ a[i] ++ b[j] ∈ out := by
    rw [c7]
    constructor
    ·rintro ⟨x, q1, q2⟩
     rw [z1u (z1h ha hb (hsub x q1)) (z1h ha hb hmem) q2] at q1
     exact q1
    ·intro q; exact ⟨_, q, rfl⟩
   by_cases hin : a[i] ++ b[j] ∈ out
   ·rw [hkey.2 hin]
    simp only [Bool.not_true, cond_false]
    unfold ww
    have d1 : decide (((out.length : Nat) : Int) > 4096) = false := by simp; omega
    have d2 : decide (m > 65536) = false := by rw [c6]; simp; omega
    simp only [d1, d2, cond_false]
    rw [hj2, zU]
    refine ⟨⟨j + 1, rfl, hj, c1, fun x => ?_, c3, c4, c5, c6, c7⟩, by simp only [Int.toNat_natCast]; omega⟩
    rw [hP]
    constructor
    ·intro q; exact .inl q
    ·rintro (q | rfl)
     ·exact q
     ·exact hin
   ·have hf : (Qq seen (z3s (a[i] ++ b[j]))).getD false = false := by
     cases hq : (Qq seen (z3s (a[i] ++ b[j]))).getD false
     ·rfl
     ·exact absurd (hkey.1 hq) hin
    rw [hf]
    simp only [Bool.not_false, cond_true]
    rw [gdT (by simp only [List.length_singleton]; omega)]
    have hnd : (out ++ [a[i] ++ b[j]]).Nodup := by
     rw [List.nodup_append]
     exact ⟨c1, by simp, fun x hx y hy => by simp at hy; subst hy; exact fun e => hin (e ▸ hx)⟩
    have hss : ∀ x ∈ out ++ [a[i] ++ b[j]], x ∈ srt (jK a b) := fun x hx => yZ.2 (by
     rcases List.mem_append.1 hx with q | q
     ·exact hsub x q
     ·simp at q; subst q; exact hmem)
    have ⟨s1, s2⟩ := WJ hnd hss
    have hsy : wI (out ++ [a[i] ++ b[j]]) = wI out + (a[i] ++ b[j]).length := by rw [YS]; simp [wI]
    have hm : w64 (m + (((a[i] ++ b[j]).length : Nat) : Int)) = ((wI (out ++ [a[i] ++ b[j]]) : Nat) : Int) := by
     rw [c6, hsy, yq (by omega) (by omega)]; omega
    rw [hm]
    unfold ww
    rw [uY]
    refine ⟨fun hc3 => ?_, fun hc3 => ?_⟩
    ·rw [zU]
     refine ⟨rfl, .inr (.inl ?_)⟩
     simp only [decide_eq_true_eq] at hc3
     omega
    ·rw [uY]
     refine ⟨fun hc4 => ?_, fun hc4 => ?_⟩
     ·rw [zU]
      refine ⟨rfl, .inr (.inr ?_)⟩
      simp only [decide_eq_true_eq] at hc4
      omega
     ·rw [hj2, zU]
      simp only [decide_eq_false_iff_not] at hc3 hc4
      refine ⟨⟨j + 1, rfl, hj, hnd, fun x => ?_, fun x hx => ?_, by simp only; omega, by simp only; omega, rfl, fun k => ?_⟩, by simp only [Int.toNat_natCast]; omega⟩
      ·rw [hP]; simp
      ·rcases List.mem_append.1 hx with q | q
       ·exact c3 x q
       ·simp at q; subst q; exact hl
      ·rw [z3d]
       by_cases hk : z3s (a[i] ++ b[j]) = k
       ·rw [if_pos hk]
        simp only [Option.getD_some, true_iff]
        exact ⟨_, by simp, hk⟩
       ·rw [if_neg hk, c7]
        constructor
        ·rintro ⟨x, q1, q2⟩; exact ⟨x, by simp [q1], q2⟩
        ·rintro ⟨x, q1, q2⟩
         rcases List.mem_append.1 q1 with q | q
         ·exact ⟨x, q, q2⟩
         ·simp at q; subst q; exact absurd q2 hk
 ·have hj : j = b.length := by
   have : ¬ j < b.length := by simpa using hc
   omega
  rw [zU]
  show CI (jK (a.take (i + 1)) b) seen m out
  rw [z1X hi]
  simp only [hj, List.take_length] at g2
  exact g2
theorem z0j : Ret (wH a b n) fun r => z98 a b ∧ r = ([], 3) ∨ ¬ z98 a b ∧ r = (srt (jK a b), 0) := by
 have ⟨a1, a2, _⟩ := uA ha
 have ⟨b1, b2, _⟩ := uA hb
 unfold wH
 rw [z6m, Vw.2 ⟨ha, hb⟩]
 simp [oB, bne_self_eq_false, cond_false]
 rw [qj]
 refine Ret.mono (qW (fun q => ∃ i : Nat, q.2.2.2 = (i : Int) ∧ i ≤ a.length ∧ CI (jK (a.take i) b) q.1 q.2.1 q.2.2.1) (fun q => a.length - q.2.2.2.toNat) (R := fun t : List (List Int) ⊕ (List (List Int) × Int) => match t with | .inl out => ∃ seen m, CI (jK a b) seen m out | .inr p => p = ([], 3) ∧ z98 a b) ?_ ?_ ?_) ?_
 ·refine ⟨0, rfl, Nat.zero_le _, List.nodup_nil, fun x => by simp [jK], by simp, by simp, by simp [wI], by simp [wI], fun k => ?_⟩
  simp [Qq]
 ·show a.length - _ < _
  omega
 ·rintro ⟨seen, m, out, _⟩ ⟨i, rfl, g1, g2⟩
  show Ret (vB a b seen m out (i : Int)) _
  unfold vB
  rw [uY]
  refine ⟨fun hc => ?_, fun hc => ?_⟩
  ·have hi : i < a.length := by simpa using hc
   have hx : a[i]? = some a[i] := List.getElem?_eq_getElem hi
   rw [zC hx]
   simp [oB]
   rw [qj]
   refine (z7H ha hb hi g2).mono ?_
   rintro (p | p) hp
   ·show Ret (vC (i : Int) p.1 p.2.1 p.2.2) _
    unfold vC
    rw [yq (by omega) (by omega), zU]
    exact ⟨⟨i + 1, rfl, hi, hp⟩, by simp only; omega⟩
   ·show Ret (some (LR.done (Sum.inr p))) _
    rw [zU]
    exact hp
  ·have hi : i = a.length := by
    have : ¬ i < a.length := by simpa using hc
    omega
   rw [zU]
   refine ⟨seen, m, ?_⟩
   simp [hi, List.take_length] at g2
   exact g2
 ·rintro (out | p) hp
  ·have ⟨seen, m, c1, c2, c3, c4, c5, _⟩ := hp
   show Ret (vD out) _
   unfold vD
   rw [Jc (by omega) (fun w hw => by have := c3 w hw; omega)]
   simp [oB]
   have hs : srt out = srt (jK a b) := VJ c2
   have hp2 : out.Perm (srt (jK a b)) := (List.perm_ext_iff_of_nodup c1 (km _).nodup).2 fun x => by rw [c2, yZ]
   have h1 := hp2.length_eq
   have h2 := Kb hp2
   unfold soR
   rw [hs, if_neg (by omega), zU]
   refine .inr ⟨?_, rfl⟩
   rintro (⟨w, q1, q2⟩ | q | q)
   ·have := c3 w ((c2 w).2 q1); omega
   ·omega
   ·omega
  ·show Ret (some p) _
   rw [zU]
   exact .inl ⟨hp.2, hp.1⟩
end
def Xk (i : Nat) : List Int := (List.range 256).map fun k => if k < 8 then ((i / 2 ^ (7 - k) % 2 : Nat) : Int) else 0
def uM : List (List Int) := (List.range 256).map Xk
theorem vm (i : Nat) : (Xk i).length = 256 := by simp [Xk]
theorem Xy : uM.length = 256 := by simp [uM]
theorem Zy (h : w ∈ uM) : ∃ i, i < 256 ∧ w = Xk i := by
 obtain ⟨i, hi, rfl⟩ := List.mem_map.1 h
 exact ⟨i, List.mem_range.1 hi, rfl⟩
theorem z0P : ∀ c ∈ Xk i, 0 ≤ c ∧ c < 2 := fun c hc => by
 obtain ⟨k, _, rfl⟩ := List.mem_map.1 hc
 split <;> omega
theorem z3g : ((List.range 255).all fun i => decide (uP (Xk i) (Xk (i + 1)) < 0)) = true := by kernel_rfl
theorem Ju : SW uM := by
 refine Kd.2 fun i x y hx hy => ?_
 have h1 := (List.getElem?_eq_some_iff.1 hy).1
 rw [Xy] at h1
 unfold uM at hx hy
 rw [List.getElem?_map, List.getElem?_range (by omega)] at hx hy
 cases hx
 cases hy
 have := List.all_eq_true.1 z3g i (List.mem_range.2 (by omega))
 simpa using this
theorem z7s : ∀ w ∈ uM, w.length ≤ 256 ∧ ∀ c ∈ w, 0 ≤ c ∧ c < (2 : Int) := fun w hw => by
 obtain ⟨i, _, rfl⟩ := Zy hw
 exact ⟨by rw [vm]; exact Nat.le_refl _, z0P⟩
theorem Kc (h : ∀ w ∈ l, w.length = k) : wI l = k * l.length := by
 induction l with
 | nil => rfl
 | cons w l ih =>
  have h1 := h w List.mem_cons_self
  have h2 := ih fun v hv => h v (List.mem_cons_of_mem _ hv)
  unfold wI at h2 ⊢
  rw [List.map_cons, List.sum_cons, h2, h1, List.length_cons, Nat.mul_succ]
  omega
theorem Xx : wI uM = 65536 := by
 rw [Kc (k := 256) fun w hw => by obtain ⟨i, _, rfl⟩ := Zy hw; exact vm i, Xy]
theorem X3 : chE 2 uM = 0 := j5.2 ⟨Zz.2 ⟨by omega, by rw [Xy]; omega, fun w hw => z7s w hw⟩, Ju, by rw [Xx]; omega⟩
theorem z4E (hl : SW l) (hw : w ∉ l) : (srt (l ++ [w])).length = l.length + 1 ∧ wI (srt (l ++ [w])) = wI l + w.length := by
 have hn : (l ++ [w]).Nodup := by
  rw [List.nodup_append]
  exact ⟨hl.nodup, by simp, fun a ha b hb e => by rw [List.mem_singleton.1 hb] at e; exact hw (e ▸ ha)⟩
 have h1 := WJ hn (L := srt (l ++ [w])) fun x hx => yZ.2 hx
 have h2 := WJ (km (l ++ [w])).nodup (L := l ++ [w]) fun x hx => yZ.1 hx
 rw [List.length_append, List.length_singleton, show wI (l ++ [w]) = wI l + w.length by simp [wI]] at h1 h2
 omega
theorem z14 (hl : SW l) (hw : w ∉ l) (h : 4096 < l.length + 1 ∨ 65536 < wI l + w.length) : soR (l ++ [w]) = ([], 3) := by
 obtain ⟨h1, h2⟩ := z4E hl hw
 unfold soR
 rw [if_pos (by omega)]
theorem z6d : chE 2 [[1]] = 0 := by
 refine j5.2 ⟨Zz.2 ⟨by omega, by simp, fun w hw => ?_⟩, by unfold SW; exact List.pairwise_singleton _ _, by simp [wI]⟩
 rw [List.mem_singleton.1 hw]
 exact ⟨by simp, fun c hc => by rw [List.mem_singleton.1 hc]; omega⟩
theorem z26 : wi uM [[1]] 2 = some ([], 3) := by
 rw [Ka, if_neg (fun q => q (Vw.2 ⟨X3, z6d⟩)), z14 Ju (fun h => by obtain ⟨i, _, e⟩ := Zy h; have := congrArg List.length e; rw [vm] at this; simp at this) (.inr (by rw [Xx]; simp))]
theorem z0F : wH uM [[1]] 2 = some ([], 3) := by
 obtain ⟨r, h1, h2⟩ := z0j (n := 2) X3 z6d
 have hb : z98 uM [[1]] := .inl ⟨Xk 0 ++ [1], kX.2 ⟨Xk 0, List.mem_map.2 ⟨0, by simp, rfl⟩, [1], by simp, rfl⟩, by rw [List.length_append, vm]; simp⟩
 rcases h2 with ⟨_, h2⟩ | ⟨h2, _⟩
 ·rw [h1, h2]
 ·exact absurd hb h2
def z8J : List (List Int) := (List.range 256).flatMap fun i => (List.range 17).map fun j => (Xk i).take (8 + j)
theorem z6n {i k : Nat} (hk : k < 8) : (Xk i)[k]? = some ((i / 2 ^ (7 - k) % 2 : Nat) : Int) := by
 unfold Xk
 rw [List.getElem?_map, List.getElem?_range (by omega), Option.map_some, if_pos hk]
theorem z3U (hi : i < 256) : i = i / 2 ^ 7 % 2 * 128 + i / 2 ^ 6 % 2 * 64 + i / 2 ^ 5 % 2 * 32 + i / 2 ^ 4 % 2 * 16 + i / 2 ^ 3 % 2 * 8 + i / 2 ^ 2 % 2 * 4 + i / 2 ^ 1 % 2 * 2 + i / 2 ^ 0 % 2 := by omega
theorem z7M {i j : Nat} (hi : i < 256) (hj : j < 256) (h : ∀ k, k < 8 → (Xk i)[k]? = (Xk j)[k]?) : i = j := by
 have e : ∀ k, k < 8 → i / 2 ^ (7 - k) % 2 = j / 2 ^ (7 - k) % 2 := fun k hk => by
  have := h k hk
  rw [z6n hk, z6n hk] at this
  have := Option.some.inj this
  omega
 have a := z3U hi
 have b := z3U hj
 have e0 := e 0 (by omega)
 have e1 := e 1 (by omega)
 have e2 := e 2 (by omega)
 have e3 := e 3 (by omega)
 have e4 := e 4 (by omega)
 have e5 := e 5 (by omega)
 have e6 := e 6 (by omega)
 have e7 := e 7 (by omega)
 simp only [Nat.sub_zero, show 7 - 1 = 6 from rfl, show 7 - 2 = 5 from rfl, show 7 - 3 = 4 from rfl, show 7 - 4 = 3 from rfl, show 7 - 5 = 2 from rfl, show 7 - 6 = 1 from rfl, show 7 - 7 = 0 from rfl] at e0 e1 e2 e3 e4 e5 e6 e7
 exact a.trans (by rw [e0, e1, e2, e3, e4, e5, e6, e7]; exact b.symm)
theorem z7j : z8J.length = 4352 := by
 unfold z8J
 rw [List.length_flatMap]
 have : ((List.range 256).map fun i => ((List.range 17).map fun j => (Xk i).take (8 + j)).length) = List.replicate 256 17 := by
  simp [List.map_const']
 rw [this]
 have h : (List.replicate 256 17).sum = 4352 := by kernel_rfl
 exact h
theorem z2X : z8J.Nodup := by
 unfold z8J List.Nodup
 rw [List.pairwise_flatMap]
 refine ⟨fun i hi => ?_, ?_⟩
 ·rw [List.pairwise_map]
  refine List.Pairwise.imp_of_mem (fun {a b} ha hb hab e => ?_) (List.pairwise_lt_range (n := 17))
  have ha := List.mem_range.1 ha
  have hb := List.mem_range.1 hb
  have := congrArg List.length e
  rw [List.length_take, List.length_take, vm] at this
  omega
 ·refine List.Pairwise.imp_of_mem (fun {a b} ha hb hab x hx y hy e => ?_) (List.pairwise_lt_range (n := 256))
  have ha := List.mem_range.1 ha
  have hb := List.mem_range.1 hb
  obtain ⟨j, _, rfl⟩ := List.mem_map.1 hx
  obtain ⟨k, _, rfl⟩ := List.mem_map.1 hy
  have := z7M ha hb fun n hn => by
   have := congrArg (fun l : List Int => l[n]?) e
   simpa only [List.getElem?_take_of_lt (show n < 8 + j by omega), List.getElem?_take_of_lt (show n < 8 + k by omega)] using this
  omega
theorem z7i (h : x ∈ z8J) : ∃ w ∈ uM, ∃ j, j ≤ w.length ∧ x = w.take j := by
 obtain ⟨i, hi, h⟩ := List.mem_flatMap.1 h
 obtain ⟨j, hj, rfl⟩ := List.mem_map.1 h
 have hj := List.mem_range.1 hj
 exact ⟨Xk i, List.mem_map.2 ⟨i, hi, rfl⟩, 8 + j, by rw [vm]; omega, rfl⟩
theorem z1r : ∀ {u v : List Int} (x y : List Int), u.length = v.length → xK u v < 0 → xK (u ++ x) (v ++ y) < 0
 | [], [], _, _, _, h => by simp [xK] at h
 | [], _ :: _, _, _, h, _ => by simp at h
 | _ :: _, [], _, _, h, _ => by simp at h
 | a :: u, b :: v, x, y, hl, h => by
  simp [List.cons_append, xK] at h ⊢
  by_cases h1 : a < b
  ·simp [h1]
  ·by_cases h2 : b < a
   ·simp [h1, h2] at h
   ·simp [h1, h2] at h ⊢
    exact z1r x y (by simpa using hl) h
theorem KH : ∀ (u : List Int) {s t : Int}, s < t → xK (u ++ [s]) (u ++ [t]) < 0
 | [], s, t, h => by simp [xK, h]
 | a :: u, s, t, h => by
  simp [List.cons_append, xK, Int.lt_irrefl]
  exact KH u h
theorem JC {a b : List Int} (h : a.length = b.length) : uP a b = xK a b := by unfold uP; rw [if_neg (by omega), if_neg (by omega)]
theorem z7A (a : Nat) (w : List Int) : SW (X8 a w) := by
 unfold X8 SW
 rw [List.pairwise_map]
 refine List.Pairwise.imp (fun {s t} h => ?_) List.pairwise_lt_range
 rw [JC (by simp)]
 exact KH w (by omega)
theorem z0I (a k : Nat) : ∀ {l : List (List Int)}, SW l → (∀ w ∈ l, w.length = k) → SW (l.flatMap (X8 a))
 | [], _, _ => by simp [SW]
 | w :: l, h, hk => by
  rw [List.flatMap_cons]
  unfold SW
  rw [List.pairwise_append]
  refine ⟨z7A a w, z0I a k h.tail fun x hx => hk x (by simp [hx]), fun x hx y hy => ?_⟩
  simp [X8, List.mem_map] at hx
  obtain ⟨s, _, rfl⟩ := hx
  rw [List.mem_flatMap] at hy
  have ⟨v, hv, hy⟩ := hy
  simp [X8, List.mem_map] at hy
  obtain ⟨t, _, rfl⟩ := hy
  have e1 := hk w (by simp)
  have e2 := hk v (by simp [hv])
  rw [JC (by simp [e1, e2])]
  have := h.head v hv
  rw [JC (by omega)] at this
  exact z1r _ _ (by omega) this
theorem z6k (a : Nat) : ∀ k, SW (exW a k)
 | 0 => by simp [exW, SW]
 | k + 1 => z0I a k (z6k a k) (qq a k)
theorem Wb (a f : Nat) : ∀ k, ∀ w ∈ vp a f k, w.length < k
 | 0, w, h => by simp [vp] at h
 | k + 1, w, h => by
  unfold vp at h
  split at h
  ·rcases List.mem_append.1 h with h | h
   ·have := Wb a f k w h; omega
   ·have := qq a k w h; omega
  ·have := Wb a f k w h; omega
theorem Ub (a f : Nat) : ∀ k, SW (vp a f k)
 | 0 => by simp [vp, SW]
 | k + 1 => by
  unfold vp
  split
  ·unfold SW
   rw [List.pairwise_append]
   refine ⟨Ub a f k, z6k a k, fun x hx y hy => ?_⟩
   have h1 := Wb a f k x hx
   have h2 := qq a k y hy
   unfold uP
   rw [if_pos (by omega)]
   omega
  ·exact Ub a f k
def lnW (a f : Nat) : Nat → Nat
 | 0 => 0
 | k + 1 => if f ≤ k then lnW a f k + a ^ k else lnW a f k
theorem Zv (a f : Nat) : ∀ k, (vp a f k).length = lnW a f k
 | 0 => rfl
 | k + 1 => by
  unfold vp lnW
  split
  ·rw [List.length_append, Zv a f k, qL]
  ·exact Zv a f k
theorem z1T (h : ∀ w ∈ l, w.length = k) : wI l = k * l.length := by
 induction l with
 | nil => simp [wI]
 | cons x l ih =>
  have hs : wI (x :: l) = x.length + wI l := by simp [wI]
  rw [hs, ih fun w hw => h w (by simp [hw]), h x (by simp), List.length_cons, Nat.mul_succ]; omega
theorem z4A (l m : List (List Int)) : wI (l ++ m) = wI l + wI m := by simp [wI]
theorem z0w (a f : Nat) : ∀ k, wI (vp a f k) = syW a f k
 | 0 => rfl
 | k + 1 => by
  unfold vp syW
  split
  ·rw [z4A, z0w a f k, z1T (qq a k), qL]
  ·exact z0w a f k
theorem z1k (a f : Nat) : ∀ k, k ≤ f → vp a f k = []
 | 0, _ => rfl
 | k + 1, h => by
  unfold vp
  rw [if_neg (by omega)]
  exact z1k a f k (by omega)
def z6U (a f t k : Nat) : Bool := decide (4096 < lnW a f (k + 1)) || decide (65536 < syW a f (k + 1)) || (decide (k < t) && decide (4096 < a ^ k * a))
theorem z2E (a f t k : Nat) : z6U a f t k = true ↔ qu a f t k := by
 unfold z6U qu
 simp only [Bool.or_eq_true, Bool.and_eq_true, decide_eq_true_eq, Zv, or_assoc]
def WY (a f t : Nat) : Bool := (List.range (t + 1)).any (z6U a f t)
theorem JQ (a f t : Nat) : WY a f t = true ↔ ∃ j, j ≤ t ∧ qu a f t j := by
 unfold WY
 simp only [List.any_eq_true, List.mem_range, z2E]
 constructor
 ·rintro ⟨j, h1, h2⟩; exact ⟨j, by omega, h2⟩
 ·rintro ⟨j, h1, h2⟩; exact ⟨j, by omega, h2⟩
theorem Xe {a f t : Nat} (ha : 1 ≤ a ∧ a ≤ 16) (hf : f ≤ 256) (ht : t ≤ 256) : wu (a : Int) (f : Int) (t : Int) = some (if WY a f t then ([], 3) else (vp a f (t + 1), 0)) := by
 refine z6p ha hf ht (fun h => by rw [if_pos ((JQ a f t).2 h)]) fun h => ?_
 have hn : ¬ WY a f t = true := fun q => by
  obtain ⟨j, h1, h2⟩ := (JQ a f t).1 q
  exact h j h1 h2
 rw [if_neg hn]
 have hs := h t (Nat.le_refl _)
 unfold qu at hs
 have hlen : (vp a f (t + 1)).length ≤ 4096 := by omega
 have hsy : wI (vp a f (t + 1)) ≤ 65536 := by rw [z0w]; omega
 rw [Jc (by omega) (fun w hw => by have := Wb a f (t + 1) w hw; omega)]
 unfold soR
 rw [Yc (Ub a f (t + 1)), if_neg (by omega)]
 rfl
theorem z7d (ha : a ≤ 16) {o nx : List (List Int)}  (hi : i < o.length) (hw : o[i].length ≤ 1000) (hn : nx.length ≤ 10000000) :
  loop (fun s => xa (a : Int) o (i : Int) s.1 s.2) (nx, 0) = some (nx ++ X8 a o[i]) := by
 have h := vq (step := fun s => xa (a : Int) o (i : Int) s.1 s.2) (fun j => (nx ++ (List.range j).map (fun s : Nat => o[i] ++ [(s : Int)]), (j : Int))) a (t := nx ++ X8 a o[i]) (by omega) (by
  intro j hj
  show xa (a : Int) o (i : Int) _ (j : Int) = _
  unfold xa
  have hq : decide ((j : Int) < (a : Int)) = true := by simpa using hj
  have hx : o[i]? = some o[i] := List.getElem?_eq_getElem hi
  simp only [hq, cond_true, zC hx, oB]
  rw [gdT (by simp; omega), gdT (by simp; omega), gdT (by simp; omega), yq (by omega) (by omega), List.range_succ, List.map_append, List.append_assoc]
  rfl) (by
  show xa (a : Int) o (i : Int) _ (a : Int) = _
  unfold xa
  simp [X8])
 have h0 : ((nx ++ (List.range 0).map (fun s : Nat => o[i] ++ [(s : Int)])), ((0 : Nat) : Int)) = (nx, (0 : Int)) := by simp
 rw [h0] at h
 exact h
theorem z4R (ha : a ≤ 16)  (hw : ∀ w ∈ l, w.length ≤ 1000) (hl : l.length ≤ 100000) :
  loop (fun s => xc (a : Int) l s.1 s.2) (([] : List (List Int)), 0) = some (l.flatMap (X8 a)) := by
 have h := vq (step := fun s => xc (a : Int) l s.1 s.2) (fun i => ((l.take i).flatMap (X8 a), (i : Int))) l.length (t := l.flatMap (X8 a)) (by omega) (by
  intro i hi
  show xc (a : Int) l _ (i : Int) = _
  unfold xc
  have hq : decide ((i : Int) < (l.length : Int)) = true := by simpa using hi
  have hx : l[i]? = some l[i] := List.getElem?_eq_getElem hi
  have hlen : ((l.take i).flatMap (X8 a)).length ≤ 10000000 := by
   rw [Jy, List.length_take]
   have : min i l.length * a ≤ 100000 * 16 := Nat.mul_le_mul (by omega) ha
   omega
  simp only [hq, cond_true]
  rw [bdT (z7d ha hi (hw _ (List.getElem_mem hi)) hlen)]
  unfold qm
  rw [yq (by omega) (by omega), List.take_add_one, hx, List.flatMap_append]
  simp) (by
  show xc (a : Int) l _ (l.length : Int) = _
  unfold xc
  simp)
 simpa using h
theorem Kt {a k : Nat} (ha : 1 ≤ a ∧ a ≤ 16) (hk : k ≤ 256) (hl : a ^ k ≤ 100000) : ug (a : Int) (k : Int) = some (exW a k) := by
 unfold ug
 have h := vq (step := fun s => xJ (a : Int) (k : Int) s.1 s.2) (fun i => (exW a i, (i : Int))) k (t := exW a k) (by omega) (by
  intro i hi
  show xJ (a : Int) (k : Int) _ (i : Int) = _
  unfold xJ
  have hq : decide ((i : Int) < (k : Int)) = true := by simpa using hi
  have : a ^ i ≤ a ^ k := Nat.pow_le_pow_right ha.1 (by omega)
  simp only [hq, cond_true]
  rw [bdT (z4R ha.2 (fun w hw => by rw [qq a i w hw]; omega) (by rw [qL]; omega))]
  unfold qn qo
  rw [yq (by omega) (by omega)]
  rfl) (by
  show xJ (a : Int) (k : Int) _ (k : Int) = _
  unfold xJ
  simp)
 have h0 : (exW a 0, ((0 : Nat) : Int)) = (([[]] : List (List Int)), (0 : Int)) := rfl
 rw [h0] at h
 rw [bdT h]
 rfl
theorem z4W {a k : Nat} (ha : 1 ≤ a ∧ a ≤ 16) (hk : k ≤ 256) (hl : a ^ k ≤ 100000) : jB (a : Int) (k : Int) = some (vp a 0 (k + 1)) := by
 unfold jB
 have hlen : ∀ i, i ≤ k + 1 → (vp a 0 i).length ≤ i * 100000 := by
  intro i
  induction i with
  | zero => intro _; simp [vp]
  | succ i ih =>
   intro hi
   have := ih (by omega)
   have h2 : a ^ i ≤ a ^ k := Nat.pow_le_pow_right ha.1 (by omega)
   simp only [vp, Nat.zero_le, if_true, List.length_append, qL]
   omega
 have h := vq (step := fun s => w9 (a : Int) (k : Int) s.1 s.2) (fun i => (vp a 0 i, (i : Int))) (k + 1) (t := vp a 0 (k + 1)) (by omega) (by
  intro i hi
  show w9 (a : Int) (k : Int) _ (i : Int) = _
  unfold w9
  have hq : decide ((i : Int) ≤ (k : Int)) = true := by simp; omega
  have h2 : a ^ i ≤ a ^ k := Nat.pow_le_pow_right ha.1 (by omega)
  have h3 := hlen i (by omega)
  simp only [hq, cond_true]
  rw [Kt ha (by omega) (by omega)]
  simp only [oB]
  rw [gdT (by rw [qL]; omega), yq (by omega) (by omega)]
  simp only [vp, Nat.zero_le, if_true]
  rfl) (by
  show w9 (a : Int) (k : Int) _ ((k + 1 : Nat) : Int) = _
  unfold w9
  have hq : decide (((k + 1 : Nat) : Int) ≤ (k : Int)) = false := by simp only [decide_eq_false_iff_not]; omega
  simp only [hq, cond_false])
 have h0 : (vp a 0 0, ((0 : Nat) : Int)) = (([] : List (List Int)), (0 : Int)) := rfl
 rw [h0] at h
 rw [bdT h]
 rfl
def z5C (a k : Nat) : Bool :=
 match loop (fun s => vt (a : Int) (k : Int) s.1 s.2.1 s.2.2.1 s.2.2.2) (1, 1, 0, 1) with
 | some (n, m, s) => (WY a 0 k == (decide (m > 4096) || decide (s > 65536))) && ((WY a k k == (decide (n > 4096) || decide (w64 ((k : Int) * n) > 65536))) && ((!WY a k k || WY a 0 k) && (WY a 0 k || decide (a ^ k ≤ 100000))))
 | none => false
theorem z7I : (((List.range 16).all fun a => (List.range 9).all fun k => z5C (a + 1) k) && (List.range 41).all fun k => z5C 1 k) = true := by kernel_rfl
theorem z94 {a k : Nat} (ha : 1 ≤ a ∧ a ≤ 16) (hk : k ≤ 8 ∨ a = 1 ∧ k ≤ 40) : z5C a k = true := by
 have h := z7I
 simp only [Bool.and_eq_true, List.all_eq_true, List.mem_range] at h
 rcases hk with q | ⟨rfl, q⟩
 ·have := h.1 (a - 1) (by omega) k (by omega)
  rwa [show a - 1 + 1 = a by omega] at this
 ·exact h.2 k (by omega)
variable {r r1 : List (List Int) × Int}
theorem za6 {i k n m s : Int}  (h1 : (r.2 != 0) = (decide (m > 4096) || decide (s > 65536))) (h2 : (r1.2 != 0) = (decide (n > 4096) || decide (w64 (k * n) > 65536))) (h3 : (r.2 != 0) = true → (r.2 != 3) = false) (h4 : (r1.2 != 0) = true → (r1.2 != 3) = false) : wc i k r r1 n m s = zo i k r r1 := by
 unfold wc
 generalize zo i k r r1 = G
 generalize decide (w64 (k * n) > 65536) = b4 at h2 ⊢
 generalize decide (n > 4096) = b3 at h2 ⊢
 generalize decide (m > 4096) = b1 at h1 ⊢
 generalize decide (s > 65536) = b2 at h1 ⊢
 generalize (r.2 != 0) = c1 at h1 h3 ⊢
 generalize (r1.2 != 0) = c2 at h2 h4 ⊢
 generalize (r.2 != 3) = c3 at h3 ⊢
 generalize (r1.2 != 3) = c4 at h4 ⊢
 subst h1 h2
 cases b1 <;> cases b2 <;> cases b3 <;> cases b4 <;> cases c3 <;> cases c4 <;> simp_all
theorem z7V {i k : Int}  (h : r.2 ≠ 0 ∧ r.1.length = 0 ∧ (r1.2 = 0 ∨ r1.1.length = 0) ∨ r.2 = 0 ∧ jB i k = some r.1 ∧ ug i k = some r1.1 ∧ r.1.length ≤ 1000000 ∧ (∀ w ∈ r.1, w.length ≤ 1000) ∧ r1.1.length ≤ 1000000 ∧ ∀ w ∈ r1.1, w.length ≤ 1000) : zo i k r r1 = some true := by
 unfold zo
 rw [Yj]
 rcases h with ⟨h1, h2, h3⟩ | ⟨h1, h2, h3, h4, h5, h6, h7⟩
 ·have hb : (r.2 != 0) = true := by simpa using h1
  rw [hb, cond_true, h2]
  have : (((0 : Nat) : Int) == 0) = true := rfl
  rw [this, cond_true, oB]
  rcases h3 with h3 | h3
  ·rw [h3]; rfl
  ·rw [h3, this, cond_true]
   cases (r1.2 == 0) <;> rfl
 ·have hb : (r.2 != 0) = false := by simpa using h1
  rw [hb, cond_false, h2, oB, z65 _ _ (by omega) (fun w hw => by have := h5 w hw; omega), oB, decide_eq_true rfl, cond_true, h3, oB, z65 _ _ (by omega) (fun w hw => by have := h7 w hw; omega), oB, decide_eq_true rfl, cond_true, oB]
theorem z9h {i k f : Int} (hf : f ≠ 0)  (h1 : r.2 = f) (h2 : r1.2 = f) (l1 : r.1.length = 0) (l2 : r1.1.length = 0) : zV i k r r1 f = some true := by
 unfold zV
 have hb : (f != 0) = true := by simpa using hf
 have hs : (w64 (((0 : Nat) : Int) + ((0 : Nat) : Int)) == 0) = true := by
  have : ((0 : Nat) : Int) = 0 := rfl
  have h : (0 : Int) + 0 = 0 := rfl
  rw [this, h, yq (by omega) (by omega)]
  rfl
 rw [hb, cond_true, h1, h2, BEq.rfl, cond_true, cond_true, l1, l2, hs, cond_true, Yj, oB]
theorem z7X {i k f : Int} (hf : f ≠ 0) (hu : wu i 0 k = some ([], f)) (he : wu i k k = some ([], f)) (hw : f = if 16 < i then 3 else if i < 1 ∨ k < 0 then 1 else 3) (hb : 16 < i ∨ i < 1 ∨ k < 0 ∨ 256 < k) : zG i k = some true := by
 unfold zG yl yi
 rw [hu, he]
 have J := z9h (i := i) (k := k) hf (r := ([], f)) (r1 := ([], f)) rfl rfl rfl rfl
 generalize zV i k = G at J ⊢
 simp only [oB]
 by_cases h1 : 16 < i
 ·rw [if_pos h1] at hw; subst hw
  rw [decide_eq_true h1, cond_true, J]
 ·rw [if_neg h1] at hw
  rw [decide_eq_false h1, cond_false]
  by_cases h2 : i < 1
  ·rw [if_pos (.inl h2)] at hw; subst hw
   rw [decide_eq_true h2, cond_true, J]
  ·rw [decide_eq_false h2, cond_false]
   by_cases h3 : k < 0
   ·rw [if_pos (.inr h3)] at hw; subst hw
    rw [decide_eq_true h3, cond_true, J]
   ·rw [if_neg (by omega)] at hw; subst hw
    have h4 : 256 < k := by omega
    rw [decide_eq_false h3, cond_false, decide_eq_true h4, cond_true, J]
theorem z7W {a k : Nat} (ha : 1 ≤ a ∧ a ≤ 16) (hk : k ≤ 8 ∨ a = 1 ∧ k ≤ 40) : zG (a : Int) (k : Int) = some true := by
 have hk2 : k ≤ 256 := by omega
 have hc := z94 ha hk
 unfold z5C at hc
 unfold zG yl yi
 have e0 : wu (a : Int) 0 (k : Int) = some (if WY a 0 k then ([], 3) else (vp a 0 (k + 1), 0)) := Xe (f := 0) ha (by omega) hk2
 rw [e0, Xe ha hk2 hk2]
 simp only [oB]
 have d1 : decide ((a : Int) > 16) = false := by simp; omega
 have d2 : decide ((a : Int) < 1) = false := by simp; omega
 have d3 : decide ((k : Int) < 0) = false := by simp
 have d4 : decide ((k : Int) > 256) = false := by simp; omega
 rw [d1, d2, d3, d4, cond_false, cond_false, cond_false, cond_false]
 unfold zV
 rw [bne_self_eq_false, cond_false]
 split at hc
 ·rename_i n m s hl
  rw [hl, oB]
  simp only [Bool.and_eq_true, Bool.or_eq_true, beq_iff_eq, Bool.not_eq_true', decide_eq_true_eq] at hc
  obtain ⟨c1, c2, c3, c4⟩ := hc
  have p1 : ((if WY a 0 k then (([] : List (List Int)), (3 : Int)) else (vp a 0 (k + 1), 0)).2 != 0) = WY a 0 k := by cases WY a 0 k <;> rfl
  have p2 : ((if WY a k k then (([] : List (List Int)), (3 : Int)) else (vp a k (k + 1), 0)).2 != 0) = WY a k k := by cases WY a k k <;> rfl
  rw [za6 (by rw [← c1]; exact p1) (by rw [← c2]; exact p2) (by cases WY a 0 k <;> simp) (by cases WY a k k <;> simp)]
  refine z7V ?_
  cases hU : WY a 0 k with
  | true =>
   left
   refine ⟨by simp, by simp, ?_⟩
   cases WY a k k with
   | true => right; rfl
   | false => left; rfl
  | false =>
   right
   have hE : WY a k k = false := by
    rcases c3 with q | q
    ·exact q
    ·rw [hU] at q; cases q
   have hp : a ^ k ≤ 100000 := by
    rcases c4 with q | q
    ·rw [hU] at q; cases q
    ·exact q
   rw [hE]
   have ho : vp a k (k + 1) = exW a k := by unfold vp; rw [if_pos (Nat.le_refl _), z1k a k k (Nat.le_refl _)]; rfl
   have hst : ¬ qu a 0 k k := fun q => by
    have := (JQ a 0 k).2 ⟨k, Nat.le_refl _, q⟩
    rw [hU] at this; cases this
   unfold qu at hst
   refine ⟨rfl, z4W ha hk2 hp, ?_, ?_, ?_, ?_, ?_⟩
   ·rw [Kt ha hk2 hp]
    show some (exW a k) = some (vp a k (k + 1))
    rw [ho]
   ·show (vp a 0 (k + 1)).length ≤ 1000000
    omega
   ·intro w hw
    have := Wb a 0 (k + 1) w hw
    omega
   ·show (vp a k (k + 1)).length ≤ 1000000
    rw [ho, qL]; omega
   ·intro w hw
    have := Wb a k (k + 1) w hw
    omega
 ·cases hc
theorem VG (i k : Int) : xR i k = some true := by
 unfold xR
 have bad : (16 < i ∨ i < 1 ∨ k < 0 ∨ 256 < k) → zG i k = some true := fun h => by
  refine z7X (f := if 16 < i then 3 else if i < 1 ∨ k < 0 then 1 else 3) ?_ (z0V h) (z0V h) rfl h
  by_cases h1 : 16 < i
  ·rw [if_pos h1]; omega
  ·rw [if_neg h1]
   by_cases h2 : i < 1 ∨ k < 0
   ·rw [if_pos h2]; omega
   ·rw [if_neg h2]; omega
 have good : 1 ≤ i → i ≤ 16 → 0 ≤ k → (k ≤ 8 ∨ i = 1 ∧ k ≤ 40) → zG i k = some true := fun h1 h2 h3 h4 => by
  have := z7W (a := i.toNat) (k := k.toNat) (by omega) (by omega)
  rwa [Int.toNat_of_nonneg (by omega), Int.toNat_of_nonneg h3] at this
 by_cases hs : (1 ≤ i ∧ i ≤ 16) ∧ 8 < k ∧ (1 < i ∨ k ≤ 300 ∧ 40 < k)
 ·obtain ⟨⟨h1, h2⟩, h3, h4⟩ := hs
  rw [decide_eq_true (show i ≥ 1 from h1), cond_true, decide_eq_true h2, cond_true, decide_eq_true (show k > 8 from h3), cond_true]
  by_cases h5 : 1 < i
  ·rw [decide_eq_true (show i > 1 from h5), cond_true]
  ·obtain ⟨h6, h7⟩ := h4.resolve_left h5
   rw [decide_eq_false (show ¬ i > 1 from h5), cond_false, decide_eq_true h6, cond_true, decide_eq_true (show k > 40 from h7), cond_true]
 ·have J : zG i k = some true := by
   by_cases hb : 16 < i ∨ i < 1 ∨ k < 0 ∨ 256 < k
   ·exact bad hb
   ·exact good (by omega) (by omega) (by omega) (by omega)
  rw [J]
  by_cases h1 : i ≥ 1
  ·rw [decide_eq_true h1, cond_true]
   by_cases h2 : i ≤ 16
   ·rw [decide_eq_true h2, cond_true]
    by_cases h3 : k > 8
    ·rw [decide_eq_true h3, cond_true]
     have h4 : ¬ i > 1 := by omega
     rw [decide_eq_false h4, cond_false]
     by_cases h5 : k ≤ 300
     ·rw [decide_eq_true h5, cond_true, decide_eq_false (show ¬ k > 40 by omega), cond_false]
     ·rw [decide_eq_false h5, cond_false]
    ·rw [decide_eq_false h3, cond_false]
   ·rw [decide_eq_false h2, cond_false]
  ·rw [decide_eq_false h1, cond_false]
def z0a (x v : List Int) : Bool := decide (x.length < v.length) && decide (v.take x.length = x)
theorem Jv {x v : List Int} : z0a x v = true ↔ x.length < v.length ∧ v.take x.length = x := by simp [z0a]
def z6r (l : List (List Int)) : List (List Int) := l.filter fun x => !l.any (z0a x)
theorem Jt : x ∈ z6r l ↔ x ∈ l ∧ ∀ v ∈ l, ¬ (x.length < v.length ∧ v.take x.length = x) := by
 unfold z6r
 rw [List.mem_filter]
 simp [List.any_eq_false, Jv]
theorem XK : WY 16 3 3 = false ∧ WY 16 0 3 = true ∧ WY 1 0 256 = false ∧ WY 2 12 12 = false ∧ WY 2 13 13 = true := ⟨by kernel_rfl, by kernel_rfl, by kernel_rfl, by kernel_rfl, by kernel_rfl⟩
theorem z0G : lnW 16 3 4 = 4096 ∧ lnW 1 0 257 = 257 ∧ lnW 2 12 13 = 4096 := ⟨by kernel_rfl, by kernel_rfl, by kernel_rfl⟩
theorem JB (a : Nat) : ∀ k, ∀ w ∈ exW a k, ∀ c ∈ w, 0 ≤ c ∧ c < (a : Int)
 | 0, w, h, c, hc => by
  have h : w ∈ [([] : List Int)] := h
  rw [List.mem_singleton.1 h] at hc
  cases hc
 | k + 1, w, h, c, hc => by
  obtain ⟨v, hv, hw⟩ := List.mem_flatMap.1 (show w ∈ (exW a k).flatMap (X8 a) from h)
  obtain ⟨s, hs, rfl⟩ := List.mem_map.1 (show w ∈ (List.range a).map fun s : Nat => v ++ [(s : Int)] from hw)
  rcases List.mem_append.1 hc with q | q
  ·exact JB a k v hv c q
  ·rw [List.mem_singleton.1 q]; have := List.mem_range.1 hs; omega
def z4j : List (List Int) := vp 16 3 4
theorem UC : z4j.length = 4096 := by unfold z4j; rw [Zv]; exact z0G.1
theorem Vy (h : w ∈ z4j) : w.length = 3 ∧ ∀ c ∈ w, 0 ≤ c ∧ c < (16 : Int) := by
 have h : w ∈ vp 16 3 4 := h
 have h1 := Ua 16 3 4 w h
 have h2 : w ∈ exW 16 3 := by
  have e : vp 16 3 4 = exW 16 3 := by simp [vp]
  rw [← e]; exact h
 exact ⟨qq 16 3 w h2, JB 16 3 w h2⟩
theorem z6q : chE 16 z4j = 0 := j5.2 ⟨Zz.2 ⟨by omega, by rw [UC]; omega, fun w hw => ⟨by have := (Vy hw).1; omega, (Vy hw).2⟩⟩, Ub 16 3 4, by rw [Kc (k := 3) fun w hw => (Vy hw).1, UC]; omega⟩
theorem z3F : yi 16 3 = some (z4j, 0) := by
 have := Xe (a := 16) (f := 3) (t := 3) (by omega) (by omega) (by omega)
 rw [XK.1, if_neg (by decide)] at this
 unfold yi
 exact bdT (u := (vp 16 3 4, 0)) this
theorem z6u : yl 16 3 = some ([], 3) := by
 have := Xe (a := 16) (f := 0) (t := 3) (by omega) (by omega) (by omega)
 rw [XK.2.1, if_pos rfl] at this
 unfold yl
 exact bdT (u := ([], 3)) this
theorem z4p : ∃ l, yl 1 256 = some (l, 0) ∧ l.length = 257 := by
 have := Xe (a := 1) (f := 0) (t := 256) (by omega) (by omega) (by omega)
 rw [XK.2.2.1, if_neg (by decide)] at this
 refine ⟨vp 1 0 257, ?_, by rw [Zv]; exact z0G.2.1⟩
 unfold yl
 exact bdT (u := (vp 1 0 257, 0)) this
theorem z4q : yl 1 257 = some ([], 3) := by
 have := z0V (a := 1) (f := 0) (t := 257) (by omega)
 unfold yl
 exact bdT this
theorem z2b : ∃ l, yi 2 12 = some (l, 0) ∧ l.length = 4096 := by
 have := Xe (a := 2) (f := 12) (t := 12) (by omega) (by omega) (by omega)
 rw [XK.2.2.2.1, if_neg (by decide)] at this
 refine ⟨vp 2 12 13, ?_, by rw [Zv]; exact z0G.2.2⟩
 unfold yi
 exact bdT (u := (vp 2 12 13, 0)) this
theorem z3E : yi 2 13 = some ([], 3) := by
 have := Xe (a := 2) (f := 13) (t := 13) (by omega) (by omega) (by omega)
 rw [XK.2.2.2.2, if_pos rfl] at this
 unfold yi
 exact bdT (u := ([], 3)) this
theorem z8O : chE 16 [[]] = 0 := j5.2 ⟨Zz.2 ⟨by omega, by simp, fun w hw => by rw [List.mem_singleton.1 hw]; exact ⟨by simp, fun c hc => by cases hc⟩⟩, by unfold SW; exact List.pairwise_singleton _ _, by simp [wI]⟩
theorem z2u : wi z4j [[]] 16 = some ([], 3) := by
 rw [Ka, if_neg (fun q => q (Vw.2 ⟨z6q, z8O⟩)), z14 (l := z4j) (Ub 16 3 4) (fun h => by have := (Vy h).1; simp at this) (.inl (by rw [UC]; omega))]
theorem z3O : y4 z4j 16 = some 0 := by rw [qt, z6q]
theorem z2g (w : List Int) : y4 (z4j ++ [w]) 16 = some 3 := by
 have h : loE 16 (z4j ++ [w]) = 3 := by
  unfold loE
  rw [if_neg (by omega), if_pos (by rw [List.length_append, UC]; simp)]
 rw [qt]
 unfold chE
 rw [h, if_pos (by decide)]
theorem z5b : z6r uM = uM := by
 refine SW.unique (Ju.filter _) Ju fun x => ?_
 show x ∈ z6r uM ↔ _
 rw [Jt]
 refine ⟨fun h => h.1, fun h => ⟨h, fun v hv q => ?_⟩⟩
 obtain ⟨i, _, e⟩ := Zy h
 obtain ⟨j, _, f⟩ := Zy hv
 rw [e, f, vm, vm] at q
 omega
theorem z3e : ∀ {k : Nat} {w : List Int}, w ∈ exW a k ↔ w.length = k ∧ ∀ c ∈ w, 0 ≤ c ∧ c < (a : Int)
 | 0, w => by
  simp only [exW, List.mem_singleton]
  exact ⟨fun q => by subst q; simp, fun q => List.eq_nil_of_length_eq_zero q.1⟩
 | k + 1, w => by
  refine ⟨fun q => ⟨qq a _ w q, JB a _ w q⟩, fun q => ?_⟩
  rcases List.eq_nil_or_concat w with rfl | ⟨v, s, rfl⟩
  ·simp at q
  ·rw [List.concat_eq_append] at q ⊢
   have hs := q.2 s (by simp)
   rw [exW, List.mem_flatMap]
   refine ⟨v, z3e.2 ⟨by simpa using q.1, fun c hc => q.2 c (by simp [hc])⟩, ?_⟩
   rw [X8, List.mem_map]
   exact ⟨s.toNat, List.mem_range.2 (by omega), by rw [Int.toNat_of_nonneg hs.1]⟩
theorem z1p : ∀ {k : Nat} {w : List Int}, w ∈ vp a 0 k ↔ w.length < k ∧ ∀ c ∈ w, 0 ≤ c ∧ c < (a : Int)
 | 0, w => by simp [vp]
 | k + 1, w => by
  rw [vp, if_pos (Nat.zero_le _), List.mem_append, z1p, z3e]
  constructor
  ·rintro (q | q)
   ·exact ⟨by omega, q.2⟩
   ·exact ⟨by omega, q.2⟩
  ·rintro ⟨q1, q2⟩
   rcases Nat.lt_or_ge w.length k with r | r
   ·exact .inl ⟨r, q2⟩
   ·exact .inr ⟨by omega, q2⟩
theorem z5c (hn : l.Nodup) (h : ∀ x ∈ l, ∃ w ∈ uM, ∃ j, j ≤ w.length ∧ x = w.take j) : l.length ≤ 63999 := by
 have hs := (WJ hn (L := vp 2 0 8 ++ (List.range 256).flatMap fun i => (List.range 249).map fun j => (Xk i).take (8 + j)) fun x hx => by
  obtain ⟨w, hw, j, hj, rfl⟩ := h x hx
  obtain ⟨i, hi, rfl⟩ := Zy hw
  rw [vm] at hj
  rw [List.mem_append]
  by_cases q : j < 8
  ·refine .inl (z1p.2 ⟨by rw [List.length_take, vm]; omega, fun c hc => z0P c (List.mem_of_mem_take hc)⟩)
  ·exact .inr (List.mem_flatMap.2 ⟨i, List.mem_range.2 hi, List.mem_map.2 ⟨j - 8, List.mem_range.2 (by omega), by rw [show 8 + (j - 8) = j by omega]⟩⟩)).1
 have e : (vp 2 0 8 ++ (List.range 256).flatMap fun i => (List.range 249).map fun j => (Xk i).take (8 + j)).length = 63999 := by
  rw [List.length_append, Zv, List.length_flatMap]
  have h1 : ((List.range 256).map fun i => ((List.range 249).map fun j => (Xk i).take (8 + j)).length) = List.replicate 256 249 := by
   simp [List.map_const']
  rw [h1]
  have h2 : (List.replicate 256 249).sum = 63744 := by kernel_rfl
  have h3 : lnW 2 0 8 = 255 := by kernel_rfl
  rw [h2, h3]
 rw [e] at hs
 exact hs
theorem z3h (hn : l.Nodup) (h : ∀ x, (∃ w ∈ uM, ∃ j, j ≤ w.length ∧ x = w.take j) → x ∈ l) : 4352 ≤ l.length := by
 have := (WJ z2X (L := l) fun x hx => h x (z7i hx)).1
 rwa [z7j] at this
structure j7 (a : Nat) (nodes : List z6) (wd : List (List Int)) (D : List Int → Prop) : Prop where
 len : nodes.length = wd.length
 nod : wd.Nodup
 nlen : ∀ (i : Nat) (N : z6), nodes[i]? = some N → N.Next.length = a
 nxt : ∀ (i : Nat) (N : z6) (x : List Int), nodes[i]? = some N → wd[i]? = some x → ∀ s : Nat, s < a → (N.Next[s]? = some (-1) ∧ (x ++ [(s : Int)]) ∉ wd) ∨ ∃ j : Nat, N.Next[s]? = some (j : Int) ∧ wd[j]? = some (x ++ [(s : Int)])
 root : 0 < wd.length → wd[0]? = some []
 clo : ∀ (w : List Int) (s : Int), w ++ [s] ∈ wd → w ∈ wd ∧ 0 ≤ s ∧ s < (a : Int)
 en : ∀ (i : Nat) (N : z6) (x : List Int), nodes[i]? = some N → wd[i]? = some x → (N.End = true ↔ D x)
variable {nodes : List z6}
theorem z38 (ha : a ≤ 100)  (hn : nodes.length ≤ 1000000) :
  xw (ze.mk (a : Int) nodes) = some ((nodes.length : Int), ze.mk (a : Int) (nodes ++ [z6.mk (List.replicate a (-1)) false])) := by
 unfold xw
 rw [gdT (by simp only; omega)]
 have h := vq (step := fun s => y6 (ze.mk (a : Int) nodes) s.1 s.2) (fun i => (List.replicate i (-1 : Int) ++ List.replicate (a - i) 0, (i : Int))) a (t := List.replicate a (-1 : Int)) (by omega) (by
  intro i hi
  show y6 (ze.mk (a : Int) nodes) _ (i : Int) = _
  unfold y6
  have hq : decide ((i : Int) < (((List.replicate (ze.mk (a : Int) nodes).inputs_.toNat (0 : Int)).length : Nat) : Int)) = true := by rw [decide_eq_true_eq]; simpa using hi
  rw [hq]
  have hr : List.replicate (a - i) (0 : Int) = 0 :: List.replicate (a - (i + 1)) 0 := by rw [show a - i = (a - (i + 1)) + 1 by omega]; rfl
  have hx : (List.replicate i (-1 : Int) ++ List.replicate (a - i) 0)[i]? = some 0 := by rw [List.getElem?_append_right (by simp), hr]; simp
  simp only [cond_true, zC hx, oB, Int.toNat_natCast]
  rw [yq (by omega) (by omega), List.set_append_right _ _ (by simp), List.length_replicate, Nat.sub_self, hr, List.set_cons_zero, List.replicate_succ', List.append_assoc]
  rfl) (by
  show y6 (ze.mk (a : Int) nodes) _ (a : Int) = _
  unfold y6
  simp)
 have h0 : (List.replicate 0 (-1 : Int) ++ List.replicate (a - 0) 0, ((0 : Nat) : Int)) = (List.replicate (a : Int).toNat (0 : Int), (0 : Int)) := by simp
 rw [h0] at h
 rw [bdT h]
 unfold w4
 dsimp only
 rw [gdT (by simp; omega), List.length_append, List.length_singleton, yq (by omega) (by omega)]
 congr 2
 omega
variable {wd : List (List Int)}{D : List Int → Prop}
theorem j7.mem_at (h : j7 a nodes wd D) {i j : Nat}  (hi : wd[i]? = some x) (hj : wd[j]? = some x) : i = j := (List.getElem?_inj (List.getElem?_eq_some_iff.1 hi).1 h.nod).1 (hi.trans hj.symm)
variable {N : z6}
theorem j7.grow (h : j7 a nodes wd D) {p s : Nat}   (hN : nodes[p]? = some N) (hx : wd[p]? = some x) (hs : s < a) (hnew : x ++ [(s : Int)] ∉ wd) (hD : ¬ D (x ++ [(s : Int)])) :
  j7 a ((nodes ++ [z6.mk (List.replicate a (-1)) false]).set p (z6.mk (N.Next.set s (nodes.length : Int)) N.End)) (wd ++ [x ++ [(s : Int)]]) D := by
 have hp : p < nodes.length := (List.getElem?_eq_some_iff.1 hN).1
 have hl := h.len
 have hxm : x ∈ wd := List.mem_of_getElem? hx
 have newN : ∀ (i : Nat) (M : z6), ((nodes ++ [z6.mk (List.replicate a (-1)) false]).set p (z6.mk (N.Next.set s (nodes.length : Int)) N.End))[i]? = some M → (i = p ∧ M = z6.mk (N.Next.set s (nodes.length : Int)) N.End) ∨ (i ≠ p ∧ i < nodes.length ∧ nodes[i]? = some M) ∨ (i = nodes.length ∧ M = z6.mk (List.replicate a (-1)) false) := by
  intro i M hM
  by_cases hip : i = p
  ·subst hip
   rw [List.getElem?_set_self (by simp; omega)] at hM
   exact .inl ⟨rfl, by simpa using hM.symm⟩
  ·rw [List.getElem?_set_ne (fun e => hip e.symm)] at hM
   rcases Nat.lt_or_ge i nodes.length with q | q
   ·rw [List.getElem?_append_left q] at hM
    exact .inr (.inl ⟨hip, q, hM⟩)
   ·rw [List.getElem?_append_right q] at hM
    have : i - nodes.length = 0 := by
     have := (List.getElem?_eq_some_iff.1 hM).1
     simpa using this
    rw [this] at hM
    exact .inr (.inr ⟨by omega, by simpa using hM.symm⟩)
 have newW : ∀ (i : Nat) (y : List Int), (wd ++ [x ++ [(s : Int)]])[i]? = some y → (i < wd.length ∧ wd[i]? = some y) ∨ (i = wd.length ∧ y = x ++ [(s : Int)]) := by
  intro i y hy
  rcases Nat.lt_or_ge i wd.length with q | q
  ·rw [List.getElem?_append_left q] at hy
   exact .inl ⟨q, hy⟩
  ·rw [List.getElem?_append_right q] at hy
   have : i - wd.length = 0 := by
    have := (List.getElem?_eq_some_iff.1 hy).1
    simpa using this
   rw [this] at hy
   exact .inr ⟨by omega, by simpa using hy.symm⟩
 have oldW : ∀ (i : Nat) (y : List Int), wd[i]? = some y → (wd ++ [x ++ [(s : Int)]])[i]? = some y := by
  intro i y hy
  rw [List.getElem?_append_left (List.getElem?_eq_some_iff.1 hy).1]
  exact hy
 have lastW : (wd ++ [x ++ [(s : Int)]])[wd.length]? = some (x ++ [(s : Int)]) := by
  rw [List.getElem?_append_right (Nat.le_refl _)]; simp
 refine ⟨by simp [hl], ?_, ?_, ?_, ?_, ?_, ?_⟩
 ·rw [List.nodup_append]
  exact ⟨h.nod, by simp, fun y hy z hz => by simp at hz; subst hz; exact fun e => hnew (e ▸ hy)⟩
 ·intro i M hM
  rcases newN i M hM with ⟨_, rfl⟩ | ⟨_, _, q⟩ | ⟨_, rfl⟩
  ·simpa using h.nlen p N hN
  ·exact h.nlen i M q
  ·simp
 ·intro i M y hM hy t ht
  rcases newN i M hM with ⟨rfl, rfl⟩ | ⟨hip, hil, q⟩ | ⟨rfl, rfl⟩
  ·have hyx : y = x := by
    have := oldW i x hx
    rw [this] at hy
    simpa using hy.symm
   subst hyx
   by_cases hts : t = s
   ·subst hts
    right
    refine ⟨nodes.length, ?_, by rw [hl]; exact lastW⟩
    simp only
    rw [List.getElem?_set_self (by rw [h.nlen i N hN]; exact ht)]
   ·rcases h.nxt i N y hN hx t ht with ⟨q1, q2⟩ | ⟨j, q1, q2⟩
    ·left
     simp only
     rw [List.getElem?_set_ne (fun e => hts e.symm)]
     refine ⟨q1, fun hm => ?_⟩
     rcases List.mem_append.1 hm with q | q
     ·exact q2 q
     ·simp at q
      omega
    ·right
     simp only
     rw [List.getElem?_set_ne (fun e => hts e.symm)]
     exact ⟨j, q1, oldW _ _ q2⟩
  ·have hy' : wd[i]? = some y := by
    rcases newW i y hy with ⟨_, q⟩ | ⟨q, _⟩
    ·exact q
    ·omega
   rcases h.nxt i M y q hy' t ht with ⟨q1, q2⟩ | ⟨j, q1, q2⟩
   ·left
    refine ⟨q1, fun hm => ?_⟩
    rcases List.mem_append.1 hm with q | q
    ·exact q2 q
    ·simp only [List.mem_singleton] at q
     have := List.append_inj' q rfl
     have ⟨e1, _⟩ := this
     subst e1
     exact hip (h.mem_at hy' hx)
   ·exact .inr ⟨j, q1, oldW _ _ q2⟩
  ·have hy' : y = x ++ [(s : Int)] := by
    rw [hl, lastW] at hy
    simpa using hy.symm
   subst hy'
   left
   refine ⟨by rw [List.getElem?_replicate, if_pos ht], fun hm => ?_⟩
   rcases List.mem_append.1 hm with q | q
   ·exact hnew (h.clo _ _ q).1
   ·simp only [List.mem_singleton] at q
    have := congrArg List.length q
    simp at this
 ·intro _
  have h0 : 0 < wd.length := by omega
  exact oldW 0 [] (h.root h0)
 ·intro w t hw
  rcases List.mem_append.1 hw with q | q
  ·have := h.clo w t q
   exact ⟨by simp [this.1], this.2⟩
  ·simp only [List.mem_singleton] at q
   have ⟨e1, e2⟩ := List.append_inj' q rfl
   subst e1
   simp at e2
   subst e2
   exact ⟨by simp [hxm], by omega, by omega⟩
 ·intro i M y hM hy
  rcases newN i M hM with ⟨rfl, rfl⟩ | ⟨hip, hil, q⟩ | ⟨rfl, rfl⟩
  ·have hyx : y = x := by
    have := oldW i x hx
    rw [this] at hy
    simpa using hy.symm
   subst hyx
   exact h.en i N y hN hx
  ·rcases newW i y hy with ⟨_, q2⟩ | ⟨q2, _⟩
   ·exact h.en i M y q q2
   ·omega
  ·have hy' : y = x ++ [(s : Int)] := by
    rw [hl, lastW] at hy
    simpa using hy.symm
   subst hy'
   simp [hD]
theorem j7.ends (h : j7 a nodes wd D) {p : Nat}   (hN : nodes[p]? = some N) (hx : wd[p]? = some x) : j7 a (nodes.set p (z6.mk N.Next true)) wd (fun y => D y ∨ y = x) := by
 have hp : p < nodes.length := (List.getElem?_eq_some_iff.1 hN).1
 have newN : ∀ (i : Nat) (M : z6), (nodes.set p (z6.mk N.Next true))[i]? = some M → (i = p ∧ M = z6.mk N.Next true) ∨ (i ≠ p ∧ nodes[i]? = some M) := by
  intro i M hM
  by_cases hip : i = p
  ·subst hip
   rw [List.getElem?_set_self hp] at hM
   exact .inl ⟨rfl, by simpa using hM.symm⟩
  ·rw [List.getElem?_set_ne (fun e => hip e.symm)] at hM
   exact .inr ⟨hip, hM⟩
 refine ⟨by simp [h.len], h.nod, ?_, ?_, h.root, h.clo, ?_⟩
 ·intro i M hM
  rcases newN i M hM with ⟨_, rfl⟩ | ⟨_, q⟩
  ·exact h.nlen p N hN
  ·exact h.nlen i M q
 ·intro i M y hM hy
  rcases newN i M hM with ⟨rfl, rfl⟩ | ⟨_, q⟩
  ·exact h.nxt i N y hN hy
  ·exact h.nxt i M y q hy
 ·intro i M y hM hy
  rcases newN i M hM with ⟨rfl, rfl⟩ | ⟨hip, q⟩
  ·rw [hx] at hy
   cases hy
   simp
  ·rw [h.en i M y q hy]
   constructor
   ·intro q2; exact .inl q2
   ·rintro (q2 | rfl)
    ·exact q2
    ·exact absurd (h.mem_at hy hx) hip
theorem z7S (ha : a ≤ 100)    (h : j7 a nodes wd D)  (hw : ∀ c ∈ w, 0 ≤ c ∧ c < (a : Int)) (hl : w.length ≤ 1000) (hn : wd.length ≤ 500000) (hDp : ∀ x, D x → x ∈ wd) :
  Ret (wt w (ze.mk (a : Int) nodes)) fun b => b.inputs_ = (a : Int) ∧ ∃ wd', j7 a b.nodes_ wd' (fun y => D y ∨ y = w) ∧ (∀ x, x ∈ wd' ↔ x ∈ wd ∨ ∃ j, j ≤ w.length ∧ x = w.take j) ∧ wd'.length ≤ wd.length + w.length + 1 := by
 have J : ∀ nodes0 wd0, j7 a nodes0 wd0 D → 0 < wd0.length → wd0.length ≤ wd.length + 1 → (∀ x, x ∈ wd0 ↔ x ∈ wd ∨ x = []) → Ret (yS w (a : Int) nodes0) fun b => b.inputs_ = (a : Int) ∧ ∃ wd', j7 a b.nodes_ wd' (fun y => D y ∨ y = w) ∧ (∀ x, x ∈ wd' ↔ x ∈ wd ∨ ∃ j, j ≤ w.length ∧ x = w.take j) ∧ wd'.length ≤ wd.length + w.length + 1 := by
  intro nodes0 wd0 h0 hpos hle hmem
  unfold yS
  rw [qj]
  refine Ret.mono (qW (fun q : Int × List z6 × Int × Int => ∃ (i p : Nat) (wd1 : List (List Int)), q.1 = (a : Int) ∧ q.2.2.1 = (p : Int) ∧ q.2.2.2 = (i : Int) ∧ i ≤ w.length ∧ j7 a q.2.1 wd1 D ∧ wd1[p]? = some (w.take i) ∧ (∀ x, x ∈ wd1 ↔ x ∈ wd ∨ ∃ j, j ≤ i ∧ x = w.take j) ∧ wd1.length ≤ wd.length + 1 + i) (fun q => w.length - q.2.2.2.toNat) (R := fun t => t.1 = (a : Int) ∧ ∃ (p : Nat) (wd1 : List (List Int)), t.2.2 = (p : Int) ∧ j7 a t.2.1 wd1 D ∧ wd1[p]? = some w ∧ (∀ x, x ∈ wd1 ↔ x ∈ wd ∨ ∃ j, j ≤ w.length ∧ x = w.take j) ∧ wd1.length ≤ wd.length + 1 + w.length) ?_ ?_ ?_) ?_
  ·refine ⟨0, 0, wd0, rfl, rfl, rfl, Nat.zero_le _, h0, by simpa using h0.root hpos, fun x => ?_, by omega⟩
   rw [hmem]
   constructor
   ·rintro (q | rfl)
    ·exact .inl q
    ·exact .inr ⟨0, Nat.le_refl _, by simp⟩
   ·rintro (q | ⟨j, q1, q2⟩)
    ·exact .inl q
    ·have : j = 0 := by omega
     subst this
     exact .inr (by simpa using q2)
  ·show w.length - _ < _
   omega
  ·rintro ⟨_, nodes1, _, _⟩ ⟨i, p, wd1, rfl, rfl, rfl, g1, g2, g3, g4, g5⟩
   simp only at g2
   show Ret (xE w (a : Int) nodes1 (p : Int) (i : Int)) _
   unfold xE
   rw [uY]
   refine ⟨fun hc => ?_, fun hc => ?_⟩
   ·have hi : i < w.length := by simpa using hc
    have hwi : w[i]? = some w[i] := List.getElem?_eq_getElem hi
    have ⟨c1, c2⟩ := hw _ (List.getElem_mem hi)
    obtain ⟨s, hs⟩ : ∃ s : Nat, w[i] = (s : Int) := ⟨w[i].toNat, by omega⟩
    have hsa : s < a := by omega
    have hp : p < nodes1.length := by rw [g2.len]; exact (List.getElem?_eq_some_iff.1 g3).1
    have hN : nodes1[p]? = some nodes1[p] := List.getElem?_eq_getElem hp
    have htk : w.take (i + 1) = w.take i ++ [(s : Int)] := by rw [List.take_add_one, hwi, hs]; rfl
    have hi2 : w64 ((i : Int) + 1) = ((i + 1 : Nat) : Int) := by rw [yq (by omega) (by omega)]; omega
    rw [zC hwi, oB, zC hN, oB, hs]
    rcases g2.nxt p _ _ hN g3 s hsa with ⟨q1, q2⟩ | ⟨j, q1, q2⟩
    ·rw [zC q1, oB]
     have hb : ((-1 : Int) == -1) = true := rfl
     rw [hb, cond_true, z38 ha (by rw [g2.len]; omega), oB]
     have hN2 : (nodes1 ++ [z6.mk (List.replicate a (-1)) false])[p]? = some nodes1[p] := by rw [List.getElem?_append_left hp]; exact hN
     dsimp only
     rw [zC hN2, oB, zC q1, oB, Int.toNat_natCast, Int.toNat_natCast]
     have hg := g2.grow hN g3 hsa q2 (fun hd => by
      have := hDp _ hd
      exact q2 ((g4 _).2 (.inl this)))
     unfold yR
     have hset : ((nodes1 ++ [z6.mk (List.replicate a (-1)) false]).set p (z6.mk (nodes1[p].Next.set s (nodes1.length : Int)) nodes1[p].End))[p]? = some (z6.mk (nodes1[p].Next.set s (nodes1.length : Int)) nodes1[p].End) := List.getElem?_set_self (by simp; omega)
     have hnx : (nodes1[p].Next.set s (nodes1.length : Int))[s]? = some (nodes1.length : Int) := List.getElem?_set_self (by rw [g2.nlen p _ hN]; exact hsa)
     rw [zC hset, oB, zC hnx, oB, hi2, zU]
     refine ⟨⟨i + 1, nodes1.length, _, rfl, rfl, rfl, hi, hg, ?_, fun x => ?_, ?_⟩, by simp [Int.toNat_natCast]; omega⟩
     ·rw [g2.len, htk, List.getElem?_append_right (Nat.le_refl _)]; simp
     ·rw [List.mem_append, g4, List.mem_singleton, ← htk]
      constructor
      ·rintro ((q | ⟨j, r1, r2⟩) | q)
       ·exact .inl q
       ·exact .inr ⟨j, by omega, r2⟩
       ·exact .inr ⟨i + 1, Nat.le_refl _, q⟩
      ·rintro (q | ⟨j, r1, r2⟩)
       ·exact .inl (.inl q)
       ·rcases Nat.lt_or_ge i j with q | q
        ·exact .inr (by rw [r2, show j = i + 1 by omega])
        ·exact .inl (.inr ⟨j, q, r2⟩)
     ·rw [List.length_append, List.length_singleton]; omega
    ·rw [zC q1, oB]
     have hb : ((j : Int) == -1) = false := by simp
     rw [hb, cond_false]
     unfold yR
     rw [zC hN, oB, zC q1, oB, hi2, zU]
     refine ⟨⟨i + 1, j, wd1, rfl, rfl, rfl, hi, g2, by rw [htk]; exact q2, fun x => ?_, by omega⟩, by simp [Int.toNat_natCast]; omega⟩
     rw [g4]
     constructor
     ·rintro (q | ⟨j, r1, r2⟩)
      ·exact .inl q
      ·exact .inr ⟨j, by omega, r2⟩
     ·rintro (q | ⟨j', r1, r2⟩)
      ·exact .inl q
      ·rcases Nat.lt_or_ge i j' with q | q
       ·have hm : x ∈ wd1 := by rw [r2, show j' = i + 1 by omega, htk]; exact List.mem_of_getElem? q2
        exact (g4 x).1 hm
       ·exact .inr ⟨j', q, r2⟩
   ·have hi : i = w.length := by
     have : ¬ i < w.length := by simpa using hc
     omega
    rw [zU]
    subst hi
    exact ⟨rfl, p, wd1, rfl, g2, by rw [g3, List.take_length], g4, by omega⟩
  ·rintro ⟨_, nodes1, _⟩ ⟨rfl, p, wd1, rfl, g1, g2, g3, g4⟩
   simp only at g1
   show Ret (xF (a : Int) nodes1 (p : Int)) _
   unfold xF
   have hp : p < nodes1.length := by rw [g1.len]; exact (List.getElem?_eq_some_iff.1 g2).1
   have hN : nodes1[p]? = some nodes1[p] := List.getElem?_eq_getElem hp
   rw [zC hN, oB, zU]
   refine ⟨rfl, wd1, g1.ends hN g2, g3, by omega⟩
 unfold wt
 by_cases he : nodes.length = 0
 ·have hb : ((((ze.mk (a : Int) nodes).nodes_.length : Nat) : Int) == 0) = true := by show ((nodes.length : Int) == 0) = true; rw [he]; rfl
  rw [hb, cond_true, z38 ha (by omega), oB]
  have hnil : nodes = [] := List.eq_nil_of_length_eq_zero he
  have hwn : wd = [] := List.eq_nil_of_length_eq_zero (by rw [← h.len]; exact he)
  refine J _ [[]] ?_ (by simp) (by simp) (fun x => by simp [hwn])
  subst hnil hwn
  refine ⟨rfl, by simp, ?_, ?_, fun _ => rfl, ?_, ?_⟩
  ·intro i N hN
   have : i = 0 := by have := (List.getElem?_eq_some_iff.1 hN).1; simp at this; exact this
   subst this
   simp at hN
   subst hN
   simp
  ·intro i N x hN hx s hs
   have : i = 0 := by have := (List.getElem?_eq_some_iff.1 hN).1; simp at this; exact this
   subst this
   simp at hN hx
   subst hN hx
   left
   exact ⟨by simp only; rw [List.getElem?_replicate, if_pos hs], by simp⟩
  ·intro v s hv
   simp at hv
  ·intro i N x hN hx
   have : i = 0 := by have := (List.getElem?_eq_some_iff.1 hN).1; simp at this; exact this
   subst this
   simp at hN hx
   subst hN hx
   simp [Bool.false_eq_true, false_iff]
   intro hd
   have := hDp _ hd
   simp at this
 ·have hb : ((((ze.mk (a : Int) nodes).nodes_.length : Nat) : Int) == 0) = false := by show ((nodes.length : Int) == 0) = false; rw [beq_eq_false_iff_ne]; omega
  rw [hb, cond_false]
  have hpos : 0 < wd.length := by rw [← h.len]; omega
  exact J nodes wd h hpos (by omega) fun x => ⟨fun q => .inl q, fun q => by
   rcases q with q | rfl
   ·exact q
   ·exact List.mem_of_getElem? (h.root hpos)⟩
theorem z0z (hl : chE (a : Int) l = 0) : Ret (qQ l (a : Int)) fun b => b.inputs_ = (a : Int) ∧ ∃ wd, j7 a b.nodes_ wd (fun y => y ∈ l) ∧ (∀ x, x ∈ wd ↔ ∃ w ∈ l, ∃ j, j ≤ w.length ∧ x = w.take j) ∧ wd.length ≤ wI l + l.length := by
 have ⟨q1, q2, q3, q4, q5, q6⟩ := uA hl
 unfold qQ
 rw [qj]
 refine Ret.mono (qW (fun q : Int × List z6 × Int => ∃ (i : Nat) (wd : List (List Int)), q.1 = (a : Int) ∧ q.2.2 = (i : Int) ∧ i ≤ l.length ∧ j7 a q.2.1 wd (fun y => y ∈ l.take i) ∧ (∀ x, x ∈ wd ↔ ∃ w ∈ l.take i, ∃ j, j ≤ w.length ∧ x = w.take j) ∧ wd.length ≤ wI (l.take i) + i) (fun q => l.length - q.2.2.toNat) (R := fun t => t.1 = (a : Int) ∧ ∃ wd, j7 a t.2 wd (fun y => y ∈ l) ∧ (∀ x, x ∈ wd ↔ ∃ w ∈ l, ∃ j, j ≤ w.length ∧ x = w.take j) ∧ wd.length ≤ wI l + l.length) ?_ ?_ ?_) ?_
 ·refine ⟨0, [], rfl, rfl, Nat.zero_le _, ⟨rfl, List.nodup_nil, by simp, by simp, by simp, by simp, by simp⟩, by simp, by simp⟩
 ·show l.length - _ < _
  omega
 ·rintro ⟨_, nodes, _⟩ ⟨i, wd, rfl, rfl, g1, g2, g3, g4⟩
  simp only at g2
  show Ret (jD l (a : Int) nodes (i : Int)) _
  unfold jD
  rw [uY]
  refine ⟨fun hc => ?_, fun hc => ?_⟩
  ·have hi : i < l.length := by simpa using hc
   have hx : l[i]? = some l[i] := List.getElem?_eq_getElem hi
   have hsy : wI (l.take i) ≤ wI l := z4z (List.take_sublist _ _)
   rw [zC hx, oB, qj]
   refine (z7S (by omega) g2 (q6 _ (List.getElem_mem hi)) (by have := q2 _ (List.getElem_mem hi); omega) (by omega) (fun x hxx => (g3 x).2 ⟨x, hxx, x.length, Nat.le_refl _, by simp⟩)).mono ?_
   rintro b ⟨e1, wd', t1, t2, t3⟩
   have htk : l.take (i + 1) = l.take i ++ [l[i]] := by rw [List.take_add_one, hx]; rfl
   rw [yq (by omega) (by omega), zU]
   refine ⟨⟨i + 1, wd', e1, rfl, hi, ?_, fun x => ?_, ?_⟩, by simp only; omega⟩
   ·have : (fun y => y ∈ l.take (i + 1)) = fun y => y ∈ l.take i ∨ y = l[i] := by
     funext y
     rw [htk, List.mem_append, List.mem_singleton]
    simp only
    rw [this]
    exact t1
   ·rw [t2, g3, htk]
    constructor
    ·rintro (⟨w, r1, r2⟩ | r)
     ·exact ⟨w, List.mem_append.2 (.inl r1), r2⟩
     ·exact ⟨l[i], List.mem_append.2 (.inr (List.mem_singleton.2 rfl)), r⟩
    ·rintro ⟨w, r1, r2⟩
     rcases List.mem_append.1 r1 with q | q
     ·exact .inl ⟨w, q, r2⟩
     ·simp at q
      subst q
      exact .inr r2
   ·have : wI (l.take (i + 1)) = wI (l.take i) + l[i].length := by rw [htk, YS]; simp [wI]
    omega
  ·have hi : i = l.length := by
    have : ¬ i < l.length := by simpa using hc
    omega
   rw [zU]
   subst hi
   rw [List.take_length] at g2 g3 g4
   exact ⟨rfl, wd, g2, g3, g4⟩
 ·rintro ⟨x, nodes⟩ ⟨rfl, wd, g1, g2, g3⟩
  show Ret (jE (a : Int) nodes) _
  unfold jE
  rw [zU]
  exact ⟨rfl, wd, g1, g2, g3⟩
theorem KQ (hn : wd.Nodup)   (h : wd[i]? = some w) : wd.idxOf w = i := by
 have hi := (List.getElem?_eq_some_iff.1 h).1
 have hm : w ∈ wd := List.mem_of_getElem? h
 have hlt : wd.idxOf w < wd.length := List.idxOf_lt_length_iff.2 hm
 have h2 : wd[wd.idxOf w]? = some w := by rw [List.getElem?_eq_getElem hlt, List.getElem_idxOf]
 exact (List.getElem?_inj hlt hn).1 (h2.trans h.symm)
theorem uC (hm : w ∈ wd) : wd[wd.idxOf w]? = some w := by
 have hlt : wd.idxOf w < wd.length := List.idxOf_lt_length_iff.2 hm
 rw [List.getElem?_eq_getElem hlt, List.getElem_idxOf]
def LW (wd : List (List Int)) (k : Nat) : List (List Int) := (srt wd).filter fun x => decide (x.length = k)
theorem YM : x ∈ LW wd k ↔ x ∈ wd ∧ x.length = k := by simp [LW, yZ]
theorem z5T (wd : List (List Int)) (k : Nat) : SW (LW wd k) := (km wd).filter _
section
variable {σ : Type} (yy : σ → z7 → Option (σ × Bool))
def qZ : List z7 → σ → Option (σ × Bool)
 | [], sg => some (sg, true)
 | p :: ps, sg => Option.bind (yy sg p) fun r => if r.2 = true then qZ ps r.1 else some (r.1, false)
theorem WS : ∀ (l m : List z7) (sg : σ), qZ yy (l ++ m) sg = Option.bind (qZ yy l sg) fun r => if r.2 = true then qZ yy m r.1 else some (r.1, false)
 | [], m, sg => by simp [qZ]
 | p :: l, m, sg => by
  simp [List.cons_append, qZ]
  cases yy sg p with
  | none => rfl
  | some r =>
   simp [oB]
   by_cases h : r.2 = true
   ·simp [h]
    exact WS l m r.1
   ·simp [h]
def JT (w : List Int) : List Int → Nat → List z7
 | [], _ => []
 | k :: nx, s => (if k = -1 then [] else [z7.mk k (w ++ [(s : Int)])]) ++ JT w nx (s + 1)
theorem Jw (w : List Int) : ∀ (nx : List Int) (s : Nat), (JT w nx s).length ≤ nx.length
 | [], _ => Nat.le_refl _
 | k :: nx, s => by
  have := Jw w nx (s + 1)
  simp [JT, List.length_append, List.length_cons]
  split <;> simp <;> omega
theorem Ui (w : List Int) (k : Int) : ∀ (nx : List Int) (s : Nat), JT w (nx ++ [k]) s = JT w nx s ++ (if k = -1 then [] else [z7.mk k (w ++ [((s + nx.length : Nat) : Int)])])
 | [], s => by simp [JT]
 | k' :: nx, s => by
  simp only [List.cons_append, JT, Ui w k nx (s + 1), List.append_assoc, List.length_cons]
  rw [show s + 1 + nx.length = s + (nx.length + 1) by omega]
theorem z3q {p : z7} {yr : σ × Bool}  (hN : N.Next.length ≤ 1000) (hw : p.w_.length ≤ 100000) {nx : List z7} (hn : nx.length ≤ 1000000000) :
  loop (fun s => yK p yr N s.1 s.2) (nx, 0) = some (yr.1, nx ++ JT p.w_ N.Next 0) := by
 have h := vq (step := fun s => yK p yr N s.1 s.2) (fun i => (nx ++ JT p.w_ (N.Next.take i) 0, (i : Int))) N.Next.length (t := (yr.1, nx ++ JT p.w_ N.Next 0)) (by omega) (by
  intro i hi
  show yK p yr N _ (i : Int) = _
  unfold yK
  have hq : decide ((i : Int) < (N.Next.length : Int)) = true := by simpa using hi
  have hx : N.Next[i]? = some N.Next[i] := List.getElem?_eq_getElem hi
  have hl := Jw p.w_ (N.Next.take i) 0
  rw [List.length_take] at hl
  have htk : N.Next.take (i + 1) = N.Next.take i ++ [N.Next[i]] := by rw [List.take_add_one, hx]; rfl
  rw [hq, cond_true, zC hx, oB]
  have hi2 : w64 ((i : Int) + 1) = ((i + 1 : Nat) : Int) := by rw [yq (by omega) (by omega)]; omega
  have hlt : (N.Next.take i).length = i := by rw [List.length_take]; omega
  by_cases hk : N.Next[i] = -1
  ·have hb : (N.Next[i] != -1) = false := by simp [hk]
   rw [hb, cond_false]
   unfold wp
   rw [hi2, htk, Ui, if_pos hk, List.append_nil]
  ·have hb : (N.Next[i] != -1) = true := by simpa using hk
   rw [hb, cond_true, Wi, oB, gdT (by simp; omega), gdT (by rw [List.length_append, List.length_singleton]; omega)]
   unfold wp
   rw [hi2, htk, Ui, if_neg hk, hlt, Nat.zero_add, List.append_assoc]) (by
  show yK p yr N _ (N.Next.length : Int) = _
  unfold yK
  have hq : decide ((N.Next.length : Int) < (N.Next.length : Int)) = false := by simp
  rw [hq, cond_false, List.take_length])
 have h0 : (nx ++ JT p.w_ (N.Next.take 0) 0, ((0 : Nat) : Int)) = (nx, (0 : Int)) := by simp [JT]
 rw [h0] at h
 exact h
variable {nodes : List z6}
def Zw (nodes : List z6) (p : z7) : List z7 :=
 match nodes[p.at_.toNat]? with
 | some N => JT p.w_ N.Next 0
 | none => []
def z5U (nodes : List z6) (p : z7) : Prop := 0 ≤ p.at_ ∧ p.w_.length ≤ 100000 ∧ ∃ N, nodes[p.at_.toNat]? = some N ∧ N.Next.length ≤ 1000
theorem z28 {lv : List z7} (hl : lv.length ≤ 500000) (hg : ∀ p ∈ lv, z5U nodes p) (sg : σ) :
  loop (fun s => wn nodes yy lv s.1 s.2.1 s.2.2) (sg, ([] : List z7), 0) = Option.bind (qZ yy lv sg) fun r => some (if r.2 = true then .inl (r.1, lv.flatMap (Zw nodes)) else .inr r.1) := by
 have gen : ∀ (n k : Nat) (sg : σ), k ≤ lv.length → lv.length - k < n → ZY (fun s => wn nodes yy lv s.1 s.2.1 s.2.2) n (sg, (lv.take k).flatMap (Zw nodes), (k : Int)) = Option.bind (qZ yy (lv.drop k) sg) fun r => some (if r.2 = true then .inl (r.1, lv.flatMap (Zw nodes)) else .inr r.1) := by
  intro n
  induction n with
  | zero => intro k _ _ h; omega
  | succ n ih =>
   intro k sg hk hn
   rw [vR]
   dsimp only
   rw [wn.eq_1 nodes yy lv sg ((lv.take k).flatMap (Zw nodes)) (k : Int)]
   rcases Nat.lt_or_ge k lv.length with hlt | hge
   ·have hx : lv[k]? = some lv[k] := List.getElem?_eq_getElem hlt
    have hq : decide ((k : Int) < (lv.length : Int)) = true := by simpa using hlt
    rw [hq, cond_true, zC hx, oB, List.drop_eq_getElem_cons hlt]
    simp only [qZ]
    cases hy : yy sg lv[k] with
    | none => rfl
    | some r =>
     simp only [oB]
     by_cases hr : r.2 = true
     ·have ⟨p1, p2, N, p3, p4⟩ := hg _ (List.getElem_mem hlt)
      have hidx : idx nodes lv[k].at_ = some N := by
       rw [show lv[k].at_ = ((lv[k].at_.toNat : Nat) : Int) by omega]; exact p3
      have hnl : ((lv.take k).flatMap (Zw nodes)).length ≤ 1000000000 := by
       have : ∀ m : List z7, (∀ p ∈ m, z5U nodes p) → (m.flatMap (Zw nodes)).length ≤ m.length * 1000 := by
        intro m
        induction m with
        | nil => intro _; simp
        | cons p m ih2 =>
         intro hm
         have ⟨_, _, M, m3, m4⟩ := hm p (by simp)
         have h1 : (Zw nodes p).length ≤ 1000 := by
          unfold Zw
          rw [m3]
          exact Nat.le_trans (Jw _ _ _) m4
         have h2 := ih2 fun q hq => hm q (by simp [hq])
         rw [List.flatMap_cons, List.length_append, List.length_cons]
         omega
       have h1 := this (lv.take k) fun p hp => hg p (List.mem_of_mem_take hp)
       rw [List.length_take] at h1
       omega
      have hnp : Zw nodes lv[k] = JT lv[k].w_ N.Next 0 := by unfold Zw; rw [p3]
      have htk : (lv.take (k + 1)).flatMap (Zw nodes) = (lv.take k).flatMap (Zw nodes) ++ JT lv[k].w_ N.Next 0 := by
       rw [List.take_add_one, hx, List.flatMap_append]
       simp [hnp]
      rw [hr, Bool.not_true, cond_false, hidx, oB, bdT (z3q p4 p2 hnl)]
      unfold ul
      rw [yq (by omega) (by omega)]
      dsimp only
      rw [← htk]
      rw [show (k : Int) + 1 = ((k + 1 : Nat) : Int) by omega, ih (k + 1) r.1 hlt (by omega)]
      simp
     ·have hb : r.2 = false := by simpa using hr
      simp [hb]
   ·have hk2 : k = lv.length := by omega
    subst hk2
    have hq : decide ((lv.length : Int) < (lv.length : Int)) = false := by simp
    rw [hq, cond_false, List.drop_length, List.take_length]
    simp [qZ]
 have h := gen KU 0 sg (Nat.zero_le _) (by show lv.length - 0 < 18446744073709551616; omega)
 have h0 : (sg, (lv.take 0).flatMap (Zw nodes), ((0 : Nat) : Int)) = (sg, ([] : List z7), (0 : Int)) := by simp
 rw [h0, List.drop_zero] at h
 exact h
def z7v (nodes : List z6) : Nat → List z7 → List z7
 | 0, _ => []
 | m + 1, lv => lv ++ z7v nodes m (lv.flatMap (Zw nodes))
def itL (nodes : List z6) : Nat → List z7 → List z7
 | 0, lv => lv
 | m + 1, lv => itL nodes m (lv.flatMap (Zw nodes))
theorem JX : ∀ (m n : Nat) (lv : List z7) (sg : σ), m < n → itL nodes m lv = [] → (∀ j, j < m → (itL nodes j lv).length ≤ 500000 ∧ ∀ p ∈ itL nodes j lv, z5U nodes p) →
  ZY (fun s => wo nodes yy s.1 s.2) n (sg, lv) = Option.bind (qZ yy (z7v nodes m lv) sg) fun r => some r.1
 | m, 0, lv, sg, h, _, _ => by omega
 | 0, n + 1, lv, sg, _, h0, _ => by
  have : lv = [] := h0
  subst this
  rw [vR]
  rfl
 | m + 1, n + 1, lv, sg, hmn, h0, hg => by
  rw [vR]
  dsimp only
  rw [wo.eq_1 nodes yy sg lv]
  have g := hg 0 (by omega)
  have g1 : lv.length ≤ 500000 := g.1
  have g2 : ∀ p ∈ lv, z5U nodes p := g.2
  by_cases he : lv = []
  ·subst he
   have hlv : ∀ m, z7v nodes m [] = [] := by
    intro m
    induction m with
    | zero => rfl
    | succ m ih => simp [z7v, ih]
   rw [hlv]
   rfl
  ·have hpos : 0 < lv.length := List.length_pos_iff.2 he
   have hq : decide (((lv.length : Nat) : Int) > 0) = true := by rw [decide_eq_true_eq]; omega
   rw [hq, cond_true, z28 yy g1 g2]
   simp [z7v]
   rw [WS]
   cases hf : qZ yy lv sg with
   | none => rfl
   | some r =>
    simp [oB]
    by_cases hr : r.2 = true
    ·simp [hr]
     unfold um
     exact JX m n _ r.1 (by omega) h0 fun j hj => hg (j + 1) (by omega)
    ·simp [hr]
end
def pl (wd : List (List Int)) (w : List Int) : z7 := ⟨((wd.idxOf w : Nat) : Int), w⟩
theorem z3r (hn : wd.Nodup) (w : List Int) : ∀ (nx : List Int) (s0 : Nat), (∀ t k, nx[t]? = some k → (k = -1 ∧ w ++ [((s0 + t : Nat) : Int)] ∉ wd) ∨ ∃ j : Nat, k = (j : Int) ∧ wd[j]? = some (w ++ [((s0 + t : Nat) : Int)])) →
  JT w nx s0 = (((List.range' s0 nx.length).map fun s : Nat => w ++ [(s : Int)]).filter fun x => decide (x ∈ wd)).map (pl wd)
 | [], _, _ => rfl
 | k :: nx, s0, h => by
  have ih := z3r hn w nx (s0 + 1) fun t k' hk => by
   have := h (t + 1) k' (by simpa using hk)
   rwa [show s0 + (t + 1) = s0 + 1 + t by omega] at this
  simp only [JT, ih, List.length_cons, List.range'_succ, List.map_cons, List.filter_cons]
  rcases h 0 k rfl with ⟨h1, h2⟩ | ⟨j, h1, h2⟩
  ·rw [Nat.add_zero] at h2
   simp [h1, h2]
  ·rw [Nat.add_zero] at h2
   have hm := List.mem_of_getElem? h2
   have hk : ¬ k = -1 := by omega
   simp only [hk, if_false, hm, decide_true, if_true, List.map_cons, List.singleton_append]
   congr 1
   unfold pl
   rw [KQ hn h2, h1]
section
variable {a : Nat} {nodes : List z6} {wd : List (List Int)} {D : List Int → Prop} (h : j7 a nodes wd D) (ha : a ≤ 1000)
include h
theorem z7o (hw : w ∈ wd) : Zw nodes (pl wd w) = ((X8 a w).filter fun x => decide (x ∈ wd)).map (pl wd) := by
 have hi := uC hw
 have hlt : wd.idxOf w < nodes.length := by rw [h.len]; exact (List.getElem?_eq_some_iff.1 hi).1
 have hN : nodes[wd.idxOf w]? = some nodes[wd.idxOf w] := List.getElem?_eq_getElem hlt
 have hl := h.nlen _ _ hN
 unfold Zw
 have : (pl wd w).at_.toNat = wd.idxOf w := by simp [pl]
 rw [this, hN]
 show JT w nodes[wd.idxOf w].Next 0 = _
 rw [z3r h.nod w nodes[wd.idxOf w].Next 0, hl]
 ·unfold X8
  rw [List.range_eq_range']
 ·intro t k hk
  have ht : t < a := by have := (List.getElem?_eq_some_iff.1 hk).1; omega
  rw [Nat.zero_add]
  rcases h.nxt _ _ _ hN hi t ht with ⟨q1, q2⟩ | ⟨j, q1, q2⟩
  ·rw [hk] at q1
   exact .inl ⟨by simpa using q1, q2⟩
  ·rw [hk] at q1
   exact .inr ⟨j, by simpa using q1, q2⟩
theorem Qp (k : Nat) : ((LW wd k).map (pl wd)).flatMap (Zw nodes) = (LW wd (k + 1)).map (pl wd) := by
 have e : ∀ l : List (List Int), (∀ w ∈ l, w ∈ wd) → (l.map (pl wd)).flatMap (Zw nodes) = ((l.flatMap (X8 a)).filter fun x => decide (x ∈ wd)).map (pl wd) := by
  intro l
  induction l with
  | nil => intro _; rfl
  | cons w l ih =>
   intro hl
   rw [List.map_cons, List.flatMap_cons, ih fun v hv => hl v (by simp [hv]), z7o h (hl w (by simp)), List.flatMap_cons, List.filter_append, List.map_append]
 rw [e _ fun w hw => (YM.1 hw).1]
 congr 1
 refine SW.unique ((z0I a k (z5T wd k) fun w hw => (YM.1 hw).2).filter _) (z5T _ _) fun x => ?_
 rw [List.mem_filter, List.mem_flatMap, YM, decide_eq_true_eq]
 constructor
 ·rintro ⟨⟨w, q1, q2⟩, q3⟩
  simp [X8, List.mem_map] at q2
  obtain ⟨s, _, rfl⟩ := q2
  exact ⟨q3, by simp [(YM.1 q1).2]⟩
 ·rintro ⟨q1, q2⟩
  rcases List.eq_nil_or_concat x with rfl | ⟨w, s, rfl⟩
  ·simp at q2
  ·rw [List.concat_eq_append] at q1 q2 ⊢
   have ⟨c1, c2, c3⟩ := h.clo w s q1
   refine ⟨⟨w, YM.2 ⟨c1, by simpa using q2⟩, ?_⟩, q1⟩
   simp [X8, List.mem_map, List.mem_range]
   exact ⟨s.toNat, by omega, by rw [Int.toNat_of_nonneg c2]⟩
theorem Jx : ∀ (j k : Nat), itL nodes j ((LW wd k).map (pl wd)) = (LW wd (k + j)).map (pl wd)
 | 0, k => rfl
 | j + 1, k => by
  rw [itL, Qp h, Jx j (k + 1), show k + 1 + j = k + (j + 1) by omega]
def z4h (wd : List (List Int)) : Nat → Nat → List (List Int)
 | _, 0 => []
 | k, m + 1 => LW wd k ++ z4h wd (k + 1) m
theorem z3k : ∀ (m k : Nat), z7v nodes m ((LW wd k).map (pl wd)) = (z4h wd k m).map (pl wd)
 | 0, k => rfl
 | m + 1, k => by rw [z7v, Qp h, z3k m (k + 1), z4h, List.map_append]
omit h in
theorem Jr : ∀ (m k : Nat) (x : List Int), x ∈ z4h wd k m ↔ x ∈ wd ∧ k ≤ x.length ∧ x.length < k + m
 | 0, k, x => by simp [z4h]
 | m + 1, k, x => by
  rw [z4h, List.mem_append, YM, Jr m (k + 1) x]
  constructor
  ·rintro (⟨q1, q2⟩ | ⟨q1, q2, q3⟩)
   ·exact ⟨q1, by omega, by omega⟩
   ·exact ⟨q1, by omega, by omega⟩
  ·rintro ⟨q1, q2, q3⟩
   rcases Nat.lt_or_ge k x.length with q | q
   ·exact .inr ⟨q1, by omega, by omega⟩
   ·exact .inl ⟨q1, by omega⟩
omit h in
theorem z3P : ∀ (m k : Nat), SW (z4h wd k m)
 | 0, k => by simp [z4h, SW]
 | m + 1, k => by
  unfold z4h SW
  rw [List.pairwise_append]
  refine ⟨z5T wd k, z3P m (k + 1), fun x hx y hy => ?_⟩
  have h1 := (YM.1 hx).2
  have h2 := ((Jr m (k + 1) y).1 hy).2.1
  unfold uP
  rw [if_pos (by omega)]
  omega
include ha
theorem z0e {σ : Type} (yy : σ → z7 → Option (σ × Bool)) (sg : σ) (hlen : wd.length ≤ 500000) (hwl : ∀ w ∈ wd, w.length ≤ 10000) :
  yT nodes yy sg = Option.bind (qZ yy ((srt wd).map (pl wd)) sg) fun r => some r.1 := by
 have hcat : z4h wd 0 10001 = srt wd := SW.unique (z3P 10001 0) (km wd) fun x => by
  rw [Jr, yZ]
  exact ⟨fun q => q.1, fun q => ⟨q, Nat.zero_le _, by have := hwl x q; omega⟩⟩
 have main : wq nodes yy sg ((LW wd 0).map (pl wd)) = Option.bind (qZ yy ((srt wd).map (pl wd)) sg) fun r => some r.1 := by
  unfold wq
  have hl := JX yy (nodes := nodes) 10001 KU ((LW wd 0).map (pl wd)) sg (by show 10001 < 18446744073709551616; omega) (by
   rw [Jx h]
   have : LW wd (0 + 10001) = [] := by
    rw [List.eq_nil_iff_forall_not_mem]
    intro x hx
    have ⟨q1, q2⟩ := YM.1 hx
    have := hwl x q1
    omega
   rw [this]; rfl) (fun j hj => by
   rw [Jx h]
   refine ⟨?_, fun p hp => ?_⟩
   ·rw [List.length_map]
    refine Nat.le_trans (List.length_filter_le _ _) (Nat.le_trans (Jb wd) hlen)
   ·obtain ⟨w, q1, rfl⟩ := List.mem_map.1 hp
    have hw := (YM.1 q1).1
    have hlt : wd.idxOf w < nodes.length := by rw [h.len]; exact (List.getElem?_eq_some_iff.1 (uC hw)).1
    have hN : nodes[wd.idxOf w]? = some nodes[wd.idxOf w] := List.getElem?_eq_getElem hlt
    refine ⟨by simp [pl], by have := hwl w hw; show w.length ≤ 100000; omega, nodes[wd.idxOf w], by simp [pl], by rw [h.nlen _ _ hN]; exact ha⟩)
  have hl2 : loop (fun s => wo nodes yy s.1 s.2) (sg, (LW wd 0).map (pl wd)) = _ := hl
  rw [hl2, z3k h, hcat]
  cases qZ yy ((srt wd).map (pl wd)) sg <;> rfl
 unfold yT
 by_cases hn : nodes = []
 ·have hw0 : wd = [] := List.eq_nil_of_length_eq_zero (by rw [← h.len, hn]; rfl)
  have hq : decide (((nodes.length : Nat) : Int) > 0) = false := by rw [hn]; rfl
  rw [hq, cond_false]
  have hL : LW wd 0 = [] := by rw [hw0]; rfl
  rw [hL] at main
  exact main
 ·have hpos : 0 < nodes.length := List.length_pos_iff.2 hn
  have hq : decide (((nodes.length : Nat) : Int) > 0) = true := by rw [decide_eq_true_eq]; omega
  rw [hq, cond_true]
  have hr := h.root (by rw [← h.len]; exact hpos)
  have hL : LW wd 0 = [[]] := SW.unique (z5T wd 0) (by simp [SW]) fun x => by
   rw [YM, List.mem_singleton]
   constructor
   ·rintro ⟨_, q⟩; exact List.eq_nil_of_length_eq_zero q
   ·rintro rfl; exact ⟨List.mem_of_getElem? hr, rfl⟩
  rw [hL] at main
  have hp : [[]].map (pl wd) = [z7.mk 0 []] := by simp [pl, KQ h.nod hr]
  rw [hp] at main
  exact main
end
theorem z3n (hN : N.Next.length ≤ 1000) : uT N = some (N.Next.all fun c => c == -1) := by
 unfold uT yj yM
 have hl := uv N.Next (by omega) (step := fun s => zO N.Next s) (fun i c => if c ≠ -1 then some (i : Int) else none) (by
  intro i c hc
  have hi : i < N.Next.length := (List.getElem?_eq_some_iff.1 hc).1
  have hq : decide ((i : Int) < (N.Next.length : Int)) = true := by simpa using hi
  unfold zO kg
  rw [hq, cond_true, zC hc, oB, oB]
  by_cases h : c = -1
  ·simp [h, nS]
  ·have hb : (c != -1) = true := by simpa using h
   rw [hb, cond_true, if_pos h]
   rfl) (by unfold zO; simp)
 rw [hl]
 have q := z3B (fun c => c != -1) (fun i c => if c ≠ -1 then some (i : Int) else none) (fun i c => by by_cases h : c = -1 <;> simp [h]) N.Next 0
 have hall : (N.Next.all fun c => c == -1) = !(N.Next.any fun c => c != -1) := by
  rw [List.all_eq_not_any_not]
  rfl
 rw [hall, ← q]
 cases hf : x6 (fun i c => if c ≠ -1 then some (i : Int) else none) N.Next 0 with
 | none => rfl
 | some r =>
  obtain ⟨i, x, h1, h2⟩ := jQ hf
  rw [Nat.zero_add] at h2
  split at h2
  ·cases h2
   have : decide ((i : Int) ≥ 0) = true := by simp
   simp [oS]
  ·cases h2
def yH (l : List (List Int)) : List (List Int) := l.flatMap fun w => (List.range (w.length + 1)).map fun k => w.take k
theorem u2 : x ∈ yH l ↔ ∃ w ∈ l, ∃ j, j ≤ w.length ∧ x = w.take j := by
 simp only [yH, List.mem_flatMap, List.mem_map, List.mem_range]
 constructor
 ·rintro ⟨w, h1, j, h2, rfl⟩; exact ⟨w, h1, j, by omega, rfl⟩
 ·rintro ⟨w, h1, j, h2, rfl⟩; exact ⟨w, h1, j, by omega, rfl⟩
section
variable {wd : List (List Int)}
theorem WW {step : List (List Int) → z7 → Option (LR (List (List Int)) Empty)} (P : List Int → Bool) : ∀ (ws : List (List Int)) (out : List (List Int)), (∀ o w, w ∈ ws → o.length ≤ 1000000 → step o (pl wd w) = some (.next (if P w = true then o ++ [w] else o))) → out.length + ws.length ≤ 1000000 →
  qZ (yOf step) (ws.map (pl wd)) (.next out) = some (.next (out ++ ws.filter P), true)
 | [], out, _, _ => by simp [qZ]
 | w :: ws, out, h, hl => by
  simp only [List.length_cons] at hl
  have h1 := h out w (by simp) (by omega)
  simp only [List.map_cons, qZ, yOf, h1, oB, if_true]
  rw [WW P ws _ (fun o v hv ho => h o v (by simp [hv]) ho) (by split <;> (try simp only [List.length_append, List.length_singleton]) <;> omega)]
  by_cases hp : P w = true
  ·simp [hp]
  ·have : P w = false := by simpa using hp
   simp [this]
end
section
variable {a : Nat} {nodes : List z6} {wd : List (List Int)} {D : List Int → Prop} (h : j7 a nodes wd D) (ha : a ≤ 1000) (hlen : wd.length ≤ 400000) (hwl : ∀ w ∈ wd, w.length ≤ 10000)
include h
theorem z0A (hw : w ∈ wd) : ∃ N, nodes[wd.idxOf w]? = some N ∧ idx nodes (pl wd w).at_ = some N ∧ N.Next.length = a := by
 have hlt : wd.idxOf w < nodes.length := by rw [h.len]; exact (List.getElem?_eq_some_iff.1 (uC hw)).1
 have hN : nodes[wd.idxOf w]? = some nodes[wd.idxOf w] := List.getElem?_eq_getElem hlt
 exact ⟨_, hN, hN, h.nlen _ _ hN⟩
theorem z3o (hw : w ∈ wd) (hpre : ∀ v ∈ wd, ∀ j, v.take j ∈ wd)  (hN : nodes[wd.idxOf w]? = some N) : (N.Next.all fun c => c == -1) = !wd.any (z0a w) := by
 rw [Bool.eq_iff_iff]
 simp only [List.all_eq_true, beq_iff_eq, Bool.not_eq_true', List.any_eq_false, Jv]
 have hl := h.nlen _ _ hN
 constructor
 ·intro hall v hv hext
  have h1 : v.take (w.length + 1) ∈ wd := hpre v hv _
  have hlt := hext.1
  have e : v.take (w.length + 1) = w ++ [v[w.length]] := by rw [List.take_add_one, List.getElem?_eq_getElem hlt, hext.2]; rfl
  rw [e] at h1
  obtain ⟨_, c2, c3⟩ := h.clo _ _ h1
  obtain ⟨s, hs⟩ : ∃ s : Nat, v[w.length] = (s : Int) := ⟨v[w.length].toNat, by omega⟩
  rw [hs] at h1 c3
  rcases h.nxt _ _ _ hN (uC hw) s (by omega) with ⟨_, q⟩ | ⟨j, q1, _⟩
  ·exact q h1
  ·have := hall _ (List.mem_of_getElem? q1)
   omega
 ·intro hno c hc
  obtain ⟨t, ht⟩ := List.mem_iff_getElem?.1 hc
  have hta : t < a := by have := (List.getElem?_eq_some_iff.1 ht).1; omega
  rcases h.nxt _ _ _ hN (uC hw) t hta with ⟨q, _⟩ | ⟨j, _, q2⟩
  ·rw [ht] at q
   simpa using q
  ·exact absurd ⟨by simp, by simp⟩ (hno _ (List.mem_of_getElem? q2))
include ha hlen hwl
theorem z0N : wV nodes () = some (srt wd) := by
 unfold wV vI
 rw [oB, z0e h ha _ _ (by omega) hwl]
 rw [WW (wd := wd) (fun x => true) (srt wd) [] (fun o w hw ho => by
  have hw' := yZ.1 hw
  obtain ⟨N, n1, n2, n3⟩ := z0A h hw'
  have hww := hwl w hw'
  unfold xO u7
  rw [n2, oB, oB, cond_true]
  show (Option.bind (zZ w) fun r_3 => _) = _
  rw [JE w (by omega), oB, Wi, oB, gdT (by simp; omega)]
  rfl) (by have := Jb wd; simp; omega)]
 simp only [oB, List.nil_append]
 unfold wM
 rw [z1J]
 simp
end
theorem z1Y {l wd : List (List Int)} (hm : ∀ x, x ∈ wd ↔ ∃ w ∈ l, ∃ j, j ≤ w.length ∧ x = w.take j) : ∀ v ∈ wd, ∀ j, v.take j ∈ wd := by
 intro v hv j
 obtain ⟨w, h1, i, h2, rfl⟩ := (hm v).1 hv
 exact (hm _).2 ⟨w, h1, min j i, by omega, by rw [List.take_take]⟩
def nxW (W : List (List Int)) (w : List Int) (s : Nat) : Int := if w ++ [(s : Int)] ∈ W then ((W.idxOf (w ++ [(s : Int)]) : Nat) : Int) else -1
def UZ (a : Nat) (W l : List (List Int)) (w : List Int) : z6 := z6.mk ((List.range a).map (nxW W w)) (decide (w ∈ l))
def vu (a : Nat) (l : List (List Int)) : List z6 := (srt (yH l)).map (UZ a (srt (yH l)) l)
theorem z2h (hs : ∀ w ∈ l, ∀ c ∈ w, 0 ≤ c ∧ c < (a : Int)) : j7 a (vu a l) (srt (yH l)) (fun y => y ∈ l) := by
 have nd := (km (yH l)).nodup
 have pre : ∀ v ∈ srt (yH l), ∀ j, v.take j ∈ srt (yH l) := by
  intro v hv j
  obtain ⟨w, h1, i, h2, rfl⟩ := u2.1 (yZ.1 hv)
  exact yZ.2 (u2.2 ⟨w, h1, min j i, by omega, by rw [List.take_take]⟩)
 have at_ : ∀ (i : Nat) (N : z6) (x : List Int), (vu a l)[i]? = some N → (srt (yH l))[i]? = some x → N = UZ a (srt (yH l)) l x := by
  intro i N x h1 h2
  unfold vu at h1
  rw [List.getElem?_map, h2] at h1
  simpa using h1.symm
 have ex : ∀ (i : Nat) (N : z6), (vu a l)[i]? = some N → ∃ x, (srt (yH l))[i]? = some x := by
  intro i N h1
  have := (List.getElem?_eq_some_iff.1 h1).1
  unfold vu at this
  rw [List.length_map] at this
  exact ⟨_, List.getElem?_eq_getElem this⟩
 refine ⟨by simp [vu], nd, ?_, ?_, ?_, ?_, ?_⟩
 ·intro i N h1
  obtain ⟨x, h2⟩ := ex i N h1
  rw [at_ i N x h1 h2]
  simp [UZ]
 ·intro i N x h1 h2 s hs2
  rw [at_ i N x h1 h2]
  have e : (UZ a (srt (yH l)) l x).Next[s]? = some (nxW (srt (yH l)) x s) := by
   unfold UZ
   simp [hs2]
  rw [e]
  unfold nxW
  by_cases hm : x ++ [(s : Int)] ∈ srt (yH l)
  ·right
   rw [if_pos hm]
   exact ⟨_, rfl, uC hm⟩
  ·left
   rw [if_neg hm]
   exact ⟨rfl, hm⟩
 ·intro hpos
  have hne : srt (yH l) ≠ [] := fun e => by rw [e] at hpos; simp at hpos
  obtain ⟨v, W', hvW⟩ := List.exists_cons_of_ne_nil hne
  have hv : v ∈ srt (yH l) := by rw [hvW]; simp
  have hnil : ([] : List Int) ∈ srt (yH l) := by
   have := pre v hv 0
   simpa using this
  rw [hvW] at hnil ⊢
  rcases List.mem_cons.1 hnil with e | e
  ·rw [← e]; rfl
  ·have hsw := km (yH l)
   rw [hvW] at hsw
   have := hsw.head [] e
   unfold uP at this
   rw [if_neg (by simp)] at this
   by_cases hz : v.length = 0
   ·rw [List.eq_nil_of_length_eq_zero hz]; rfl
   ·rw [if_pos (by simp; omega)] at this
    omega
 ·intro w s hw
  obtain ⟨v, v1, j, v2, e⟩ := u2.1 (yZ.1 hw)
  have hpw := pre _ hw w.length
  rw [List.take_left'  rfl] at hpw
  refine ⟨hpw, ?_⟩
  have hsm : s ∈ v := List.mem_of_mem_take (i := j) (by rw [← e]; simp)
  exact hs v v1 s hsm
 ·intro i N x h1 h2
  rw [at_ i N x h1 h2]
  simp [UZ]
def z21 (wd : List (List Int)) : List (List Int) → List Int → Nat → List Int
 | [], num, _ => num
 | w :: ws, num, k => z21 wd ws (num.set (wd.idxOf w) (k : Int)) (k + 1)
theorem z1m (wd : List (List Int)) : ∀ (ws : List (List Int)) (num : List Int) (k : Nat), (z21 wd ws num k).length = num.length
 | [], _, _ => rfl
 | w :: ws, num, k => by rw [z21, z1m wd ws]; simp
theorem Qo (wd : List (List Int)) : ∀ (ws : List (List Int)) (num : List Int) (k j : Nat), (∀ w ∈ ws, wd.idxOf w ≠ j) → (z21 wd ws num k)[j]? = num[j]?
 | [], _, _, _, _ => rfl
 | w :: ws, num, k, j, h => by
  rw [z21, Qo wd ws _ _ j fun v hv => h v (by simp [hv]), List.getElem?_set_ne (h w (by simp))]
theorem z37 : ∀ (ws : List (List Int)) (num : List Int) (k i : Nat) (w : List Int), ws.Nodup → (∀ v ∈ ws, v ∈ wd) → num.length = wd.length → ws[i]? = some w → (z21 wd ws num k)[wd.idxOf w]? = some ((k + i : Nat) : Int)
 | [], _, _, _, _, _, _, _, h => by simp at h
 | v :: ws, num, k, i, w, hn, hm, hl, h => by
  have hv := uC (hm v (by simp))
  cases i with
  | zero =>
   simp only [List.getElem?_cons_zero, Option.some.injEq] at h
   subst h
   rw [z21, Qo, List.getElem?_set_self (by rw [hl]; exact (List.getElem?_eq_some_iff.1 hv).1)]
   ·rfl
   ·intro u hu e
    have hu2 := uC (hm u (by simp [hu]))
    rw [e, hv] at hu2
    have : v = u := by simpa using hu2
    exact (List.nodup_cons.1 hn).1 (this ▸ hu)
  | succ i =>
   rw [z21, z37 ws _ (k + 1) i w (List.nodup_cons.1 hn).2 (fun u hu => hm u (by simp [hu])) (by simp [hl]) (by simpa using h)]
   congr 2
   omega
theorem z1l : ∀ (ws : List (List Int)) (num ord : List Int), (∀ v ∈ ws, v ∈ wd) → num.length = wd.length → ord.length + ws.length ≤ 1000000 →
  qZ (yOf (fun (s : List Int × List Int) x => y3 s.1 s.2 x)) (ws.map (pl wd)) (.next (num, ord)) = some (.next (z21 wd ws num ord.length, ord ++ ws.map fun w => ((wd.idxOf w : Nat) : Int)), true)
 | [], num, ord, _, _, _ => by simp [qZ, z21]
 | w :: ws, num, ord, hm, hl, hlen => by
  simp only [List.length_cons] at hlen
  have hw := uC (hm w (by simp))
  have hlt : wd.idxOf w < num.length := by rw [hl]; exact (List.getElem?_eq_some_iff.1 hw).1
  have e : y3 num ord (pl wd w) = some (.next (num.set (wd.idxOf w) (ord.length : Int), ord ++ [((wd.idxOf w : Nat) : Int)])) := by
   unfold y3
   have : idx num (pl wd w).at_ = some num[wd.idxOf w] := List.getElem?_eq_getElem hlt
   rw [this, oB, gdT (by rw [List.length_singleton]; omega)]
   rfl
  simp only [List.map_cons, qZ, yOf, e, oB, if_true]
  rw [z1l ws _ _ (fun v hv => hm v (by simp [hv])) (by simp [hl]) (by rw [List.length_append, List.length_singleton]; omega)]
  simp [z21]
theorem z5A (l : List z6) : zS l = some l := by
 unfold zS
 rw [gdT (by omega)]
 simp
def fN (num : List Int) (k : Int) : Int := if k = -1 then -1 else (num[k.toNat]?).getD 0
theorem z9L {num ord : List Int}  (hN : N.Next.length ≤ 1000) (hk : ∀ k ∈ N.Next, k = -1 ∨ 0 ≤ k ∧ k.toNat < num.length) :
  loop (fun s => zK (num, ord) N s.1 s.2) (N.Next, 0) = some (N.Next.map (fN num)) := by
 have h := vq (step := fun s => zK (num, ord) N s.1 s.2) (fun i => ((N.Next.take i).map (fN num) ++ N.Next.drop i, (i : Int))) N.Next.length (t := N.Next.map (fN num)) (by omega) (by
  intro i hi
  show zK (num, ord) N _ (i : Int) = _
  unfold zK
  have hq : decide ((i : Int) < (N.Next.length : Int)) = true := by simpa using hi
  have hA : ((N.Next.take i).map (fN num)).length = i := by rw [List.length_map, List.length_take]; omega
  have hd : N.Next.drop i = N.Next[i] :: N.Next.drop (i + 1) := List.drop_eq_getElem_cons hi
  have hx : ((N.Next.take i).map (fN num) ++ N.Next.drop i)[i]? = some N.Next[i] := by rw [List.getElem?_append_right (by omega), hA, hd]; simp
  have hi2 : w64 ((i : Int) + 1) = ((i + 1 : Nat) : Int) := by rw [yq (by omega) (by omega)]; omega
  have htk : (N.Next.take (i + 1)).map (fN num) = (N.Next.take i).map (fN num) ++ [fN num N.Next[i]] := by rw [List.take_add_one, List.getElem?_eq_getElem hi, List.map_append]; rfl
  rw [hq, cond_true, zC hx, oB, htk]
  unfold yC
  by_cases hm : N.Next[i] = -1
  ·have hb : (N.Next[i] != -1) = false := by simp [hm]
   have hf : fN num N.Next[i] = N.Next[i] := by unfold fN; rw [if_pos hm, hm]
   rw [hb, cond_false, hi2, hf, hd, List.append_assoc]
   rfl
  ·have hb : (N.Next[i] != -1) = true := by simpa using hm
   obtain ⟨k1, k2⟩ := (hk _ (List.getElem_mem hi)).resolve_left hm
   have hidx : idx num N.Next[i] = some (fN num N.Next[i]) := by
    have e1 : idx num N.Next[i] = num[N.Next[i].toNat]? := by
     obtain ⟨t, ht⟩ : ∃ t : Nat, N.Next[i] = (t : Int) := ⟨N.Next[i].toNat, by omega⟩
     rw [ht, Up, Int.toNat_natCast]
    rw [e1]
    unfold fN
    rw [if_neg hm, List.getElem?_eq_getElem k2]
    rfl
   rw [hb, cond_true]
   dsimp only
   rw [hidx, oB, oB, hi2, Int.toNat_natCast, List.set_append_right _ _ (by omega), hA, Nat.sub_self, hd, List.set_cons_zero, List.append_assoc]
   rfl) (by
  show zK (num, ord) N _ (N.Next.length : Int) = _
  unfold zK
  have hq : decide ((N.Next.length : Int) < (N.Next.length : Int)) = false := by simp
  rw [hq, cond_false, List.take_length, List.drop_length, List.append_nil])
 have h0 : ((N.Next.take 0).map (fN num) ++ N.Next.drop 0, ((0 : Nat) : Int)) = (N.Next, (0 : Int)) := by simp
 rw [h0] at h
 exact h
theorem z20 {wd l : List (List Int)} (h : j7 a nodes wd (fun y => y ∈ l)) (ha : a ≤ 1000) (hlen : wd.length ≤ 400000) (hwl : ∀ w ∈ wd, w.length ≤ 10000) (hm : ∀ x, x ∈ wd ↔ x ∈ yH l) :
  xh (ze.mk (a : Int) nodes) = some (vu a l) := by
 have hW : srt wd = srt (yH l) := VJ hm
 have hWl := Jb wd
 have hWm : ∀ v ∈ srt wd, v ∈ wd := fun v hv => yZ.1 hv
 have nd := (km wd).nodup
 have hnl := h.len
 unfold vu
 rw [← hW]
 unfold xh
 dsimp only
 rw [gdT (by omega)]
 let num := z21 wd (srt wd) (List.replicate nodes.length 0) 0
 let ord := (srt wd).map fun w => ((wd.idxOf w : Nat) : Int)
 have hq1 : xq (ze.mk (a : Int) nodes) = some (num, ord) := by
  unfold xq vI
  dsimp only
  rw [oB, z0e h ha _ _ (by omega) hwl, Int.toNat_natCast, z1l (srt wd) _ _ hWm (by simp [hnl]) (by simp; omega)]
  rfl
 have hnumlen : num.length = nodes.length := by show (z21 _ _ _ _).length = _; rw [z1m]; simp
 have hnum : ∀ v ∈ wd, num[wd.idxOf v]? = some (((srt wd).idxOf v : Nat) : Int) := by
  intro v hv
  have := z37 (wd := wd) (srt wd) (List.replicate nodes.length 0) 0 ((srt wd).idxOf v) v nd hWm (by simp [hnl]) (uC (yZ.2 hv))
  rw [Nat.zero_add] at this
  exact this
 have hordlen : ord.length = (srt wd).length := by show ((srt wd).map _).length = _; simp
 have hordat : ∀ (k : Nat) (w : List Int), (srt wd)[k]? = some w → ord[k]? = some ((wd.idxOf w : Nat) : Int) := by
  intro k w hk
  show ((srt wd).map _)[k]? = _
  rw [List.getElem?_map, hk]; rfl
 rw [hq1, oB]
 generalize num = num at hnumlen hnum ⊢
 generalize ord = ord at hordlen hordat ⊢
 apply Ret.eq
 rw [qj]
 refine Ret.mono (qW (fun q : List (Option z6) × List z6 × Int => ∃ k : Nat, q.2.2 = (k : Int) ∧ k ≤ (srt wd).length ∧ q.1.length = nodes.length ∧ (∀ (i : Nat) (w : List Int), k ≤ i → (srt wd)[i]? = some w → q.1[wd.idxOf w]? = some (nodes[wd.idxOf w]?)) ∧ q.2.1 = ((srt wd).take k).map (UZ a (srt wd) l)) (fun q => (srt wd).length - q.2.2.toNat) (R := fun t => t = (srt wd).map (UZ a (srt wd) l)) ?_ ?_ ?_) ?_
 ·refine ⟨0, rfl, Nat.zero_le _, by simp, fun i w _ hw => ?_, by simp⟩
  have hlt : wd.idxOf w < nodes.length := by rw [hnl]; exact (List.getElem?_eq_some_iff.1 (uC (hWm w (List.mem_of_getElem? hw)))).1
  simp only
  rw [List.getElem?_map, List.getElem?_eq_getElem hlt]
  rfl
 ·show (srt wd).length - _ < _
  omega
 ·rintro ⟨bn, out, _⟩ ⟨k, rfl, g1, g2, g3, g4⟩
  simp only at g2 g3 g4
  subst g4
  show Ret (yz (num, ord) bn _ (k : Int)) _
  unfold yz
  dsimp only
  rw [uY]
  refine ⟨fun hc => ?_, fun hc => ?_⟩
  ·have hk : k < (srt wd).length := by rw [hordlen] at hc; simpa using hc
   have hw : (srt wd)[k]? = some (srt wd)[k] := List.getElem?_eq_getElem hk
   have hwm : (srt wd)[k] ∈ wd := hWm _ (List.getElem_mem hk)
   generalize (srt wd)[k] = w at hw hwm
   obtain ⟨N, n1, _, n3⟩ := z0A h hwm
   have hbn := g3 k w (Nat.le_refl _) hw
   rw [n1] at hbn
   rw [zC (hordat k w hw), oB, zC hbn, oB, oB]
   have hks : ∀ c ∈ N.Next, c = -1 ∨ 0 ≤ c ∧ c.toNat < num.length := by
    intro c hc2
    obtain ⟨t, ht⟩ := List.mem_iff_getElem?.1 hc2
    have hta : t < a := by have := (List.getElem?_eq_some_iff.1 ht).1; omega
    rcases h.nxt _ N w n1 (uC hwm) t hta with ⟨q, _⟩ | ⟨j, q, q2⟩
    ·rw [ht] at q; exact .inl (by simpa using q)
    ·rw [ht] at q
     have : c = (j : Int) := by simpa using q
     subst this
     have := (List.getElem?_eq_some_iff.1 q2).1
     exact .inr ⟨by omega, by rw [Int.toNat_natCast]; omega⟩
   rw [z9L (by omega) hks, oB]
   unfold xr xu
   rw [gdT (by simp [List.length_take]; omega), yq (by omega) (by omega), zU]
   have hnode : z6.mk (N.Next.map (fN num)) N.End = UZ a (srt wd) l w := by
    unfold UZ
    congr 1
    ·refine List.ext_getElem? fun s => ?_
     rw [List.getElem?_map, List.getElem?_map]
     by_cases hs : s < a
     ·have hr : (List.range a)[s]? = some s := by rw [List.getElem?_range hs]
      rw [hr]
      rcases h.nxt _ N w n1 (uC hwm) s hs with ⟨q, q2⟩ | ⟨j, q, q2⟩
      ·rw [q]
       simp only [Option.map_some]
       unfold fN nxW
       rw [if_pos rfl, if_neg (fun z => q2 (yZ.1 z))]
      ·rw [q]
       simp only [Option.map_some]
       have hj := List.mem_of_getElem? q2
       unfold fN nxW
       rw [if_neg (by omega), if_pos (yZ.2 hj), Int.toNat_natCast, ← KQ h.nod q2, hnum _ hj]
       rfl
     ·rw [List.getElem?_eq_none (by omega), List.getElem?_eq_none (by simp; omega)]
      rfl
    ·have := h.en _ N w n1 (uC hwm)
     cases hE : N.End with
     | true => rw [hE] at this; rw [decide_eq_true (this.1 rfl)]
     | false =>
      rw [hE] at this
      rw [decide_eq_false (fun z => by have := this.2 z; cases this)]
   refine ⟨⟨k + 1, rfl, hk, by simp [g2], fun i v hi hv => ?_, ?_⟩, by simp only; omega⟩
   ·simp only
    rw [Int.toNat_natCast, List.getElem?_set_ne, g3 i v (by omega) hv]
    intro e
    have e1 := uC hwm
    have e2 := uC (hWm v (List.mem_of_getElem? hv))
    rw [e, e2] at e1
    have hvw : v = w := by simpa using e1
    subst hvw
    have := (List.getElem?_inj hk nd).1 (hw.trans hv.symm)
    omega
   ·simp only
    rw [hnode, List.take_add_one, hw, List.map_append]
    rfl
  ·have hk : k = (srt wd).length := by
    have : ¬ k < (srt wd).length := by rw [hordlen] at hc; simpa using hc
    omega
   rw [zU, hk, List.take_length]
   exact rfl
 ·rintro _ rfl
  unfold xv
  rw [z5A, oB, zU]
theorem z69 {l wd : List (List Int)} (hs : SW l) (t2 : ∀ x, x ∈ wd ↔ ∃ w ∈ l, ∃ j, j ≤ w.length ∧ x = w.take j) : (srt wd).filter (fun x => !wd.any (z0a x)) = z6r l := by
 refine SW.unique ((km wd).filter _) (hs.sub List.filter_sublist) fun x => ?_
 rw [Jt, List.mem_filter, yZ]
 simp only [Bool.not_eq_true', List.any_eq_false, Jv]
 constructor
 ·rintro ⟨h1, h2⟩
  obtain ⟨w, w1, j, w2, rfl⟩ := (t2 x).1 h1
  have hmem : ∀ v ∈ l, v ∈ wd := fun v hv => (t2 v).2 ⟨v, hv, v.length, Nat.le_refl _, by simp⟩
  have hj : j = w.length := by
   rcases Nat.lt_or_ge j w.length with q | q
   ·refine absurd ⟨?_, ?_⟩ (h2 w (hmem w w1))
    ·rw [List.length_take]; omega
    ·rw [List.length_take, Nat.min_eq_left w2]
   ·omega
  rw [hj, List.take_length] at h2 ⊢
  exact ⟨w1, fun v hv => h2 v (hmem v hv)⟩
 ·rintro ⟨h1, h2⟩
  refine ⟨(t2 x).2 ⟨x, h1, x.length, Nat.le_refl _, by simp⟩, fun v hv hext => ?_⟩
  obtain ⟨w, w1, j, w2, rfl⟩ := (t2 v).1 hv
  rw [List.length_take] at hext
  refine h2 w w1 ⟨by omega, ?_⟩
  have := hext.2
  rw [List.take_take, Nat.min_eq_left (by omega)] at this
  exact this
theorem z8w {W : List (List Int)} (h : SW W) {i j : Nat} {x y : List Int} (hi : W[i]? = some x) (hj : W[j]? = some y) (hxy : uP x y < 0) : i < j := by
 rcases Nat.lt_or_ge i j with q | q
 ·exact q
 ·rcases Nat.lt_or_ge j i with q2 | q2
  ·have := (List.pairwise_iff_getElem.1 h) j i (List.getElem?_eq_some_iff.1 hj).1 (List.getElem?_eq_some_iff.1 hi).1 q2
   rw [(List.getElem?_eq_some_iff.1 hj).2, (List.getElem?_eq_some_iff.1 hi).2] at this
   exact absurd this (z02 hxy)
  ·have : i = j := by omega
   subst this
   rw [hi] at hj
   have : x = y := by simpa using hj
   subst this
   exact absurd hxy (XF _)
theorem z1G (x : List Int) (s : Int) : uP x (x ++ [s]) < 0 := by
 unfold uP
 rw [if_pos (by simp)]
 omega
section
variable {a : Nat} {T : List z6} {W : List (List Int)} {D : List Int → Prop} (h : j7 a T W D) (hs : SW W) (hlen : W.length ≤ 65537) (ha : 1 ≤ a ∧ a ≤ 16)
include h hs hlen ha
omit hlen in
theorem z6x (hi : i < T.length)  (hx : W[i]? = some x)  (hN : T[i]? = some N) {seen : List Bool} (hsl : seen.length = T.length) (hseen : ∀ (j : Nat) (y : List Int), W[j]? = some y → (seen[j]? = some true ↔ ∃ p s, p < i ∧ ∃ z, W[p]? = some z ∧ y = z ++ [s])) :
  Ret (loop (fun s => vJ (zh.mk (a : Int) T) (i : Int) N s.1 s.2) (seen, 0)) fun t => match t with | .inl p => p.1.length = T.length ∧ ∀ (j : Nat) (y : List Int), W[j]? = some y → (p.1[j]? = some true ↔ ∃ q s, q < i + 1 ∧ ∃ z, W[q]? = some z ∧ y = z ++ [s]) | .inr _ => False := by
 have hl := h.len
 have hNl := h.nlen i N hN
 refine qW (fun q => ∃ m : Nat, q.2 = (m : Int) ∧ m ≤ a ∧ q.1.length = T.length ∧ ∀ (j : Nat) (y : List Int), W[j]? = some y → (q.1[j]? = some true ↔ (∃ p s, p < i ∧ ∃ z, W[p]? = some z ∧ y = z ++ [s]) ∨ ∃ s : Nat, s < m ∧ y = x ++ [(s : Int)])) (fun q => a - q.2.toNat) ⟨0, rfl, Nat.zero_le _, hsl, fun j y hy => by rw [hseen j y hy]; simp⟩ (by show a - _ < _; omega) ?_
 rintro ⟨sn, _⟩ ⟨m, rfl, g1, g2, g3⟩
 simp only at g2 g3
 show Ret (vJ (zh.mk (a : Int) T) (i : Int) N sn (m : Int)) _
 unfold vJ
 rw [uY]
 refine ⟨fun hc => ?_, fun hc => ?_⟩
 ·have hm : m < a := by rw [hNl] at hc; simpa using hc
  have hm2 : w64 ((m : Int) + 1) = ((m + 1 : Nat) : Int) := by rw [yq (by omega) (by omega)]; omega
  rcases h.nxt i N x hN hx m hm with ⟨q1, q2⟩ | ⟨j, q1, q2⟩
  ·rw [zC q1, oB]
   have hb : ((-1 : Int) == -1) = true := rfl
   rw [hb, cond_true]
   unfold vK
   rw [hm2, zU]
   refine ⟨⟨m + 1, rfl, hm, g2, fun j y hy => ?_⟩, by simp only; omega⟩
   rw [g3 j y hy]
   constructor
   ·rintro (q | ⟨s, s1, s2⟩)
    ·exact .inl q
    ·exact .inr ⟨s, by omega, s2⟩
   ·rintro (q | ⟨s, s1, s2⟩)
    ·exact .inl q
    ·rcases Nat.lt_or_ge s m with q | q
     ·exact .inr ⟨s, q, s2⟩
     ·have : s = m := by omega
      subst this
      exact absurd (s2 ▸ List.mem_of_getElem? hy) q2
  ·have hij : i < j := z8w hs hx q2 (z1G _ _)
   have hj : j < T.length := by rw [hl]; exact (List.getElem?_eq_some_iff.1 q2).1
   have hns : sn[j]? = some false := by
    have hlt : j < sn.length := by omega
    rw [List.getElem?_eq_getElem hlt]
    cases hv : sn[j] with
    | false => rfl
    | true =>
     exfalso
     have := (g3 j _ q2).1 (by rw [List.getElem?_eq_getElem hlt, hv])
     rcases this with ⟨p, s, p1, z, p2, p3⟩ | ⟨s, s1, s2⟩
     ·obtain ⟨e1, _⟩ := List.append_inj' p3 rfl
      subst e1
      have := h.mem_at hx p2
      omega
     ·obtain ⟨_, e2⟩ := List.append_inj' s2 rfl
      simp at e2
      omega
   rw [zC q1, oB]
   have hb : ((j : Int) == -1) = false := by simp
   have d1 : decide ((j : Int) ≤ (i : Int)) = false := by rw [decide_eq_false_iff_not]; omega
   have d2 : decide ((j : Int) ≥ ((T.length : Nat) : Int)) = false := by rw [decide_eq_false_iff_not]; omega
   rw [hb, cond_false, d1, cond_false]
   show Ret (bif decide ((j : Int) ≥ ((T.length : Nat) : Int)) then _ else _) _
   rw [d2, cond_false, zC hns, oB, cond_false, oB]
   unfold vK
   rw [hm2, zU]
   refine ⟨⟨m + 1, rfl, hm, by simp [g2], fun j' y hy => ?_⟩, by simp only; omega⟩
   simp only [Int.toNat_natCast]
   by_cases hjj : j' = j
   ·subst hjj
    rw [List.getElem?_set_self (by omega)]
    rw [q2] at hy
    have : x ++ [(m : Int)] = y := by simpa using hy
    subst this
    simp only [true_iff]
    exact .inr ⟨m, by omega, rfl⟩
   ·rw [List.getElem?_set_ne (fun e => hjj e.symm), g3 j' y hy]
    constructor
    ·rintro (q | ⟨s, s1, s2⟩)
     ·exact .inl q
     ·exact .inr ⟨s, by omega, s2⟩
    ·rintro (q | ⟨s, s1, s2⟩)
     ·exact .inl q
     ·rcases Nat.lt_or_ge s m with q | q
      ·exact .inr ⟨s, q, s2⟩
      ·have : s = m := by omega
       subst this
       subst s2
       exact absurd (h.mem_at hy q2) hjj
 ·have hm : m = a := by
   have : ¬ m < a := by rw [hNl] at hc; simpa using hc
   omega
  rw [zU]
  refine ⟨g2, fun j y hy => ?_⟩
  rw [g3 j y hy]
  constructor
  ·rintro (⟨p, s, p1, z, p2, p3⟩ | ⟨s, s1, s2⟩)
   ·exact ⟨p, s, by omega, z, p2, p3⟩
   ·exact ⟨i, (s : Int), by omega, x, hx, s2⟩
  ·rintro ⟨p, s, p1, z, p2, p3⟩
   rcases Nat.lt_or_ge p i with q | q
   ·exact .inl ⟨p, s, q, z, p2, p3⟩
   ·have : p = i := by omega
    subst this
    rw [hx] at p2
    have : x = z := by simpa using p2
    subst this
    have hmem : x ++ [s] ∈ W := p3 ▸ List.mem_of_getElem? hy
    obtain ⟨_, c2, c3⟩ := h.clo _ _ hmem
    exact .inr ⟨s.toNat, by omega, by rw [Int.toNat_of_nonneg c2]; exact p3⟩
theorem z2v : kS (zh.mk (a : Int) T) = some true := by
 have hl := h.len
 unfold kS
 dsimp only
 rw [gdT (by omega)]
 apply Ret.eq
 rw [qj]
 refine Ret.mono (qW (fun q : List Bool × Int => ∃ i : Nat, q.2 = (i : Int) ∧ i ≤ T.length ∧ q.1.length = T.length ∧ ∀ (j : Nat) (y : List Int), W[j]? = some y → (q.1[j]? = some true ↔ ∃ p s, p < i ∧ ∃ z, W[p]? = some z ∧ y = z ++ [s])) (fun q => T.length - q.2.toNat) (R := fun t : Unit ⊕ Bool => t = .inl ()) ?_ ?_ ?_) ?_
 ·refine ⟨0, rfl, Nat.zero_le _, by simp, fun j y hy => ?_⟩
  constructor
  ·intro q
   have := List.mem_of_getElem? q
   simp at this
  ·rintro ⟨p, s, p1, _⟩; omega
 ·show T.length - _ < _
  omega
 ·rintro ⟨sn, _⟩ ⟨i, rfl, g1, g2, g3⟩
  simp only at g2 g3
  show Ret (un (zh.mk (a : Int) T) sn (i : Int)) _
  unfold un
  dsimp only
  rw [uY]
  refine ⟨fun hc => ?_, fun hc => ?_⟩
  ·have hi : i < T.length := by simpa using hc
   have hN : T[i]? = some T[i] := List.getElem?_eq_getElem hi
   have hx : W[i]? = some W[i] := List.getElem?_eq_getElem (by omega)
   have hNl := h.nlen i _ hN
   have J4 : Ret (vL (zh.mk (a : Int) T) sn (i : Int) T[i]) (LRP (fun s' => (∃ i : Nat, s'.2 = (i : Int) ∧ i ≤ T.length ∧ s'.1.length = T.length ∧ ∀ (j : Nat) (y : List Int), W[j]? = some y → (s'.1[j]? = some true ↔ ∃ p s, p < i ∧ ∃ z, W[p]? = some z ∧ y = z ++ [s])) ∧ T.length - s'.2.toNat < T.length - ((i : Int)).toNat) fun t : Unit ⊕ Bool => t = .inl ()) := by
    unfold vL
    rw [qj]
    refine (z6x h hs ha hi hx hN g2 g3).mono ?_
    rintro (p | p) hp
    ·show Ret (uo (i : Int) p.1 p.2.1 p.2.2.1 p.2.2.2) _
     unfold uo
     rw [yq (by omega) (by omega), zU]
     exact ⟨⟨i + 1, rfl, hi, hp.1, hp.2⟩, by simp only; omega⟩
    ·exact hp.elim
   have hnb : (((T[i].Next.length : Nat) : Int) != (a : Int)) = false := by rw [hNl]; simp
   rw [zC hN, oB, uY]
   refine ⟨fun hp => ?_, fun hp => ?_⟩
   ·have hi0 : 0 < i := by simpa using hp
    have hst : sn[i]? = some true := by
     refine (g3 i _ hx).2 ?_
     rcases List.eq_nil_or_concat W[i] with e | ⟨w, s, e⟩
     ·have h0 := h.root (by omega)
      rw [e] at hx
      have := h.mem_at h0 hx
      omega
     ·rw [List.concat_eq_append] at e
      have hmem : w ++ [s] ∈ W := e ▸ List.getElem_mem (show i < W.length by omega)
      have hw := (h.clo w s hmem).1
      have hlt := z8w hs (uC hw) hx (by rw [e]; exact z1G _ _)
      exact ⟨_, s, hlt, w, uC hw, e⟩
    rw [zC hst, oB, Bool.not_true, cond_false, hnb, cond_false]
    exact J4
   ·rw [hnb, cond_false]
    exact J4
  ·rw [zU]
   exact rfl
 ·rintro _ rfl
  exact zU.2 rfl
end
theorem Qa {T : List z6} {W l : List (List Int)} (h : j7 a T W (fun y => y ∈ l)) (hlen : W.length ≤ 65537) (ha : a ≤ 100) (hwl : ∀ w ∈ W, w.length ≤ 256) (hpre : ∀ v ∈ W, ∀ j, v.take j ∈ W) (hleaf : ∀ w ∈ W, (!W.any (z0a w)) = true → w ∈ l) : ∀ (n k : Nat) (out : List (List Int)), W.length - k = n → k ≤ W.length → out.length ≤ k →
  qZ (yOf (fun (s : Int × List (List Int) × Int) x => wh (zh.mk (a : Int) T) s.1 s.2.1 s.2.2 x)) ((W.drop k).map (pl W)) (.next (0, out, (k : Int))) = some (.next (0, out ++ (W.drop k).filter (fun w => decide (w ∈ l)), (W.length : Int)), true)
 | 0, k, out, hn, hk, ho => by
  have : W.drop k = [] := List.drop_eq_nil_of_le (by omega)
  rw [this]
  have hk2 : k = W.length := by omega
  simp [qZ, hk2]
 | n + 1, k, out, hn, hk, ho => by
  have hlt : k < W.length := by omega
  have hx : W[k]? = some W[k] := List.getElem?_eq_getElem hlt
  have hd : W.drop k = W[k] :: W.drop (k + 1) := List.drop_eq_getElem_cons hlt
  have hmem : W[k] ∈ W := List.getElem_mem hlt
  obtain ⟨N, n1, n2, n3⟩ := z0A h hmem
  have hid : W.idxOf W[k] = k := KQ h.nod hx
  have hat : (pl W W[k]).at_ = (k : Int) := by unfold pl; rw [hid]
  have hen := h.en _ N _ n1 (uC hmem)
  have hlf := z3o h hmem hpre n1
  have hw := hwl _ hmem
  have hwe : (pl W W[k]).w_ = W[k] := rfl
  have e : wh (zh.mk (a : Int) T) 0 out (k : Int) (pl W W[k]) = some (.next (0, if W[k] ∈ l then out ++ [W[k]] else out, ((k + 1 : Nat) : Int))) := by
   have hk2 : w64 ((k : Int) + 1) = ((k + 1 : Nat) : Int) := by rw [yq (by omega) (by omega)]; omega
   have d1 : decide (((W[k].length : Nat) : Int) > 256) = false := by rw [decide_eq_false_iff_not]; omega
   have J3 : ∀ (b1 b2 b3 : Bool), ve 0 out (k : Int) (pl W W[k]) N b1 b2 b3 = some (.next (0, if W[k] ∈ l then out ++ [W[k]] else out, ((k + 1 : Nat) : Int))) := by
    intro b1 b2 b3
    unfold ve vV
    by_cases hm : W[k] ∈ l
    ·rw [hen.2 hm, cond_true, hwe, JE _ (by omega), oB, Wi, oB, gdT (by rw [List.length_singleton]; omega), hk2, if_pos hm]
    ·have hE : N.End = false := by
      cases hE : N.End with
      | false => rfl
      | true => exact absurd (hen.1 hE) hm
     rw [hE, cond_false, hk2, if_neg hm]
   unfold wh
   dsimp only
   rw [n2, oB, hat, bne_self_eq_false, cond_false, hwe, d1, cond_false, z3n (by omega), oB, hlf]
   by_cases hp : (!W.any (z0a W[k])) = true
   ·have hm := hleaf _ hmem hp
    rw [hp, cond_true, hen.2 hm, Bool.not_true, cond_false]
    exact J3 _ _ _
   ·have hb : (!W.any (z0a W[k])) = false := by simpa using hp
    rw [hb, cond_false]
    exact J3 _ _ _
  rw [hd]
  simp only [List.map_cons, qZ, yOf, e, oB, if_true]
  rw [Qa h hlen ha hwl hpre hleaf n (k + 1) _ (by omega) hlt (by split <;> (try rw [List.length_append, List.length_singleton]) <;> omega)]
  by_cases hm : W[k] ∈ l
  ·rw [if_pos hm, List.filter_cons, if_pos (decide_eq_true hm), List.append_assoc]
   rfl
  ·rw [if_neg hm, List.filter_cons, if_neg (by rw [decide_eq_false hm]; exact Bool.false_ne_true)]
section
variable {a : Nat} {l : List (List Int)} (hc : chE (a : Int) l = 0) (hw : (srt (yH l)).length ≤ 65537 ∧ ∀ w ∈ srt (yH l), w.length ≤ 256)
include hc hw
theorem z03 : j7 a (vu a l) (srt (yH l)) (fun y => y ∈ l) ∧ (srt (yH l)).length ≤ 65537 ∧ (∀ w ∈ srt (yH l), w.length ≤ 256) ∧ (∀ v ∈ srt (yH l), ∀ j, v.take j ∈ srt (yH l)) ∧ (1 ≤ a ∧ a ≤ 16) := by
 obtain ⟨q1, q2, q3, q4, q5, q6⟩ := uA hc
 obtain ⟨p2, p3⟩ := hw
 exact ⟨z2h q6, p2, p3, z1Y (fun x => by rw [yZ, u2]), by omega⟩
omit hw in
theorem z8v : kl l (a : Int) = some (zh.mk (a : Int) (vu a l), 0) := by
 obtain ⟨q1, q2, q3, q4, q5, q6⟩ := uA hc
 obtain ⟨b, hb, e1, wd, t1, t2, t3⟩ := z0z hc
 have hwl : ∀ w ∈ wd, w.length ≤ 10000 := fun w hww => by
  obtain ⟨v, h1, j, h2, rfl⟩ := (t2 w).1 hww
  have := q2 v h1
  rw [List.length_take]; omega
 have ho := z20 t1 (by omega) (by omega) hwl (fun x => by rw [t2, u2])
 have hbe : ze.mk (a : Int) b.nodes_ = b := by rw [← e1]
 rw [hbe] at ho
 unfold kl
 rw [qt, hc, oB, bne_self_eq_false, cond_false, hb, oB, ho, oB]
omit hw in
theorem z7w : ∀ w ∈ srt (yH l), (!(srt (yH l)).any (z0a w)) = true → w ∈ l := by
 intro w hm hlf
 have := z69 (l := l) (wd := srt (yH l)) (j5.1 hc).2.1 (fun x => by rw [yZ, u2])
 have h2 : w ∈ z6r l := by
  rw [← this, List.mem_filter]
  exact ⟨yZ.2 hm, hlf⟩
 exact (Jt.1 h2).1
theorem z2y : jG (zh.mk (a : Int) (vu a l)) = some (l, 0) := by
 obtain ⟨t, p2, p3, p4, p5⟩ := z03 hc hw
 have hs := km (yH l)
 have hnl := t.len
 unfold jG
 dsimp only
 have d1 : decide ((a : Int) < 1) = false := by rw [decide_eq_false_iff_not]; omega
 have d2 : decide ((a : Int) > 16) = false := by rw [decide_eq_false_iff_not]; omega
 have d3 : decide ((((vu a l).length : Nat) : Int) > 65537) = false := by rw [decide_eq_false_iff_not]; omega
 have hf := Qa t (by omega) (by omega) (fun w hww => by have := p3 w hww; omega) p4 (z7w hc) (srt (yH l)).length 0 [] (by omega) (Nat.zero_le _) (by simp)
 have z0 : ((0 : Nat) : Int) = 0 := rfl
 rw [List.drop_zero, List.nil_append, z0] at hf
 have hfl : (srt (yH l)).filter (fun w => decide (w ∈ l)) = l := by
  refine SW.unique (hs.filter _) (j5.1 hc).2.1 fun x => ?_
  rw [List.mem_filter, decide_eq_true_eq, yZ, u2]
  exact ⟨fun q => q.2, fun q => ⟨⟨x, q, x.length, Nat.le_refl _, by simp⟩, q⟩⟩
 rw [hfl] at hf
 rw [d1, cond_false, d2, cond_false, d3, cond_false, z2v t hs (by omega) p5, oB, Bool.not_true, cond_false]
 unfold vI
 rw [oB, z0e t (by omega) _ _ (by omega) (fun w hww => by have := p3 w hww; omega), Yc hs, hf, oB, oB]
 show vW (zh.mk (a : Int) (vu a l)) 0 l = _
 unfold vW
 dsimp only
 rw [qt, hc, oB, bne_self_eq_false, cond_false, z1J, oB]
theorem z2z : vA (zh.mk (a : Int) (vu a l)) = some (((z6r l).length : Int), 0) := by
 obtain ⟨t, p2, p3, p4, p5⟩ := z03 hc hw
 have hs := km (yH l)
 have hnl := t.len
 unfold vA
 rw [z2y hc hw, oB, bne_self_eq_false, cond_false]
 have hred := z69 (l := l) (wd := srt (yH l)) (j5.1 hc).2.1 (fun x => by rw [yZ, u2])
 rw [Yc hs] at hred
 have h := vq (step := fun s => xI (zh.mk (a : Int) (vu a l)) s.1 s.2) (fun i => ((((((srt (yH l)).take i).filter fun x => !(srt (yH l)).any (z0a x)).length : Nat) : Int), (i : Int))) (srt (yH l)).length (t := (((z6r l).length : Nat) : Int)) (by omega) (by
  intro i hi
  show xI (zh.mk (a : Int) (vu a l)) _ (i : Int) = _
  unfold xI
  dsimp only
  have hiT : i < (vu a l).length := by omega
  have hN : (vu a l)[i]? = some (vu a l)[i] := List.getElem?_eq_getElem hiT
  have hx : (srt (yH l))[i]? = some (srt (yH l))[i] := List.getElem?_eq_getElem hi
  have hmem : (srt (yH l))[i] ∈ srt (yH l) := List.getElem_mem hi
  have hq : decide ((i : Int) < (((vu a l).length : Nat) : Int)) = true := by rw [decide_eq_true_eq]; omega
  have hi2 : w64 ((i : Int) + 1) = ((i + 1 : Nat) : Int) := by rw [yq (by omega) (by omega)]; omega
  have hid : (srt (yH l)).idxOf (srt (yH l))[i] = i := KQ t.nod hx
  have hlf := z3o t hmem p4 (by rw [hid]; exact hN)
  have hNl := t.nlen i _ hN
  have hfl := List.length_filter_le (fun x => !(srt (yH l)).any (z0a x)) ((srt (yH l)).take i)
  rw [List.length_take] at hfl
  have htk : ((srt (yH l)).take (i + 1)).filter (fun x => !(srt (yH l)).any (z0a x)) = ((srt (yH l)).take i).filter (fun x => !(srt (yH l)).any (z0a x)) ++ (if (!(srt (yH l)).any (z0a (srt (yH l))[i])) = true then [(srt (yH l))[i]] else []) := by
   rw [List.take_add_one, hx, List.filter_append]
   congr 1
   rw [Option.toList_some, List.filter_cons, List.filter_nil]
  rw [hq, cond_true, zC hN, oB, z3n (by omega), oB, hlf, htk]
  unfold vX
  cases (!(srt (yH l)).any (z0a (srt (yH l))[i])) with
  | true =>
   rw [cond_true, if_pos rfl, hi2, List.length_append, List.length_singleton, yq (by omega) (by omega)]
   rfl
  | false =>
   rw [cond_false, if_neg Bool.false_ne_true, hi2, List.append_nil]) (by
  show xI (zh.mk (a : Int) (vu a l)) _ (((srt (yH l)).length : Nat) : Int) = _
  unfold xI
  dsimp only
  have hq : decide ((((srt (yH l)).length : Nat) : Int) < (((vu a l).length : Nat) : Int)) = false := by rw [decide_eq_false_iff_not]; omega
  rw [hq, cond_false, List.take_length, hred])
 have h0 : ((((((srt (yH l)).take 0).filter fun x => !(srt (yH l)).any (z0a x)).length : Nat) : Int), ((0 : Nat) : Int)) = ((0 : Int), (0 : Int)) := by simp
 rw [h0] at h
 rw [bdT h]
 rfl
end
theorem z8A {n : Nat} (f : Nat → α) (i : Nat) (x : α) : ((List.range n).map f).set i x = (List.range n).map fun t => if t = i then x else f t := by
 refine List.ext_getElem? fun t => ?_
 rw [List.getElem?_set, List.getElem?_map, List.getElem?_map, List.length_map, List.length_range]
 by_cases ht : t < n
 ·rw [List.getElem?_range ht]
  by_cases e : i = t
  ·rw [if_pos e, if_pos (by omega)]; simp [e]
  ·rw [if_neg e]; simp [show ¬ t = i from fun q => e q.symm]
 ·rw [List.getElem?_eq_none (by simpa using ht)]
  by_cases e : i = t
  ·rw [if_pos e, if_neg (by omega)]; rfl
  ·rw [if_neg e]; rfl
theorem z8f {n : Nat} (h : n < 4611686018427387904) : w64 ((n : Int) + 1) = ((n + 1 : Nat) : Int) := by rw [yq (by omega) (by omega)]; rfl
theorem z5I (hi : i < 256) : loop (fun s => yu (i : Int) s.1 s.2) ((List.replicate (256 : Int).toNat (0 : Int)), 0) = some (Xk i) := by
 have := vq (step := fun s => yu (i : Int) s.1 s.2) (fun k => ((List.range 256).map fun t => if t < k then ((i / 2 ^ (7 - t) % 2 : Nat) : Int) else 0, (k : Int))) 8 (t := Xk i) (by omega) (fun k hk => ?_) ?_
 ·rw [show ((List.replicate (256 : Int).toNat (0 : Int)), (0 : Int)) = ((List.range 256).map fun t => if t < 0 then ((i / 2 ^ (7 - t) % 2 : Nat) : Int) else 0, ((0 : Nat) : Int)) from Prod.ext (by simp [List.map_const']) rfl]
  exact this
 ·show yu (i : Int) _ (k : Int) = _
  have e1 : w64 (7 - (k : Int)) = ((7 - k : Nat) : Int) := by rw [yq (by omega) (by omega)]; omega
  have e2 : min ((7 - k : Nat) : Int).toNat 64 = 7 - k := by rw [Int.toNat_natCast]; omega
  have e3 : Int.tmod (Int.fdiv (i : Int) (2 ^ (7 - k))) 2 = ((i / 2 ^ (7 - k) % 2 : Nat) : Int) := by
   have : (2 : Int) ^ (7 - k) = ((2 ^ (7 - k) : Nat) : Int) := by rw [Int.natCast_pow]; rfl
   rw [this, Int.fdiv_eq_ediv_of_nonneg _ (Int.natCast_nonneg _), ← Int.natCast_ediv]
   rfl
  unfold yu
  rw [decide_eq_true (by omega), cond_true, e1, gdT (by omega), gdT (by decide), Up, bdT (u := 0) (by rw [List.getElem?_map, List.getElem?_range (by omega)]; simp), e2, e3, z8f (by omega), Int.toNat_natCast, z8A]
  refine congrArg some (congrArg LR.next (Prod.ext ?_ rfl))
  show List.map _ _ = List.map _ _
  refine List.map_congr_left fun t ht => ?_
  by_cases q : t = k
  ·rw [if_pos q, if_pos (by omega), q]
  ·rw [if_neg q]
   by_cases q2 : t < k
   ·rw [if_pos q2, if_pos (by omega)]
   ·rw [if_neg q2, if_neg (by omega)]
 ·rfl
theorem z3i : loop (fun s => yg s.1 s.2) (([] : List (List Int)), 0) = some uM := by
 refine vq (step := fun s => yg s.1 s.2) (fun i => ((List.range i).map Xk, (i : Int))) 256 (by omega) (fun i hi => ?_) rfl
 show yg _ (i : Int) = _
 unfold yg
 rw [decide_eq_true (by omega), cond_true, gdT (by decide), bdT (z5I hi)]
 unfold wR wS
 rw [gdT (by simp; omega), z8f (by omega), List.range_succ, List.map_append]
 rfl
theorem z1U : uU uM 2 = some (65536, 0) := by
 unfold uU
 rw [qt, X3, oB, bne_self_eq_false, cond_false, Vo _ (by rw [Xy]; omega), z13 (by rw [Xx]; omega), Xx]
 rfl
theorem Jk : ym uM 2 = some ([], 3) := by
 obtain ⟨b, hb, e1, wd, t1, t2, t3⟩ := z0z (a := 2) X3
 have hb : qQ uM 2 = some b := hb
 have hm := z3h t1.nod fun x hx => (t2 x).2 hx
 have hnl := t1.len
 unfold ym
 rw [qt, X3, oB, bne_self_eq_false, cond_false, bdT hb, decide_eq_true (by omega)]
 rfl
def z2k : List (List Int) := (List.range 257).map fun j => (Xk 0).take j
theorem z2Y : wI z2k = 32896 := by
 have h : z2k.map List.length = List.range 257 := by
  unfold z2k
  rw [List.map_map]
  refine (List.map_congr_left fun j hj => ?_).trans (List.map_id _)
  have := List.mem_range.1 hj
  show ((Xk 0).take j).length = j
  rw [List.length_take, vm]
  omega
 unfold wI
 rw [h]
 have h2 : (List.range 257).sum = 32896 := by kernel_rfl
 exact h2
theorem z1Z : z2k.Nodup := by
 unfold z2k List.Nodup
 rw [List.pairwise_map]
 refine List.Pairwise.imp_of_mem (fun {a b} ha hb hab e => ?_) (List.pairwise_lt_range (n := 257))
 have ha := List.mem_range.1 ha
 have hb := List.mem_range.1 hb
 have := congrArg List.length e
 rw [List.length_take, List.length_take, vm] at this
 omega
theorem z4Z : x ∈ z2k ↔ ∃ w ∈ [Xk 0], ∃ j, j ≤ w.length ∧ x = w.take j := by
 unfold z2k
 rw [List.mem_map]
 constructor
 ·rintro ⟨j, hj, rfl⟩
  have := List.mem_range.1 hj
  exact ⟨Xk 0, by simp, j, by rw [vm]; omega, rfl⟩
 ·rintro ⟨w, hw, j, hj, rfl⟩
  obtain rfl := List.mem_singleton.1 hw
  rw [vm] at hj
  exact ⟨j, List.mem_range.2 (by omega), rfl⟩
theorem z2q : chE 2 [Xk 0] = 0 := by
 refine j5.2 ⟨Zz.2 ⟨by omega, by simp, fun w hw => ?_⟩, by unfold SW; exact List.pairwise_singleton _ _, by simp [wI, vm]⟩
 rw [List.mem_singleton.1 hw]
 exact ⟨by rw [vm]; omega, z0P⟩
theorem Kw : ∃ l, ym [Xk 0] 2 = some (l, 0) ∧ l.length = 257 := by
 obtain ⟨b, hb, e1, wd, t1, t2, t3⟩ := z0z (a := 2) z2q
 have hb : qQ [Xk 0] 2 = some b := hb
 have hnl := t1.len
 have hp : ∀ x, x ∈ wd ↔ x ∈ z2k := fun x => by rw [t2, z4Z]
 have h1 := WJ t1.nod (L := z2k) fun x hx => (hp x).1 hx
 have h2 := WJ z1Z (L := srt wd) fun x hx => yZ.2 ((hp x).2 hx)
 have h3 := WJ (km wd).nodup (L := z2k) fun x hx => (hp x).1 (yZ.1 hx)
 have hl : z2k.length = 257 := by simp [z2k]
 rw [hl] at h1 h2 h3
 rw [z2Y] at h1 h2 h3
 have hwl : ∀ w ∈ wd, w.length ≤ 256 := fun w hw => by
  obtain ⟨v, hv, j, hj, rfl⟩ := (t2 w).1 hw
  obtain rfl := List.mem_singleton.1 hv
  rw [List.length_take, vm]
  omega
 refine ⟨srt wd, ?_, by omega⟩
 unfold ym Zi
 rw [qt, z2q, oB, bne_self_eq_false, cond_false, bdT hb, decide_eq_false (by omega), cond_false, bdT (z0N t1 (by omega) (by omega) (fun w hww => by have := hwl w hww; omega)), decide_eq_false (by omega), cond_false, Vo _ (by omega), z13 (by omega), oB, decide_eq_false (by omega)]
 rfl
theorem z2e : vA (zh.mk 2 (vu 2 uM)) = some (256, 0) := by
 have hn := z5c (km (yH uM)).nodup fun x hx => u2.1 (yZ.1 hx)
 have := z2z (a := 2) X3 ⟨by omega, fun w hw => by
  obtain ⟨v, hv, j, hj, rfl⟩ := u2.1 (yZ.1 hw)
  obtain ⟨i, _, rfl⟩ := Zy hv
  rw [List.length_take, vm]
  omega⟩
 rw [z5b, Xy] at this
 exact this
theorem z9A {L : List (List Int)}  {T : zh} (s1 : uU L 2 = some (65536, 0)) (s2 : wi L [[1]] 2 = some ([], 3)) (s3 : wH L [[1]] 2 = some ([], 3)) (s4 : idx L 0 = some w) {lp : List (List Int)} (s5 : ym [w] 2 = some (lp, 0)) (s6 : lp.length = 257) (s7 : kl L 2 = some (T, 0)) (s8 : vA T = some (256, 0)) (s9 : ym L 2 = some ([], 3)) : x4 L = some true := by
 have ls : ∀ l, y8 l = some l := fun _ => rfl
 obtain ⟨lo, o1, o2⟩ := z4p
 obtain ⟨ld, d1, d2⟩ := z2b
 unfold x4
 rw [bdT s1, bdT (ls _), bdT s2, bdT (ls _), bdT s3, bdT s4, bdT (ls _), bdT s5, bdT s7, bdT s8]
 simp only [bne_self_eq_false, cond_false, s6]
 rw [show (((257 : Nat) : Int) != 257) = false from rfl, cond_false, bdT s9, bdT o1, bdT z4q, bdT d1, bdT z3E]
 have q1 : (((lo.length : Nat) : Int) == 257) = true := by rw [o2]; rfl
 have q2 : (((ld.length : Nat) : Int) == 4096) = true := by rw [d2]; rfl
 dsimp only
 rw [show ((3 : Int) == 3) = true from rfl, show ((0 : Int) == 0) = true from rfl, q1, q2]
 rw [cond_true, cond_true, cond_true, cond_true, cond_true, cond_true, cond_true]
 rw [bdT (VG 16 1), cond_true, bdT (VG 17 (-1)), cond_true, bdT (VG 0 300), cond_true, bdT Yj]
theorem z8h {al L : List (List Int)} (h1 : y4 al 16 = some 0) (h2 : y4 (al ++ [[0, 0, 0, 0]]) 16 = some 3) (h3 : al.length = 4096) (h4 : yi 16 3 = some (al, 0)) (h5 : wi al [[]] 16 = some ([], 3)) (h6 : loop (fun s => yg s.1 s.2) (([] : List (List Int)), 0) = some L) (h7 : x4 L = some true) : v7 = some true := by
 have ls : ∀ l, y8 l = some l := fun _ => rfl
 unfold v7
 rw [bdT h4, bdT (ls _), bdT h5, bdT z6u]
 simp only [bne_self_eq_false, cond_false, h3]
 rw [show (((4096 : Nat) : Int) != 4096) = false from rfl, cond_false, show (((([] : List (List Int)).length : Nat) : Int) != 0) = false from rfl, cond_false, bdT h1, bne_self_eq_false, cond_false, gdT (by simp), gdT (by simp), bdT h2, bne_self_eq_false, cond_false, bdT h6]
 exact h7
theorem z27 : idx uM 0 = some (Xk 0) := by
 show uM[0]? = _
 unfold uM
 rw [List.getElem?_map, List.getElem?_range (by omega)]
 rfl
theorem z5j : v7 = some true := by
 obtain ⟨lp, p1, p2⟩ := Kw
 have hof : kl uM 2 = some (zh.mk 2 (vu 2 uM), 0) := z8v (a := 2) X3
 exact z8h z3O (z2g _) UC z3F z2u z3i (z9A z1U z26 z0F z27 p1 p2 hof z2e Jk)
def zbc (w : World) : zi := fun b o => zY w.heap b o
variable {P : Program}{v : Value}
section
open Go Go.ChangeShapes Go.WideShapes Go.ChangeAt Go.RowKit
theorem z2Z {P : Program} {H : Type} {enc : TypeId × Value → H} {f : Func} {s : ChangeSpec} {apart fresh handsOn again : Bool} {W W' : World} {args : Array Value} {v : Value} {ds : List (DataW H)} {pa : List MemPlace}
  (hvar : s.vars = []) (hvars2 : (s.fn H (ds ++ [])).vars = []) (hW : DataW.Whole enc P f.params.toList s.vars apart W args.toList ds [] (pa ++ [])) (hb : Below W.heap.size W W')
  (hres : ∀ (b : Nat) (sp : Nat → Bool) (hd : Bool), DataW.TrodAll enc P W' b sp hd f.resultTypes.toList (v.resultList f.resultTypes.size) (s.fn H (ds ++ [])).results [])
  (hargs : ∀ sp : Nat → Bool, (∀ p ∈ pa ++ [], sp p.block = true) → DataW.TrodAll enc P W' 0 sp true f.params.toList args.toList (s.fn H (ds ++ [])).args pa)
  (hok : ∀ (j : Nat) (t : TypeId) (r : Value), f.resultTypes[j]? = some t → (v.resultList f.resultTypes.size)[j]? = some r → Value.okWide P W' .any 0 t r) :
  s.post enc P f apart fresh handsOn again W args v W' := by
 have hlt : ∀ p ∈ pa ++ [], p.block < W.heap.size := fun p hp => by simpa using hW.lt p hp
 have hvr : ∀ sp : Nat → Bool, DataW.TrodVars enc P W' sp s.vars (s.fn H (ds ++ [])).vars [] := fun sp => by rw [hvar, hvars2]; rfl
 refine ⟨ds, [], pa ++ [], [], pa, [], hW, hres _ _ _, hargs _ (fun p hp => by simpa using hlt p hp), hvr _, World.keptBut_mono (fun _ q => q.elim) (hb.frame fun _ => False), fun _ => ?_⟩
 have ⟨_, _, _, _, _, hz, hn⟩ := hW
 refine ⟨hok, _, _, ([] ++ pa) ++ [], ⟨[] ++ pa, [], trodAll_append (hargs _ (fun _ _ => rfl)) (hres _ _ _), hvr _, rfl, ?_, ?_⟩, ?_⟩
 ·intro b off hp
  have hp' : MemPlace.cell b off ∈ pa ++ [] := by simpa using hp
  rw [hb.frozen (p := ⟨b, off, none⟩) (hlt _ hp')]
  exact hz b off hp'
 ·intro ha
  simpa using hn ha
 ·intro p hp _
  simpa using hp
end
theorem z4F {α ρ : Type} {enc : α → List A} {encR : ρ → A} {F : α → Option ρ} {gives : List Bool} {inj : ∀ x y, enc x = enc y → x = y} (h : (spF k enc encR F gives inj).Ok P) {x : α} {r : ρ} (hr : F x = some r) : Yv P k (enc x) (encR r) := by
 have := h x ⟨r, hr⟩
 simpa only [spF, hr] using this
section
variable {P : Program} {w : World} {r : Reach} {base t : Nat} {v : Value}
theorem z5o {S : zi} {h : Array Obj}  {F : List Nat} (q : Has S h (.atom (.bool true)) v F) : v = .bool true := by
 rcases q with ⟨q, _⟩ | ⟨cs, q, _, rfl⟩
 ·rw [(zr.1 q).1]
 ·simp [zy, Rep] at q
  obtain ⟨⟨rfl, _⟩, _⟩ := q
  rfl
end
open Go.Proofs
end Go.Own
namespace Go.Proofs.Ytmedkleidpbgpaa.triesKnown
open Go Go.ChangeShapes Go.WideShapes Go.ChangeAt Go.RowKit
theorem own : ownKnob Try.prog.godebug = none := by kernel_rfl
section
variable {H : Type} {enc : TypeId × Value → H} {W : World}
set_option maxRecDepth 100000 in
theorem zaU {base : Nat} :
  Calls Try.prog 3 #[] W fun e w' => e = .returned (.bool true) ∧ Go.Own.ZW (fun k => W.heap.size ≤ k) W w' := by
 have q := (Go.Own.z4F (Go.Own.z2d Go.Own.z9g List.mem_cons_self : Go.Own.uf.Ok Try.prog) (x := ()) (r := true) (Go.Own.z5j)).2 (Go.Own.zbc W) W [] [] ⟨fun _ _ _ h => h, fun _ _ e => (by cases e), fun _ _ e => (by cases e)⟩ ?_ (by simp)
 ·refine Calls.mono q ?_
  rintro e w' ⟨v, S', F', rfl, hk, _, _, _, hr, _, _⟩
  refine ⟨?_, hk.mono (by rintro k (h | h) <;> simp_all)⟩
  rw [Go.Own.z5o hr]
 ·refine Go.Own.Yo ?_
  exact trivial
end
set_option maxRecDepth 100000 in
theorem z8R (os : Os) (started : os.Started) (H : Type) (enc : TypeId × Value → H) :
  ReturnsInHanded {} Try.checked os 3 .any (Rows.triesKnownSpec.pre6 enc Try.prog Try.f3 Rows.triesKnownRow.domain false) (Rows.triesKnownSpec.post enc Try.prog Try.f3 false true false false) := by
 refine returnsInHanded_of_change (C := Try.checked) own started (by kernel_rfl) Try.func3
  (ChangeSpec.witness6 (enc := enc) (C := Try.checked) false ⟨#[], #[], []⟩ 8 (by kernel_rfl) (by kernel_rfl) (by kernel_rfl) (by kernel_rfl)) ?_
 intro W base args ds gs before hval0 hW hcnd _
 have hval : ∀ (j : Nat) t v, Try.f3.params[j]? = some t → args[j]? = some v → Value.okWide Try.prog W .any base t v := hval0
 have hW' := hW
 obtain ⟨p, q, hA0, hV, rfl, hfz, hnd⟩ := hW
 have hA : DataW.TrodAll enc Try.prog W 0 (fun _ => true) true Try.f3.params.toList args.toList ds p := hA0
 rw [Try.params3] at hA hval
 obtain ⟨rfl, rfl, rfl⟩ := trodAll_none hA
 obtain ⟨rfl, rfl⟩ := trodVars_none hV
 clear hA0 hval0
 refine (zaU (base := base)).mono fun e W' ⟨he, hk⟩ => ?_
 subst he
 have hb : Below W.heap.size W W' := ⟨hk.os, hk.tape, hk.output, hk.size, fun k q => hk.block k (by omega)⟩
 have hlt : ∀ x ∈ ([] : List MemPlace), x.block < W.heap.size := fun x hx => by cases hx
 refine ⟨_, rfl, Go.Own.z2Z rfl rfl hW' hb (fun _ _ _ => trodAll_cons_mk (shut_bool Try.underlying4 _) trodAll_mk0) (fun sp hsp => ?_) (ok_one (by kernel_rfl) rfl (okWide_bool_mk Try.underlying4 _))⟩
 rw [Try.params3]
 exact trodAll_mk0
theorem ZS : Rows.triesKnownRow.holds Try.pinned (OpenSpec.ofChange Rows.triesKnownSpec) :=
 OpenClaim.holds_of_wide 3 Try.f3 rfl rfl rfl rfl rfl rfl rfl ⟨rfl, rfl, rfl, rfl, rfl⟩ rfl rfl rfl rfl rfl (by kernel_rfl) Try.func3 (by kernel_rfl)
  (of_decide_eq_true (by kernel_rfl)) (by unfold Func.isWrapper; first | (rw [if_pos (by decide +kernel)]; kernel_rfl) | (rw [if_neg (by decide +kernel)]; exact ⟨rfl, rfl⟩))
  (fun os started H enc _ => z8R os started H enc)
theorem proved : Rows.TriesKnownSaid :=
 ZS
#print axioms proved
end Go.Proofs.Ytmedkleidpbgpaa.triesKnown
