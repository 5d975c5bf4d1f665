/- -/
import Derived.Test.YtcldlioffanjaaaGreatDoorPartG
import Derived.Test.YtcldlioffanjaaaGreatDoorPartE
import Derived.Test.YtcldlioffanjaaaGreatDoorPartB
import Derived.OpenShut
import Derived.ChangeShapes
import Derived.Test.YtcldlioffanjaaaGreatDoorPartC
import Derived.WalkKit
import Derived.ProofKit
import Derived.Carry
import Derived.Test.YtcldlioffanjaaaGreatDoorRows
import Derived.Test.YtcldlioffanjaaaGreatDoorChecked
import Derived.LaidMore
import Derived.Stop.Joined
import Derived.SevenTiedAt
import Derived.Test.YtcldlioffanjaaaGreatDoorCards
import Derived.Test.YtcldlioffanjaaaGreatDoorTie
import Derived.Stop.LaidErr
import Derived.MakeChecks
set_option linter.unusedVariables false
set_option linter.unusedSimpArgs false
namespace Go.Own
def aLt (a b : ze) : Prop := a.Kind < b.Kind ∨ a.Kind = b.Kind ∧ (a.Label < b.Label ∨ a.Label = b.Label ∧ a.To < b.To)
instance (a b : ze) : Decidable (aLt a b) := by unfold aLt; infer_instance
def ac (a b : ze) : Int := if aLt a b then -1 else if aLt b a then 1 else 0
theorem z5d {a b : ze} (h : ¬aLt b a) : aLt a b ∨ a = b := by
 obtain ⟨a1, a2, a3⟩ := a
 obtain ⟨b1, b2, b3⟩ := b
 unfold aLt at h ⊢
 simp only [ze.mk.injEq] at h ⊢
 omega
theorem JH {a b c : ze} (h1 : aLt a b) (h2 : aLt b c) : aLt a c := by
 unfold aLt at *
 omega
theorem z99 {a : ze} : ¬aLt a a := by
 unfold aLt
 omega
def sg (a b : Int) : Int := if a < b then -1 else if b < a then 1 else 0
theorem z4R (a b : Int) : uk a b = some (sg a b) := by
 unfold uk vL sg
 rw [bne_self_eq_false, bne_self_eq_false, oB, oB, cond_false, cond_false]
 by_cases h : a < b
 ·rw [decide_eq_true h, if_pos h]; rfl
 ·rw [decide_eq_false h, if_neg h, cond_false]
  by_cases h2 : b < a
  ·rw [decide_eq_true (show a > b from h2), if_pos h2]; rfl
  ·rw [decide_eq_false (show ¬a > b from h2), if_neg h2]; rfl
theorem z8S (a b : Int) : uj a b = some (sg a b) := by
 unfold uj qP sg
 rw [bne_self_eq_false, bne_self_eq_false, oB, oB, cond_false, cond_false]
 by_cases h : a < b
 ·rw [decide_eq_true h, if_pos h]; rfl
 ·rw [decide_eq_false h, if_neg h, cond_false]
  by_cases h2 : b < a
  ·rw [decide_eq_true (show a > b from h2), if_pos h2]; rfl
  ·rw [decide_eq_false (show ¬a > b from h2), if_neg h2]; rfl
theorem zad (a b c : Int) : YM [a, b, c] = some (if a ≠ 0 then a else if b ≠ 0 then b else c) := by
 unfold YM
 rw [bdT (XY [a, b, c] (by simp) (fun _ v => if v ≠ 0 then some v else none) ?_ ?_)]
 ·simp only [Yb]
  by_cases h1 : a ≠ 0
  ·rw [if_pos h1, if_pos h1]; rfl
  ·rw [if_neg h1, if_neg h1]
   by_cases h2 : b ≠ 0
   ·rw [if_pos h2, if_pos h2]; rfl
   ·rw [if_neg h2, if_neg h2]
    by_cases h3 : c ≠ 0
    ·rw [if_pos h3]; rfl
    ·rw [if_neg h3, show c = 0 by omega]; rfl
 ·intro i v hv
  have hi := yp hv
  unfold k8
  rw [decide_eq_true (by omega), cond_true, xu hv, oB]
  by_cases h : v ≠ 0
  ·rw [show (v != 0) = true from bne_iff_ne.2 h, cond_true, if_pos h]; rfl
  ·rw [show v = 0 by omega]; rfl
 ·unfold k8
  rw [decide_eq_false (by omega), cond_false]
theorem z2F (a b : ze) : xU a b = some (ac a b) := by
 unfold xU
 rw [z8S, oB, z4R, oB, z4R, oB, zad, oB]
 congr 1
 unfold ac aLt sg
 repeat' split
 all_goals omega
theorem z72 {a b : ze} : ac a b < 0 ↔ aLt a b := by
 unfold ac
 split
 ·rename_i h; exact ⟨fun _ => h, fun _ => by omega⟩
 ·rename_i h
  split <;> exact ⟨fun q => by omega, fun q => absurd q h⟩
theorem zaO (l : List ze) : SOk ac l := by
 refine ⟨fun x _ => ?_, fun x _ y _ z _ h1 h2 => ?_, fun x _ y _ h1 h2 => ?_⟩
 ·rw [z72]; exact z99
 ·rw [z72] at *; exact JH h1 h2
 ·rw [z72] at h1 h2
  rcases z5d h2 with h | h
  ·exact absurd h h1
  ·exact h
theorem z3C (l : List ze) (h : l.length ≤ 4294967296) : ∃ s, z3D (fun x y => xU x y) l = some s ∧ s.Perm l ∧ s.Pairwise (fun a b => ¬aLt b a) := by
 have e : (fun x y => (xU x y).getD 0) = ac := by
  funext x y
  rw [z2F]
  rfl
 refine ⟨JT ac l, ?_, Zo _ _, ?_⟩
 ·unfold z3D
  rw [gdT ⟨h, fun x _ y _ => by show (xU x y).isSome = true; rw [z2F]; rfl⟩, gdT (by rw [e]; exact zaO l), e]
 ·have := W0 (zaO l) (l := l) (fun y hy => hy)
  exact this.imp fun {a b} h q => h (z72.2 q)
theorem z0g (a b : ze) : ((a.Kind == b.Kind) && ((a.Label == b.Label) && ((a.To == b.To) && true))) = true ↔ a = b := by
 obtain ⟨a1, a2, a3⟩ := a
 obtain ⟨b1, b2, b3⟩ := b
 simp
theorem W6 {α : Type} {l : List α} {n : Nat} {y : α} : y ∈ l.take n ↔ ∃ i, i < n ∧ l[i]? = some y := by
 constructor
 ·intro h
  obtain ⟨i, hi⟩ := List.mem_iff_getElem?.1 h
  have hl := yp hi
  rw [List.length_take] at hl
  rw [List.getElem?_take_of_lt (by omega)] at hi
  exact ⟨i, by omega, hi⟩
 ·rintro ⟨i, h1, h2⟩
  exact List.mem_iff_getElem?.2 ⟨i, by rw [List.getElem?_take_of_lt h1]; exact h2⟩
theorem z6e {s : List ze} (h : s.Pairwise (fun a b => ¬aLt b a)) {i j : Nat} {a b : ze} (ha : s[i]? = some a) (hb : s[j]? = some b) (hij : i < j) : aLt a b ∨ a = b := by
 have := (List.pairwise_iff_getElem.1 h) i j (yp ha) (yp hb) hij
 rw [(List.getElem?_eq_some_iff.1 ha).2, (List.getElem?_eq_some_iff.1 hb).2] at this
 exact z5d this
theorem z3W {l : List ze} {a : ze} (h : l.Pairwise aLt) (ha : ∀ y ∈ l, aLt y a) : (l ++ [a]).Pairwise aLt :=
 List.pairwise_append.2 ⟨h, List.pairwise_singleton _ _, fun y hy z hz => by rw [List.mem_singleton.1 hz]; exact ha y hy⟩
def K1 (s t : List ze) : Prop := t.Pairwise aLt ∧ ∀ y, y ∈ t ↔ y ∈ s
theorem z1n {s : List ze} (hq : s.Pairwise (fun a b => ¬aLt b a)) (hl : s.length ≤ 4294967296) {k : Nat} (h1 : 1 ≤ k) (hk : k < s.length) (hd : s[k]? = s[k - 1]?) (hs : (s.take k).Pairwise aLt) :
  Ret (Option.bind (loop (fun q => zX (k : Int) q.1 q.2.1 q.2.2) (s, (k : Int), 1)) fun t => zZ t.1 t.2) fun r => ∃ t, r = .done (.inr t) ∧ K1 s t := by
 rw [z2A]
 refine Ret.mono (X3 (fun q => ∃ kk k2 : Nat, q.2.1 = (kk : Int) ∧ q.2.2 = (k2 : Int) ∧ 1 ≤ k2 ∧ k + k2 ≤ s.length ∧ kk < k + k2 ∧ q.1.length = s.length ∧ (∀ i, kk ≤ i → q.1[i]? = s[i]?) ∧ (q.1.take kk).Pairwise aLt ∧ ∀ x, x ∈ q.1.take kk ↔ x ∈ s.take (k + k2)) (fun q => s.length - q.2.2.toNat) (R := fun t => ∃ kk : Nat, t.2 = (kk : Int) ∧ kk ≤ s.length ∧ t.1.length = s.length ∧ K1 s (t.1.take kk)) ?_ ?_ ?_) ?_
 ·refine ⟨k, 1, rfl, rfl, Nat.le_refl _, hk, by omega, rfl, fun _ _ => rfl, hs, fun x => ?_⟩
  rw [W6, W6]
  constructor
  ·rintro ⟨i, h2, h3⟩; exact ⟨i, by omega, h3⟩
  ·rintro ⟨i, h2, h3⟩
   rcases Nat.lt_or_ge i k with h | h
   ·exact ⟨i, h, h3⟩
   ·have : i = k := by omega
    subst this
    exact ⟨i - 1, by omega, by rw [← hd]; exact h3⟩
 ·show s.length - _ < _
  omega
 ·rintro ⟨S, a, b⟩ ⟨kk, k2, rfl, rfl, g1, g2, g3, g4, g5, g6, g7⟩
  simp only at g4 g5 g6 g7
  show Ret (zX (k : Int) S (kk : Int) (k2 : Int)) _
  unfold zX
  rw [z8p]
  refine ⟨fun hc => ?_, fun hc => ?_⟩
  ·have hlt : k2 < s.length - k := by rw [g4] at hc; simpa using hc
   have e1 : s[k + k2]? = some s[k + k2] := List.getElem?_eq_getElem (by omega)
   have e2 : s[k + k2 - 1]? = some s[k + k2 - 1] := List.getElem?_eq_getElem (by omega)
   have f1 : idx S ((k : Int) + (k2 : Int)) = some s[k + k2] := by
    rw [← Int.natCast_add, z1Y, g5 _ (by omega), e1]
   have f2 : idx S ((k : Int) + w64 ((k2 : Int) - 1)) = some s[k + k2 - 1] := by
    rw [qe (by omega) (by omega), show (k : Int) + ((k2 : Int) - 1) = ((k + k2 - 1 : Nat) : Int) by omega, z1Y, g5 _ (by omega), e2]
   rw [gdT (by omega), f1, oB, gdT (by rw [qe (by omega) (by omega)]; omega), f2, oB]
   have hk2 : w64 ((k2 : Int) + 1) = ((k2 + 1 : Nat) : Int) := by rw [qe (by omega) (by omega)]; omega
   generalize s[k + k2] = y at e1 f1
   generalize s[k + k2 - 1] = z at e2
   by_cases he : y = z
   ·rw [(z0g y z).2 he, Bool.not_true, cond_false]
    unfold zY
    rw [hk2, wi]
    refine ⟨⟨kk, k2 + 1, rfl, rfl, by omega, by omega, by omega, g4, g5, g6, fun x => ?_⟩, by simp only [Int.toNat_natCast]; omega⟩
    rw [g7, W6, W6]
    constructor
    ·rintro ⟨i, h2, h3⟩; exact ⟨i, by omega, h3⟩
    ·rintro ⟨i, h2, h3⟩
     rcases Nat.lt_or_ge i (k + k2) with h | h
     ·exact ⟨i, h, h3⟩
     ·have : i = k + k2 := by omega
      subst this
      exact ⟨k + k2 - 1, by omega, by rw [e2, ← he, ← e1]; exact h3⟩
   ·rw [Bool.eq_false_iff.2 (fun h => he ((z0g y z).1 h)), Bool.not_false, cond_true, gdT (by omega), oB]
    have e3 : idx S (kk : Int) = some s[kk] := by rw [z1Y, g5 _ (Nat.le_refl _), List.getElem?_eq_getElem (by omega)]
    rw [e3, oB]
    unfold zY
    rw [hk2, qe (x := (kk : Int) + 1) (by omega) (by omega), wi]
    have hset : (S.set ((kk : Int).toNat) y).take (kk + 1) = S.take kk ++ [y] := by
     rw [Int.toNat_natCast, List.take_add_one, List.take_set_of_le (Nat.le_refl _), List.getElem?_set_self (by omega)]
     rfl
    refine ⟨⟨kk + 1, k2 + 1, rfl, rfl, by omega, by omega, by omega, by simp [g4], fun i hi => ?_, ?_, fun x => ?_⟩, by simp only [Int.toNat_natCast]; omega⟩
    ·simp only
     rw [List.getElem?_set_ne (by omega), g5 _ (by omega)]
    ·simp only
     rw [hset]
     refine z3W g6 fun w hw => ?_
     obtain ⟨i, h2, h3⟩ := W6.1 ((g7 w).1 hw)
     have hlast : aLt z y := by
      rcases z6e hq e2 e1 (by omega) with q | q
      ·exact q
      ·exact absurd q.symm he
     rcases Nat.lt_or_ge i (k + k2 - 1) with q0 | q0
     ·rcases z6e hq h3 e2 q0 with q | q
      ·exact JH q hlast
      ·rw [q]; exact hlast
     ·rw [show i = k + k2 - 1 by omega, e2] at h3
      cases h3
      exact hlast
    ·simp only
     rw [hset, List.mem_append, g7, W6, W6]
     constructor
     ·rintro (⟨i, h2, h3⟩ | h)
      ·exact ⟨i, by omega, h3⟩
      ·simp at h; subst h; exact ⟨k + k2, by omega, e1⟩
     ·rintro ⟨i, h2, h3⟩
      rcases Nat.lt_or_ge i (k + k2) with h | h
      ·exact .inl ⟨i, h, h3⟩
      ·have : i = k + k2 := by omega
       subst this
       rw [e1] at h3
       exact .inr (by simpa using h3.symm)
  ·have hge : s.length - k ≤ k2 := by rw [g4] at hc; simpa using hc
   have hkk : k + k2 = s.length := by omega
   rw [wi]
   refine ⟨kk, rfl, by omega, g4, g6, fun x => ?_⟩
   rw [g7, hkk, List.take_length]
 ·rintro ⟨S, a⟩ ⟨kk, rfl, h1, h2, h3⟩
  simp only at h2 h3
  show Ret (zZ S (kk : Int)) _
  unfold zZ
  have hlen : (S.take (kk : Int).toNat ++ List.replicate (S.length - (kk : Int).toNat) (ze.mk 0 0 0)).length = S.length := by simp [List.length_take]; omega
  rw [gdT (by omega), gdT (by omega), gdT (by rw [hlen]; omega), wi]
  refine ⟨_, rfl, ?_⟩
  rw [Int.toNat_natCast, List.take_left' (by rw [List.length_take]; omega)]
  exact h3
theorem z2a {s : List ze} (hq : s.Pairwise (fun a b => ¬aLt b a)) (hl : s.length ≤ 4294967296) : ∃ t, ym s = some t ∧ K1 s t := by
 unfold ym
 by_cases h2 : s.length < 2
 ·rw [decide_eq_true (by omega), cond_true]
  refine ⟨s, rfl, ?_, fun _ => Iff.rfl⟩
  match s, h2 with
  | [], _ => exact List.Pairwise.nil
  | [x], _ => exact List.pairwise_singleton _ _
 ·rw [decide_eq_false (by omega), cond_false]
  have : Ret (loop (fun z => ya s z) 1) (fun t : Unit ⊕ List ze => match t with | .inl _ => s.Pairwise aLt | .inr p => K1 s p) := by
   refine X3 (fun q : Int => ∃ j : Nat, q = (j : Int) ∧ 1 ≤ j ∧ j ≤ s.length ∧ (s.take j).Pairwise aLt) (fun q => s.length - q.toNat) ⟨1, rfl, Nat.le_refl _, by omega, ?_⟩ (by show s.length - _ < _; omega) ?_
   ·match s, h2 with
    | [], h2 => simp at h2
    | x :: l, _ => exact List.pairwise_singleton _ _
   ·rintro _ ⟨j, rfl, g1, g2, g3⟩
    unfold ya
    by_cases hj : j < s.length
    ·have e1 : s[j]? = some s[j] := List.getElem?_eq_getElem hj
     have e2 : s[j - 1]? = some s[j - 1] := List.getElem?_eq_getElem (by omega)
     rw [decide_eq_true (by omega), cond_true, qe (x := (j : Int) - 1) (by omega) (by omega), show (j : Int) - 1 = ((j - 1 : Nat) : Int) by omega, xu e1, oB, xu e2, oB]
     generalize s[j] = y at e1
     generalize s[j - 1] = z at e2
     by_cases he : y = z
     ·rw [(z0g y z).2 he, cond_true, gdT (by omega)]
      refine (z1n hq hl g1 hj (by rw [e1, e2, he]) g3).mono ?_
      rintro _ ⟨t, rfl, ht⟩
      exact ht
     ·rw [Bool.eq_false_iff.2 (fun h => he ((z0g y z).1 h)), cond_false]
      unfold yQ
      rw [qe (by omega) (by omega), wi]
      refine ⟨⟨j + 1, rfl, by omega, hj, ?_⟩, by show s.length - ((j : Int) + 1).toNat < s.length - (j : Int).toNat; omega⟩
      have : s.take (j + 1) = s.take j ++ [y] := by rw [List.take_add_one, e1]; rfl
      rw [this]
      refine z3W g3 fun w hw => ?_
      obtain ⟨i, h3, h4⟩ := W6.1 hw
      have hlast : aLt z y := by
       rcases z6e hq e2 e1 (by omega) with q | q
       ·exact q
       ·exact absurd q.symm he
      rcases Nat.lt_or_ge i (j - 1) with q0 | q0
      ·rcases z6e hq h4 e2 q0 with q | q
       ·exact JH q hlast
       ·rw [q]; exact hlast
      ·rw [show i = j - 1 by omega, e2] at h4
       cases h4
       exact hlast
    ·rw [decide_eq_false (by omega), cond_false]
     refine wi.2 ?_
     rw [show j = s.length by omega, List.take_length] at g3
     exact g3
  obtain ⟨t, e, ht⟩ := this
  rw [bdT e]
  cases t with
  | inl _ => exact ⟨s, rfl, ht, fun _ => Iff.rfl⟩
  | inr p => exact ⟨p, rfl, ht⟩
theorem z9w {x : Int} (h1 : 0 ≤ x) (h2 : x ≤ 9223372036854775807) : IntKind.u64.wrap x = x := by
 simp only [IntKind.wrap, IntKind.bits, IntKind.signed]
 simp
 omega
theorem z3R {l : List Int} {m : Int} (h : Ris l m) : ∀ {j i : Nat} {a b : Int}, i < j → l[i]? = some a → l[j]? = some b → a < b := by
 intro j
 induction j with
 | zero => intro i a b h1; omega
 | succ j ih =>
  intro i a b hij ha hb
  obtain ⟨u, hu, hlt⟩ := (h (j + 1) b hb).2 (by omega)
  rw [Nat.add_sub_cancel] at hu
  rcases Nat.lt_or_ge i j with q | q
  ·exact Int.lt_trans (ih q ha hu) hlt
  ·rw [show i = j by omega, hu] at ha
   cases ha
   exact hlt
theorem zaG {l : List Int} {m : Int} (h : Ris l m) (hl : l.length ≤ 1000000) (w : Int) : ∃ n, x5 l w = some (n, decide (w ∈ l)) := by
 have : Ret (x5 l w) (fun r => r.2 = decide (w ∈ l)) := by
  unfold x5
  rw [z2A]
  refine Ret.mono (X3 (fun q : Int × Int => ∃ i j : Nat, q = ((i : Int), (j : Int)) ∧ i ≤ j ∧ j ≤ l.length ∧ (∀ (m : Nat) x, m < i → l[m]? = some x → x < w) ∧ ∀ (m : Nat) x, j ≤ m → l[m]? = some x → ¬ x < w) (fun q => (q.2 - q.1).toNat) (R := fun t => ∃ i : Nat, t = (i : Int) ∧ i ≤ l.length ∧ (∀ (m : Nat) x, m < i → l[m]? = some x → x < w) ∧ ∀ (m : Nat) x, i ≤ m → l[m]? = some x → ¬ x < w) ?_ ?_ ?_) ?_
  ·exact ⟨0, l.length, rfl, Nat.zero_le _, Nat.le_refl _, fun m x h => by omega, fun m x h hx => by have := yp hx; omega⟩
  ·simp only; omega
  ·rintro _ ⟨i, j, rfl, g1, g2, g3, g4⟩
   show Ret (xh l w (i : Int) (j : Int)) _
   unfold xh
   by_cases hij : i < j
   ·have hh : w64 (Int.fdiv (IntKind.u64.wrap (w64 ((i : Int) + (j : Int)))) (2 ^ 1)) = (((i + j) / 2 : Nat) : Int) := by
     rw [qe (x := (i : Int) + (j : Int)) (by omega) (by omega), z9w (by omega) (by omega)]
     have : Int.fdiv ((i : Int) + (j : Int)) (2 ^ 1) = (((i + j) / 2 : Nat) : Int) := by
      rw [show ((i : Int) + (j : Int)) = ((i + j : Nat) : Int) by omega, show ((2 : Int) ^ 1) = ((2 : Nat) : Int) by rfl]
      rw [Int.fdiv_eq_ediv_of_nonneg _ (by omega)]
      rfl
     rw [this, qe (by omega) (by omega)]
    have hm : (i + j) / 2 < l.length := by omega
    have hx : l[(i + j) / 2]? = some l[(i + j) / 2] := List.getElem?_eq_getElem hm
    generalize l[(i + j) / 2] = y at hx
    rw [decide_eq_true (by omega), cond_true, hh, xu hx, oB]
    have hless : kH y w = some (decide (y < w)) := by
     unfold kH vL
     rw [bne_self_eq_false, bne_self_eq_false]
     cases decide (y < w) <;> rfl
    rw [hless, oB]
    by_cases hc2 : y < w
    ·rw [decide_eq_true hc2, cond_true, qe (by omega) (by omega), wi]
     refine ⟨⟨(i + j) / 2 + 1, j, by simp, by omega, g2, fun m x hm hmx => ?_, g4⟩, by simp only; omega⟩
     rcases Nat.lt_or_ge m ((i + j) / 2) with q | q
     ·exact Int.lt_trans (z3R h q hmx hx) hc2
     ·rw [show m = (i + j) / 2 by omega, hx] at hmx
      cases hmx
      exact hc2
    ·rw [decide_eq_false hc2, cond_false, wi]
     refine ⟨⟨i, (i + j) / 2, rfl, by omega, by omega, g3, fun m x hm hmx hlt => ?_⟩, by simp only; omega⟩
     rcases Nat.lt_or_ge ((i + j) / 2) m with q | q
     ·exact hc2 (Int.lt_trans (z3R h q hx hmx) hlt)
     ·rw [show m = (i + j) / 2 by omega, hx] at hmx
      cases hmx
      exact hc2 hlt
   ·rw [decide_eq_false (by omega), cond_false, wi]
    have : i = j := by omega
    subst this
    exact ⟨i, rfl, g2, g3, g4⟩
  ·rintro _ ⟨i, rfl, h1, h2, h3⟩
   unfold xJ uR
   by_cases hi : i < l.length
   ·have hx : l[i]? = some l[i] := List.getElem?_eq_getElem hi
    generalize l[i] = y at hx
    rw [decide_eq_true (by omega), cond_true, xu hx, oB]
    by_cases he : y = w
    ·rw [show (y == w) = true from beq_iff_eq.2 he, cond_true, wi]
     exact (decide_eq_true (he ▸ List.mem_of_getElem? hx)).symm
    ·rw [beq_false_of_ne he, cond_false, oB, bne_self_eq_false, oB, cond_false, wi]
     refine (decide_eq_false fun hm => ?_).symm
     obtain ⟨k, hk⟩ := List.mem_iff_getElem?.1 hm
     rcases Nat.lt_trichotomy k i with q | q | q
     ·have := h2 k w q hk; omega
     ·rw [q, hx] at hk
      cases hk
      exact he rfl
     ·have a1 := z3R h q hx hk
      exact h3 i y (Nat.le_refl _) hx a1
   ·rw [decide_eq_false (by omega), cond_false, wi]
    refine (decide_eq_false fun hm => ?_).symm
    obtain ⟨k, hk⟩ := List.mem_iff_getElem?.1 hm
    have := yp hk
    have := h2 k w (by omega) hk
    omega
 obtain ⟨r, e, h⟩ := this
 exact ⟨r.1, by rw [e, ← h]⟩
def JF (x : z6) (m : zc) : zf := ((x.Parts[m.Part.toNat]?).bind fun P => P.Arcs[m.Arc.toNat]?).getD ⟨0, 0, 0, 0, 0⟩
def shA (x : z6) (hidden : List Int) (s : z7) : ze :=
 if (JF x s.Move).Kind = 0 ∧ ¬(JF x s.Move).Message ∈ hidden then ⟨2, (JF x s.Move).Message, s.To⟩ else ⟨0, 0, s.To⟩
def SV (x : z6) (m : zc) : Prop := ∃ (p : Nat) (P : zk) (k : Nat) (a : zf), m.Part = p ∧ x.Parts[p]? = some P ∧ m.Arc = k ∧ P.Arcs[k]? = some a
theorem SV.arc {x : z6} {m : zc} (h : SV x m) : ∃ P, idx x.Parts m.Part = some P ∧ idx P.Arcs m.Arc = some (JF x m) ∧ P ∈ x.Parts ∧ JF x m ∈ P.Arcs := by
 obtain ⟨p, P, k, a, h1, h2, h3, h4⟩ := h
 have e : JF x m = a := by
  unfold JF
  rw [h1, h3, Int.toNat_natCast, Int.toNat_natCast, h2]
  show (P.Arcs[k]?).getD _ = a
  rw [h4]
  rfl
 rw [e, h1, h3]
 exact ⟨P, xu h2, xu h4, List.mem_of_getElem? h2, List.mem_of_getElem? h4⟩
theorem z7m {x : z6} {c : z8} {e : zc × z8} (he : e ∈ mvs x c) : SV x e.1 := by
 obtain ⟨p, P, k, a, h1, h2, h3, h4⟩ := z4m.1 he
 rcases z4l.1 h4 with ⟨rfl, _⟩ | ⟨_, _, o, Po, kk, b, _, _, _, _, _, rfl⟩
 ·exact ⟨p, P, k, a, rfl, h1, rfl, h2⟩
 ·exact ⟨p, P, k, a, rfl, h1, rfl, h2⟩
theorem z2R {x : z6} : ∀ (es : List (zc × z8)) (L : List z8), (∀ e ∈ es, SV x e.1) → L.length ≤ (z1g L es).length ∧ ∀ s ∈ JV L es, SV x s.Move ∧ 0 ≤ s.To ∧ s.To < (z1g L es).length
 | [], L, _ => ⟨Nat.le_refl _, fun s hs => by simp [JV] at hs⟩
 | e :: es, L, h => by
  have hf := z4F L e.2
  obtain ⟨h1, h2⟩ := z2R es (if fnd L e.2 = L.length then L ++ [e.2] else L) (fun e' he' => h e' (List.mem_cons_of_mem _ he'))
  rw [z1g]
  have hlen : L.length ≤ (if fnd L e.2 = L.length then L ++ [e.2] else L).length ∧ fnd L e.2 < (if fnd L e.2 = L.length then L ++ [e.2] else L).length := by
   split
   ·rw [List.length_append, List.length_singleton]; omega
   ·omega
  refine ⟨by omega, fun s hs => ?_⟩
  rw [JV] at hs
  rcases List.mem_cons.1 hs with rfl | hs
  ·exact ⟨h e List.mem_cons_self, Int.natCast_nonneg _, by dsimp only; omega⟩
  ·exact h2 s hs
theorem z1Z {x : z6} : ∀ n, ∀ u ∈ (jB x n).2, ∀ s ∈ u, SV x s.Move ∧ 0 ≤ s.To ∧ s.To < (jB x n).1.length
 | 0, u, h => by simp [jB] at h
 | n + 1, u, h => by
  intro s hs
  have hm := Km (x := x) n
  rw [jB, z20] at h
  split at h
  ·obtain ⟨a, b, c⟩ := z1Z n u h s hs
   exact ⟨a, b, by omega⟩
  ·rename_i c hc
   rcases List.mem_append.1 h with h | h
   ·obtain ⟨a, b, c⟩ := z1Z n u h s hs
    exact ⟨a, b, by omega⟩
   ·rw [List.mem_singleton.1 h, Qr, List.nil_append] at hs
    rw [z1c hc]
    exact (z2R (mvs x c) (jB x n).1 fun e he => z7m he).2 s hs
section
variable {x : z6}
theorem za9 {hidden : List Int} {m : Int} (hh : Ris hidden m) (hhl : hidden.length ≤ 1000) {u : List z7} (hu : u.length ≤ 1048576) (hs : ∀ s ∈ u, SV x s.Move) :
  loop (fun s => wL x hidden u s.1 s.2) (([] : List ze), 0) = some (u.map (shA x hidden)) := by
 refine Qp (fun j => ((u.take j).map (shA x hidden), (j : Int))) u.length (by omega) (fun j hj => ?_) ?_
 ·have he : u[j]? = some u[j] := List.getElem?_eq_getElem hj
  have hmem := List.mem_of_getElem? he
  have hnext : (u.take (j + 1)).map (shA x hidden) = (u.take j).map (shA x hidden) ++ [shA x hidden u[j]] := by
   rw [List.take_add_one, he, List.map_append]; rfl
  have hlen : ((u.take j).map (shA x hidden)).length ≤ 1048576 := by rw [List.length_map, List.length_take]; omega
  dsimp only
  rw [hnext]
  generalize (u.take j).map (shA x hidden) = row at hlen
  generalize u[j] = s at *
  obtain ⟨P, h1, h2, _, _⟩ := (hs s hmem).arc
  obtain ⟨n, hb⟩ := zaG hh (by omega) (JF x s.Move).Message
  unfold wL wM shA
  rw [decide_eq_true (by omega), cond_true, xu he, oB, h1, oB, h2, oB, hb, oB]
  dsimp only
  rw [qe (by omega) (by omega)]
  by_cases q : (JF x s.Move).Kind = 0
  ·rw [show ((JF x s.Move).Kind == 0) = true from beq_iff_eq.2 q, cond_true]
   by_cases q2 : (JF x s.Move).Message ∈ hidden
   ·rw [decide_eq_true q2, Bool.not_true, cond_false, if_neg (fun h => h.2 q2), gdT (by rw [List.length_singleton]; omega)]; rfl
   ·rw [decide_eq_false q2, Bool.not_false, cond_true, if_pos ⟨q, q2⟩, gdT (by rw [List.length_singleton]; omega)]; rfl
  ·rw [beq_false_of_ne q, cond_false, if_neg (fun h => q h.1), gdT (by rw [List.length_singleton]; omega)]; rfl
 ·unfold wL
  dsimp only
  rw [decide_eq_false (by omega), cond_false, List.take_length]
theorem z6L (l : List ze) : yZ l = some l := by
 unfold yZ
 rw [gdT (by omega)]
 simp
theorem z6K (l : List (List ze)) : yH l = some l := by
 unfold yH
 rw [gdT (by omega)]
 simp
theorem z1N (hv : z3l x) {hidden : List Int} (hr : z2z hidden x.Labels = true) (hhl : hidden.length ≤ 1000) {sp : List za} {st : List (List z7)} (hg : yP x = some (sp, st, 0)) (hs : st.length ≤ 1024) (hu : ∀ u ∈ st, u.length ≤ 1048576) (hsv : ∀ u ∈ st, ∀ s ∈ u, SV x s.Move) :
    (64 < sp.length ∧ yu x hidden = some (⟨0, 0, []⟩, 3)) ∨ (sp.length ≤ 64 ∧
      ((∃ rows, yu x hidden = some (⟨0, x.Labels, rows⟩, 0) ∧ rows.length = st.length ∧ ∀ (i : Nat) u, st[i]? = some u → ∃ t, rows[i]? = some t ∧ K1 (u.map (shA x hidden)) t ∧ t.length ≤ 256) ∨
       (yu x hidden = some (⟨0, 0, []⟩, 3) ∧ ∃ u ∈ st, ∃ t, K1 (u.map (shA x hidden)) t ∧ 256 < t.length))) := by
  have hris := z2y hr
  unfold yu
  rw [Vx hv, oB, bne_self_eq_false, cond_false, Wf (.inl (by omega)), hr, oB, Bool.not_true, cond_false, hg, oB]
  dsimp only
  rw [bne_self_eq_false, cond_false]
  by_cases q : 64 < sp.length
  · rw [decide_eq_true (by omega), cond_true]
    exact .inl ⟨q, rfl⟩
  · rw [decide_eq_false (by omega), cond_false]
    refine .inr ⟨by omega, ?_⟩
    have hl : Ret (loop (fun s => vC x hidden (sp, st, 0) s.1 s.2) (([] : List (List ze)), 0)) (fun r => (∃ rows, r = .inl rows ∧ rows.length = st.length ∧ ∀ (i : Nat) u, st[i]? = some u → ∃ t, rows[i]? = some t ∧ K1 (u.map (shA x hidden)) t ∧ t.length ≤ 256) ∨ (r = .inr (⟨0, 0, []⟩, 3) ∧ ∃ u ∈ st, ∃ t, K1 (u.map (shA x hidden)) t ∧ 256 < t.length)) := by
      refine X3 (fun s => ∃ n : Nat, s.2 = (n : Int) ∧ n ≤ st.length ∧ s.1.length = n ∧ ∀ (i : Nat) u, i < n → st[i]? = some u → ∃ t, s.1[i]? = some t ∧ K1 (u.map (shA x hidden)) t ∧ t.length ≤ 256) (fun s => 1024 - s.2.toNat) ⟨0, rfl, Nat.zero_le _, rfl, fun i u hi => by omega⟩ (by show 1024 - 0 < _; omega) ?_
      rintro ⟨rows, s⟩ ⟨n, hn, hnl, hrl, hrow⟩
      dsimp only at hn hrl hrow ⊢
      subst hn
      unfold vC
      dsimp only
      by_cases c : n < st.length
      · have he : st[n]? = some st[n] := List.getElem?_eq_getElem c
        have hmem := List.mem_of_getElem? he
        generalize st[n] = u at he hmem
        have hul := hu u hmem
        rw [decide_eq_true (by omega), cond_true, xu he, oB, za9 hris hhl hul (hsv u hmem), oB]
        unfold qh qj
        obtain ⟨so, s1, s2, s3⟩ := z3C (u.map (shA x hidden)) (by rw [List.length_map]; omega)
        obtain ⟨t, t1, t2, t3⟩ := z2a s3 (by rw [s2.length_eq, List.length_map]; omega)
        have hcs : K1 (u.map (shA x hidden)) t := ⟨t2, fun y => (t3 y).trans s2.mem_iff⟩
        rw [s1, oB, t1, oB, z6L, oB]
        by_cases g : 256 < t.length
        · rw [decide_eq_true (by omega), cond_true]
          exact wi.2 (.inr ⟨rfl, u, hmem, t, hcs, g⟩)
        · rw [decide_eq_false (by omega), cond_false, gdT (by rw [List.length_singleton]; omega), qe (by omega) (by omega)]
          refine wi.2 ⟨⟨n + 1, rfl, c, by dsimp only; rw [List.length_append, List.length_singleton, hrl], fun i u' hi hu' => ?_⟩, ?_⟩
          · rcases Nat.lt_or_ge i n with q2 | q2
            · obtain ⟨t', a, b⟩ := hrow i u' q2 hu'
              exact ⟨t', zaL a, b⟩
            · have : i = n := by omega
              subst this
              rw [he] at hu'
              cases hu'
              refine ⟨t, ?_, hcs, by omega⟩
              rw [← hrl]
              exact z97
          · show 1024 - ((n : Int) + 1).toNat < 1024 - (n : Int).toNat
            omega
      · rw [decide_eq_false (by omega), cond_false]
        refine wi.2 (.inl ⟨rows, rfl, by omega, fun i u hu' => ?_⟩)
        exact hrow i u (by have := yp hu'; omega) hu'
    obtain ⟨r, e, h⟩ := hl
    rw [bdT e]
    rcases h with ⟨rows, rfl, h1, h2⟩ | ⟨rfl, h⟩
    · refine .inl ⟨rows, ?_, h1, h2⟩
      show vD x rows = _
      unfold vD
      rw [z6K]
      rfl
    · exact .inr ⟨rfl, h⟩
end
theorem XZ : wS = some true := by kernel_rfl
def Ok3 (a : Int) : Prop := (-9223372036854775808) ≤ a ∧ a ≤ 9223372036854775807
def z9c (l : List Int) : Prop := ∀ a ∈ l, Ok3 a
def Ok5 (a : Int) : Prop := (0) ≤ a ∧ a ≤ 255
def zdk (a : zf) : Prop := Ok3 a.From ∧ Ok5 a.Kind ∧ Ok3 a.Channel ∧ Ok3 a.Message ∧ Ok3 a.To
def zev (l : List zf) : Prop := ∀ a ∈ l, zdk a
def zdl (a : zk) : Prop := Ok3 a.States ∧ zev a.Arcs ∧ z9c a.Final
def zez (l : List zk) : Prop := ∀ a ∈ l, zdl a
def zey (a : z6) : Prop := Ok3 a.Messages ∧ Ok3 a.Labels ∧ z9c a.Channels ∧ zez a.Parts
def zex (l : List (List Int)) : Prop := ∀ a ∈ l, z9c a
def zew (a : z8) : Prop := z9c a.States ∧ zex a.Queues
theorem z6C (x : z6) : ∃ r, ZH x = some r ∧ (r = 1 ∨ r = 0 ∧ x.Channels.length ≤ 6 ∧ x.Parts.length ≤ 6) := by
 unfold ZH
 by_cases h1 : (x.Channels.length : Int) > 6
 ·rw [decide_eq_true h1, cond_true]
  exact ⟨1, rfl, .inl rfl⟩
 ·by_cases h2 : (x.Parts.length : Int) > 6
  ·rw [decide_eq_false h1, cond_false, decide_eq_true h2, cond_true]
   exact ⟨1, rfl, .inl rfl⟩
  ·rw [decide_eq_false h1, cond_false, decide_eq_false h2, cond_false]
   have hl : Ret (loop (fun s => je x s.1 s.2.1 s.2.2) (0, 0, 0)) (fun _ => True) := by
    refine X3 (fun s => ∃ n : Nat, s.2.2 = (n : Int) ∧ n ≤ x.Parts.length) (fun s => 6 - s.2.2.toNat) ⟨0, rfl, Nat.zero_le _⟩ (by show 6 - 0 < _; omega) ?_
    rintro ⟨a, f, i⟩ ⟨n, hn, hl⟩
    dsimp only at hn ⊢
    subst hn
    unfold je
    by_cases q : n < x.Parts.length
    ·have hP : x.Parts[n]? = some x.Parts[n] := List.getElem?_eq_getElem q
     rw [decide_eq_true (by omega), cond_true, xu hP, oB, oB, qe (x := (n : Int) + 1) (by omega) (by omega)]
     refine wi.2 ⟨⟨n + 1, rfl, q⟩, ?_⟩
     show 6 - ((n : Int) + 1).toNat < 6 - (n : Int).toNat
     omega
    ·rw [decide_eq_false (by omega), cond_false]
     exact wi.2 trivial
   obtain ⟨t, e, _⟩ := hl
   rw [bdT e]
   unfold kz
   cases decide (t.1 > 600) with
   | true => exact ⟨1, rfl, .inl rfl⟩
   | false =>
    cases decide (t.2 > 300) with
    | true => exact ⟨1, rfl, .inl rfl⟩
    | false => exact ⟨0, rfl, .inr ⟨rfl, by omega, by omega⟩⟩
theorem z6f {x : z6} (hv : z3l x) {hidden : List Int} (hhl : hidden.length ≤ 1000) : ∃ r, yu x hidden = some r ∧ (bif z2z hidden x.Labels then (r.2 = 0 ∨ r.2 = 3 ∧ r.1.Rows = []) else r.2 = 1 ∧ r.1.Rows = []) := by
 cases hr : z2z hidden x.Labels with
 | false =>
  refine ⟨(⟨0, 0, []⟩, 1), ?_, rfl, rfl⟩
  unfold yu
  rw [Vx hv, oB, bne_self_eq_false, cond_false, Wf (.inl (by omega)), hr]
  rfl
 | true =>
  rcases z4A hv with ⟨n, e, h1, h2, h3⟩ | ⟨n, e, h1, h2⟩
  ·have hrows := z1d n h3
   have hnl : n ≤ 1024 := by
    cases n with
    | zero => omega
    | succ n =>
     have a := h3 n (by omega)
     have b := Km (x := x) n
     omega
   rcases z1N hv hr hhl e (by omega) (Ur hv n) (fun u hu s hs => (z1Z n u hu s hs).1) with ⟨_, q⟩ | ⟨_, ⟨rows, q, _⟩ | ⟨q, _⟩⟩
   ·exact ⟨_, q, .inr ⟨rfl, rfl⟩⟩
   ·exact ⟨_, q, .inl rfl⟩
   ·exact ⟨_, q, .inr ⟨rfl, rfl⟩⟩
  ·refine ⟨(⟨0, 0, []⟩, 3), ?_, .inr ⟨rfl, rfl⟩⟩
   unfold yu
   rw [Vx hv, oB, bne_self_eq_false, cond_false, Wf (.inl (by omega)), hr, oB, Bool.not_true, cond_false, e]
   rfl
theorem zam {x : z6} (hx : ∀ p ∈ x.Parts, ∀ a ∈ p.Arcs, 0 ≤ a.Kind) (c : z8) (hidden : List Int) (h1 : x.Channels.length ≤ 6) (h2 : x.Parts.length ≤ 6) (hh : hidden.length ≤ 20) (n : Int) : wo x c hidden n = some true := by
 have hs := z3K x h1 h2
 have hr := z3V x h1 h2
 unfold wo
 rw [hr, oB, XZ]
 cases decide (n > 40) with
 | true => rfl
 | false =>
  rw [cond_false, hs, oB, bne_self_eq_false, cond_false]
  by_cases q : chk x = 0
  ·have hv := z8T hx q
   obtain ⟨pr, hp, hpo⟩ := z6f hv (hidden := hidden) (by omega)
   have j3 : yK x hidden pr = some true := by
    unfold yK
    rw [Kb (.inl (by omega)), oB, XZ]
    cases hb : z2z hidden x.Labels with
    | false =>
     rw [hb, cond_false] at hpo
     rw [hpo.1, hpo.2]
     rfl
    | true =>
     rw [hb, cond_true] at hpo
     rcases hpo with g | ⟨g, g'⟩
     ·rw [g]; rfl
     ·rw [g, g']; rfl
   rw [z6d hv c, z03 hv c]
   cases hcb : z8V x c with
   | false =>
    have hm : wY x c = some ([], 1) := by
     unfold wY
     rw [z03 hv c, hcb]; rfl
    have hg : ub x c ⟨-1, 0, 0, 0⟩ = some (⟨[], []⟩, 1) := by
     unfold ub
     rw [z03 hv c, hcb]; rfl
    rw [hm, hg, hp, q]
    simp only [oB]
    rw [bne_self_eq_false, cond_false]
    show yM x hidden ([], 1) (⟨[], []⟩, 1) 1 pr 1 = some true
    unfold yM
    rw [j3]
    rfl
   | true =>
    have hk : MOk x c := ⟨hv, z8U hcb⟩
    have hm := z4i hk
    have hg : ub x c ⟨-1, 0, 0, 0⟩ = some (⟨[], []⟩, 7) := by
     rcases zav hk ⟨-1, 0, 0, 0⟩ with ⟨to, a, _⟩ | ⟨_, a⟩
     ·obtain ⟨p, _, _, _, hpp, _⟩ := z7m a
      dsimp only at hpp
      omega
     ·exact a
    rw [hm, hg, hp, q]
    simp only [oB]
    rw [bne_self_eq_false, cond_false]
    show yM x hidden ((mvs x c).map (·.1), 0) (⟨[], []⟩, 7) 0 pr 0 = some true
    unfold yM
    rw [j3]
    rfl
  ·have qb : (chk x != 0) = true := bne_iff_ne.2 q
   have hcc : yk x c = some (chk x) := by
    unfold yk
    rw [hs, oB, qb, cond_true]
   have hm : wY x c = some ([], chk x) := by
    unfold wY
    rw [hcc, oB, qb, cond_true]
   have hg : ub x c ⟨-1, 0, 0, 0⟩ = some (⟨[], []⟩, chk x) := by
    unfold ub
    rw [hcc, oB, qb, cond_true]
   have hp : yu x hidden = some (⟨0, 0, []⟩, chk x) := by
    unfold yu
    rw [hs, oB, qb, cond_true]
   have hgr : uA x = some ([], [], chk x) := by
    unfold uA
    rw [hs, oB, qb, cond_true]
   have hd : wQ x = some ([], ⟨[], []⟩, chk x) := by
    unfold wQ
    rw [hs, oB, qb, cond_true]
   rw [hm, hg, hcc, hp, hgr, hd]
   simp only [oB, qb, cond_true, beq_self_eq_true]
   rfl
theorem z6u {x : z6} {c : z8} {hidden : List Int} (hx : zey x) (hc : zew c) (hh : z9c hidden) : uK x c hidden = some true := by
 have hk : ∀ p ∈ x.Parts, ∀ a ∈ p.Arcs, 0 ≤ a.Kind := fun p hp a ha => ((hx.2.2.2 p hp).2.1 a ha).2.1.1
 unfold uK
 obtain ⟨r, e, h⟩ := z6C x
 rw [e, oB, XZ]
 rcases h with rfl | ⟨rfl, h1, h2⟩
 ·rfl
 ·rw [show ((0 : Int) == 1) = false from rfl, cond_false]
  by_cases c1 : (c.States.length : Int) > 6
  ·rw [decide_eq_true c1]; rfl
  ·rw [decide_eq_false c1, cond_false]
   by_cases c2 : (c.Queues.length : Int) > 6
   ·rw [decide_eq_true c2]; rfl
   ·rw [decide_eq_false c2, cond_false]
    by_cases c3 : (hidden.length : Int) > 20
    ·rw [decide_eq_true c3]; rfl
    ·rw [decide_eq_false c3, cond_false]
     have hl : Ret (loop (fun s => wn c s.1 s.2) (0, 0)) (fun _ => True) := by
      refine X3 (fun s => ∃ n : Nat, s.2 = (n : Int) ∧ n ≤ c.Queues.length) (fun s => 6 - s.2.toNat) ⟨0, rfl, Nat.zero_le _⟩ (by show 6 - 0 < _; omega) ?_
      rintro ⟨a, i⟩ ⟨n, hn, hl⟩
      dsimp only at hn ⊢
      subst hn
      unfold wn
      by_cases q : n < c.Queues.length
      ·have hQ : c.Queues[n]? = some c.Queues[n] := List.getElem?_eq_getElem q
       rw [decide_eq_true (by omega), cond_true, xu hQ, oB, qe (x := (n : Int) + 1) (by omega) (by omega)]
       refine wi.2 ⟨⟨n + 1, rfl, q⟩, ?_⟩
       show 6 - ((n : Int) + 1).toNat < 6 - (n : Int).toNat
       omega
      ·rw [decide_eq_false (by omega), cond_false]
       exact wi.2 trivial
     obtain ⟨t, e2, _⟩ := hl
     rw [bdT e2]
     exact zam hk c hidden h1 h2 (by omega) t
def Q4 (w : World) : zq := fun b o => yG w.heap b o
theorem z2b {w : World} {a : Addr} {v : Value} (h : w.cell? a = some v) : a.spot = none ∧ yG w.heap a.block a.off = some v := by
 unfold World.cell? at h
 unfold yG
 split at h
 ·rename_i c ty fr he
  rw [he]
  split at h
  ·cases h
  ·rename_i hs
   exact ⟨by simpa using hs, h⟩
 ·cases h
section
variable {H : Type} {enc : TypeId × Value → H} {P : Program} {w : World} {base : Nat} {spare : Nat → Bool} {held : Bool}
theorem z4T {a : Addr} {n : Nat} {cs : List Value} (h : w.cells? base a n = some cs) (hn : 0 < n) : a.spot = none ∧ cs.length = n ∧ JY (Q4 w) a.block a.off cs := by
 obtain ⟨_, h2, h3⟩ := World.cells?_some h
 have h0 : a.spot = none := by
  have h4 := h3 0 hn
  cases hc : cs[0]? with
  | none => rw [List.getElem?_eq_none_iff] at hc; omega
  | some v =>
   rw [hc] at h4
   have := (z2b h4).1
   simpa [Addr.add] using this
 refine ⟨h0, h2, fun j v hj => ?_⟩
 have hlt := (List.getElem?_eq_some_iff.1 hj).1
 have h4 := h3 j (by omega)
 rw [hj] at h4
 have q := (z2b h4).2
 unfold Addr.add at q
 split at q
 ·rename_i e; subst e; exact q
 ·exact q
theorem z0J {S : zq} : ∀ {bs : List A} {cs : List Value} {a : A} {c : List Value}, yC S bs cs → Rep S a c → yC S (bs ++ [a]) (cs ++ c)
 | [], cs, a, c, h1, h2 => by
  simp only [yC] at h1
  subst h1
  simp only [List.nil_append, yC]
  exact ⟨c, [], by simp, h2, rfl⟩
 | x :: bs, cs, a, c, h1, h2 => by
  simp only [yC] at h1
  obtain ⟨c1, c2, rfl, r1, r2⟩ := h1
  simp only [List.cons_append, yC]
  exact ⟨c1, c2 ++ c, by simp, r1, z0J r2 h2⟩
theorem z6o {S : zq} {b o : Nat} {c1 c2 : List Value} (h1 : JY S b o c1) (h2 : JY S b (o + c1.length) c2) : JY S b o (c1 ++ c2) := by
 intro j v hj
 rcases Nat.lt_or_ge j c1.length with q | q
 ·rw [List.getElem?_append_left q] at hj
  exact h1 j v hj
 ·rw [List.getElem?_append_right q] at hj
  have := h2 _ _ hj
  rwa [show o + c1.length + (j - c1.length) = o + j by omega] at this
theorem Vn {α : Type} {t e sz : Nat} (f : α → A) (ok : α → Prop) (ht : P.underlying t = some (.slice e)) (hsz : P.cellsOf e = sz) (h0 : 0 < sz) (hf : ∀ a, (f a).size = sz)
    (hel : ∀ n cs x, DataW.trod enc P w base spare held n e cs = some x → ∃ a, ok a ∧ Rep (Q4 w) (f a) cs)
    {fuel : Nat} {cs : List Value} {x : DataW H × List MemPlace} (h : DataW.trod enc P w base spare held fuel t cs = some x) : ∃ l : List α, (∀ a ∈ l, ok a) ∧ Rep (Q4 w) (.sl sz false (l.map f)) cs := by
  rcases DataW.trod_slice ht h with ⟨rfl, _⟩ | ⟨a, len, cap, elems, rest, n, _, rfl, _, _, hlc, _, hlen, hall, _, _⟩
  · refine ⟨[], by simp, ?_⟩
    simp only [Rep, List.map_nil, List.length_nil]
    exact ⟨none, 0, rfl, by simp, Nat.le_refl _, by simp, .inl trivial⟩
  · have key : ∀ k, k ≤ len → ∃ (l : List α) (cells : List Value), l.length = k ∧ (∀ a ∈ l, ok a) ∧ yC (Q4 w) (l.map f) cells ∧ cells.length = k * sz ∧ (0 < k → a.spot = none) ∧ JY (Q4 w) a.block a.off cells := by
      intro k
      induction k with
      | zero => intro _; exact ⟨[], [], rfl, by simp, by simp [yC], by simp, by simp, fun j v h => by simp at h⟩
      | succ k ih =>
        intro hk
        obtain ⟨l, cells, q1, q2, q3, q4, q5, q6⟩ := ih (by omega)
        have hk' := hall k (by omega)
        have hsome : elems[k]? = some elems[k] := List.getElem?_eq_getElem (by omega)
        rw [hsome, Option.bind_eq_some_iff, hsz] at hk'
        obtain ⟨c, hc, htr⟩ := hk'
        obtain ⟨y, hy, hr⟩ := hel _ _ _ htr
        obtain ⟨g1, g2, g3⟩ := z4T hc h0
        refine ⟨l ++ [y], cells ++ c, by simp [q1], ?_, ?_, ?_, ?_, ?_⟩
        · intro z hz
          rcases List.mem_append.1 hz with q | q
          · exact q2 z q
          · simp only [List.mem_cons, List.not_mem_nil, or_false] at q; subst q; exact hy
        · rw [List.map_append]; exact z0J q3 hr
        · rw [List.length_append, q4, g2, Nat.succ_mul]
        · intro _
          rcases Nat.eq_zero_or_pos k with rfl | hk0
          · simpa [Addr.add] using g1
          · exact q5 hk0
        · refine z6o q6 ?_
          rw [q4]
          unfold Addr.add at g3
          split at g3
          · rename_i e0
            rw [e0, Nat.add_zero]
            exact g3
          · exact g3
    obtain ⟨l, cells, q1, q2, q3, q4, q5, q6⟩ := key len (Nat.le_refl _)
    refine ⟨l, q2, ?_⟩
    simp only [Rep, List.length_map]
    refine ⟨some a, cap, by rw [q1], by simp, by omega, ?_, ?_⟩
    · intro y hy
      obtain ⟨z, _, rfl⟩ := List.mem_map.1 hy
      exact hf z
    · rcases Nat.eq_zero_or_pos len with rfl | hl
      · left; rw [List.length_eq_zero_iff.1 q1]; rfl
      · right
        refine ⟨a.block, a.off, cells, ?_, q3, q6⟩
        have := q5 hl
        obtain ⟨b, o, s⟩ := a
        simp only at this
        subst this
        rfl
theorem z4u {t : Nat} {k : IntKind} {lo hi : Int} (ht : P.underlying t = some (.int k)) (hlo : k.min = lo) (hhi : k.max = hi) {fuel : Nat} {cs : List Value} {x : DataW H × List MemPlace} (h : DataW.trod enc P w base spare held fuel t cs = some x) :
  ∃ n : Int, (lo ≤ n ∧ n ≤ hi) ∧ cs = [.int k n] ∧ Rep (Q4 w) (.atom (.int k n)) cs := by
 obtain ⟨n, rfl, _, hw⟩ := DataW.trod_int ht h
 simp only [Lit.wf, Bool.and_eq_true, decide_eq_true_eq, hlo, hhi] at hw
 exact ⟨n, hw, rfl, by simp only [Rep]; exact ⟨trivial, rfl⟩⟩
theorem Zc {t : Nat} {fs : List Field} (ht : P.underlying t = some (.struct ⟨fs⟩)) {fuel : Nat} {cs : List Value} {x : DataW H × List MemPlace} (h : DataW.trod enc P w base spare held fuel t cs = some x) :
  cs.length = P.cellsOf t ∧ ∀ (i : Nat) (f : Field), fs[i]? = some f → ∃ n y, DataW.trod enc P w base spare held n f.type ((cs.drop f.offset).take (P.cellsOf f.type)) = some y := by
 obtain ⟨xs, n, _, _, hl, hxl, hall⟩ := DataW.trod_struct ht h
 refine ⟨hl, fun i f hf => ?_⟩
 have hlt := (List.getElem?_eq_some_iff.1 hf).1
 have := hall i f (by simpa using hf)
 rw [List.getElem?_eq_getElem (by rw [hxl]; simpa using hlt)] at this
 exact ⟨n, _, this⟩
end
theorem vI {S : zq} {a : A} {bs : List A} {cs : List Value} {n : Nat} (h1 : Rep S a (cs.take n)) (h2 : yC S bs (cs.drop n)) : yC S (a :: bs) cs := by
 simp only [yC]
 exact ⟨cs.take n, cs.drop n, (List.take_append_drop n cs).symm, h1, h2⟩
section
open Go Go.ChangeShapes Go.WideShapes Go.ChangeAt Go.RowKit
theorem z41 {P : Program} {H : Type} {enc : TypeId × Value → H} {f : Func} {s : ChangeSpec} {apart fresh handsOn again : Bool} {W W' : World} {args : Array Value} {v : Value} {ds : List (DataW H)} {pa : List MemPlace}
  (hvar : s.vars = []) (hvars2 : (s.fn H (ds ++ [])).vars = []) (hW : DataW.Whole enc P f.params.toList s.vars apart W args.toList ds [] (pa ++ [])) (hb : Below W.heap.size W W')
  (hres : ∀ (b : Nat) (sp : Nat → Bool) (hd : Bool), DataW.TrodAll enc P W' b sp hd f.resultTypes.toList (v.resultList f.resultTypes.size) (s.fn H (ds ++ [])).results [])
  (hargs : ∀ sp : Nat → Bool, (∀ p ∈ pa ++ [], sp p.block = true) → DataW.TrodAll enc P W' 0 sp true f.params.toList args.toList (s.fn H (ds ++ [])).args pa)
  (hok : ∀ (j : Nat) (t : TypeId) (r : Value), f.resultTypes[j]? = some t → (v.resultList f.resultTypes.size)[j]? = some r → Value.okWide P W' .any 0 t r) :
  s.post enc P f apart fresh handsOn again W args v W' := by
 have hlt : ∀ p ∈ pa ++ [], p.block < W.heap.size := fun p hp => by simpa using hW.lt p hp
 have hvr : ∀ sp : Nat → Bool, DataW.TrodVars enc P W' sp s.vars (s.fn H (ds ++ [])).vars [] := fun sp => by rw [hvar, hvars2]; rfl
 refine ⟨ds, [], pa ++ [], [], pa, [], hW, hres _ _ _, hargs _ (fun p hp => by simpa using hlt p hp), hvr _, World.keptBut_mono (fun _ q => q.elim) (hb.frame fun _ => False), fun _ => ?_⟩
 obtain ⟨_, _, _, _, _, hz, hn⟩ := hW
 refine ⟨hok, _, _, ([] ++ pa) ++ [], ⟨[] ++ pa, [], trodAll_append (hargs _ (fun _ _ => rfl)) (hres _ _ _), hvr _, rfl, ?_, ?_⟩, ?_⟩
 ·intro b off hp
  have hp' : MemPlace.cell b off ∈ pa ++ [] := by simpa using hp
  rw [hb.frozen (p := ⟨b, off, none⟩) (hlt _ hp')]
  exact hz b off hp'
 ·intro ha
  simpa using hn ha
 ·intro p hp _
  simpa using hp
end
theorem z5S {P : Program} {k : Nat} {α ρ : Type} {enc : α → List A} {encR : ρ → A} {F : α → Option ρ} {gives : List Bool} {inj : ∀ x y, enc x = enc y → x = y} (h : (spF k enc encR F gives inj).Ok P) {x : α} {r : ρ} (hr : F x = some r) : Xt P k (enc x) (encR r) := by
 have := h x ⟨r, hr⟩
 simpa only [spF, hr] using this
section
variable {P : Program} {w : World} {r : Reach} {base t : Nat} {v : Value}
theorem z3u (h : ∀ cs, v ≠ .agg cs) : v = v.cells.toList.headD undef := by
 cases v <;> first | rfl | exact (h _ rfl).elim
theorem z3t {e : TypeId} (hu : P.underlying t = some (.slice e)) (h : Value.okWide P w r base t v) : v = v.cells.toList.headD undef := by
 refine z3u fun cs e => ?_
 subst e
 unfold Value.okWide at h
 rw [hu] at h
 simp only [Cell.okWide, hu, Cell.ok] at h
theorem z36 {fs : Array Field} (hu : P.underlying t = some (.struct fs)) (h : Value.okWide P w r base t v) : v = .agg v.cells.toList.toArray := by
 unfold Value.okWide at h
 rw [hu] at h
 obtain ⟨cs, rfl, _⟩ := h
 rfl
theorem z3e {e : TypeId} {S : zq} {a : A} (hu : P.underlying t = some (.slice e)) (hr : Rep S a v.cells.toList) (h : Value.okWide P w r base t v) (ha : a.isAgg = false) : vY S a v := ⟨_, hr, by cases a <;> first | exact z3t hu h | cases ha⟩
theorem QU {fs : Array Field} {S : zq} {a : A} (hu : P.underlying t = some (.struct fs)) (hr : Rep S a v.cells.toList) (h : Value.okWide P w r base t v) (ha : a.isAgg = true) : vY S a v := ⟨_, hr, by cases a <;> first | exact z36 hu h | cases ha⟩
theorem z6A {S : zq} {h : Array Obj} {v : Value} {F : List Nat} (q : Has S h (.atom (.bool true)) v F) : v = .bool true := by
 rcases q with ⟨q, _⟩ | ⟨cs, q, _, rfl⟩
 ·rw [(zy.1 q).1]
 ·simp only [zP, Rep] at q
  obtain ⟨⟨rfl, _⟩, _⟩ := q
  rfl
end
open Go.Proofs
section
variable {H : Type} {enc : TypeId × Value → H} {w : World} {base : Nat} {spare : Nat → Bool} {held : Bool}
theorem z2Y : Tryz.prog.cellsOf 3 = 1 := by kernel_rfl
theorem rd3 {fuel : Nat} {cs : List Value} {x : DataW H × List MemPlace} (h : DataW.trod enc Tryz.prog w base spare held fuel 3 cs = some x) : ∃ a : Int, Ok3 a ∧ Rep (Q4 w) ((eI .i64) a) cs := by
 obtain ⟨n, h1, _, h2⟩ := z4u Tryz.underlying3 (lo := -9223372036854775808) (hi := 9223372036854775807) rfl rfl h
 exact ⟨n, h1, h2⟩
theorem z01 : Tryz.prog.cellsOf 26 = 1 := by kernel_rfl
theorem za7 {fuel : Nat} {cs : List Value} {x : DataW H × List MemPlace} (h : DataW.trod enc Tryz.prog w base spare held fuel 26 cs = some x) : ∃ a : List Int, z9c a ∧ Rep (Q4 w) ((eSl 1 false (eI .i64)) a) cs := by
 exact Vn (eI .i64) Ok3 Tryz.underlying26 z2Y (by omega) (fun _ => rfl) (fun _ _ _ q => rd3 q) h
theorem zaD : Tryz.prog.cellsOf 5 = 1 := by kernel_rfl
theorem rd5 {fuel : Nat} {cs : List Value} {x : DataW H × List MemPlace} (h : DataW.trod enc Tryz.prog w base spare held fuel 5 cs = some x) : ∃ a : Int, Ok5 a ∧ Rep (Q4 w) ((eI .u8) a) cs := by
 obtain ⟨n, h1, _, h2⟩ := z4u Tryz.underlying5 (lo := 0) (hi := 255) rfl rfl h
 exact ⟨n, h1, h2⟩
theorem z4U : Tryz.prog.cellsOf 98 = 5 := by kernel_rfl
theorem zeY {fuel : Nat} {cs : List Value} {x : DataW H × List MemPlace} (h : DataW.trod enc Tryz.prog w base spare held fuel 98 cs = some x) : ∃ a : zf, zdk a ∧ Rep (Q4 w) ((y8 (eI .i64) (eI .u8) (eI .i64) (eI .i64) (eI .i64)) a) cs := by
 obtain ⟨hl, hf⟩ := Zc Tryz.underlying98 h
 rw [z4U] at hl
 obtain ⟨_, _, q0⟩ := hf 0 _ rfl
 obtain ⟨_, _, q1⟩ := hf 1 _ rfl
 obtain ⟨_, _, q2⟩ := hf 2 _ rfl
 obtain ⟨_, _, q3⟩ := hf 3 _ rfl
 obtain ⟨_, _, q4⟩ := hf 4 _ rfl
 simp only [z2Y, zaD] at q0 q1 q2 q3 q4
 obtain ⟨a0, k0, r0⟩ := rd3 q0
 obtain ⟨a1, k1, r1⟩ := rd5 q1
 obtain ⟨a2, k2, r2⟩ := rd3 q2
 obtain ⟨a3, k3, r3⟩ := rd3 q3
 obtain ⟨a4, k4, r4⟩ := rd3 q4
 refine ⟨⟨a0, a1, a2, a3, a4⟩, ⟨k0, k1, k2, k3, k4⟩, ?_⟩
 show Rep (Q4 w) (.agg [(eI .i64) a0, (eI .u8) a1, (eI .i64) a2, (eI .i64) a3, (eI .i64) a4]) cs
 simp only [Rep]
 refine vI (n := 1) (by simpa [List.drop_drop] using r0) (vI (n := 1) (by simpa [List.drop_drop] using r1) (vI (n := 1) (by simpa [List.drop_drop] using r2) (vI (n := 1) (by simpa [List.drop_drop] using r3) (vI (n := 1) (by simpa [List.drop_drop] using r4) ?_))))
 simp only [List.drop_drop, yC]
 exact List.drop_eq_nil_of_le (by omega)
theorem z8W : Tryz.prog.cellsOf 85 = 1 := by kernel_rfl
theorem zf0 {fuel : Nat} {cs : List Value} {x : DataW H × List MemPlace} (h : DataW.trod enc Tryz.prog w base spare held fuel 85 cs = some x) : ∃ a : List zf, zev a ∧ Rep (Q4 w) ((eSl 5 false (y8 (eI .i64) (eI .u8) (eI .i64) (eI .i64) (eI .i64))) a) cs := by
 exact Vn (y8 (eI .i64) (eI .u8) (eI .i64) (eI .i64) (eI .i64)) zdk Tryz.underlying85 z4U (by omega) (fun _ => rfl) (fun _ _ _ q => zeY q) h
theorem z4V : Tryz.prog.cellsOf 87 = 3 := by kernel_rfl
theorem zeZ {fuel : Nat} {cs : List Value} {x : DataW H × List MemPlace} (h : DataW.trod enc Tryz.prog w base spare held fuel 87 cs = some x) : ∃ a : zk, zdl a ∧ Rep (Q4 w) ((yg (eI .i64) (eSl 5 false (y8 (eI .i64) (eI .u8) (eI .i64) (eI .i64) (eI .i64))) (eSl 1 false (eI .i64))) a) cs := by
 obtain ⟨hl, hf⟩ := Zc Tryz.underlying87 h
 rw [z4V] at hl
 obtain ⟨_, _, q0⟩ := hf 0 _ rfl
 obtain ⟨_, _, q1⟩ := hf 1 _ rfl
 obtain ⟨_, _, q2⟩ := hf 2 _ rfl
 simp only [z01, z2Y, z8W] at q0 q1 q2
 obtain ⟨a0, k0, r0⟩ := rd3 q0
 obtain ⟨a1, k1, r1⟩ := zf0 q1
 obtain ⟨a2, k2, r2⟩ := za7 q2
 refine ⟨⟨a0, a1, a2⟩, ⟨k0, k1, k2⟩, ?_⟩
 show Rep (Q4 w) (.agg [(eI .i64) a0, (eSl 5 false (y8 (eI .i64) (eI .u8) (eI .i64) (eI .i64) (eI .i64))) a1, (eSl 1 false (eI .i64)) a2]) cs
 simp only [Rep]
 refine vI (n := 1) (by simpa [List.drop_drop] using r0) (vI (n := 1) (by simpa [List.drop_drop] using r1) (vI (n := 1) (by simpa [List.drop_drop] using r2) ?_))
 simp only [List.drop_drop, yC]
 exact List.drop_eq_nil_of_le (by omega)
theorem z90 : Tryz.prog.cellsOf 27 = 1 := by kernel_rfl
theorem zf4 {fuel : Nat} {cs : List Value} {x : DataW H × List MemPlace} (h : DataW.trod enc Tryz.prog w base spare held fuel 27 cs = some x) : ∃ a : List zk, zez a ∧ Rep (Q4 w) ((eSl 3 false (yg (eI .i64) (eSl 5 false (y8 (eI .i64) (eI .u8) (eI .i64) (eI .i64) (eI .i64))) (eSl 1 false (eI .i64)))) a) cs := by
 exact Vn (yg (eI .i64) (eSl 5 false (y8 (eI .i64) (eI .u8) (eI .i64) (eI .i64) (eI .i64))) (eSl 1 false (eI .i64))) zdl Tryz.underlying27 z4V (by omega) (fun _ => rfl) (fun _ _ _ q => zeZ q) h
theorem z8Z : Tryz.prog.cellsOf 29 = 4 := by kernel_rfl
theorem zf3 {fuel : Nat} {cs : List Value} {x : DataW H × List MemPlace} (h : DataW.trod enc Tryz.prog w base spare held fuel 29 cs = some x) : ∃ a : z6, zey a ∧ Rep (Q4 w) ((xP (eI .i64) (eI .i64) (eSl 1 false (eI .i64)) (eSl 3 false (yg (eI .i64) (eSl 5 false (y8 (eI .i64) (eI .u8) (eI .i64) (eI .i64) (eI .i64))) (eSl 1 false (eI .i64))))) a) cs := by
 obtain ⟨hl, hf⟩ := Zc Tryz.underlying29 h
 rw [z8Z] at hl
 obtain ⟨_, _, q0⟩ := hf 0 _ rfl
 obtain ⟨_, _, q1⟩ := hf 1 _ rfl
 obtain ⟨_, _, q2⟩ := hf 2 _ rfl
 obtain ⟨_, _, q3⟩ := hf 3 _ rfl
 simp only [z01, z90, z2Y] at q0 q1 q2 q3
 obtain ⟨a0, k0, r0⟩ := rd3 q0
 obtain ⟨a1, k1, r1⟩ := rd3 q1
 obtain ⟨a2, k2, r2⟩ := za7 q2
 obtain ⟨a3, k3, r3⟩ := zf4 q3
 refine ⟨⟨a0, a1, a2, a3⟩, ⟨k0, k1, k2, k3⟩, ?_⟩
 show Rep (Q4 w) (.agg [(eI .i64) a0, (eI .i64) a1, (eSl 1 false (eI .i64)) a2, (eSl 3 false (yg (eI .i64) (eSl 5 false (y8 (eI .i64) (eI .u8) (eI .i64) (eI .i64) (eI .i64))) (eSl 1 false (eI .i64)))) a3]) cs
 simp only [Rep]
 refine vI (n := 1) (by simpa [List.drop_drop] using r0) (vI (n := 1) (by simpa [List.drop_drop] using r1) (vI (n := 1) (by simpa [List.drop_drop] using r2) (vI (n := 1) (by simpa [List.drop_drop] using r3) ?_)))
 simp only [List.drop_drop, yC]
 exact List.drop_eq_nil_of_le (by omega)
theorem z8Y : Tryz.prog.cellsOf 37 = 1 := by kernel_rfl
theorem zf2 {fuel : Nat} {cs : List Value} {x : DataW H × List MemPlace} (h : DataW.trod enc Tryz.prog w base spare held fuel 37 cs = some x) : ∃ a : List (List Int), zex a ∧ Rep (Q4 w) ((eSl 1 false (eSl 1 false (eI .i64))) a) cs := by
 exact Vn (eSl 1 false (eI .i64)) z9c Tryz.underlying37 z01 (by omega) (fun _ => rfl) (fun _ _ _ q => za7 q) h
theorem z8X : Tryz.prog.cellsOf 39 = 2 := by kernel_rfl
theorem zf1 {fuel : Nat} {cs : List Value} {x : DataW H × List MemPlace} (h : DataW.trod enc Tryz.prog w base spare held fuel 39 cs = some x) : ∃ a : z8, zew a ∧ Rep (Q4 w) ((zD (eSl 1 false (eI .i64)) (eSl 1 false (eSl 1 false (eI .i64)))) a) cs := by
 obtain ⟨hl, hf⟩ := Zc Tryz.underlying39 h
 rw [z8X] at hl
 obtain ⟨_, _, q0⟩ := hf 0 _ rfl
 obtain ⟨_, _, q1⟩ := hf 1 _ rfl
 simp only [z01, z8Y] at q0 q1
 obtain ⟨a0, k0, r0⟩ := za7 q0
 obtain ⟨a1, k1, r1⟩ := zf2 q1
 refine ⟨⟨a0, a1⟩, ⟨k0, k1⟩, ?_⟩
 show Rep (Q4 w) (.agg [(eSl 1 false (eI .i64)) a0, (eSl 1 false (eSl 1 false (eI .i64))) a1]) cs
 simp only [Rep]
 refine vI (n := 1) (by simpa [List.drop_drop] using r0) (vI (n := 1) (by simpa [List.drop_drop] using r1) ?_)
 simp only [List.drop_drop, yC]
 exact List.drop_eq_nil_of_le (by omega)
end
end Go.Own
namespace Go.Proofs.YtcldlioffanjaaaGreatDoor.systemsErrors
open Go Go.ChangeShapes Go.WideShapes Go.ChangeAt Go.RowKit
theorem own : ownKnob Tryz.prog.godebug = none := by kernel_rfl
theorem z8C : laidOutB Tryz.prog = true := by kernel_rfl
section
variable {H : Type} {enc : TypeId × Value → H} {W : World}
theorem z8o (u : TypeId) (h : Tryz.prog.typeName? 3 u = some "*errors.errorString") : u = 201 :=
 typeName_ptr_named (nm := "errors.errorString") (by rw [show "*" ++ "errors.errorString" = "*errors.errorString" by decide]; kernel_rfl) (by kernel_rfl) (by decide) u (by rw [show "*" ++ "errors.errorString" = "*errors.errorString" by decide]; exact h)
theorem z6D {W : World} (hL : laidMetH Tryz.prog Rows.systemsErrorsRow.laid W) : Go.Own.Gok (Go.Own.Q4 W) := by
 rw [MakeChecks.laidMetH_plain _ _ _ (by kernel_rfl)] at hL
 have hg : Tryz.prog.globalNamed "gauntlet/systems.errNo" = some 0 := by kernel_rfl
 obtain ⟨a, _, hv, _⟩ := laid_sentinel hL hg (show (Tryz.prog.globals[0]?).map (·.type) = some 154 by kernel_rfl) Tryz.underlying154 z8o Tryz.underlying201 Tryz.underlying226 rfl rfl Tryz.underlying9 (show Tryz.prog.cellsOf 226 = 1 by kernel_rfl) (show Tryz.prog.cellsOf 9 = 1 by kernel_rfl)
 have hw : W.cell? ⟨0, 0, none⟩ = some (.iface 201 (.pointer (some a))) := by
  have := World.var?_cell hg hv 0
  simpa using this
 have hc : Go.Own.Q4 W 0 0 = some (.iface 201 (.pointer (some a))) := (Go.Own.z2b hw).2
 intro g x e
 unfold Go.Own.zc7 at e
 split at e
 ·rename_i h0
  subst h0
  cases e
  refine ⟨[.iface 201 (.pointer (some a))], ⟨_, rfl, fun _ => ⟨hc, a, rfl⟩, fun h => by cases h⟩, fun j v hj => ?_⟩
  cases j with
  | zero => cases hj; exact hc
  | succ j => simp at hj
 ·cases e
set_option maxRecDepth 100000 in
theorem zeI {base : Nat} (hL : laidMetH Tryz.prog Rows.systemsErrorsRow.laid W) {v0 : Value} {d0 : DataW H} {p0 : List MemPlace} {v1 : Value} {d1 : DataW H} {p1 : List MemPlace} {v2 : Value} {d2 : DataW H} {p2 : List MemPlace} (h0 : DataW.Trod enc Tryz.prog W 0 (fun _ => true) true 29 v0 d0 p0) (h1 : DataW.Trod enc Tryz.prog W 0 (fun _ => true) true 39 v1 d1 p1) (h2 : DataW.Trod enc Tryz.prog W 0 (fun _ => true) true 26 v2 d2 p2) (k0 : Value.okWide Tryz.prog W .any base (29 : Nat) v0) (k1 : Value.okWide Tryz.prog W .any base (39 : Nat) v1) (k2 : Value.okWide Tryz.prog W .any base (26 : Nat) v2) :
  Calls Tryz.prog 7 #[v0, v1, v2] W fun e w' => e = .returned (.bool true) ∧ Go.Own.ZT (fun k => W.heap.size ≤ k) W w' := by
 obtain ⟨n0, h0⟩ := h0
 obtain ⟨x0, o0, r0⟩ := Go.Own.zf3 h0
 obtain ⟨n1, h1⟩ := h1
 obtain ⟨x1, o1, r1⟩ := Go.Own.zf1 h1
 obtain ⟨n2, h2⟩ := h2
 obtain ⟨x2, o2, r2⟩ := Go.Own.za7 h2
 have q := (Go.Own.z5S (Go.Own.z3k Go.Own.zbb List.mem_cons_self : Go.Own.uZ.Ok Tryz.prog) (x := (x0, x1, x2)) (r := true) (Go.Own.z6u o0 o1 o2)).2 (Go.Own.Q4 W) W [v0, v1, v2] [] ⟨fun _ _ _ h => h, z6D hL⟩ ?_ (by simp)
 ·refine Calls.mono q ?_
  rintro e w' ⟨v, S', F', rfl, hk, _, _, _, hr, _, _⟩
  refine ⟨?_, hk.mono (by rintro k (h | h) <;> simp_all)⟩
  rw [Go.Own.z6A hr]
 ·refine Go.Own.ZM ?_
  have g0 : Go.Own.vY (Go.Own.Q4 W) ((Go.Own.xP (Go.Own.eI .i64) (Go.Own.eI .i64) (Go.Own.eSl 1 false (Go.Own.eI .i64)) (Go.Own.eSl 3 false (Go.Own.yg (Go.Own.eI .i64) (Go.Own.eSl 5 false (Go.Own.y8 (Go.Own.eI .i64) (Go.Own.eI .u8) (Go.Own.eI .i64) (Go.Own.eI .i64) (Go.Own.eI .i64))) (Go.Own.eSl 1 false (Go.Own.eI .i64))))) x0) v0 := Go.Own.QU (t := (29 : Nat)) Tryz.underlying29 r0 k0 rfl
  have g1 : Go.Own.vY (Go.Own.Q4 W) ((Go.Own.zD (Go.Own.eSl 1 false (Go.Own.eI .i64)) (Go.Own.eSl 1 false (Go.Own.eSl 1 false (Go.Own.eI .i64)))) x1) v1 := Go.Own.QU (t := (39 : Nat)) Tryz.underlying39 r1 k1 rfl
  have g2 : Go.Own.vY (Go.Own.Q4 W) ((Go.Own.eSl 1 false (Go.Own.eI .i64)) x2) v2 := Go.Own.z3e (t := (26 : Nat)) Tryz.underlying26 r2 k2 rfl
  exact ⟨g0, g1, g2, trivial⟩
end
set_option maxRecDepth 100000 in
theorem z6F (os : Os) (args : Array Value) : laidMetH Tryz.prog Rows.systemsErrorsRow.laid ((World.doorLaid Tryz.prog 400 os).forCall (fun _ _ => 0) ⟨#[], args, []⟩).memory :=
 laidMetH_of_parts3 (fuel := 8) (laidMet_of_run' 8 (by kernel_rfl) (by kernel_rfl)) (by kernel_rfl) (by kernel_rfl)
set_option maxRecDepth 100000 in
theorem zaj (os : Os) (started : os.Started) (H : Type) (enc : TypeId × Value → H) :
  ReturnsInHanded {} Tryz.checked os 7 .any (fun w args => (Rows.systemsErrorsSpec.pre enc Tryz.prog Tryz.f7 Rows.systemsErrorsRow.domain false w args ∧ laidMetH Tryz.prog Rows.systemsErrorsRow.laid w) ∧ sizedMet enc Tryz.prog Tryz.f7 (OpenSpec.ofChange Rows.systemsErrorsSpec) false w args) (Rows.systemsErrorsSpec.post enc Tryz.prog Tryz.f7 false true false false) := by
 refine returnsInHanded_of_change_and (C := Tryz.checked) (X := fun w _ => laidMetH Tryz.prog Rows.systemsErrorsRow.laid w) (fun _ _ _ hh h => h.of_heap hh) own started (by kernel_rfl) Tryz.func7
  (ChangeSpec.witness_shaped (enc := enc) (C := Tryz.checked) (os := os) (X := fun w _ => laidMetH Tryz.prog Rows.systemsErrorsRow.laid w) false (World.doorLaid Tryz.prog 400 os) #[.agg #[.int .i64 0, .int .i64 0, .slice none 0 0, .slice none 0 0], .agg #[.slice none 0 0, .slice none 0 0], .slice none 0 0] 8 rfl (World.shaped_of_RefB (by kernel_rfl) (by kernel_rfl)) (by kernel_rfl) (by kernel_rfl) (by kernel_rfl) (z6F os _)) ?_
 intro W base args ds gs before hval0 hW hcnd _ hL _
 have hval : ∀ (j : Nat) t v, Tryz.f7.params[j]? = some t → args[j]? = some v → Value.okWide Tryz.prog W .any base t v := hval0
 have hW' := hW
 obtain ⟨p, q, hA0, hV, rfl, hfz, hnd⟩ := hW
 have hA : DataW.TrodAll enc Tryz.prog W 0 (fun _ => true) true Tryz.f7.params.toList args.toList ds p := hA0
 rw [Tryz.params7] at hA hval
 obtain ⟨v0, v1, v2, d0, d1, d2, p0, p1, p2, rfl, rfl, rfl, h0, h1, h2⟩ := trodAll_three hA
 obtain ⟨rfl, rfl⟩ := trodVars_none hV
 clear hA0 hval0
 refine (zeI hL h0 h1 h2 (hval 0 (29 : Nat) v0 rfl rfl) (hval 1 (39 : Nat) v1 rfl rfl) (hval 2 (26 : Nat) v2 rfl rfl)).mono fun e W' ⟨he, hk⟩ => ?_
 subst he
 have hb : Below W.heap.size W W' := ⟨hk.os, hk.tape, hk.output, hk.size, fun k q => hk.block k (by omega)⟩
 have hlt : ∀ x ∈ p0 ++ p1 ++ p2, x.block < W.heap.size := fun x hx => by simpa using hW'.lt x (by simpa using hx)
 refine ⟨_, rfl, Go.Own.z41 rfl rfl hW' hb (fun _ _ _ => trodAll_cons_mk (shut_bool Tryz.underlying4 _) trodAll_mk0) (fun sp hsp => ?_) (ok_one (by kernel_rfl) rfl (okWide_bool_mk Tryz.underlying4 _))⟩
 have st : ∀ {t : Nat} {v : Value} {d : DataW H} {p' : List MemPlace}, DataW.Trod enc Tryz.prog W 0 (fun _ => true) true t v d p' → Tryz.prog.readableRec t = true → t < Tryz.prog.types.size → (∀ x ∈ p', x ∈ p0 ++ p1 ++ p2) → DataW.Trod enc Tryz.prog W' 0 sp true t v d p' := by
  intro t v d p' hd h1 h2 hp
  exact WideElems.Trod_stays z8C h1 h2 hd (fun x hx => hb.same (hlt x (hp x hx))) (fun x hx => hsp x (by simpa using hp x hx))
 have := trodAll_mk3 (st h0 (by kernel_rfl) (of_decide_eq_true (by kernel_rfl)) (fun x hx => by simp [hx])) (st h1 (by kernel_rfl) (of_decide_eq_true (by kernel_rfl)) (fun x hx => by simp [hx])) (st h2 (by kernel_rfl) (of_decide_eq_true (by kernel_rfl)) (fun x hx => by simp [hx]))
 rw [← List.append_assoc] at this
 rw [Tryz.params7]
 exact this
theorem XV : Rows.systemsErrorsRow.holds Tryz.pinned (OpenSpec.ofChange Rows.systemsErrorsSpec) :=
 OpenClaim.holds_of_wide 7 Tryz.f7 rfl rfl rfl rfl rfl rfl rfl ⟨rfl, rfl, rfl, rfl, rfl⟩ rfl rfl rfl rfl rfl (by kernel_rfl) Tryz.func7 (by kernel_rfl)
  (of_decide_eq_true (by kernel_rfl)) (by unfold Func.isWrapper; first | (rw [if_pos (by decide +kernel)]; kernel_rfl) | (rw [if_neg (by decide +kernel)]; exact ⟨rfl, rfl⟩))
  (fun os started H enc _ => zaj os started H enc)
theorem proved : Rows.SystemsErrorsCardSaid :=
 Claim7.holds_tied_plain_at .later [] [.sentinel] true (true, "7a337c67efc784e1f6936414ec661573001676227fe3319059bdf7cee06bd026") true
  XV (fun _ h => by cases h) (by kernel_rfl) (fun _ h => by cases h) systemsErrors_row_tie rfl ⟨rfl, rfl⟩ (by kernel_rfl) rfl
  (fun f fn hf hfn => by
   obtain rfl : f = 7 := Option.some.inj ((show Tryz.prog.funcNamed "gauntlet/gauntletlaw31.SystemsErrors" = some 7 by kernel_rfl).symm.trans hf) |>.symm
   obtain rfl : fn = Tryz.f7 := (Option.some.inj (Tryz.func7.symm.trans hfn)).symm
   exact ⟨by kernel_rfl, fun j t ht => by
    rw [Tryz.params7] at ht
    have hm : t ∈ [29, 39, 26] := by simpa using Array.mem_of_getElem? ht
    have hall : ([29, 39, 26].all fun u => !Tryz.prog.wantsStandIn u) = true := by kernel_rfl
    exact (show Tryz.prog.wantsStandIn t = false by simpa using List.all_eq_true.1 hall t hm)⟩)
  (by kernel_rfl)
#print axioms proved
end Go.Proofs.YtcldlioffanjaaaGreatDoor.systemsErrors
