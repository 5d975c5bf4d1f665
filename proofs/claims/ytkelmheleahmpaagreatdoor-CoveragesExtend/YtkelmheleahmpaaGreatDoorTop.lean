/- -/
import Derived.Test.YtkelmheleahmpaaGreatDoorPartG
import Derived.Test.YtkelmheleahmpaaGreatDoorPartE
import Derived.Test.YtkelmheleahmpaaGreatDoorPartB
import Derived.OpenShut
import Derived.ChangeShapes
import Derived.Test.YtkelmheleahmpaaGreatDoorPartC
import Derived.WalkKit
import Derived.ProofKit
import Derived.Carry
import Derived.Test.YtkelmheleahmpaaGreatDoorRows
import Derived.Test.YtkelmheleahmpaaGreatDoorChecked
import Derived.LaidMore
import Derived.Stop.Joined
import Derived.SevenTiedAt
import Derived.Test.YtkelmheleahmpaaGreatDoorCards
import Derived.Test.YtkelmheleahmpaaGreatDoorTie
set_option linter.unusedVariables false
set_option linter.unusedSimpArgs false
namespace Go.Own
open Classical
variable {α : Type}
theorem Wm {f : Nat → List α} (key : α → Nat) : ∀ n, (∀ i, i < n → (f i).Nodup ∧ ∀ x ∈ f i, key x = i) → ((List.range n).flatMap f).Nodup
 | 0, _ => by simp
 | n + 1, h => by
  rw [List.range_succ, List.flatMap_append, List.flatMap_cons, List.flatMap_nil, List.append_nil, List.nodup_append]
  refine ⟨Wm key n fun i hi => h i (by omega), (h n (by omega)).1, ?_⟩
  intro a ha b hb e
  subst e
  obtain ⟨i, hi, hx⟩ := List.mem_flatMap.1 ha
  have hi := List.mem_range.1 hi
  have h1 := (h i (by omega)).2 a hx
  have h2 := (h n (by omega)).2 a hb
  omega
theorem z5X {α β : Type} {l1 : List α} {l2 : List β} (f : α → β) (n1 : l1.Nodup) (n2 : l2.Nodup) (hf : ∀ x ∈ l1, ∀ y ∈ l1, f x = f y → x = y) (hm : ∀ b, b ∈ l2 ↔ ∃ a ∈ l1, f a = b) : l1.length = l2.length := by
 have n3 : (l1.map f).Nodup := by
  unfold List.Nodup
  rw [List.pairwise_map]
  exact List.Pairwise.imp_of_mem (fun {a b} ha hb q e => q (hf a ha b hb e)) n1
 have hp : (l1.map f).Perm l2 := (List.perm_ext_iff_of_nodup n3 n2).2 fun b => by rw [hm, List.mem_map]
 rw [← hp.length_eq, List.length_map]
variable {l : List (List Nat)}{g : Nat}{t : T3}
section
variable {m : z6} (h : VM m)
include h
omit h in
theorem z0A : Rc m 0 := ⟨[], fun i hi => by simp at hi, rfl⟩
theorem z2P {t i : Nat} (ht : t < m.Rows.length) (hr : Rc m t) (hi : i < kk m) (hn : (E m t i).To ≠ -1) : Rc m (E m t i).To.toNat := by
 obtain ⟨u, hu, ha⟩ := hr
 obtain ⟨q1, q2⟩ := WI h ht hi hn
 refine ⟨u ++ [i], fun j hj => ?_, ?_⟩
 ·rcases List.mem_append.1 hj with q | q
  ·exact hu j q
  ·simp only [List.mem_singleton] at q; subst q; exact hi
 ·rw [UA, ha]
  show (nxE m (t : Int) i).To = _
  unfold nxE
  rw [if_neg (by omega), q2]
  rfl
theorem z5C : ∀ (w : List Nat) (t s : Nat), t < m.Rows.length → Rc m t → Wd (kk m) w → z2B m s t w → s < m.Rows.length ∧ Rc m s
 | [], t, s, ht, hr, _, q => by simp only [z2B] at q; subst q; exact ⟨ht, hr⟩
 | i :: w, t, s, ht, hr, hw, q => by
  have hi : i < kk m := hw i (by simp)
  simp only [z2B] at q
  rcases q with q | ⟨hn, q⟩
  ·subst q; exact ⟨ht, hr⟩
  ·exact z5C w _ s (WI h ht hi hn).1 (z2P h ht hr hi hn) (fun j hj => hw j (by simp [hj])) q
theorem z5E : ∀ (w : List Nat) (t s j : Nat), t < m.Rows.length → Rc m t → Wd (kk m) w → z6A m s j t w → s < m.Rows.length ∧ Rc m s ∧ j < kk m ∧ (E m s j).To ≠ -1
 | [], t, s, j, _, _, _, q => q.elim
 | i :: w, t, s, j, ht, hr, hw, q => by
  have hi : i < kk m := hw i (by simp)
  obtain ⟨hn, q⟩ := q
  rcases q with ⟨rfl, rfl⟩ | q
  ·exact ⟨ht, hr, hi, hn⟩
  ·exact z5E w _ s j (WI h ht hi hn).1 (z2P h ht hr hi hn) (fun j hj => hw j (by simp [hj])) q
theorem z5D : ∀ (w : List Nat) (t s j k : Nat), t < m.Rows.length → Rc m t → Wd (kk m) w → z7c m s j k t w → s < m.Rows.length ∧ Rc m s ∧ j < kk m ∧ (E m s j).To ≠ -1 ∧ k < kk m ∧ (E m (E m s j).To.toNat k).To ≠ -1
 | [], t, s, j, k, _, _, _, q => q.elim
 | i :: w, t, s, j, k, ht, hr, hw, q => by
  have hi : i < kk m := hw i (by simp)
  obtain ⟨hn, q⟩ := q
  rcases q with ⟨rfl, rfl, q⟩ | q
  ·refine ⟨ht, hr, hi, hn, ?_⟩
   cases w with
   | nil => exact q.elim
   | cons a w =>
    obtain ⟨rfl, q2⟩ := q
    exact ⟨hw a (by simp), q2⟩
  ·exact z5D w _ s j k (WI h ht hi hn).1 (z2P h ht hr hi hn) (fun j hj => hw j (by simp [hj])) q
omit h in
theorem z0M {s i : Nat}  : t ∈ z4T m s i ↔ ∃ j, j < kk m ∧ (E m (E m s i).To.toNat j).To ≠ -1 ∧ t = (s, i, j) := by
 unfold z4T
 rw [List.mem_flatMap]
 constructor
 ·rintro ⟨j, hj, q⟩
  split at q
  ·simp at q
  ·rename_i hn
   exact ⟨j, List.mem_range.1 hj, hn, by simpa using q⟩
 ·rintro ⟨j, hj, hn, rfl⟩
  exact ⟨j, List.mem_range.2 hj, by rw [if_neg hn]; simp⟩
omit h in
theorem Wi {g s i : Nat}  : t ∈ K9 m g s i ↔ (E m s i).To ≠ -1 ∧ ((g = 1 ∧ t = (s, i, 0)) ∨ (g ≠ 1 ∧ t ∈ z4T m s i)) := by
 unfold K9
 split
 ·rename_i hn; simp [hn]
 ·rename_i hn
  split
  ·rename_i h1; simp [hn, h1]
  ·rename_i h1; simp [hn, h1]
omit h in
theorem kX {g s : Nat}  : t ∈ z2s m g s ↔ (g = 0 ∧ t = (s, 0, 0)) ∨ (g ≠ 0 ∧ ∃ i, i < kk m ∧ t ∈ K9 m g s i) := by
 unfold z2s
 split
 ·rename_i h0; simp [h0]
 ·rename_i h0
  simp [h0, List.mem_flatMap]
omit h in
theorem Vw : t ∈ GL m g ↔ ∃ s, s < m.Rows.length ∧ Rc m s ∧ t ∈ z2s m g s := by
 unfold GL
 rw [List.mem_flatMap]
 constructor
 ·rintro ⟨s, hs, q⟩
  split at q
  ·rename_i hr; exact ⟨s, List.mem_range.1 hs, hr, q⟩
  ·simp at q
 ·rintro ⟨s, hs, hr, q⟩
  exact ⟨s, List.mem_range.2 hs, by rw [if_pos hr]; exact q⟩
omit h in
theorem z8U (g : Nat) : (GL m g).Nodup := by
 have hP : ∀ s i, (z4T m s i).Nodup := fun s i => by
  unfold z4T
  refine Wm (fun t : T3 => t.2.2) _ fun j _ => ⟨?_, ?_⟩
  ·split <;> simp
  ·intro x hx
   split at hx
   ·simp at hx
   ·simp only [List.mem_singleton] at hx; subst hx; rfl
 have hE : ∀ s i, (K9 m g s i).Nodup := fun s i => by
  unfold K9
  split
  ·simp
  split
  ·simp
  ·exact hP s i
 have hE1 : ∀ s i, ∀ t ∈ K9 m g s i, t.1 = s ∧ t.2.1 = i := fun s i t ht => by
  rcases (Wi.1 ht).2 with ⟨_, rfl⟩ | ⟨_, q⟩
  ·exact ⟨rfl, rfl⟩
  ·obtain ⟨j, _, _, rfl⟩ := z0M.1 q
   exact ⟨rfl, rfl⟩
 unfold GL
 refine Wm (fun t : T3 => t.1) _ fun s _ => ⟨?_, ?_⟩
 ·split
  ·unfold z2s
   split
   ·simp
   ·exact Wm (fun t : T3 => t.2.1) _ fun i _ => ⟨hE s i, fun t ht => (hE1 s i t ht).2⟩
  ·simp
 ·intro t ht
  split at ht
  ·rcases kX.1 ht with ⟨_, rfl⟩ | ⟨_, i, _, q⟩
   ·rfl
   ·exact (hE1 s i t q).1
  ·simp at ht
def z4I (g : Nat) (x : Mk3) : Nat := if g = 0 then x.1.length else if g = 1 then x.2.1.length else x.2.2.length
omit h in
theorem zfh : zdA ([0], [], []) := ⟨fun y hy => ⟨0, by simpa using hy⟩, fun y hy => by simp at hy, fun y hy => by simp at hy⟩
theorem z2n {l : List (List Nat)} (hl : WL m l) :
  (∀ s : Nat, (s : Int) ∈ (cv0 m l).1 ↔ Y5 m l ⟨s, -1, -1⟩) ∧ (∀ s j : Nat, (⟨s, j⟩ : xp Int) ∈ (cv0 m l).2.1 ↔ Y5 m l ⟨s, j, -1⟩) ∧ (∀ s j k : Nat, (⟨s, j, k⟩ : z8) ∈ (cv0 m l).2.2 ↔ Y5 m l ⟨s, j, k⟩) := by
 obtain ⟨a1, a2, a3⟩ := zbe h (l := l) (x := ([0], [], [])) (fun w hw => (hl.2 w hw).1) (by simp)
 refine ⟨fun s => ?_, fun s j => ?_, fun s j k => ?_⟩
 ·show (s : Int) ∈ (cvA m l _).1 ↔ _
  rw [a1]
  unfold Y5
  simp only [z2o, List.mem_singleton, za.mk.injEq, and_true]
  exact or_comm
 ·show (⟨s, j⟩ : xp Int) ∈ (cvA m l _).2.1 ↔ _
  rw [a2]
  unfold Y5
  simp only [z2p, List.not_mem_nil, false_or, za.mk.injEq]
  constructor
  ·exact .inl
  ·rintro (q | q)
   ·exact q
   ·omega
 ·show (⟨s, j, k⟩ : z8) ∈ (cvA m l _).2.2 ↔ _
  rw [a3]
  unfold Y5
  simp only [z42, List.not_mem_nil, false_or, za.mk.injEq]
  constructor
  ·exact .inl
  ·rintro (q | q)
   ·exact q
   ·omega
theorem zd6 (hl : WL m l) :
  (∀ s : Nat, Y5 m l ⟨s, -1, -1⟩ → (s, 0, 0) ∈ GL m 0) ∧ (∀ s j : Nat, Y5 m l ⟨s, j, -1⟩ → (s, j, 0) ∈ GL m 1) ∧ (∀ s j k : Nat, Y5 m l ⟨s, j, k⟩ → (s, j, k) ∈ GL m 2) := by
 refine ⟨fun s q => ?_, fun s j q => ?_, fun s j k q => ?_⟩
 ·rw [Vw]
  rcases q with ⟨w, hw, q⟩ | q
  ·obtain ⟨b1, b2⟩ := z5C h w 0 s h.len1 z0A (hl.2 w hw).1 ((z2o s w 0).1 q)
   exact ⟨s, b1, b2, kX.2 (.inl ⟨rfl, rfl⟩)⟩
  ·simp only [za.mk.injEq, and_true] at q
   have : s = 0 := by omega
   subst this
   exact ⟨0, h.len1, z0A, kX.2 (.inl ⟨rfl, rfl⟩)⟩
 ·rw [Vw]
  rcases q with ⟨w, hw, q⟩ | q
  ·obtain ⟨b1, b2, b3, b4⟩ := z5E h w 0 s j h.len1 z0A (hl.2 w hw).1 ((z2p s j w 0).1 q)
   exact ⟨s, b1, b2, kX.2 (.inr ⟨by decide, j, b3, Wi.2 ⟨b4, .inl ⟨rfl, rfl⟩⟩⟩)⟩
  ·simp only [za.mk.injEq] at q; omega
 ·rw [Vw]
  rcases q with ⟨w, hw, q⟩ | q
  ·obtain ⟨b1, b2, b3, b4, b5, b6⟩ := z5D h w 0 s j k h.len1 z0A (hl.2 w hw).1 ((z42 s j k w 0).1 q)
   exact ⟨s, b1, b2, kX.2 (.inr ⟨by decide, j, b3, Wi.2 ⟨b4, .inr ⟨by decide, z0M.2 ⟨k, b5, b6, rfl⟩⟩⟩⟩)⟩
  ·simp only [za.mk.injEq] at q; omega
noncomputable def cvL (m : z6) (l : List (List Nat)) (g : Nat) : List T3 := (GL m g).filter fun t => decide (Y5 m l (toI g t))
theorem zd7 {l : List (List Nat)} (hl : WL m l)  (hg : g < 3) : (cvL m l g).length = z4I g (cv0 m l) := by
 obtain ⟨a1, a2, a3⟩ := z2n h hl
 obtain ⟨b1, b2, b3⟩ := zd6 h hl
 obtain ⟨c1, c2, c3⟩ := z6x h (l := l) (x := ([0], [], [])) (by simp)
 obtain ⟨d1, d2, d3⟩ := z8u h (l := l) (fun w hw => (hl.2 w hw).1) zfh
 have hnd : (cvL m l g).Nodup := List.Nodup.sublist List.filter_sublist (z8U g)
 have hmem : ∀ t, t ∈ cvL m l g ↔ t ∈ GL m g ∧ Y5 m l (toI g t) := fun t => by unfold cvL; rw [List.mem_filter]; simp
 have hg : g = 0 ∨ g = 1 ∨ g = 2 := by omega
 rcases hg with rfl | rfl | rfl
 ·refine z5X (l2 := (cv0 m l).1) (fun t : T3 => (t.1 : Int)) hnd c1 ?_ ?_
  ·intro x hx y hy e
   obtain ⟨s, _, _, q⟩ := Vw.1 ((hmem x).1 hx).1
   obtain ⟨s', _, _, q'⟩ := Vw.1 ((hmem y).1 hy).1
   simp only [kX, true_and, ne_eq, not_true_eq_false, false_and, or_false] at q q'
   subst q q'
   have e' : (s : Int) = (s' : Int) := e
   have : s = s' := by omega
   rw [this]
  ·intro b
   constructor
   ·intro hb
    obtain ⟨s, rfl⟩ := d1 b hb
    exact ⟨(s, 0, 0), (hmem _).2 ⟨b1 s ((a1 s).1 hb), (a1 s).1 hb⟩, rfl⟩
   ·rintro ⟨t, ht, rfl⟩
    exact (a1 t.1).2 ((hmem t).1 ht).2
 ·refine z5X (l2 := (cv0 m l).2.1) (fun t : T3 => (⟨t.1, t.2.1⟩ : xp Int)) hnd c2 ?_ ?_
  ·intro x hx y hy e
   obtain ⟨s, _, _, q⟩ := Vw.1 ((hmem x).1 hx).1
   obtain ⟨s', _, _, q'⟩ := Vw.1 ((hmem y).1 hy).1
   simp only [kX, Wi, Nat.one_ne_zero, false_and, false_or, ne_eq, not_false_eq_true, true_and, not_true_eq_false, or_false] at q q'
   obtain ⟨i, _, _, rfl⟩ := q
   obtain ⟨i', _, _, rfl⟩ := q'
   simp only [xp.mk.injEq] at e
   have e1 : s = s' := by omega
   have e2 : i = i' := by omega
   rw [e1, e2]
  ·intro b
   constructor
   ·intro hb
    obtain ⟨s, j, rfl⟩ := d2 b hb
    exact ⟨(s, j, 0), (hmem _).2 ⟨b2 s j ((a2 s j).1 hb), (a2 s j).1 hb⟩, rfl⟩
   ·rintro ⟨t, ht, rfl⟩
    exact (a2 t.1 t.2.1).2 ((hmem t).1 ht).2
 ·refine z5X (l2 := (cv0 m l).2.2) (fun t : T3 => (⟨t.1, t.2.1, t.2.2⟩ : z8)) hnd c3 ?_ ?_
  ·intro x hx y hy e
   simp only [z8.mk.injEq] at e
   have e1 : x.1 = y.1 := by omega
   have e2 : x.2.1 = y.2.1 := by omega
   have e3 : x.2.2 = y.2.2 := by omega
   exact Prod.ext e1 (Prod.ext e2 e3)
  ·intro b
   constructor
   ·intro hb
    obtain ⟨s, j, k, rfl⟩ := d3 b hb
    exact ⟨(s, j, k), (hmem _).2 ⟨b3 s j k ((a3 s j k).1 hb), (a3 s j k).1 hb⟩, rfl⟩
   ·rintro ⟨t, ht, rfl⟩
    exact (a3 t.1 t.2.1 t.2.2).2 ((hmem t).1 ht).2
noncomputable def msL (m : z6) (l : List (List Nat)) (g : Nat) : List za := ((GL m g).map (toI g)).filter fun x => !decide (Y5 m l x)
theorem zcH (hl : WL m l)  (hg : g < 3) : (msL m l g).length + z4I g (cv0 m l) = (GL m g).length := by
 rw [← zd7 h hl hg]
 unfold msL cvL
 generalize GL m g = L
 induction L with
 | nil => rfl
 | cons t L ih =>
  rw [List.map_cons, List.filter_cons, List.filter_cons]
  by_cases hc : Y5 m l (toI g t)
  ·simp only [hc, decide_true, Bool.not_true, Bool.false_eq_true, if_false, if_true, List.length_cons]
   omega
  ·simp only [hc, decide_false, Bool.not_false, Bool.false_eq_true, if_false, if_true, List.length_cons]
   omega
end
open Classical
theorem z8V {k n : Nat} (hk : k ≤ 3) (hn : n ≤ 6) : GG k n ≤ 1000000000 := by
 have h1 : GG k n ≤ GG k 6 := z1b hn
 have h2 : GG k 6 ≤ 1000000000 := by
  have : k = 0 ∨ k = 1 ∨ k = 2 ∨ k = 3 := by omega
  rcases this with rfl | rfl | rfl | rfl <;> decide
 omega
section
variable {m : z6} (h : VM m)
include h
theorem zbJ {w : List Int} (h0 : ∀ v ∈ w, 0 ≤ v ∧ v ≤ 255) : Ret (Yz w m.Inputs 8) fun r => ∃ u : List Nat, r = wN u ∧ Wd (kk m) u ∧ u.length ≤ 8 := by
 have hk := h.kk_eq
 have hp := h.kk_pos
 unfold Yz
 rw [vj]
 refine Ret.mono (wC (fun s => ∃ (i : Nat) (u : List Nat), s = (wN u, (i : Int)) ∧ u.length = i ∧ i ≤ 8 ∧ Wd (kk m) u) (fun s => 8 - s.2.toNat) (R := fun r => ∃ u : List Nat, r = wN u ∧ Wd (kk m) u ∧ u.length ≤ 8) ⟨0, [], rfl, rfl, by omega, fun i hi => by simp at hi⟩ (by simp) ?_) fun r q => by unfold Zb; rw [zB]; exact q
 rintro s ⟨i, u, rfl, hu, hi, hw⟩
 unfold Za
 simp only
 rw [yp]
 constructor
 ·intro c1
  have c1 : (i : Int) < (w.length : Int) := by simpa using c1
  rw [yp]
  constructor
  ·intro c2
   have c2 : (i : Int) < 8 := by simpa using c2
   have hi' : i < w.length := by omega
   have hx := List.getElem?_eq_getElem hi'
   obtain ⟨v0, v1⟩ := h0 _ (List.getElem_mem hi')
   rw [xo, hx, oB, gdT (by have := h.in1; omega), xT (by omega) (by omega), gdT (by rw [kH]; simp; omega), zB]
   obtain ⟨v, hv⟩ : ∃ v : Nat, w[i] = (v : Int) := ⟨w[i].toNat, by omega⟩
   have e : Int.tmod w[i] m.Inputs = ((v % kk m : Nat) : Int) := by
    rw [hv, ← hk]
    rfl
   refine ⟨⟨i + 1, u ++ [v % kk m], ?_, by simp [hu], by omega, ?_⟩, ?_⟩
   ·rw [e, xq (by omega)]
    simp [wN]
   ·intro j hj
    rcases List.mem_append.1 hj with q | q
    ·exact hw j q
    ·simp only [List.mem_singleton] at q; subst q; exact Nat.mod_lt _ (by omega)
   ·rw [xq (by omega)]; omega
  ·intro _
   rw [zB]
   exact ⟨u, rfl, hw, by omega⟩
 ·intro _
  rw [zB]
  exact ⟨u, rfl, hw, by omega⟩
end
variable {m : z6}
theorem zaY : ∀ {l : List (List Int)}, (∀ w ∈ l, ∃ u : List Nat, w = wN u ∧ Wd (kk m) u ∧ u.length ≤ 256) → ∃ L : List (List Nat), l = lN L ∧ ∀ u ∈ L, Wd (kk m) u ∧ u.length ≤ 256
 | [], _ => ⟨[], rfl, fun u hu => by simp at hu⟩
 | w :: l, h => by
  obtain ⟨u, rfl, q⟩ := h w (by simp)
  obtain ⟨L, rfl, q2⟩ := zaY (l := l) (fun w hw => h w (by simp [hw]))
  refine ⟨u :: L, rfl, fun v hv => ?_⟩
  rcases List.mem_cons.1 hv with e | e
  ·rw [e]; exact q
  ·exact q2 v e
structure XOk (m : z6) (l : List (List Nat)) : Prop where
 vm : VM m
 gg : GG (kk m) m.Rows.length ≤ 1000000000
 rows : m.Rows.length ≤ 6
 kk3 : kk m ≤ 3
 wl : WL m l
 sw : SW (lN l)
 len : l.length ≤ 12
 w8 : ∀ w ∈ l, w.length ≤ 8
theorem XOk.ch (h : XOk m l) : chE m.Inputs (lN l) = 0 := by
 have hle : ∀ w ∈ lN l, w.length ≤ 8 := by
  intro w hw
  obtain ⟨u, hu, rfl⟩ := List.mem_map.1 hw
  rw [kH]; exact h.w8 u hu
 have hsy := Jg hle
 have hl := ui l
 have h12 := h.len
 refine z4a.2 ⟨QK.2 ⟨⟨h.vm.in1, h.vm.in16⟩, by omega, ?_⟩, h.sw, by omega⟩
 intro w hw
 refine ⟨by have := hle w hw; omega, ?_⟩
 obtain ⟨u, hu, rfl⟩ := List.mem_map.1 hw
 intro c hc
 obtain ⟨i, hi, rfl⟩ := List.mem_map.1 hc
 have := (h.wl.2 u hu).1 i hi
 have := h.vm.kk_eq
 simp only [Int.ofNat_eq_natCast]
 omega
theorem zhC {x : wc} (hM : MOk x.M) (hL : ∀ w ∈ x.L, ∀ v ∈ w, 0 ≤ v ∧ v ≤ 255) : Ret (Zp x) fun r => ∃ l : List (List Nat), r.2 = lN l ∧ XOk r.1 l := by
 obtain ⟨m, hm, v, _, hI, _, hR⟩ := zcE hM
 have hk : kk m ≤ 3 := by have := v.kk_eq; omega
 unfold Zp
 rw [hm, oB, vj]
 refine Ret.mono (wC (fun s => ∃ (i : Nat) (l : List (List Nat)), s = (lN l, (i : Int)) ∧ l.length = i ∧ i ≤ 12 ∧ ∀ u ∈ l, Wd (kk m) u ∧ u.length ≤ 8) (fun s => 12 - s.2.toNat) (R := fun r => ∃ l : List (List Nat), r = lN l ∧ l.length ≤ 12 ∧ ∀ u ∈ l, Wd (kk m) u ∧ u.length ≤ 8) ⟨0, [], rfl, rfl, by omega, fun i hi => by simp at hi⟩ (by simp) ?_) ?_
 ·rintro s ⟨i, l, rfl, hl, hi, hw⟩
  unfold kZ
  simp only
  rw [yp]
  constructor
  ·intro c1
   have c1 : (i : Int) < (x.L.length : Int) := by simpa using c1
   rw [yp]
   constructor
   ·intro c2
    have c2 : (i : Int) < 12 := by simpa using c2
    have hi' : i < x.L.length := by omega
    have hx := List.getElem?_eq_getElem hi'
    obtain ⟨r, e, u, rfl, hu, hu8⟩ := zbJ v (hL _ (List.getElem_mem hi'))
    rw [xo, hx, oB, e, oB, gdT (by rw [ui]; simp; omega), zB]
    refine ⟨⟨i + 1, l ++ [u], ?_, by simp [hl], by omega, ?_⟩, ?_⟩
    ·rw [xq (by omega)]
     simp [lN]
    ·intro z hz
     rcases List.mem_append.1 hz with q | q
     ·exact hw z q
     ·simp only [List.mem_singleton] at q; subst q; exact ⟨hu, hu8⟩
    ·rw [xq (by omega)]; omega
   ·intro _
    rw [zB]
    exact ⟨l, rfl, by omega, hw⟩
  ·intro _
   rw [zB]
   exact ⟨l, rfl, by omega, hw⟩
 ·rintro r ⟨l, rfl, hl, hw⟩
  unfold Z9
  have hlen : ∀ z ∈ lN l, z.length ≤ 8 := by
   intro z hz
   obtain ⟨u, hu, rfl⟩ := List.mem_map.1 hz
   rw [kH]; exact (hw u hu).2
  rw [z3A (by rw [ui]; omega) (fun z hz => by have := hlen z hz; omega), oB, zB]
  obtain ⟨L, e, q⟩ := zaY (m := m) (l := srt (lN l)) (fun z hz => by
   obtain ⟨u, hu, rfl⟩ := List.mem_map.1 (Yf.1 hz)
   exact ⟨u, rfl, (hw u hu).1, by have := (hw u hu).2; omega⟩)
  have hL12 : L.length ≤ 12 := by
   have := Jh (lN l)
   rw [e, ui, ui] at this
   omega
  refine ⟨L, e, v, z8V hk hR, hR, hk, ⟨by omega, q⟩, by show SW (lN L); rw [← e]; exact z1t _, hL12, ?_⟩
  intro u hu
  have : wN u ∈ srt (lN l) := by rw [e]; exact List.mem_map.2 ⟨u, hu, rfl⟩
  have := hlen _ (Yf.1 this)
  rwa [kH] at this
section
variable {m : z6} {l : List (List Nat)}
theorem z6E (v : VM m) (hc : chE m.Inputs (lN l) = 0) : xP m (lN l) = some 0 := by
 unfold xP
 rw [z49, z9t v, oB, z5b, hc]
 rfl
noncomputable def qJ (m : z6) (l : List (List Nat)) : y7 := ⟨⟨z4I 0 (cv0 m l), (GL m 0).length⟩, ⟨z4I 1 (cv0 m l), (GL m 1).length⟩, ⟨z4I 2 (cv0 m l), (GL m 2).length⟩⟩
theorem z8x (x : Mk3)  (hg : g < 3) : xO (g : Int) (mk3 x) = some (z4I g x : Int) := by
 have hg : g = 0 ∨ g = 1 ∨ g = 2 := by omega
 unfold xO mk3 mks z4I
 rcases hg with rfl | rfl | rfl <;> simp <;> rfl
theorem zcC (v : VM m) (hl : WL m l) (hc : chE m.Inputs (lN l) = 0) : uq m (lN l) = some (qJ m l, 0) := by
 unfold uq
 rw [z6E v hc, oB, show ((0 : Int) != 0) = false from rfl, cond_false, z05 v hl, oB]
 have step : ∀ (n : YI (xp Int)) (g : Nat), g < 3 → xQ m (mk3 (cv0 m l)) n (g : Int) = some (.next (YI.setI n (g : Int) ⟨(z4I g (cv0 m l) : Int), ((GL m g).length : Int)⟩, ((g + 1 : Nat) : Int))) := by
  intro n g hg
  unfold xQ
  rw [show decide ((g : Int) < 3) = true by simp; omega, cond_true, z8x _ hg, oB, z4c v hg, oB, List.length_map, xq (by omega)]
  have : ∃ c, idx (YI.toL n) (g : Int) = some c := by
   have hg : g = 0 ∨ g = 1 ∨ g = 2 := by omega
   rcases hg with rfl | rfl | rfl <;> exact ⟨_, rfl⟩
  obtain ⟨c, e⟩ := this
  rw [e]
  rfl
 have key : loop (fun s => xQ m (mk3 (cv0 m l)) s.1 s.2) ((YI.mk (xp.mk 0 0) (xp.mk 0 0) (xp.mk 0 0)), (0 : Int)) = some ⟨(qJ m l).States, (qJ m l).Edges, (qJ m l).Pairs⟩ := by
  refine QI (fun i => (match i with | 0 => (⟨⟨0, 0⟩, ⟨0, 0⟩, ⟨0, 0⟩⟩ : YI (xp Int)) | 1 => ⟨(qJ m l).States, ⟨0, 0⟩, ⟨0, 0⟩⟩ | 2 => ⟨(qJ m l).States, (qJ m l).Edges, ⟨0, 0⟩⟩ | _ => ⟨(qJ m l).States, (qJ m l).Edges, (qJ m l).Pairs⟩, (i : Int))) 3 (by decide) ?_ ?_
  ·intro i hi
   have hg : i = 0 ∨ i = 1 ∨ i = 2 := by omega
   rcases hg with rfl | rfl | rfl <;> exact step _ _ (by decide)
  ·show xQ m (mk3 (cv0 m l)) _ 3 = _
   unfold xQ
   rfl
 rw [key]
 rfl
end
open Classical
noncomputable def Xp (m : z6) (g : Nat) (t : T3) : List Nat := if g = 0 then z4g m t.1 else if g = 1 then z4g m t.1 ++ [t.2.1] else z4g m t.1 ++ [t.2.1, t.2.2]
noncomputable def exS (m : z6) (g : Nat) (out : List (List Nat)) (t : T3) : List (List Nat) := if Y5 m out (toI g t) then out else out ++ [Xp m g t]
noncomputable def exL (m : z6) (g : Nat) (l : List (List Nat)) : List (List Nat) := (GL m g).foldl (exS m g) l
def mkd (g : Nat) (t : T3) (x : Mk3) : Prop := if g = 0 then (t.1 : Int) ∈ x.1 else if g = 1 then (⟨t.1, t.2.1⟩ : xp Int) ∈ x.2.1 else (⟨t.1, t.2.1, t.2.2⟩ : z8) ∈ x.2.2
theorem zb8 (m : z6) (g : Nat) (t : T3) (x : Mk3) : W0 (toC m g t).has_ (mk3 x) = some (decide (mkd g t x)) := by
 unfold toC mkd
 by_cases h0 : g = 0
 ·simp only [if_pos h0, W0, jb, mk3, QH]; rfl
 ·by_cases h1 : g = 1
  ·simp only [if_neg h0, if_pos h1, W0, ja, mk3, QH]; rfl
  ·simp only [if_neg h0, if_neg h1, W0, j9, mk3, QH]; rfl
theorem z7h (m : z6) (g : Nat) (t : T3) : (toC m g t).word_ = wN (Xp m g t) := by
 unfold toC Xp
 by_cases h0 : g = 0
 ·simp only [if_pos h0]
 ·by_cases h1 : g = 1
  ·simp only [if_neg h0, if_pos h1]; simp [wN]
  ·simp only [if_neg h0, if_neg h1]; simp [wN]
theorem Y5.app {x : za} (h : Y5 m l x) (k : List (List Nat)) : Y5 m (l ++ k) x := by
 rcases h with ⟨w, hw, q⟩ | q
 ·exact .inl ⟨w, List.mem_append_left _ hw, q⟩
 ·exact .inr q
theorem Y5.congr {l k : List (List Nat)} {x : za} (h : ∀ w, w ∈ l ↔ w ∈ k) : Y5 m l x ↔ Y5 m k x := by
 unfold Y5
 simp only [h]
theorem zbc (m : z6) (g : Nat) (out : List (List Nat)) (t : T3) : ∃ k, exS m g out t = out ++ k ∧ k.length ≤ 1 ∧ ∀ w ∈ k, w = Xp m g t := by
 unfold exS
 split
 ·exact ⟨[], by simp, by simp, by simp⟩
 ·exact ⟨[Xp m g t], rfl, by simp, by simp⟩
theorem Uv (m : z6) (g : Nat) : ∀ (L : List T3) (out : List (List Nat)), ∃ k, L.foldl (exS m g) out = out ++ k ∧ k.length ≤ L.length ∧ ∀ w ∈ k, ∃ t ∈ L, w = Xp m g t
 | [], out => ⟨[], by simp, by simp, by simp⟩
 | t :: L, out => by
  obtain ⟨k1, e1, l1, w1⟩ := zbc m g out t
  obtain ⟨k2, e2, l2, w2⟩ := Uv m g L (exS m g out t)
  refine ⟨k1 ++ k2, by rw [List.foldl_cons, e2, e1, List.append_assoc], by simp; omega, fun w hw => ?_⟩
  rcases List.mem_append.1 hw with q | q
  ·exact ⟨t, by simp, w1 w q⟩
  ·obtain ⟨t', ht, q⟩ := w2 w q
   exact ⟨t', by simp [ht], q⟩
variable {K : List (List Nat)}
section
variable {m : z6} (h : VM m)
include h
theorem z9A {t : Nat} (ht : t < m.Rows.length) (hr : Rc m t) : Acc m t (z4g m t) := by
 obtain ⟨r, e, _, q⟩ := QT h
 exact ((z4f h q ht).2 hr).2
omit h in
theorem QR (t i : Nat) (w : List Nat) : aft m (t : Int) (i :: w) = aft m (E m t i).To w := by
 show aft m (nxE m (t : Int) i).To w = _
 rw [z0J]
omit h in
theorem z15 (w : List Nat) : aft m (-1) w < 0 := z16 m w (-1) (by omega)
theorem z40 : ∀ (w : List Nat) (t s : Nat), t < m.Rows.length → Wd (kk m) w → aft m (t : Int) w = (s : Int) → z2B m s t w
 | [], t, s, _, _, q => by
  have q : (t : Int) = (s : Int) := q
  show s = t
  omega
 | i :: w, t, s, ht, hw, q => by
  have hi : i < kk m := hw i (by simp)
  rw [QR] at q
  have hn : (E m t i).To ≠ -1 := by
   intro e
   rw [e] at q
   have := z15 (m := m) w
   omega
  obtain ⟨q1, q2⟩ := WI h ht hi hn
  rw [← q2] at q
  exact .inr ⟨hn, z40 w _ s q1 (fun j hj => hw j (by simp [hj])) q⟩
theorem z43 : ∀ (u : List Nat) (t s i : Nat), t < m.Rows.length → Wd (kk m) u → aft m (t : Int) u = (s : Int) → (E m s i).To ≠ -1 → ∀ v, z6A m s i t (u ++ i :: v)
 | [], t, s, i, _, _, q, hn, v => by
  have q : (t : Int) = (s : Int) := q
  have : t = s := by omega
  subst this
  exact ⟨hn, .inl ⟨rfl, rfl⟩⟩
 | j :: u, t, s, i, ht, hw, q, hn, v => by
  have hj : j < kk m := hw j (by simp)
  rw [QR] at q
  have hn' : (E m t j).To ≠ -1 := by
   intro e
   rw [e] at q
   have := z15 (m := m) u
   omega
  obtain ⟨q1, q2⟩ := WI h ht hj hn'
  rw [← q2] at q
  exact ⟨hn', .inr (z43 u _ s i q1 (fun j hj => hw j (by simp [hj])) q hn v)⟩
theorem z41 : ∀ (u : List Nat) (t s i k : Nat), t < m.Rows.length → Wd (kk m) u → aft m (t : Int) u = (s : Int) → (E m s i).To ≠ -1 → (E m (E m s i).To.toNat k).To ≠ -1 → z7c m s i k t (u ++ [i, k])
 | [], t, s, i, k, _, _, q, hn, hn2 => by
  have q : (t : Int) = (s : Int) := q
  have : t = s := by omega
  subst this
  exact ⟨hn, .inl ⟨rfl, rfl, rfl, hn2⟩⟩
 | j :: u, t, s, i, k, ht, hw, q, hn, hn2 => by
  have hj : j < kk m := hw j (by simp)
  rw [QR] at q
  have hn' : (E m t j).To ≠ -1 := by
   intro e
   rw [e] at q
   have := z15 (m := m) u
   omega
  obtain ⟨q1, q2⟩ := WI h ht hj hn'
  rw [← q2] at q
  exact ⟨hn', .inr (z41 u _ s i k q1 (fun j hj => hw j (by simp [hj])) q hn hn2)⟩
theorem z1a (hg : g < 3)  (ht : t ∈ GL m g) : t.1 < m.Rows.length ∧ Rc m t.1 ∧ (g ≠ 0 → t.2.1 < kk m ∧ (E m t.1 t.2.1).To ≠ -1) ∧ (g = 2 → t.2.2 < kk m ∧ (E m (E m t.1 t.2.1).To.toNat t.2.2).To ≠ -1) := by
 have _ := h
 obtain ⟨s, hs, hr, q⟩ := Vw.1 ht
 rcases kX.1 q with ⟨rfl, rfl⟩ | ⟨h0, i, hi, q⟩
 ·exact ⟨hs, hr, fun q => (q rfl).elim, fun q => by omega⟩
 ·obtain ⟨hn, q⟩ := Wi.1 q
  rcases q with ⟨rfl, rfl⟩ | ⟨h1, q⟩
  ·exact ⟨hs, hr, fun _ => ⟨hi, hn⟩, fun q => by omega⟩
  ·obtain ⟨j, hj, hn2, rfl⟩ := z0M.1 q
   exact ⟨hs, hr, fun _ => ⟨hi, hn⟩, fun _ => ⟨hj, hn2⟩⟩
theorem VW (hg : g < 3)  (ht : t ∈ GL m g) : Wd (kk m) (Xp m g t) ∧ (Xp m g t).length ≤ m.Rows.length + 1 ∧ W5 m (toI g t) 0 (Xp m g t) := by
 obtain ⟨a1, a2, a3, a4⟩ := z1a h hg ht
 have ha := z9A h a1 a2
 have hlen := ha.len
 have hg' : g = 0 ∨ g = 1 ∨ g = 2 := by omega
 unfold Xp toI
 rcases hg' with rfl | rfl | rfl
 ·simp only [if_true]
  exact ⟨ha.wd, by omega, (z2o _ _ _).2 (z40 h _ 0 _ h.len1 ha.wd ha.aft)⟩
 ·obtain ⟨b1, b2⟩ := a3 (by decide)
  simp only [Nat.one_ne_zero, if_false, if_true]
  refine ⟨fun j hj => ?_, by simp; omega, (z2p _ _ _ _).2 (z43 h _ 0 _ _ h.len1 ha.wd ha.aft b2 [])⟩
  rcases List.mem_append.1 hj with q | q
  ·exact ha.wd j q
  ·simp only [List.mem_singleton] at q; subst q; exact b1
 ·obtain ⟨b1, b2⟩ := a3 (by decide)
  obtain ⟨c1, c2⟩ := a4 rfl
  simp only [show ¬ (2 = 0) by decide, show ¬ (2 = 1) by decide, if_false]
  refine ⟨fun j hj => ?_, by simp; omega, (z42 _ _ _ _ _).2 (z41 h _ 0 _ _ _ h.len1 ha.wd ha.aft b2 c2)⟩
  rcases List.mem_append.1 hj with q | q
  ·exact ha.wd j q
  ·simp only [List.mem_cons, List.not_mem_nil, or_false] at q
   rcases q with rfl | rfl
   ·exact b1
   ·exact c1
theorem z9s (hg : g < 3) : ∀ (L : List T3), (∀ t ∈ L, t ∈ GL m g) → ∀ (out : List (List Nat)), ∀ t ∈ L, Y5 m (L.foldl (exS m g) out) (toI g t)
 | [], _, _, t, ht => by simp at ht
 | t0 :: L, hL, out, t, ht => by
  rw [List.foldl_cons]
  rcases List.mem_cons.1 ht with e | q
  ·subst e
   obtain ⟨k, e, _, _⟩ := Uv m g L (exS m g out t)
   rw [e]
   refine Y5.app ?_ k
   unfold exS
   split
   ·assumption
   ·exact .inl ⟨Xp m g t, by simp, (VW h hg (hL t (by simp))).2.2⟩
  ·exact z9s hg L (fun t ht => hL t (by simp [ht])) _ t q
variable {l : List (List Nat)} (hl : WL m l) (h12 : l.length ≤ 12 ∧ ∀ w ∈ l, w.length ≤ 8) (hR : m.Rows.length ≤ 6) (h3 : kk m ≤ 3)
include hl h12 hR h3
omit hl h12 in
theorem z19 (g : Nat) : (GL m g).length ≤ 54 := by
 have _ := h
 have hP : ∀ s i, (z4T m s i).length ≤ 3 := fun s i => by
  have := JY (g := fun j => if (E m (E m s i).To.toNat j).To = -1 then [] else [(s, i, j)]) (C := 1) (kk m) (fun j _ => by split <;> simp)
  unfold z4T
  omega
 have hE : ∀ s i, (K9 m g s i).length ≤ 3 := fun s i => by
  unfold K9
  split
  ·simp
  split
  ·simp
  ·exact hP s i
 have hS : ∀ s, (z2s m g s).length ≤ 9 := fun s => by
  unfold z2s
  split
  ·simp
  ·have := JY (g := K9 m g s) (C := 3) (kk m) (fun i _ => hE s i)
   omega
 have := JY (g := fun s => if Rc m s then z2s m g s else []) (C := 9) m.Rows.length (fun s _ => by split <;> first | exact hS s | simp)
 unfold GL
 omega
theorem z72 (hg : g < 3) (L : List T3) (hL : ∀ t ∈ L, t ∈ GL m g) (hn : L.length ≤ 54) : WL m (L.foldl (exS m g) l) := by
 have _ := h3
 have h12' := h12.1
 obtain ⟨k, e, a, b⟩ := Uv m g L l
 rw [e]
 refine ⟨by rw [List.length_append]; omega, fun w hw => ?_⟩
 rcases List.mem_append.1 hw with q | q
 ·exact hl.2 w q
 ·obtain ⟨t, ht, rfl⟩ := b w q
  have := VW h hg (hL t ht)
  exact ⟨this.1, by omega⟩
theorem z5Z (hg : g < 3) {out : List (List Nat)} (ho : WL m out) (t : T3) : mkd g t (cv0 m out) ↔ Y5 m out (toI g t) := by
 have _ := hl
 have _ := h12
 have _ := hR
 have _ := h3
 obtain ⟨a1, a2, a3⟩ := z2n h ho
 have hg' : g = 0 ∨ g = 1 ∨ g = 2 := by omega
 unfold mkd toI
 rcases hg' with rfl | rfl | rfl
 ·simp only [if_true]; exact a1 t.1
 ·simp only [Nat.one_ne_zero, if_false, if_true]; exact a2 t.1 t.2.1
 ·simp only [show ¬ (2 = 0) by decide, show ¬ (2 = 1) by decide, if_false]; exact a3 t.1 t.2.1 t.2.2
theorem z8v (out : List (List Nat)) (w : List Nat) : cv0 m (out ++ [w]) = WO m 0 none w (cv0 m out) := by
 have _ := h
 have _ := hl
 have _ := h12
 have _ := hR
 have _ := h3
 unfold cv0 cvA
 rw [List.foldl_append]
 rfl
theorem z4y (hg : g < 3) (hc : chE m.Inputs (lN l) = 0) : wS m (lN l) (g : Int) = some (srt (lN (exL m g l)), 0) := by
 have h12' := h12.1
 have hgs := z19 h hR h3 g
 unfold wS
 rw [z6E h hc, oB, show ((0 : Int) != 0) = false from rfl, cond_false, show decide ((g : Int) < 0) = false by simp, cond_false, show decide ((g : Int) ≥ 3) = false by simp; omega, cond_false, z05 h hl, oB, gdT (by rw [ui]; omega)]
 have e5 : loop (fun s => xA (lN l) s.1 s.2) (([] : List (List Int)), (0 : Int)) = some ([] ++ (List.range l.length).flatMap fun i => match l[i]? with | some w => [wN w] | none => []) := by
  refine vJ _ l.length (by omega) 1 0 (Nat.le_refl _) (fun i _ => by split <;> simp) ?_ ?_
  ·intro i out hi ho
   have hw := List.getElem?_eq_getElem hi
   have hm := hl.2 _ (List.getElem_mem hi)
   unfold xA
   rw [ui]
   simp only
   rw [show decide ((i : Int) < (l.length : Int)) = true by simp [hi], cond_true, z6j hw, oB, Wo _ (by rw [kH]; omega), oB, Uw, oB, gdT (by simp; omega), xq (by omega), hw]
  ·intro out
   unfold xA
   rw [ui]
   simp
 have gen : ∀ (L : List (List Nat)), ((List.range L.length).flatMap fun i => match L[i]? with | some w => [wN w] | none => []) = lN L := by
  intro L
  induction L with
  | nil => rfl
  | cons x L ih =>
   rw [List.length_cons, List.range_succ_eq_map, List.flatMap_cons, List.flatMap_map]
   show [wN x] ++ _ = _
   rw [show (List.range L.length).flatMap (fun a => match (x :: L)[a.succ]? with | some w => [wN w] | none => []) = lN L from ih]
   rfl
 rw [e5, List.nil_append, gen, oB]
 unfold vU
 rw [z4c h hg, oB]
 have key : ∀ L : List T3, L = GL m g → loop (fun s => wy m (L.map (toC m g)) s.1 s.2.1 s.2.2.1 s.2.2.2.1 s.2.2.2.2) ((mk3 (cv0 m l)).states_, (mk3 (cv0 m l)).edges_, (mk3 (cv0 m l)).pairs_, lN l, (0 : Int)) = some (lN (L.foldl (exS m g) l)) := by
  intro L hLG
  have hL : ∀ t ∈ L, t ∈ GL m g := by rw [hLG]; exact fun _ q => q
  have hLn : L.length ≤ 54 := by rw [hLG]; exact hgs
  refine Ret.eq (wC (fun s => ∃ i : Nat, i ≤ L.length ∧ s = ((mk3 (cv0 m ((L.take i).foldl (exS m g) l))).states_, (mk3 (cv0 m ((L.take i).foldl (exS m g) l))).edges_, (mk3 (cv0 m ((L.take i).foldl (exS m g) l))).pairs_, lN ((L.take i).foldl (exS m g) l), (i : Int)))
   (fun s => L.length - s.2.2.2.2.toNat) ⟨0, Nat.zero_le _, rfl⟩ (by show L.length - 0 < _; omega) ?_)
  rintro s ⟨i, hi, rfl⟩
  have hwl : WL m ((L.take i).foldl (exS m g) l) := z72 h hl h12 hR h3 hg _ (fun t ht => hL t (List.mem_of_mem_take ht)) (by rw [List.length_take]; omega)
  unfold wy
  rw [List.length_map]
  simp only
  rw [yp]
  constructor
  ·intro c
   have hi' : i < L.length := by simpa using c
   have ht := List.getElem?_eq_getElem hi'
   have hwk := VW h hg (hL _ (List.getElem_mem hi'))
   have hx : idx (L.map (toC m g)) (i : Int) = some (toC m g L[i]) := by rw [xo, List.getElem?_map, ht]; rfl
   have htk : (L.take (i + 1)).foldl (exS m g) l = exS m g ((L.take i).foldl (exS m g) l) L[i] := by
    rw [List.take_add_one, ht, List.foldl_append]
    rfl
   generalize hout : (L.take i).foldl (exS m g) l = out at *
   rw [hx, oB, show (zh.mk (mk3 (cv0 m out)).states_ (mk3 (cv0 m out)).edges_ (mk3 (cv0 m out)).pairs_) = mk3 (cv0 m out) from rfl, zb8, oB, yp]
   have hfin : ∀ s', s' = ((mk3 (cv0 m (exS m g out L[i]))).states_, (mk3 (cv0 m (exS m g out L[i]))).edges_, (mk3 (cv0 m (exS m g out L[i]))).pairs_, lN (exS m g out L[i]), w64 ((i : Int) + 1)) →
     LRP (fun s' => (∃ i : Nat, i ≤ L.length ∧ s' = ((mk3 (cv0 m ((L.take i).foldl (exS m g) l))).states_, (mk3 (cv0 m ((L.take i).foldl (exS m g) l))).edges_, (mk3 (cv0 m ((L.take i).foldl (exS m g) l))).pairs_, lN ((L.take i).foldl (exS m g) l), (i : Int))) ∧ L.length - s'.2.2.2.2.toNat < L.length - ((i : Int)).toNat) (fun b => b = lN (L.foldl (exS m g) l)) (.next s') := by
    rintro s' rfl
    rw [xq (by omega)]
    refine ⟨⟨i + 1, hi', by rw [htk]⟩, ?_⟩
    simp only
    omega
   constructor
   ·intro c2
    have hm : ¬ Y5 m out (toI g L[i]) := fun q => by
     rw [decide_eq_true ((z5Z h hl h12 hR h3 hg hwl L[i]).2 q)] at c2
     simp at c2
    have hsn : exS m g out L[i] = out ++ [Xp m g L[i]] := by unfold exS; rw [if_neg hm]
    have hrun := z9a h hwk.1 (by omega) (cv0 m out)
    rw [z7h, show wN (Xp m g L[i]) = (Xp m g L[i]).map Int.ofNat from rfl, hrun, oB, Wo _ (by rw [List.length_map]; omega), oB, Uw, oB, gdT (by rw [ui]; have := hwl.1; simp; omega)]
    unfold xC
    rw [zB]
    refine hfin _ ?_
    rw [hsn, z8v h hl h12 hR h3]
    simp [lN, wN]
   ·intro c2
    have hm : Y5 m out (toI g L[i]) := by
     apply Classical.byContradiction
     intro q
     rw [decide_eq_false (fun k => q ((z5Z h hl h12 hR h3 hg hwl L[i]).1 k))] at c2
     simp at c2
    have hsn : exS m g out L[i] = out := by unfold exS; rw [if_pos hm]
    unfold xC
    rw [zB]
    refine hfin _ ?_
    rw [hsn]
  ·intro c
   have hi' : i = L.length := by simp at c; omega
   rw [zB]
   subst hi'
   rw [List.take_length]
   rfl
 rw [key _ rfl, oB]
 have hw := z72 h hl h12 hR h3 hg (GL m g) (fun _ q => q) hgs
 obtain ⟨k, ek, lk, wk⟩ := Uv m g (GL m g) l
 have hlen : ((GL m g).foldl (exS m g) l).length ≤ 66 := by rw [ek, List.length_append]; omega
 have hww : ∀ z ∈ lN (exL m g l), z.length ≤ 256 ∧ ∀ c ∈ z, 0 ≤ c ∧ c < m.Inputs := by
  intro z hz
  obtain ⟨u, hu, rfl⟩ := List.mem_map.1 hz
  refine ⟨by rw [kH]; exact (hw.2 u hu).2, fun c hc => ?_⟩
  obtain ⟨i, hi, rfl⟩ := List.mem_map.1 hc
  have := (hw.2 u hu).1 i hi
  have := h.kk_eq
  simp only [Int.ofNat_eq_natCast]
  omega
 unfold vT
 rw [ui, show decide (((((GL m g).foldl (exS m g) l).length : Nat) : Int) > 4096) = false by simp; omega, cond_false]
 unfold Wb
 have h0 : loE m.Inputs (lN (exL m g l)) = 0 := QK.2 ⟨⟨h.in1, h.in16⟩, by rw [ui]; show ((GL m g).foldl (exS m g) l).length ≤ _; omega, hww⟩
 rw [show (GL m g).foldl (exS m g) l = exL m g l from rfl, z3L, h0, oB, show ((0 : Int) != 0) = false from rfl, cond_false, z7F (by rw [ui]; show ((GL m g).foldl (exS m g) l).length ≤ _; omega) (fun w hw => by have := (hww w hw).1; omega)]
 have hs := Jh (lN (exL m g l))
 have hy : Uf (srt (lN (exL m g l))) ≤ 65536 := by
  have h8 : ∀ z ∈ srt (lN (exL m g l)), z.length ≤ 8 := by
   intro z hz
   obtain ⟨u, hu, rfl⟩ := List.mem_map.1 (Yf.1 hz)
   rw [kH]
   rw [show exL m g l = l ++ k from ek] at hu
   rcases List.mem_append.1 hu with q | q
   ·exact h12.2 u q
   ·obtain ⟨t, ht, rfl⟩ := wk u q
    have := (VW h hg ht).2.1
    omega
  have := Jg h8
  rw [ui] at hs
  have : (exL m g l).length ≤ 66 := hlen
  omega
 have : ¬ (4096 < (srt (lN (exL m g l))).length ∨ 65536 < Uf (srt (lN (exL m g l)))) := by
  rw [ui] at hs
  have : (exL m g l).length ≤ 66 := hlen
  omega
 unfold soR
 rw [if_neg this]
 rfl
theorem z4w (hg : g < 3) (hG : GG (kk m) m.Rows.length ≤ 1000000000) : k9 m (lN l) (g : Int) = some (srt (lN (exL m g l))) := by
 have h12' := h12.1
 have hgs := z19 h hR h3 g
 obtain ⟨r, e, hr⟩ := z0c h hG
 unfold k9
 rw [e, oB, gdT (by rw [ui]; simp; omega), z6n h hG hg, oB]
 have key : ∀ L : List T3, L = GL m g → loop (fun s => uo m r (L.map (toI g)) s.1 s.2) (lN l, (0 : Int)) = some (lN (L.foldl (exS m g) l)) := by
  intro L hLG
  have hL : ∀ t ∈ L, t ∈ GL m g := by rw [hLG]; exact fun _ q => q
  have hLn : L.length ≤ 54 := by rw [hLG]; exact hgs
  refine Ret.eq (wC (fun s => ∃ i : Nat, i ≤ L.length ∧ s = (lN ((L.take i).foldl (exS m g) l), (i : Int))) (fun s => L.length - s.2.toNat) ⟨0, Nat.zero_le _, rfl⟩ (by show L.length - 0 < _; omega) ?_)
  rintro s ⟨i, hi, rfl⟩
  have hwl : WL m ((L.take i).foldl (exS m g) l) := z72 h hl h12 hR h3 hg _ (fun t ht => hL t (List.mem_of_mem_take ht)) (by rw [List.length_take]; omega)
  unfold uo
  rw [List.length_map]
  simp only
  rw [yp]
  constructor
  ·intro c
   have hi' : i < L.length := by simpa using c
   have ht := List.getElem?_eq_getElem hi'
   have hmem := hL _ (List.getElem_mem hi')
   have hwk := VW h hg hmem
   have hcs := z1a h hg hmem
   have hx : idx (L.map (toI g)) (i : Int) = some (toI g L[i]) := by rw [xo, List.getElem?_map, ht]; rfl
   have htk : (L.take (i + 1)).foldl (exS m g) l = exS m g ((L.take i).foldl (exS m g) l) L[i] := by
    rw [List.take_add_one, ht, List.foldl_append]
    rfl
   generalize hout : (L.take i).foldl (exS m g) l = out at *
   rw [hx, oB, JA h hwl, oB, yp]
   have hfin : ∀ s', s' = (lN (exS m g out L[i]), w64 ((i : Int) + 1)) →
     LRP (fun s' => (∃ i : Nat, i ≤ L.length ∧ s' = (lN ((L.take i).foldl (exS m g) l), (i : Int))) ∧ L.length - s'.2.toNat < L.length - ((i : Int)).toNat) (fun b => b = lN (L.foldl (exS m g) l)) (.next s') := by
    rintro s' rfl
    rw [xq (by omega)]
    refine ⟨⟨i + 1, hi', by rw [htk]⟩, ?_⟩
    simp only
    omega
   constructor
   ·intro c2
    have hm : Y5 m out (toI g L[i]) := by simpa using c2
    have hsn : exS m g out L[i] = out := by unfold exS; rw [if_pos hm]
    unfold vC
    rw [zB]
    refine hfin _ ?_
    rw [hsn]
   ·intro c2
    have hm : ¬ Y5 m out (toI g L[i]) := by simpa using c2
    have hsn : exS m g out L[i] = out ++ [Xp m g L[i]] := by unfold exS; rw [if_neg hm]
    have hac := (z4f h hr hcs.1).2 hcs.2.1
    have hal := hac.2.len
    have hst : (toI g L[i]).State = ((L[i].1 : Nat) : Int) := by unfold toI; split <;> first | rfl | (split <;> rfl)
    have fin : ∀ w1 : List Int, w1 = wN (Xp m g L[i]) → Ret (vB (lN out) (i : Int) w1) (LRP (fun s' => (∃ i : Nat, i ≤ L.length ∧ s' = (lN ((L.take i).foldl (exS m g) l), (i : Int))) ∧ L.length - s'.2.toNat < L.length - ((i : Int)).toNat) (fun b => b = lN (L.foldl (exS m g) l))) := by
     rintro w1 rfl
     unfold vB vC
     rw [gdT (by rw [ui]; have := hwl.1; simp; omega), zB]
     refine hfin _ ?_
     rw [hsn]
     simp [lN]
    rw [hst, xo, hac.1, oB, gdT (by rw [kH]; simp; omega)]
    have hg' : g = 0 ∨ g = 1 ∨ g = 2 := by omega
    rcases hg' with rfl | rfl | rfl
    ·rw [show ((toI 0 L[i]).Input != -1) = false from rfl, cond_false]
     unfold ws
     rw [show ((toI 0 L[i]).Next != -1) = false from rfl, cond_false]
     exact fin _ rfl
    ·rw [show ((toI 1 L[i]).Input != -1) = true by show (((L[i].2.1 : Nat) : Int) != -1) = true; simp <;> omega, cond_true, gdT (by rw [kH]; simp; omega)]
     unfold ws
     rw [show ((toI 1 L[i]).Next != -1) = false from rfl, cond_false]
     exact fin _ (by simp [Xp, wN, toI])
    ·rw [show ((toI 2 L[i]).Input != -1) = true by show (((L[i].2.1 : Nat) : Int) != -1) = true; simp <;> omega, cond_true, gdT (by rw [kH]; simp; omega)]
     unfold ws
     rw [show ((toI 2 L[i]).Next != -1) = true by show (((L[i].2.2 : Nat) : Int) != -1) = true; simp <;> omega, cond_true, gdT (by simp [kH]; omega)]
     exact fin _ (by simp [Xp, wN, toI])
  ·intro c
   have hi' : i = L.length := by simp at c; omega
   rw [zB]
   subst hi'
   rw [List.take_length]
   rfl
 rw [key _ rfl, oB]
 obtain ⟨k, ek, lk, wk⟩ := Uv m g (GL m g) l
 have hw := z72 h hl h12 hR h3 hg (GL m g) (fun _ q => q) hgs
 have hlen : ((GL m g).foldl (exS m g) l).length ≤ 66 := by rw [ek, List.length_append]; omega
 unfold qW
 rw [z3A (by rw [ui]; omega) (fun z hz => by
  obtain ⟨u, hu, rfl⟩ := List.mem_map.1 hz
  rw [kH]
  have := (hw.2 u hu).2
  omega), oB]
 rfl
theorem zbb (hg : g < 3) : ∃ K : List (List Nat), srt (lN (exL m g l)) = lN K ∧ WL m K ∧ chE m.Inputs (lN K) = 0 ∧ (∀ t ∈ GL m g, Y5 m K (toI g t)) ∧ K.length ≤ 66 := by
 have h12' := h12.1
 have hgs := z19 h hR h3 g
 have hw := z72 h hl h12 hR h3 hg (GL m g) (fun _ q => q) hgs
 obtain ⟨k, ek, lk, wk⟩ := Uv m g (GL m g) l
 have hlen : (exL m g l).length ≤ 66 := by show ((GL m g).foldl (exS m g) l).length ≤ 66; rw [ek, List.length_append]; omega
 obtain ⟨K, eK, qK⟩ := zaY (m := m) (l := srt (lN (exL m g l))) (fun z hz => by
  obtain ⟨u, hu, rfl⟩ := List.mem_map.1 (Yf.1 hz)
  exact ⟨u, rfl, hw.2 u hu⟩)
 have hKl : K.length ≤ 66 := by
  have := Jh (lN (exL m g l))
  rw [eK, ui, ui] at this
  omega
 have hWK : WL m K := ⟨by omega, qK⟩
 have hinj : ∀ u v : List Nat, wN u = wN v → u = v := by
  intro u v e
  have hid : ∀ u : List Nat, (wN u).map Int.toNat = u := by
   intro u
   induction u with
   | nil => rfl
   | cons i u ih => show Int.toNat (Int.ofNat i) :: (wN u).map Int.toNat = _; rw [ih]; rfl
  rw [← hid u, ← hid v, e]
 have hmem : ∀ w, w ∈ exL m g l ↔ w ∈ K := by
  intro w
  constructor
  ·intro q
   have : wN w ∈ lN K := by rw [← eK]; exact Yf.2 (List.mem_map.2 ⟨w, q, rfl⟩)
   obtain ⟨v, hv, e⟩ := List.mem_map.1 this
   rw [← hinj v w e]; exact hv
  ·intro q
   have : wN w ∈ srt (lN (exL m g l)) := by rw [eK]; exact List.mem_map.2 ⟨w, q, rfl⟩
   obtain ⟨v, hv, e⟩ := List.mem_map.1 (Yf.1 this)
   rw [← hinj v w e]; exact hv
 have h8 : ∀ z ∈ lN K, z.length ≤ 8 := by
  intro z hz
  obtain ⟨u, hu, rfl⟩ := List.mem_map.1 hz
  rw [kH]
  have hu := (hmem u).2 hu
  rw [show exL m g l = l ++ k from ek] at hu
  rcases List.mem_append.1 hu with q | q
  ·exact h12.2 u q
  ·obtain ⟨t, ht, rfl⟩ := wk u q
   have := (VW h hg ht).2.1
   omega
 have hsy := Jg h8
 have hl2 := ui K
 refine ⟨K, eK, hWK, z4a.2 ⟨QK.2 ⟨⟨h.in1, h.in16⟩, by omega, ?_⟩, by rw [← eK]; exact z1t _, by omega⟩, ?_, hKl⟩
 ·intro z hz
  refine ⟨by have := h8 z hz; omega, ?_⟩
  obtain ⟨u, hu, rfl⟩ := List.mem_map.1 hz
  intro c hc
  obtain ⟨i, hi, rfl⟩ := List.mem_map.1 hc
  have := (qK u hu).1 i hi
  have := h.kk_eq
  simp only [Int.ofNat_eq_natCast]
  omega
 ·intro t ht
  rw [← Y5.congr hmem]
  exact z9s h hg (GL m g) (fun _ q => q) l t ht
omit hl h12 hR h3 in
theorem z9j (hK : WL m K)  (hg : g < 3) (hc : ∀ t ∈ GL m g, Y5 m K (toI g t)) : ((GL m g).map (toI g)).filter (fun x => !decide (Y5 m K x)) = [] ∧ z4I g (cv0 m K) = (GL m g).length := by
 have h1 : ((GL m g).map (toI g)).filter (fun x => !decide (Y5 m K x)) = [] := by
  rw [List.filter_eq_nil_iff]
  intro x hx
  obtain ⟨t, ht, rfl⟩ := List.mem_map.1 hx
  simp [hc t ht]
 have h2 := zcH h hK hg
 unfold msL at h2
 rw [h1] at h2
 exact ⟨h1, by simpa using h2⟩
omit h hl h12 hR h3 in
theorem z2q {s j : Nat} : ∀ (w : List Nat) (t : Nat), z6A m s j t w → (E m s j).To ≠ -1 → z2B m (E m s j).To.toNat t w
 | [], _, q, _ => q.elim
 | i :: w, t, ⟨hn, q⟩, hn2 => by
  rcases q with ⟨rfl, rfl⟩ | q
  ·refine .inr ⟨hn, ?_⟩
   cases w <;> simp [z2B]
  ·exact .inr ⟨hn, z2q w _ q hn2⟩
omit hl h12 hR h3 in
theorem z2k (hc : ∀ t ∈ GL m 1, Y5 m K (toI 1 t)) : ∀ t ∈ GL m 0, Y5 m K (toI 0 t) := by
 intro t ht
 obtain ⟨a1, a2, _, _⟩ := z1a h (by decide) ht
 have ha := z9A h a1 a2
 show Y5 m K ⟨(t.1 : Int), -1, -1⟩
 generalize t.1 = s at *
 generalize z4g m s = v at ha
 rcases List.eq_nil_or_concat v with rfl | ⟨u, i, rfl⟩
 ·have : ((0 : Nat) : Int) = (s : Int) := ha.aft
  have : s = 0 := by omega
  subst this
  exact .inr rfl
 ·rw [List.concat_eq_append] at ha
  have hu : Wd (kk m) u := fun j hj => ha.wd j (by simp [hj])
  have hi : i < kk m := ha.wd i (by simp)
  have haf := ha.aft
  rw [UA] at haf
  have hin := z2z h u 0 ⟨by omega, by have := h.len1; omega⟩ hu
  obtain ⟨p, hp⟩ : ∃ p : Nat, aft m 0 u = (p : Int) := by
   rcases Int.lt_or_le (aft m 0 u) 0 with q | q
   ·have := z16 m [i] _ q
    omega
   ·exact ⟨(aft m 0 u).toNat, by omega⟩
  have hpn : p < m.Rows.length := by have := hin.2; omega
  rw [hp, QR] at haf
  have haf : (E m p i).To = (s : Int) := haf
  have hn : (E m p i).To ≠ -1 := by omega
  have hg : (p, i, 0) ∈ GL m 1 := Vw.2 ⟨p, hpn, ⟨u, hu, hp⟩, kX.2 (.inr ⟨by decide, i, hi, Wi.2 ⟨hn, .inl ⟨rfl, rfl⟩⟩⟩)⟩
  rcases hc _ hg with ⟨w, hw, q⟩ | q
  ·have q' := z2q w 0 ((z2p p i w 0).1 q) hn
   rw [show (E m p i).To.toNat = s by omega] at q'
   exact .inl ⟨w, hw, (z2o s w 0).2 q'⟩
  ·have : (toI 1 (p, i, 0)).Input = -1 := by rw [q]
   have : ((i : Nat) : Int) = -1 := this
   omega
end
set_option maxRecDepth 100000
theorem z1Z : ZH = some true := by kernel_rfl
def Ok5 (a : Int) : Prop := (0) ≤ a ∧ a ≤ 255
def Ok4 (_ : Bool) : Prop := True
def zbv (a : Int) : Prop := (0) ≤ a ∧ a ≤ 65535
def zhx (l : List Int) : Prop := ∀ a ∈ l, zbv a
def zhw (a : yk) : Prop := Ok5 a.States ∧ Ok5 a.Inputs ∧ Ok5 a.Outputs ∧ Ok4 a.Partial ∧ zhx a.Edges
def zg9 (l : List Int) : Prop := ∀ a ∈ l, Ok5 a
def zhv (l : List (List Int)) : Prop := ∀ a ∈ l, zg9 a
def zhu (a : wc) : Prop := zhw a.M ∧ zhv a.L
open Classical
theorem z8k {x : wc} {goal : Int} (hx : zhu x) (hgo : Ok5 goal) : v6 x goal = some true := by
 obtain ⟨⟨a1, a2, a3, _, a5⟩, b⟩ := hx
 obtain ⟨r, e, l, e2, k⟩ := zhC (x := x) ⟨a1.1, a2.1, a3.1, a5⟩ b
 obtain ⟨m, L⟩ := r
 simp only at e2 k
 subst e2
 obtain ⟨g, hg, hm⟩ : ∃ g : Nat, g < 3 ∧ Int.tmod (w64 goal) 3 = (g : Int) := by
  obtain ⟨q1, q2⟩ := hgo
  refine ⟨goal.toNat % 3, Nat.mod_lt _ (by decide), ?_⟩
  rw [xT (by omega) (by omega)]
  obtain ⟨v, hv⟩ : ∃ v : Nat, goal = (v : Int) := ⟨goal.toNat, by omega⟩
  rw [hv]
  rfl
 have h12 : l.length ≤ 12 ∧ ∀ w ∈ l, w.length ≤ 8 := ⟨k.len, k.w8⟩
 obtain ⟨K, eK, hWK, hch, hcov, hK66⟩ := zbb k.vm k.wl h12 k.rows k.kk3 hg
 have e' : Zp (wc.mk x.M x.L) = some (m, lN l) := e
 have hs := z7Z (lN K) (lN K) (by rw [ui]; omega) (fun z hz => by
  obtain ⟨u, hu, rfl⟩ := List.mem_map.1 hz
  rw [kH]
  have := (hWK.2 u hu).2
  omega)
 obtain ⟨n1, n2⟩ := z9j k.vm hWK hg hcov
 unfold v6
 rw [e, oB, gdT (by decide), hm]
 simp only
 rw [z4y k.vm k.wl h12 k.rows k.kk3 hg k.ch, oB, show ((0 : Int) != 0) = false from rfl, cond_false, z4w k.vm k.wl h12 k.rows k.kk3 hg k.gg, oB, eK, hs, oB, decide_eq_true rfl, Bool.not_true, cond_false, bne_self_eq_false, cond_false,
  z4A k.vm k.gg hWK hg, oB, n1, show decide (((([] : List za).length : Nat) : Int) > 0) = false from rfl, cond_false, zcC k.vm hWK hch, oB, show ((0 : Int) == 0) = true from rfl, cond_true, z1Z]
 have hg' : g = 0 ∨ g = 1 ∨ g = 2 := by omega
 rcases hg' with rfl | rfl | rfl
 ·rw [show idx [(qJ m K).States, (qJ m K).Edges, (qJ m K).Pairs] ((0 : Nat) : Int) = some (qJ m K).States from rfl, oB, oB]
  have : ((qJ m K).States.e0 == (qJ m K).States.e1) = true := by show (((z4I 0 (cv0 m K) : Nat) : Int) == (((GL m 0).length : Nat) : Int)) = true; rw [n2]; simp
  rw [this]
  rfl
 ·rw [show idx [(qJ m K).States, (qJ m K).Edges, (qJ m K).Pairs] ((1 : Nat) : Int) = some (qJ m K).Edges from rfl, oB, oB]
  have h1 : ((qJ m K).Edges.e0 == (qJ m K).Edges.e1) = true := by show (((z4I 1 (cv0 m K) : Nat) : Int) == (((GL m 1).length : Nat) : Int)) = true; rw [n2]; simp
  obtain ⟨_, n3⟩ := z9j k.vm hWK (by decide : 0 < 3) (z2k k.vm hcov)
  have h2 : ((qJ m K).States.e0 == (qJ m K).States.e1) = true := by show (((z4I 0 (cv0 m K) : Nat) : Int) == (((GL m 0).length : Nat) : Int)) = true; rw [n3]; simp
  rw [h1, h2]
  rfl
 ·rw [show idx [(qJ m K).States, (qJ m K).Edges, (qJ m K).Pairs] ((2 : Nat) : Int) = some (qJ m K).Pairs from rfl, oB, oB]
  have : ((qJ m K).Pairs.e0 == (qJ m K).Pairs.e1) = true := by show (((z4I 2 (cv0 m K) : Nat) : Int) == (((GL m 2).length : Nat) : Int)) = true; rw [n2]; simp
  rw [this]
  rfl
def z0b (w : World) : zn := fun b o => y9 w.heap b o
variable {v : Value}
theorem z6H {w : World} {a : Addr}  (h : w.cell? a = some v) : a.spot = none ∧ y9 w.heap a.block a.off = some v := by
 unfold World.cell? at h
 unfold y9
 split at h
 ·rename_i c ty fr he
  rw [he]
  split at h
  ·cases h
  ·rename_i hs
   exact ⟨by simpa using hs, h⟩
 ·cases h
variable {cs : List Value}{S : zn}{k : IntKind}
section
variable {H : Type} {enc : TypeId × Value → H} {P : Program} {w : World} {base : Nat} {spare : Nat → Bool} {held : Bool}
theorem z6F {a : Addr} {n : Nat}  (h : w.cells? base a n = some cs) (hn : 0 < n) : a.spot = none ∧ cs.length = n ∧ KF (z0b w) a.block a.off cs := by
 obtain ⟨_, h2, h3⟩ := World.cells?_some h
 have h0 : a.spot = none := by
  have h4 := h3 0 hn
  cases hc : cs[0]? with
  | none => rw [List.getElem?_eq_none_iff] at hc; omega
  | some v =>
   rw [hc] at h4
   have := (z6H h4).1
   simpa [Addr.add] using this
 refine ⟨h0, h2, fun j v hj => ?_⟩
 have hlt := (List.getElem?_eq_some_iff.1 hj).1
 have h4 := h3 j (by omega)
 rw [hj] at h4
 have q := (z6H h4).2
 unfold Addr.add at q
 split at q
 ·rename_i e; subst e; exact q
 ·exact q
theorem z1J : ∀ {bs : List A} {cs : List Value} {a : A} {c : List Value}, ya S bs cs → Rep S a c → ya S (bs ++ [a]) (cs ++ c)
 | [], cs, a, c, h1, h2 => by
  simp only [ya] at h1
  subst h1
  simp only [List.nil_append, ya]
  exact ⟨c, [], by simp, h2, rfl⟩
 | x :: bs, cs, a, c, h1, h2 => by
  simp only [ya] at h1
  obtain ⟨c1, c2, rfl, r1, r2⟩ := h1
  simp only [List.cons_append, ya]
  exact ⟨c1, c2 ++ c, by simp, r1, z1J r2 h2⟩
theorem z8e {b o : Nat} {c1 c2 : List Value} (h1 : KF S b o c1) (h2 : KF S b (o + c1.length) c2) : KF S b o (c1 ++ c2) := by
 intro j v hj
 rcases Nat.lt_or_ge j c1.length with q | q
 ·rw [List.getElem?_append_left q] at hj
  exact h1 j v hj
 ·rw [List.getElem?_append_right q] at hj
  have := h2 _ _ hj
  rwa [show o + c1.length + (j - c1.length) = o + j by omega] at this
theorem Ji {t e sz : Nat} (f : α → A) (ok : α → Prop) (ht : P.underlying t = some (.slice e)) (hsz : P.cellsOf e = sz) (h0 : 0 < sz) (hf : ∀ a, (f a).size = sz)
    (hel : ∀ n cs x, DataW.trod enc P w base spare held n e cs = some x → ∃ a, ok a ∧ Rep (z0b w) (f a) cs)
    {fuel : Nat} {cs : List Value} {x : DataW H × List MemPlace} (h : DataW.trod enc P w base spare held fuel t cs = some x) : ∃ l : List α, (∀ a ∈ l, ok a) ∧ Rep (z0b w) (.sl sz false (l.map f)) cs := by
  rcases DataW.trod_slice ht h with ⟨rfl, _⟩ | ⟨a, len, cap, elems, rest, n, _, rfl, _, _, hlc, _, hlen, hall, _, _⟩
  · refine ⟨[], by simp, ?_⟩
    simp only [Rep, List.map_nil, List.length_nil]
    exact ⟨none, 0, rfl, by simp, Nat.le_refl _, by simp, .inl trivial⟩
  · have key : ∀ k, k ≤ len → ∃ (l : List α) (cells : List Value), l.length = k ∧ (∀ a ∈ l, ok a) ∧ ya (z0b w) (l.map f) cells ∧ cells.length = k * sz ∧ (0 < k → a.spot = none) ∧ KF (z0b w) a.block a.off cells := by
      intro k
      induction k with
      | zero => intro _; exact ⟨[], [], rfl, by simp, by simp [ya], by simp, by simp, fun j v h => by simp at h⟩
      | succ k ih =>
        intro hk
        obtain ⟨l, cells, q1, q2, q3, q4, q5, q6⟩ := ih (by omega)
        have hk' := hall k (by omega)
        have hsome : elems[k]? = some elems[k] := List.getElem?_eq_getElem (by omega)
        rw [hsome, Option.bind_eq_some_iff, hsz] at hk'
        obtain ⟨c, hc, htr⟩ := hk'
        obtain ⟨y, hy, hr⟩ := hel _ _ _ htr
        obtain ⟨g1, g2, g3⟩ := z6F hc h0
        refine ⟨l ++ [y], cells ++ c, by simp [q1], ?_, ?_, ?_, ?_, ?_⟩
        · intro z hz
          rcases List.mem_append.1 hz with q | q
          · exact q2 z q
          · simp only [List.mem_cons, List.not_mem_nil, or_false] at q; subst q; exact hy
        · rw [List.map_append]; exact z1J q3 hr
        · rw [List.length_append, q4, g2, Nat.succ_mul]
        · intro _
          rcases Nat.eq_zero_or_pos k with rfl | hk0
          · simpa [Addr.add] using g1
          · exact q5 hk0
        · refine z8e q6 ?_
          rw [q4]
          unfold Addr.add at g3
          split at g3
          · rename_i e0
            rw [e0, Nat.add_zero]
            exact g3
          · exact g3
    obtain ⟨l, cells, q1, q2, q3, q4, q5, q6⟩ := key len (Nat.le_refl _)
    refine ⟨l, q2, ?_⟩
    simp only [Rep, List.length_map]
    refine ⟨some a, cap, by rw [q1], by simp, by omega, ?_, ?_⟩
    · intro y hy
      obtain ⟨z, _, rfl⟩ := List.mem_map.1 hy
      exact hf z
    · rcases Nat.eq_zero_or_pos len with rfl | hl
      · left; rw [List.length_eq_zero_iff.1 q1]; rfl
      · right
        refine ⟨a.block, a.off, cells, ?_, q3, q6⟩
        have := q5 hl
        obtain ⟨b, o, s⟩ := a
        simp only at this
        subst this
        rfl
theorem z6f {t : Nat}  {lo hi : Int} (ht : P.underlying t = some (.int k)) (hlo : k.min = lo) (hhi : k.max = hi) {fuel : Nat}  {x : DataW H × List MemPlace} (h : DataW.trod enc P w base spare held fuel t cs = some x) :
  ∃ n : Int, (lo ≤ n ∧ n ≤ hi) ∧ cs = [.int k n] ∧ Rep (z0b w) (.atom (.int k n)) cs := by
 obtain ⟨n, rfl, _, hw⟩ := DataW.trod_int ht h
 simp only [Lit.wf, Bool.and_eq_true, decide_eq_true_eq, hlo, hhi] at hw
 exact ⟨n, hw, rfl, by simp only [Rep]; exact ⟨trivial, rfl⟩⟩
theorem z8H {t : Nat} (ht : P.underlying t = some .bool) {fuel : Nat}  {x : DataW H × List MemPlace} (h : DataW.trod enc P w base spare held fuel t cs = some x) :
  ∃ b : Bool, Rep (z0b w) (.atom (.bool b)) cs := by
 obtain ⟨b, rfl, _⟩ := DataW.trod_bool ht h
 exact ⟨b, by simp only [Rep]; exact ⟨trivial, rfl⟩⟩
theorem Vo {t : Nat} {fs : List Field} (ht : P.underlying t = some (.struct ⟨fs⟩)) {fuel : Nat}  {x : DataW H × List MemPlace} (h : DataW.trod enc P w base spare held fuel t cs = some x) :
  cs.length = P.cellsOf t ∧ ∀ (i : Nat) (f : Field), fs[i]? = some f → ∃ n y, DataW.trod enc P w base spare held n f.type ((cs.drop f.offset).take (P.cellsOf f.type)) = some y := by
 obtain ⟨xs, n, _, _, hl, hxl, hall⟩ := DataW.trod_struct ht h
 refine ⟨hl, fun i f hf => ?_⟩
 have hlt := (List.getElem?_eq_some_iff.1 hf).1
 have := hall i f (by simpa using hf)
 rw [List.getElem?_eq_getElem (by rw [hxl]; simpa using hlt)] at this
 exact ⟨n, _, this⟩
end
variable {a : A}
theorem ZB {bs : List A}  {n : Nat} (h1 : Rep S a (cs.take n)) (h2 : ya S bs (cs.drop n)) : ya S (a :: bs) cs := by
 simp only [ya]
 exact ⟨cs.take n, cs.drop n, (List.take_append_drop n cs).symm, h1, h2⟩
variable {P : Program}
section
open Go Go.ChangeShapes Go.WideShapes Go.ChangeAt Go.RowKit
theorem z5L {P : Program} {H : Type} {enc : TypeId × Value → H} {f : Func} {s : ChangeSpec} {apart fresh handsOn again : Bool} {W W' : World} {args : Array Value} {v : Value} {ds : List (DataW H)} {pa : List MemPlace}
  (hvar : s.vars = []) (hvars2 : (s.fn H (ds ++ [])).vars = []) (hW : DataW.Whole enc P f.params.toList s.vars apart W args.toList ds [] (pa ++ [])) (hb : Below W.heap.size W W')
  (hres : ∀ (b : Nat) (sp : Nat → Bool) (hd : Bool), DataW.TrodAll enc P W' b sp hd f.resultTypes.toList (v.resultList f.resultTypes.size) (s.fn H (ds ++ [])).results [])
  (hargs : ∀ sp : Nat → Bool, (∀ p ∈ pa ++ [], sp p.block = true) → DataW.TrodAll enc P W' 0 sp true f.params.toList args.toList (s.fn H (ds ++ [])).args pa)
  (hok : ∀ (j : Nat) (t : TypeId) (r : Value), f.resultTypes[j]? = some t → (v.resultList f.resultTypes.size)[j]? = some r → Value.okWide P W' .any 0 t r) :
  s.post enc P f apart fresh handsOn again W args v W' := by
 have hlt : ∀ p ∈ pa ++ [], p.block < W.heap.size := fun p hp => by simpa using hW.lt p hp
 have hvr : ∀ sp : Nat → Bool, DataW.TrodVars enc P W' sp s.vars (s.fn H (ds ++ [])).vars [] := fun sp => by rw [hvar, hvars2]; rfl
 refine ⟨ds, [], pa ++ [], [], pa, [], hW, hres _ _ _, hargs _ (fun p hp => by simpa using hlt p hp), hvr _, World.keptBut_mono (fun _ q => q.elim) (hb.frame fun _ => False), fun _ => ?_⟩
 obtain ⟨_, _, _, _, _, hz, hn⟩ := hW
 refine ⟨hok, _, _, ([] ++ pa) ++ [], ⟨[] ++ pa, [], trodAll_append (hargs _ (fun _ _ => rfl)) (hres _ _ _), hvr _, rfl, ?_, ?_⟩, ?_⟩
 ·intro b off hp
  have hp' : MemPlace.cell b off ∈ pa ++ [] := by simpa using hp
  rw [hb.frozen (p := ⟨b, off, none⟩) (hlt _ hp')]
  exact hz b off hp'
 ·intro ha
  simpa using hn ha
 ·intro p hp _
  simpa using hp
end
theorem z7E {k : Nat} {α ρ : Type} {enc : α → List A} {encR : ρ → A} {F : α → Option ρ} {gives : List Bool} {inj : ∀ x y, enc x = enc y → x = y} (h : (spF k enc encR F gives inj).Ok P) {x : α} {r : ρ} (hr : F x = some r) : Xo P k (enc x) (encR r) := by
 have := h x ⟨r, hr⟩
 simpa only [spF, hr] using this
variable {fs : Array Field}
section
variable {P : Program} {w : World} {r : Reach} {base t : Nat} {v : Value}
theorem z52 (h : ∀ cs, v ≠ .agg cs) : v = v.cells.toList.headD undef := by
 cases v <;> first | rfl | exact (h _ rfl).elim
theorem z9G (hu : P.underlying t = some (.int k)) (h : Value.okWide P w r base t v) : v = v.cells.toList.headD undef := by
 refine z52 fun cs e => ?_
 subst e
 unfold Value.okWide at h
 rw [hu] at h
 simp only [Cell.okWide, hu, Cell.ok] at h
theorem z4o (hu : P.underlying t = some (.struct fs)) (h : Value.okWide P w r base t v) : v = .agg v.cells.toList.toArray := by
 unfold Value.okWide at h
 rw [hu] at h
 obtain ⟨cs, rfl, _⟩ := h
 rfl
theorem z7X (hu : P.underlying t = some (.int k)) (hr : Rep S a v.cells.toList) (h : Value.okWide P w r base t v) (ha : a.isAgg = false) : wT S a v := ⟨_, hr, by cases a <;> first | exact z9G hu h | cases ha⟩
theorem z2O (hu : P.underlying t = some (.struct fs)) (hr : Rep S a v.cells.toList) (h : Value.okWide P w r base t v) (ha : a.isAgg = true) : wT S a v := ⟨_, hr, by cases a <;> first | exact z4o hu h | cases ha⟩
theorem z8o {h : Array Obj}  {F : List Nat} (q : Has S h (.atom (.bool true)) v F) : v = .bool true := by
 rcases q with ⟨q, _⟩ | ⟨cs, q, _, rfl⟩
 ·rw [(zt.1 q).1]
 ·simp only [zJ, Rep] at q
  obtain ⟨⟨rfl, _⟩, _⟩ := q
  rfl
end
open Go.Proofs
section
variable {H : Type} {enc : TypeId × Value → H} {w : World} {base : Nat} {spare : Nat → Bool} {held : Bool}
theorem z9u : Tryz.prog.cellsOf 5 = 1 := by kernel_rfl
theorem rd5 {fuel : Nat}  {x : DataW H × List MemPlace} (h : DataW.trod enc Tryz.prog w base spare held fuel 5 cs = some x) : ∃ a : Int, Ok5 a ∧ Rep (z0b w) ((eI .u8) a) cs := by
 obtain ⟨n, h1, _, h2⟩ := z6f Tryz.underlying5 (lo := 0) (hi := 255) rfl rfl h
 exact ⟨n, h1, h2⟩
theorem zd9 : Tryz.prog.cellsOf 4 = 1 := by kernel_rfl
theorem rd4 {fuel : Nat}  {x : DataW H × List MemPlace} (h : DataW.trod enc Tryz.prog w base spare held fuel 4 cs = some x) : ∃ a : Bool, Ok4 a ∧ Rep (z0b w) (eB a) cs := by
 obtain ⟨n, h2⟩ := z8H Tryz.underlying4 h
 exact ⟨n, trivial, h2⟩
theorem z8B : Tryz.prog.cellsOf 103 = 1 := by kernel_rfl
theorem zfc {fuel : Nat}  {x : DataW H × List MemPlace} (h : DataW.trod enc Tryz.prog w base spare held fuel 103 cs = some x) : ∃ a : Int, zbv a ∧ Rep (z0b w) ((eI .u16) a) cs := by
 obtain ⟨n, h1, _, h2⟩ := z6f Tryz.underlying103 (lo := 0) (hi := 65535) rfl rfl h
 exact ⟨n, h1, h2⟩
theorem zbk : Tryz.prog.cellsOf 22 = 1 := by kernel_rfl
theorem zi1 {fuel : Nat}  {x : DataW H × List MemPlace} (h : DataW.trod enc Tryz.prog w base spare held fuel 22 cs = some x) : ∃ a : List Int, zhx a ∧ Rep (z0b w) ((eSl 1 false (eI .u16)) a) cs := by
 exact Ji (eI .u16) zbv Tryz.underlying22 z8B (by omega) (fun _ => rfl) (fun _ _ _ q => zfc q) h
theorem z6G : Tryz.prog.cellsOf 24 = 5 := by kernel_rfl
theorem zi0 {fuel : Nat}  {x : DataW H × List MemPlace} (h : DataW.trod enc Tryz.prog w base spare held fuel 24 cs = some x) : ∃ a : yk, zhw a ∧ Rep (z0b w) ((uV (eI .u8) (eI .u8) (eI .u8) eB (eSl 1 false (eI .u16))) a) cs := by
 obtain ⟨hl, hf⟩ := Vo Tryz.underlying24 h
 rw [z6G] at hl
 obtain ⟨_, _, q0⟩ := hf 0 _ rfl
 obtain ⟨_, _, q1⟩ := hf 1 _ rfl
 obtain ⟨_, _, q2⟩ := hf 2 _ rfl
 obtain ⟨_, _, q3⟩ := hf 3 _ rfl
 obtain ⟨_, _, q4⟩ := hf 4 _ rfl
 simp only [zbk, zd9, z9u] at q0 q1 q2 q3 q4
 obtain ⟨a0, k0, r0⟩ := rd5 q0
 obtain ⟨a1, k1, r1⟩ := rd5 q1
 obtain ⟨a2, k2, r2⟩ := rd5 q2
 obtain ⟨a3, k3, r3⟩ := rd4 q3
 obtain ⟨a4, k4, r4⟩ := zi1 q4
 refine ⟨⟨a0, a1, a2, a3, a4⟩, ⟨k0, k1, k2, k3, k4⟩, ?_⟩
 show Rep (z0b w) (.agg [(eI .u8) a0, (eI .u8) a1, (eI .u8) a2, eB a3, (eSl 1 false (eI .u16)) a4]) cs
 simp only [Rep]
 refine ZB (n := 1) (by simpa [List.drop_drop] using r0) (ZB (n := 1) (by simpa [List.drop_drop] using r1) (ZB (n := 1) (by simpa [List.drop_drop] using r2) (ZB (n := 1) (by simpa [List.drop_drop] using r3) (ZB (n := 1) (by simpa [List.drop_drop] using r4) ?_))))
 simp only [List.drop_drop, ya]
 exact List.drop_eq_nil_of_le (by omega)
theorem zbh : Tryz.prog.cellsOf 64 = 1 := by kernel_rfl
theorem zhX {fuel : Nat}  {x : DataW H × List MemPlace} (h : DataW.trod enc Tryz.prog w base spare held fuel 64 cs = some x) : ∃ a : List Int, zg9 a ∧ Rep (z0b w) ((eSl 1 false (eI .u8)) a) cs := by
 exact Ji (eI .u8) Ok5 Tryz.underlying64 z9u (by omega) (fun _ => rfl) (fun _ _ _ q => rd5 q) h
theorem zbj : Tryz.prog.cellsOf 25 = 1 := by kernel_rfl
theorem zhZ {fuel : Nat}  {x : DataW H × List MemPlace} (h : DataW.trod enc Tryz.prog w base spare held fuel 25 cs = some x) : ∃ a : List (List Int), zhv a ∧ Rep (z0b w) ((eSl 1 false (eSl 1 false (eI .u8))) a) cs := by
 exact Ji (eSl 1 false (eI .u8)) zg9 Tryz.underlying25 zbh (by omega) (fun _ => rfl) (fun _ _ _ q => zhX q) h
theorem zbi : Tryz.prog.cellsOf 27 = 6 := by kernel_rfl
theorem zhY {fuel : Nat}  {x : DataW H × List MemPlace} (h : DataW.trod enc Tryz.prog w base spare held fuel 27 cs = some x) : ∃ a : wc, zhu a ∧ Rep (z0b w) ((uU (uV (eI .u8) (eI .u8) (eI .u8) eB (eSl 1 false (eI .u16))) (eSl 1 false (eSl 1 false (eI .u8)))) a) cs := by
 obtain ⟨hl, hf⟩ := Vo Tryz.underlying27 h
 rw [zbi] at hl
 obtain ⟨_, _, q0⟩ := hf 0 _ rfl
 obtain ⟨_, _, q1⟩ := hf 1 _ rfl
 simp only [z6G, zbj] at q0 q1
 obtain ⟨a0, k0, r0⟩ := zi0 q0
 obtain ⟨a1, k1, r1⟩ := zhZ q1
 refine ⟨⟨a0, a1⟩, ⟨k0, k1⟩, ?_⟩
 show Rep (z0b w) (.agg [(uV (eI .u8) (eI .u8) (eI .u8) eB (eSl 1 false (eI .u16))) a0, (eSl 1 false (eSl 1 false (eI .u8))) a1]) cs
 simp only [Rep]
 refine ZB (n := 5) (by simpa [List.drop_drop] using r0) (ZB (n := 1) (by simpa [List.drop_drop] using r1) ?_)
 simp only [List.drop_drop, ya]
 exact List.drop_eq_nil_of_le (by omega)
end
end Go.Own
namespace Go.Proofs.YtkelmheleahmpaaGreatDoor.coveragesExtend
open Go Go.ChangeShapes Go.WideShapes Go.ChangeAt Go.RowKit
theorem own : ownKnob Tryz.prog.godebug = none := by kernel_rfl
theorem zaX : laidOutB Tryz.prog = true := by kernel_rfl
section
variable {H : Type} {enc : TypeId × Value → H} {W : World}
set_option maxRecDepth 100000 in
theorem zhI {base : Nat} {v0 : Value} {d0 : DataW H} {p0 : List MemPlace} {v1 : Value} {d1 : DataW H} {p1 : List MemPlace} (h0 : DataW.Trod enc Tryz.prog W 0 (fun _ => true) true 27 v0 d0 p0) (h1 : DataW.Trod enc Tryz.prog W 0 (fun _ => true) true 5 v1 d1 p1) (k0 : Value.okWide Tryz.prog W .any base (27 : Nat) v0) (k1 : Value.okWide Tryz.prog W .any base (5 : Nat) v1) :
  Calls Tryz.prog 4 #[v0, v1] W fun e w' => e = .returned (.bool true) ∧ Go.Own.ZS (fun k => W.heap.size ≤ k) W w' := by
 obtain ⟨n0, h0⟩ := h0
 obtain ⟨x0, o0, r0⟩ := Go.Own.zhY h0
 obtain ⟨n1, h1⟩ := h1
 obtain ⟨x1, o1, r1⟩ := Go.Own.rd5 h1
 have q := (Go.Own.z7E (Go.Own.z4G Go.Own.zdC List.mem_cons_self : Go.Own.vu.Ok Tryz.prog) (x := (x0, x1)) (r := true) (Go.Own.z8k o0 o1)).2 (Go.Own.z0b W) W [v0, v1] [] ⟨fun _ _ _ h => h, fun g x e => by cases e⟩ ?_ (by simp)
 ·refine Calls.mono q ?_
  rintro e w' ⟨v, S', F', rfl, hk, _, _, _, hr, _, _⟩
  refine ⟨?_, hk.mono (by rintro k (h | h) <;> simp_all)⟩
  rw [Go.Own.z8o hr]
 ·refine Go.Own.ZQ ?_
  have g0 : Go.Own.wT (Go.Own.z0b W) ((Go.Own.uU (Go.Own.uV (Go.Own.eI .u8) (Go.Own.eI .u8) (Go.Own.eI .u8) Go.Own.eB (Go.Own.eSl 1 false (Go.Own.eI .u16))) (Go.Own.eSl 1 false (Go.Own.eSl 1 false (Go.Own.eI .u8)))) x0) v0 := Go.Own.z2O (t := (27 : Nat)) Tryz.underlying27 r0 k0 rfl
  have g1 : Go.Own.wT (Go.Own.z0b W) ((Go.Own.eI .u8) x1) v1 := Go.Own.z7X (t := (5 : Nat)) Tryz.underlying5 r1 k1 rfl
  exact ⟨g0, g1, trivial⟩
end
set_option maxRecDepth 100000 in
theorem z8t (os : Os) (args : Array Value) : laidMetH Tryz.prog Rows.coveragesExtendRow.laid ((World.doorLaid Tryz.prog 400 os).forCall (fun _ _ => 0) ⟨#[], args, []⟩).memory :=
 laidMetH_of_parts3 (fuel := 8) (laidMet_of_run' 8 (by kernel_rfl) (by kernel_rfl)) (by kernel_rfl) (by kernel_rfl)
set_option maxRecDepth 100000 in
theorem zcI (os : Os) (started : os.Started) (H : Type) (enc : TypeId × Value → H) :
  ReturnsInHanded {} Tryz.checked os 4 .any (fun w args => (Rows.coveragesExtendSpec.pre enc Tryz.prog Tryz.f4 Rows.coveragesExtendRow.domain false w args ∧ laidMetH Tryz.prog Rows.coveragesExtendRow.laid w) ∧ sizedMet enc Tryz.prog Tryz.f4 (OpenSpec.ofChange Rows.coveragesExtendSpec) false w args) (Rows.coveragesExtendSpec.post enc Tryz.prog Tryz.f4 false true false false) := by
 refine returnsInHanded_of_change_and (C := Tryz.checked) (X := fun w _ => laidMetH Tryz.prog Rows.coveragesExtendRow.laid w) (fun _ _ _ hh h => h.of_heap hh) own started (by kernel_rfl) Tryz.func4
  (ChangeSpec.witness_shaped (enc := enc) (C := Tryz.checked) (os := os) (X := fun w _ => laidMetH Tryz.prog Rows.coveragesExtendRow.laid w) false (World.doorLaid Tryz.prog 400 os) #[.agg #[.int .u8 0, .int .u8 0, .int .u8 0, .bool false, .slice none 0 0, .slice none 0 0], .int .u8 0] 8 rfl (World.shaped_of_RefB (by kernel_rfl) (by kernel_rfl)) (by kernel_rfl) (by kernel_rfl) (by kernel_rfl) (z8t os _)) ?_
 intro W base args ds gs before hval0 hW hcnd _ hL _
 have hval : ∀ (j : Nat) t v, Tryz.f4.params[j]? = some t → args[j]? = some v → Value.okWide Tryz.prog W .any base t v := hval0
 have hW' := hW
 obtain ⟨p, q, hA0, hV, rfl, hfz, hnd⟩ := hW
 have hA : DataW.TrodAll enc Tryz.prog W 0 (fun _ => true) true Tryz.f4.params.toList args.toList ds p := hA0
 rw [Tryz.params4] at hA hval
 obtain ⟨v0, v1, d0, d1, p0, p1, rfl, rfl, rfl, h0, h1⟩ := trodAll_two hA
 obtain ⟨rfl, rfl⟩ := trodVars_none hV
 clear hA0 hval0
 refine (zhI h0 h1 (hval 0 (27 : Nat) v0 rfl rfl) (hval 1 (5 : Nat) v1 rfl rfl)).mono fun e W' ⟨he, hk⟩ => ?_
 subst he
 have hb : Below W.heap.size W W' := ⟨hk.os, hk.tape, hk.output, hk.size, fun k q => hk.block k (by omega)⟩
 have hlt : ∀ x ∈ p0 ++ p1, x.block < W.heap.size := fun x hx => by simpa using hW'.lt x (by simpa using hx)
 refine ⟨_, rfl, Go.Own.z5L rfl rfl hW' hb (fun _ _ _ => trodAll_cons_mk (shut_bool Tryz.underlying4 _) trodAll_mk0) (fun sp hsp => ?_) (ok_one (by kernel_rfl) rfl (okWide_bool_mk Tryz.underlying4 _))⟩
 have st : ∀ {t : Nat} {v : Value} {d : DataW H} {p' : List MemPlace}, DataW.Trod enc Tryz.prog W 0 (fun _ => true) true t v d p' → Tryz.prog.readableRec t = true → t < Tryz.prog.types.size → (∀ x ∈ p', x ∈ p0 ++ p1) → DataW.Trod enc Tryz.prog W' 0 sp true t v d p' := by
  intro t v d p' hd h1 h2 hp
  exact WideElems.Trod_stays zaX h1 h2 hd (fun x hx => hb.same (hlt x (hp x hx))) (fun x hx => hsp x (by simpa using hp x hx))
 have := trodAll_mk2 (st h0 (by kernel_rfl) (of_decide_eq_true (by kernel_rfl)) (fun x hx => by simp [hx])) (st h1 (by kernel_rfl) (of_decide_eq_true (by kernel_rfl)) (fun x hx => by simp [hx]))
 rw [Tryz.params4]
 exact this
theorem X1 : Rows.coveragesExtendRow.holds Tryz.pinned (OpenSpec.ofChange Rows.coveragesExtendSpec) :=
 OpenClaim.holds_of_wide 4 Tryz.f4 rfl rfl rfl rfl rfl rfl rfl ⟨rfl, rfl, rfl, rfl, rfl⟩ rfl rfl rfl rfl rfl (by kernel_rfl) Tryz.func4 (by kernel_rfl)
  (of_decide_eq_true (by kernel_rfl)) (by unfold Func.isWrapper; first | (rw [if_pos (by decide +kernel)]; kernel_rfl) | (rw [if_neg (by decide +kernel)]; exact ⟨rfl, rfl⟩))
  (fun os started H enc _ => zcI os started H enc)
theorem proved : Rows.CoveragesExtendCardSaid :=
 Claim7.holds_tied_plain_at .later [] [.data, .data, .data] true (true, "a011b7cdf67d6ea9b3b85658e15c2d97abbd214391bbb37e485bdd7fc2c81f04") false
  X1 (fun _ h => by cases h) (by kernel_rfl) (fun _ h => by cases h) coveragesExtend_row_tie rfl ⟨rfl, rfl⟩ (by kernel_rfl) rfl
  (fun f fn hf hfn => by
   obtain rfl : f = 4 := Option.some.inj ((show Tryz.prog.funcNamed "gauntlet/gauntletlaw40.CoveragesExtend" = some 4 by kernel_rfl).symm.trans hf) |>.symm
   obtain rfl : fn = Tryz.f4 := (Option.some.inj (Tryz.func4.symm.trans hfn)).symm
   exact ⟨by kernel_rfl, fun j t ht => by
    rw [Tryz.params4] at ht
    have hm : t ∈ [27, 5] := by simpa using Array.mem_of_getElem? ht
    have hall : ([27, 5].all fun u => !Tryz.prog.wantsStandIn u) = true := by kernel_rfl
    exact (show Tryz.prog.wantsStandIn t = false by simpa using List.all_eq_true.1 hall t hm)⟩)
  (by kernel_rfl)
#print axioms proved
end Go.Proofs.YtkelmheleahmpaaGreatDoor.coveragesExtend
