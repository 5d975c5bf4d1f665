/- -/
import Derived.Test.YtiddgdfbhmmccaaPartG
import Derived.Test.YtiddgdfbhmmccaaPartF
import Derived.Test.YtiddgdfbhmmccaaPartB
import Derived.OpenShut
import Derived.ChangeShapes
import Derived.Test.YtiddgdfbhmmccaaPartD
import Derived.WalkKit
import Derived.ProofKit
import Derived.Carry
import Derived.Test.YtiddgdfbhmmccaaRows
import Derived.Test.YtiddgdfbhmmccaaChecked
set_option linter.unusedVariables false
set_option linter.unusedSimpArgs false
namespace Go.Own
def Rch (m : z6) (t : Nat) : Prop := ∃ u, Wd (kk m) u ∧ aft m 0 u = (t : Int)
theorem Xk {out : List Bool} {j t : Nat} (hj : j < out.length) : (out.set j true)[t]? = some true ↔ t = j ∨ out[t]? = some true := by
 by_cases e : t = j
 ·subst e; simp [hj]
 ·rw [List.getElem?_set_ne (Ne.symm e)]
  exact ⟨.inr, fun q => q.resolve_left e⟩
section
variable {m : z6} (h : VM m)
include h
omit h in theorem rch_step {s i : Nat} (hs : Rch m s) (hi : i < kk m) (h0 : 0 ≤ (E m s i).To) : Rch m (E m s i).To.toNat := by
 obtain ⟨u, hu, e⟩ := hs
 refine ⟨u ++ [i], fun j hj => ?_, ?_⟩
 ·rcases List.mem_append.1 hj with q | q
  ·exact hu j q
  ·have : j = i := by simpa using q
   omega
 ·have := (XJ m u 0 i).2
  rw [e, kK] at this
  rw [this]
  omega
theorem Kt : Ret (uD m 0) fun is => is.length = m.Rows.length ∧ ∀ t, t < m.Rows.length → (is[t]? = some true ↔ Rch m t) := by
 have l64 := h.len64
 have l1 := h.len1
 have hk2 := h.kk_le
 have hke := h.kk_eq
 have w1 : ∀ n : Nat, n < 1000 → w64 ((n : Int) + 1) = ((n + 1 : Nat) : Int) := fun n hn => by rw [yf (by omega) (by omega)]; rfl
 unfold uD ul
 rw [z5G]
 refine ⟨by omega, ?_⟩
 have e0 : idx (List.replicate ((m.Rows.length : Nat) : Int).toNat false) 0 = some false := by
  show (List.replicate ((m.Rows.length : Nat) : Int).toNat false)[0]? = some false
  rw [List.getElem?_replicate, if_pos (by rw [Int.toNat_natCast]; omega)]
 rw [bdT e0, zJ]
 let S : List Bool → Prop := fun out => out.length = m.Rows.length ∧ ∀ t : Nat, out[t]? = some true → Rch m t
 refine Ret.mono (Q := fun is => is.length = m.Rows.length ∧ ∀ t, t < m.Rows.length → (is[t]? = some true ↔ Rch m t)) ?_ fun o ho => ze.2 ho
 refine yH (fun q => ∃ r : Nat, q.2 = (r : Int) ∧ r ≤ m.Rows.length ∧ S q.1 ∧ ∀ (u : List Nat) (t : Nat), Wd (kk m) u → u.length ≤ r → aft m 0 u = ((t : Nat) : Int) → q.1[t]? = some true) (fun q => 1000 - q.2.toNat) ⟨0, rfl, Nat.zero_le _, ⟨by simp, fun t ht => ?_⟩, fun u t hu hl e => ?_⟩ (by simp) ?_
 ·rw [show (0 : Int).toNat = 0 from rfl, Xk (by rw [List.length_replicate, Int.toNat_natCast]; omega)] at ht
  rcases ht with rfl | ht
  ·exact ⟨[], fun i hi => by simp at hi, rfl⟩
  ·rw [List.getElem?_replicate] at ht
   split at ht <;> simp at ht
 ·have : u = [] := List.eq_nil_of_length_eq_zero (by omega)
  subst this
  have : t = 0 := by simp [aft] at e; omega
  subst this
  rw [show (0 : Int).toNat = 0 from rfl, Xk (by rw [List.length_replicate, Int.toNat_natCast]; omega)]
  exact .inl rfl
 rintro ⟨out1, q⟩ ⟨r, e1, r1, r2, r3⟩
 simp only at e1 r2 r3
 subst e1
 unfold ka uk
 rw [y7]
 refine ⟨fun hc => ?_, fun hc => ?_⟩
 ·have hr : r < m.Rows.length := by simpa using hc
  rw [zJ]
  let C : List Bool → Nat → Nat → Prop := fun out s i => S out ∧ (∀ t : Nat, out1[t]? = some true → out[t]? = some true) ∧ ∀ s' i' : Nat, (s' < s ∨ s' = s ∧ i' < i) → i' < kk m → s' < m.Rows.length → out1[s']? = some true → 0 ≤ (E m s' i').To → out[(E m s' i').To.toNat]? = some true
  have round : Ret (loop (fun s => ui m s.1 s.2) (out1, 0)) fun out => C out m.Rows.length 0 := by
   refine yH (fun q => ∃ s : Nat, q.2 = (s : Int) ∧ s ≤ m.Rows.length ∧ C q.1 s 0) (fun q => 1000 - q.2.toNat) ⟨0, rfl, Nat.zero_le _, r2, fun t ht => ht, fun s' i' hh => by omega⟩ (by simp) ?_
   rintro ⟨out3, q⟩ ⟨s, e1, s1, s2⟩
   simp only at e1 s2
   subst e1
   unfold ui uj
   rw [y7]
   refine ⟨fun hc => ?_, fun hc => ?_⟩
   ·have hs : s < m.Rows.length := by simpa using hc
    rw [zJ]
    have row : Ret (loop (fun q => uh m (s : Int) q.1 q.2) (out3, 0)) fun out => C out s (kk m) := by
     refine yH (fun q => ∃ i : Nat, q.2 = (i : Int) ∧ i ≤ kk m ∧ C q.1 s i) (fun q => 1000 - q.2.toNat) ⟨0, rfl, Nat.zero_le _, s2⟩ (by simp) ?_
     rintro ⟨out5, q⟩ ⟨i, e1, i1, c1, c2, c3⟩
     simp only at e1 c1 c2 c3
     subst e1
     unfold uh xH
     rw [y7]
     refine ⟨fun hc => ?_, fun hc => ?_⟩
     ·have hi : i < kk m := by rw [← hke] at hc; simpa using hc
      have he := h.edgeAt hs hi
      have hl : s < out5.length := by rw [c1.1]; exact hs
      rw [h.edge_eq hs hi, yk, bdT (List.getElem?_eq_getElem hl), y7, w1 i (by omega)]
      have fin : ∀ out : List Bool, C out s (i + 1) → Ret (some (LR.next (out, ((i + 1 : Nat) : Int)) : LR (List Bool × Int) (List Bool))) (LRP (fun s' => (∃ i : Nat, s'.2 = (i : Int) ∧ i ≤ kk m ∧ C s'.1 s i) ∧ 1000 - s'.2.toNat < 1000 - (i : Int).toNat) fun out => C out s (kk m)) := by
       intro out hC
       exact ze.2 ⟨⟨i + 1, rfl, hi, hC⟩, by simp [Int.toNat_natCast]; omega⟩
      have keep : (out1[s]? = some true → 0 ≤ (E m s i).To → out5[(E m s i).To.toNat]? = some true) → C out5 s (i + 1) := by
       intro hh
       refine ⟨c1, c2, fun s' i' g1 g2 g3 g4 g5 => ?_⟩
       by_cases e : s' = s ∧ i' = i
       ·obtain ⟨rfl, rfl⟩ := e
        exact hh g4 g5
       ·exact c3 s' i' (by omega) g2 g3 g4 g5
      refine ⟨fun hb => ?_, fun hb => ?_⟩
      ·have hb' : out5[s]? = some true := by rw [List.getElem?_eq_getElem hl, hb]
       rw [y7]
       refine ⟨fun hc => ?_, fun hc => ?_⟩
       ·have h0 : 0 ≤ (E m s i).To := by simpa using hc
        have ht : (E m s i).To.toNat < out5.length := by rw [c1.1]; omega
        have ⟨n, hn⟩ := Int.eq_ofNat_of_zero_le h0
        obtain ⟨y, hx⟩ : ∃ y, idx out5 (E m s i).To = some y := by
         rw [hn] at ht ⊢
         exact ⟨_, List.getElem?_eq_getElem ht⟩
        rw [bdT hx]
        refine fin _ ⟨⟨by simpa using c1.1, fun t hh => ?_⟩, fun t hh => (Xk ht).2 (.inr (c2 t hh)), fun s' i' g1 g2 g3 g4 g5 => (Xk ht).2 ?_⟩
        ·rcases (Xk ht).1 hh with rfl | hh
         ·exact rch_step (c1.2 s hb') hi h0
         ·exact c1.2 t hh
        ·by_cases e : s' = s ∧ i' = i
         ·obtain ⟨rfl, rfl⟩ := e
          exact .inl rfl
         ·exact .inr (c3 s' i' (by omega) g2 g3 g4 g5)
       ·have h0 : ¬ 0 ≤ (E m s i).To := by simpa using hc
        exact fin _ (keep fun _ g => (h0 g).elim)
      ·have hb' : out5[s]? = some false := by rw [List.getElem?_eq_getElem hl, hb]
       refine fin _ (keep fun g _ => ?_)
       have := c2 s g
       rw [hb'] at this
       cases this
     ·have : i = kk m := by
       have : ¬ i < kk m := by rw [← hke] at hc; simpa using hc
       omega
      subst this
      exact ze.2 ⟨c1, c2, c3⟩
    refine row.mono ?_
    rintro out ⟨c1, c2, c3⟩
    rw [w1 s (by omega)]
    exact ze.2 ⟨⟨s + 1, rfl, hs, c1, c2, fun s' i' g1 g2 g3 => c3 s' i' (by omega) g2 g3⟩, by simp [Int.toNat_natCast]; omega⟩
   ·have : s = m.Rows.length := by
     have : ¬ s < m.Rows.length := by simpa using hc
     omega
    subst this
    exact ze.2 s2
  refine round.mono ?_
  rintro out ⟨c1, c2, c3⟩
  rw [w1 r (by omega)]
  refine ze.2 ⟨⟨r + 1, rfl, hr, c1, fun u t hu hl e => ?_⟩, by simp [Int.toNat_natCast]; omega⟩
  rcases Nat.lt_or_ge r u.length with q | q
  ·obtain ⟨u', i, rfl⟩ : ∃ u' i, u = u' ++ [i] := by
    rcases List.eq_nil_or_concat u with e | ⟨u', i, e⟩
    ·subst e; simp at q
    ·exact ⟨u', i, by simpa using e⟩
   have hu' : Wd (kk m) u' := fun j hj => hu j (by simp [hj])
   have hi := hu i (by simp)
   rw [(XJ m u' 0 i).2] at e
   have h1 := z13 h u' 0 ⟨by omega, by omega⟩ hu'
   have h0 : 0 ≤ aft m 0 u' := by
    rcases Int.lt_or_le (aft m 0 u') 0 with g | g
    ·unfold nxE at e
     rw [if_pos g] at e
     simp only at e
     omega
    ·exact g
   have ⟨s, hs⟩ := Int.eq_ofNat_of_zero_le h0
   have hsN : s < m.Rows.length := by have := h1.2; omega
   rw [hs, kK] at e
   have := c3 s i (.inl hsN) hi hsN (r3 u' s hu' (by simp at hl; omega) hs) (by omega)
   rw [e] at this
   simpa using this
  ·exact c2 t (r3 u t hu (by omega) e)
 ·have : r = m.Rows.length := by
   have : ¬ r < m.Rows.length := by simpa using hc
   omega
  subst this
  refine ze.2 ⟨r2.1, fun t ht => ⟨r2.2 t, ?_⟩⟩
  rintro ⟨u, hu, e⟩
  have ⟨w, x1, x2, x3, x4⟩ := Wx h u.length u (Nat.le_refl _) hu (by omega)
  exact r3 w t x1 (by omega) (x4.trans e)
end
theorem z85 (w : List Int) : xA w = some w := by
 unfold xA
 rw [gdT (by omega)]
 simp
def QW (l : List (List Int)) : Prop := l.Pairwise fun a b => ¬ XD b a < 0
theorem z4j (a b : List (List Int)) (hl : a.length < 4611686018427387904) (hw : ∀ x ∈ a, x.length < 4611686018427387904) : Zb a b = some (decide (a = b)) := by
 unfold Zb
 by_cases he : a.length = b.length
 ·have hb : (((a.length : Nat) : Int) != ((b.length : Nat) : Int)) = false := by simp; omega
  simp only [hb, cond_false]
  rw [bdT (y8 a hl (step := fun s => uB a b s) (fun i x => if b[i]? = some x then none else some false) ?_ ?_)]
  ·cases hf : zF (fun i x => if b[i]? = some x then none else some false) a 0 with
   | some r =>
    obtain ⟨i, x, h1, h2⟩ := ym hf
    rw [Nat.zero_add] at h2
    split at h2
    ·cases h2
    ·rename_i h3
     have : a ≠ b := fun e => h3 (by rw [← e]; exact h1)
     cases h2
     simp [oS, this]
   | none =>
    have hab : a = b := by
     refine List.ext_getElem? fun i => ?_
     rcases Nat.lt_or_ge i a.length with q | q
     ·have hx : a[i]? = some a[i] := List.getElem?_eq_getElem q
      have := yw hf i _ hx
      rw [Nat.zero_add] at this
      split at this
      ·rename_i h3; rw [h3, hx]
      ·cases this
     ·rw [List.getElem?_eq_none q, List.getElem?_eq_none (by omega)]
    simp [oS, jE, hab]
  ·intro i x hx
   have hi : i < a.length := (List.getElem?_eq_some_iff.1 hx).1
   have hq : decide ((i : Int) < (a.length : Int)) = true := by simpa using hi
   have hy : b[i]? = some b[i] := List.getElem?_eq_getElem (by omega)
   have hxm : x ∈ a := (List.getElem?_eq_some_iff.1 hx).2 ▸ List.getElem_mem hi
   unfold uB
   simp only [hq, cond_true, zG hx, zG hy, Option.bind_some, JU x b[i] (fun _ => hw x hxm), hy]
   by_cases h : b[i] = x
   ·rw [if_pos (by rw [h]), h, z38]; rfl
   ·have : (XD x b[i] != 0) = true := by simp; exact fun q => h (z84 q).symm
    rw [this, if_neg (by simpa using h)]
    rfl
  ·unfold uB; simp
 ·have hb : (((a.length : Nat) : Int) != ((b.length : Nat) : Int)) = true := by simp; omega
  have : a ≠ b := fun e => he (by rw [e])
  simp [hb, this]
variable {l : List (List Int)}
theorem z5b {n : Int}  (h : chE n l = 0) : l.length ≤ 4096 ∧ (∀ w ∈ l, w.length ≤ 256) ∧ XG l ≤ 65536 ∧ SW l ∧ (1 ≤ n ∧ n ≤ 16) ∧ ∀ w ∈ l, ∀ c ∈ w, 0 ≤ c ∧ c < n := by
 obtain ⟨h1, h2, h3⟩ := z5c.1 h
 obtain ⟨q1, q2, _⟩ := WP h1
 obtain ⟨r1, _, r3⟩ := z0u.1 h1
 exact ⟨q1, q2, h3, h2, r1, fun w hw => (r3 w hw).2⟩
theorem z3K {i : Nat} (h : i < 9223372036854775807) : w64 ((i : Int) + 1) = ((i + 1 : Nat) : Int) := by rw [yf (by omega) (by omega)]; rfl
def un (x : List Bool) : Nat := x.countP fun b => !b
variable {s : Nat}
theorem z8F {x : List Bool} {s : Nat} (h : x[s]? = some false) : un (x.set s true) < un x := by
 induction x generalizing s with
 | nil => simp at h
 | cons b x ih =>
  cases s with
  | zero => simp at h; subst h; simp [un]
  | succ s =>
   have := ih (s := s) (by simpa using h)
   unfold un at *
   rw [List.set_cons_succ, List.countP_cons, List.countP_cons]
   omega
theorem z8G : ∀ {x y : List Bool}, y.length = x.length → (∀ t : Nat, x[t]? = some true → y[t]? = some true) → un y ≤ un x
 | [], [], _, _ => Nat.le_refl _
 | a :: x, b :: y, hl, h => by
  have ih := z8G (x := x) (y := y) (by simpa using hl) fun t ht => by simpa using h (t + 1) (by simpa using ht)
  have h0 := h 0
  unfold un at *
  rw [List.countP_cons, List.countP_cons]
  cases a <;> cases b <;> simp at h0 ⊢ <;> omega
 | [], _ :: _, hl, _ => by simp at hl
 | _ :: _, [], hl, _ => by simp at hl
structure Dfs (m : z6) (P : Nat → Prop) (x y : List Bool) : Prop where
 len : y.length = x.length
 mono : ∀ t : Nat, x[t]? = some true → y[t]? = some true
 new : ∀ t : Nat, y[t]? = some true → x[t]? = some true ∨ P t ∧ ∀ i, i < kk m → 0 ≤ (E m t i).To → y[(E m t i).To.toNat]? = some true
variable {m : z6}{P : Nat → Prop}
theorem Dfs.refl (x : List Bool) : Dfs m P x x := ⟨rfl, fun _ h => h, fun _ h => .inl h⟩
theorem Dfs.trans {x y z : List Bool} (h : Dfs m P x y) (k : Dfs m P y z) : Dfs m P x z := {
 len := k.len.trans h.len
 mono := fun t q => k.mono t (h.mono t q)
 new := fun t q => by
  rcases k.new t q with g | g
  ·rcases h.new t g with r | ⟨r1, r2⟩
   ·exact .inl r
   ·exact .inr ⟨r1, fun i hi h0 => k.mono _ (r2 i hi h0)⟩
  ·exact .inr g }
section
variable {m : z6} (h : VM m)
include h
theorem z32 (hP : ∀ t i, P t → t < m.Rows.length → i < kk m → 0 ≤ (E m t i).To → P (E m t i).To.toNat) : ∀ (fu : Nat) (x : List Bool), x.length = m.Rows.length → un x < fu → ∀ s : Int, Vc m s → (0 ≤ s → P s.toNat) →
  ∃ y, zP fu s x m = some (y, m) ∧ Dfs m P x y ∧ (0 ≤ s → y[s.toNat]? = some true)
 | 0, x, _, hu, _, _, _ => by omega
 | fu + 1, x, hx, hu, s, hs, hPs => by
  have hk := h.kk_le
  show ∃ y, yV (zP fu) s x m = some (y, m) ∧ _
  unfold yV
  by_cases h1 : s = -1
  ·have : (s == -1) = true := by simpa using h1
   rw [this, cond_true]
   exact ⟨x, rfl, Dfs.refl x, fun q => by omega⟩
  ·have e1 : (s == -1) = false := by simpa using h1
   obtain ⟨n, rfl⟩ : ∃ n : Nat, s = n := ⟨s.toNat, by have := hs.1; omega⟩
   have hn : n < m.Rows.length := by have := hs.2; omega
   have hxn : x[n]? = some x[n] := List.getElem?_eq_getElem (by omega)
   rw [e1, cond_false, zG hxn, Option.bind_some]
   by_cases hb : x[n] = true
   ·rw [hb, cond_true]
    exact ⟨x, rfl, Dfs.refl x, fun _ => by simp only [Int.toNat_natCast]; rw [hxn, hb]⟩
   ·have hb : x[n] = false := by simpa using hb
    have ⟨r, hr, hrl, hre⟩ := h.rowAt hn
    rw [hb, cond_false, Option.bind_some, zG hr, Option.bind_some]
    simp only [Int.toNat_natCast]
    rw [hb] at hxn
    have hu1 := z8F hxn
    have hxl : (x.set n true).length = m.Rows.length := by simpa using hx
    have run : Ret (loop (fun s => yI (zP fu) r s.1 s.2.1 s.2.2.1 s.2.2.2.1 s.2.2.2.2) (x.set n true, m.Inputs, m.Outputs, m.Rows, 0)) fun q => q.2 = m ∧ Dfs m P (x.set n true) q.1 ∧ ∀ j, j < kk m → 0 ≤ (E m n j).To → q.1[(E m n j).To.toNat]? = some true := by
     refine yH (fun q => ∃ i : Nat, q.2 = (m.Inputs, m.Outputs, m.Rows, (i : Int)) ∧ i ≤ kk m ∧ Dfs m P (x.set n true) q.1 ∧ ∀ j, j < i → 0 ≤ (E m n j).To → q.1[(E m n j).To.toNat]? = some true) (fun q => 100 - q.2.2.2.2.toNat) ⟨0, rfl, Nat.zero_le _, Dfs.refl _, fun j hj => by omega⟩ (by show 100 - _ < _; omega) ?_
     rintro ⟨q, _⟩ ⟨i, rfl, hi, hd, hall⟩
     simp only at hd hall
     show Ret (yI (zP fu) r q m.Inputs m.Outputs m.Rows (i : Int)) _
     unfold yI
     rw [y7]
     refine ⟨fun hc => ?_, fun hc => ?_⟩
     ·have hlt : i < kk m := by simp at hc; omega
      rw [zG (hre i hlt), Option.bind_some]
      have hst : Vc m (E m n i).To := by
       rcases h.edgeAt hn hlt with ⟨g, _⟩ | ⟨g1, g2, _⟩
       ·exact ⟨by omega, by have := h.len1; omega⟩
       ·exact ⟨by omega, g2⟩
      have hPn : P n := by simpa using hPs (by omega)
      have ⟨y, y1, y2, y3⟩ := z32 hP fu q (by rw [hd.len]; exact hxl) (by have := z8G hd.len hd.mono; omega) (E m n i).To hst (fun h0 => hP n i hPn hn hlt h0)
      have y1' : zP fu (E m n i).To q (z6.mk m.Inputs m.Outputs m.Rows) = some (y, m) := y1
      rw [y1', Option.bind_some, ze, z3K (by omega)]
      refine ⟨⟨i + 1, rfl, hlt, hd.trans y2, fun j hj h0 => ?_⟩, by simp only; omega⟩
      by_cases e : j = i
      ·subst e; exact y3 h0
      ·exact y2.mono _ (hall j (by omega) h0)
     ·have : i = kk m := by simp at hc; omega
      subst this
      rw [ze]
      exact ⟨rfl, hd, hall⟩
    have ⟨⟨y, m'⟩, e, hm, hd, hall⟩ := run
    simp only at hm hd hall
    subst hm
    rw [e]
    refine ⟨y, rfl, ?_, fun _ => hd.mono _ ((Xk (by omega)).2 (.inl rfl))⟩
    refine ⟨by rw [hd.len]; simp, fun t ht => hd.mono t ((Xk (by omega)).2 (.inr ht)), fun t ht => ?_⟩
    rcases hd.new t ht with g | g
    ·rcases (Xk (by omega)).1 g with rfl | g
     ·exact .inr ⟨by simpa using hPs (by omega), hall⟩
     ·exact .inl g
    ·exact .inr g
omit h in
theorem Vp (l : List Bool) (hl : l.length < 4611686018427387904) : yp l false = some (!(l.all id)) := by
 unfold yp xM
 have hfs : ∀ (l : List Bool) (k : Nat), (zF (fun i x => if x = true then none else some ((i : Nat) : Int)) l k = none ∧ l.all id = true) ∨ ∃ i : Nat, zF (fun i x => if x = true then none else some ((i : Nat) : Int)) l k = some (i : Int) ∧ l.all id = false := by
  intro l
  induction l with
  | nil => intro k; exact .inl ⟨rfl, rfl⟩
  | cons x l ih =>
   intro k
   simp only [zF, List.all_cons]
   cases x with
   | true => simpa using ih (k + 1)
   | false => exact .inr ⟨k, by simp, by simp⟩
 rw [bdT (y8 l hl (step := fun s => yo l false s) (fun i x => if x = true then none else some ((i : Nat) : Int)) ?_ ?_)]
 ·rcases hfs l 0 with ⟨h1, h2⟩ | ⟨i, h1, h2⟩
  ·rw [h1, h2]; rfl
  ·rw [h1, h2]; simp [oS]
 ·intro i x hx
  have hi := (List.getElem?_eq_some_iff.1 hx).1
  unfold yo
  rw [decide_eq_true (by omega), cond_true, zG hx, Option.bind_some]
  cases x <;> rfl
 ·unfold yo
  rw [decide_eq_false (by omega), cond_false]
theorem Q9 : Ret (xQ m) fun r => r.2 = 0 ∧ (r.1 = true ↔ ∀ t, t < m.Rows.length → Rch m t) := by
 have l1 := h.len1
 have l64 := h.len64
 unfold xQ
 rw [Zq, VX h, Option.bind_some, bne_self_eq_false, cond_false, gdT (by omega)]
 have e0 : ((m.Rows.length : Nat) : Int).toNat = m.Rows.length := by simp
 rw [e0]
 have hun : un (List.replicate m.Rows.length false) < fuel := by
  have : un (List.replicate m.Rows.length false) ≤ (List.replicate m.Rows.length false).length := List.countP_le_length
  rw [List.length_replicate] at this
  show _ < 18446744073709551616
  omega
 have hP : ∀ t i, Rch m t → t < m.Rows.length → i < kk m → 0 ≤ (E m t i).To → Rch m (E m t i).To.toNat := fun t i ht _ hi h0 => rch_step ht hi h0
 have ⟨y, y1, y2, y3⟩ := z32 h hP fuel (List.replicate m.Rows.length false) (by simp) hun 0 ⟨by omega, by omega⟩ (fun _ => ⟨[], by simp [Wd], rfl⟩)
 have hyl : y.length = m.Rows.length := by rw [y2.len]; simp
 have no : ∀ t : Nat, (List.replicate m.Rows.length false)[t]? ≠ some true := fun t q => by
  rw [List.getElem?_replicate] at q
  split at q <;> cases q
 rw [y1, Option.bind_some, Vp y (by omega), Option.bind_some, ze]
 refine ⟨rfl, ?_⟩
 rw [Bool.not_not, List.all_eq_true]
 have clo : ∀ (u : List Nat) (t : Nat), Wd (kk m) u → aft m 0 u = (t : Int) → y[t]? = some true := by
  intro u
  generalize hlen : u.length = n
  induction n generalizing u with
  | zero =>
   intro t _ e
   rw [List.length_eq_zero_iff.1 hlen] at e
   have : t = 0 := by have : (0 : Int) = t := e; omega
   subst this
   exact y3 (by omega)
  | succ n ih =>
   intro t hu e
   have hne : u ≠ [] := by intro q; rw [q] at hlen; simp at hlen
   have hsplit := List.dropLast_concat_getLast hne
   have hu' : Wd (kk m) u.dropLast := fun i hi => hu i (List.dropLast_subset _ hi)
   have hi : u.getLast hne < kk m := hu _ (List.getLast_mem hne)
   have h2 := (XJ m u.dropLast 0 (u.getLast hne)).2
   rw [hsplit, e] at h2
   have hin := z13 h u.dropLast 0 ⟨by omega, by omega⟩ hu'
   by_cases hneg : aft m 0 u.dropLast < 0
   ·exfalso
    unfold nxE at h2
    rw [if_pos hneg] at h2
    simp at h2
   ·obtain ⟨s, hs⟩ : ∃ s : Nat, aft m 0 u.dropLast = s := ⟨(aft m 0 u.dropLast).toNat, by omega⟩
    have hy := ih u.dropLast (by simp [hlen]) s hu' hs
    rw [hs, kK] at h2
    rcases y2.new s hy with g | ⟨_, g⟩
    ·exact absurd g (no s)
    ·have := g _ hi (by omega)
     rw [← h2] at this
     simpa using this
 constructor
 ·intro q t ht
  have hx : y[t]? = some y[t] := List.getElem?_eq_getElem (by omega)
  have := q _ (List.mem_of_getElem? hx)
  rw [show y[t] = true from this] at hx
  rcases y2.new t hx with g | ⟨g, _⟩
  ·exact absurd g (no t)
  ·exact g
 ·intro q b hb
  have ⟨t, ht⟩ := List.mem_iff_getElem?.1 hb
  have htl := (List.getElem?_eq_some_iff.1 ht).1
  have ⟨u, hu, e⟩ := q t (by omega)
  have := clo u t hu e
  rw [ht] at this
  cases this
  rfl
end
theorem z5K : ∀ (N : Nat) (l : List Nat), l.Nodup → (∀ t ∈ l, t < N) → l.length ≤ N
 | 0, l, _, h => by
  cases l with
  | nil => exact Nat.le_refl _
  | cons x l => have := h x (by simp); omega
 | N + 1, l, hn, h => by
  have ih := z5K N (l.erase N) (hn.erase N) fun t ht => by
   have h1 := h t (List.mem_of_mem_erase ht)
   have h2 : t ≠ N := fun e => by subst e; exact absurd ht (hn.not_mem_erase)
   omega
  by_cases hm : N ∈ l
  ·rw [List.length_erase_of_mem hm] at ih; omega
  ·rw [List.erase_of_not_mem hm] at ih; omega
def Cpl (m : z6) : Prop := ∀ s i, s < m.Rows.length → i < kk m → 0 ≤ (E m s i).To
def zch (m : z6) : Prop := ∀ t, t < m.Rows.length → Rch m t
def zcC (m : z6) : Prop := ∀ s t, s < m.Rows.length → t < m.Rows.length → SEq m s t → s = t
def PE (m : z6) (e : Int) : Prop := (e = 9 ∧ ¬ Cpl m) ∨ (e = 11 ∧ Cpl m ∧ ¬ zch m) ∨ (e = 12 ∧ Cpl m ∧ zch m ∧ ¬ zcC m) ∨ (e = 0 ∧ Cpl m ∧ zch m ∧ zcC m)
theorem PE.uniq {e f : Int} (h : PE m e) (g : PE m f) : e = f := by
 rcases h with ⟨rfl, a⟩ | ⟨rfl, a, b⟩ | ⟨rfl, a, b, c⟩ | ⟨rfl, a, b, c⟩ <;> rcases g with ⟨rfl, x⟩ | ⟨rfl, x, y⟩ | ⟨rfl, x, y, z⟩ | ⟨rfl, x, y, z⟩ <;> first | rfl | exact absurd x a | exact absurd a x | exact absurd y b | exact absurd b y | exact absurd z c | exact absurd c z
section
variable {m : z6} (h : VM m)
include h
theorem z4W (hs : s < m.Rows.length) {r : List zj} (r2 : r.length = kk m) (r3 : ∀ i, i < kk m → r[i]? = some (E m s i)) {out0 : List (wo Int)} (hl : out0.length ≤ s * 16) :
  Ret (loop (fun st => yT (yOf fun s x => zX s x.1 x.2) (s : Int) r st.1 st.2) ((.next out0 : LR (List (wo Int)) Empty), 0)) fun y => ∃ out, y = .inl (.next out) ∧ out.length ≤ (s + 1) * 16 ∧ (out = [] ↔ out0 = [] ∧ ∀ i, i < kk m → 0 ≤ (E m s i).To) := by
 have hk := h.kk_le
 have hN := h.len64
 refine yH (fun st => ∃ (i : Nat) (out : List (wo Int)), st.2 = (i : Int) ∧ i ≤ kk m ∧ st.1 = .next out ∧ out.length ≤ s * 16 + i ∧ (out = [] ↔ out0 = [] ∧ ∀ j, j < i → 0 ≤ (E m s j).To)) (fun st => 20 - st.2.toNat) ⟨0, out0, rfl, by omega, rfl, by omega, by simp⟩ (by show 20 - _ < _; omega) ?_
 rintro ⟨_, _⟩ ⟨i, out, rfl, hi, rfl, ho, he⟩
 show Ret (yT (yOf fun s x => zX s x.1 x.2) (s : Int) r (.next out) (i : Int)) _
 unfold yT
 rw [y7]
 refine ⟨fun hc => ?_, fun hc => ?_⟩
 ·have hc : (i : Int) < ((r.length : Nat) : Int) := of_decide_eq_true hc
  have hik : i < kk m := by omega
  have w2 : w64 ((i : Int) + 1) = ((i + 1 : Nat) : Int) := by rw [yf (by omega) (by omega)]; rfl
  have hed := h.edgeAt hs hik
  rw [bdT (zG (r3 i hik))]
  unfold yOf zX vq
  simp only [Option.bind_some]
  by_cases ht : (E m s i).To = -1
  ·have ho1 : (E m s i).Out = -1 := by omega
   rw [ht, ho1]
   simp only [beq_self_eq_true, Bool.and_self, cond_true]
   rw [gdT (by simp; omega)]
   simp only [Option.bind_some, Bool.not_true, cond_false]
   rw [ze, w2]
   refine ⟨⟨i + 1, _, rfl, by omega, rfl, by simp; omega, ?_⟩, by simp only [Int.toNat_natCast]; omega⟩
   constructor
   ·intro q; simp at q
   ·rintro ⟨_, q⟩
    have := q i (by omega)
    omega
  ·have e1 : ((E m s i).To == -1) = false := by simpa using ht
   rw [e1, Bool.false_and, cond_false]
   simp only [Option.bind_some, Bool.not_true, cond_false]
   rw [ze, w2]
   refine ⟨⟨i + 1, out, rfl, by omega, rfl, by omega, he.trans ?_⟩, by simp only [Int.toNat_natCast]; omega⟩
   constructor
   ·rintro ⟨a, b⟩
    refine ⟨a, fun j hj => ?_⟩
    by_cases e : j = i
    ·subst e; omega
    ·exact b j (by omega)
   ·rintro ⟨a, b⟩; exact ⟨a, fun j hj => b j (by omega)⟩
 ·have hc := of_decide_eq_false hc
  have : i = kk m := by omega
  subst this
  exact ze.2 ⟨out, rfl, by omega, he⟩
theorem JT : Ret (we m) fun r => r.2 = 0 ∧ (r.1 = true ↔ Cpl m) := by
 have hk := h.kk_le
 have hN := h.len64
 unfold we vp j6
 rw [Zq, VX h, Option.bind_some, bne_self_eq_false, cond_false, Option.bind_some]
 unfold wD
 rw [zJ, zJ, zJ]
 refine (yH (R := fun y : LR (List (wo Int)) Empty => ∃ out, y = .next out ∧ out.length ≤ 2000 ∧ (out = [] ↔ Cpl m)) (fun st : LR (List (wo Int)) Empty × Int => ∃ (s : Nat) (out : List (wo Int)), st.2 = (s : Int) ∧ s ≤ m.Rows.length ∧ st.1 = .next out ∧ out.length ≤ s * 16 ∧ (out = [] ↔ ∀ t j, t < s → j < kk m → 0 ≤ (E m t j).To)) (fun st => 100 - st.2.toNat) ⟨0, [], rfl, by omega, rfl, by simp, by simp⟩ (by show 100 - _ < _; omega) ?_).mono ?_
 ·rintro ⟨_, _⟩ ⟨s, out, rfl, hs, rfl, ho, he⟩
  show Ret (xF m (yOf fun s x => zX s x.1 x.2) (.next out) (s : Int)) _
  unfold xF
  rw [y7]
  refine ⟨fun hc => ?_, fun hc => ?_⟩
  ·have hc : (s : Int) < ((m.Rows.length : Nat) : Int) := of_decide_eq_true hc
   have hsN : s < m.Rows.length := by omega
   have ⟨r, r1, r2, r3⟩ := h.rowAt hsN
   rw [bdT (zG r1), zJ]
   refine (z4W h hsN r2 r3 ho).mono ?_
   rintro y ⟨out', rfl, g1, g2⟩
   simp only
   unfold wI
   rw [ze, yf (x := (s : Int) + 1) (by omega) (by omega)]
   refine ⟨⟨s + 1, out', rfl, by omega, rfl, g1, g2.trans ?_⟩, by simp only; omega⟩
   rw [he]
   constructor
   ·rintro ⟨a, b⟩ t j ht hj
    by_cases e : t = s
    ·subst e; exact b j hj
    ·exact a t j (by omega) hj
   ·intro a
    exact ⟨fun t j ht hj => a t j (by omega) hj, fun j hj => a s j (by omega) hj⟩
  ·have hc := of_decide_eq_false hc
   have : s = m.Rows.length := by omega
   subst this
   exact ze.2 ⟨out, rfl, by omega, he⟩
 ·rintro y ⟨out, rfl, g1, g2⟩
  rw [ze]
  simp only
  unfold wa xC
  rw [gdT (by omega), Option.bind_some, ze, ze]
  refine ⟨rfl, ?_⟩
  rw [← g2]
  cases out with
  | nil => simp
  | cons a l => simp; omega
theorem z1n (hs : s < m.Rows.length) {n0 b : Nat} {P : Prop} (h0 : n0 ≤ b) (hb : b ≤ 2000) (hP : n0 = b ↔ P) : Ret (loop (fun st => wz m (s : Int) st.1 st.2) ((n0 : Int), 0)) fun n => ∃ k : Nat, n = (k : Int) ∧ k ≤ b + kk m ∧ (k = b + kk m ↔ P ∧ ∀ i, i < kk m → 0 ≤ (E m s i).To) := by
 have hk := h.kk_le
 have hke := h.kk_eq
 refine yH (fun st => ∃ (i k : Nat), st.2 = (i : Int) ∧ i ≤ kk m ∧ st.1 = (k : Int) ∧ k ≤ b + i ∧ (k = b + i ↔ P ∧ ∀ j, j < i → 0 ≤ (E m s j).To)) (fun st => 20 - st.2.toNat) ⟨0, n0, rfl, by omega, rfl, by omega, by simpa using hP⟩ (by show 20 - _ < _; omega) ?_
 rintro ⟨_, _⟩ ⟨i, k, rfl, hi, rfl, hk1, he⟩
 show Ret (wz m (s : Int) (k : Int) (i : Int)) _
 unfold wz wC
 rw [y7]
 refine ⟨fun hc => ?_, fun hc => ?_⟩
 ·have hc : (i : Int) < m.Inputs := of_decide_eq_true hc
  have hik : i < kk m := by omega
  have w2 : w64 ((i : Int) + 1) = ((i + 1 : Nat) : Int) := by rw [yf (by omega) (by omega)]; rfl
  have w3 : w64 ((k : Int) + 1) = ((k + 1 : Nat) : Int) := by rw [yf (by omega) (by omega)]; rfl
  refine h.ret_edge hs hik ?_
  rw [y7]
  refine ⟨fun ht => ?_, fun ht => ?_⟩
  ·have ht : (E m s i).To ≥ 0 := of_decide_eq_true ht
   rw [ze, w2, w3]
   refine ⟨⟨i + 1, k + 1, rfl, by omega, rfl, by omega, (show k + 1 = b + (i + 1) ↔ k = b + i by omega).trans (he.trans ?_)⟩, by simp [Int.toNat_natCast]; omega⟩
   constructor
   ·rintro ⟨a, c⟩
    refine ⟨a, fun j hj => ?_⟩
    by_cases e : j = i
    ·subst e; omega
    ·exact c j (by omega)
   ·rintro ⟨a, c⟩; exact ⟨a, fun j hj => c j (by omega)⟩
  ·have ht := of_decide_eq_false ht
   rw [ze, w2]
   refine ⟨⟨i + 1, k, rfl, by omega, rfl, by omega, ?_⟩, by simp [Int.toNat_natCast]; omega⟩
   constructor
   ·intro q; omega
   ·rintro ⟨_, c⟩
    have := c i (by omega)
    omega
 ·have hc := of_decide_eq_false hc
  have : i = kk m := by omega
  subst this
  exact ze.2 ⟨k, rfl, hk1, he⟩
theorem UQ : Ret (vW m) fun b => b = true ↔ Cpl m := by
 have hk := h.kk_le
 have hN := h.len64
 have hke := h.kk_eq
 unfold vW jH uq
 rw [zJ, zJ]
 refine (yH (R := fun n : Int => ∃ k : Nat, n = (k : Int) ∧ (k = m.Rows.length * kk m ↔ Cpl m)) (fun st : Int × Int => ∃ s k : Nat, st.2 = (s : Int) ∧ s ≤ m.Rows.length ∧ st.1 = (k : Int) ∧ k ≤ s * kk m ∧ (k = s * kk m ↔ ∀ t j, t < s → j < kk m → 0 ≤ (E m t j).To)) (fun st => 100 - st.2.toNat) ⟨0, 0, rfl, by omega, rfl, by omega, by simp⟩ (by show 100 - _ < _; omega) ?_).mono ?_
 ·rintro ⟨_, _⟩ ⟨s, k, rfl, hs, rfl, hk1, he⟩
  show Ret (um m (k : Int) (s : Int)) _
  unfold um
  rw [y7]
  refine ⟨fun hc => ?_, fun hc => ?_⟩
  ·have hc : (s : Int) < ((m.Rows.length : Nat) : Int) := of_decide_eq_true hc
   have hb : s * kk m ≤ 64 * 16 := Nat.mul_le_mul (by omega) hk
   rw [zJ]
   refine (z1n h (s := s) (by omega) hk1 (by omega) he).mono ?_
   rintro n ⟨k', rfl, g1, g2⟩
   unfold uo
   have e : s * kk m + kk m = (s + 1) * kk m := by rw [Nat.succ_mul]
   rw [e] at g1 g2
   rw [ze, yf (x := (s : Int) + 1) (by omega) (by omega)]
   refine ⟨⟨s + 1, k', rfl, by omega, rfl, g1, g2.trans ?_⟩, by simp only; omega⟩
   constructor
   ·rintro ⟨a, b⟩ t j ht hj
    by_cases e : t = s
    ·subst e; exact b j hj
    ·exact a t j (by omega) hj
   ·intro a
    exact ⟨fun t j ht hj => a t j (by omega) hj, fun j hj => a s j (by omega) hj⟩
  ·have hc := of_decide_eq_false hc
   have : s = m.Rows.length := by omega
   subst this
   exact ze.2 ⟨k, rfl, he⟩
 ·rintro n ⟨k, rfl, g⟩
  rw [ze, ze]
  have hb : m.Rows.length * kk m ≤ 64 * 16 := Nat.mul_le_mul hN hk
  have e : ((m.Rows.length : Nat) : Int) * m.Inputs = ((m.Rows.length * kk m : Nat) : Int) := by rw [← hke, Int.natCast_mul]
  rw [e, yf (by omega) (by omega), ← g, beq_iff_eq]
  omega
theorem Vn : Ret (vn m) fun b => b = true ↔ zch m := by
 have hN := h.len64
 unfold vn vj
 rw [zJ]
 refine (Kt h).mono ?_
 rintro is ⟨h1, h2⟩
 have hl := y8 is (by omega) (step := fun s => xP is s) (fun _ b => if b = true then none else some false) (by
  intro i b hb
  have hi := (List.getElem?_eq_some_iff.1 hb).1
  unfold xP
  rw [decide_eq_true (by omega), cond_true, bdT (zG hb)]
  cases b <;> rfl) (by
  unfold xP
  rw [decide_eq_false (by omega), cond_false])
 rw [hl, Option.bind_some]
 cases hf : zF (fun _ b => if b = true then none else some false) is 0 with
 | none =>
  show Ret (some true) _
  rw [ze]
  refine ⟨fun _ t ht => ?_, fun _ => rfl⟩
  have hx : is[t]? = some is[t] := List.getElem?_eq_getElem (by omega)
  have := yw hf t _ hx
  split at this
  ·rename_i q
   rw [q] at hx
   exact (h2 t ht).1 hx
  ·cases this
 | some r =>
  have ⟨t, b, hb, q⟩ := ym hf
  split at q
  ·cases q
  ·cases q
   rename_i g
   show Ret (some false) _
   rw [ze]
   constructor
   ·intro q; cases q
   ·intro q
    have htl := (List.getElem?_eq_some_iff.1 hb).1
    have := (h2 t (by omega)).2 (q t (by omega))
    rw [hb] at this
    exact absurd (Option.some.inj this) g
omit h in
theorem z7f {l : List Int} (h0 : 0 < l.length) (hl : l.length ≤ 100000) : Ret (xN l) fun x => x ∈ l ∧ ∀ y ∈ l, y ≤ x := by
 unfold xN xV
 have e0 : l[0]? = some l[0] := List.getElem?_eq_getElem h0
 rw [decide_eq_false (by omega), cond_false, bdT (show idx l 0 = some l[0] from e0), zJ]
 refine Ret.mono ?_ fun x hx => ze.2 hx
 refine yH (fun st => ∃ i : Nat, st.2 = (i : Int) ∧ 1 ≤ i ∧ i ≤ l.length ∧ st.1 ∈ l ∧ ∀ j y, j < i → l[j]? = some y → y ≤ st.1) (fun st => 100000 - st.2.toNat) ⟨1, rfl, by omega, by omega, List.getElem_mem _, fun j y hj hy => by
  have : j = 0 := by omega
  subst this
  rw [e0] at hy
  cases hy
  exact Int.le_refl _⟩ (by show 100000 - _ < _; omega) ?_
 rintro ⟨x, _⟩ ⟨i, rfl, i1, i2, hx, hm⟩
 simp only at hx hm
 show Ret (xU l x (i : Int)) _
 unfold xU
 rw [y7]
 refine ⟨fun hc => ?_, fun hc => ?_⟩
 ·have hc : (i : Int) < ((l.length : Nat) : Int) := of_decide_eq_true hc
  have hy : l[i]? = some l[i] := List.getElem?_eq_getElem (by omega)
  rw [bdT (zG hy), ze, yf (x := (i : Int) + 1) (by omega) (by omega)]
  refine ⟨⟨i + 1, rfl, by omega, by omega, ?_, fun j y hj hjy => ?_⟩, by simp only; omega⟩
  ·show mx x l[i] ∈ l
   unfold mx
   split
   ·exact List.getElem_mem _
   ·exact hx
  ·show y ≤ mx x l[i]
   unfold mx
   by_cases e : j = i
   ·subst e
    rw [hy] at hjy
    cases hjy
    split <;> omega
   ·have := hm j y (by omega) hjy
    split <;> omega
 ·have hc := of_decide_eq_false hc
  refine ze.2 ⟨hx, fun y hy => ?_⟩
  have ⟨j, hj⟩ := List.mem_iff_getElem?.1 hy
  exact hm j y (by have := (List.getElem?_eq_some_iff.1 hj).1; omega) hj
omit h in
theorem z6Y {p : List Int} (hr : Rgf p) (h0 : 0 < p.length) {x : Int} (hx : x ∈ p) (hm : ∀ y ∈ p, y ≤ x) : x = (p.length : Int) - 1 ↔ ∀ s t : Nat, s < p.length → t < p.length → p[s]? = p[t]? → s = t := by
 constructor
 ·intro e
  have ⟨s0, hs0⟩ := List.mem_iff_getElem?.1 hx
  have ⟨v, v1, v2⟩ := hr s0 x hs0
  have hs0l := (List.getElem?_eq_some_iff.1 hs0).1
  have place : ∀ w : Nat, w < p.length → ∃ s, s < p.length ∧ p[s]? = some (w : Int) := by
   intro w hw
   by_cases q : w = v
   ·subst q; exact ⟨s0, hs0l, by rw [hs0, v1]⟩
   ·have ⟨t, t1, t2⟩ := v2 w (by omega)
    exact ⟨t, by omega, t2⟩
  intro s t hs ht hst
  refine Classical.byContradiction fun hne => ?_
  have : ∃ g : Nat → Nat, ∀ w, w < p.length → g w < p.length ∧ p[g w]? = some (w : Int) := by
   classical
   exact ⟨fun w => if q : w < p.length then (place w q).choose else 0, fun w hw => by simp [hw]; exact (place w hw).choose_spec⟩
  have ⟨g, hg⟩ := this
  have : ∃ u, u < p.length ∧ ∀ w, w < p.length → g w ≠ u := by
   refine Classical.byContradiction fun q => ?_
   have q : ∀ u, u < p.length → ∃ w, w < p.length ∧ g w = u := fun u hu => Classical.byContradiction fun q2 => q ⟨u, hu, fun w hw e => q2 ⟨w, hw, e⟩⟩
   obtain ⟨a, a1, rfl⟩ := q s hs
   obtain ⟨b, b1, rfl⟩ := q t ht
   rw [(hg a a1).2, (hg b b1).2] at hst
   have : a = b := by have := Option.some.inj hst; omega
   exact hne (by rw [this])
  have ⟨u, hu, hgu⟩ := this
  have hnd : (u :: (List.range p.length).map g).Nodup := by
   rw [List.nodup_cons]
   refine ⟨fun q => ?_, ?_⟩
   ·have ⟨w, hw, e⟩ := List.mem_map.1 q
    exact hgu w (List.mem_range.1 hw) e
   ·rw [List.Nodup, List.pairwise_map]
    refine List.Pairwise.imp_of_mem (fun {a b} ha hb hab => ?_) List.nodup_range
    intro e
    have ha := hg a (List.mem_range.1 ha)
    have hb := hg b (List.mem_range.1 hb)
    rw [e, hb.2] at ha
    have := Option.some.inj ha.2
    omega
  have := z5K p.length _ hnd (fun w hw => by
   rcases List.mem_cons.1 hw with rfl | q
   ·exact hu
   ·obtain ⟨z, hz, rfl⟩ := List.mem_map.1 q
    exact (hg z (List.mem_range.1 hz)).1)
  simp at this
  omega
 ·intro q
  have e : p = (List.range p.length).map Int.ofNat := by
   refine z0b hr (fun s y hy => ?_) (by simp) fun s t hs ht => ?_
   ·have hs : s < p.length := by have := (List.getElem?_eq_some_iff.1 hy).1; simpa using this
    simp [hs] at hy
    refine ⟨s, hy.symm, fun w hw => ⟨w, hw, by simp [show w < p.length by omega]⟩⟩
   ·constructor
    ·intro g; rw [q s t hs ht g]
    ·intro g
     simp [hs, ht] at g
     have : s = t := by omega
     rw [this]
  have hin : ((p.length - 1 : Nat) : Int) ∈ (List.range p.length).map Int.ofNat := List.mem_map.2 ⟨p.length - 1, List.mem_range.2 (by omega), rfl⟩
  rw [← e] at hin
  have h1 := hm _ hin
  rw [e] at hx
  obtain ⟨w, hw, rfl⟩ := List.mem_map.1 hx
  have := List.mem_range.1 hw
  have : Int.ofNat w = (w : Int) := rfl
  omega
theorem z1d : Ret (xc m) (PE m) := by
 have hN := h.len64
 have hN1 := h.len1
 unfold xc qr vG vF vD wG
 rw [Zq, VX h, Option.bind_some, bne_self_eq_false, cond_false, Option.bind_some, zJ, zJ]
 refine (JT h).mono ?_
 rintro ⟨b1, _⟩ ⟨_, hb1⟩
 rw [ze]
 simp only at hb1 ⊢
 cases b1 with
 | false => exact ze.2 (.inl ⟨rfl, fun q => by have := hb1.2 q; cases this⟩)
 | true =>
  have hc := hb1.1 rfl
  simp [Bool.not_true, cond_false]
  rw [zJ, zJ]
  refine (Q9 h).mono ?_
  rintro ⟨b2, _⟩ ⟨_, hb2⟩
  rw [ze]
  simp only at hb2 ⊢
  cases b2 with
  | false => exact ze.2 (.inr (.inl ⟨rfl, hc, fun q => by have := hb2.2 q; cases this⟩))
  | true =>
   have hr := hb2.1 rfl
   simp
   rw [zJ, zJ]
   refine (z1r h).mono ?_
   rintro ⟨p, n, e⟩ ⟨_, hp, hrg, hq⟩
   simp only at hp hrg hq ⊢
   rw [zJ]
   refine (z7f (l := p) (by omega) (by omega)).mono ?_
   rintro x ⟨x1, x2⟩
   have hmax := z6Y hrg (by omega) x1 x2
   rw [ze, yf (x := ((p.length : Nat) : Int) - 1) (by omega) (by omega)]
   have hd : zcC m ↔ ∀ s t : Nat, s < p.length → t < p.length → p[s]? = p[t]? → s = t := by
    rw [hp]
    exact ⟨fun d s t hs ht g => d s t hs ht ((hq s t hs ht).1 g), fun d s t hs ht g => d s t hs ht ((hq s t hs ht).2 g)⟩
   by_cases g : x = (p.length : Int) - 1
   ·rw [beq_iff_eq.2 g]
    simp
    exact ze.2 (.inr (.inr (.inr ⟨rfl, hc, hr, hd.2 (hmax.1 g)⟩)))
   ·have : (x == (p.length : Int) - 1) = false := by simpa using g
    rw [this]
    simp
    exact ze.2 (.inr (.inr (.inl ⟨rfl, hc, hr, fun d => g (hmax.2 (hd.1 d))⟩)))
theorem Kp : Ret (wO m) (PE m) := by
 have hN := h.len64
 unfold wO qh
 rw [Yt, VX h, Option.bind_some, bne_self_eq_false, cond_false, zJ]
 refine (UQ h).mono ?_
 intro b1 hb1
 cases b1 with
 | false => exact ze.2 (.inl ⟨rfl, fun q => by have := hb1.2 q; cases this⟩)
 | true =>
  have hc := hb1.1 rfl
  simp [Bool.not_true, cond_false]
  rw [zJ]
  refine (Vn h).mono ?_
  intro b2 hb2
  cases b2 with
  | false => exact ze.2 (.inr (.inl ⟨rfl, hc, fun q => by have := hb2.2 q; cases this⟩))
  | true =>
   have hr := hb2.1 rfl
   simp
   rw [zJ]
   refine (KO h.wm).mono ?_
   rintro p ⟨hp, hq⟩
   have inner : ∀ (s : Nat) (x : Int), p[s]? = some x → loop (fun t => v9 p (s : Int) t) 0 = some (oS (zF (fun i y => if y = x then some (12 : Int) else none) (p.take s) 0)) := by
    intro s x hx
    have hs := (List.getElem?_eq_some_iff.1 hx).1
    refine y8 (p.take s) (by rw [List.length_take]; omega) _ ?_ ?_
    ·intro i y hy
     have hi := (List.getElem?_eq_some_iff.1 hy).1
     rw [List.length_take] at hi
     have hy' : p[i]? = some y := by rw [List.getElem?_take_of_lt (by omega)] at hy; exact hy
     unfold v9
     rw [decide_eq_true (by omega), cond_true, bdT (zG hx), bdT (zG hy')]
     by_cases e : y = x
     ·rw [if_pos e, e, beq_self_eq_true, cond_true]; rfl
     ·have : (x == y) = false := by simpa using fun q => e q.symm
      rw [if_neg e, this, cond_false]; rfl
    ·unfold v9
     rw [decide_eq_false (by rw [List.length_take]; omega), cond_false]
   have outer := y8 p (by omega) (step := fun s => va p s) (fun s x => zF (fun i y => if y = x then some (12 : Int) else none) (p.take s) 0) (by
    intro s x hx
    have hs := (List.getElem?_eq_some_iff.1 hx).1
    unfold va qg
    rw [decide_eq_true (by omega), cond_true, inner s x hx, Option.bind_some]
    cases zF (fun i y => if y = x then some (12 : Int) else none) (p.take s) 0 <;> rfl) (by
    unfold va
    rw [decide_eq_false (by omega), cond_false])
   rw [outer, Option.bind_some]
   cases hf : zF (fun s x => zF (fun i y => if y = x then some (12 : Int) else none) (p.take s) 0) p 0 with
   | none =>
    refine ze.2 (.inr (.inr (.inr ⟨rfl, hc, hr, ?_⟩)))
    have lt : ∀ s t, s < m.Rows.length → t < s → ¬ SEq m s t := by
     intro s t hs ht g
     have hx : p[s]? = some p[s] := List.getElem?_eq_getElem (by omega)
     have hy : (p.take s)[t]? = p[t]? := List.getElem?_take_of_lt ht
     have h1 := yw hf s _ hx
     rw [Nat.zero_add] at h1
     have h2 := yw h1 t p[s] (by rw [hy, ← (hq s t hs (by omega)).2 g, hx])
     rw [if_pos rfl] at h2
     cases h2
    intro s t hs ht g
    rcases Nat.lt_trichotomy s t with q | q | q
    ·exact absurd (fun w hw => (g w hw).symm) (lt t s ht q)
    ·exact q
    ·exact absurd g (lt s t hs q)
   | some r =>
    have ⟨s, x, hx, h1⟩ := ym hf
    rw [Nat.zero_add] at h1
    have ⟨t, y, hy, h2⟩ := ym h1
    split at h2
    ·rename_i e
     cases h2
     refine ze.2 (.inr (.inr (.inl ⟨rfl, hc, hr, fun d => ?_⟩)))
     have hs := (List.getElem?_eq_some_iff.1 hx).1
     have ht := (List.getElem?_eq_some_iff.1 hy).1
     rw [List.length_take] at ht
     rw [List.getElem?_take_of_lt (by omega)] at hy
     have := d s t (by omega) (by omega) ((hq s t (by omega) (by omega)).1 (by rw [hx, hy, e]))
     omega
    ·cases h2
end
theorem Ku (m : z6) : ∃ e : Int, xc m = some e ∧ wO m = some e ∧ (e = 0 ↔ VM m ∧ Cpl m ∧ zch m ∧ zcC m) ∧ (chk m ≠ 0 → e = chk m) := by
 by_cases hc : chk m = 0
 ·have v := z1F hc
  have ⟨e, e1, e2⟩ := z1d v
  have ⟨f, f1, f2⟩ := Kp v
  rw [← e2.uniq f2] at f1
  refine ⟨e, e1, f1, ?_, fun q => absurd hc q⟩
  constructor
  ·rintro rfl
   rcases e2 with ⟨q, _⟩ | ⟨q, _⟩ | ⟨q, _⟩ | ⟨_, a, b, c⟩
   ·omega
   ·omega
   ·omega
   ·exact ⟨v, a, b, c⟩
  ·rintro ⟨_, a, b, c⟩
   exact e2.uniq (.inr (.inr (.inr ⟨rfl, a, b, c⟩)))
 ·have hb : (chk m != 0) = true := by simpa using hc
  refine ⟨chk m, ?_, ?_, ⟨fun q => absurd q hc, fun q => absurd (VX q.1) hc⟩, fun _ => rfl⟩
  ·unfold xc
   rw [Zq, Option.bind_some, hb, cond_true]
  ·unfold wO
   rw [Yt, Option.bind_some, hb, cond_true]
theorem WK {l : List Int} (h : ∀ c ∈ l, 0 ≤ c) : (l.map Int.toNat).map Int.ofNat = l := by
 rw [List.map_map]
 conv => rhs; rw [← List.map_id l]
 exact List.map_congr_left fun c hc => by have := h c hc; show ((c.toNat : Nat) : Int) = c; omega
def fd : List Int → List Int → Nat → Int
 | x :: a, y :: b, k => if x = y then fd a b (k + 1) else (k : Int)
 | _, _, _ => -1
theorem z7W : ∀ (a b : List Int) (k : Nat), fd a b k = -1 ∨ (k : Int) ≤ fd a b k
 | [], _, _ => .inl rfl
 | _ :: _, [], _ => .inl rfl
 | x :: a, y :: b, k => by
  simp only [fd]
  split
  ·rcases z7W a b (k + 1) with h | h
   ·exact .inl h
   ·exact .inr (by omega)
  ·exact .inr (Int.le_refl _)
def ouS : Unit ⊕ Int → Int
 | .inl _ => -1
 | .inr p => p
theorem z1c {a b : List Int} (hl : a.length = b.length) (ha : a.length < 4611686018427387904) : Ret (loop (fun s => jA a b s) 0) fun t => ouS t = fd a b 0 := by
 refine yH (fun q => ∃ k : Nat, q = (k : Int) ∧ k ≤ a.length ∧ fd (a.drop k) (b.drop k) k = fd a b 0) (fun q => a.length + 1 - q.toNat) ⟨0, rfl, Nat.zero_le _, rfl⟩ (by simp; omega) ?_
 rintro _ ⟨k, rfl, hk, e⟩
 unfold jA
 rw [y7]
 refine ⟨fun c => ?_, fun c => ?_⟩
 ·have hlt : k < a.length := by simpa using c
  have hlb : k < b.length := by omega
  rw [yk, bdT (List.getElem?_eq_getElem hlt), yk, bdT (List.getElem?_eq_getElem hlb), y7]
  rw [List.drop_eq_getElem_cons hlt, List.drop_eq_getElem_cons hlb] at e
  simp only [fd] at e
  refine ⟨fun c2 => ?_, fun c2 => ?_⟩
  ·have hne : a[k] ≠ b[k] := by simpa using c2
   rw [if_neg hne] at e
   exact ze.2 e
  ·have he : a[k] = b[k] := by simpa using c2
   rw [if_pos he] at e
   have hw : w64 ((k : Int) + 1) = ((k + 1 : Nat) : Int) := by rw [yf (by omega) (by omega)]; rfl
   exact ze.2 ⟨⟨k + 1, hw, hlt, e⟩, by rw [hw]; simp only [Int.toNat_natCast]; omega⟩
 ·have hge : k = a.length := by have := of_decide_eq_false c; omega
  subst hge
  rw [List.drop_length] at e
  exact ze.2 e
section
variable {m o : z6} (hm : VM m) (ho : VM o) (hi : m.Inputs = o.Inputs)
include hm ho hi
theorem z5W : kk m = kk o := by have := hm.kk_eq; have := ho.kk_eq; omega
omit hm ho hi in
theorem st0 (hm : VM m) : Vc m 0 := ⟨by omega, by have := hm.len1; omega⟩
def stp (m o : z6) (w : List Int) : Int := fd (rsp m 0 (w.map Int.toNat)) (rsp o 0 (w.map Int.toNat)) 0
theorem z0a {w : List Int} (hw : ∀ c ∈ w, 0 ≤ c ∧ c < m.Inputs) (hl : w.length ≤ 1000) : jf m o w = some (stp m o w) := by
 have hn : (w.map Int.toNat).map Int.ofNat = w := WK fun c hc => (hw c hc).1
 have hk := hm.kk_eq
 have hk2 := z5W hm ho hi
 have hd : ∀ i ∈ w.map Int.toNat, i < kk m := fun i h => by
  obtain ⟨c, hc, rfl⟩ := List.mem_map.1 h
  have := hw c hc
  omega
 have hll : (w.map Int.toNat).length ≤ 1000 := by rw [List.length_map]; exact hl
 have e1 := z5F hm (st0 hm) (w.map Int.toNat) hd (by omega)
 have e2 := z5F ho (st0 ho) (w.map Int.toNat) (fun i h => hk2 ▸ hd i h) (by omega)
 rw [hn] at e1 e2
 unfold jf
 rw [bdT e1, bdT e2]
 refine Ret.eq ?_
 rw [zJ]
 refine (z1c (by rw [UM, UM]) (by rw [UM]; omega)).mono fun t ht => ?_
 unfold stp
 rw [← ht]
 cases t <;> exact ze.2 rfl
theorem z0I {w : List Int} (hw : ∀ c ∈ w, 0 ≤ c ∧ c < m.Inputs) (hl : w.length ≤ 1000) : kR m o w = some (stp m o w) := by
 have hk := hm.kk_eq
 have hk2 := z5W hm ho hi
 obtain ⟨v, hv⟩ : ∃ v, v = w.map Int.toNat := ⟨_, rfl⟩
 have hn : v.map Int.ofNat = w := by rw [hv]; exact WK fun c hc => (hw c hc).1
 have hd : ∀ i ∈ v, i < kk m := fun i h => by
  rw [hv] at h
  obtain ⟨c, hc, rfl⟩ := List.mem_map.1 h
  have := hw c hc
  omega
 have hvl : v.length = w.length := by rw [hv, List.length_map]
 unfold kR
 refine Ret.eq ?_
 rw [zJ]
 have key : Ret (loop (fun s => qQ m o w s.1 s.2.1 s.2.2) (0, 0, 0)) fun t => ouS t = stp m o w := by
  refine yH (fun q => ∃ k : Nat, q.2.2 = (k : Int) ∧ k ≤ v.length ∧ Vc m q.1 ∧ Vc o q.2.1 ∧ fd (rsp m q.1 (v.drop k)) (rsp o q.2.1 (v.drop k)) k = stp m o w) (fun q => 2000 - q.2.2.toNat) ⟨0, rfl, Nat.zero_le _, st0 hm, st0 ho, by rw [hv]; rfl⟩ (by show 2000 - _ < _; omega) ?_
  rintro ⟨s, t, _⟩ ⟨k, rfl, hkl, hs, ht, e⟩
  simp only at hs ht e
  show Ret (qQ m o w s t (k : Int)) _
  unfold qQ
  rw [y7]
  refine ⟨fun c => ?_, fun c => ?_⟩
  ·have hlt : k < v.length := by rw [hvl]; simpa using c
   have hx : w[k]? = some ((v[k] : Nat) : Int) := by rw [← hn, List.getElem?_map, List.getElem?_eq_getElem hlt]; rfl
   have hxk : v[k] < kk m := hd _ (List.getElem_mem hlt)
   have hxo : v[k] < kk o := hk2 ▸ hxk
   rw [List.drop_eq_getElem_cons hlt] at e
   simp only [rsp, fd] at e
   have hw64 : w64 ((k : Int) + 1) = ((k + 1 : Nat) : Int) := by rw [yf (by omega) (by omega)]; rfl
   have fin : Ret (wP (k : Int) (nxE m s v[k]).To (nxE m s v[k]).Out (nxE o t v[k]).To (nxE o t v[k]).Out) (LRP (fun q => (∃ k : Nat, q.2.2 = (k : Int) ∧ k ≤ v.length ∧ Vc m q.1 ∧ Vc o q.2.1 ∧ fd (rsp m q.1 (v.drop k)) (rsp o q.2.1 (v.drop k)) k = stp m o w) ∧ 2000 - q.2.2.toNat < 2000 - ((k : Int)).toNat) fun t => ouS t = stp m o w) := by
    unfold wP
    rw [y7]
    refine ⟨fun c2 => ?_, fun c2 => ?_⟩
    ·have hne : (nxE m s v[k]).Out ≠ (nxE o t v[k]).Out := by simpa using c2
     rw [if_neg hne] at e
     exact ze.2 e
    ·have he : (nxE m s v[k]).Out = (nxE o t v[k]).Out := by simpa using c2
     rw [if_pos he] at e
     rw [hw64]
     exact ze.2 ⟨⟨k + 1, rfl, hlt, z78 hm hs hxk, z78 ho ht hxo, e⟩, by simp only [Int.toNat_natCast]; omega⟩
   have fin3 : Ret (wQ o t (k : Int) ((v[k] : Nat) : Int) (nxE m s v[k]).To (nxE m s v[k]).Out) (LRP (fun q => (∃ k : Nat, q.2.2 = (k : Int) ∧ k ≤ v.length ∧ Vc m q.1 ∧ Vc o q.2.1 ∧ fd (rsp m q.1 (v.drop k)) (rsp o q.2.1 (v.drop k)) k = stp m o w) ∧ 2000 - q.2.2.toNat < 2000 - ((k : Int)).toNat) fun t => ouS t = stp m o w) := by
    unfold wQ
    rw [y7]
    refine ⟨fun c2 => ?_, fun c2 => ?_⟩
    ·have h1 : t ≠ -1 := by simpa using c2
     have h2 := ht.1
     have h3 := ht.2
     have he := ho.edge_eq (s := t.toNat) (by omega) hxo (f := fun e => wP (k : Int) (nxE m s v[k]).To (nxE m s v[k]).Out e.To e.Out)
     rw [show ((t.toNat : Nat) : Int) = t by omega] at he
     rw [he]
     have : nxE o t v[k] = E o t.toNat v[k] := by unfold nxE; rw [if_neg (by omega)]
     rw [← this]
     exact fin
    ·have h1 : t = -1 := by simpa using c2
     have : nxE o t v[k] = ⟨-1, -1⟩ := by unfold nxE; rw [if_pos (by omega)]
     rw [this] at fin
     exact fin
   rw [yk, bdT hx, y7]
   refine ⟨fun c2 => ?_, fun c2 => ?_⟩
   ·have h1 : s ≠ -1 := by simpa using c2
    have h2 := hs.1
    have h3 := hs.2
    have he := hm.edge_eq (s := s.toNat) (by omega) hxk (f := fun e => wQ o t (k : Int) ((v[k] : Nat) : Int) e.To e.Out)
    rw [show ((s.toNat : Nat) : Int) = s by omega] at he
    rw [he]
    have : nxE m s v[k] = E m s.toNat v[k] := by unfold nxE; rw [if_neg (by omega)]
    rw [← this]
    exact fin3
   ·have h1 : s = -1 := by simpa using c2
    have : nxE m s v[k] = ⟨-1, -1⟩ := by unfold nxE; rw [if_pos (by omega)]
    rw [this] at fin3
    exact fin3
  ·have hge : k = v.length := by have := of_decide_eq_false c; omega
   subst hge
   rw [List.drop_length] at e
   exact ze.2 e
 refine key.mono fun t ht => ?_
 rw [← ht]
 cases t <;> exact ze.2 rfl
variable {l : List (List Int)} (hl : l.length ≤ 1000) (hw : ∀ w ∈ l, w.length ≤ 1000 ∧ ∀ c ∈ w, 0 ≤ c ∧ c < m.Inputs)
include hl hw
theorem Kw {r : Int} (hr : vI m o l = some 0) : ∃ p : Int × Int, vK m o l = some (p.1, p.2, 0) ∧ qL m o l = some p := by
 have n1 : loop (fun s => ua m o l s) 0 = some (oS (zF (fun i w => if stp m o w = -1 then none else some ((i : Int), stp m o w, (0 : Int))) l 0)) := by
  refine y8 l (by omega) _ (fun i w hx => ?_) ?_
  ·have hm' := hw w (List.mem_of_getElem? hx)
   have hlt := (List.getElem?_eq_some_iff.1 hx).1
   unfold ua
   rw [decide_eq_true (by omega), cond_true, yk, bdT hx, bdT (z0I hm ho hi hm'.2 hm'.1)]
   by_cases h : stp m o w = -1
   ·rw [if_pos h, h]; rfl
   ·rw [if_neg h, show (stp m o w != -1) = true by simpa using h]; rfl
  ·unfold ua
   rw [decide_eq_false (by omega)]; rfl
 have n2 : loop (fun s => v7 m o l s) 0 = some (oS (zF (fun i w => if stp m o w = -1 then none else some ((i : Int), stp m o w)) l 0)) := by
  refine y8 l (by omega) _ (fun i w hx => ?_) ?_
  ·have hm' := hw w (List.mem_of_getElem? hx)
   have hlt := (List.getElem?_eq_some_iff.1 hx).1
   have hg := z7W (rsp m 0 (w.map Int.toNat)) (rsp o 0 (w.map Int.toNat)) 0
   unfold v7
   rw [decide_eq_true (by omega), cond_true, yk, bdT hx, bdT (z0a hm ho hi hm'.2 hm'.1)]
   by_cases h : stp m o w = -1
   ·rw [if_pos h, h]; rfl
   ·rw [if_neg h, decide_eq_true (show stp m o w ≥ 0 by unfold stp at h ⊢; omega)]; rfl
  ·unfold v7
   rw [decide_eq_false (by omega)]; rfl
 have fm : ∀ (l : List (List Int)) (k : Nat), zF (fun i w => if stp m o w = -1 then none else some ((i : Int), stp m o w, (0 : Int))) l k = (zF (fun i w => if stp m o w = -1 then none else some ((i : Int), stp m o w)) l k).map fun p => (p.1, p.2, 0) := by
  intro l
  induction l with
  | nil => intro k; rfl
  | cons w l ih =>
   intro k
   simp only [zF]
   by_cases h : stp m o w = -1
   ·simp only [if_pos h]; exact ih (k + 1)
   ·simp only [if_neg h]; rfl
 unfold vK qL
 rw [bdT hr, bdT n2]
 rw [show ((0 : Int) != 0) = false from rfl, cond_false, bdT n1, fm]
 cases zF (fun i w => if stp m o w = -1 then none else some ((i : Int), stp m o w)) l 0 with
 | none => exact ⟨(-1, -1), rfl, rfl⟩
 | some p => exact ⟨p, rfl, rfl⟩
def fat (m o : z6) (l : List (List Int)) (k : Nat) : List Int := ((List.range k).filter fun i => !decide (stp m o (l[i]?.getD []) = -1)).map Int.ofNat
omit hm ho hi hl hw in
theorem z0P (k : Nat) : fat m o l (k + 1) = fat m o l k ++ if stp m o (l[k]?.getD []) = -1 then [] else [(k : Int)] := by
 unfold fat
 rw [List.range_succ, List.filter_append, List.map_append]
 by_cases h : stp m o (l[k]?.getD []) = -1
 ·simp [h]
 ·simp [h]
omit hm ho hi hl hw in
theorem KI (k : Nat) : (fat m o l k).length ≤ k := by
 unfold fat
 rw [List.length_map]
 exact Nat.le_trans (List.length_filter_le _ _) (by simp)
theorem z1k (hr : vI m o l = some 0) : uS m l o = some (fat m o l l.length, 0) ∧ jC m o l = some (fat m o l l.length) := by
 have n1 : loop (fun s => xG m l o s.1 s.2) (([] : List Int), 0) = some (fat m o l l.length) := by
  refine jM (step := fun s => xG m l o s.1 s.2) (fun i => (fat m o l i, (i : Int))) l.length (by omega) (fun i hlt => ?_) ?_
  ·have hx : l[i]? = some l[i] := List.getElem?_eq_getElem hlt
   have hm' := hw _ (List.getElem_mem hlt)
   have hf := KI (m := m) (o := o) (l := l) i
   have hs := z0P (m := m) (o := o) (l := l) i
   have hw64 : w64 ((i : Int) + 1) = ((i + 1 : Nat) : Int) := by rw [yf (by omega) (by omega)]; rfl
   rw [hx] at hs
   simp only [Option.getD_some] at hs
   show xG m l o (fat m o l i) (i : Int) = _
   unfold xG
   rw [decide_eq_true (by omega), cond_true, yk, bdT hx, bdT (z0I hm ho hi hm'.2 hm'.1)]
   by_cases h : stp m o l[i] = -1
   ·rw [if_pos h, List.append_nil] at hs
    rw [h, hs, ← hw64]; rfl
   ·rw [if_neg h] at hs
    rw [show (stp m o l[i] != -1) = true by simpa using h, cond_true, gdT (by simp; omega), hs, ← hw64]; rfl
  ·show xG m l o _ (l.length : Int) = _
   unfold xG
   rw [decide_eq_false (by omega)]; rfl
 have n2 : loop (fun s => xp m o l s.1 s.2) (([] : List Int), 0) = some (fat m o l l.length) := by
  refine jM (step := fun s => xp m o l s.1 s.2) (fun i => (fat m o l i, (i : Int))) l.length (by omega) (fun i hlt => ?_) ?_
  ·have hx : l[i]? = some l[i] := List.getElem?_eq_getElem hlt
   have hm' := hw _ (List.getElem_mem hlt)
   have hf := KI (m := m) (o := o) (l := l) i
   have hs := z0P (m := m) (o := o) (l := l) i
   have hg := z7W (rsp m 0 (l[i].map Int.toNat)) (rsp o 0 (l[i].map Int.toNat)) 0
   have hw64 : w64 ((i : Int) + 1) = ((i + 1 : Nat) : Int) := by rw [yf (by omega) (by omega)]; rfl
   rw [hx] at hs
   simp only [Option.getD_some] at hs
   show xp m o l (fat m o l i) (i : Int) = _
   unfold xp
   rw [decide_eq_true (by omega), cond_true, yk, bdT hx, bdT (z0a hm ho hi hm'.2 hm'.1)]
   by_cases h : stp m o l[i] = -1
   ·rw [if_pos h, List.append_nil] at hs
    rw [h, hs, ← hw64]; rfl
   ·rw [if_neg h] at hs
    rw [decide_eq_true (show stp m o l[i] ≥ 0 by unfold stp at h ⊢; omega), cond_true, gdT (by simp; omega), hs, ← hw64]; rfl
  ·show xp m o l _ (l.length : Int) = _
   unfold xp
   rw [decide_eq_false (by omega)]; rfl
 unfold uS jC
 rw [bdT hr, bdT n2, show ((0 : Int) != 0) = false from rfl, cond_false, bdT n1]
 unfold jQ
 rw [bdT (z85 _)]
 exact ⟨rfl, rfl⟩
end
theorem z7d {a c : Nat} (hc : 1 ≤ c) : min (min a 65537 * c) 65537 = min (a * c) 65537 := by
 rcases Nat.le_total a 65537 with h | h
 ·rw [Nat.min_eq_left h]
 ·rw [Nat.min_eq_right h]
  have h1 := Nat.mul_le_mul_right c h
  omega
section
variable {m : z6} (h : VM m)
include h
theorem z59 (hs : 1 ≤ s ∧ s ≤ 65536) : Ret (loop (fun q => uH m (s : Int) q.1 q.2) (1, 0)) fun x => ∃ i : Nat, i ≤ s * kk m ∧ x = (((s * m.Outputs.toNat) ^ i : Nat) : Int) ∧ (i = s * kk m ∨ 65536 < x) := by
 have hk := h.kk_eq
 have hk2 := h.kk_le
 have o1 := h.out1
 have o2 := h.out16
 obtain ⟨o, ho⟩ : ∃ o : Nat, m.Outputs = (o : Int) := ⟨m.Outputs.toNat, by omega⟩
 rw [ho, Int.toNat_natCast]
 have hN : s * kk m ≤ 65536 * 16 := Nat.mul_le_mul hs.2 hk2
 have hC : s * o ≤ 65536 * 16 := Nat.mul_le_mul hs.2 (by omega)
 have e1 : w64 ((s : Int) * m.Inputs) = ((s * kk m : Nat) : Int) := by rw [← hk, ← Int.natCast_mul, yf (by omega) (by omega)]
 have e2 : w64 ((s : Int) * m.Outputs) = ((s * o : Nat) : Int) := by rw [ho, ← Int.natCast_mul, yf (by omega) (by omega)]
 refine yH (fun q => ∃ i : Nat, q.2 = (i : Int) ∧ i ≤ s * kk m ∧ q.1 = (((s * o) ^ i : Nat) : Int)) (fun q => 2000000 - q.2.toNat) ⟨0, rfl, Nat.zero_le _, by simp⟩ (by show 2000000 - _ < _; omega) ?_
 rintro ⟨_, _⟩ ⟨i, rfl, hi, rfl⟩
 show Ret (uH m (s : Int) _ (i : Int)) _
 unfold uH
 rw [e1, e2, y7]
 refine ⟨fun c => ?_, fun c => ?_⟩
 ·have hlt : i < s * kk m := by have := of_decide_eq_true c; omega
  rw [y7]
  refine ⟨fun c2 => ?_, fun c2 => ?_⟩
  ·have hp : (s * o) ^ i ≤ 65536 := by have := of_decide_eq_true c2; omega
   have hm : (s * o) ^ i * (s * o) ≤ 65536 * (65536 * 16) := Nat.mul_le_mul hp hC
   have hw : w64 ((i : Int) + 1) = ((i + 1 : Nat) : Int) := by rw [yf (by omega) (by omega)]; rfl
   rw [← Int.natCast_mul, yf (x := (((s * o) ^ i * (s * o) : Nat) : Int)) (by omega) (by omega), hw]
   exact ze.2 ⟨⟨i + 1, rfl, hlt, by rw [Nat.pow_succ]⟩, by simp only [Int.toNat_natCast]; omega⟩
  ·exact ze.2 ⟨i, hi, rfl, .inr (by have := of_decide_eq_false c2; omega)⟩
 ·exact ze.2 ⟨i, hi, rfl, .inl (by have := of_decide_eq_false c; omega)⟩
theorem z6W (hs : 1 ≤ s ∧ s ≤ 20) : yJ m (s : Int) = some ((min ((s * m.Outputs.toNat) ^ (s * kk m)) 65537 : Nat) : Int) := by
 have hk := h.kk_eq
 have hk2 := h.kk_le
 have o1 := h.out1
 have o2 := h.out16
 obtain ⟨o, ho⟩ : ∃ o : Nat, m.Outputs = (o : Int) := ⟨m.Outputs.toNat, by omega⟩
 rw [ho, Int.toNat_natCast]
 have hN : s * kk m ≤ 20 * 16 := Nat.mul_le_mul hs.2 hk2
 have hC : 1 ≤ s * o := Nat.mul_le_mul hs.1 (show 1 ≤ o by omega)
 have e1 : w64 ((s : Int) * m.Inputs) = ((s * kk m : Nat) : Int) := by rw [← hk, ← Int.natCast_mul, yf (by omega) (by omega)]
 have hloop : loop (fun q => yS m (s : Int) q.1 q.2) (1, 0) = some ((min ((s * o) ^ (s * kk m)) 65537 : Nat) : Int) := by
  have := jM (step := fun q => yS m (s : Int) q.1 q.2) (fun i => (((min ((s * o) ^ i) 65537 : Nat) : Int), (i : Int))) (s * kk m) (t := ((min ((s * o) ^ (s * kk m)) 65537 : Nat) : Int)) (by omega) (fun i hi => ?_) ?_
  ·exact this
  ·show yS m (s : Int) _ (i : Int) = _
   unfold yS
   have hw : w64 ((i : Int) + 1) = ((i + 1 : Nat) : Int) := by rw [yf (by omega) (by omega)]; rfl
   obtain ⟨a, ha⟩ : ∃ a, a = min ((s * o) ^ i) 65537 := ⟨_, rfl⟩
   have ha2 : a ≤ 65537 := by omega
   have m1 : a * s ≤ 65537 * 20 := Nat.mul_le_mul ha2 hs.2
   have m2 : a * s * o ≤ 65537 * 20 * 16 := Nat.mul_le_mul m1 (by omega)
   have q := z7d (a := (s * o) ^ i) hC
   rw [← ha, ← Nat.mul_assoc, ← Nat.pow_succ] at q
   rw [e1, decide_eq_true (by omega), cond_true, ← ha, ← Int.natCast_mul, yf (x := ((a * s : Nat) : Int)) (by omega) (by omega), ho, ← Int.natCast_mul, yf (x := ((a * s * o : Nat) : Int)) (by omega) (by omega), hw, ← q]
   congr 3
   unfold mn
   split <;> omega
  ·show yS m (s : Int) _ ((s * kk m : Nat) : Int) = _
   unfold yS
   rw [e1, decide_eq_false (by omega)]; rfl
 unfold yJ
 rw [decide_eq_false (by omega), cond_false, bdT hloop]; rfl
theorem z1p {n : Int} (hn : 1 ≤ n) : ∃ x r : Int, wR m n = some x ∧ yJ m n = some r ∧ (65536 < x ↔ 65536 < r) ∧ (x ≤ 65536 → x = r) := by
 by_cases hb : 65536 < n
 ·refine ⟨65537, 65537, ?_, ?_, Iff.rfl, fun _ => rfl⟩
  ·unfold wR; rw [decide_eq_true (by omega)]; rfl
  ·unfold yJ; rw [decide_eq_true (by omega)]; rfl
 obtain ⟨s, rfl⟩ : ∃ s : Nat, n = (s : Int) := ⟨n.toNat, by omega⟩
 have hk := h.kk_eq
 have k1 := h.kk_pos
 have o1 := h.out1
 obtain ⟨x, e, i, hi, rfl, hx⟩ := z59 h (s := s) ⟨by omega, by omega⟩
 have hg : wR m (s : Int) = some (((s * m.Outputs.toNat) ^ i : Nat) : Int) := by
  unfold wR
  rw [decide_eq_false (by omega), cond_false, bdT e]; rfl
 have hC : 1 ≤ s * m.Outputs.toNat := Nat.mul_le_mul (show 1 ≤ s by omega) (show 1 ≤ m.Outputs.toNat by omega)
 have hmono := Nat.pow_le_pow_right hC hi
 by_cases h20 : s ≤ 20
 ·refine ⟨_, _, hg, z6W h ⟨by omega, h20⟩, ?_, ?_⟩
  ·rcases hx with rfl | hx <;> omega
  ·rcases hx with rfl | hx <;> omega
 ·refine ⟨_, 65537, hg, ?_, ?_, ?_⟩
  ·unfold yJ; rw [decide_eq_true (by omega)]; rfl
  all_goals
   have hbig : 65536 < (s * m.Outputs.toNat) ^ i := by
    rcases hx with rfl | hx
    ·have c1 : 21 ≤ s * m.Outputs.toNat := Nat.le_trans (show 21 ≤ s * 1 by omega) (Nat.mul_le_mul (Nat.le_refl s) (show 1 ≤ m.Outputs.toNat by omega))
     have c2 : 4 ≤ s * kk m := Nat.le_trans (show 4 ≤ s * 1 by omega) (Nat.mul_le_mul (Nat.le_refl s) k1)
     have p1 := Nat.pow_le_pow_left c1 (s * kk m)
     have p2 := Nat.pow_le_pow_right (show 0 < 21 by decide) c2
     have p3 : 21 ^ 4 = 194481 := by decide
     omega
    ·omega
   omega
end
theorem QJ (m : z6) : Ret (qw m) fun r => r = 0 ∨ r = 1 := by
 unfold qw
 rw [y7]
 refine ⟨fun _ => ze.2 (.inr rfl), fun c => ?_⟩
 have hl : m.Rows.length ≤ 6 := by have := of_decide_eq_false c; omega
 rw [zJ]
 refine Ret.mono (Q := fun t => t = .inl () ∨ t = .inr 1) ?_ fun t ht => by rcases ht with rfl | rfl; exact ze.2 (.inl rfl); exact ze.2 (.inr rfl)
 refine yH (fun q => ∃ k : Nat, q = (k : Int) ∧ k ≤ m.Rows.length) (fun q => 10 - q.toNat) ⟨0, rfl, Nat.zero_le _⟩ (by simp) ?_
 rintro _ ⟨k, rfl, hk⟩
 unfold ZJ
 rw [y7]
 refine ⟨fun c => ?_, fun c => ze.2 (.inl rfl)⟩
 have hlt : k < m.Rows.length := by have := of_decide_eq_true c; omega
 have hw : w64 ((k : Int) + 1) = ((k + 1 : Nat) : Int) := by rw [yf (by omega) (by omega)]; rfl
 rw [yk, bdT (List.getElem?_eq_getElem hlt), y7]
 refine ⟨fun _ => ze.2 (.inr rfl), fun _ => ?_⟩
 rw [hw]
 exact ze.2 ⟨⟨k + 1, rfl, hlt⟩, by simp only [Int.toNat_natCast]; omega⟩
def rdy (m o : z6) (l : List (List Int)) : Int := if chk m ≠ 0 then chk m else if chk o ≠ 0 then chk o else if m.Inputs ≠ o.Inputs then 5 else chE m.Inputs l
theorem z27 (m o : z6) (l : List (List Int)) : jB m o l = some (rdy m o l) := by
 unfold jB rdy
 rw [bdT (Yt m)]
 by_cases h : chk m = 0
 ·rw [h, if_neg (by simp)]
  rw [show ((0 : Int) != 0) = false from rfl, cond_false, bdT (Yt o)]
  by_cases h2 : chk o = 0
  ·rw [h2, if_neg (by simp), show ((0 : Int) != 0) = false from rfl, cond_false]
   by_cases h3 : m.Inputs = o.Inputs
   ·rw [if_neg (by simp [h3]), show (m.Inputs != o.Inputs) = false by simp [h3], cond_false, bdT (Je _ _)]
   ·rw [if_pos h3, show (m.Inputs != o.Inputs) = true by simpa using h3]; rfl
  ·rw [if_pos h2, show (chk o != 0) = true by simpa using h2]; rfl
 ·rw [if_pos h, show (chk m != 0) = true by simpa using h]; rfl
theorem z73 (m o : z6) (l : List (List Int)) : vI m o l = some (rdy m o l) := by
 have n1 : loop (fun s => uF m o s) 0 = some (oS (zF (fun _ x => if chk x = 0 then none else some (chk x)) [m, o] 0)) := by
  refine y8 [m, o] (by simp) _ (fun i x hx => ?_) ?_
  ·have hlt := (List.getElem?_eq_some_iff.1 hx).1
   unfold uF
   rw [decide_eq_true (by omega), cond_true, yk, bdT hx, bdT (Zq x)]
   by_cases h : chk x = 0
   ·rw [if_pos h, h]; rfl
   ·rw [if_neg h, show (chk x != 0) = true by simpa using h]; rfl
  ·unfold uF
   rw [decide_eq_false (by omega)]; rfl
 unfold vI rdy
 rw [bdT n1]
 by_cases h : chk m = 0
 ·rw [if_neg (show ¬ chk m ≠ 0 by simp [h])]
  by_cases h2 : chk o = 0
  ·rw [if_neg (show ¬ chk o ≠ 0 by simp [h2])]
   have e : zF (fun _ x => if chk x = 0 then none else some (chk x)) [m, o] 0 = none := by simp [zF, h, h2]
   rw [e]
   show uG m o l = _
   unfold uG
   by_cases h3 : m.Inputs = o.Inputs
   ·rw [if_neg (show ¬ m.Inputs ≠ o.Inputs by simp [h3]), show (m.Inputs != o.Inputs) = false by simp [h3], cond_false, bdT (QI _ _)]
   ·rw [if_pos (show m.Inputs ≠ o.Inputs from h3), show (m.Inputs != o.Inputs) = true by simpa using h3]; rfl
  ·rw [if_pos (show chk o ≠ 0 from h2)]
   have e : zF (fun _ x => if chk x = 0 then none else some (chk x)) [m, o] 0 = some (chk o) := by simp [zF, h, h2]
   rw [e]; rfl
 ·rw [if_pos (show chk m ≠ 0 from h)]
  have e : zF (fun _ x => if chk x = 0 then none else some (chk x)) [m, o] 0 = some (chk m) := by simp [zF, h]
  rw [e]; rfl
def Ok3 (a : Int) : Prop := (-9223372036854775808) ≤ a ∧ a ≤ 9223372036854775807
def zdd (a : zj) : Prop := Ok3 a.To ∧ Ok3 a.Out
def zde (l : List zj) : Prop := ∀ a ∈ l, zdd a
def zey (l : List (List zj)) : Prop := ∀ a ∈ l, zde a
def zdg (a : z6) : Prop := Ok3 a.Inputs ∧ Ok3 a.Outputs ∧ zey a.Rows
def zdf (l : List Int) : Prop := ∀ a ∈ l, Ok3 a
def zex (l : List (List Int)) : Prop := ∀ a ∈ l, zdf a
def zew (a : xL) : Prop := zdg a.Other ∧ zex a.L ∧ Ok3 a.States
theorem z1t (m : z6) (n : Int) : ∃ b x : Int, uR m n = some b ∧ jD m n = some b ∧ (b = 0 → wR m n = some x ∧ yJ m n = some x) := by
 obtain ⟨e, q1, q2, q3, _⟩ := Ku m
 unfold uR jD
 rw [bdT q1, bdT q2]
 by_cases he : e = 0
 ·have vm := (q3.1 he).1
  rw [he, show ((0 : Int) != 0) = false from rfl, cond_false, cond_false]
  by_cases hn : n < 1
  ·rw [decide_eq_true hn]
   exact ⟨1, 0, rfl, rfl, fun h => by cases h⟩
  ·rw [decide_eq_false hn, cond_false, cond_false]
   obtain ⟨x, r, c1, c2, c3, c4⟩ := z1p vm (n := n) (by omega)
   rw [bdT c1, bdT c2]
   by_cases hx : 65536 < x
   ·rw [decide_eq_true (show x > 65536 from hx), decide_eq_true (show r > 65536 from c3.1 hx)]
    exact ⟨3, 0, rfl, rfl, fun h => by cases h⟩
   ·rw [decide_eq_false (show ¬ x > 65536 from hx), decide_eq_false (show ¬ r > 65536 from fun q => hx (c3.2 q))]
    exact ⟨0, x, rfl, rfl, fun _ => ⟨c1, by rw [c2, c4 (by omega)]⟩⟩
 ·rw [show (e != 0) = true by simpa using he]
  exact ⟨e, 0, rfl, rfl, fun h => absurd h he⟩
theorem z4S {n b : Int}  (h : uR m n = some b) : uQ m l n = some (if b = 0 then chE m.Inputs l else b) := by
 unfold uQ
 rw [bdT h]
 by_cases hb : b = 0
 ·rw [hb, show ((0 : Int) != 0) = false from rfl, cond_false, bdT (QI _ _)]; rfl
 ·rw [show (b != 0) = true by simpa using hb, if_neg hb]; rfl
theorem zck {y : xL} {f : Int} (h : uQ m y.L y.States = some f) : xI m y f = some true := by
 unfold xI
 by_cases hf : f = 0
 ·rw [hf]; rfl
 ·have h1 : (f != 0) = true := by simpa using hf
  have g1 : XT m y.L y.States = some (z6.mk 0 0 [], f) := by unfold XT; rw [bdT h, h1]; rfl
  have g2 : YF m y.L y.States = some (0, f) := by unfold YF; rw [bdT h, h1]; rfl
  rw [show (f == 0) = false by simpa using hf, cond_false, bdT g1, bdT g2]
  simp [jN]
theorem zcl (m : z6) (y : xL) : xJ m y = some true := by
 obtain ⟨b, x, b1, b2, b3⟩ := z1t m y.States
 have hf := z4S (l := y.L) b1
 have h3 : yz m y b = some true := by
  unfold yz
  by_cases hb : b = 0
  ·rw [if_pos hb] at hf
   rw [hb, show ((0 : Int) == 0) = true from rfl, cond_true, bdT (Je _ _)]
   exact zck hf
  ·rw [if_neg hb] at hf
   rw [show (b == 0) = false by simpa using hb, cond_false]
   exact zck hf
 unfold xJ
 rw [bdT b2]
 by_cases hb : b = 0
 ·obtain ⟨c1, c2⟩ := b3 hb
  have ht : vJ m y.States = some (x, 0) := by unfold vJ; rw [bdT b1, hb, show ((0 : Int) != 0) = false from rfl, cond_false, bdT c1]
  rw [hb] at h3
  rw [bdT ht, hb]
  simp only [bne_self_eq_false, cond_false, beq_self_eq_true, cond_true]
  rw [bdT c2, bne_self_eq_false, cond_false]
  exact h3
 ·have h1 : (b != 0) = true := by simpa using hb
  have ht : vJ m y.States = some (0, b) := by unfold vJ; rw [bdT b1, h1]; rfl
  rw [bdT ht]
  simp only [bne_self_eq_false, cond_false, h1, cond_true]
  rw [show (b == 0) = false by simpa using hb, cond_false]
  exact h3
theorem z4i {m o : z6}  (h : rdy m o l = 0) : chk m = 0 ∧ chk o = 0 ∧ m.Inputs = o.Inputs ∧ chE m.Inputs l = 0 := by
 unfold rdy at h
 split at h
 ·rename_i q; exact absurd h q
 ·rename_i q1
  split at h
  ·rename_i q; exact absurd h q
  ·rename_i q2
   split at h
   ·cases h
   ·rename_i q3
    exact ⟨Classical.not_not.1 q1, Classical.not_not.1 q2, Classical.not_not.1 q3, h⟩
theorem z2J {a : List Int} (ha : a.length < 4611686018427387904) : Zj a a = some true := by
 unfold Zj
 rw [bdT (z4j [a] [a] (by simp) (by simpa using ha))]
 simp
theorem z4J {m : z6} {y : xL} (hx : zdg m) (hy : zew y) : jO m y = some true := by
 unfold jO
 obtain ⟨r, hr, _⟩ := QJ m
 obtain ⟨r2, hr2, _⟩ := QJ y.Other
 rw [bdT hr, bdT hr2]
 cases w64 (r + r2) != 0 with
 | true => rfl
 | false =>
 rw [cond_false]
 by_cases h60 : 60 < y.L.length
 ·rw [decide_eq_true (by omega)]; rfl
 rw [decide_eq_false (by omega), cond_false, bdT (z15 y.L (by omega))]
 by_cases h6 : 600 < stW y.L
 ·rw [decide_eq_true (show stW y.L > 600 from h6)]; rfl
 rw [decide_eq_false (show ¬ stW y.L > 600 from h6), cond_false, bdT (z27 _ _ _)]
 have hg := z73 m y.Other y.L
 by_cases h0 : rdy m y.Other y.L = 0
 ·obtain ⟨k1, k2, k3, k4⟩ := z4i h0
  obtain ⟨c1, c2, c3, c4, c5, c6⟩ := z5b k4
  have hw : ∀ w ∈ y.L, w.length ≤ 1000 ∧ ∀ c ∈ w, 0 ≤ c ∧ c < m.Inputs := fun w h => ⟨by have := c2 w h; omega, c6 w h⟩
  rw [h0] at hg ⊢
  obtain ⟨p, p1, p2⟩ := Kw (z1F k1) (z1F k2) k3 (by omega) hw (r := 0) hg
  obtain ⟨f1, f2⟩ := z1k (z1F k1) (z1F k2) k3 (by omega) hw hg
  have hl := KI (m := m) (o := y.Other) (l := y.L) y.L.length
  rw [bdT p1, bdT f1]
  simp only [bne_self_eq_false, cond_false]
  unfold xK
  rw [show ((0 : Int) == 0) = true from rfl, cond_true, bdT p2]
  simp only [bne_self_eq_false, cond_false]
  rw [bdT f2, bdT (z2J (by omega))]
  exact zcl m y
 ·have h1 : (rdy m y.Other y.L != 0) = true := by simpa using h0
  have p1 : vK m y.Other y.L = some (0, 0, rdy m y.Other y.L) := by unfold vK; rw [bdT hg, h1]; rfl
  have f1 : uS m y.L y.Other = some ([], rdy m y.Other y.L) := by unfold uS; rw [bdT hg, h1]; rfl
  rw [bdT p1, bdT f1]
  simp only [bne_self_eq_false, cond_false, h1, cond_true]
  unfold xK
  rw [show (rdy m y.Other y.L == 0) = false by simpa using h0, cond_false]
  exact zcl m y
def Ue (w : World) : z8 := fun b o => zu w.heap b o
variable {v : Value}
theorem z3c {w : World} {a : Addr}  (h : w.cell? a = some v) : a.spot = none ∧ zu w.heap a.block a.off = some v := by
 unfold World.cell? at h
 unfold zu
 split at h
 ·rename_i c ty fr he
  rw [he]
  split at h
  ·cases h
  ·rename_i hs
   exact ⟨by simpa using hs, h⟩
 ·cases h
variable {cs : List Value}
section
variable {H : Type} {enc : TypeId × Value → H} {P : Program} {w : World} {base : Nat} {spare : Nat → Bool} {held : Bool}
theorem z39 {a : Addr} {n : Nat}  (h : w.cells? base a n = some cs) (hn : 0 < n) : a.spot = none ∧ cs.length = n ∧ kY (Ue w) a.block a.off cs := by
 have ⟨_, h2, h3⟩ := World.cells?_some h
 have h0 : a.spot = none := by
  have h4 := h3 0 hn
  cases hc : cs[0]? with
  | none => rw [List.getElem?_eq_none_iff] at hc; omega
  | some v =>
   rw [hc] at h4
   have := (z3c h4).1
   simpa [Addr.add] using this
 refine ⟨h0, h2, fun j v hj => ?_⟩
 have hlt := (List.getElem?_eq_some_iff.1 hj).1
 have h4 := h3 j (by omega)
 rw [hj] at h4
 have q := (z3c h4).2
 unfold Addr.add at q
 split at q
 ·rename_i e; subst e; exact q
 ·exact q
theorem Ja {S : z8} : ∀ {bs : List A} {cs : List Value} {a : A} {c : List Value}, zV S bs cs → Rep S a c → zV S (bs ++ [a]) (cs ++ c)
 | [], cs, a, c, h1, h2 => by
  simp only [zV] at h1
  subst h1
  simp only [List.nil_append, zV]
  exact ⟨c, [], by simp, h2, rfl⟩
 | x :: bs, cs, a, c, h1, h2 => by
  simp only [zV] at h1
  obtain ⟨c1, c2, rfl, r1, r2⟩ := h1
  simp only [List.cons_append, zV]
  exact ⟨c1, c2 ++ c, by simp, r1, Ja r2 h2⟩
theorem z4D {S : z8} {b o : Nat} {c1 c2 : List Value} (h1 : kY S b o c1) (h2 : kY S b (o + c1.length) c2) : kY S b o (c1 ++ c2) := by
 intro j v hj
 rcases Nat.lt_or_ge j c1.length with q | q
 ·rw [List.getElem?_append_left q] at hj
  exact h1 j v hj
 ·rw [List.getElem?_append_right q] at hj
  have := h2 _ _ hj
  rwa [show o + c1.length + (j - c1.length) = o + j by omega] at this
theorem Yo {α : Type} {t e sz : Nat} (f : α → A) (ok : α → Prop) (ht : P.underlying t = some (.slice e)) (hsz : P.cellsOf e = sz) (h0 : 0 < sz) (hf : ∀ a, (f a).size = sz)
    (hel : ∀ n cs x, DataW.trod enc P w base spare held n e cs = some x → ∃ a, ok a ∧ Rep (Ue w) (f a) cs)
    {fuel : Nat} {cs : List Value} {x : DataW H × List MemPlace} (h : DataW.trod enc P w base spare held fuel t cs = some x) : ∃ l : List α, (∀ a ∈ l, ok a) ∧ Rep (Ue w) (.sl sz false (l.map f)) cs := by
  rcases DataW.trod_slice ht h with ⟨rfl, _⟩ | ⟨a, len, cap, elems, rest, n, _, rfl, _, _, hlc, _, hlen, hall, _, _⟩
  · refine ⟨[], by simp, ?_⟩
    simp only [Rep, List.map_nil, List.length_nil]
    exact ⟨none, 0, rfl, by simp, Nat.le_refl _, by simp, .inl trivial⟩
  · have key : ∀ k, k ≤ len → ∃ (l : List α) (cells : List Value), l.length = k ∧ (∀ a ∈ l, ok a) ∧ zV (Ue w) (l.map f) cells ∧ cells.length = k * sz ∧ (0 < k → a.spot = none) ∧ kY (Ue w) a.block a.off cells := by
      intro k
      induction k with
      | zero => intro _; exact ⟨[], [], rfl, by simp, by simp [zV], by simp, by simp, fun j v h => by simp at h⟩
      | succ k ih =>
        intro hk
        have ⟨l, cells, q1, q2, q3, q4, q5, q6⟩ := ih (by omega)
        have hk' := hall k (by omega)
        have hsome : elems[k]? = some elems[k] := List.getElem?_eq_getElem (by omega)
        rw [hsome, Option.bind_eq_some_iff, hsz] at hk'
        have ⟨c, hc, htr⟩ := hk'
        have ⟨y, hy, hr⟩ := hel _ _ _ htr
        have ⟨g1, g2, g3⟩ := z39 hc h0
        refine ⟨l ++ [y], cells ++ c, by simp [q1], ?_, ?_, ?_, ?_, ?_⟩
        · intro z hz
          rcases List.mem_append.1 hz with q | q
          · exact q2 z q
          · simp only [List.mem_cons, List.not_mem_nil, or_false] at q; subst q; exact hy
        · rw [List.map_append]; exact Ja q3 hr
        · rw [List.length_append, q4, g2, Nat.succ_mul]
        · intro _
          rcases Nat.eq_zero_or_pos k with rfl | hk0
          · simpa [Addr.add] using g1
          · exact q5 hk0
        · refine z4D q6 ?_
          rw [q4]
          unfold Addr.add at g3
          split at g3
          · rename_i e0
            rw [e0, Nat.add_zero]
            exact g3
          · exact g3
    have ⟨l, cells, q1, q2, q3, q4, q5, q6⟩ := key len (Nat.le_refl _)
    refine ⟨l, q2, ?_⟩
    simp only [Rep, List.length_map]
    refine ⟨some a, cap, by rw [q1], by simp, by omega, ?_, ?_⟩
    · intro y hy
      obtain ⟨z, _, rfl⟩ := List.mem_map.1 hy
      exact hf z
    · rcases Nat.eq_zero_or_pos len with rfl | hl
      · left; rw [List.length_eq_zero_iff.1 q1]; rfl
      · right
        refine ⟨a.block, a.off, cells, ?_, q3, q6⟩
        have := q5 hl
        have ⟨b, o, s⟩ := a
        simp only at this
        subst this
        rfl
theorem z7i {t : Nat} {k : IntKind} {lo hi : Int} (ht : P.underlying t = some (.int k)) (hlo : k.min = lo) (hhi : k.max = hi) {fuel : Nat}  {x : DataW H × List MemPlace} (h : DataW.trod enc P w base spare held fuel t cs = some x) :
  ∃ n : Int, (lo ≤ n ∧ n ≤ hi) ∧ cs = [.int k n] ∧ Rep (Ue w) (.atom (.int k n)) cs := by
 obtain ⟨n, rfl, _, hw⟩ := DataW.trod_int ht h
 simp only [Lit.wf, Bool.and_eq_true, decide_eq_true_eq, hlo, hhi] at hw
 exact ⟨n, hw, rfl, by simp only [Rep]; exact ⟨trivial, rfl⟩⟩
theorem jx {t : Nat} {fs : List Field} (ht : P.underlying t = some (.struct ⟨fs⟩)) {fuel : Nat}  {x : DataW H × List MemPlace} (h : DataW.trod enc P w base spare held fuel t cs = some x) :
  cs.length = P.cellsOf t ∧ ∀ (i : Nat) (f : Field), fs[i]? = some f → ∃ n y, DataW.trod enc P w base spare held n f.type ((cs.drop f.offset).take (P.cellsOf f.type)) = some y := by
 have ⟨xs, n, _, _, hl, hxl, hall⟩ := DataW.trod_struct ht h
 refine ⟨hl, fun i f hf => ?_⟩
 have hlt := (List.getElem?_eq_some_iff.1 hf).1
 have := hall i f (by simpa using hf)
 rw [List.getElem?_eq_getElem (by rw [hxl]; simpa using hlt)] at this
 exact ⟨n, _, this⟩
end
theorem uc {S : z8} {a : A} {bs : List A}  {n : Nat} (h1 : Rep S a (cs.take n)) (h2 : zV S bs (cs.drop n)) : zV S (a :: bs) cs := by
 simp [zV]
 exact ⟨cs.take n, cs.drop n, (List.take_append_drop n cs).symm, h1, h2⟩
section
open Go Go.ChangeShapes Go.WideShapes Go.ChangeAt Go.RowKit
theorem z2i {P : Program} {H : Type} {enc : TypeId × Value → H} {f : Func} {s : ChangeSpec} {apart fresh handsOn again : Bool} {W W' : World} {args : Array Value} {v : Value} {ds : List (DataW H)} {pa : List MemPlace}
  (hvar : s.vars = []) (hvars2 : (s.fn H (ds ++ [])).vars = []) (hW : DataW.Whole enc P f.params.toList s.vars apart W args.toList ds [] (pa ++ [])) (hb : Below W.heap.size W W')
  (hres : ∀ (b : Nat) (sp : Nat → Bool) (hd : Bool), DataW.TrodAll enc P W' b sp hd f.resultTypes.toList (v.resultList f.resultTypes.size) (s.fn H (ds ++ [])).results [])
  (hargs : ∀ sp : Nat → Bool, (∀ p ∈ pa ++ [], sp p.block = true) → DataW.TrodAll enc P W' 0 sp true f.params.toList args.toList (s.fn H (ds ++ [])).args pa)
  (hok : ∀ (j : Nat) (t : TypeId) (r : Value), f.resultTypes[j]? = some t → (v.resultList f.resultTypes.size)[j]? = some r → Value.okWide P W' .any 0 t r) :
  s.post enc P f apart fresh handsOn again W args v W' := by
 have hlt : ∀ p ∈ pa ++ [], p.block < W.heap.size := fun p hp => by simpa using hW.lt p hp
 have hvr : ∀ sp : Nat → Bool, DataW.TrodVars enc P W' sp s.vars (s.fn H (ds ++ [])).vars [] := fun sp => by rw [hvar, hvars2]; rfl
 refine ⟨ds, [], pa ++ [], [], pa, [], hW, hres _ _ _, hargs _ (fun p hp => by simpa using hlt p hp), hvr _, World.keptBut_mono (fun _ q => q.elim) (hb.frame fun _ => False), fun _ => ?_⟩
 have ⟨_, _, _, _, _, hz, hn⟩ := hW
 refine ⟨hok, _, _, ([] ++ pa) ++ [], ⟨[] ++ pa, [], trodAll_append (hargs _ (fun _ _ => rfl)) (hres _ _ _), hvr _, rfl, ?_, ?_⟩, ?_⟩
 ·intro b off hp
  have hp' : MemPlace.cell b off ∈ pa ++ [] := by simpa using hp
  rw [hb.frozen (p := ⟨b, off, none⟩) (hlt _ hp')]
  exact hz b off hp'
 ·intro ha
  simpa using hn ha
 ·intro p hp _
  simpa using hp
end
theorem z40 {P : Program} {k : Nat} {α ρ : Type} {enc : α → List A} {encR : ρ → A} {F : α → Option ρ} {gives : List Bool} {inj : ∀ x y, enc x = enc y → x = y} (h : (spF k enc encR F gives inj).Ok P) {x : α} {r : ρ} (hr : F x = some r) : qH P k (enc x) (encR r) := by
 have := h x ⟨r, hr⟩
 simpa only [spF, hr] using this
variable {fs : Array Field}
section
variable {P : Program} {w : World} {r : Reach} {base t : Nat} {v : Value}
theorem z18 (hu : P.underlying t = some (.struct fs)) (h : Value.okWide P w r base t v) : v = .agg v.cells.toList.toArray := by
 unfold Value.okWide at h
 rw [hu] at h
 obtain ⟨cs, rfl, _⟩ := h
 rfl
theorem Wv {S : z8} {a : A} (hu : P.underlying t = some (.struct fs)) (hr : Rep S a v.cells.toList) (h : Value.okWide P w r base t v) (ha : a.isAgg = true) : wi S a v := ⟨_, hr, by cases a <;> first | exact z18 hu h | cases ha⟩
theorem z4P {S : z8} {h : Array Obj}  {F : List Nat} (q : Has S h (.atom (.bool true)) v F) : v = .bool true := by
 rcases q with ⟨q, _⟩ | ⟨cs, q, _, rfl⟩
 ·rw [(zw.1 q).1]
 ·simp [zA, Rep] at q
  obtain ⟨⟨rfl, _⟩, _⟩ := q
  rfl
end
open Go.Proofs
section
variable {H : Type} {enc : TypeId × Value → H} {w : World} {base : Nat} {spare : Nat → Bool} {held : Bool}
theorem z0W : Try.prog.cellsOf 3 = 1 := by kernel_rfl
theorem rd3 {fuel : Nat}  {x : DataW H × List MemPlace} (h : DataW.trod enc Try.prog w base spare held fuel 3 cs = some x) : ∃ a : Int, Ok3 a ∧ Rep (Ue w) ((eI .i64) a) cs := by
 obtain ⟨n, h1, _, h2⟩ := z7i Try.underlying3 (lo := -9223372036854775808) (hi := 9223372036854775807) rfl rfl h
 exact ⟨n, h1, h2⟩
theorem z3a : Try.prog.cellsOf 59 = 2 := by kernel_rfl
theorem zeI {fuel : Nat}  {x : DataW H × List MemPlace} (h : DataW.trod enc Try.prog w base spare held fuel 59 cs = some x) : ∃ a : zj, zdd a ∧ Rep (Ue w) ((yc (eI .i64) (eI .i64)) a) cs := by
 obtain ⟨hl, hf⟩ := jx Try.underlying59 h
 rw [z3a] at hl
 obtain ⟨_, _, q0⟩ := hf 0 _ rfl
 obtain ⟨_, _, q1⟩ := hf 1 _ rfl
 simp only [z0W] at q0 q1
 obtain ⟨a0, k0, r0⟩ := rd3 q0
 obtain ⟨a1, k1, r1⟩ := rd3 q1
 refine ⟨⟨a0, a1⟩, ⟨k0, k1⟩, ?_⟩
 show Rep (Ue w) (.agg [(eI .i64) a0, (eI .i64) a1]) cs
 simp only [Rep]
 refine uc (n := 1) (by simpa [List.drop_drop] using r0) (uc (n := 1) (by simpa [List.drop_drop] using r1) ?_)
 simp only [List.drop_drop, zV]
 exact List.drop_eq_nil_of_le (by omega)
theorem z86 : Try.prog.cellsOf 50 = 1 := by kernel_rfl
theorem zeJ {fuel : Nat}  {x : DataW H × List MemPlace} (h : DataW.trod enc Try.prog w base spare held fuel 50 cs = some x) : ∃ a : List zj, zde a ∧ Rep (Ue w) ((eSl 2 false (yc (eI .i64) (eI .i64))) a) cs := by
 exact Yo (yc (eI .i64) (eI .i64)) zdd Try.underlying50 z3a (by omega) (fun _ => rfl) (fun _ _ _ q => zeI q) h
theorem z8a : Try.prog.cellsOf 22 = 1 := by kernel_rfl
theorem zeN {fuel : Nat}  {x : DataW H × List MemPlace} (h : DataW.trod enc Try.prog w base spare held fuel 22 cs = some x) : ∃ a : List (List zj), zey a ∧ Rep (Ue w) ((eSl 1 false (eSl 2 false (yc (eI .i64) (eI .i64)))) a) cs := by
 exact Yo (eSl 2 false (yc (eI .i64) (eI .i64))) zde Try.underlying22 z86 (by omega) (fun _ => rfl) (fun _ _ _ q => zeJ q) h
theorem z3b : Try.prog.cellsOf 24 = 3 := by kernel_rfl
theorem zdP {fuel : Nat}  {x : DataW H × List MemPlace} (h : DataW.trod enc Try.prog w base spare held fuel 24 cs = some x) : ∃ a : z6, zdg a ∧ Rep (Ue w) ((y9 (eI .i64) (eI .i64) (eSl 1 false (eSl 2 false (yc (eI .i64) (eI .i64))))) a) cs := by
 obtain ⟨hl, hf⟩ := jx Try.underlying24 h
 rw [z3b] at hl
 obtain ⟨_, _, q0⟩ := hf 0 _ rfl
 obtain ⟨_, _, q1⟩ := hf 1 _ rfl
 obtain ⟨_, _, q2⟩ := hf 2 _ rfl
 simp only [z8a, z0W] at q0 q1 q2
 obtain ⟨a0, k0, r0⟩ := rd3 q0
 obtain ⟨a1, k1, r1⟩ := rd3 q1
 obtain ⟨a2, k2, r2⟩ := zeN q2
 refine ⟨⟨a0, a1, a2⟩, ⟨k0, k1, k2⟩, ?_⟩
 show Rep (Ue w) (.agg [(eI .i64) a0, (eI .i64) a1, (eSl 1 false (eSl 2 false (yc (eI .i64) (eI .i64)))) a2]) cs
 simp only [Rep]
 refine uc (n := 1) (by simpa [List.drop_drop] using r0) (uc (n := 1) (by simpa [List.drop_drop] using r1) (uc (n := 1) (by simpa [List.drop_drop] using r2) ?_))
 simp only [List.drop_drop, zV]
 exact List.drop_eq_nil_of_le (by omega)
theorem z87 : Try.prog.cellsOf 34 = 1 := by kernel_rfl
theorem zeK {fuel : Nat}  {x : DataW H × List MemPlace} (h : DataW.trod enc Try.prog w base spare held fuel 34 cs = some x) : ∃ a : List Int, zdf a ∧ Rep (Ue w) ((eSl 1 false (eI .i64)) a) cs := by
 exact Yo (eI .i64) Ok3 Try.underlying34 z0W (by omega) (fun _ => rfl) (fun _ _ _ q => rd3 q) h
theorem z89 : Try.prog.cellsOf 25 = 1 := by kernel_rfl
theorem zeM {fuel : Nat}  {x : DataW H × List MemPlace} (h : DataW.trod enc Try.prog w base spare held fuel 25 cs = some x) : ∃ a : List (List Int), zex a ∧ Rep (Ue w) ((eSl 1 false (eSl 1 false (eI .i64))) a) cs := by
 exact Yo (eSl 1 false (eI .i64)) zdf Try.underlying25 z87 (by omega) (fun _ => rfl) (fun _ _ _ q => zeK q) h
theorem z88 : Try.prog.cellsOf 27 = 5 := by kernel_rfl
theorem zeL {fuel : Nat}  {x : DataW H × List MemPlace} (h : DataW.trod enc Try.prog w base spare held fuel 27 cs = some x) : ∃ a : xL, zew a ∧ Rep (Ue w) ((kW (y9 (eI .i64) (eI .i64) (eSl 1 false (eSl 2 false (yc (eI .i64) (eI .i64))))) (eSl 1 false (eSl 1 false (eI .i64))) (eI .i64)) a) cs := by
 obtain ⟨hl, hf⟩ := jx Try.underlying27 h
 rw [z88] at hl
 obtain ⟨_, _, q0⟩ := hf 0 _ rfl
 obtain ⟨_, _, q1⟩ := hf 1 _ rfl
 obtain ⟨_, _, q2⟩ := hf 2 _ rfl
 simp only [z3b, z89, z0W] at q0 q1 q2
 obtain ⟨a0, k0, r0⟩ := zdP q0
 obtain ⟨a1, k1, r1⟩ := zeM q1
 obtain ⟨a2, k2, r2⟩ := rd3 q2
 refine ⟨⟨a0, a1, a2⟩, ⟨k0, k1, k2⟩, ?_⟩
 show Rep (Ue w) (.agg [(y9 (eI .i64) (eI .i64) (eSl 1 false (eSl 2 false (yc (eI .i64) (eI .i64))))) a0, (eSl 1 false (eSl 1 false (eI .i64))) a1, (eI .i64) a2]) cs
 simp only [Rep]
 refine uc (n := 3) (by simpa [List.drop_drop] using r0) (uc (n := 1) (by simpa [List.drop_drop] using r1) (uc (n := 1) (by simpa [List.drop_drop] using r2) ?_))
 simp only [List.drop_drop, zV]
 exact List.drop_eq_nil_of_le (by omega)
end
end Go.Own
namespace Go.Proofs.Ytiddgdfbhmmccaa.gapsAny
open Go Go.ChangeShapes Go.WideShapes Go.ChangeAt Go.RowKit
theorem own : ownKnob Try.prog.godebug = none := by kernel_rfl
theorem z7h : laidOutB Try.prog = true := by kernel_rfl
section
variable {H : Type} {enc : TypeId × Value → H} {W : World}
set_option maxRecDepth 100000 in
theorem zeE {base : Nat} {v0 : Value} {d0 : DataW H} {p0 : List MemPlace} {v1 : Value} {d1 : DataW H} {p1 : List MemPlace} (h0 : DataW.Trod enc Try.prog W 0 (fun _ => true) true 24 v0 d0 p0) (h1 : DataW.Trod enc Try.prog W 0 (fun _ => true) true 27 v1 d1 p1) (k0 : Value.okWide Try.prog W .any base (24 : Nat) v0) (k1 : Value.okWide Try.prog W .any base (27 : Nat) v1) :
  Calls Try.prog 3 #[v0, v1] W fun e w' => e = .returned (.bool true) ∧ Go.Own.wK (fun k => W.heap.size ≤ k) W w' := by
 obtain ⟨n0, h0⟩ := h0
 obtain ⟨x0, o0, r0⟩ := Go.Own.zdP h0
 obtain ⟨n1, h1⟩ := h1
 obtain ⟨x1, o1, r1⟩ := Go.Own.zeL h1
 have q := (Go.Own.z40 (Go.Own.z1o Go.Own.zcj List.mem_cons_self : Go.Own.OkH Go.Own.l78) (x := (x0, x1)) (r := true) (Go.Own.z4J o0 o1)).2 (Go.Own.Ue W) W [v0, v1] [] ⟨fun _ _ _ h => h, fun _ _ e => (by cases e), fun _ _ e => (by cases e)⟩ ?_ (by simp)
 ·refine Calls.mono q ?_
  rintro e w' ⟨v, S', F', rfl, hk, _, _, _, hr, _, _⟩
  refine ⟨?_, hk.mono (by rintro k (h | h) <;> simp_all)⟩
  rw [Go.Own.z4P hr]
 ·refine Go.Own.kX ?_
  have g0 : Go.Own.wi (Go.Own.Ue W) ((Go.Own.y9 (Go.Own.eI .i64) (Go.Own.eI .i64) (Go.Own.eSl 1 false (Go.Own.eSl 2 false (Go.Own.yc (Go.Own.eI .i64) (Go.Own.eI .i64))))) x0) v0 := Go.Own.Wv (t := (24 : Nat)) Try.underlying24 r0 k0 rfl
  have g1 : Go.Own.wi (Go.Own.Ue W) ((Go.Own.kW (Go.Own.y9 (Go.Own.eI .i64) (Go.Own.eI .i64) (Go.Own.eSl 1 false (Go.Own.eSl 2 false (Go.Own.yc (Go.Own.eI .i64) (Go.Own.eI .i64))))) (Go.Own.eSl 1 false (Go.Own.eSl 1 false (Go.Own.eI .i64))) (Go.Own.eI .i64)) x1) v1 := Go.Own.Wv (t := (27 : Nat)) Try.underlying27 r1 k1 rfl
  exact ⟨g0, g1, trivial⟩
end
set_option maxRecDepth 100000 in
theorem z9l (os : Os) (started : os.Started) (H : Type) (enc : TypeId × Value → H) :
  ReturnsInHanded {} Try.checked os 3 .any (Rows.gapsAnySpec.pre6 enc Try.prog Try.f3 Rows.gapsAnyRow.domain false) (Rows.gapsAnySpec.post enc Try.prog Try.f3 false true false false) := by
 refine returnsInHanded_of_change (C := Try.checked) own started (by kernel_rfl) Try.func3
  (ChangeSpec.witness6 (enc := enc) (C := Try.checked) false ⟨#[], #[.agg #[.int .i64 0, .int .i64 0, .slice none 0 0], .agg #[.int .i64 0, .int .i64 0, .slice none 0 0, .slice none 0 0, .int .i64 0]], []⟩ 8 (by kernel_rfl) (by kernel_rfl) (by kernel_rfl) (by kernel_rfl)) ?_
 intro W base args ds gs before hval0 hW hcnd _
 have hval : ∀ (j : Nat) t v, Try.f3.params[j]? = some t → args[j]? = some v → Value.okWide Try.prog W .any base t v := hval0
 have hW' := hW
 obtain ⟨p, q, hA0, hV, rfl, hfz, hnd⟩ := hW
 have hA : DataW.TrodAll enc Try.prog W 0 (fun _ => true) true Try.f3.params.toList args.toList ds p := hA0
 rw [Try.params3] at hA hval
 obtain ⟨v0, v1, d0, d1, p0, p1, rfl, rfl, rfl, h0, h1⟩ := trodAll_two hA
 obtain ⟨rfl, rfl⟩ := trodVars_none hV
 clear hA0 hval0
 refine (zeE h0 h1 (hval 0 (24 : Nat) v0 rfl rfl) (hval 1 (27 : Nat) v1 rfl rfl)).mono fun e W' ⟨he, hk⟩ => ?_
 subst he
 have hb : Below W.heap.size W W' := ⟨hk.os, hk.tape, hk.output, hk.size, fun k q => hk.block k (by omega)⟩
 have hlt : ∀ x ∈ p0 ++ p1, x.block < W.heap.size := fun x hx => by simpa using hW'.lt x (by simpa using hx)
 refine ⟨_, rfl, Go.Own.z2i rfl rfl hW' hb (fun _ _ _ => trodAll_cons_mk (shut_bool Try.underlying4 _) trodAll_mk0) (fun sp hsp => ?_) (ok_one (by kernel_rfl) rfl (okWide_bool_mk Try.underlying4 _))⟩
 have st : ∀ {t : Nat} {v : Value} {d : DataW H} {p' : List MemPlace}, DataW.Trod enc Try.prog W 0 (fun _ => true) true t v d p' → Try.prog.readableRec t = true → t < Try.prog.types.size → (∀ x ∈ p', x ∈ p0 ++ p1) → DataW.Trod enc Try.prog W' 0 sp true t v d p' := by
  intro t v d p' hd h1 h2 hp
  exact WideElems.Trod_stays z7h h1 h2 hd (fun x hx => hb.same (hlt x (hp x hx))) (fun x hx => hsp x (by simpa using hp x hx))
 have := trodAll_mk2 (st h0 (by kernel_rfl) (of_decide_eq_true (by kernel_rfl)) (fun x hx => by simp [hx])) (st h1 (by kernel_rfl) (of_decide_eq_true (by kernel_rfl)) (fun x hx => by simp [hx]))
 rw [Try.params3]
 exact this
theorem ud : Rows.gapsAnyRow.holds Try.pinned (OpenSpec.ofChange Rows.gapsAnySpec) :=
 OpenClaim.holds_of_wide 3 Try.f3 rfl rfl rfl rfl rfl rfl rfl ⟨rfl, rfl, rfl, rfl, rfl⟩ rfl rfl rfl rfl rfl (by kernel_rfl) Try.func3 (by kernel_rfl)
  (of_decide_eq_true (by kernel_rfl)) (by unfold Func.isWrapper; first | (rw [if_pos (by decide +kernel)]; kernel_rfl) | (rw [if_neg (by decide +kernel)]; exact ⟨rfl, rfl⟩))
  (fun os started H enc _ => z9l os started H enc)
theorem proved : Rows.GapsAnySaid :=
 ud
#print axioms proved
end Go.Proofs.Ytiddgdfbhmmccaa.gapsAny
