/- -/
import Derived.Test.YtkelmheleahmpaaGreatDoorPartG
import Derived.Test.YtkelmheleahmpaaGreatDoorPartE
import Derived.Test.YtkelmheleahmpaaGreatDoorPartB
import Derived.OpenShut
import Derived.ChangeShapes
import Derived.Test.YtkelmheleahmpaaGreatDoorPartC
import Derived.WalkKit
import Derived.ProofKit
import Derived.Carry
import Derived.Test.YtkelmheleahmpaaGreatDoorRows
import Derived.Test.YtkelmheleahmpaaGreatDoorChecked
import Derived.LaidMore
import Derived.Stop.Joined
import Derived.SevenTiedAt
import Derived.Test.YtkelmheleahmpaaGreatDoorCards
import Derived.Test.YtkelmheleahmpaaGreatDoorTie
set_option linter.unusedVariables false
set_option linter.unusedSimpArgs false
namespace Go.Own
open Classical
theorem zb7 (s : List Int) (h : s.length ≤ 4294967296) : yI s = some s := by
 unfold yI
 rw [gdT (by simpa using h)]
theorem zb2 (a b : Nat) : yH [(a : Int)] [(b : Int)] = some (decide (a = b)) := by
 unfold yH
 rw [show ((([(a : Int)] : List Int).length : Nat) : Int) = 1 from rfl, show ((([(b : Int)] : List Int).length : Nat) : Int) = 1 from rfl, show ((1 : Int) != 1) = false from rfl, cond_false]
 by_cases e : a = b
 ·subst e
  rw [z7O 1 (by decide), oB, decide_eq_true rfl]
  ·rfl
  ·intro i hi
   have : i = 0 := by omega
   subst this
   unfold y9
   rw [show decide (((0 : Nat) : Int) < ((([(a : Int)] : List Int).length : Nat) : Int)) = true from rfl, cond_true, show idx [(a : Int)] ((0 : Nat) : Int) = some (a : Int) from rfl, oB, oB, bne_self_eq_false, cond_false]
   rfl
  ·unfold y9
   rfl
 ·rw [z3A (t := .inr false), oB, decide_eq_false e]
  unfold y9
  rw [show decide ((0 : Int) < ((([(a : Int)] : List Int).length : Nat) : Int)) = true from rfl, cond_true, show idx [(a : Int)] (0 : Int) = some (a : Int) from rfl, oB, show idx [(b : Int)] (0 : Int) = some (b : Int) from rfl, oB, show ((a : Int) != (b : Int)) = true by simp; omega, cond_true]
variable {want : Nat}
theorem z0N {S : List Nat}  : ∀ (k hv fr : Nat) {ix : List Nat}, chN S want k hv fr = some ix → ix.length = k ∧ ∀ i ∈ ix, i < S.length
 | 0, hv, fr, ix, e => by
  simp only [chN] at e
  split at e
  ·cases e; exact ⟨rfl, by simp⟩
  ·cases e
 | k + 1, hv, fr, ix, e => by
  simp only [chN] at e
  obtain ⟨j, h1, h2, h3⟩ := XK e
  obtain ⟨ix', h4, rfl⟩ := Option.map_eq_some_iff.1 h3
  obtain ⟨a, b⟩ := z0N k _ _ h4
  refine ⟨by simp [a], fun i hi => ?_⟩
  rcases List.mem_cons.1 hi with q | q
  ·omega
  ·exact b i q
theorem z2a {S : List Nat} {want : Nat} (hS : ∀ b ∈ S, b < 2 ^ 64) (hn : S.length ≤ 16) : ∀ (k hv fr n : Nat), k < n → hv < 2 ^ 64 → k ≤ 16 → fr ≤ 100 →
  ∃ r, zR n ⟨S.map fun b : Nat => [(b : Int)], [(want : Int)]⟩ [(hv : Int)] (fr : Int) (k : Int) = some r ∧ ((chN S want k hv fr = none ∧ r.2 = false) ∨ ∃ ix, chN S want k hv fr = some ix ∧ r = (ix.map fun i : Nat => (i : Int), true))
 | k, hv, fr, 0, hk, _, _, _ => by omega
 | 0, hv, fr, n + 1, hk, hh, _, _ => by
  show ∃ r, y7 (zR n) _ _ _ _ = some r ∧ _
  unfold y7
  rw [show ((((0 : Nat) : Int)) == 0) = true from rfl, cond_true, zb2, oB]
  refine ⟨_, rfl, ?_⟩
  simp only [chN]
  by_cases e : hv = want
  ·exact .inr ⟨[], by rw [if_pos e], by simp [e]⟩
  ·exact .inl ⟨by rw [if_neg e], by simp [e]⟩
 | k + 1, hv, fr, n + 1, hk, hh, hk16, hfr => by
  show ∃ r, y7 (zR n) _ _ _ _ = some r ∧ _
  unfold y7
  rw [show ((((k + 1 : Nat) : Int)) == 0) = false by simp; omega, cond_false]
  have main := Vu (step := fun s => y5 ⟨S.map fun b : Nat => [(b : Int)], [(want : Int)]⟩ [(hv : Int)] ((k + 1 : Nat) : Int) (zR n) s)
   (fun i => (chN S want k (hv ||| S[i]?.getD 0) (i + 1)).map (i :: ·)) (fun ix (r : List Int × Bool) => r = (ix.map fun i : Nat => (i : Int), true)) (max (S.length - k) 0) (by omega) (S.length - k - fr) fr (by omega) ?_ ?_
  ·rcases main with ⟨m1, m2⟩ | ⟨a, r, m1, m2, m3⟩
   ·rw [m2, oB]
    refine ⟨_, rfl, .inl ⟨by simp only [chN]; exact m1, rfl⟩⟩
   ·rw [m2, oB]
    exact ⟨r, rfl, .inr ⟨a, by simp only [chN]; exact m1, m3⟩⟩
  ·intro j h1 h2
   have hj : j < S.length := by omega
   have hx := List.getElem?_eq_getElem hj
   have hb := hS _ (List.getElem_mem hj)
   have hor : hv ||| S[j] < 2 ^ 64 := Nat.or_lt_two_pow hh hb
   obtain ⟨r, e, q⟩ := z2a hS hn k (hv ||| S[j]) (j + 1) n (by omega) hor (by omega) (by omega)
   have hl5 : loop (fun s => y4 [(S[j] : Int)] s.1 s.2) ([(hv : Int)], (0 : Int)) = some [((hv ||| S[j] : Nat) : Int)] := by
    refine Wk (fun i => if i = 0 then ([(hv : Int)], (i : Int)) else ([((hv ||| S[j] : Nat) : Int)], (i : Int))) 1 (by decide) ?_ ?_
    ·intro i hi
     have : i = 0 := by omega
     subst this
     show y4 [(S[j] : Int)] [(hv : Int)] 0 = some (.next ([((hv ||| S[j] : Nat) : Int)], 1))
     unfold y4
     rw [← zcB hh hb]
     rfl
    ·show y4 [(S[j] : Int)] [((hv ||| S[j] : Nat) : Int)] 1 = _
     rfl
   have hstep : y5 ⟨S.map fun b : Nat => [(b : Int)], [(want : Int)]⟩ [(hv : Int)] ((k + 1 : Nat) : Int) (zR n) (j : Int) = yg ⟨S.map fun b : Nat => [(b : Int)], [(want : Int)]⟩ ((k + 1 : Nat) : Int) (zR n) (j : Int) [((hv ||| S[j] : Nat) : Int)] := by
    unfold y5
    simp only [List.length_map]
    rw [ws (by omega) (by omega), show decide ((j : Int) + ((k + 1 : Nat) : Int) ≤ ((S.length : Nat) : Int)) = true by simp; omega, cond_true, zb7 _ (by simp), oB, wb, List.getElem?_map, hx, Option.map_some, oB, hl5, oB]
   have hJ4 : yg ⟨S.map fun b : Nat => [(b : Int)], [(want : Int)]⟩ ((k + 1 : Nat) : Int) (zR n) (j : Int) [((hv ||| S[j] : Nat) : Int)] = (bif r.2 then (gd (([(j : Int)] : List Int).length + r.1.length ≤ 4294967296) <| some (.done (.inr (([(j : Int)] ++ r.1), true)))) else yC (j : Int)) := by
    unfold yg
    rw [yx (by omega), ws (by omega) (by omega), show ((k + 1 : Nat) : Int) - 1 = (k : Int) by omega, e, oB]
   rw [hstep, hJ4]
   simp only [hx, Option.getD_some]
   rcases q with ⟨q1, q2⟩ | ⟨ix, q1, q2⟩
   ·refine .inl ⟨by rw [q1]; rfl, ?_⟩
    rw [q2, cond_false]
    unfold yC
    rw [yx (by omega)]
   ·have hlen := (z0N k _ _ q1).1
    refine .inr ⟨j :: ix, _, by rw [q1]; rfl, ?_, rfl⟩
    rw [q2]
    simp only [cond_true]
    rw [gdT (by simp; omega)]
    rfl
  ·intro j h1 h2
   unfold y5
   simp only [List.length_map]
   rw [ws (by omega) (by omega), show decide ((j : Int) + ((k + 1 : Nat) : Int) ≤ ((S.length : Nat) : Int)) = false by simp; omega, cond_false]
open Classical
variable {l : List (List Nat)}{g : Nat}
section
variable {m : z6} (h : VM m) (hR : m.Rows.length ≤ 6) (h3 : kk m ≤ 3)
include h hR h3
theorem z9g (g : Nat) (bf : List (List Nat)) : bvC m g bf < 2 ^ 64 := by
 have h1 := z0R (fun k => ∃ t, (GL m g)[k]? = some t ∧ YF m bf (toI g t)) (GL m g).length
 have h2 : (2 : Nat) ^ (GL m g).length ≤ 2 ^ 54 := Nat.pow_le_pow_right (by decide) (z42 h hR h3 g)
 have h4 : (2 : Nat) ^ 54 < 2 ^ 64 := by decide
 unfold bvC
 omega
theorem z2W (hg : g < 3) {bf : List (List Nat)} (hb : WL m bf) : vn ((GL m g).map (toC m g)) (mk3 (cv0 m bf)) = some [(bvC m g bf : Int)] := by
 have hgs := z42 h hR h3 g
 unfold vn
 rw [gdT (by decide), List.length_map]
 have hd : Int.tdiv (((GL m g).length : Nat) : Int) 64 = 0 := by
  rw [Int.tdiv_eq_ediv_of_nonneg (by omega)]; omega
 rw [hd, show w64 (w64 0 + 1) = 1 from by decide, gdT (by decide)]
 have key : ∀ L : List T3, L.length ≤ 54 → loop (fun s => xI (L.map (toC m g)) (mk3 (cv0 m bf)) s.1 s.2) (List.replicate (1 : Int).toNat (0 : Int), (0 : Int)) = some [((ZG (fun k => ∃ t, L[k]? = some t ∧ YF m bf (toI g t)) L.length : Nat) : Int)] := by
  intro L hL
  refine Wk (fun i => ([((ZG (fun k => ∃ t, L[k]? = some t ∧ YF m bf (toI g t)) i : Nat) : Int)], (i : Int))) L.length (by omega) ?_ ?_
  ·intro i hi
   have hx := List.getElem?_eq_getElem hi
   have hix : idx (L.map (toC m g)) (i : Int) = some (toC m g L[i]) := by rw [wb, List.getElem?_map, hx]; rfl
   have hmk : mkd g L[i] (cv0 m bf) ↔ YF m bf (toI g L[i]) := by
    obtain ⟨a1, a2, a3⟩ := z69 h hb
    have hg' : g = 0 ∨ g = 1 ∨ g = 2 := by omega
    unfold mkd toI
    rcases hg' with rfl | rfl | rfl
    ·simp only [if_true]; exact a1 _
    ·simp only [Nat.one_ne_zero, if_false, if_true]; exact a2 _ _
    ·simp only [show ¬ (2 = 0) by decide, show ¬ (2 = 1) by decide, if_false]; exact a3 _ _ _
   have hwi : w64 ((i : Int) + 1) = ((i + 1 : Nat) : Int) := yx (by omega)
   have hlt := z0R (fun k => ∃ t, L[k]? = some t ∧ YF m bf (toI g t)) i
   have hlt2 : (2 : Nat) ^ i ≤ 2 ^ 54 := Nat.pow_le_pow_right (by decide) (by omega)
   have h4 : (2 : Nat) ^ 54 < 2 ^ 64 := by decide
   have hdi : w64 (Int.tdiv (i : Int) 64) = 0 := by
    rw [Int.tdiv_eq_ediv_of_nonneg (by omega), show (i : Int) / 64 = 0 by omega]; rfl
   have hmi : Int.tmod (i : Int) 64 = (i : Int) := by
    rw [Int.tmod_eq_emod_of_nonneg (by omega)]; omega
   show xI (L.map (toC m g)) (mk3 (cv0 m bf)) [_] (i : Int) = some (.next ([_], ((i + 1 : Nat) : Int)))
   unfold xI
   rw [List.length_map, show decide ((i : Int) < ((L.length : Nat) : Int)) = true by simp [hi], cond_true, hix, oB, zaZ, oB]
   have hp : (∃ t, L[i]? = some t ∧ YF m bf (toI g t)) ↔ YF m bf (toI g L[i]) := by simp [hx]
   by_cases hcv : YF m bf (toI g L[i])
   ·rw [decide_eq_true (hmk.2 hcv), cond_true, gdT (by decide), hdi, hmi, show idx [((ZG (fun k => ∃ t, L[k]? = some t ∧ YF m bf (toI g t)) i : Nat) : Int)] 0 = some _ from rfl, oB, gdT (by decide), gdT (by omega), oB]
    unfold wp
    have hsh : z6I .u64 1 (i : Int) = ((2 ^ i : Nat) : Int) := zf8 ⟨i, by omega⟩
    rw [hwi, hsh, zcB (by omega) (by omega)]
    have : ZG (fun k => ∃ t, L[k]? = some t ∧ YF m bf (toI g t)) (i + 1) = ZG (fun k => ∃ t, L[k]? = some t ∧ YF m bf (toI g t)) i ||| 2 ^ i := by
     rw [ZG, if_pos (hp.2 hcv)]
    rw [this]
    rfl
   ·rw [decide_eq_false (fun q => hcv (hmk.1 q)), cond_false]
    unfold wp
    have : ZG (fun k => ∃ t, L[k]? = some t ∧ YF m bf (toI g t)) (i + 1) = ZG (fun k => ∃ t, L[k]? = some t ∧ YF m bf (toI g t)) i := by
     rw [ZG, if_neg fun q => hcv (hp.1 q)]
    rw [this, hwi]
  ·unfold xI
   rw [List.length_map]
   simp
 rw [key _ hgs]
 rfl
omit hR h3 in
theorem zdp (hl : WL m l) {w : List Nat} (hw : w ∈ l) : WL m [w] := by have _ := h; exact ⟨by simp, fun v hv => by simp only [List.mem_singleton] at hv; subst hv; exact hl.2 _ hw⟩
omit hR h3 in
theorem z9n {l bf : List (List Nat)} (hl : WL m l) (hs : ∀ w ∈ bf, w ∈ l) (hn : bf.length ≤ 4096) : WL m bf := by have _ := h; exact ⟨hn, fun v hv => hl.2 v (hs v hv)⟩
variable (hG : GG (kk m) m.Rows.length ≤ 1000000000) {l : List (List Nat)} (hl : WL m l) (hn : l.length ≤ 16)
include hG hl hn
theorem KM (hg : g < 3) : ∀ (k : Nat) (bf : List (List Nat)) (fr n : Nat), k < n → k ≤ 16 → (∀ w ∈ bf, w ∈ l) → bf.length + k ≤ 40 → fr ≤ 100 →
  ∃ r, ve n m (lN l) (lN bf) (fr : Int) (k : Int) (g : Int) = some r ∧ ((rfN m l g k bf fr = none ∧ r.2 = false) ∨ ∃ w, rfN m l g k bf fr = some w ∧ r = (lN w, true))
 | k, bf, fr, 0, hk, _, _, _, _ => by have _ := hR; have _ := h3; omega
 | 0, bf, fr, n + 1, hk, _, hs, hbl, _ => by
  have hWb := z9n h hl hs (by omega)
  show ∃ r, vg (ve n) _ _ _ _ _ _ = some r ∧ _
  unfold vg
  rw [show ((((0 : Nat) : Int)) == 0) = true from rfl, cond_true, Wi h hG hWb hg, oB, Wi h hG hl hg, oB]
  refine ⟨_, rfl, ?_⟩
  simp only [rfN]
  show _ ∨ _
  by_cases e : (msL m bf g).length = (msL m l g).length
  ·refine .inr ⟨bf, by rw [if_pos e], ?_⟩
   show (lN bf, ((((msL m bf g).length : Nat) : Int) == (((msL m l g).length : Nat) : Int))) = _
   rw [e]; simp
  ·refine .inl ⟨by rw [if_neg e], ?_⟩
   show ((((msL m bf g).length : Nat) : Int) == (((msL m l g).length : Nat) : Int)) = false
   simp; omega
 | k + 1, bf, fr, n + 1, hk, hk16, hs, hbl, hfr => by
  show ∃ r, vg (ve n) _ _ _ _ _ _ = some r ∧ _
  unfold vg
  rw [show ((((k + 1 : Nat) : Int)) == 0) = false by simp; omega, cond_false]
  have main := Vu (step := fun s => wx m (lN l) (lN bf) ((k + 1 : Nat) : Int) (g : Int) (ve n) s)
   (fun i => rfN m l g k (bf ++ [l[i]?.getD []]) (i + 1)) (fun w (r : List (List Int) × Bool) => r = (lN w, true)) l.length (by omega) (l.length - fr) fr (by omega) ?_ ?_
  ·rcases main with ⟨m1, m2⟩ | ⟨a, r, m1, m2, m3⟩
   ·rw [m2, oB]
    refine ⟨_, rfl, .inl ⟨by simp only [rfN]; exact m1, rfl⟩⟩
   ·rw [m2, oB]
    exact ⟨r, rfl, .inr ⟨a, by simp only [rfN]; exact m1, m3⟩⟩
  ·intro j h1 h2
   have hx := List.getElem?_eq_getElem h2
   have hs' : ∀ w ∈ bf ++ [l[j]], w ∈ l := by
    intro w hw
    rcases List.mem_append.1 hw with q | q
    ·exact hs w q
    ·simp only [List.mem_singleton] at q; subst q; exact List.getElem_mem h2
   obtain ⟨r, e, q⟩ := KM hg k (bf ++ [l[j]]) (j + 1) n (by omega) (by omega) hs' (by simp; omega) (by omega)
   have hap : lN bf ++ ([wN l[j]] : List (List Int)) = lN (bf ++ [l[j]]) := by simp [lN]
   have hstep : wx m (lN l) (lN bf) ((k + 1 : Nat) : Int) (g : Int) (ve n) (j : Int) = (bif r.2 then some (.done (.inr (r.1, true))) else some (.next (((j + 1 : Nat) : Int)))) := by
    unfold wx
    rw [um, show decide ((j : Int) < ((l.length : Nat) : Int)) = true by simp [h2], cond_true, gdT (by rw [um]; simp; omega), z1Y hx, oB, gdT (by rw [um]; simp; omega), yx (by omega), ws (by omega) (by omega), show ((k + 1 : Nat) : Int) - 1 = (k : Int) by omega, hap, e, oB]
   rw [hstep]
   simp only [hx, Option.getD_some]
   rcases q with ⟨q1, q2⟩ | ⟨w, q1, q2⟩
   ·exact .inl ⟨q1, by rw [q2, cond_false]⟩
   ·exact .inr ⟨w, _, q1, by rw [q2]; rfl, rfl⟩
  ·intro j h1 h2
   unfold wx
   rw [um, show decide ((j : Int) < ((l.length : Nat) : Int)) = false by simp; omega, cond_false]
noncomputable def z2k (m : z6) (l : List (List Nat)) (g : Nat) : List (List Nat) := (XL (fun k => rfN m l g k [] 0) l.length 0).getD l
theorem z4g (hg : g < 3) : jR m (lN l) (g : Int) = some (lN (z2k m l g)) := by
 unfold jR
 have main := Vu (step := fun s => wy m (lN l) (g : Int) s) (fun k => rfN m l g k [] 0) (fun w (r : List (List Int)) => r = lN w) l.length (by omega) l.length 0 (by omega) ?_ ?_
 ·rcases main with ⟨m1, m2⟩ | ⟨a, r, m1, m2, m3⟩
  ·rw [show (0 : Int) = ((0 : Nat) : Int) from rfl, m2, oB]
   unfold z2k qL
   rw [m1]
   rfl
  ·rw [show (0 : Int) = ((0 : Nat) : Int) from rfl, m2, oB]
   unfold z2k
   rw [m1, m3]
   rfl
 ·intro j h1 h2
  obtain ⟨r, e, q⟩ := KM h hR h3 hG hl hn hg j [] 0 (j + 1) (by omega) (by omega) (by simp) (by simp; omega) (by omega)
  have hc : XS m (lN l) [] 0 (j : Int) (g : Int) = some r := e
  have hstep : wy m (lN l) (g : Int) (j : Int) = (bif r.2 then some (.done (.inr r.1)) else some (.next (((j + 1 : Nat) : Int)))) := by
   unfold wy
   rw [um, show decide ((j : Int) < ((l.length : Nat) : Int)) = true by simp [h2], cond_true, hc, oB, yx (by omega)]
  rw [hstep]
  rcases q with ⟨q1, q2⟩ | ⟨w, q1, q2⟩
  ·exact .inl ⟨q1, by rw [q2, cond_false]⟩
  ·exact .inr ⟨w, _, q1, by rw [q2]; rfl, rfl⟩
 ·intro j h1 h2
  unfold wy
  rw [um, show decide ((j : Int) < ((l.length : Nat) : Int)) = false by simp; omega, cond_false]
omit h hR h3 hG hl hn in
theorem zd4 (m : z6) (l : List (List Nat)) (g : Nat) : (msL m (z2k m l g) g).length = (msL m l g).length ∧ ∀ w ∈ z2k m l g, w ∈ l := by
 unfold z2k
 cases e : XL (fun k => rfN m l g k [] 0) l.length 0 with
 | none => exact ⟨rfl, fun _ q => q⟩
 | some w =>
  obtain ⟨j, _, _, q⟩ := XK e
  exact z3k j [] 0 (by simp) q
theorem z4i {g : Nat} (hg : g < 3) (hc : chE m.Inputs (lN l) = 0) : wT m (lN l) (g : Int) = some (lN (z2k m l g), 0) := by
 have _ := hG
 unfold wT
 rw [zb8 h hc, oB, show ((0 : Int) != 0) = false from rfl, cond_false, show decide ((g : Int) < 0) = false by simp, cond_false, show decide ((g : Int) ≥ 3) = false by simp; omega, cond_false, um, show decide (((l.length : Nat) : Int) > 16) = false by simp; omega, cond_false, z8v h hg, oB, KZ h hl, oB, z2W h hR h3 hg hl, oB]
 have e7 : loop (fun s => xJ m (lN l) ((GL m g).map (toC m g)) s.1 s.2) (([] : List (List Int)), (0 : Int)) = some (l.map fun w => [(bvC m g [w] : Int)]) := by
  refine z5E l (fun w => [(bvC m g [w] : Int)]) (by omega) ?_ ?_
  ·intro i w hw
   have hi := (List.getElem?_eq_some_iff.1 hw).1
   have hwl := zdp h hl (List.mem_of_getElem? hw)
   have hcv := KZ h hwl
   unfold xJ
   simp only
   rw [um, show decide ((i : Int) < ((l.length : Nat) : Int)) = true by simp [hi], cond_true, z1Y hw, oB, show ([wN w] : List (List Int)) = lN [w] from rfl, hcv, oB, z2W h hR h3 hg hwl, oB, gdT (by simp; omega), yx (by omega)]
  ·unfold xJ
   rw [um]
   simp
 rw [e7, oB]
 unfold vT
 have hS : ∀ b ∈ l.map (fun w => bvC m g [w]), b < 2 ^ 64 := by
  intro b hb
  obtain ⟨w, _, rfl⟩ := List.mem_map.1 hb
  exact z9g h hR h3 g [w]
 have hsets : (l.map fun w => [(bvC m g [w] : Int)]) = (l.map fun w => bvC m g [w]).map fun b : Nat => [(b : Int)] := by rw [List.map_map]; rfl
 have main := Vu (step := fun s => x9 (lN l) ((GL m g).map (toC m g)) [(bvC m g l : Int)] (l.map fun w => [(bvC m g [w] : Int)]) s) (fun k => rfN m l g k [] 0) (fun w (r : List (List Int) × Int) => r = (lN w, 0)) (l.length + 1) (by omega) (l.length + 1) 0 (by omega) ?_ ?_
 ·have hall : XL (fun k => rfN m l g k [] 0) (l.length + 1) 0 = some (z2k m l g) := by
   rw [z0o]
   unfold z2k
   cases e : XL (fun k => rfN m l g k [] 0) l.length 0 with
   | some w => rfl
   | none =>
    simp only [XL, Nat.zero_add]
    have := z8Q (m := m) (l := l) (g := g) l.length 0 (by omega)
    rw [List.take_zero] at this
    rw [this]
    rfl
  rcases main with ⟨m1, m2⟩ | ⟨a, r, m1, m2, m3⟩
  ·rw [hall] at m1; cases m1
  ·rw [hall] at m1
   cases m1
   rw [show (0 : Int) = ((0 : Nat) : Int) from rfl, m2, oB]
   simp only
   rw [m3]
   rfl
 ·intro j h1 h2
  have hj : j ≤ l.length := by omega
  have hnone : ua = some (mk3 (cv0 m [])) := rfl
  have hW0 : WL m [] := ⟨by simp, by simp⟩
  obtain ⟨r, e, q⟩ := z2a (S := l.map fun w => bvC m g [w]) (want := bvC m g l) hS (by rw [List.length_map]; exact hn) j (bvC m g []) 0 (j + 1) (by omega) (z9g h hR h3 g []) (by omega) (by omega)
  have hch : vF ⟨l.map (fun w => [(bvC m g [w] : Int)]), [(bvC m g l : Int)]⟩ [(bvC m g [] : Int)] 0 (j : Int) = some r := by rw [hsets]; exact e
  have hrf := zau (m := m) (l := l) (g := g) j [] 0 (by simp) hj
  have hpre : x9 (lN l) ((GL m g).map (toC m g)) [(bvC m g l : Int)] (l.map fun w => [(bvC m g [w] : Int)]) (j : Int) = (bif !r.2 then wC (j : Int) else (
    gd ((0 : Int) ≤ ((r.1.length : Nat) : Int) ∧ (((r.1.length : Nat) : Int) : Int) ≤ 4294967296) <|
    Option.bind (loop (fun s => x6 (lN l) r s.1 s.2) (([] : List (List Int)), 0)) fun t6 => wB r t6)) := by
   unfold x9
   rw [um, yx (by omega), show decide ((j : Int) < ((l.length + 1 : Nat) : Int)) = true by simp; omega, cond_true, hnone, oB, z2W h hR h3 hg hW0, oB, hch, oB]
  rw [hpre]
  rcases q with ⟨q1, q2⟩ | ⟨ix, q1, q2⟩
  ·refine .inl ⟨by rw [hrf, q1]; rfl, ?_⟩
   rw [q2, Bool.not_false, cond_true]
   unfold wC
   rw [yx (by omega)]
  ·obtain ⟨c1, c2⟩ := z0N j _ _ q1
   refine .inr ⟨_, (lN (ix.map fun i => l[i]?.getD []), 0), by rw [hrf, q1]; rfl, ?_, by simp⟩
   rw [q2]
   simp only [Bool.not_true, cond_false, List.length_map]
   rw [gdT (by omega)]
   have e6 : loop (fun s => x6 (lN l) (ix.map (fun i : Nat => (i : Int)), true) s.1 s.2) (([] : List (List Int)), (0 : Int)) = some (ix.map fun i => wN (l[i]?.getD [])) := by
    refine z5E ix (fun i => wN (l[i]?.getD [])) (by omega) ?_ ?_
    ·intro i x hx
     have hi := (List.getElem?_eq_some_iff.1 hx).1
     have hxl : x < l.length := by
      have := c2 x (List.mem_of_getElem? hx)
      rwa [List.length_map] at this
     have hxw := List.getElem?_eq_getElem hxl
     have hwl := (hl.2 _ (List.getElem_mem hxl)).2
     unfold x6
     simp only [List.length_map]
     rw [show decide ((i : Int) < ((ix.length : Nat) : Int)) = true by simp [hi], cond_true, wb, List.getElem?_map, hx, Option.map_some, oB, z1Y hxw, oB, QK _ (by rw [UE]; omega), oB, z0M, oB, gdT (by simp; omega), yx (by omega), hxw]
     rfl
    ·unfold x6
     simp
   rw [e6, oB]
   unfold wB
   rw [gdT (by simp)]
   simp [lN]
 ·intro j h1 h2
  unfold x9
  rw [um, yx (by omega), show decide ((j : Int) < ((l.length + 1 : Nat) : Int)) = false by simp; omega, cond_false]
end
set_option maxRecDepth 100000
theorem z1M : X1 = some true := by kernel_rfl
def Ok5 (a : Int) : Prop := (0) ≤ a ∧ a ≤ 255
def Ok4 (_ : Bool) : Prop := True
def zbq (a : Int) : Prop := (0) ≤ a ∧ a ≤ 65535
def zhI (l : List Int) : Prop := ∀ a ∈ l, zbq a
def zhH (a : ym) : Prop := Ok5 a.States ∧ Ok5 a.Inputs ∧ Ok5 a.Outputs ∧ Ok4 a.Partial ∧ zhI a.Edges
def zgh (l : List Int) : Prop := ∀ a ∈ l, Ok5 a
def zhG (l : List (List Int)) : Prop := ∀ a ∈ l, zgh a
def zhF (a : wG) : Prop := zhH a.M ∧ zhG a.L
open Classical
theorem z5M (l : List (List Nat)) (n : Nat) : lN (l.take n) = (lN l).take n := by unfold lN; rw [List.map_take]
theorem XOk.take {m : z6}  (k : XOk m l) (n : Nat) : XOk m (l.take n) := by
 have hl : (l.take n).length ≤ l.length := by rw [List.length_take]; omega
 have h12 := k.len
 refine ⟨k.vm, k.gg, k.rows, k.kk3, ⟨by omega, fun w hw => k.wl.2 w (List.mem_of_mem_take hw)⟩, ?_, by omega, fun w hw => k.w8 w (List.mem_of_mem_take hw)⟩
 rw [z5M]
 exact k.sw.sub (List.take_sublist _ _)
theorem z7Y {x : wG} {goal : Int} (hx : zhF x) (hgo : Ok5 goal) : v6 x goal = some true := by
 obtain ⟨⟨a1, a2, a3, _, a5⟩, b⟩ := hx
 obtain ⟨r, e, l0, e2, k0⟩ := zhN (x := x) ⟨a1.1, a2.1, a3.1, a5⟩ b
 obtain ⟨m, L⟩ := r
 simp only at e2 k0
 subst e2
 obtain ⟨g, hg, hm⟩ : ∃ g : Nat, g < 3 ∧ Int.tmod (w64 goal) 3 = (g : Int) := by
  obtain ⟨q1, q2⟩ := hgo
  refine ⟨goal.toNat % 3, Nat.mod_lt _ (by decide), ?_⟩
  rw [ws (by omega) (by omega)]
  obtain ⟨v, hv⟩ : ∃ v : Nat, goal = (v : Int) := ⟨goal.toNat, by omega⟩
  rw [hv]
  rfl
 have hmn : mn (((lN l0).length : Nat) : Int) 8 = ((min l0.length 8 : Nat) : Int) := by
  rw [um]; unfold mn; split <;> omega
 have hcut : ((lN l0).drop 0).take ((mn (((lN l0).length : Nat) : Int) 8).toNat - 0) = lN (l0.take 8) := by
  rw [List.drop_zero, Nat.sub_zero, hmn, z5M, Int.toNat_natCast]
  rcases Nat.le_total l0.length 8 with q | q
  ·rw [Nat.min_eq_left q, List.take_of_length_le (by rw [um]; omega), List.take_of_length_le (by rw [um]; omega)]
  ·rw [Nat.min_eq_right q]
 have k := k0.take 8
 have h8 : (l0.take 8).length ≤ 16 := by rw [List.length_take]; omega
 obtain ⟨f1, f2⟩ := zd4 m (l0.take 8) g
 have hfl : (z2k m (l0.take 8) g).length ≤ 4096 := by
  have := k.wl.1
  unfold z2k
  cases e : XL (fun k => rfN m (l0.take 8) g k [] 0) (l0.take 8).length 0 with
  | none => exact this
  | some w =>
   obtain ⟨j, _, j2, q⟩ := XK e
   have hrf := zau (m := m) (l := l0.take 8) (g := g) j [] 0 (by simp) (by omega)
   rw [q] at hrf
   obtain ⟨ix, q1, q2⟩ := Option.map_eq_some_iff.1 hrf.symm
   have := (z0N j _ _ q1).1
   show w.length ≤ 4096
   rw [← q2]
   simp
   omega
 have hWF : WL m (z2k m (l0.take 8) g) := z9n k.vm k.wl f2 hfl
 have hsame := z7C (lN (z2k m (l0.take 8) g)) (lN (z2k m (l0.take 8) g)) (by rw [um]; omega) (fun z hz => by
  obtain ⟨u, hu, rfl⟩ := List.mem_map.1 hz
  rw [UE]
  have := (hWF.2 u hu).2
  omega)
 unfold v6
 rw [e, oB]
 simp only
 rw [hcut, gdT (by rw [hmn, um]; omega), gdT (by decide), hm, z4i k.vm k.rows k.kk3 k.gg k.wl h8 hg k.ch, oB, show ((0 : Int) == 0) = true from rfl, cond_true, z4g k.vm k.rows k.kk3 k.gg k.wl h8 hg, oB, hsame, oB, decide_eq_true rfl, cond_true, beq_self_eq_true, cond_true, Wi k.vm k.gg hWF hg, oB, Wi k.vm k.gg k.wl hg, oB]
 have : ((((((GL m g).map (toI g)).filter fun x => !decide (YF m (z2k m (l0.take 8) g) x)).length : Nat) : Int) == (((((GL m g).map (toI g)).filter fun x => !decide (YF m (l0.take 8) x)).length : Nat) : Int)) = true := by
  have f1' : (((GL m g).map (toI g)).filter fun x => !decide (YF m (z2k m (l0.take 8) g) x)).length = (((GL m g).map (toI g)).filter fun x => !decide (YF m (l0.take 8) x)).length := f1
  rw [f1']
  simp
 rw [this, cond_true, z1M]
 rfl
def z05 (w : World) : zn := fun b o => yc w.heap b o
variable {v : Value}
theorem z6h {w : World} {a : Addr}  (h : w.cell? a = some v) : a.spot = none ∧ yc w.heap a.block a.off = some v := by
 unfold World.cell? at h
 unfold yc
 split at h
 ·rename_i c ty fr he
  rw [he]
  split at h
  ·cases h
  ·rename_i hs
   exact ⟨by simpa using hs, h⟩
 ·cases h
variable {cs : List Value}{S : zn}{k : IntKind}{t : Nat}
section
variable {H : Type} {enc : TypeId × Value → H} {P : Program} {w : World} {base : Nat} {spare : Nat → Bool} {held : Bool}
theorem z6f {a : Addr} {n : Nat}  (h : w.cells? base a n = some cs) (hn : 0 < n) : a.spot = none ∧ cs.length = n ∧ Ky (z05 w) a.block a.off cs := by
 obtain ⟨_, h2, h3⟩ := World.cells?_some h
 have h0 : a.spot = none := by
  have h4 := h3 0 hn
  cases hc : cs[0]? with
  | none => rw [List.getElem?_eq_none_iff] at hc; omega
  | some v =>
   rw [hc] at h4
   have := (z6h h4).1
   simpa [Addr.add] using this
 refine ⟨h0, h2, fun j v hj => ?_⟩
 have hlt := (List.getElem?_eq_some_iff.1 hj).1
 have h4 := h3 j (by omega)
 rw [hj] at h4
 have q := (z6h h4).2
 unfold Addr.add at q
 split at q
 ·rename_i e; subst e; exact q
 ·exact q
theorem z1w : ∀ {bs : List A} {cs : List Value} {a : A} {c : List Value}, yb S bs cs → Rep S a c → yb S (bs ++ [a]) (cs ++ c)
 | [], cs, a, c, h1, h2 => by
  simp only [yb] at h1
  subst h1
  simp only [List.nil_append, yb]
  exact ⟨c, [], by simp, h2, rfl⟩
 | x :: bs, cs, a, c, h1, h2 => by
  simp only [yb] at h1
  obtain ⟨c1, c2, rfl, r1, r2⟩ := h1
  simp only [List.cons_append, yb]
  exact ⟨c1, c2 ++ c, by simp, r1, z1w r2 h2⟩
theorem z7S {b o : Nat} {c1 c2 : List Value} (h1 : Ky S b o c1) (h2 : Ky S b (o + c1.length) c2) : Ky S b o (c1 ++ c2) := by
 intro j v hj
 rcases Nat.lt_or_ge j c1.length with q | q
 ·rw [List.getElem?_append_left q] at hj
  exact h1 j v hj
 ·rw [List.getElem?_append_right q] at hj
  have := h2 _ _ hj
  rwa [show o + c1.length + (j - c1.length) = o + j by omega] at this
theorem Jc {α : Type} {t e sz : Nat} (f : α → A) (ok : α → Prop) (ht : P.underlying t = some (.slice e)) (hsz : P.cellsOf e = sz) (h0 : 0 < sz) (hf : ∀ a, (f a).size = sz)
    (hel : ∀ n cs x, DataW.trod enc P w base spare held n e cs = some x → ∃ a, ok a ∧ Rep (z05 w) (f a) cs)
    {fuel : Nat} {cs : List Value} {x : DataW H × List MemPlace} (h : DataW.trod enc P w base spare held fuel t cs = some x) : ∃ l : List α, (∀ a ∈ l, ok a) ∧ Rep (z05 w) (.sl sz false (l.map f)) cs := by
  rcases DataW.trod_slice ht h with ⟨rfl, _⟩ | ⟨a, len, cap, elems, rest, n, _, rfl, _, _, hlc, _, hlen, hall, _, _⟩
  · refine ⟨[], by simp, ?_⟩
    simp only [Rep, List.map_nil, List.length_nil]
    exact ⟨none, 0, rfl, by simp, Nat.le_refl _, by simp, .inl trivial⟩
  · have key : ∀ k, k ≤ len → ∃ (l : List α) (cells : List Value), l.length = k ∧ (∀ a ∈ l, ok a) ∧ yb (z05 w) (l.map f) cells ∧ cells.length = k * sz ∧ (0 < k → a.spot = none) ∧ Ky (z05 w) a.block a.off cells := by
      intro k
      induction k with
      | zero => intro _; exact ⟨[], [], rfl, by simp, by simp [yb], by simp, by simp, fun j v h => by simp at h⟩
      | succ k ih =>
        intro hk
        obtain ⟨l, cells, q1, q2, q3, q4, q5, q6⟩ := ih (by omega)
        have hk' := hall k (by omega)
        have hsome : elems[k]? = some elems[k] := List.getElem?_eq_getElem (by omega)
        rw [hsome, Option.bind_eq_some_iff, hsz] at hk'
        obtain ⟨c, hc, htr⟩ := hk'
        obtain ⟨y, hy, hr⟩ := hel _ _ _ htr
        obtain ⟨g1, g2, g3⟩ := z6f hc h0
        refine ⟨l ++ [y], cells ++ c, by simp [q1], ?_, ?_, ?_, ?_, ?_⟩
        · intro z hz
          rcases List.mem_append.1 hz with q | q
          · exact q2 z q
          · simp only [List.mem_cons, List.not_mem_nil, or_false] at q; subst q; exact hy
        · rw [List.map_append]; exact z1w q3 hr
        · rw [List.length_append, q4, g2, Nat.succ_mul]
        · intro _
          rcases Nat.eq_zero_or_pos k with rfl | hk0
          · simpa [Addr.add] using g1
          · exact q5 hk0
        · refine z7S q6 ?_
          rw [q4]
          unfold Addr.add at g3
          split at g3
          · rename_i e0
            rw [e0, Nat.add_zero]
            exact g3
          · exact g3
    obtain ⟨l, cells, q1, q2, q3, q4, q5, q6⟩ := key len (Nat.le_refl _)
    refine ⟨l, q2, ?_⟩
    simp only [Rep, List.length_map]
    refine ⟨some a, cap, by rw [q1], by simp, by omega, ?_, ?_⟩
    · intro y hy
      obtain ⟨z, _, rfl⟩ := List.mem_map.1 hy
      exact hf z
    · rcases Nat.eq_zero_or_pos len with rfl | hl
      · left; rw [List.length_eq_zero_iff.1 q1]; rfl
      · right
        refine ⟨a.block, a.off, cells, ?_, q3, q6⟩
        have := q5 hl
        obtain ⟨b, o, s⟩ := a
        simp only at this
        subst this
        rfl
theorem z5Q {lo hi : Int} (ht : P.underlying t = some (.int k)) (hlo : k.min = lo) (hhi : k.max = hi) {fuel : Nat}  {x : DataW H × List MemPlace} (h : DataW.trod enc P w base spare held fuel t cs = some x) :
  ∃ n : Int, (lo ≤ n ∧ n ≤ hi) ∧ cs = [.int k n] ∧ Rep (z05 w) (.atom (.int k n)) cs := by
 obtain ⟨n, rfl, _, hw⟩ := DataW.trod_int ht h
 simp only [Lit.wf, Bool.and_eq_true, decide_eq_true_eq, hlo, hhi] at hw
 exact ⟨n, hw, rfl, by simp only [Rep]; exact ⟨trivial, rfl⟩⟩
theorem z8k (ht : P.underlying t = some .bool) {fuel : Nat}  {x : DataW H × List MemPlace} (h : DataW.trod enc P w base spare held fuel t cs = some x) :
  ∃ b : Bool, Rep (z05 w) (.atom (.bool b)) cs := by
 obtain ⟨b, rfl, _⟩ := DataW.trod_bool ht h
 exact ⟨b, by simp only [Rep]; exact ⟨trivial, rfl⟩⟩
theorem Vl {fs : List Field} (ht : P.underlying t = some (.struct ⟨fs⟩)) {fuel : Nat}  {x : DataW H × List MemPlace} (h : DataW.trod enc P w base spare held fuel t cs = some x) :
  cs.length = P.cellsOf t ∧ ∀ (i : Nat) (f : Field), fs[i]? = some f → ∃ n y, DataW.trod enc P w base spare held n f.type ((cs.drop f.offset).take (P.cellsOf f.type)) = some y := by
 obtain ⟨xs, n, _, _, hl, hxl, hall⟩ := DataW.trod_struct ht h
 refine ⟨hl, fun i f hf => ?_⟩
 have hlt := (List.getElem?_eq_some_iff.1 hf).1
 have := hall i f (by simpa using hf)
 rw [List.getElem?_eq_getElem (by rw [hxl]; simpa using hlt)] at this
 exact ⟨n, _, this⟩
end
variable {a : A}
theorem Zs {bs : List A}  {n : Nat} (h1 : Rep S a (cs.take n)) (h2 : yb S bs (cs.drop n)) : yb S (a :: bs) cs := by
 simp only [yb]
 exact ⟨cs.take n, cs.drop n, (List.take_append_drop n cs).symm, h1, h2⟩
variable {P : Program}
section
open Go Go.ChangeShapes Go.WideShapes Go.ChangeAt Go.RowKit
theorem z5n {P : Program} {H : Type} {enc : TypeId × Value → H} {f : Func} {s : ChangeSpec} {apart fresh handsOn again : Bool} {W W' : World} {args : Array Value} {v : Value} {ds : List (DataW H)} {pa : List MemPlace}
  (hvar : s.vars = []) (hvars2 : (s.fn H (ds ++ [])).vars = []) (hW : DataW.Whole enc P f.params.toList s.vars apart W args.toList ds [] (pa ++ [])) (hb : Below W.heap.size W W')
  (hres : ∀ (b : Nat) (sp : Nat → Bool) (hd : Bool), DataW.TrodAll enc P W' b sp hd f.resultTypes.toList (v.resultList f.resultTypes.size) (s.fn H (ds ++ [])).results [])
  (hargs : ∀ sp : Nat → Bool, (∀ p ∈ pa ++ [], sp p.block = true) → DataW.TrodAll enc P W' 0 sp true f.params.toList args.toList (s.fn H (ds ++ [])).args pa)
  (hok : ∀ (j : Nat) (t : TypeId) (r : Value), f.resultTypes[j]? = some t → (v.resultList f.resultTypes.size)[j]? = some r → Value.okWide P W' .any 0 t r) :
  s.post enc P f apart fresh handsOn again W args v W' := by
 have hlt : ∀ p ∈ pa ++ [], p.block < W.heap.size := fun p hp => by simpa using hW.lt p hp
 have hvr : ∀ sp : Nat → Bool, DataW.TrodVars enc P W' sp s.vars (s.fn H (ds ++ [])).vars [] := fun sp => by rw [hvar, hvars2]; rfl
 refine ⟨ds, [], pa ++ [], [], pa, [], hW, hres _ _ _, hargs _ (fun p hp => by simpa using hlt p hp), hvr _, World.keptBut_mono (fun _ q => q.elim) (hb.frame fun _ => False), fun _ => ?_⟩
 obtain ⟨_, _, _, _, _, hz, hn⟩ := hW
 refine ⟨hok, _, _, ([] ++ pa) ++ [], ⟨[] ++ pa, [], trodAll_append (hargs _ (fun _ _ => rfl)) (hres _ _ _), hvr _, rfl, ?_, ?_⟩, ?_⟩
 ·intro b off hp
  have hp' : MemPlace.cell b off ∈ pa ++ [] := by simpa using hp
  rw [hb.frozen (p := ⟨b, off, none⟩) (hlt _ hp')]
  exact hz b off hp'
 ·intro ha
  simpa using hn ha
 ·intro p hp _
  simpa using hp
end
theorem z7h {k : Nat} {α ρ : Type} {enc : α → List A} {encR : ρ → A} {F : α → Option ρ} {gives : List Bool} {inj : ∀ x y, enc x = enc y → x = y} (h : (spF k enc encR F gives inj).Ok P) {x : α} {r : ρ} (hr : F x = some r) : Xn P k (enc x) (encR r) := by
 have := h x ⟨r, hr⟩
 simpa only [spF, hr] using this
variable {fs : Array Field}
section
variable {P : Program} {w : World} {r : Reach} {base t : Nat} {v : Value}
theorem z4I (h : ∀ cs, v ≠ .agg cs) : v = v.cells.toList.headD undef := by
 cases v <;> first | rfl | exact (h _ rfl).elim
theorem z9u (hu : P.underlying t = some (.int k)) (h : Value.okWide P w r base t v) : v = v.cells.toList.headD undef := by
 refine z4I fun cs e => ?_
 subst e
 unfold Value.okWide at h
 rw [hu] at h
 simp only [Cell.okWide, hu, Cell.ok] at h
theorem z48 (hu : P.underlying t = some (.struct fs)) (h : Value.okWide P w r base t v) : v = .agg v.cells.toList.toArray := by
 unfold Value.okWide at h
 rw [hu] at h
 obtain ⟨cs, rfl, _⟩ := h
 rfl
theorem z7z (hu : P.underlying t = some (.int k)) (hr : Rep S a v.cells.toList) (h : Value.okWide P w r base t v) (ha : a.isAgg = false) : wJ S a v := ⟨_, hr, by cases a <;> first | exact z9u hu h | cases ha⟩
theorem z2y (hu : P.underlying t = some (.struct fs)) (hr : Rep S a v.cells.toList) (h : Value.okWide P w r base t v) (ha : a.isAgg = true) : wJ S a v := ⟨_, hr, by cases a <;> first | exact z48 hu h | cases ha⟩
theorem z82 {h : Array Obj}  {F : List Nat} (q : Has S h (.atom (.bool true)) v F) : v = .bool true := by
 rcases q with ⟨q, _⟩ | ⟨cs, q, _, rfl⟩
 ·rw [(zr.1 q).1]
 ·simp only [zJ, Rep] at q
  obtain ⟨⟨rfl, _⟩, _⟩ := q
  rfl
end
open Go.Proofs
section
variable {H : Type} {enc : TypeId × Value → H} {w : World} {base : Nat} {spare : Nat → Bool} {held : Bool}
theorem z9d : Tryz.prog.cellsOf 5 = 1 := by kernel_rfl
theorem rd5 {fuel : Nat}  {x : DataW H × List MemPlace} (h : DataW.trod enc Tryz.prog w base spare held fuel 5 cs = some x) : ∃ a : Int, Ok5 a ∧ Rep (z05 w) ((eI .u8) a) cs := by
 obtain ⟨n, h1, _, h2⟩ := z5Q Tryz.underlying5 (lo := 0) (hi := 255) rfl rfl h
 exact ⟨n, h1, h2⟩
theorem zdb : Tryz.prog.cellsOf 4 = 1 := by kernel_rfl
theorem rd4 {fuel : Nat}  {x : DataW H × List MemPlace} (h : DataW.trod enc Tryz.prog w base spare held fuel 4 cs = some x) : ∃ a : Bool, Ok4 a ∧ Rep (z05 w) (eB a) cs := by
 obtain ⟨n, h2⟩ := z8k Tryz.underlying4 h
 exact ⟨n, trivial, h2⟩
theorem z8d : Tryz.prog.cellsOf 103 = 1 := by kernel_rfl
theorem zfl {fuel : Nat}  {x : DataW H × List MemPlace} (h : DataW.trod enc Tryz.prog w base spare held fuel 103 cs = some x) : ∃ a : Int, zbq a ∧ Rep (z05 w) ((eI .u16) a) cs := by
 obtain ⟨n, h1, _, h2⟩ := z5Q Tryz.underlying103 (lo := 0) (hi := 65535) rfl rfl h
 exact ⟨n, h1, h2⟩
theorem zbc : Tryz.prog.cellsOf 22 = 1 := by kernel_rfl
theorem zic {fuel : Nat}  {x : DataW H × List MemPlace} (h : DataW.trod enc Tryz.prog w base spare held fuel 22 cs = some x) : ∃ a : List Int, zhI a ∧ Rep (z05 w) ((eSl 1 false (eI .u16)) a) cs := by
 exact Jc (eI .u16) zbq Tryz.underlying22 z8d (by omega) (fun _ => rfl) (fun _ _ _ q => zfl q) h
theorem z6g : Tryz.prog.cellsOf 24 = 5 := by kernel_rfl
theorem zib {fuel : Nat}  {x : DataW H × List MemPlace} (h : DataW.trod enc Tryz.prog w base spare held fuel 24 cs = some x) : ∃ a : ym, zhH a ∧ Rep (z05 w) ((uX (eI .u8) (eI .u8) (eI .u8) eB (eSl 1 false (eI .u16))) a) cs := by
 obtain ⟨hl, hf⟩ := Vl Tryz.underlying24 h
 rw [z6g] at hl
 obtain ⟨_, _, q0⟩ := hf 0 _ rfl
 obtain ⟨_, _, q1⟩ := hf 1 _ rfl
 obtain ⟨_, _, q2⟩ := hf 2 _ rfl
 obtain ⟨_, _, q3⟩ := hf 3 _ rfl
 obtain ⟨_, _, q4⟩ := hf 4 _ rfl
 simp only [zbc, zdb, z9d] at q0 q1 q2 q3 q4
 obtain ⟨a0, k0, r0⟩ := rd5 q0
 obtain ⟨a1, k1, r1⟩ := rd5 q1
 obtain ⟨a2, k2, r2⟩ := rd5 q2
 obtain ⟨a3, k3, r3⟩ := rd4 q3
 obtain ⟨a4, k4, r4⟩ := zic q4
 refine ⟨⟨a0, a1, a2, a3, a4⟩, ⟨k0, k1, k2, k3, k4⟩, ?_⟩
 show Rep (z05 w) (.agg [(eI .u8) a0, (eI .u8) a1, (eI .u8) a2, eB a3, (eSl 1 false (eI .u16)) a4]) cs
 simp only [Rep]
 refine Zs (n := 1) (by simpa [List.drop_drop] using r0) (Zs (n := 1) (by simpa [List.drop_drop] using r1) (Zs (n := 1) (by simpa [List.drop_drop] using r2) (Zs (n := 1) (by simpa [List.drop_drop] using r3) (Zs (n := 1) (by simpa [List.drop_drop] using r4) ?_))))
 simp only [List.drop_drop, yb]
 exact List.drop_eq_nil_of_le (by omega)
theorem zb9 : Tryz.prog.cellsOf 64 = 1 := by kernel_rfl
theorem zi8 {fuel : Nat}  {x : DataW H × List MemPlace} (h : DataW.trod enc Tryz.prog w base spare held fuel 64 cs = some x) : ∃ a : List Int, zgh a ∧ Rep (z05 w) ((eSl 1 false (eI .u8)) a) cs := by
 exact Jc (eI .u8) Ok5 Tryz.underlying64 z9d (by omega) (fun _ => rfl) (fun _ _ _ q => rd5 q) h
theorem zbb : Tryz.prog.cellsOf 25 = 1 := by kernel_rfl
theorem zia {fuel : Nat}  {x : DataW H × List MemPlace} (h : DataW.trod enc Tryz.prog w base spare held fuel 25 cs = some x) : ∃ a : List (List Int), zhG a ∧ Rep (z05 w) ((eSl 1 false (eSl 1 false (eI .u8))) a) cs := by
 exact Jc (eSl 1 false (eI .u8)) zgh Tryz.underlying25 zb9 (by omega) (fun _ => rfl) (fun _ _ _ q => zi8 q) h
theorem zba : Tryz.prog.cellsOf 27 = 6 := by kernel_rfl
theorem zi9 {fuel : Nat}  {x : DataW H × List MemPlace} (h : DataW.trod enc Tryz.prog w base spare held fuel 27 cs = some x) : ∃ a : wG, zhF a ∧ Rep (z05 w) ((uW (uX (eI .u8) (eI .u8) (eI .u8) eB (eSl 1 false (eI .u16))) (eSl 1 false (eSl 1 false (eI .u8)))) a) cs := by
 obtain ⟨hl, hf⟩ := Vl Tryz.underlying27 h
 rw [zba] at hl
 obtain ⟨_, _, q0⟩ := hf 0 _ rfl
 obtain ⟨_, _, q1⟩ := hf 1 _ rfl
 simp only [z6g, zbb] at q0 q1
 obtain ⟨a0, k0, r0⟩ := zib q0
 obtain ⟨a1, k1, r1⟩ := zia q1
 refine ⟨⟨a0, a1⟩, ⟨k0, k1⟩, ?_⟩
 show Rep (z05 w) (.agg [(uX (eI .u8) (eI .u8) (eI .u8) eB (eSl 1 false (eI .u16))) a0, (eSl 1 false (eSl 1 false (eI .u8))) a1]) cs
 simp only [Rep]
 refine Zs (n := 5) (by simpa [List.drop_drop] using r0) (Zs (n := 1) (by simpa [List.drop_drop] using r1) ?_)
 simp only [List.drop_drop, yb]
 exact List.drop_eq_nil_of_le (by omega)
end
end Go.Own
namespace Go.Proofs.YtkelmheleahmpaaGreatDoor.coveragesFewest
open Go Go.ChangeShapes Go.WideShapes Go.ChangeAt Go.RowKit
theorem own : ownKnob Tryz.prog.godebug = none := by kernel_rfl
theorem zaO : laidOutB Tryz.prog = true := by kernel_rfl
section
variable {H : Type} {enc : TypeId × Value → H} {W : World}
set_option maxRecDepth 100000 in
theorem zhT {base : Nat} {v0 : Value} {d0 : DataW H} {p0 : List MemPlace} {v1 : Value} {d1 : DataW H} {p1 : List MemPlace} (h0 : DataW.Trod enc Tryz.prog W 0 (fun _ => true) true 27 v0 d0 p0) (h1 : DataW.Trod enc Tryz.prog W 0 (fun _ => true) true 5 v1 d1 p1) (k0 : Value.okWide Tryz.prog W .any base (27 : Nat) v0) (k1 : Value.okWide Tryz.prog W .any base (5 : Nat) v1) :
  Calls Tryz.prog 5 #[v0, v1] W fun e w' => e = .returned (.bool true) ∧ Go.Own.ZN (fun k => W.heap.size ≤ k) W w' := by
 obtain ⟨n0, h0⟩ := h0
 obtain ⟨x0, o0, r0⟩ := Go.Own.zi9 h0
 obtain ⟨n1, h1⟩ := h1
 obtain ⟨x1, o1, r1⟩ := Go.Own.rd5 h1
 have q := (Go.Own.z7h (Go.Own.z4p Go.Own.zdH List.mem_cons_self : Go.Own.vA.Ok Tryz.prog) (x := (x0, x1)) (r := true) (Go.Own.z7Y o0 o1)).2 (Go.Own.z05 W) W [v0, v1] [] ⟨fun _ _ _ h => h, fun g x e => by cases e⟩ ?_ (by simp)
 ·refine Calls.mono q ?_
  rintro e w' ⟨v, S', F', rfl, hk, _, _, _, hr, _, _⟩
  refine ⟨?_, hk.mono (by rintro k (h | h) <;> simp_all)⟩
  rw [Go.Own.z82 hr]
 ·refine Go.Own.ZL ?_
  have g0 : Go.Own.wJ (Go.Own.z05 W) ((Go.Own.uW (Go.Own.uX (Go.Own.eI .u8) (Go.Own.eI .u8) (Go.Own.eI .u8) Go.Own.eB (Go.Own.eSl 1 false (Go.Own.eI .u16))) (Go.Own.eSl 1 false (Go.Own.eSl 1 false (Go.Own.eI .u8)))) x0) v0 := Go.Own.z2y (t := (27 : Nat)) Tryz.underlying27 r0 k0 rfl
  have g1 : Go.Own.wJ (Go.Own.z05 W) ((Go.Own.eI .u8) x1) v1 := Go.Own.z7z (t := (5 : Nat)) Tryz.underlying5 r1 k1 rfl
  exact ⟨g0, g1, trivial⟩
end
set_option maxRecDepth 100000 in
theorem z87 (os : Os) (args : Array Value) : laidMetH Tryz.prog Rows.coveragesFewestRow.laid ((World.doorLaid Tryz.prog 400 os).forCall (fun _ _ => 0) ⟨#[], args, []⟩).memory :=
 laidMetH_of_parts3 (fuel := 8) (laidMet_of_run' 8 (by kernel_rfl) (by kernel_rfl)) (by kernel_rfl) (by kernel_rfl)
set_option maxRecDepth 100000 in
theorem zcH (os : Os) (started : os.Started) (H : Type) (enc : TypeId × Value → H) :
  ReturnsInHanded {} Tryz.checked os 5 .any (fun w args => (Rows.coveragesFewestSpec.pre enc Tryz.prog Tryz.f5 Rows.coveragesFewestRow.domain false w args ∧ laidMetH Tryz.prog Rows.coveragesFewestRow.laid w) ∧ sizedMet enc Tryz.prog Tryz.f5 (OpenSpec.ofChange Rows.coveragesFewestSpec) false w args) (Rows.coveragesFewestSpec.post enc Tryz.prog Tryz.f5 false true false false) := by
 refine returnsInHanded_of_change_and (C := Tryz.checked) (X := fun w _ => laidMetH Tryz.prog Rows.coveragesFewestRow.laid w) (fun _ _ _ hh h => h.of_heap hh) own started (by kernel_rfl) Tryz.func5
  (ChangeSpec.witness_shaped (enc := enc) (C := Tryz.checked) (os := os) (X := fun w _ => laidMetH Tryz.prog Rows.coveragesFewestRow.laid w) false (World.doorLaid Tryz.prog 400 os) #[.agg #[.int .u8 0, .int .u8 0, .int .u8 0, .bool false, .slice none 0 0, .slice none 0 0], .int .u8 0] 8 rfl (World.shaped_of_RefB (by kernel_rfl) (by kernel_rfl)) (by kernel_rfl) (by kernel_rfl) (by kernel_rfl) (z87 os _)) ?_
 intro W base args ds gs before hval0 hW hcnd _ hL _
 have hval : ∀ (j : Nat) t v, Tryz.f5.params[j]? = some t → args[j]? = some v → Value.okWide Tryz.prog W .any base t v := hval0
 have hW' := hW
 obtain ⟨p, q, hA0, hV, rfl, hfz, hnd⟩ := hW
 have hA : DataW.TrodAll enc Tryz.prog W 0 (fun _ => true) true Tryz.f5.params.toList args.toList ds p := hA0
 rw [Tryz.params5] at hA hval
 obtain ⟨v0, v1, d0, d1, p0, p1, rfl, rfl, rfl, h0, h1⟩ := trodAll_two hA
 obtain ⟨rfl, rfl⟩ := trodVars_none hV
 clear hA0 hval0
 refine (zhT h0 h1 (hval 0 (27 : Nat) v0 rfl rfl) (hval 1 (5 : Nat) v1 rfl rfl)).mono fun e W' ⟨he, hk⟩ => ?_
 subst he
 have hb : Below W.heap.size W W' := ⟨hk.os, hk.tape, hk.output, hk.size, fun k q => hk.block k (by omega)⟩
 have hlt : ∀ x ∈ p0 ++ p1, x.block < W.heap.size := fun x hx => by simpa using hW'.lt x (by simpa using hx)
 refine ⟨_, rfl, Go.Own.z5n rfl rfl hW' hb (fun _ _ _ => trodAll_cons_mk (shut_bool Tryz.underlying4 _) trodAll_mk0) (fun sp hsp => ?_) (ok_one (by kernel_rfl) rfl (okWide_bool_mk Tryz.underlying4 _))⟩
 have st : ∀ {t : Nat} {v : Value} {d : DataW H} {p' : List MemPlace}, DataW.Trod enc Tryz.prog W 0 (fun _ => true) true t v d p' → Tryz.prog.readableRec t = true → t < Tryz.prog.types.size → (∀ x ∈ p', x ∈ p0 ++ p1) → DataW.Trod enc Tryz.prog W' 0 sp true t v d p' := by
  intro t v d p' hd h1 h2 hp
  exact WideElems.Trod_stays zaO h1 h2 hd (fun x hx => hb.same (hlt x (hp x hx))) (fun x hx => hsp x (by simpa using hp x hx))
 have := trodAll_mk2 (st h0 (by kernel_rfl) (of_decide_eq_true (by kernel_rfl)) (fun x hx => by simp [hx])) (st h1 (by kernel_rfl) (of_decide_eq_true (by kernel_rfl)) (fun x hx => by simp [hx]))
 rw [Tryz.params5]
 exact this
theorem Yi : Rows.coveragesFewestRow.holds Tryz.pinned (OpenSpec.ofChange Rows.coveragesFewestSpec) :=
 OpenClaim.holds_of_wide 5 Tryz.f5 rfl rfl rfl rfl rfl rfl rfl ⟨rfl, rfl, rfl, rfl, rfl⟩ rfl rfl rfl rfl rfl (by kernel_rfl) Tryz.func5 (by kernel_rfl)
  (of_decide_eq_true (by kernel_rfl)) (by unfold Func.isWrapper; first | (rw [if_pos (by decide +kernel)]; kernel_rfl) | (rw [if_neg (by decide +kernel)]; exact ⟨rfl, rfl⟩))
  (fun os started H enc _ => zcH os started H enc)
theorem proved : Rows.CoveragesFewestCardSaid :=
 Claim7.holds_tied_plain_at .later [] [.data, .data, .data] true (true, "a011b7cdf67d6ea9b3b85658e15c2d97abbd214391bbb37e485bdd7fc2c81f04") false
  Yi (fun _ h => by cases h) (by kernel_rfl) (fun _ h => by cases h) coveragesFewest_row_tie rfl ⟨rfl, rfl⟩ (by kernel_rfl) rfl
  (fun f fn hf hfn => by
   obtain rfl : f = 5 := Option.some.inj ((show Tryz.prog.funcNamed "gauntlet/gauntletlaw40.CoveragesFewest" = some 5 by kernel_rfl).symm.trans hf) |>.symm
   obtain rfl : fn = Tryz.f5 := (Option.some.inj (Tryz.func5.symm.trans hfn)).symm
   exact ⟨by kernel_rfl, fun j t ht => by
    rw [Tryz.params5] at ht
    have hm : t ∈ [27, 5] := by simpa using Array.mem_of_getElem? ht
    have hall : ([27, 5].all fun u => !Tryz.prog.wantsStandIn u) = true := by kernel_rfl
    exact (show Tryz.prog.wantsStandIn t = false by simpa using List.all_eq_true.1 hall t hm)⟩)
  (by kernel_rfl)
#print axioms proved
end Go.Proofs.YtkelmheleahmpaaGreatDoor.coveragesFewest
