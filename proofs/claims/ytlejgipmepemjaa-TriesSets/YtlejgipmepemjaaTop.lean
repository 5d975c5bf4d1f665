/- -/
import Derived.Test.YtlejgipmepemjaaPartG
import Derived.Test.YtlejgipmepemjaaPartE
import Derived.Test.YtlejgipmepemjaaPartB
import Derived.OpenShut
import Derived.ChangeShapes
import Derived.Test.YtlejgipmepemjaaPartC
import Derived.WalkKit
import Derived.ProofKit
import Derived.Carry
import Derived.Test.YtlejgipmepemjaaRows
import Derived.Test.YtlejgipmepemjaaChecked
set_option linter.unusedVariables false
set_option linter.unusedSimpArgs false
namespace Go.Own
set_option linter.unusedVariables false
theorem fs_mem (w : List Int) : ∀ (l : List (List Int)) (k : Nat), firstS (fun _ x => if x = w then some true else none) l k = if w ∈ l then some true else none
 | [], _ => rfl
 | x :: l, k => by
  by_cases h : x = w
  ·simp [firstS, h]
  ·simp only [firstS, if_neg h, fs_mem w l (k + 1), List.mem_cons]
   by_cases h2 : w ∈ l
   ·simp [h2]
   ·have : ¬ w = x := fun e => h e.symm
    simp [h2, this]
theorem rHas_eq (l : List (List Int)) (w : List Int) (hl : l.length < 4611686018427387904) (hw : w.length < 4611686018427387904) : ref12_Has l w = some (decide (w ∈ l)) := by
 unfold ref12_Has
 rw [bdT (loop_list l hl (step := fun s => ref12_Has_L2 l w s) (fun _ x => if x = w then some true else none) ?_ ?_), fs_mem]
 ·by_cases h : w ∈ l
  ·simp [h, oS]
  ·simp [h, oS, ref12_Has_J1]
 ·intro i x hx
  have hi : i < l.length := (List.getElem?_eq_some_iff.1 hx).1
  have hq : decide ((i : Int) < (l.length : Int)) = true := by simpa using hi
  unfold ref12_Has_L2
  simp only [hq, cond_true, idx_some hx, Option.bind_some, compare_eq x w (fun e => by omega)]
  by_cases h : x = w
  ·subst h; simp [cmpW_self, nS]
  ·have : (cmpW x w == 0) = false := by simp; exact fun q => h (cmpW_eq q)
   simp [this, h, nS]
 ·unfold ref12_Has_L2; simp
theorem u64_in {x : Int} (h1 : 0 ≤ x) (h2 : x ≤ 9223372036854775807) : IntKind.u64.wrap x = x := by
 simp only [IntKind.wrap, IntKind.bits, IntKind.signed]
 simp
 omega
theorem in_eq {l : List (List Int)} (hs : SW l) (hl : l.length ≤ 1000000) (hw : ∀ x ∈ l, x.length < 4611686018427387904) (w : List Int) : tries_in l w = some (decide (w ∈ l)) := by
 unfold tries_in slices_BinarySearchFuncW_int_int_int
 apply Ret.eq
 rw [ret_bind, ret_bind]
 refine Ret.mono (ret_loop (fun q : Int × Int => ∃ i j : Nat, q = ((i : Int), (j : Int)) ∧ i ≤ j ∧ j ≤ l.length ∧ (∀ m x, m < i → l[m]? = some x → cmpW x w < 0) ∧ ∀ m x, j ≤ m → l[m]? = some x → ¬ cmpW x w < 0) (fun q => (q.2 - q.1).toNat) (R := fun t => ∃ i : Nat, t = (i : Int) ∧ i ≤ l.length ∧ (∀ m x, m < i → l[m]? = some x → cmpW x w < 0) ∧ ∀ m x, i ≤ m → l[m]? = some x → ¬ cmpW x w < 0) ?_ ?_ ?_) ?_
 ·exact ⟨0, l.length, rfl, Nat.zero_le _, Nat.le_refl _, fun m x h => by omega, fun m x h hx => by have := (List.getElem?_eq_some_iff.1 hx).1; omega⟩
 ·simp only; omega
 ·rintro _ ⟨i, j, rfl, g1, g2, g3, g4⟩
  show Ret (slices_BinarySearchFuncW_int_int_int_L2 l w (i : Int) (j : Int)) _
  unfold slices_BinarySearchFuncW_int_int_int_L2
  rw [ret_bif]
  refine ⟨fun hc => ?_, fun hc => ?_⟩
  ·have hij : i < j := by simpa using hc
   have hh : w64 (Int.fdiv (IntKind.u64.wrap (w64 ((i : Int) + (j : Int)))) (2 ^ 1)) = (((i + j) / 2 : Nat) : Int) := by
    rw [w64_in (x := (i : Int) + (j : Int)) (by omega) (by omega), u64_in (by omega) (by omega)]
    have : Int.fdiv ((i : Int) + (j : Int)) (2 ^ 1) = (((i + j) / 2 : Nat) : Int) := by
     rw [show ((i : Int) + (j : Int)) = ((i + j : Nat) : Int) by omega, show ((2 : Int) ^ 1) = ((2 : Nat) : Int) by rfl]
     rw [Int.fdiv_eq_ediv_of_nonneg _ (by omega)]
     rfl
    rw [this, w64_in (by omega) (by omega)]
   rw [hh]
   have hm : (i + j) / 2 < l.length := by omega
   have hx : l[(i + j) / 2]? = some l[(i + j) / 2] := List.getElem?_eq_getElem hm
   rw [idx_some hx]
   simp only [Option.bind_some]
   rw [Compare_eq _ _ (hw _ (List.getElem_mem hm))]
   simp only [Option.bind_some]
   by_cases hc2 : cmpW l[(i + j) / 2] w < 0
   ·simp only [hc2, decide_true, cond_true]
    rw [w64_in (by omega) (by omega), ret_some]
    refine ⟨⟨(i + j) / 2 + 1, j, by simp, by omega, g2, fun m x h hmx => ?_, g4⟩, by simp only; omega⟩
    rcases Nat.lt_or_ge m ((i + j) / 2) with q | q
    ·have h1 := (List.pairwise_iff_getElem.1 hs) m ((i + j) / 2) (List.getElem?_eq_some_iff.1 hmx).1 hm q
     rw [(List.getElem?_eq_some_iff.1 hmx).2] at h1
     exact cmpW_trans h1 hc2
    ·rw [show m = (i + j) / 2 by omega, hx] at hmx
     cases hmx
     exact hc2
   ·simp only [hc2, decide_false, cond_false]
    rw [ret_some]
    refine ⟨⟨i, (i + j) / 2, rfl, by omega, by omega, g3, fun m x h hmx hlt => ?_⟩, by simp only; omega⟩
    rcases Nat.lt_or_ge ((i + j) / 2) m with q | q
    ·have h1 := (List.pairwise_iff_getElem.1 hs) ((i + j) / 2) m hm (List.getElem?_eq_some_iff.1 hmx).1 q
     rw [(List.getElem?_eq_some_iff.1 hmx).2] at h1
     exact hc2 (cmpW_trans h1 hlt)
    ·rw [show m = (i + j) / 2 by omega, hx] at hmx
     cases hmx
     exact hc2 hlt
  ·have hij : i = j := by
    have : ¬ i < j := by simpa using hc
    omega
   subst hij
   rw [ret_some]
   exact ⟨i, rfl, g2, g3, g4⟩
 ·rintro _ ⟨i, rfl, h1, h2, h3⟩
  unfold slices_BinarySearchFuncW_int_int_int_J1
  rw [ret_bif]
  refine ⟨fun hc => ?_, fun hc => ?_⟩
  ·have hi : i < l.length := by simpa using hc
   have hx : l[i]? = some l[i] := List.getElem?_eq_getElem hi
   rw [idx_some hx]
   simp only [Option.bind_some]
   rw [Compare_eq _ _ (hw _ (List.getElem_mem hi))]
   simp only [Option.bind_some, ret_some]
   by_cases he : l[i] = w
   ·rw [he, cmpW_self]
    have : w ∈ l := he ▸ List.getElem_mem hi
    simp [this]
   ·have hne : (cmpW l[i] w == 0) = false := by simp; exact fun q => he (cmpW_eq q)
    rw [hne]
    have : w ∉ l := by
     intro hm
     obtain ⟨m, hm⟩ := List.mem_iff_getElem?.1 hm
     rcases Nat.lt_or_ge m i with q | q
     ·exact cmpW_irr _ (h2 m w q hm)
     ·rcases Nat.lt_or_ge i m with q2 | q2
      ·have h4 := (List.pairwise_iff_getElem.1 hs) i m hi (List.getElem?_eq_some_iff.1 hm).1 q2
       rw [(List.getElem?_eq_some_iff.1 hm).2] at h4
       exact h3 i _ (Nat.le_refl _) hx h4
      ·rw [show m = i by omega, hx] at hm
       cases hm
       exact he rfl
    simp [this]
  ·have hi : i = l.length := by
    have : ¬ i < l.length := by simpa using hc
    omega
   rw [ret_some, ret_some]
   have : w ∉ l := by
    intro hm
    obtain ⟨m, hm⟩ := List.mem_iff_getElem?.1 hm
    exact cmpW_irr _ (h2 m w (by rw [hi]; exact (List.getElem?_eq_some_iff.1 hm).1) hm)
   simp [this]
end Go.Own

namespace Go.Own
set_option linter.unusedVariables false
theorem put_place {l : List (List Int)} (hs : SW l) {w : List Int} {i : Nat} (hi : i ≤ l.length) (h1 : ∀ m x, m < i → l[m]? = some x → cmpW x w < 0) (h2 : ∀ m x, i ≤ m → l[m]? = some x → cmpW w x < 0) : l.take i ++ w :: l.drop i = putW w l := by
 have ht : ∀ x ∈ l.take i, cmpW x w < 0 := fun x hx => by
  obtain ⟨m, q1, q2⟩ := mem_take.1 hx
  exact h1 m x q1 q2
 have hd : ∀ x ∈ l.drop i, cmpW w x < 0 := fun x hx => by
  obtain ⟨m, q⟩ := List.mem_iff_getElem?.1 hx
  rw [List.getElem?_drop] at q
  exact h2 (i + m) x (by omega) q
 refine SW.unique ?_ hs.put fun x => ?_
 ·unfold SW
  rw [List.pairwise_append, List.pairwise_cons]
  refine ⟨hs.sub (List.take_sublist _ _), ⟨hd, hs.sub (List.drop_sublist _ _)⟩, fun a ha b hb => ?_⟩
  rcases List.mem_cons.1 hb with rfl | hb
  ·exact ht a ha
  ·exact cmpW_trans (ht a ha) (hd b hb)
 ·rw [mem_putW]
  have : x ∈ l ↔ x ∈ l.take i ∨ x ∈ l.drop i := by rw [← List.mem_append, List.take_append_drop]
  rw [this]
  simp only [List.mem_append, List.mem_cons]
  constructor
  ·rintro (h | h | h) <;> simp [h]
  ·rintro (h | h | h) <;> simp [h]
theorem put_eq {l : List (List Int)} (hs : SW l) (hl : l.length ≤ 1000000) (hw : ∀ x ∈ l, x.length < 4611686018427387904) {w : List Int} (hww : w.length ≤ 4294967296) : ref12_put l w = some (putW w l) := by
 unfold ref12_put
 apply Ret.eq
 rw [ret_bind]
 refine Ret.mono (ret_loop (fun q : Int × Int => ∃ i j : Nat, q = ((i : Int), (j : Int)) ∧ i ≤ j ∧ j ≤ l.length ∧ (∀ m x, m < i → l[m]? = some x → cmpW x w < 0) ∧ ∀ m x, j ≤ m → l[m]? = some x → ¬ cmpW x w < 0) (fun q => (q.2 - q.1).toNat) (R := fun t => ∃ i : Nat, t = (i : Int) ∧ i ≤ l.length ∧ (∀ m x, m < i → l[m]? = some x → cmpW x w < 0) ∧ ∀ m x, i ≤ m → l[m]? = some x → ¬ cmpW x w < 0) ?_ ?_ ?_) ?_
 ·exact ⟨0, l.length, rfl, Nat.zero_le _, Nat.le_refl _, fun m x h => by omega, fun m x h hx => by have := (List.getElem?_eq_some_iff.1 hx).1; omega⟩
 ·simp only; omega
 ·rintro _ ⟨i, j, rfl, g1, g2, g3, g4⟩
  show Ret (ref12_put_L5 l w (i : Int) (j : Int)) _
  unfold ref12_put_L5
  rw [ret_bif]
  refine ⟨fun hc => ?_, fun hc => ?_⟩
  ·have hij : i < j := by simpa using hc
   have hh : w64 (Int.tdiv (w64 ((i : Int) + (j : Int))) 2) = (((i + j) / 2 : Nat) : Int) := by
    rw [w64_in (x := (i : Int) + (j : Int)) (by omega) (by omega)]
    have : Int.tdiv ((i : Int) + (j : Int)) 2 = (((i + j) / 2 : Nat) : Int) := by
     rw [show ((i : Int) + (j : Int)) = ((i + j : Nat) : Int) by omega, Int.tdiv_eq_ediv_of_nonneg (by omega)]
     rfl
    rw [this, w64_in (by omega) (by omega)]
   rw [gdT (by omega), hh]
   have hm : (i + j) / 2 < l.length := by omega
   have hx : l[(i + j) / 2]? = some l[(i + j) / 2] := List.getElem?_eq_getElem hm
   rw [idx_some hx]
   simp only [Option.bind_some]
   rw [compare_eq _ _ (fun _ => hw _ (List.getElem_mem hm))]
   simp only [Option.bind_some]
   by_cases hc2 : cmpW l[(i + j) / 2] w < 0
   ·simp only [hc2, decide_true, cond_true]
    rw [w64_in (by omega) (by omega), ret_some]
    refine ⟨⟨(i + j) / 2 + 1, j, by simp, by omega, g2, fun m x h hmx => ?_, g4⟩, by simp only; omega⟩
    rcases Nat.lt_or_ge m ((i + j) / 2) with q | q
    ·have h1 := (List.pairwise_iff_getElem.1 hs) m ((i + j) / 2) (List.getElem?_eq_some_iff.1 hmx).1 hm q
     rw [(List.getElem?_eq_some_iff.1 hmx).2] at h1
     exact cmpW_trans h1 hc2
    ·rw [show m = (i + j) / 2 by omega, hx] at hmx
     cases hmx
     exact hc2
   ·simp only [hc2, decide_false, cond_false]
    rw [ret_some]
    refine ⟨⟨i, (i + j) / 2, rfl, by omega, by omega, g3, fun m x h hmx hlt => ?_⟩, by simp only; omega⟩
    rcases Nat.lt_or_ge ((i + j) / 2) m with q | q
    ·have h1 := (List.pairwise_iff_getElem.1 hs) ((i + j) / 2) m hm (List.getElem?_eq_some_iff.1 hmx).1 q
     rw [(List.getElem?_eq_some_iff.1 hmx).2] at h1
     exact hc2 (cmpW_trans h1 hlt)
    ·rw [show m = (i + j) / 2 by omega, hx] at hmx
     cases hmx
     exact hc2 hlt
  ·have hij : i = j := by
    have : ¬ i < j := by simpa using hc
    omega
   subst hij
   rw [ret_some]
   exact ⟨i, rfl, g2, g3, g4⟩
 ·rintro _ ⟨i, rfl, h1, h2, h3⟩
  have J2 : (∀ x, l[i]? = some x → x ≠ w) → Ret (ref12_put_J2 l w (i : Int)) fun r => r = putW w l := by
   intro hne
   have h4 : ∀ m x, i ≤ m → l[m]? = some x → cmpW w x < 0 := by
    intro m x hm hx
    have hil : i < l.length := by have := (List.getElem?_eq_some_iff.1 hx).1; omega
    have hxi : l[i]? = some l[i] := List.getElem?_eq_getElem hil
    have hlt : cmpW w l[i] < 0 := by
     rcases cmpW_ge.1 (h3 i _ (Nat.le_refl _) hxi) with q | q
     ·exact q
     ·exact absurd q (hne _ hxi)
    rcases Nat.lt_or_ge i m with q | q
    ·have h5 := (List.pairwise_iff_getElem.1 hs) i m hil (List.getElem?_eq_some_iff.1 hx).1 q
     rw [(List.getElem?_eq_some_iff.1 hx).2] at h5
     exact cmpW_trans hlt h5
    ·rw [show m = i by omega, hxi] at hx
     cases hx
     exact hlt
   unfold ref12_put_J2
   rw [gdT (by simp; omega), ret_bind]
   have hlen : w64 ((((l ++ ([[]] : List (List Int))).length : Nat) : Int) - 1) = ((l.length : Nat) : Int) := by
    rw [List.length_append, List.length_singleton, w64_in (by omega) (by omega)]; omega
   rw [hlen]
   refine Ret.mono (ret_loop (fun q : List (List Int) × Int => ∃ (j : Nat) (x : List Int), q = (l.take j ++ x :: l.drop j, (j : Int)) ∧ i ≤ j ∧ j ≤ l.length) (fun q => q.2.toNat) (R := fun t => ∃ x : List Int, t = l.take i ++ x :: l.drop i) ⟨l.length, [], by simp, h1, Nat.le_refl _⟩ (by simp only [Int.toNat_natCast]; omega) ?_) ?_
   ·rintro _ ⟨j, x, rfl, g1, g2⟩
    show Ret (ref12_put_L4 (i : Int) (l.take j ++ x :: l.drop j) (j : Int)) _
    unfold ref12_put_L4
    rw [ret_bif]
    refine ⟨fun hc => ?_, fun hc => ?_⟩
    ·have hij : i < j := by simpa using hc
     have hA : (l.take j).length = j := by rw [List.length_take]; omega
     have hy : (l.take j ++ x :: l.drop j)[j - 1]? = some l[j - 1] := by
      rw [List.getElem?_append_left (by omega), List.getElem?_take, if_pos (by omega)]; exact List.getElem?_eq_getElem (by omega)
     have hz : (l.take j ++ x :: l.drop j)[j]? = some x := by
      rw [List.getElem?_append_right (by omega), hA]; simp
     rw [w64_in (by omega) (by omega), show (j : Int) - 1 = ((j - 1 : Nat) : Int) by omega, idx_some hy, idx_some hz]
     simp only [Option.bind_some, ret_some, Int.toNat_natCast]
     refine ⟨⟨j - 1, l[j - 1], ?_, by omega, by omega⟩, by simp only [Int.toNat_natCast]; omega⟩
     rw [List.set_append_right _ _ (by omega), hA, Nat.sub_self, List.set_cons_zero]
     have e1 : l.take j = l.take (j - 1) ++ [l[j - 1]] := by
      have := List.take_add_one (l := l) (i := j - 1)
      rw [show j - 1 + 1 = j by omega, List.getElem?_eq_getElem (by omega)] at this
      exact this
     have e2 : l.drop (j - 1) = l[j - 1] :: l.drop j := by
      rw [List.drop_eq_getElem_cons (by omega), show j - 1 + 1 = j by omega]
     rw [e2, e1, List.append_assoc]
     rfl
    ·have hij : j = i := by
      have : ¬ i < j := by simpa using hc
      omega
     subst hij
     rw [ret_some]
     exact ⟨x, rfl⟩
   ·rintro _ ⟨x, rfl⟩
    unfold ref12_put_J3
    have hA : (l.take i).length = i := by rw [List.length_take]; omega
    have hz : (l.take i ++ x :: l.drop i)[i]? = some x := by
     rw [List.getElem?_append_right (by omega), hA]; simp
    rw [gdT (by simpa using hww), idx_some hz]
    simp only [Option.bind_some, ret_some, Int.toNat_natCast]
    rw [List.set_append_right _ _ (by omega), hA, Nat.sub_self, List.set_cons_zero]
    exact put_place hs h1 h2 h4
  unfold ref12_put_J1
  rw [ret_bif]
  refine ⟨fun hc => ?_, fun hc => ?_⟩
  ·have hi : i < l.length := by simpa using hc
   have hx : l[i]? = some l[i] := List.getElem?_eq_getElem hi
   rw [idx_some hx]
   simp only [Option.bind_some]
   rw [compare_eq _ _ (fun _ => hw _ (List.getElem_mem hi))]
   simp only [Option.bind_some]
   by_cases he : l[i] = w
   ·have hb : (cmpW l[i] w == 0) = true := by rw [he, cmpW_self]; rfl
    rw [hb, cond_true, ret_some]
    refine SW.unique hs hs.put fun x => ?_
    rw [mem_putW]
    refine ⟨fun q => .inr q, fun q => ?_⟩
    rcases q with rfl | q
    ·exact he ▸ List.getElem_mem hi
    ·exact q
   ·have hb : (cmpW l[i] w == 0) = false := by simp; exact fun q => he (cmpW_eq q)
    rw [hb, cond_false]
    exact J2 fun x hx2 => by rw [hx] at hx2; cases hx2; exact he
  ·have hi : ¬ i < l.length := by simpa using hc
   exact J2 fun x hx2 => by have := (List.getElem?_eq_some_iff.1 hx2).1; omega
theorem rSort_eq {l : List (List Int)} (hl : l.length ≤ 1000000) (hw : ∀ x ∈ l, x.length ≤ 4294967296) : ref12_Sort l = some (srt l) := by
 unfold ref12_Sort
 have h := loop_seq (step := fun s => ref12_Sort_L2 l s.1 s.2) (fun i => (srt (l.take i), (i : Int))) l.length (t := srt l) (by omega) (by
  intro i hi
  show ref12_Sort_L2 l _ (i : Int) = _
  unfold ref12_Sort_L2
  have hq : decide ((i : Int) < (l.length : Int)) = true := by simpa using hi
  have hx : l[i]? = some l[i] := List.getElem?_eq_getElem hi
  simp only [hq, cond_true, idx_some hx, Option.bind_some]
  have hlen : (srt (l.take i)).length ≤ 1000000 := by have := srt_len (l.take i); rw [List.length_take] at this; omega
  rw [put_eq (srt_sw _) hlen (fun x hx => by have := hw x (List.mem_of_mem_take (mem_srt.1 hx)); omega) (hw _ (List.getElem_mem hi))]
  simp only [Option.bind_some]
  rw [w64_in (by omega) (by omega), ← srt_snoc, List.take_add_one, hx]
  rfl) (by
  show ref12_Sort_L2 l _ (l.length : Int) = _
  unfold ref12_Sort_L2
  simp)
 have h0 : (srt (l.take 0), ((0 : Nat) : Int)) = (([] : List (List Int)), (0 : Int)) := by simp [srt]
 rw [h0] at h
 rw [bdT h]
 rfl
theorem same_eq (a b : List (List Int)) (hl : a.length < 4611686018427387904) (hw : ∀ x ∈ a, x.length < 4611686018427387904) : law12_same a b = some (decide (a = b)) := by
 have hS : ref12_Same a b = some (decide (a = b)) := by
  unfold ref12_Same
  by_cases he : a.length = b.length
  ·have hb : (((a.length : Nat) : Int) != ((b.length : Nat) : Int)) = false := by simp; omega
   simp only [hb, cond_false]
   rw [bdT (loop_list a hl (step := fun s => ref12_Same_L2 a b s) (fun i x => if b[i]? = some x then none else some false) ?_ ?_)]
   ·cases hf : firstS (fun i x => if b[i]? = some x then none else some false) a 0 with
    | some r =>
     obtain ⟨i, x, h1, h2⟩ := firstS_some hf
     rw [Nat.zero_add] at h2
     split at h2
     ·cases h2
     ·rename_i h3
      have : a ≠ b := fun e => h3 (by rw [← e]; exact h1)
      cases h2
      simp [oS, this]
    | none =>
     have hab : a = b := by
      refine List.ext_getElem? fun i => ?_
      rcases Nat.lt_or_ge i a.length with q | q
      ·have hx : a[i]? = some a[i] := List.getElem?_eq_getElem q
       have := firstS_isNone hf i _ hx
       rw [Nat.zero_add] at this
       split at this
       ·rename_i h3; rw [h3, hx]
       ·cases this
      ·rw [List.getElem?_eq_none q, List.getElem?_eq_none (by omega)]
     simp [oS, ref12_Same_J1, hab]
   ·intro i x hx
    have hi : i < a.length := (List.getElem?_eq_some_iff.1 hx).1
    have hq : decide ((i : Int) < (a.length : Int)) = true := by simpa using hi
    have hy : b[i]? = some b[i] := List.getElem?_eq_getElem (by omega)
    have hxm : x ∈ a := (List.getElem?_eq_some_iff.1 hx).2 ▸ List.getElem_mem hi
    unfold ref12_Same_L2
    simp only [hq, cond_true, idx_some hx, idx_some hy, Option.bind_some, compare_eq x b[i] (fun _ => hw x hxm), hy]
    by_cases h : b[i] = x
    ·rw [if_pos (by rw [h]), h, cmpW_self]; rfl
    ·have : (cmpW x b[i] != 0) = true := by simp; exact fun q => h (cmpW_eq q).symm
     rw [this, if_neg (by simpa using h)]
     rfl
   ·unfold ref12_Same_L2; simp
  ·have hb : (((a.length : Nat) : Int) != ((b.length : Nat) : Int)) = true := by simp; omega
   have : a ≠ b := fun e => he (by rw [e])
   simp [hb, this]
 unfold law12_same
 rw [hS]
 simp only [Option.bind_some]
 by_cases he : a = b
 ·simp only [he, decide_true, Bool.not_true, cond_false, bne_self_eq_false]
  subst he
  rw [bdT (loop_list a hl (step := fun s => law12_same_L2 a s) (fun i x => none) ?_ ?_)]
  ·rw [firstS_none fun _ _ _ => rfl]
   rfl
  ·intro i x hx
   have hi : i < a.length := (List.getElem?_eq_some_iff.1 hx).1
   have hq : decide ((i : Int) < (a.length : Int)) = true := by simpa using hi
   unfold law12_same_L2
   simp only [hq, cond_true, idx_some hx, Option.bind_some, bne_self_eq_false, cond_false]
   rfl
  ·unfold law12_same_L2; simp
 ·simp [he]
theorem syms_mono {l : List (List Int)} {m : Nat} {L : Nat} (hl : l.length ≤ L) (h : ∀ w ∈ l, w.length ≤ m) : syms l ≤ L * m := Nat.le_trans (syms_le h) (Nat.mul_le_mul_right _ hl)
end Go.Own

namespace Go.Own
set_option linter.unusedVariables false
def boE (n : Int) (a b : List (List Int)) : Int := if chE n a ≠ 0 then chE n a else chE n b
theorem boE_zero {n : Int} {a b : List (List Int)} : boE n a b = 0 ↔ chE n a = 0 ∧ chE n b = 0 := by
 unfold boE
 by_cases h : chE n a = 0
 ·rw [if_neg (by simp [h])]; simp [h]
 ·rw [if_pos h]; simp [h]
theorem both_eq (n : Int) (a b : List (List Int)) : tries_both n [a, b] = some (boE n a b) := by
 unfold tries_both
 rw [bdT (loop_list [a, b] (by simp) (step := fun s => tries_both_L2 n [a, b] s) (fun i v => eS (chE n v)) ?_ ?_)]
 ·unfold boE eS
  by_cases h1 : chE n a = 0
  ·by_cases h2 : chE n b = 0
   ·simp [firstS, h1, h2, oS, tries_both_J1]
   ·simp [firstS, h1, h2, oS]
  ·simp [firstS, h1, oS]
 ·intro i v hv
  have hi : i < [a, b].length := (List.getElem?_eq_some_iff.1 hv).1
  unfold tries_both_L2
  have hc : decide ((i : Int) < (([a, b] : List (List (List Int))).length : Int)) = true := by simp only [decide_eq_true_eq]; omega
  simp only [hc, cond_true, idx_some hv, Option.bind_some, tCheck_eq]
  by_cases h : chE n v = 0
  ·simp [h, nS, eS]
  ·have hb : (chE n v != 0) = true := by simpa using h
   simp [h, hb, nS, eS]
 ·unfold tries_both_L2; simp
theorem ch_small {n : Int} {l : List (List Int)} (h : chE n l = 0) : l.length ≤ 4096 ∧ (∀ w ∈ l, w.length ≤ 256) ∧ syms l ≤ 65536 ∧ SW l ∧ (1 ≤ n ∧ n ≤ 16) ∧ ∀ w ∈ l, ∀ c ∈ w, 0 ≤ c ∧ c < n := by
 obtain ⟨h1, h2, h3⟩ := chE_zero.1 h
 obtain ⟨q1, q2, _⟩ := loE_small h1
 obtain ⟨r1, _, r3⟩ := loE_zero.1 h1
 exact ⟨q1, q2, h3, h2, r1, fun w hw => (r3 w hw).2⟩
theorem tUnion_eq (n : Int) (a b : List (List Int)) : tries_Union a b n = some (if boE n a b ≠ 0 then ([], boE n a b) else soR (a ++ b)) := by
 unfold tries_Union
 rw [both_eq]
 simp only [Option.bind_some]
 by_cases h : boE n a b = 0
 ·obtain ⟨ha, hb⟩ := boE_zero.1 h
  obtain ⟨a1, a2, _⟩ := ch_small ha
  obtain ⟨b1, b2, _⟩ := ch_small hb
  simp only [h, bne_self_eq_false, cond_false, ne_eq, not_true, if_false]
  unfold slices_CloneW_int_int
  rw [gdT (by simp; omega)]
  simp only [Option.bind_some]
  rw [gdT (by omega), sorted_eq (by rw [List.length_append]; omega) (fun w hw => by
   rcases List.mem_append.1 hw with q | q
   ·have := a2 w q; omega
   ·have := b2 w q; omega)]
  rfl
 ·have hb : (boE n a b != 0) = true := by simpa using h
  simp [h, hb]
theorem rUnion_eq {a b : List (List Int)} (ha : a.length ≤ 5000) (hb : b.length ≤ 5000) (hwa : ∀ w ∈ a, w.length ≤ 4294967296) (hwb : ∀ w ∈ b, w.length ≤ 4294967296) : ref12_Union a b = some (srt (a ++ b)) := by
 unfold ref12_Union
 rw [gdT (by simp; omega), gdT (by omega), rSort_eq (by rw [List.length_append]; omega) (fun w hw => by
  rcases List.mem_append.1 hw with q | q
  ·exact hwa w q
  ·exact hwb w q)]
 rfl
theorem m1_eq {n : Int} {b : List (List Int)} (hb : chE n b = 0) (w : List Int) : tries_Minus_1 w b = some (decide (w ∈ b)) := by
 obtain ⟨b1, b2, _, b4, _⟩ := ch_small hb
 unfold tries_Minus_1
 rw [in_eq b4 (by omega) (fun x hx => by have := b2 x hx; omega)]
 rfl
theorem fs_first (p : List Int → Bool) : ∀ (l : List (List Int)) (k : Nat), (firstS (fun i x => if p x = true then some ((i : Nat) : Int) else none) l k = none ∧ ∀ x ∈ l, p x = false) ∨ ∃ i, i < l.length ∧ firstS (fun i x => if p x = true then some ((i : Nat) : Int) else none) l k = some ((k + i : Nat) : Int) ∧ (∀ x ∈ l.take i, p x = false) ∧ ∀ x, l[i]? = some x → p x = true
 | [], k => .inl ⟨rfl, by simp⟩
 | x :: l, k => by
  by_cases h : p x = true
  ·right
   refine ⟨0, by simp, by simp [firstS, h], by simp, fun y hy => by simp at hy; subst hy; exact h⟩
  ·have hx : p x = false := by simpa using h
   have e : firstS (fun i x => if p x = true then some ((i : Nat) : Int) else none) (x :: l) k = firstS (fun i x => if p x = true then some ((i : Nat) : Int) else none) l (k + 1) := by simp [firstS, h]
   rw [e]
   rcases fs_first p l (k + 1) with ⟨h1, h2⟩ | ⟨i, h1, h2, h3, h4⟩
   ·left
    exact ⟨h1, fun y hy => by
     rcases List.mem_cons.1 hy with rfl | hy
     ·exact hx
     ·exact h2 y hy⟩
   ·right
    refine ⟨i + 1, by simp; omega, by rw [h2]; congr 1; omega, fun y hy => ?_, fun y hy => h4 y (by simpa using hy)⟩
    rw [List.take_succ_cons] at hy
    rcases List.mem_cons.1 hy with rfl | hy
    ·exact hx
    ·exact h3 y hy
theorem delete_eq {n : Int} {b : List (List Int)} (hb : chE n b = 0) {s : List (List Int)} (hs : s.length ≤ 100000) : slices_DeleteFuncW_int_int s b = some (s.filter fun x => !decide (x ∈ b)) := by
 unfold slices_DeleteFuncW_int_int slices_IndexFuncW_int_int
 rw [bdT (loop_list s (by omega) (step := fun q => slices_IndexFuncW_int_int_L2 s b q) (fun i x => if decide (x ∈ b) = true then some ((i : Nat) : Int) else none) ?_ ?_)]
 ·rcases fs_first (fun x => decide (x ∈ b)) s 0 with ⟨h1, h2⟩ | ⟨k, h1, h2, h3, h4⟩
  ·rw [h1]
   show some s = _
   rw [List.filter_eq_self.2 fun x hx => by rw [h2 x hx]; rfl]
  ·rw [h2]
   simp only [oS, Nat.zero_add]
   have hne : (((k : Nat) : Int) == -1) = false := by simp
   simp only [Option.bind_some, hne, cond_false]
   apply Ret.eq
   rw [ret_bind, w64_in (by omega) (by omega), show (k : Int) + 1 = ((k + 1 : Nat) : Int) by omega]
   refine Ret.mono (ret_loop (fun q => ∃ i j : Nat, q.2.1 = (i : Int) ∧ q.2.2 = (j : Int) ∧ i < j ∧ j ≤ s.length ∧ q.1.length = s.length ∧ (∀ m, j ≤ m → q.1[m]? = s[m]?) ∧ q.1.take i = (s.take j).filter fun x => !decide (x ∈ b)) (fun q => s.length - q.2.2.toNat) (R := fun t => ∃ i : Nat, t.2 = (i : Int) ∧ i ≤ s.length ∧ t.1.length = s.length ∧ t.1.take i = s.filter fun x => !decide (x ∈ b)) ?_ ?_ ?_) ?_
   ·refine ⟨k, k + 1, rfl, rfl, by omega, by omega, rfl, fun _ _ => rfl, ?_⟩
    have hx : s[k]? = some s[k] := List.getElem?_eq_getElem h1
    rw [List.take_add_one, hx, List.filter_append, List.filter_eq_self.2 fun x hx => by rw [h3 x hx]; rfl]
    simp only [Option.toList_some, List.filter_cons, List.filter_nil, h4 _ hx, Bool.not_true, Bool.false_eq_true, if_false, List.append_nil]
   ·show s.length - _ < _
    omega
   ·rintro ⟨S, x, y⟩ ⟨i, j, rfl, rfl, g1, g2, g3, g4, g5⟩
    simp only at g3 g4 g5
    show Ret (slices_DeleteFuncW_int_int_L2 b S (i : Int) (j : Int)) _
    unfold slices_DeleteFuncW_int_int_L2
    rw [ret_bif]
    refine ⟨fun hc => ?_, fun hc => ?_⟩
    ·have hj : j < s.length := by rw [g3] at hc; simpa using hc
     have hx : s[j]? = some s[j] := List.getElem?_eq_getElem hj
     have hj2 : w64 ((j : Int) + 1) = ((j + 1 : Nat) : Int) := by rw [w64_in (by omega) (by omega)]; omega
     rw [idx_nat, g4 j (Nat.le_refl _), hx]
     simp only [Option.bind_some]
     rw [m1_eq hb]
     simp only [Option.bind_some]
     have htk : s.take (j + 1) = s.take j ++ [s[j]] := by rw [List.take_add_one, hx]; rfl
     by_cases hm : s[j] ∈ b
     ·simp only [hm, decide_true, Bool.not_true, cond_false]
      unfold slices_DeleteFuncW_int_int_J3
      rw [hj2, ret_some]
      refine ⟨⟨i, j + 1, rfl, rfl, by omega, hj, g3, fun m hmm => g4 m (by omega), ?_⟩, by simp only [Int.toNat_natCast]; omega⟩
      simp only
      rw [htk, List.filter_append, ← g5]
      simp [hm]
     ·simp only [hm, decide_false, Bool.not_false, cond_true]
      have hi : idx S (i : Int) = some S[i] := List.getElem?_eq_getElem (by omega)
      rw [hi]
      simp only [Option.bind_some]
      unfold slices_DeleteFuncW_int_int_J3
      rw [hj2, w64_in (x := (i : Int) + 1) (by omega) (by omega), ret_some]
      refine ⟨⟨i + 1, j + 1, rfl, rfl, by omega, hj, by simp [g3], fun m hmm => ?_, ?_⟩, by simp only [Int.toNat_natCast]; omega⟩
      ·simp only
       rw [Int.toNat_natCast, List.getElem?_set_ne (by omega), g4 m (by omega)]
      ·simp only
       rw [Int.toNat_natCast, List.take_add_one, List.take_set_of_le (Nat.le_refl _), List.getElem?_set_self (by omega), htk, List.filter_append, ← g5]
       simp [hm]
    ·have hj : j = s.length := by
      have : ¬ j < s.length := by rw [g3] at hc; simpa using hc
      omega
     rw [ret_some]
     refine ⟨i, rfl, by omega, g3, ?_⟩
     simp only
     rw [g5, hj, List.take_length]
   ·rintro ⟨S, x⟩ ⟨i, rfl, q1, q2, q3⟩
    simp only at q2 q3
    show Ret (slices_DeleteFuncW_int_int_J1 S (i : Int)) _
    unfold slices_DeleteFuncW_int_int_J1
    have hlen : (S.take (i : Int).toNat ++ List.replicate (S.length - (i : Int).toNat) ([] : List Int)).length = S.length := by simp [List.length_take]; omega
    rw [gdT (by omega), gdT (by omega), gdT (by rw [hlen]; omega), ret_some]
    simp only [Int.toNat_natCast]
    rw [List.take_left' (by rw [List.length_take]; omega), q3]
 ·intro i x hx
  have hi : i < s.length := (List.getElem?_eq_some_iff.1 hx).1
  have hq : decide ((i : Int) < (s.length : Int)) = true := by simpa using hi
  unfold slices_IndexFuncW_int_int_L2
  simp only [hq, cond_true, idx_some hx, Option.bind_some, m1_eq hb]
  by_cases h : x ∈ b
  ·simp [h, nS]
  ·simp [h, nS]
 ·unfold slices_IndexFuncW_int_int_L2; simp
theorem syms_sub {l m : List (List Int)} (h : List.Sublist l m) : syms l ≤ syms m := by
 induction h with
 | slnil => exact Nat.le_refl _
 | cons a _ ih => simp only [syms, List.map_cons, List.sum_cons] at *; omega
 | cons_cons a _ ih => simp only [syms, List.map_cons, List.sum_cons] at *; omega
theorem tMinus_eq (n : Int) (a b : List (List Int)) : tries_Minus a b n = some (if boE n a b ≠ 0 then ([], boE n a b) else (a.filter fun x => !decide (x ∈ b), 0)) := by
 unfold tries_Minus
 rw [both_eq]
 simp only [Option.bind_some]
 by_cases h : boE n a b = 0
 ·obtain ⟨ha, hb⟩ := boE_zero.1 h
  obtain ⟨a1, a2, a3, a4, _⟩ := ch_small ha
  simp only [h, bne_self_eq_false, cond_false, ne_eq, not_true, if_false]
  unfold slices_CloneW_int_int
  rw [gdT (by simp; omega)]
  simp only [Option.bind_some]
  rw [delete_eq hb (by omega)]
  simp only [Option.bind_some]
  have hf := List.filter_sublist (p := fun x => !decide (x ∈ b)) (l := a)
  rw [sorted_eq (by have := hf.length_le; omega) (fun w hw => by have := a2 w (hf.subset hw); omega)]
  unfold soR
  rw [srt_of_sw (a4.sub hf), if_neg (by have := hf.length_le; have := syms_sub hf; omega)]
  rfl
 ·have hb : (boE n a b != 0) = true := by simpa using h
  simp [h, hb]
theorem rMinus_eq {a b : List (List Int)} (ha : a.length ≤ 5000) (hb : b.length ≤ 5000) (hwa : ∀ w ∈ a, w.length ≤ 4294967296) : ref12_Minus a b = some (a.filter fun x => !decide (x ∈ b)) := by
 unfold ref12_Minus
 have h := loop_seq (step := fun s => ref12_Minus_L2 a b s.1 s.2) (fun i => ((a.take i).filter fun x => !decide (x ∈ b), (i : Int))) a.length (t := a.filter fun x => !decide (x ∈ b)) (by omega) (by
  intro i hi
  show ref12_Minus_L2 a b _ (i : Int) = _
  unfold ref12_Minus_L2
  have hq : decide ((i : Int) < (a.length : Int)) = true := by simpa using hi
  have hx : a[i]? = some a[i] := List.getElem?_eq_getElem hi
  simp only [hq, cond_true, idx_some hx, Option.bind_some]
  rw [rHas_eq b _ (by omega) (by have := hwa _ (List.getElem_mem hi); omega)]
  simp only [Option.bind_some]
  unfold ref12_Minus_J3
  rw [w64_in (by omega) (by omega), List.take_add_one, hx, List.filter_append]
  have hlen := (List.filter_sublist (p := fun x => !decide (x ∈ b)) (l := a.take i)).length_le
  rw [List.length_take] at hlen
  by_cases hm : a[i] ∈ b
  ·simp [hm]
  ·simp only [hm, decide_false, Bool.not_false, cond_true]
   rw [gdT (by simp only [List.length_singleton]; omega)]
   simp [hm]) (by
  show ref12_Minus_L2 a b _ (a.length : Int) = _
  unfold ref12_Minus_L2
  simp)
 have h0 : ((a.take 0).filter (fun x => !decide (x ∈ b)), ((0 : Nat) : Int)) = (([] : List (List Int)), (0 : Int)) := by simp
 rw [h0] at h
 rw [bdT h]
 rfl
def prodW (a b : List (List Int)) : List (List Int) := a.flatMap fun u => b.map fun v => u ++ v
theorem mem_prodW {a b : List (List Int)} {x : List Int} : x ∈ prodW a b ↔ ∃ u ∈ a, ∃ v ∈ b, u ++ v = x := by simp [prodW]
theorem prodW_len (a b : List (List Int)) : (prodW a b).length = a.length * b.length := by
 induction a with
 | nil => simp [prodW]
 | cons u a ih =>
  have e : prodW (u :: a) b = b.map (fun v => u ++ v) ++ prodW a b := rfl
  rw [e, List.length_append, ih, List.length_map, List.length_cons, Nat.succ_mul]; omega
theorem prodW_succ {a b : List (List Int)} {i : Nat} (hi : i < a.length) : prodW (a.take (i + 1)) b = prodW (a.take i) b ++ b.map fun v => a[i] ++ v := by
 unfold prodW
 rw [List.take_add_one, List.getElem?_eq_getElem hi, List.flatMap_append]
 simp
theorem rConcat_eq {a b : List (List Int)} (hp : a.length * b.length ≤ 100000) (ha : a.length ≤ 100000) (hb : b.length ≤ 100000) (hwa : ∀ w ∈ a, w.length ≤ 2147483648) (hwb : ∀ w ∈ b, w.length ≤ 2147483648) : ref12_Concat a b = some (srt (prodW a b)) := by
 unfold ref12_Concat
 have h := loop_seq (step := fun s => ref12_Concat_L2 a b s.1 s.2) (fun i => (srt (prodW (a.take i) b), (i : Int))) a.length (t := srt (prodW a b)) (by omega) (by
  intro i hi
  show ref12_Concat_L2 a b _ (i : Int) = _
  unfold ref12_Concat_L2
  have hq : decide ((i : Int) < (a.length : Int)) = true := by simpa using hi
  have hx : a[i]? = some a[i] := List.getElem?_eq_getElem hi
  simp only [hq, cond_true]
  have hin := loop_seq (step := fun s => ref12_Concat_L4 a b (i : Int) s.1 s.2) (fun j => (srt (prodW (a.take i) b ++ (b.take j).map fun v => a[i] ++ v), (j : Int))) b.length (t := srt (prodW (a.take (i + 1)) b)) (by omega) (by
   intro j hj
   show ref12_Concat_L4 a b (i : Int) _ (j : Int) = _
   unfold ref12_Concat_L4
   have hq2 : decide ((j : Int) < (b.length : Int)) = true := by simpa using hj
   have hy : b[j]? = some b[j] := List.getElem?_eq_getElem hj
   have wa := hwa _ (List.getElem_mem hi)
   have wb := hwb _ (List.getElem_mem hj)
   simp only [hq2, cond_true, idx_some hx, idx_some hy, Option.bind_some]
   rw [gdT (by simp; omega), gdT (by omega)]
   have hll : (srt (prodW (a.take i) b ++ (b.take j).map fun v => a[i] ++ v)).length ≤ 1000000 := by
    refine Nat.le_trans (srt_len _) ?_
    rw [List.length_append, prodW_len, List.length_map, List.length_take, List.length_take]
    have : min i a.length * b.length ≤ a.length * b.length := Nat.mul_le_mul_right _ (by omega)
    omega
   rw [put_eq (srt_sw _) hll (fun x hx => by
    rcases List.mem_append.1 (mem_srt.1 hx) with q | q
    ·obtain ⟨u, q1, v, q2, rfl⟩ := mem_prodW.1 q
     have := hwa u (List.mem_of_mem_take q1)
     have := hwb v q2
     rw [List.length_append]; omega
    ·obtain ⟨v, q2, rfl⟩ := List.mem_map.1 q
     have := hwb v (List.mem_of_mem_take q2)
     rw [List.length_append]; omega) (by rw [List.length_append]; omega)]
   simp only [Option.bind_some]
   rw [w64_in (by omega) (by omega), ← srt_snoc, List.take_add_one, hy, List.append_assoc, List.map_append]
   rfl) (by
   show ref12_Concat_L4 a b (i : Int) _ (b.length : Int) = _
   unfold ref12_Concat_L4
   have : decide (((b.length : Nat) : Int) < (b.length : Int)) = false := by simp
   simp only [this, cond_false]
   rw [List.take_length, prodW_succ hi])
  have h0 : (srt (prodW (a.take i) b ++ (b.take 0).map fun v => a[i] ++ v), ((0 : Nat) : Int)) = (srt (prodW (a.take i) b), (0 : Int)) := by simp
  rw [h0] at hin
  rw [bdT hin]
  unfold ref12_Concat_J3
  rw [w64_in (by omega) (by omega)]
  rfl) (by
  show ref12_Concat_L2 a b _ (a.length : Int) = _
  unfold ref12_Concat_L2
  simp)
 have h0 : (srt (prodW (a.take 0) b), ((0 : Nat) : Int)) = (([] : List (List Int)), (0 : Int)) := by simp [prodW, srt]
 rw [h0] at h
 rw [bdT h]
 rfl
end Go.Own

namespace Go.Own
set_option linter.unusedVariables false
theorem mget_mset (l : List (List UInt8 × Bool)) (x y : List UInt8) (v : Bool) : mget (mset l x v) y = if x = y then some v else mget l y := by
 induction l with
 | nil =>
  by_cases h : x = y
  ·simp [mset, mget, h]
  ·simp [mset, mget, h]
 | cons p l ih =>
  by_cases h : p.1 = x
  ·by_cases h2 : x = y
   ·simp [mset, mget, h, h2]
   ·simp [mset, mget, h, h2]
  ·by_cases h2 : p.1 = y
   ·have : ¬ x = y := fun e => h (h2.trans e.symm)
    have t2 : ¬ y = x := fun e => this e.symm
    simp [mset, mget, h2, this, t2]
   ·have hb : (p.1 == x) = false := beq_eq_false_iff_ne.2 h
    simp [mset, mget, hb, h2, ih]
def keyW (w : List Int) : List UInt8 := u8s (w.map fun c => IntKind.u8.wrap c)
theorem key_eq {w : List Int} (h : w.length ≤ 1000) : tries_key w = some (keyW w) := by
 unfold tries_key
 rw [gdT (by omega)]
 have hl := loop_seq (step := fun s => tries_key_L2 w s.1 s.2) (fun i => ((w.take i).map (fun c => IntKind.u8.wrap c) ++ List.replicate (w.length - i) (0 : Int), (i : Int))) w.length (t := w.map fun c => IntKind.u8.wrap c) (by omega) (by
  intro i hi
  show tries_key_L2 w _ (i : Int) = _
  unfold tries_key_L2
  have hq : decide ((i : Int) < (w.length : Int)) = true := by simpa using hi
  have hx : w[i]? = some w[i] := List.getElem?_eq_getElem hi
  have hA : ((w.take i).map (fun c => IntKind.u8.wrap c)).length = i := by rw [List.length_map, List.length_take]; omega
  have hr : List.replicate (w.length - i) (0 : Int) = 0 :: List.replicate (w.length - (i + 1)) 0 := by
   rw [show w.length - i = (w.length - (i + 1)) + 1 by omega]; rfl
  have hy : ((w.take i).map (fun c => IntKind.u8.wrap c) ++ List.replicate (w.length - i) (0 : Int))[i]? = some 0 := by
   rw [List.getElem?_append_right (by omega), hA, hr]; simp
  simp only [hq, cond_true, idx_some hx, idx_some hy, Option.bind_some, Int.toNat_natCast]
  rw [w64_in (by omega) (by omega), List.set_append_right _ _ (by omega), hA, Nat.sub_self, hr, List.set_cons_zero, List.take_add_one, hx, List.map_append, List.append_assoc]
  rfl) (by
  show tries_key_L2 w _ (w.length : Int) = _
  unfold tries_key_L2
  simp)
 have h0 : ((w.take 0).map (fun c => IntKind.u8.wrap c) ++ List.replicate (w.length - 0) (0 : Int), ((0 : Nat) : Int)) = (List.replicate ((w.length : Nat) : Int).toNat (0 : Int), (0 : Int)) := by simp
 rw [h0] at hl
 rw [bdT hl]
 rfl
theorem keyW_inj : ∀ {v w : List Int}, (∀ c ∈ v, 0 ≤ c ∧ c < 16) → (∀ c ∈ w, 0 ≤ c ∧ c < 16) → keyW v = keyW w → v = w
 | [], [], _, _, _ => rfl
 | [], _ :: _, _, _, h => by simp [keyW, u8s] at h
 | _ :: _, [], _, _, h => by simp [keyW, u8s] at h
 | x :: v, y :: w, hv, hw, h => by
  simp only [keyW, u8s, List.map_cons, List.cons.injEq] at h
  have hx := hv x (by simp)
  have hy := hw y (by simp)
  have wr : ∀ z : Int, 0 ≤ z ∧ z < 16 → IntKind.u8.wrap z = z := by
   intro z hz
   simp only [IntKind.wrap, IntKind.bits, IntKind.signed]
   simp
   omega
  have e := h.1
  rw [wr x hx, wr y hy] at e
  have e2 := congrArg UInt8.toNat e
  rw [UInt8.toNat_ofNat', UInt8.toNat_ofNat', Nat.mod_eq_of_lt (by omega), Nat.mod_eq_of_lt (by omega)] at e2
  rw [show x = y by omega, keyW_inj (fun c hc => hv c (by simp [hc])) (fun c hc => hw c (by simp [hc])) h.2]
theorem syms_perm {l m : List (List Int)} (h : l.Perm m) : syms l = syms m := (h.map _).sum_nat
theorem syms_append (l m : List (List Int)) : syms (l ++ m) = syms l + syms m := by simp [syms]
theorem sub_perm : ∀ {o L : List (List Int)}, o.Nodup → (∀ x ∈ o, x ∈ L) → ∃ r, L.Perm (o ++ r)
 | [], L, _, _ => ⟨L, .refl _⟩
 | x :: o, L, h, hs => by
  have hx := hs x (by simp)
  obtain ⟨r, hr⟩ := sub_perm (o := o) (L := L.erase x) (List.nodup_cons.1 h).2 fun y hy => (List.mem_erase_of_ne (fun e => (List.nodup_cons.1 h).1 (by rw [← e]; exact hy))).2 (hs y (by simp [hy]))
  exact ⟨r, (List.perm_cons_erase hx).trans (hr.cons x)⟩
theorem sub_le {o L : List (List Int)} (h : o.Nodup) (hs : ∀ x ∈ o, x ∈ L) : o.length ≤ L.length ∧ syms o ≤ syms L := by
 obtain ⟨r, hr⟩ := sub_perm h hs
 have h1 := hr.length_eq
 have h2 := syms_perm hr
 rw [List.length_append] at h1
 rw [syms_append] at h2
 omega
def badC (a b : List (List Int)) : Prop := (∃ w ∈ prodW a b, 256 < w.length) ∨ 4096 < (srt (prodW a b)).length ∨ 65536 < syms (srt (prodW a b))
def CI (P : List (List Int)) (seen : List (List UInt8 × Bool)) (n : Int) (out : List (List Int)) : Prop :=
 out.Nodup ∧ (∀ x, x ∈ out ↔ x ∈ P) ∧ (∀ x ∈ out, x.length ≤ 256) ∧ out.length ≤ 4096 ∧ syms out ≤ 65536 ∧ n = (syms out : Int) ∧ ∀ k, ((mget seen k).getD false = true ↔ ∃ x ∈ out, keyW x = k)
section
variable {n : Int} {a b : List (List Int)} (ha : chE n a = 0) (hb : chE n b = 0)
include ha hb
theorem prod_sym {w : List Int} (hw : w ∈ prodW a b) : ∀ c ∈ w, 0 ≤ c ∧ c < 16 := by
 obtain ⟨_, _, _, _, a5, a6⟩ := ch_small ha
 obtain ⟨_, _, _, _, _, b6⟩ := ch_small hb
 obtain ⟨u, h1, v, h2, rfl⟩ := mem_prodW.1 hw
 intro c hc
 rcases List.mem_append.1 hc with q | q
 ·have := a6 u h1 c q; omega
 ·have := b6 v h2 c q; omega
theorem conc_in {i : Nat} (hi : i < a.length) {seen : List (List UInt8 × Bool)} {m : Int} {out : List (List Int)} (h : CI (prodW (a.take i) b) seen m out) :
  Ret (loop (fun s => tries_Concat_L4 b a[i] s.1 s.2.1 s.2.2.1 s.2.2.2) (seen, m, out, 0)) fun t => match t with | .inl p => CI (prodW (a.take (i + 1)) b) p.1 p.2.1 p.2.2 | .inr p => p = ([], 3) ∧ badC a b := by
 obtain ⟨a1, a2, _⟩ := ch_small ha
 obtain ⟨b1, b2, _⟩ := ch_small hb
 refine ret_loop (fun q => ∃ j : Nat, q.2.2.2 = (j : Int) ∧ j ≤ b.length ∧ CI (prodW (a.take i) b ++ (b.take j).map fun v => a[i] ++ v) q.1 q.2.1 q.2.2.1) (fun q => b.length - q.2.2.2.toNat) ⟨0, rfl, Nat.zero_le _, by simpa using h⟩ (by show b.length - _ < _; omega) ?_
 rintro ⟨seen, m, out, _⟩ ⟨j, rfl, g1, g2⟩
 show Ret (tries_Concat_L4 b a[i] seen m out (j : Int)) _
 unfold tries_Concat_L4
 rw [ret_bif]
 refine ⟨fun hc => ?_, fun hc => ?_⟩
 ·have hj : j < b.length := by simpa using hc
  have hy : b[j]? = some b[j] := List.getElem?_eq_getElem hj
  have wa := a2 _ (List.getElem_mem hi)
  have wb := b2 _ (List.getElem_mem hj)
  have hj2 : w64 ((j : Int) + 1) = ((j + 1 : Nat) : Int) := by rw [w64_in (by omega) (by omega)]; omega
  have hmem : a[i] ++ b[j] ∈ prodW a b := mem_prodW.2 ⟨_, List.getElem_mem hi, _, List.getElem_mem hj, rfl⟩
  rw [idx_some hy]
  simp only [Option.bind_some, clip_eq]
  rw [gdT (by omega), ret_bif]
  refine ⟨fun hc2 => ?_, fun hc2 => ?_⟩
  ·have hl : 256 < (a[i] ++ b[j]).length := by simp only [decide_eq_true_eq] at hc2; omega
   rw [ret_some]
   exact ⟨rfl, .inl ⟨_, hmem, hl⟩⟩
  ·have hl : (a[i] ++ b[j]).length ≤ 256 := by simp only [decide_eq_false_iff_not] at hc2; omega
   rw [key_eq (by omega)]
   simp only [Option.bind_some]
   simp only at g2
   obtain ⟨c1, c2, c3, c4, c5, c6, c7⟩ := g2
   have hP : ∀ x, x ∈ prodW (a.take i) b ++ (b.take (j + 1)).map (fun v => a[i] ++ v) ↔ x ∈ out ∨ x = a[i] ++ b[j] := by
    intro x
    rw [c2, List.take_add_one, hy, List.map_append, ← List.append_assoc, List.mem_append]
    simp
   have hsub : ∀ x ∈ out, x ∈ prodW a b := by
    intro x hx
    rcases List.mem_append.1 ((c2 x).1 hx) with q | q
    ·obtain ⟨u, q1, v, q2, rfl⟩ := mem_prodW.1 q
     exact mem_prodW.2 ⟨u, List.mem_of_mem_take q1, v, q2, rfl⟩
    ·obtain ⟨v, q2, rfl⟩ := List.mem_map.1 q
     exact mem_prodW.2 ⟨_, List.getElem_mem hi, v, List.mem_of_mem_take q2, rfl⟩
   have hkey : (mget seen (keyW (a[i] ++ b[j]))).getD false = true ↔ a[i] ++ b[j] ∈ out := by
    rw [c7]
    constructor
    ·rintro ⟨x, q1, q2⟩
     rw [keyW_inj (prod_sym ha hb (hsub x q1)) (prod_sym ha hb hmem) q2] at q1
     exact q1
    ·intro q; exact ⟨_, q, rfl⟩
   by_cases hin : a[i] ++ b[j] ∈ out
   ·rw [hkey.2 hin]
    simp only [Bool.not_true, cond_false]
    unfold tries_Concat_J5
    have d1 : decide (((out.length : Nat) : Int) > 4096) = false := by simp; omega
    have d2 : decide (m > 65536) = false := by rw [c6]; simp; omega
    simp only [d1, d2, cond_false]
    rw [hj2, ret_some]
    refine ⟨⟨j + 1, rfl, hj, c1, fun x => ?_, c3, c4, c5, c6, c7⟩, by simp only [Int.toNat_natCast]; omega⟩
    rw [hP]
    constructor
    ·intro q; exact .inl q
    ·rintro (q | rfl)
     ·exact q
     ·exact hin
   ·have hf : (mget seen (keyW (a[i] ++ b[j]))).getD false = false := by
     cases hq : (mget seen (keyW (a[i] ++ b[j]))).getD false
     ·rfl
     ·exact absurd (hkey.1 hq) hin
    rw [hf]
    simp only [Bool.not_false, cond_true]
    rw [gdT (by simp only [List.length_singleton]; omega)]
    have hnd : (out ++ [a[i] ++ b[j]]).Nodup := by
     rw [List.nodup_append]
     exact ⟨c1, by simp, fun x hx y hy => by simp at hy; subst hy; exact fun e => hin (e ▸ hx)⟩
    have hss : ∀ x ∈ out ++ [a[i] ++ b[j]], x ∈ srt (prodW a b) := fun x hx => mem_srt.2 (by
     rcases List.mem_append.1 hx with q | q
     ·exact hsub x q
     ·simp at q; subst q; exact hmem)
    obtain ⟨s1, s2⟩ := sub_le hnd hss
    have hsy : syms (out ++ [a[i] ++ b[j]]) = syms out + (a[i] ++ b[j]).length := by rw [syms_append]; simp [syms]
    have hm : w64 (m + (((a[i] ++ b[j]).length : Nat) : Int)) = ((syms (out ++ [a[i] ++ b[j]]) : Nat) : Int) := by
     rw [c6, hsy, w64_in (by omega) (by omega)]; omega
    rw [hm]
    unfold tries_Concat_J5
    rw [ret_bif]
    refine ⟨fun hc3 => ?_, fun hc3 => ?_⟩
    ·rw [ret_some]
     refine ⟨rfl, .inr (.inl ?_)⟩
     simp only [decide_eq_true_eq] at hc3
     omega
    ·rw [ret_bif]
     refine ⟨fun hc4 => ?_, fun hc4 => ?_⟩
     ·rw [ret_some]
      refine ⟨rfl, .inr (.inr ?_)⟩
      simp only [decide_eq_true_eq] at hc4
      omega
     ·rw [hj2, ret_some]
      simp only [decide_eq_false_iff_not] at hc3 hc4
      refine ⟨⟨j + 1, rfl, hj, hnd, fun x => ?_, fun x hx => ?_, by simp only; omega, by simp only; omega, rfl, fun k => ?_⟩, by simp only [Int.toNat_natCast]; omega⟩
      ·rw [hP]; simp
      ·rcases List.mem_append.1 hx with q | q
       ·exact c3 x q
       ·simp at q; subst q; exact hl
      ·rw [mget_mset]
       by_cases hk : keyW (a[i] ++ b[j]) = k
       ·rw [if_pos hk]
        simp only [Option.getD_some, true_iff]
        exact ⟨_, by simp, hk⟩
       ·rw [if_neg hk, c7]
        constructor
        ·rintro ⟨x, q1, q2⟩; exact ⟨x, by simp [q1], q2⟩
        ·rintro ⟨x, q1, q2⟩
         rcases List.mem_append.1 q1 with q | q
         ·exact ⟨x, q, q2⟩
         ·simp at q; subst q; exact absurd q2 hk
 ·have hj : j = b.length := by
   have : ¬ j < b.length := by simpa using hc
   omega
  rw [ret_some]
  show CI (prodW (a.take (i + 1)) b) seen m out
  rw [prodW_succ hi]
  simp only [hj, List.take_length] at g2
  exact g2
theorem tConcat_eq0 : Ret (tries_Concat a b n) fun r => badC a b ∧ r = ([], 3) ∨ ¬ badC a b ∧ r = (srt (prodW a b), 0) := by
 obtain ⟨a1, a2, _⟩ := ch_small ha
 obtain ⟨b1, b2, _⟩ := ch_small hb
 unfold tries_Concat
 rw [both_eq, boE_zero.2 ⟨ha, hb⟩]
 simp only [Option.bind_some, bne_self_eq_false, cond_false]
 rw [ret_bind]
 refine Ret.mono (ret_loop (fun q => ∃ i : Nat, q.2.2.2 = (i : Int) ∧ i ≤ a.length ∧ CI (prodW (a.take i) b) q.1 q.2.1 q.2.2.1) (fun q => a.length - q.2.2.2.toNat) (R := fun t : List (List Int) ⊕ (List (List Int) × Int) => match t with | .inl out => ∃ seen m, CI (prodW a b) seen m out | .inr p => p = ([], 3) ∧ badC a b) ?_ ?_ ?_) ?_
 ·refine ⟨0, rfl, Nat.zero_le _, List.nodup_nil, fun x => by simp [prodW], by simp, by simp, by simp [syms], by simp [syms], fun k => ?_⟩
  simp [mget]
 ·show a.length - _ < _
  omega
 ·rintro ⟨seen, m, out, _⟩ ⟨i, rfl, g1, g2⟩
  show Ret (tries_Concat_L2 a b seen m out (i : Int)) _
  unfold tries_Concat_L2
  rw [ret_bif]
  refine ⟨fun hc => ?_, fun hc => ?_⟩
  ·have hi : i < a.length := by simpa using hc
   have hx : a[i]? = some a[i] := List.getElem?_eq_getElem hi
   rw [idx_some hx]
   simp only [Option.bind_some]
   rw [ret_bind]
   refine (conc_in ha hb hi g2).mono ?_
   rintro (p | p) hp
   ·show Ret (tries_Concat_J3 (i : Int) p.1 p.2.1 p.2.2) _
    unfold tries_Concat_J3
    rw [w64_in (by omega) (by omega), ret_some]
    exact ⟨⟨i + 1, rfl, hi, hp⟩, by simp only; omega⟩
   ·show Ret (some (LR.done (Sum.inr p))) _
    rw [ret_some]
    exact hp
  ·have hi : i = a.length := by
    have : ¬ i < a.length := by simpa using hc
    omega
   rw [ret_some]
   refine ⟨seen, m, ?_⟩
   simp only [hi, List.take_length] at g2
   exact g2
 ·rintro (out | p) hp
  ·obtain ⟨seen, m, c1, c2, c3, c4, c5, _⟩ := hp
   show Ret (tries_Concat_J1 out) _
   unfold tries_Concat_J1
   rw [sorted_eq (by omega) (fun w hw => by have := c3 w hw; omega)]
   simp only [Option.bind_some]
   have hs : srt out = srt (prodW a b) := srt_congr c2
   have hp2 : out.Perm (srt (prodW a b)) := (List.perm_ext_iff_of_nodup c1 (srt_sw _).nodup).2 fun x => by rw [c2, mem_srt]
   have h1 := hp2.length_eq
   have h2 := syms_perm hp2
   unfold soR
   rw [hs, if_neg (by omega), ret_some]
   refine .inr ⟨?_, rfl⟩
   rintro (⟨w, q1, q2⟩ | q | q)
   ·have := c3 w ((c2 w).2 q1); omega
   ·omega
   ·omega
  ·show Ret (some p) _
   rw [ret_some]
   exact .inl ⟨hp.2, hp.1⟩
end
end Go.Own

namespace Go.Own
set_option linter.unusedVariables false
def Wd (n : Int) (L k : Nat) (l : List (List Int)) : Prop := SW l ∧ l.length ≤ L ∧ ∀ w ∈ l, w.length ≤ k ∧ ∀ c ∈ w, 0 ≤ c ∧ c < n
theorem Wd.ch {n : Int} {L k : Nat} {l : List (List Int)} (h : Wd n L k l) (hn : 1 ≤ n ∧ n ≤ 16) (hL : L ≤ 4096) (hk : k ≤ 256) (hLk : L * k ≤ 65536) : chE n l = 0 := by
 obtain ⟨h1, h2, h3⟩ := h
 refine chE_zero.2 ⟨loE_zero.2 ⟨hn, by omega, fun w hw => ⟨by have := (h3 w hw).1; omega, (h3 w hw).2⟩⟩, h1, ?_⟩
 exact Nat.le_trans (syms_mono h2 fun w hw => (h3 w hw).1) hLk
theorem Wd.take {n : Int} {L k : Nat} {l : List (List Int)} (h : Wd n L k l) (m : Nat) : Wd n m k (l.take m) :=
 ⟨h.1.sub (List.take_sublist _ _), by rw [List.length_take]; omega, fun w hw => h.2.2 w (List.mem_of_mem_take hw)⟩
theorem Wd.union {n : Int} {L M k : Nat} {l m : List (List Int)} (h : Wd n L k l) (g : Wd n M k m) : Wd n (L + M) k (srt (l ++ m)) := by
 refine ⟨srt_sw _, ?_, fun w hw => ?_⟩
 ·have := srt_len (l ++ m)
  rw [List.length_append] at this
  have := h.2.1
  have := g.2.1
  omega
 ·rcases List.mem_append.1 (mem_srt.1 hw) with q | q
  ·exact h.2.2 w q
  ·exact g.2.2 w q
theorem Wd.prod {n : Int} {L M k j : Nat} {l m : List (List Int)} (h : Wd n L k l) (g : Wd n M j m) : Wd n (L * M) (k + j) (srt (prodW l m)) := by
 refine ⟨srt_sw _, ?_, fun w hw => ?_⟩
 ·refine Nat.le_trans (srt_len _) ?_
  rw [prodW_len]
  exact Nat.mul_le_mul h.2.1 g.2.1
 ·obtain ⟨u, h1, v, h2, rfl⟩ := mem_prodW.1 (mem_srt.1 hw)
  have q1 := h.2.2 u h1
  have q2 := g.2.2 v h2
  refine ⟨by rw [List.length_append]; omega, fun c hc => ?_⟩
  rcases List.mem_append.1 hc with q | q
  ·exact q1.2 c q
  ·exact q2.2 c q
theorem wd_union {n : Int} {L M k : Nat} {l m : List (List Int)} (h : Wd n L k l) (g : Wd n M k m) (hn : 1 ≤ n ∧ n ≤ 16) (hL : L + M ≤ 4096) (hk : k ≤ 256) (hLk : (L + M) * k ≤ 65536) : tries_Union l m n = some (srt (l ++ m), 0) := by
 have e1 : L * k ≤ (L + M) * k := Nat.mul_le_mul_right _ (by omega)
 have e2 : M * k ≤ (L + M) * k := Nat.mul_le_mul_right _ (by omega)
 have hb := boE_zero.2 ⟨h.ch hn (by omega) hk (by omega), g.ch hn (by omega) hk (by omega)⟩
 have hu := h.union g
 have hs : syms (srt (l ++ m)) ≤ 65536 := Nat.le_trans (syms_mono hu.2.1 fun w hw => (hu.2.2 w hw).1) hLk
 rw [tUnion_eq, if_neg (fun q => q hb)]
 unfold soR
 rw [if_neg (by have := hu.2.1; omega)]
theorem wd_concat {n : Int} {L M k j : Nat} {l m : List (List Int)} (h : Wd n L k l) (g : Wd n M j m) (hn : 1 ≤ n ∧ n ≤ 16) (h1 : chE n l = 0) (h2 : chE n m = 0) (hL : L * M ≤ 4096) (hk : k + j ≤ 256) (hLk : (L * M) * (k + j) ≤ 65536) : tries_Concat l m n = some (srt (prodW l m), 0) := by
 obtain ⟨r, hr, hc⟩ := tConcat_eq0 h1 h2
 have hu := h.prod g
 have hs : syms (srt (prodW l m)) ≤ 65536 := Nat.le_trans (syms_mono hu.2.1 fun w hw => (hu.2.2 w hw).1) hLk
 rcases hc with ⟨q, _⟩ | ⟨_, rfl⟩
 ·rcases q with ⟨w, q1, q2⟩ | q | q
  ·have := (hu.2.2 w (mem_srt.2 q1)).1; omega
  ·have := hu.2.1; omega
  ·omega
 ·exact hr
theorem alpha_eq {x : S_law12_L} (h : 0 ≤ x.Inputs ∧ x.Inputs ≤ 255) : ∃ n : Int, law12_L_Alphabet x = some n ∧ 1 ≤ n ∧ n ≤ 3 := by
 unfold law12_L_Alphabet
 rw [gdT (by omega)]
 have e : Int.tmod x.Inputs 3 = x.Inputs % 3 := Int.tmod_eq_emod_of_nonneg h.1
 refine ⟨_, rfl, ?_, ?_⟩
 ·rw [e, w64_in (x := x.Inputs % 3) (by omega) (by omega), w64_in (by omega) (by omega)]; omega
 ·rw [e, w64_in (x := x.Inputs % 3) (by omega) (by omega), w64_in (by omega) (by omega)]; omega
theorem raw_word {x : S_law12_L} {n : Int} (hn : law12_L_Alphabet x = some n) (h1 : 1 ≤ n ∧ n ≤ 3) (hw : ∀ w ∈ x.Words, ∀ c ∈ w, 0 ≤ c ∧ c ≤ 255) {i : Nat} (hi : i < x.Words.length) :
  Ret (loop (fun s => law12_L_Raw_L5 x (i : Int) s.1 s.2) (([] : List Int), 0)) fun w => w.length ≤ 12 ∧ ∀ c ∈ w, 0 ≤ c ∧ c < n := by
 refine ret_loop (fun q => ∃ k : Nat, q.2 = (k : Int) ∧ q.1.length = k ∧ k ≤ 12 ∧ ∀ c ∈ q.1, 0 ≤ c ∧ c < n) (fun q => 12 - q.2.toNat) ⟨0, rfl, rfl, by omega, by simp⟩ (by show 12 - _ < _; omega) ?_
 rintro ⟨w, _⟩ ⟨k, rfl, g1, g2, g3⟩
 simp only at g1 g3
 show Ret (law12_L_Raw_L5 x (i : Int) w (k : Int)) _
 unfold law12_L_Raw_L5
 have hx : x.Words[i]? = some x.Words[i] := List.getElem?_eq_getElem hi
 rw [idx_some hx, Option.bind_some, ret_bif]
 have fin : w.length ≤ 12 ∧ ∀ c ∈ w, 0 ≤ c ∧ c < n := ⟨by omega, g3⟩
 refine ⟨fun hc => ?_, fun hc => ret_some.2 fin⟩
 rw [ret_bif]
 refine ⟨fun hc2 => ?_, fun hc2 => ret_some.2 fin⟩
 have hk : k < x.Words[i].length := by simpa using hc
 have hk2 : k < 12 := by simp only [decide_eq_true_eq] at hc2; omega
 have hy : (x.Words[i])[k]? = some (x.Words[i])[k] := List.getElem?_eq_getElem hk
 obtain ⟨b1, b2⟩ := hw _ (List.getElem_mem hi) _ (List.getElem_mem hk)
 rw [Option.bind_some, idx_some hy, Option.bind_some, hn, Option.bind_some, gdT (by omega), gdT (by simp; omega), w64_in (x := (k : Int) + 1) (by omega) (by omega), ret_some]
 refine ⟨⟨k + 1, rfl, by simp [g1], by omega, fun c hc => ?_⟩, by simp only; omega⟩
 rcases List.mem_append.1 hc with q | q
 ·exact g3 c q
 ·simp at q
  subst q
  rw [w64_in (by omega) (by omega), Int.tmod_eq_emod_of_nonneg b1]
  exact ⟨Int.emod_nonneg _ (by omega), Int.emod_lt_of_pos _ (by omega)⟩
theorem of_ret {x : S_law12_L} {n : Int} (hn : law12_L_Alphabet x = some n) (h1 : 1 ≤ n ∧ n ≤ 3) (hw : ∀ w ∈ x.Words, ∀ c ∈ w, 0 ≤ c ∧ c ≤ 255) : Ret (law12_L_Of x) (Wd n 40 12) := by
 have hraw : Ret (law12_L_Raw x) fun r => r.length ≤ 40 ∧ ∀ w ∈ r, w.length ≤ 12 ∧ ∀ c ∈ w, 0 ≤ c ∧ c < n := by
  unfold law12_L_Raw
  rw [ret_bind]
  refine Ret.mono (ret_loop (fun q => ∃ k : Nat, q.2 = (k : Int) ∧ q.1.length = k ∧ k ≤ 40 ∧ ∀ w ∈ q.1, w.length ≤ 12 ∧ ∀ c ∈ w, 0 ≤ c ∧ c < n) (fun q => 40 - q.2.toNat) (R := fun r : List (List Int) => r.length ≤ 40 ∧ ∀ w ∈ r, w.length ≤ 12 ∧ ∀ c ∈ w, 0 ≤ c ∧ c < n) ⟨0, rfl, rfl, by omega, by simp⟩ (by show 40 - _ < _; omega) ?_) fun r hr => ret_some.2 hr
  rintro ⟨out, _⟩ ⟨k, rfl, g1, g2, g3⟩
  simp only at g1 g3
  show Ret (law12_L_Raw_L2 x out (k : Int)) _
  unfold law12_L_Raw_L2
  have fin : out.length ≤ 40 ∧ ∀ w ∈ out, w.length ≤ 12 ∧ ∀ c ∈ w, 0 ≤ c ∧ c < n := ⟨by omega, g3⟩
  rw [ret_bif]
  refine ⟨fun hc => ?_, fun hc => ret_some.2 fin⟩
  rw [ret_bif]
  refine ⟨fun hc2 => ?_, fun hc2 => ret_some.2 fin⟩
  have hk : k < x.Words.length := by simpa using hc
  have hk2 : k < 40 := by simp only [decide_eq_true_eq] at hc2; omega
  rw [ret_bind]
  refine (raw_word hn h1 hw hk).mono fun w hww => ?_
  unfold law12_L_Raw_J4 law12_L_Raw_J3
  rw [gdT (by simp; omega), w64_in (by omega) (by omega), ret_some]
  refine ⟨⟨k + 1, rfl, by simp [g1], by omega, fun v hv => ?_⟩, by simp only; omega⟩
  rcases List.mem_append.1 hv with q | q
  ·exact g3 v q
  ·simp at q
   subst q
   exact hww
 unfold law12_L_Of
 rw [ret_bind]
 refine hraw.mono fun r hr => ?_
 rw [rSort_eq (by omega) (fun w hw => by have := (hr.2 w hw).1; omega), Option.bind_some, ret_some]
 exact ⟨srt_sw _, Nat.le_trans (srt_len _) hr.1, fun w hw => hr.2 w (mem_srt.1 hw)⟩
theorem mn12 (l : List (List Int)) : (l.drop 0).take ((mn ((l.length : Nat) : Int) 12).toNat - 0) = l.take 12 := by
 rw [List.drop_zero, Nat.sub_zero]
 unfold mn
 by_cases h : ((l.length : Nat) : Int) ≤ 12
 ·have h1 : ∀ m : Nat, l.length ≤ m → l.take m = l := fun m hm => List.take_of_length_le hm
  rw [h1 12 (by omega), h1 _ (by split <;> omega)]
 ·have : (if ((l.length : Nat) : Int) ≤ 12 then ((l.length : Nat) : Int) else 12) = 12 := if_neg h
  congr 1
  split <;> omega
theorem same_of {n : Int} {L k : Nat} {a b : List (List Int)} (h : Wd n L k a) (hL : L ≤ 1000000) (hk : k ≤ 1000000) (e : a = b) : law12_same a b = some true := by
 rw [same_eq a b (by have := h.2.1; omega) (fun w hw => by have := (h.2.2 w hw).1; omega), decide_eq_true e]
theorem mnb (l : List (List Int)) : (0 : Int) ≤ 0 ∧ (0 : Int) ≤ mn ((l.length : Nat) : Int) 12 ∧ mn ((l.length : Nat) : Int) 12 ≤ ((l.length : Nat) : Int) := by
 unfold mn
 split <;> omega
theorem sets_true {x : S_law12_L} {words : List (List Int)} (hI : 0 ≤ x.Inputs ∧ x.Inputs ≤ 255) (hw : ∀ w ∈ x.Words, ∀ c ∈ w, 0 ≤ c ∧ c ≤ 255) (hw2 : ∀ w ∈ words, ∀ c ∈ w, 0 ≤ c ∧ c ≤ 255) : law12_TriesSets x words = some true := by
 obtain ⟨n, hn, n1, n2⟩ := alpha_eq hI
 have hn2 : law12_L_Alphabet (S_law12_L.mk x.Inputs words) = some n := hn
 obtain ⟨l, hl, wl⟩ := of_ret hn ⟨n1, n2⟩ hw
 obtain ⟨m, hm, wm⟩ := of_ret (x := S_law12_L.mk x.Inputs words) hn2 ⟨n1, n2⟩ hw2
 have nn : 1 ≤ n ∧ n ≤ 16 := ⟨n1, by omega⟩
 have cl := wl.ch nn (by omega) (by omega) (by omega)
 have cm := wm.ch nn (by omega) (by omega) (by omega)
 have wl' := wl.take 12
 have wm' := wm.take 12
 have cl' := wl'.ch nn (by omega) (by omega) (by omega)
 have cm' := wm'.ch nn (by omega) (by omega) (by omega)
 have hU := wd_union wl wm nn (by omega) (by omega) (by omega)
 have hM : tries_Minus l m n = some (l.filter fun x => !decide (x ∈ m), 0) := by rw [tMinus_eq, if_neg (fun q => q (boE_zero.2 ⟨cl, cm⟩))]
 have wM : Wd n 40 12 (l.filter fun x => !decide (x ∈ m)) := ⟨wl.1.sub List.filter_sublist, Nat.le_trans List.filter_sublist.length_le wl.2.1, fun w hw => wl.2.2 w (List.filter_sublist.subset hw)⟩
 have hrU := rUnion_eq (a := l) (b := m) (by have := wl.2.1; omega) (by have := wm.2.1; omega) (fun w hw => by have := (wl.2.2 w hw).1; omega) (fun w hw => by have := (wm.2.2 w hw).1; omega)
 have hrM := rMinus_eq (a := l) (b := m) (by have := wl.2.1; omega) (by have := wm.2.1; omega) (fun w hw => by have := (wl.2.2 w hw).1; omega)
 have hC := wd_concat wl' wm' nn cl' cm' (by omega) (by omega) (by omega)
 have wC := wl'.prod wm'
 have hU2 := wd_union wl' wm' nn (by omega) (by omega) (by omega)
 have wU2 := wl'.union wm'
 have cU2 := wU2.ch nn (by omega) (by omega) (by omega)
 have hD := wd_concat wU2 wm' nn cU2 cm' (by omega) (by omega) (by omega)
 have wD := wU2.prod wm'
 have hH := wd_concat wm' wm' nn cm' cm' (by omega) (by omega) (by omega)
 have wH := wm'.prod wm'
 have hK := wd_union wC wH nn (by omega) (by omega) (by omega)
 have w1 : Wd n 1 0 [[]] := ⟨by simp [SW], by simp, fun w hw => by simp at hw; subst hw; simp⟩
 have c1 := w1.ch nn (by omega) (by omega) (by omega)
 have hO := wd_concat w1 wm' nn c1 cm' (by omega) (by omega) (by omega)
 have wO := w1.prod wm'
 have hrC := rConcat_eq (a := l.take 12) (b := m.take 12) (by have := Nat.mul_le_mul wl'.2.1 wm'.2.1; omega) (by have := wl'.2.1; omega) (by have := wm'.2.1; omega) (fun w hw => by have := (wl'.2.2 w hw).1; omega) (fun w hw => by have := (wm'.2.2 w hw).1; omega)
 have e1 : srt (prodW (srt (l.take 12 ++ m.take 12)) (m.take 12)) = srt (srt (prodW (l.take 12) (m.take 12)) ++ srt (prodW (m.take 12) (m.take 12))) := by
  refine srt_congr fun y => ?_
  rw [mem_prodW, List.mem_append, mem_srt, mem_srt, mem_prodW, mem_prodW]
  constructor
  ·rintro ⟨u, q1, v, q2, rfl⟩
   rcases List.mem_append.1 (mem_srt.1 q1) with q | q
   ·exact .inl ⟨u, q, v, q2, rfl⟩
   ·exact .inr ⟨u, q, v, q2, rfl⟩
  ·rintro (⟨u, q1, v, q2, rfl⟩ | ⟨u, q1, v, q2, rfl⟩)
   ·exact ⟨u, mem_srt.2 (by simp [q1]), v, q2, rfl⟩
   ·exact ⟨u, mem_srt.2 (by simp [q1]), v, q2, rfl⟩
 have e2 : srt (prodW [[]] (m.take 12)) = m.take 12 := by
  have : prodW [[]] (m.take 12) = m.take 12 := by simp [prodW]
  rw [this, srt_of_sw wm'.1]
 have b0 : ((0 : Int) != 0) = false := bne_self_eq_false 0
 unfold law12_TriesSets law12_list
 rw [lives_true, hl, Option.bind_some, hm, Option.bind_some, hn, Option.bind_some, hU, Option.bind_some, hM, Option.bind_some, b0, cond_false, cond_false, hrU, Option.bind_some, same_of (wl.union wm) (by omega) (by omega) rfl, Option.bind_some, Bool.not_true, cond_false, hrM, Option.bind_some, same_of wM (by omega) (by omega) rfl, Option.bind_some, Bool.not_true, cond_false, gdT (mnb l), gdT (mnb m), mn12, mn12, hC, Option.bind_some, hU2, Option.bind_some, hD, Option.bind_some, hH, Option.bind_some, hK, Option.bind_some, Option.bind_some, hO, Option.bind_some, b0, cond_false, cond_false, cond_false, cond_false, cond_false, cond_false, hrC, Option.bind_some, same_of wC (by omega) (by omega) rfl, Option.bind_some, cond_true, same_of wD (by omega) (by omega) e1, Option.bind_some, cond_true, same_of wO (by omega) (by omega) e2, Option.bind_some, cond_true, Option.bind_some]
end Go.Own

namespace Go.Own
def Ok5 (a : Int) : Prop := (0) ≤ a ∧ a ≤ 255
def Ok98 (l : List Int) : Prop := ∀ a ∈ l, Ok5 a
def Ok33 (l : List (List Int)) : Prop := ∀ a ∈ l, Ok98 a
def Ok35 (a : S_law12_L) : Prop := Ok5 a.Inputs ∧ Ok33 a.Words
end Go.Own

namespace Go.Own
theorem law_true {x : S_law12_L} {ws : List (List Int)} (hx : Ok35 x) (hw : Ok33 ws) : law12_TriesSets x ws = some true := sets_true hx.1 hx.2 hw
end Go.Own

namespace Go.Own
def allS (w : World) : Still := fun b o => cellAt w.heap b o
theorem cell_at {w : World} {a : Addr} {v : Value} (h : w.cell? a = some v) : a.spot = none ∧ cellAt w.heap a.block a.off = some v := by
 unfold World.cell? at h
 unfold cellAt
 split at h
 ·rename_i c ty fr he
  rw [he]
  split at h
  ·cases h
  ·rename_i hs
   exact ⟨by simpa using hs, h⟩
 ·cases h
section
variable {H : Type} {enc : TypeId × Value → H} {P : Program} {w : World} {base : Nat} {spare : Nat → Bool} {held : Bool}
theorem cells_lie {a : Addr} {n : Nat} {cs : List Value} (h : w.cells? base a n = some cs) (hn : 0 < n) : a.spot = none ∧ cs.length = n ∧ Lies (allS w) a.block a.off cs := by
 obtain ⟨_, h2, h3⟩ := World.cells?_some h
 have h0 : a.spot = none := by
  have h4 := h3 0 hn
  cases hc : cs[0]? with
  | none => rw [List.getElem?_eq_none_iff] at hc; omega
  | some v =>
   rw [hc] at h4
   have := (cell_at h4).1
   simpa [Addr.add] using this
 refine ⟨h0, h2, fun j v hj => ?_⟩
 have hlt := (List.getElem?_eq_some_iff.1 hj).1
 have h4 := h3 j (by omega)
 rw [hj] at h4
 have q := (cell_at h4).2
 unfold Addr.add at q
 split at q
 ·rename_i e; subst e; exact q
 ·exact q
theorem reps_snoc {S : Still} : ∀ {bs : List A} {cs : List Value} {a : A} {c : List Value}, Reps S bs cs → Rep S a c → Reps S (bs ++ [a]) (cs ++ c)
 | [], cs, a, c, h1, h2 => by
  simp only [Reps] at h1
  subst h1
  simp only [List.nil_append, Reps]
  exact ⟨c, [], by simp, h2, rfl⟩
 | x :: bs, cs, a, c, h1, h2 => by
  simp only [Reps] at h1
  obtain ⟨c1, c2, rfl, r1, r2⟩ := h1
  simp only [List.cons_append, Reps]
  exact ⟨c1, c2 ++ c, by simp, r1, reps_snoc r2 h2⟩
theorem lies_app {S : Still} {b o : Nat} {c1 c2 : List Value} (h1 : Lies S b o c1) (h2 : Lies S b (o + c1.length) c2) : Lies S b o (c1 ++ c2) := by
 intro j v hj
 rcases Nat.lt_or_ge j c1.length with q | q
 ·rw [List.getElem?_append_left q] at hj
  exact h1 j v hj
 ·rw [List.getElem?_append_right q] at hj
  have := h2 _ _ hj
  rwa [show o + c1.length + (j - c1.length) = o + j by omega] at this
theorem slice_rep {α : Type} {t e sz : Nat} (f : α → A) (ok : α → Prop) (ht : P.underlying t = some (.slice e)) (hsz : P.cellsOf e = sz) (h0 : 0 < sz) (hf : ∀ a, (f a).size = sz)
    (hel : ∀ n cs x, DataW.trod enc P w base spare held n e cs = some x → ∃ a, ok a ∧ Rep (allS w) (f a) cs)
    {fuel : Nat} {cs : List Value} {x : DataW H × List MemPlace} (h : DataW.trod enc P w base spare held fuel t cs = some x) : ∃ l : List α, (∀ a ∈ l, ok a) ∧ Rep (allS w) (.sl sz false (l.map f)) cs := by
  rcases DataW.trod_slice ht h with ⟨rfl, _⟩ | ⟨a, len, cap, elems, rest, n, _, rfl, _, _, hlc, _, hlen, hall, _, _⟩
  · refine ⟨[], by simp, ?_⟩
    simp only [Rep, List.map_nil, List.length_nil]
    exact ⟨none, 0, rfl, by simp, Nat.le_refl _, by simp, .inl trivial⟩
  · have key : ∀ k, k ≤ len → ∃ (l : List α) (cells : List Value), l.length = k ∧ (∀ a ∈ l, ok a) ∧ Reps (allS w) (l.map f) cells ∧ cells.length = k * sz ∧ (0 < k → a.spot = none) ∧ Lies (allS w) a.block a.off cells := by
      intro k
      induction k with
      | zero => intro _; exact ⟨[], [], rfl, by simp, by simp [Reps], by simp, by simp, fun j v h => by simp at h⟩
      | succ k ih =>
        intro hk
        obtain ⟨l, cells, q1, q2, q3, q4, q5, q6⟩ := ih (by omega)
        have hk' := hall k (by omega)
        have hsome : elems[k]? = some elems[k] := List.getElem?_eq_getElem (by omega)
        rw [hsome, Option.bind_eq_some_iff, hsz] at hk'
        obtain ⟨c, hc, htr⟩ := hk'
        obtain ⟨y, hy, hr⟩ := hel _ _ _ htr
        obtain ⟨g1, g2, g3⟩ := cells_lie hc h0
        refine ⟨l ++ [y], cells ++ c, by simp [q1], ?_, ?_, ?_, ?_, ?_⟩
        · intro z hz
          rcases List.mem_append.1 hz with q | q
          · exact q2 z q
          · simp only [List.mem_cons, List.not_mem_nil, or_false] at q; subst q; exact hy
        · rw [List.map_append]; exact reps_snoc q3 hr
        · rw [List.length_append, q4, g2, Nat.succ_mul]
        · intro _
          rcases Nat.eq_zero_or_pos k with rfl | hk0
          · simpa [Addr.add] using g1
          · exact q5 hk0
        · refine lies_app q6 ?_
          rw [q4]
          unfold Addr.add at g3
          split at g3
          · rename_i e0
            rw [e0, Nat.add_zero]
            exact g3
          · exact g3
    obtain ⟨l, cells, q1, q2, q3, q4, q5, q6⟩ := key len (Nat.le_refl _)
    refine ⟨l, q2, ?_⟩
    simp only [Rep, List.length_map]
    refine ⟨some a, cap, by rw [q1], by simp, by omega, ?_, ?_⟩
    · intro y hy
      obtain ⟨z, _, rfl⟩ := List.mem_map.1 hy
      exact hf z
    · rcases Nat.eq_zero_or_pos len with rfl | hl
      · left; rw [List.length_eq_zero_iff.1 q1]; rfl
      · right
        refine ⟨a.block, a.off, cells, ?_, q3, q6⟩
        have := q5 hl
        obtain ⟨b, o, s⟩ := a
        simp only at this
        subst this
        rfl
theorem int_rep {t : Nat} {k : IntKind} {lo hi : Int} (ht : P.underlying t = some (.int k)) (hlo : k.min = lo) (hhi : k.max = hi) {fuel : Nat} {cs : List Value} {x : DataW H × List MemPlace} (h : DataW.trod enc P w base spare held fuel t cs = some x) :
  ∃ n : Int, (lo ≤ n ∧ n ≤ hi) ∧ cs = [.int k n] ∧ Rep (allS w) (.atom (.int k n)) cs := by
 obtain ⟨n, rfl, _, hw⟩ := DataW.trod_int ht h
 simp only [Lit.wf, Bool.and_eq_true, decide_eq_true_eq, hlo, hhi] at hw
 exact ⟨n, hw, rfl, by simp only [Rep]; exact ⟨trivial, rfl⟩⟩
theorem struct_fields {t : Nat} {fs : List Field} (ht : P.underlying t = some (.struct ⟨fs⟩)) {fuel : Nat} {cs : List Value} {x : DataW H × List MemPlace} (h : DataW.trod enc P w base spare held fuel t cs = some x) :
  cs.length = P.cellsOf t ∧ ∀ (i : Nat) (f : Field), fs[i]? = some f → ∃ n y, DataW.trod enc P w base spare held n f.type ((cs.drop f.offset).take (P.cellsOf f.type)) = some y := by
 obtain ⟨xs, n, _, _, hl, hxl, hall⟩ := DataW.trod_struct ht h
 refine ⟨hl, fun i f hf => ?_⟩
 have hlt := (List.getElem?_eq_some_iff.1 hf).1
 have := hall i f (by simpa using hf)
 rw [List.getElem?_eq_getElem (by rw [hxl]; simpa using hlt)] at this
 exact ⟨n, _, this⟩
end
theorem reps_take {S : Still} {a : A} {bs : List A} {cs : List Value} {n : Nat} (h1 : Rep S a (cs.take n)) (h2 : Reps S bs (cs.drop n)) : Reps S (a :: bs) cs := by
 simp only [Reps]
 exact ⟨cs.take n, cs.drop n, (List.take_append_drop n cs).symm, h1, h2⟩
end Go.Own

namespace Go.Own
set_option linter.unusedVariables false
section
open Go Go.ChangeShapes Go.WideShapes Go.ChangeAt Go.RowKit
theorem post_kept {P : Program} {H : Type} {enc : TypeId × Value → H} {f : Func} {s : ChangeSpec} {apart fresh handsOn again : Bool} {W W' : World} {args : Array Value} {v : Value} {ds : List (DataW H)} {pa : List MemPlace}
  (hvar : s.vars = []) (hvars2 : (s.fn H (ds ++ [])).vars = []) (hW : DataW.Whole enc P f.params.toList s.vars apart W args.toList ds [] (pa ++ [])) (hb : Below W.heap.size W W')
  (hres : ∀ (b : Nat) (sp : Nat → Bool) (hd : Bool), DataW.TrodAll enc P W' b sp hd f.resultTypes.toList (v.resultList f.resultTypes.size) (s.fn H (ds ++ [])).results [])
  (hargs : ∀ sp : Nat → Bool, (∀ p ∈ pa ++ [], sp p.block = true) → DataW.TrodAll enc P W' 0 sp true f.params.toList args.toList (s.fn H (ds ++ [])).args pa)
  (hok : ∀ (j : Nat) (t : TypeId) (r : Value), f.resultTypes[j]? = some t → (v.resultList f.resultTypes.size)[j]? = some r → Value.okWide P W' .any 0 t r) :
  s.post enc P f apart fresh handsOn again W args v W' := by
 have hlt : ∀ p ∈ pa ++ [], p.block < W.heap.size := fun p hp => by simpa using hW.lt p hp
 have hvr : ∀ sp : Nat → Bool, DataW.TrodVars enc P W' sp s.vars (s.fn H (ds ++ [])).vars [] := fun sp => by rw [hvar, hvars2]; rfl
 refine ⟨ds, [], pa ++ [], [], pa, [], hW, hres _ _ _, hargs _ (fun p hp => by simpa using hlt p hp), hvr _, World.keptBut_mono (fun _ q => q.elim) (hb.frame fun _ => False), fun _ => ?_⟩
 obtain ⟨_, _, _, _, _, hz, hn⟩ := hW
 refine ⟨hok, _, _, ([] ++ pa) ++ [], ⟨[] ++ pa, [], trodAll_append (hargs _ (fun _ _ => rfl)) (hres _ _ _), hvr _, rfl, ?_, ?_⟩, ?_⟩
 ·intro b off hp
  have hp' : MemPlace.cell b off ∈ pa ++ [] := by simpa using hp
  rw [hb.frozen (p := ⟨b, off, none⟩) (hlt _ hp')]
  exact hz b off hp'
 ·intro ha
  simpa using hn ha
 ·intro p hp _
  simpa using hp
end
theorem spF_call {P : Program} {k : Nat} {α ρ : Type} {enc : α → List A} {encR : ρ → A} {F : α → Option ρ} {gives : List Bool} {inj : ∀ x y, enc x = enc y → x = y} (h : (spF k enc encR F gives inj).Ok P) {x : α} {r : ρ} (hr : F x = some r) : CallOk P k (enc x) (encR r) := by
 have := h x ⟨r, hr⟩
 simpa only [spF, hr] using this
section
variable {P : Program} {w : World} {r : Reach} {base t : Nat} {v : Value}
theorem val_plain (h : ∀ cs, v ≠ .agg cs) : v = v.cells.toList.headD undef := by
 cases v <;> first | rfl | exact (h _ rfl).elim
theorem val_slice {e : TypeId} (hu : P.underlying t = some (.slice e)) (h : Value.okWide P w r base t v) : v = v.cells.toList.headD undef := by
 refine val_plain fun cs e => ?_
 subst e
 unfold Value.okWide at h
 rw [hu] at h
 simp only [Cell.okWide, hu, Cell.ok] at h
theorem val_struct {fs : Array Field} (hu : P.underlying t = some (.struct fs)) (h : Value.okWide P w r base t v) : v = .agg v.cells.toList.toArray := by
 unfold Value.okWide at h
 rw [hu] at h
 obtain ⟨cs, rfl, _⟩ := h
 rfl
theorem rep1_slice {e : TypeId} {S : Still} {a : A} (hu : P.underlying t = some (.slice e)) (hr : Rep S a v.cells.toList) (h : Value.okWide P w r base t v) (ha : a.isAgg = false) : Rep1 S a v := ⟨_, hr, by cases a <;> first | exact val_slice hu h | cases ha⟩
theorem rep1_struct {fs : Array Field} {S : Still} {a : A} (hu : P.underlying t = some (.struct fs)) (hr : Rep S a v.cells.toList) (h : Value.okWide P w r base t v) (ha : a.isAgg = true) : Rep1 S a v := ⟨_, hr, by cases a <;> first | exact val_struct hu h | cases ha⟩
theorem has_true {S : Still} {h : Array Obj} {v : Value} {F : List Nat} (q : Has S h (.atom (.bool true)) v F) : v = .bool true := by
 rcases q with ⟨q, _⟩ | ⟨cs, q, _, rfl⟩
 ·rw [(repV_atom.1 q).1]
 ·simp only [Conc, Rep] at q
  obtain ⟨⟨rfl, _⟩, _⟩ := q
  rfl
end
end Go.Own

namespace Go.Own
open Go.Proofs
set_option linter.unusedVariables false
section
variable {H : Type} {enc : TypeId × Value → H} {w : World} {base : Nat} {spare : Nat → Bool} {held : Bool}
theorem cells5 : Try.prog.cellsOf 5 = 1 := by kernel_rfl
theorem rd5 {fuel : Nat} {cs : List Value} {x : DataW H × List MemPlace} (h : DataW.trod enc Try.prog w base spare held fuel 5 cs = some x) : ∃ a : Int, Ok5 a ∧ Rep (allS w) ((eI .u8) a) cs := by
 obtain ⟨n, h1, _, h2⟩ := int_rep Try.underlying5 (lo := 0) (hi := 255) rfl rfl h
 exact ⟨n, h1, h2⟩
theorem cells98 : Try.prog.cellsOf 98 = 1 := by kernel_rfl
theorem rd98 {fuel : Nat} {cs : List Value} {x : DataW H × List MemPlace} (h : DataW.trod enc Try.prog w base spare held fuel 98 cs = some x) : ∃ a : List Int, Ok98 a ∧ Rep (allS w) ((eSl 1 false (eI .u8)) a) cs := by
 exact slice_rep (eI .u8) Ok5 Try.underlying98 cells5 (by omega) (fun _ => rfl) (fun _ _ _ q => rd5 q) h
theorem cells33 : Try.prog.cellsOf 33 = 1 := by kernel_rfl
theorem rd33 {fuel : Nat} {cs : List Value} {x : DataW H × List MemPlace} (h : DataW.trod enc Try.prog w base spare held fuel 33 cs = some x) : ∃ a : List (List Int), Ok33 a ∧ Rep (allS w) ((eSl 1 false (eSl 1 false (eI .u8))) a) cs := by
 exact slice_rep (eSl 1 false (eI .u8)) Ok98 Try.underlying33 cells98 (by omega) (fun _ => rfl) (fun _ _ _ q => rd98 q) h
theorem cells35 : Try.prog.cellsOf 35 = 2 := by kernel_rfl
theorem rd35 {fuel : Nat} {cs : List Value} {x : DataW H × List MemPlace} (h : DataW.trod enc Try.prog w base spare held fuel 35 cs = some x) : ∃ a : S_law12_L, Ok35 a ∧ Rep (allS w) ((e_law12_L (eI .u8) (eSl 1 false (eSl 1 false (eI .u8)))) a) cs := by
 obtain ⟨hl, hf⟩ := struct_fields Try.underlying35 h
 rw [cells35] at hl
 obtain ⟨_, _, q0⟩ := hf 0 _ rfl
 obtain ⟨_, _, q1⟩ := hf 1 _ rfl
 simp only [cells33, cells5] at q0 q1
 obtain ⟨a0, k0, r0⟩ := rd5 q0
 obtain ⟨a1, k1, r1⟩ := rd33 q1
 refine ⟨⟨a0, a1⟩, ⟨k0, k1⟩, ?_⟩
 show Rep (allS w) (.agg [(eI .u8) a0, (eSl 1 false (eSl 1 false (eI .u8))) a1]) cs
 simp only [Rep]
 refine reps_take (n := 1) (by simpa [List.drop_drop] using r0) (reps_take (n := 1) (by simpa [List.drop_drop] using r1) ?_)
 simp only [List.drop_drop, Reps]
 exact List.drop_eq_nil_of_le (by omega)
end
end Go.Own
namespace Go.Proofs.Ytlejgipmepemjaa.triesSets
open Go Go.ChangeShapes Go.WideShapes Go.ChangeAt Go.RowKit
set_option linter.unusedVariables false
theorem own : ownKnob Try.prog.godebug = none := by kernel_rfl
theorem laidOut : laidOutB Try.prog = true := by kernel_rfl
section
variable {H : Type} {enc : TypeId × Value → H} {W : World}
set_option maxRecDepth 100000 in
theorem walk {base : Nat} {v0 : Value} {d0 : DataW H} {p0 : List MemPlace} {v1 : Value} {d1 : DataW H} {p1 : List MemPlace} (h0 : DataW.Trod enc Try.prog W 0 (fun _ => true) true 35 v0 d0 p0) (h1 : DataW.Trod enc Try.prog W 0 (fun _ => true) true 33 v1 d1 p1) (k0 : Value.okWide Try.prog W .any base (35 : Nat) v0) (k1 : Value.okWide Try.prog W .any base (33 : Nat) v1) :
  Calls Try.prog 10 #[v0, v1] W fun e w' => e = .returned (.bool true) ∧ Go.Own.Kept (fun k => W.heap.size ≤ k) W w' := by
 obtain ⟨n0, h0⟩ := h0
 obtain ⟨x0, o0, r0⟩ := Go.Own.rd35 h0
 obtain ⟨n1, h1⟩ := h1
 obtain ⟨x1, o1, r1⟩ := Go.Own.rd33 h1
 have q := (Go.Own.spF_call (Go.Own.ctrOf_call Go.Own.L63_ok List.mem_cons_self : Go.Own.sp_law12_TriesSets.Ok Try.prog) (x := (x0, x1)) (r := true) (Go.Own.law_true o0 o1)).2 (Go.Own.allS W) W [v0, v1] [] (fun _ _ _ h => h) ?_ (by simp)
 ·refine Calls.mono q ?_
  rintro e w' ⟨v, S', F', rfl, hk, _, _, _, hr, _, _⟩
  refine ⟨?_, hk.mono (by rintro k (h | h) <;> simp_all)⟩
  rw [Go.Own.has_true hr]
 ·refine Go.Own.all2_hass ?_
  have g0 : Go.Own.Rep1 (Go.Own.allS W) ((Go.Own.e_law12_L (Go.Own.eI .u8) (Go.Own.eSl 1 false (Go.Own.eSl 1 false (Go.Own.eI .u8)))) x0) v0 := Go.Own.rep1_struct (t := (35 : Nat)) Try.underlying35 r0 k0 rfl
  have g1 : Go.Own.Rep1 (Go.Own.allS W) ((Go.Own.eSl 1 false (Go.Own.eSl 1 false (Go.Own.eI .u8))) x1) v1 := Go.Own.rep1_slice (t := (33 : Nat)) Try.underlying33 r1 k1 rfl
  exact ⟨g0, g1, trivial⟩
end
set_option maxRecDepth 100000 in
theorem lifted (os : Os) (started : os.Started) (H : Type) (enc : TypeId × Value → H) :
  ReturnsInHanded {} Try.checked os 10 .any (Rows.triesSetsSpec.pre6 enc Try.prog Try.f10 Rows.triesSetsRow.domain false) (Rows.triesSetsSpec.post enc Try.prog Try.f10 false true false false) := by
 refine returnsInHanded_of_change (C := Try.checked) own started (by kernel_rfl) Try.func10
  (ChangeSpec.witness6 (enc := enc) (C := Try.checked) false ⟨#[], #[.agg #[.int .u8 0, .slice none 0 0], .slice none 0 0], []⟩ 8 (by kernel_rfl) (by kernel_rfl) (by kernel_rfl) (by kernel_rfl)) ?_
 intro W base args ds gs before hval0 hW hcnd _
 have hval : ∀ (j : Nat) t v, Try.f10.params[j]? = some t → args[j]? = some v → Value.okWide Try.prog W .any base t v := hval0
 have hW' := hW
 obtain ⟨p, q, hA0, hV, rfl, hfz, hnd⟩ := hW
 have hA : DataW.TrodAll enc Try.prog W 0 (fun _ => true) true Try.f10.params.toList args.toList ds p := hA0
 rw [Try.params10] at hA hval
 obtain ⟨v0, v1, d0, d1, p0, p1, rfl, rfl, rfl, h0, h1⟩ := trodAll_two hA
 obtain ⟨rfl, rfl⟩ := trodVars_none hV
 clear hA0 hval0
 refine (walk h0 h1 (hval 0 (35 : Nat) v0 rfl rfl) (hval 1 (33 : Nat) v1 rfl rfl)).mono fun e W' ⟨he, hk⟩ => ?_
 subst he
 have hb : Below W.heap.size W W' := ⟨hk.os, hk.tape, hk.output, hk.size, fun k q => hk.block k (by omega)⟩
 have hlt : ∀ x ∈ p0 ++ p1, x.block < W.heap.size := fun x hx => by simpa using hW'.lt x (by simpa using hx)
 refine ⟨_, rfl, Go.Own.post_kept rfl rfl hW' hb (fun _ _ _ => trodAll_cons_mk (shut_bool Try.underlying4 _) trodAll_mk0) (fun sp hsp => ?_) (ok_one (by kernel_rfl) rfl (okWide_bool_mk Try.underlying4 _))⟩
 have st : ∀ {t : Nat} {v : Value} {d : DataW H} {p' : List MemPlace}, DataW.Trod enc Try.prog W 0 (fun _ => true) true t v d p' → Try.prog.readableRec t = true → t < Try.prog.types.size → (∀ x ∈ p', x ∈ p0 ++ p1) → DataW.Trod enc Try.prog W' 0 sp true t v d p' := by
  intro t v d p' hd h1 h2 hp
  exact WideElems.Trod_stays laidOut h1 h2 hd (fun x hx => hb.same (hlt x (hp x hx))) (fun x hx => hsp x (by simpa using hp x hx))
 have := trodAll_mk2 (st h0 (by kernel_rfl) (of_decide_eq_true (by kernel_rfl)) (fun x hx => by simp [hx])) (st h1 (by kernel_rfl) (of_decide_eq_true (by kernel_rfl)) (fun x hx => by simp [hx]))
 rw [Try.params10]
 exact this
theorem over : Rows.triesSetsRow.holds Try.pinned (OpenSpec.ofChange Rows.triesSetsSpec) :=
 OpenClaim.holds_of_wide 10 Try.f10 rfl rfl rfl rfl rfl rfl rfl ⟨rfl, rfl, rfl, rfl, rfl⟩ rfl rfl rfl rfl rfl (by kernel_rfl) Try.func10 (by kernel_rfl)
  (of_decide_eq_true (by kernel_rfl)) (by unfold Func.isWrapper; first | (rw [if_pos (by decide +kernel)]; kernel_rfl) | (rw [if_neg (by decide +kernel)]; exact ⟨rfl, rfl⟩))
  (fun os started H enc _ => lifted os started H enc)
theorem proved : Rows.TriesSetsSaid :=
 over
#print axioms proved
end Go.Proofs.Ytlejgipmepemjaa.triesSets
